/- What maps do: a new one, what it has for a key, an entry more. Condition: none. -/
import Derived.Test.YtkchnhfeebkogaaAbA
import Derived.MapKept
import Derived.WideKeyRuns
set_option linter.all false
set_option maxRecDepth 100000
namespace Ab
open Go
variable {P : Program}
section
variable {C : Ctx} {H : Array Obj} {w : World}
theorem z3UU {t kt e : TypeId} (h : P.underlying t = some (.map kt e)) (w : World) : (underlying t).run P w = .ok (.map kt e) w := run_underlying h w
theorem zPkR {t : TypeId} (h : kindIs P t none = true) : ∃ i, P.info? t = some i ∧ P.cellsOf t = 1 := by
  have hs := zu6q h
  unfold sizeIs at hs
  cases hi : P.info? t with
  | none => simp [hi] at hs
  | some i =>
    simp [hi, kst] at hs
    exact ⟨i, rfl, by simp [Program.cellsOf, hi, hs]⟩
theorem zGTq {x : AV} (h : keyFits 0 x = true) : ∃ s, x = .int s := by
  cases x <;> first | exact ⟨_, rfl⟩ | (change false = true at h; cases h)
theorem zulL {x : AV} (h : keyFits 1 x = true) : ∃ s, x = .str s := by
  cases x <;> first | exact ⟨_, rfl⟩ | (change false = true at h; cases h)
theorem zsxV {n : Nat} {x : AV} (h : keyFits (n + 2) x = true) : ∃ l, x = .agg l ∧ l.length = n ∧ (eqInts l l).isSome = true := by
  cases x <;> first | (change false = true at h; cases h; done) | skip
  rename_i l
  change (l.length == n && (eqInts l l).isSome) = true at h
  simp only [Bool.and_eq_true, beq_iff_eq] at h
  exact ⟨l, rfl, h.1, h.2⟩
theorem zQXG {kt : TypeId} {kd : Nat} {x y : AV} {v u : Value} {b : Bool} (hk : keyIs P kt kd = true) (hf : keyFits kd x = true) (hx : VR C H x v) (hy : VR C H y u) (he : keyEq x y = some b) (w : World) : (Op.equal kt v u).run P w = .ok b w := by
  unfold Op.equal Op.maxDepth
  match kd, hk, hf with
  | 0, hk, hf =>
    have hu : P.underlying kt = some (.int .i64) := by
      unfold keyIs at hk
      split at hk <;> first | assumption | (rename_i h1 _; omega) | (cases hk)
    obtain ⟨a, rfl⟩ := zGTq hf
    cases y <;> simp only [keyEq, reduceCtorEq] at he
    rename_i c
    simp at he; subst he
    rw [hx.int_inv, hy.int_inv, show (10000 : Nat) = 9999 + 1 from rfl, run_equalIn_int w 9999 kt .i64 .i64 _ _ hu]
    congr 1
  | 1, hk, hf =>
    have hu : P.underlying kt = some .string := by
      unfold keyIs at hk
      split at hk <;> first | assumption | (rename_i h1 _; omega) | (cases hk)
    obtain ⟨a, rfl⟩ := zulL hf
    cases y <;> simp only [keyEq, reduceCtorEq] at he
    rename_i c
    simp at he; subst he
    unfold VR at hx hy
    rw [hx, hy, show (10000 : Nat) = 9999 + 1 from rfl, run_equalIn_string w 9999 kt _ _ hu]
    have e1 : ∀ s : List UInt8, ByteArray.toList ⟨s.toArray⟩ = s := fun s => by rw [ByteArray.toList_eq]
    rw [e1, e1]
    congr 1
    rw [Bool.eq_iff_iff]; simp
  | n + 2, hk, hf =>
    obtain ⟨xs, rfl, hf1, _⟩ := zsxV hf
    cases y <;> simp only [keyEq, reduceCtorEq] at he
    rename_i ys
    obtain ⟨Xs, Ys, rfl, rfl, hl, rfl⟩ := zj0W he
    obtain ⟨vs, rfl, hv1, _⟩ := hx
    obtain ⟨us, rfl, hv2, _⟩ := hy
    rw [z1Jy hv1, z1Jy hv2]
    have hXl : Xs.length = n := by simpa using hf1
    unfold keyIs at hk
    split at hk
    · rename_i e1 _; exact absurd e1 (by simp)
    · rename_i e1 _; exact absurd e1 (by simp)
    · rename_i n' fs e1 hu
      have e1 : n = n' := by omega
      subst e1
      simp only [Bool.and_eq_true, beq_iff_eq, Bool.not_eq_true'] at hk
      have hfo : P.fieldsOf kt = fs := by unfold Program.fieldsOf; rw [hu]
      rw [show (10000 : Nat) = 9999 + 1 from rfl, run_equalIn_struct w 9999 kt _ _ (by rw [hfo]; exact hu) hk.2, hfo]
      have := z4Sq (P := P) (d := 9998) (w := w) hl (fs := fs.toList) (o := 0) hk.1.2 (by simp [hXl, hk.1.1])
      simpa using this
    · rename_i n' m e e1 hu
      have e1 : n = n' := by omega
      subst e1
      simp only [Bool.and_eq_true, beq_iff_eq] at hk
      obtain ⟨⟨rfl, hk2⟩, hk3⟩ := hk
      have hue : P.underlying e = some (.int .i64) := by
        split at hk2
        · assumption
        · simp at hk2
      obtain ⟨i, hi, hc1⟩ := zPkR hk3
      rw [show (10000 : Nat) = 9999 + 1 from rfl, run_equalIn_array w 9999 _ _ hu hi, hc1]
      have hp : ∀ (Z : List Int) (o : Nat) (h : o < Z.length) (w : World), (Go.part e (Z.map (Value.int .i64)).toArray (o * 1)).run P w = .ok (.int .i64 Z[o]) w := fun Z o h w => by
        have hg : (Z.map (Value.int .i64)).toArray[o]? = some (.int .i64 Z[o]) := by simp [h]
        simp only [Nat.mul_one, Go.part, Sem.run_bind, zlNZ hk3, Option.isSome_none, Result.andThen_ok, Bool.false_eq_true, if_false, hg, Sem.run_pure]
      have go : ∀ (k o : Nat), o + k = Xs.length → (Op.eqItems 9999 e 1 (Xs.map (Value.int .i64)).toArray (Ys.map (Value.int .i64)).toArray (List.range' o k)).run P w = .ok (decide (Xs.drop o = Ys.drop o)) w := by
        intro k
        induction k with
        | zero =>
          intro o ho
          simp only [List.range'_zero, Op.eqItems, Sem.run_pure]
          rw [List.drop_of_length_le (by omega), List.drop_of_length_le (by omega)]; simp
        | succ k ih =>
          intro o ho
          have hX : o < Xs.length := by omega
          have hY : o < Ys.length := by omega
          simp only [List.range'_succ, Op.eqItems, Sem.run_bind, hp Xs o hX, hp Ys o hY, Result.andThen_ok, show (9999 : Nat) = 9998 + 1 from rfl, run_equalIn_int w 9998 e .i64 .i64 _ _ hue]
          have ih := ih (o + 1) (by omega)
          rw [show (9999 : Nat) = 9998 + 1 from rfl] at ih
          have hiff : (Xs.drop o = Ys.drop o) ↔ (Xs[o] = Ys[o] ∧ Xs.drop (o + 1) = Ys.drop (o + 1)) := by
            rw [List.drop_eq_getElem_cons hX, List.drop_eq_getElem_cons hY, List.cons.injEq]
          by_cases q : Xs[o] = Ys[o]
          · have hd : decide (Xs.drop (o + 1) = Ys.drop (o + 1)) = decide (Xs.drop o = Ys.drop o) := by
              rw [Bool.eq_iff_iff, decide_eq_true_iff, decide_eq_true_iff, hiff]
              exact ⟨fun h => ⟨q, h⟩, fun h => h.2⟩
            have eb : (Xs[o] == Ys[o]) = true := by simpa using q
            simp only [eb, Bool.not_true, Bool.false_eq_true, if_false, ih, hd]
          · have e' : (Xs[o] == Ys[o]) = false := by simpa using q
            have hd : decide (Xs.drop o = Ys.drop o) = false := decide_eq_false fun h => q (hiff.1 h).1
            simp only [e', Bool.not_false, if_true, Sem.run_pure, hd]
      have := go Xs.length 0 (by omega)
      rw [← List.range_eq_range', hXl] at this
      simpa using this
    · simp at hk
theorem zis6 {D : Nat} {kt : TypeId} {kd : Nat} {x : AV} {v : Value} (hk : keyIs P kt kd = true) (hf : keyFits kd x = true) (hx : VR C H x v) (w : World) (em : Bool) : (Instr.checkKey em (D + 1 + 1) kt v).run P w = .ok () w := by
  match kd, hk, hf with
  | 0, hk, hf =>
    have hu : P.underlying kt = some (.int .i64) := by
      unfold keyIs at hk
      split at hk <;> first | assumption | (rename_i h1 _; omega) | (cases hk)
    obtain ⟨a, rfl⟩ := zGTq hf
    rw [hx.int_inv]
    exact Go.MapKept.run_checkKey (k := .int .i64 a) hu (by simp [Go.MapKept.IsKey]) em _
  | 1, hk, hf =>
    have hu : P.underlying kt = some .string := by
      unfold keyIs at hk
      split at hk <;> first | assumption | (rename_i h1 _; omega) | (cases hk)
    obtain ⟨a, rfl⟩ := zulL hf
    unfold VR at hx
    rw [hx]
    exact Go.MapKept.run_checkKey (k := .string ⟨a.toArray⟩) hu (by simp [Go.MapKept.IsKey]) em _
  | n + 2, hk, hf =>
    obtain ⟨xs, rfl, hf1, hf2⟩ := zsxV hf
    obtain ⟨q, hq⟩ := Option.isSome_iff_exists.1 hf2
    obtain ⟨Xs, _, rfl, _, _, _⟩ := zj0W hq
    obtain ⟨vs, rfl, hv1, _⟩ := hx
    rw [z1Jy hv1]
    have hXl : Xs.length = n := by simpa using hf1
    unfold keyIs at hk
    split at hk
    · rename_i e1 _; exact absurd e1 (by simp)
    · rename_i e1 _; exact absurd e1 (by simp)
    · rename_i n' fs e1 hu
      have e1 : n = n' := by omega
      subst e1
      simp only [Bool.and_eq_true, beq_iff_eq, Bool.not_eq_true'] at hk
      rw [Instr.checkKey]
      simp only [Sem.run_bind, run_underlying hu, Result.andThen_ok]
      rw [← Array.forIn_toList]
      have go : ∀ (fs : List Field) (o : Nat), intFields P fs o = true → o + fs.length = Xs.length → (forIn fs PUnit.unit fun (f : Field) (_ : PUnit) => (if f.name ≠ "_" then do
            Instr.checkKey em (D + 1) f.type (← Go.part f.type (Xs.map (Value.int .i64)).toArray f.offset)
            pure (ForInStep.yield PUnit.unit) else pure (ForInStep.yield PUnit.unit) : Sem (ForInStep PUnit))).run P w = .ok PUnit.unit w := by
        intro fs
        induction fs with
        | nil => intro o _ _; simp
        | cons f fs ih =>
          intro o hi ho
          simp only [intFields, Bool.and_eq_true, beq_iff_eq, bne_iff_ne] at hi
          obtain ⟨⟨⟨⟨h1, h2⟩, h3⟩, h4⟩, h5⟩ := hi
          have hu : P.underlying f.type = some (.int .i64) := by
            split at h2
            · assumption
            · simp at h2
          simp only [List.length_cons] at ho
          have hX : o < Xs.length := by omega
          have hg : (Xs.map (Value.int .i64)).toArray[o]? = some (.int .i64 Xs[o]) := by simp [hX]
          have hp : (Go.part f.type (Xs.map (Value.int .i64)).toArray f.offset).run P w = .ok (.int .i64 Xs[o]) w := by
            simp only [Go.part, Sem.run_bind, zlNZ h3, Option.isSome_none, Result.andThen_ok, Bool.false_eq_true, if_false, h4, hg, Sem.run_pure]
          have hc : (Instr.checkKey em (D + 1) f.type (.int .i64 Xs[o])).run P w = .ok () w := Go.MapKept.run_checkKey (k := .int .i64 Xs[o]) hu (by simp [Go.MapKept.IsKey]) em _
          simp only [List.forIn_cons, Sem.run_bind, if_pos h1, hp, Result.andThen_ok, hc, Sem.run_pure]
          exact ih (o + 1) h5 (by omega)
      rw [go fs.toList 0 hk.1.2 (by simp [hXl, hk.1.1])]; simp
    · rename_i n' m e e1 hu
      have e1 : n = n' := by omega
      subst e1
      simp only [Bool.and_eq_true, beq_iff_eq] at hk
      obtain ⟨⟨rfl, hk2⟩, hk3⟩ := hk
      have hue : P.underlying e = some (.int .i64) := by
        split at hk2
        · assumption
        · simp at hk2
      obtain ⟨i, hi, hc1⟩ := zPkR hk3
      rw [Instr.checkKey]
      simp only [Sem.run_bind, run_underlying hu, Result.andThen_ok]
      simp only [Std.Legacy.Range.forIn_eq_forIn_range', Std.Legacy.Range.size, Nat.sub_zero, Nat.add_one_sub_one, Nat.div_one]
      have hp : ∀ (o : Nat) (h : o < Xs.length), (Go.part e (Xs.map (Value.int .i64)).toArray (o * 1)).run P w = .ok (.int .i64 Xs[o]) w := fun o h => by
        have hg : (Xs.map (Value.int .i64)).toArray[o]? = some (.int .i64 Xs[o]) := by simp [h]
        simp only [Nat.mul_one, Go.part, Sem.run_bind, zlNZ hk3, Option.isSome_none, Result.andThen_ok, Bool.false_eq_true, if_false, hg, Sem.run_pure]
      have go : ∀ (k o : Nat), o + k = Xs.length → (forIn (List.range' o k) PUnit.unit fun (i : Nat) (_ : PUnit) => (do
            Instr.checkKey em (D + 1) e (← Go.part e (Xs.map (Value.int .i64)).toArray (i * (← sizeOf e)))
            pure (ForInStep.yield PUnit.unit) : Sem (ForInStep PUnit))).run P w = .ok PUnit.unit w := by
        intro k
        induction k with
        | zero => intro o _; simp
        | succ k ih =>
          intro o ho
          have hX : o < Xs.length := by omega
          have hc : (Instr.checkKey em (D + 1) e (.int .i64 Xs[o])).run P w = .ok () w := Go.MapKept.run_checkKey (k := .int .i64 Xs[o]) hue (by simp [Go.MapKept.IsKey]) em _
          simp only [List.range'_succ, List.forIn_cons, Sem.run_bind, run_sizeOf w hi, hc1, hp o hX, Result.andThen_ok, hc, Sem.run_pure]
          exact ih (o + 1) (by omega)
      rw [← hXl]
      rw [go Xs.length 0 (by omega)]; simp
    · simp at hk
theorem zc6f {kt : TypeId} {kd : Nat} {x : AV} {v : Value} (hk : keyIs P kt kd = true) (hf : keyFits kd x = true) (hx : VR C H x v) (w : World) (em : Bool) : (Instr.checkKey em 10000 kt v).run P w = .ok () w := zis6 (D := 9998) hk hf hx w em
theorem zTfE {kd : Nat} {x : AV} (h : keyFits kd x = true) : noLoc x = true := by
  match kd with
  | 0 => obtain ⟨s, rfl⟩ := zGTq h; rfl
  | 1 => obtain ⟨s, rfl⟩ := zulL h; rfl
  | n + 2 =>
    obtain ⟨l, rfl, _, h2⟩ := zsxV h
    obtain ⟨q, hq⟩ := Option.isSome_iff_exists.1 h2
    obtain ⟨Xs, _, rfl, _, _, _⟩ := zj0W hq
    show noLocs _ = true
    have go : ∀ l : List Int, noLocs (l.map AV.int) = true := fun l => by
      induction l with
      | nil => rfl
      | cons a r ih => simpa [noLocs, noLoc] using ih
    exact go _
theorem MR.push {C : Ctx} {H : Array Obj} {k x : AV} {e : MapEntry} (hk : noLoc k = true) (hkv : VR C H k e.key) (hx : noLoc x = true) (hxv : VR C H x e.val) : ∀ {es : List (AV × AV)} {l : List MapEntry}, MR C H es l → MR C H (es ++ [(k, x)]) (l ++ [e])
  | [], _, h => by
    have : _ = [] := h
    subst this
    exact ⟨e, [], rfl, ⟨hk, hkv⟩, ⟨hx, hxv⟩, rfl⟩
  | _ :: _, _, ⟨e', s, q, h1, h2, hr⟩ => by
    subst q
    exact ⟨e', s ++ [e], rfl, h1, h2, MR.push hk hkv hx hxv hr⟩
def FR (C : Ctx) (H : Array Obj) (r : Option AV) (q : Option (Nat × Value)) : Prop := match r, q with
  | none, none => True
  | some y, some (_, v) => noLoc y = true ∧ VR C H y v
  | _, _ => False
theorem z7QX {kt : TypeId} {kd : Nat} {x : AV} {v : Value} {r : Option AV} (hk : keyIs P kt kd = true) (hf : keyFits kd x = true) (hx : VR C H x v) (w : World) : ∀ {es : List (AV × AV)} {l : List MapEntry} (i : Nat), MR C H es l → findM es x = some r → ∃ q, (Instr.findAsking kt v l i).run P w = .ok q w ∧ FR C H r q
  | [], _, i, hm, h => by
    have : _ = [] := hm
    subst this
    simp [findM] at h; subst h
    exact ⟨none, by simp [Instr.findAsking], trivial⟩
  | (k, y) :: es, _, i, ⟨e, s, el, ⟨k1, k2⟩, ⟨y1, y2⟩, hr⟩, h => by
    subst el
    simp only [findM] at h
    cases hq : keyEq x k with
    | none => rw [hq] at h; simp at h
    | some b =>
      have he := zQXG hk hf hx k2 hq w
      cases b with
      | true =>
        rw [hq] at h
        simp at h; subst h
        exact ⟨some (i, e.val), by simp [Instr.findAsking, he], y1, y2⟩
      | false =>
        rw [hq] at h
        obtain ⟨q, h1, h2⟩ := z7QX hk hf hx w (i + 1) hr h
        exact ⟨q, by simp [Instr.findAsking, he, h1], h2⟩
theorem ztbe {kd : Nat} {d : TypeDesc} {x : AV} {v : Value} {r : Option AV} (hd : (kd = 0 ∧ d = .int .i64) ∨ (kd = 1 ∧ d = .string)) (hf : keyFits kd x = true) (hx : VR C H x v) : ∀ {es : List (AV × AV)} {l : List MapEntry} (i : Nat), MR C H es l → findM es x = some r → ∃ q, Instr.findNow d v l i = some q ∧ FR C H r q
  | [], _, i, hm, h => by
    have : _ = [] := hm
    subst this
    simp [findM] at h; subst h
    exact ⟨none, by simp [Instr.findNow], trivial⟩
  | (k, y) :: es, _, i, ⟨e, s, el, ⟨k1, k2⟩, ⟨y1, y2⟩, hr⟩, h => by
    subst el
    simp only [findM] at h
    cases hq : keyEq x k with
    | none => rw [hq] at h; simp at h
    | some b =>
      have he : Instr.sameNow d v e.key = some b := by
        rcases hd with ⟨rfl, rfl⟩ | ⟨rfl, rfl⟩
        · obtain ⟨a, rfl⟩ := zGTq hf
          cases k <;> simp only [keyEq, reduceCtorEq] at hq
          rename_i c
          simp at hq; subst hq
          rw [hx.int_inv, k2.int_inv]
          simp [Instr.sameNow]
          rw [Bool.eq_iff_iff]; simp
        · obtain ⟨a, rfl⟩ := zulL hf
          cases k <;> simp only [keyEq, reduceCtorEq] at hq
          rename_i c
          simp at hq; subst hq
          unfold VR at hx k2
          rw [hx, k2]
          simp only [Instr.sameNow]
          congr 1
          rw [Bool.eq_iff_iff, Go.MapKept.bytes_beq]
          simp
      cases b with
      | true =>
        rw [hq] at h
        simp at h; subst h
        exact ⟨some (i, e.val), by simp [Instr.findNow, he], y1, y2⟩
      | false =>
        rw [hq] at h
        obtain ⟨q, h1, h2⟩ := ztbe hd hf hx (i + 1) hr h
        exact ⟨q, by simp [Instr.findNow, he, h1], h2⟩
theorem zx0Y {kt : TypeId} {kd : Nat} {x : AV} {v : Value} {r : Option AV} (hk : keyIs P kt kd = true) (hf : keyFits kd x = true) (hx : VR C H x v) (w : World) {es : List (AV × AV)} {l : List MapEntry} (hm : MR C H es l) (h : findM es x = some r) : ∃ q, (Instr.findKey kt v l).run P w = .ok q w ∧ FR C H r q := by
  match kd, hk, hf with
  | 0, hk, hf =>
    have hu : P.underlying kt = some (.int .i64) := by
      unfold keyIs at hk
      split at hk <;> first | assumption | (rename_i h1 _; omega) | (cases hk)
    obtain ⟨q, h1, h2⟩ := ztbe (.inl ⟨rfl, rfl⟩) hf hx 0 hm h
    exact ⟨q, Go.MapKept.run_findKey hu h1, h2⟩
  | 1, hk, hf =>
    have hu : P.underlying kt = some .string := by
      unfold keyIs at hk
      split at hk <;> first | assumption | (rename_i h1 _; omega) | (cases hk)
    obtain ⟨q, h1, h2⟩ := ztbe (.inr ⟨rfl, rfl⟩) hf hx 0 hm h
    exact ⟨q, Go.MapKept.run_findKey hu h1, h2⟩
  | n + 2, hk, hf =>
    obtain ⟨q, h1, h2⟩ := z7QX hk hf hx w 0 hm h
    refine ⟨q, ?_, h2⟩
    rw [run_findKey_eq w _ v l]
    · exact h1
    · unfold keyIs at hk
      split at hk
      · rename_i e1 _; exact absurd e1 (by simp)
      · rename_i e1 _; exact absurd e1 (by simp)
      · rename_i hu; rw [hu]
      · rename_i hu; rw [hu]
      · cases hk
end
section
variable {a : Act} {ρ : Operand → Value} {r : Rf → AV} {w : World} {C : Ctx} {ce : CE} {σ : List Blk} {nl : Nat} {ps : List Pend}
theorem zQls {b : Nat} {es : List (AV × AV)} (h : mapAt σ b = some es) : ∃ B, uptoX σ b 0 = some B ∧ B.st = .map es := by
  unfold mapAt at h
  unfold uptoX
  cases hb : blk σ b with
  | none => simp [hb] at h
  | some B =>
    simp only [hb] at h ⊢
    cases hs : B.st <;> simp only [hs] at h ⊢ <;> try (simp at h; done)
    split at h <;> simp at h
    rename_i h0
    subst h
    rw [if_pos h0]
    exact ⟨B, rfl, hs⟩
theorem zopl (hg : Good C w) (hup : ∀ b u B, uptoX σ b u = some B → ∃ id, C.own b u = some (B, id)) {b : Nat} {es : List (AV × AV)} {v : Value} (h : mapAt σ b = some es) (hv : VR C w.heap (.mapr b) v) :
    ∃ id l clock, v = .map (some id) ∧ w.heap[id]? = some (.map l clock) ∧ MR C w.heap es l.toList ∧ ∃ B, C.own b 0 = some (B, id) ∧ B.st = .map es := by
  obtain ⟨B, h1, h2⟩ := zQls h
  obtain ⟨id, ho⟩ := hup b 0 B h1
  obtain ⟨_, l, c, h3, h4⟩ := hg.maps b 0 B id es ho h2
  unfold VR at hv
  exact ⟨id, l, c, hv.2.2 B id ho (by rw [h2]; rfl), h3, h4, B, ho, h2⟩
theorem zbH1 {e : TypeId} {z : AV} (h : zeroOne P e z = true) (w : World) : ∃ v, (zeroValue e).run P w = .ok v w ∧ (∀ C H, VR C H z v) ∧ noLoc z = true := by
  unfold zeroOne at h
  cases hi : P.info? e with
  | none => simp [hi] at h
  | some i =>
    simp only [hi] at h
    cases hz : i.zero with
    | none => simp [hz] at h
    | some v =>
      simp only [hz, Bool.and_eq_true] at h
      exact ⟨v, by simp only [zeroValue, Sem.run_bind, run_typeInfo w hi, Result.andThen_ok, hz, Sem.run_pure], fun _ _ => zULH h.1, h.2⟩
theorem z5xC {o : Oper} {t kt e : TypeId} {x k : Operand} {x' k' : Rf} {kd : Nat} {z : AV} {ok : Bool} {y : AV} {p : Option Pend} (ho : o.op = .lookup t x k ok) (ht : P.underlying t = some (.map kt e)) (hk : keyIs P kt kd = true) (hz : zeroOne P e z = true)
    (hg : Good C w) (hup : ∀ b u B, uptoX σ b u = some B → ∃ id, C.own b u = some (B, id)) (hx : VR C w.heap (r x') (ρ x)) (hkv : VR C w.heap (r k') (ρ k)) (he : ev ce σ nl ps r (.mlk x' kd k' z ok) = some (y, p)) : Plain P ρ o w C w.heap y ∧ p = none := by
  simp only [ev] at he
  cases hx' : r x' <;> simp only [hx'] at he <;> try (simp at he; done)
  rename_i b
  rw [hx'] at hx
  cases hm : mapAt σ b with
  | none => simp [hm] at he
  | some es =>
    simp only [hm] at he
    split at he
    case isFalse => simp at he
    rename_i hf
    obtain ⟨id, l, c, e1, hH, hM, _⟩ := zopl hg hup hm hx
    have hc := zc6f hk hf hkv w l.isEmpty
    obtain ⟨zv, hz1, hz2, hz3⟩ := zbH1 hz w
    cases hq : findM es (r k') with
    | none => simp [hq] at he
    | some q =>
      obtain ⟨q', h1, h2⟩ := zx0Y hk hf hkv w hM hq
      cases q with
      | none =>
        simp only [hq, Option.some.injEq, Prod.mk.injEq] at he
        obtain ⟨rfl, rfl⟩ := he
        cases q' with
        | some _ => exact h2.elim
        | none =>
          refine ⟨zBZO (s := Instr.lookup t (ρ x) (ρ k) ok) (v := if ok then .tuple #[zv, .bool false] else zv) (by simp only [execOp, ho]) ?_ ?_, rfl⟩
          · rw [e1]
            simp only [Instr.lookup, Sem.run_bind, run_underlying ht, Result.andThen_ok, Go.MapKept.run_getObj_map hH, Sem.run_pure, hc, h1, hz1]
          · cases ok with
            | true => unfold VR; exact ⟨[zv, .bool false], rfl, zv, [.bool false], rfl, hz2 _ _, .bool false, [], rfl, rfl, rfl⟩
            | false => exact hz2 _ _
      | some yv =>
        simp only [hq, Option.some.injEq, Prod.mk.injEq] at he
        obtain ⟨rfl, rfl⟩ := he
        cases q' with
        | none => exact h2.elim
        | some jv =>
          obtain ⟨j, v⟩ := jv
          obtain ⟨g1, g2⟩ := h2
          refine ⟨zBZO (s := Instr.lookup t (ρ x) (ρ k) ok) (v := if ok then .tuple #[v, .bool true] else v) (by simp only [execOp, ho]) ?_ ?_, rfl⟩
          · rw [e1]
            simp only [Instr.lookup, Sem.run_bind, run_underlying ht, Result.andThen_ok, Go.MapKept.run_getObj_map hH, Sem.run_pure, hc, h1]
          · cases ok with
            | true => unfold VR; exact ⟨[v, .bool true], rfl, v, [.bool true], rfl, g2, .bool true, [], rfl, rfl, rfl⟩
            | false => exact g2
theorem zykO {C : Ctx} {H : Array Obj} : ∀ {es : List (AV × AV)} {l : List MapEntry}, MR C H es l → l.length = es.length
  | [], _, e => by rw [show _ = [] from e]; rfl
  | _ :: _, _, ⟨e, s, q, _, _, hr⟩ => by rw [q]; simp [zykO hr]
theorem zSTt {o : Oper} {ca : Call} {x : Operand} {t kt e : TypeId} {y : Rf} {z : AV} {p : Option Pend} (ho : o.op = .call ca) (hc : ca.callee = .builtin .len) (ha : ca.args.toList = [x]) (hat : ca.argTypes.toList = [t])
    (ht : P.underlying t = some (.map kt e)) (hg : Good C w) (hup : ∀ b u B, uptoX σ b u = some B → ∃ id, C.own b u = some (B, id)) (hx : VR C w.heap (r y) (ρ x)) (he : ev ce σ nl ps r (.mln y) = some (z, p)) : Plain P ρ o w C w.heap z ∧ p = none := by
  simp only [ev] at he
  cases hx' : r y <;> simp only [hx'] at he <;> try (simp at he; done)
  rename_i b
  rw [hx'] at hx
  cases hm : mapAt σ b with
  | none => simp [hm] at he
  | some es =>
    simp only [hm, Option.some.injEq, Prod.mk.injEq] at he
    obtain ⟨rfl, rfl⟩ := he
    obtain ⟨id, l, c, e1, hH, hM, _⟩ := zopl hg hup hm hx
    have ha' : ca.args = #[x] := by rw [← Array.toList_inj]; simpa using ha
    have hat' : ca.argTypes = #[t] := by rw [← Array.toList_inj]; simpa using hat
    have hl : l.size = es.length := by have := zykO hM; simpa using this
    refine ⟨⟨.int .i64 es.length, ?_, by unfold VR; rfl⟩, rfl⟩
    simp only [execOp, ho, resolve, hc, ha', hat', Sem.run_bind, Sem.run_pure, Result.andThen_ok, invoke, builtin, Builtin.len_]
    simp [e1, Sem.run_bind, run_underlying ht, goInt, Go.MapKept.run_getObj_map hH, hl]
theorem zGEI {n : Int} (h : 0 ≤ n ∧ n ≤ 18446744073709551615) : IntKind.u64.wrap n = n := by
  simp [IntKind.wrap, IntKind.bits, IntKind.signed]; omega
theorem ik7 {n : Int} {v : Value} {C : Ctx} {H : Array Obj} (h : VR C H (.ik 7 n) v) : v = .int .u64 n := by
  unfold VR at h
  obtain ⟨K, h1, h2⟩ := h
  rw [show kindOf 7 = some IntKind.u64 from rfl] at h1
  cases h1; exact h2
theorem zSDe {n : Int} {C : Ctx} {H : Array Obj} : VR C H (.ik 7 n) (.int .u64 n) := by unfold VR; exact ⟨_, rfl, rfl⟩
theorem z18Z {o : Oper} {s d : TypeId} {x : Operand} {y : Rf} {z : AV} {p : Option Pend} (ho : o.op = .convert s d x)
    (ht : (match P.underlying s, P.underlying d with | some (.int _), some (.int .u64) => true | _, _ => false) = true) (hx : VR C w.heap (r y) (ρ x)) (he : ev ce σ nl ps r (.cvu y) = some (z, p)) : Plain P ρ o w C w.heap z ∧ p = none := by
  have hu : ∃ k, P.underlying s = some (.int k) ∧ P.underlying d = some (.int .u64) := by
    split at ht
    · rename_i k h1 h2; exact ⟨k, h1, h2⟩
    · simp at ht
  obtain ⟨k, hu1, hu2⟩ := hu
  have main : ∀ K n, ρ x = .int K n → (0 ≤ n ∧ n ≤ 18446744073709551615) → z = .ik 7 n → p = none → Plain P ρ o w C w.heap z ∧ p = none := by
    intro K n e h hz hp
    subst hz hp
    refine ⟨zBZO (s := Go.convert s d (ρ x)) (v := .int .u64 n) (by simp only [execOp, ho]) ?_ zSDe, rfl⟩
    rw [e]
    simp only [Go.convert, Sem.run_bind, run_underlying hu1, run_underlying hu2, Result.andThen_ok, Conv.intToInt, Sem.run_pure, zGEI h]
  simp only [ev] at he
  cases hx' : r y <;> simp only [hx'] at he <;> try (simp at he; done)
  · rename_i n
    rw [hx'] at hx
    split at he <;> simp at he
    rename_i h
    exact main _ n hx.int_inv h he.1.symm he.2.symm
  · rename_i k' n
    rw [hx'] at hx
    split at he <;> simp at he
    rename_i h
    unfold VR at hx
    obtain ⟨K, _, e⟩ := hx
    exact main K n e h he.1.symm he.2.symm
theorem z2mv {n : Int} (h : 0 ≤ n ∧ n ≤ 255) : IntKind.u8.wrap n = n := by
  simp [IntKind.wrap, IntKind.bits, IntKind.signed]; omega
theorem z3KF {n : Int} {C : Ctx} {H : Array Obj} : VR C H (.ik 4 n) (.int .u8 n) := by unfold VR; exact ⟨_, rfl, rfl⟩
theorem zOOr {o : Oper} {s d : TypeId} {x : Operand} {y : Rf} {z : AV} {p : Option Pend} (ho : o.op = .convert s d x)
    (ht : (match P.underlying s, P.underlying d with | some (.int _), some (.int .u8) => true | _, _ => false) = true) (hx : VR C w.heap (r y) (ρ x)) (he : ev ce σ nl ps r (.cv8 y) = some (z, p)) : Plain P ρ o w C w.heap z ∧ p = none := by
  have hu : ∃ k, P.underlying s = some (.int k) ∧ P.underlying d = some (.int .u8) := by
    split at ht
    · rename_i k h1 h2; exact ⟨k, h1, h2⟩
    · simp at ht
  obtain ⟨k, hu1, hu2⟩ := hu
  simp only [ev] at he
  cases hx' : r y <;> simp only [hx'] at he <;> try (simp at he; done)
  rename_i n
  rw [hx'] at hx
  split at he <;> simp at he
  rename_i h
  obtain ⟨hz, hp⟩ := he
  subst hz hp
  refine ⟨zBZO (s := Go.convert s d (ρ x)) (v := .int .u8 n) (by simp only [execOp, ho]) ?_ z3KF, rfl⟩
  rw [hx.int_inv]
  simp only [Go.convert, Sem.run_bind, run_underlying hu1, run_underlying hu2, Result.andThen_ok, Conv.intToInt, Sem.run_pure, z2mv h]
theorem zaOY {op : BinOp} {t : TypeId} {x y : Operand} {k k' : IntKind} {a b : Int} (w : World) : (eqGuard op t x y (.int k a) (.int k' b)).run P w = .ok () w := by
  unfold eqGuard
  split <;> simp
theorem zxYz {o : Oper} {t t' : TypeId} {x y : Operand} {x' y' : Rf} {z : AV} {p : Option Pend} (ho : o.op = .binOp .gtr t x y t')
    (hx : VR C w.heap (r x') (ρ x)) (hy : VR C w.heap (r y') (ρ y)) (he : ev ce σ nl ps r (.gtu x' y') = some (z, p)) : Plain P ρ o w C w.heap z ∧ p = none := by
  simp only [ev] at he
  split at he
  · rename_i a b h1 h2
    simp only [Option.some.injEq, Prod.mk.injEq] at he
    obtain ⟨rfl, rfl⟩ := he
    rw [h1] at hx; rw [h2] at hy
    refine ⟨zBZO (s := do eqGuard .gtr t x y (ρ x) (ρ y); binOp .gtr t (ρ x) (ρ y)) (v := .bool (decide (b < a))) (by simp only [execOp, ho]) ?_ (by unfold VR; rfl), rfl⟩
    rw [ik7 hx, ik7 hy]
    simp only [Sem.run_bind, zaOY, Result.andThen_ok, binOp, ne_eq, not_true_eq_false, if_false, Op.intCmp, Sem.run_pure]
  · simp at he
theorem zh5V {o : Oper} {t t' : TypeId} {x y : Operand} {x' y' : Rf} {z : AV} {p : Option Pend} (ho : o.op = .binOp .shr t x y t')
    (hx : VR C w.heap (r x') (ρ x)) (hy : VR C w.heap (r y') (ρ y)) (he : ev ce σ nl ps r (.shu x' y') = some (z, p)) : Plain P ρ o w C w.heap z ∧ p = none := by
  have main : ∀ K a n, ρ x = .int .u64 a → ρ y = .int K n → (0 ≤ n ∧ n < 64) → z = .ik 7 (a.fdiv (2 ^ n.toNat)) → p = none → Plain P ρ o w C w.heap z ∧ p = none := by
    intro K a n e1 e2 h hz hp
    subst hz hp
    refine ⟨zBZO (s := do eqGuard .shr t x y (ρ x) (ρ y); binOp .shr t (ρ x) (ρ y)) (v := .int .u64 (a.fdiv (2 ^ n.toNat))) (by simp only [execOp, ho]) ?_ zSDe, rfl⟩
    rw [e1, e2]
    have hm : min n.toNat (IntKind.bits .u64) = n.toNat := by simp [IntKind.bits]; omega
    simp only [Sem.run_bind, zaOY, Result.andThen_ok, binOp, Op.shift, if_neg (show ¬ n < 0 by omega), hm, Sem.run_pure]
  simp only [ev] at he
  split at he
  · rename_i a n h1 h2
    split at he <;> simp at he
    rename_i h
    rw [h1] at hx; rw [h2] at hy
    exact main _ a n (ik7 hx) hy.int_inv h he.1.symm he.2.symm
  · rename_i a n h1 h2
    split at he <;> simp at he
    rename_i h
    rw [h1] at hx; rw [h2] at hy
    exact main _ a n (ik7 hx) (ik7 hy) h he.1.symm he.2.symm
  · simp at he
end
end Ab
