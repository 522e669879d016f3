/- make, nil slices that are to grow, append. Condition: none. -/
import Derived.Test.YtgaidfgpedibhaaAbOps2
import Derived.Laws.CopyRow
set_option linter.all false
namespace Ab
open Go
variable {P : Program}

theorem Good.heap {C : Ctx} {w w' : World} (hg : Good C w) (h : w'.heap = w.heap) : Good C w' :=
  ⟨by rw [h]; exact hg.I, hg.ent, by rw [h]; exact hg.live, hg.apart⟩
theorem Step.heap {C : Ctx} {w w' : World} (h : w'.heap = w.heap) (ho : w'.os = w.os) (ht : w'.tape = w.tape) (hout : w'.output = w.output) : Step C w C w' :=
  ⟨by rw [h]; exact Evol.refl _ _, by rw [h]; exact Nat.le_refl _, fun _ _ _ => by rw [h], fun _ h => .inl h, fun _ h => .inl h, ho, ht, hout⟩

section
variable {a : Act} {ρ : Operand → Value} {r : Rf → AV} {w : World} {C : Ctx} {R : Operand → Rf → Bool} {ce : CE} {σ : List Blk} {nl : Nat} {ps : List Pend}

theorem dupN_get (z : List AV) : ∀ (n : Nat), (dupN n z).length = n * z.length ∧ ∀ i, i < n * z.length → (dupN n z)[i]? = z[i % z.length]?
  | 0 => ⟨by simp [dupN], fun i hi => by simp at hi⟩
  | n + 1 => by
    obtain ⟨h1, h2⟩ := dupN_get z n
    have e : dupN (n + 1) z = z ++ dupN n z := by simp [dupN, List.replicate_succ]
    refine ⟨by rw [e, List.length_append, h1, Nat.add_mul]; omega, fun i hi => ?_⟩
    rw [e]
    by_cases hlt : i < z.length
    · rw [List.getElem?_append_left hlt, Nat.mod_eq_of_lt hlt]
    · rw [List.getElem?_append_right (by omega), h2 _ (by rw [Nat.add_mul] at hi; omega)]
      congr 1
      rw [Nat.mod_eq_sub_mod (by omega : z.length ≤ i)]

theorem big_in {n : Int} (h0 : 0 ≤ n) (h : n ≤ big) : IntKind.i64.wrap n = n := by
  unfold big at h
  exact IntWalk.i64_in n ⟨by omega, by omega⟩

theorem bytes_le {e : TypeId} (h : bytesOk P e = true) : ∃ i, P.info? e = some i ∧ i.bytes ≤ 4096 := by
  unfold bytesOk at h
  cases hi : P.info? e with
  | none => simp [hi] at h
  | some i => simp [hi] at h; exact ⟨i, rfl, h⟩

set_option maxRecDepth 100000 in
theorem dn_mks {o : Oper} {t e : TypeId} {l c : Operand} {l' c' : Rf} {z : List AV} {k : Option Nat} {x : AV} {p : Option Pend} (ho : o.op = .makeSlice t l c) (ht : sliceOf P t = some e) (hk : kindIs P e k = true) (hz : zeroIs P e z = true) (hby : bytesOk P e = true)
    (hg : Good C w) (hb : ∀ u, ¬ C.lim nl u) (hl : VR C w.heap (r l') (a.eval l)) (hc : VR C w.heap (r c') (a.eval c)) (he : ev ce σ nl ps r (.mks l' c' z k) = some (x, p)) : Does P o a w (PostE nl C w x p) := by
  simp only [ev] at he
  cases hl' : r l' <;> simp only [hl'] at he <;> try (simp at he; done)
  cases hc' : r c' <;> simp only [hc'] at he <;> try (simp at he; done)
  rename_i n m
  split at he
  case isFalse => simp at he
  rename_i hcond
  simp only [Option.some.injEq, Prod.mk.injEq] at he
  obtain ⟨rfl, rfl⟩ := he
  rw [hl'] at hl; rw [hc'] at hc
  have hl := hl.int_inv; have hc := hc.int_inv
  obtain ⟨h1, h2, h3, hzl⟩ := hcond
  obtain ⟨M, rfl⟩ := Int.eq_ofNat_of_zero_le (by omega : 0 ≤ m)
  obtain ⟨N, rfl⟩ := Int.eq_ofNat_of_zero_le h1
  obtain ⟨i, hi, hby⟩ := bytes_le hby
  have hsz := info_size (kind_size hk) w
  obtain ⟨zv, z1, z2, z3⟩ := zero_run (C := C) hz w
  have hzs : zv.cells.size = kst k := by have := VRL.length z2; simp at this; omega
  have hM : (M : Int) ≤ 1073741824 := h3
  have mulb : ∀ q : Nat, q ≤ 1073741824 → (i.bytes : Int) * (q : Int) ≤ 4398046511104 := fun q hq => by
    have h1 : i.bytes * q ≤ 4096 * 1073741824 := Nat.mul_le_mul hby hq
    have h2 : ((i.bytes * q : Nat) : Int) ≤ ((4398046511104 : Nat) : Int) := Int.ofNat_le.2 (by omega)
    rw [Int.natCast_mul] at h2
    omega
  have hbm := mulb M (by omega)
  let zc : Array Value := if M * kst k = 0 then #[] else zv.cells
  have hrun : (Instr.makeSlice t (a.eval l) (a.eval c)).run P w = .ok (.slice (some ⟨w.heap.size, 0, none⟩) N M) (pushW w (.cells ((Array.range (M * kst k)).map fun q => zc[q % zc.size]!) e)) := by
    rw [hl, hc]
    have ha : (askRoom (M * i.bytes)).run P w = .ok () w := by
      unfold askRoom roomBytes
      have : M * i.bytes ≤ 1073741824 * 4096 := Nat.mul_le_mul (by omega) hby
      rw [if_neg (by omega)]; rfl
    simp only [Instr.makeSlice, Sem.run_bind, slice_und ht, Result.andThen_ok, asInt, asIntOf, Sem.run_pure, run_typeInfo w hi]
    rw [big_in (by omega : (0 : Int) ≤ N) (by omega), big_in (by omega : (0 : Int) ≤ M) h3]
    have hbm' : ¬ ((i.bytes : Int) * M > 2 ^ 48) := by
      have : (2 : Int) ^ 48 = 281474976710656 := by decide
      omega
    have hbn' : ¬ ((i.bytes : Int) * N > 2 ^ 48) := by
      have h48 : (2 : Int) ^ 48 = 281474976710656 := by decide
      have := mulb N (by omega)
      omega
    have c1 : ¬ ((M : Int) < 0) := by omega
    have c2 : ¬ ((N : Int) < 0) := by omega
    have c3 : ¬ ((N : Int) > (M : Int)) := by omega
    simp only [c1, c2, c3, hbm', decide_false, Bool.or_self, Bool.false_eq_true, if_false, or_self, Int.toNat_natCast]
    simp only [Sem.run_bind, ha, hsz, Result.andThen_ok]
    by_cases h0 : M * kst k = 0
    · simp only [h0, if_true, Sem.run_bind, Sem.run_pure, Result.andThen_ok, run_newRow]
      simp [zc, h0]
    · simp only [h0, if_false, Sem.run_bind, z1, Sem.run_pure, Result.andThen_ok, run_newRow]
      simp [zc, h0]
  simp only [Int.toNat_natCast]
  obtain ⟨d1, d2⟩ := dupN_get z M
  rw [hzl] at d1 d2
  refine Does.val (v := .slice (some ⟨w.heap.size, 0, none⟩) N M) ?_ (post_new (c := (Array.range (M * kst k)).map fun q => zc[q % zc.size]!) (el := e) hg hb rfl ?_ ?_ ?_)
  · simp only [execOp, ho, Sem.run_bind, hrun, Result.andThen_ok, Sem.run_pure]
  · simp [d1]
  · intro j q hj
    have hlt := (List.getElem?_eq_some_iff.1 hj).1
    simp only [d1] at hlt
    have hj' : (dupN M z)[j]? = some q := hj
    rw [d2 j hlt] at hj'
    have hne : M * kst k ≠ 0 := by omega
    have hkp : 0 < kst k := Nat.pos_of_ne_zero fun h => hne (by rw [h]; simp)
    obtain ⟨y, g1, g2⟩ := z2.get (j % kst k) q hj'
    rw [Array.getElem?_toList] at g1
    refine ⟨y, ?_, g2, z3 y (by rw [Array.mem_toList_iff]; exact Array.mem_of_getElem? g1)⟩
    have : zc = zv.cells := by simp [zc, hne]
    rw [this, hzs]
    have hm := Nat.mod_lt j hkp
    rw [Array.getElem?_eq_getElem (by omega : j % kst k < zv.cells.size)] at g1
    simp at g1
    simp [hlt, getElem!_def, Array.getElem?_eq_getElem (by omega : j % kst k < zv.cells.size), g1]
  · intro C' k1 k2
    exact sl_new k1 k2 rfl (push_new w _) (by omega) (by simp)

/-- A nil slice that is to grow. -/
theorem dn_nl {o : Oper} {x0 : Operand} {k : Option Nat} {x : AV} {p : Option Pend} (ho : o.op = .assign x0) (hn : nilOpd x0 = true) (hg : Good C w) (hb : ∀ u, ¬ C.lim nl u)
    (he : ev ce σ nl ps r (.nl k) = some (x, p)) : Does P o a w (PostE nl C w x p) := by
  simp only [ev] at he
  simp only [Option.some.injEq, Prod.mk.injEq] at he
  obtain ⟨rfl, rfl⟩ := he
  have hv : a.eval x0 = .slice none 0 0 := nilOpd_eval (ρ := a.eval) hn rfl
  refine Does.val (v := .slice none 0 0) (w' := w) (by simp only [execOp, ho, hv, Sem.run_pure]) ?_
  have ev' : Evol C w.heap (addOwn C nl 0 (⟨k, [], .nul⟩, 0)) w.heap := by
    refine ⟨fun _ h => h, fun _ _ => rfl, fun _ _ h => .inr h, fun b' u' B' id hl ho' => ?_⟩
    have hne : ¬ (b' = nl ∧ u' = 0) := fun ⟨e1, _⟩ => hb u' (e1 ▸ hl)
    simp only [addOwn, if_neg hne] at ho'
    exact ⟨B', ho', rfl, rfl, fun c el hc => ⟨c, hc, rfl⟩⟩
  refine ⟨addOwn C nl 0 (⟨k, [], .nul⟩, 0), ⟨hg.I, fun b' u' B' id ho' => ?_, fun b' u' B' id ho' hl => ?_, fun b1 u1 B1 i1 b2 u2 B2 i2 k1 l1 k2 l2 hne => ?_⟩,
    ⟨ev', Nat.le_refl _, fun _ _ _ => rfl, fun k' hk => ?_, fun _ h => .inl h, rfl, rfl, rfl⟩, ?_, 0, rfl, rfl⟩
  · by_cases h : b' = nl ∧ u' = 0
    · simp only [addOwn, if_pos h] at ho'
      simp at ho'; obtain ⟨rfl, rfl⟩ := ho'
      exact ⟨.inl h, h.2, fun _ => rfl, by simp⟩
    · simp only [addOwn, if_neg h] at ho'
      obtain ⟨j1, j2, j3, j4⟩ := hg.ent b' u' B' id ho'
      exact ⟨.inr j1, j2, j3, j4⟩
  · by_cases h : b' = nl ∧ u' = 0
    · simp only [addOwn, if_pos h] at ho'
      simp at ho'; obtain ⟨rfl, rfl⟩ := ho'
      simp at hl
    · simp only [addOwn, if_neg h] at ho'
      obtain ⟨j1, c, el, j2, j3, j4⟩ := hg.live b' u' B' id ho' hl
      refine ⟨j1, c, el, j2, j3, fun i x hi => ?_⟩
      obtain ⟨y, m1, m2, m3⟩ := j4 i x hi
      exact ⟨y, m1, VR.mono ev' _ _ m2, m3⟩
  · by_cases e1 : b1 = nl ∧ u1 = 0
    · simp only [addOwn, if_pos e1] at k1; simp at k1; obtain ⟨rfl, rfl⟩ := k1; simp at l1
    · by_cases e2 : b2 = nl ∧ u2 = 0
      · simp only [addOwn, if_pos e2] at k2; simp at k2; obtain ⟨rfl, rfl⟩ := k2; simp at l2
      · simp only [addOwn, if_neg e1] at k1; simp only [addOwn, if_neg e2] at k2
        exact hg.apart b1 u1 B1 i1 b2 u2 B2 i2 k1 l1 k2 l2 hne
  · obtain ⟨b', u', B', ho', hl⟩ := hk
    by_cases h : b' = nl ∧ u' = 0
    · simp only [addOwn, if_pos h] at ho'
      simp at ho'; obtain ⟨rfl, rfl⟩ := ho'; simp at hl
    · simp only [addOwn, if_neg h] at ho'
      exact .inl ⟨b', u', B', ho', hl⟩
  · unfold VR
    refine ⟨⟨none, 0, rfl, Nat.le_refl _, fun h => absurd h (Nat.lt_irrefl 0)⟩, .inl ⟨rfl, rfl⟩, fun B id h => ?_⟩
    simp [addOwn] at h
    obtain ⟨rfl, rfl⟩ := h
    exact ⟨rfl, rfl, rfl⟩
end
end Ab
