/- append in a phase, stores, calls that may turn blocks. Condition: the callees answer as the interpreter says. -/
import Derived.Test.YtgaidfgpedibhaaAbOps4
set_option linter.all false
namespace Ab
open Go
variable {P : Program}

/-- Less is owned, or more is spoken of. -/
theorem Good.shrink {C C2 : Ctx} {w : World} (hg : Good C w) (hI : C2.I = C.I) (hown : ∀ b u e, C2.own b u = some e → C.own b u = some e) (hlim : ∀ b u, C.lim b u → C2.lim b u) : Good C2 w ∧ Step C w C2 w := by
  have ev : Evol C w.heap C2 w.heap := ⟨fun k h => by rw [hI]; exact h, fun _ _ => rfl, hlim, fun b u B' id _ ho => ⟨B', hown _ _ _ ho, rfl, rfl, fun c el hc => ⟨c, hc, rfl⟩⟩⟩
  refine ⟨⟨by rw [hI]; exact hg.I, fun b u B id ho => ?_, fun b u B id ho hl => ?_, fun b1 u1 B1 i1 b2 u2 B2 i2 h1 l1 h2 l2 hne => hg.apart _ _ _ _ _ _ _ _ (hown _ _ _ h1) l1 (hown _ _ _ h2) l2 hne⟩,
    ⟨ev, Nat.le_refl _, fun _ _ _ => rfl, fun k ⟨b, u, B, ho, hl⟩ => .inl ⟨b, u, B, hown _ _ _ ho, hl⟩, fun k h => .inl (by rw [hI] at h; exact h), rfl, rfl, rfl⟩⟩
  · obtain ⟨h1, h2, h3, h4⟩ := hg.ent b u B id (hown _ _ _ ho)
    exact ⟨hlim _ _ h1, h2, h3, h4⟩
  · obtain ⟨h1, c, el, h2, h3, h4⟩ := hg.live b u B id (hown _ _ _ ho) hl
    refine ⟨by rw [hI]; exact h1, c, el, h2, h3, fun i x hi => ?_⟩
    obtain ⟨y, k1, k2, k3⟩ := h4 i x hi
    exact ⟨y, k1, VR.mono ev _ _ k2, k3⟩

section
variable {a : Act} {ρ : Operand → Value} {r : Rf → AV} {w : World} {C : Ctx} {R : Operand → Rf → Bool} {ce : CE} {σ : List Blk} {nl : Nat} {ps : List Pend}

/-- An append that makes a new block. -/
theorem app_new {T T' e : TypeId} {k k0 : Option Nat} (ht : sliceOf P T = some e) (ht' : (sliceOf P T').isSome = true) (hk : kindIs P e k = true) (hby : bytesOk P e = true) (hz : hasZero P e = true) {ty : TypeId} {X : AV} {vx : Value} {n : Nat} {cs cells : List AV} (hg : Good C w)
    (hup : ∀ b u B, upto σ b u = some B → ∃ id, C.own b u = some (B, id)) (hsrc : srcCells σ k X = some (n, cs)) (hx : VR C w.heap X vx) {b len cap : Nat} {base : Option Addr} {olds : List Value} (hb : ¬ C.lim b (cells ++ cs).length) (hk0 : kst k0 = kst k)
    (hlen : cells.length = len * kst k) (hol : olds.length = cells.length) (hold : ∀ w1 : World, w1.heap = w.heap → (Builtin.firstCells (kst k) len (.slice base len cap)).run P w1 = .ok olds.toArray w1)
    (hoc : ∀ (i : Nat) q, cells[i]? = some q → ∃ y, olds[i]? = some y ∧ VR C w.heap q y ∧ y.oneCell' = true) (hlt : cap < len + n) (hbig : len + n ≤ big) :
    ∃ v w' id', (Builtin.append_ #[T, T'] ty #[.slice base len cap, vx]).run P w = .ok v w' ∧ Good (addOwn C b (cells ++ cs).length (⟨k0, cells ++ cs, .live⟩, id')) w' ∧ Step C w (addOwn C b (cells ++ cs).length (⟨k0, cells ++ cs, .live⟩, id')) w' ∧
        VR (addOwn C b (cells ++ cs).length (⟨k0, cells ++ cs, .live⟩, id')) w'.heap (.sl b (cells ++ cs).length 0 (len + n)) v := by
  obtain ⟨vals, ⟨q, m, hvx⟩, hf, hcl, hvl, hvals⟩ := src_run (P := P) hsrc hg hup hx
  obtain ⟨nc, rest, h1, h2, h3⟩ := append_grows (P := P) (w := w) (ty := ty) (olds := olds) ht ht' hk hby hz hvx hf hold hlt hbig
  obtain ⟨g1, g2⟩ := grown_block (rest := rest) (C := C) (H := w.heap) hol hvl hoc hvals
  have hl : (⟨k0, cells ++ cs, .live⟩ : Blk).cells.length = (cells ++ cs).length := rfl
  obtain ⟨p1, p2⟩ := post_grown (b := b) (B := ⟨k0, cells ++ cs, .live⟩) (c := olds.toArray ++ vals.toArray ++ rest) (el := e) hg hb rfl g1 g2
  refine ⟨_, _, w.heap.size, h3, p1, p2, sl_new (B := ⟨k0, cells ++ cs, .live⟩) (id := w.heap.size) (by simp [addOwn]) (.inl ⟨rfl, rfl⟩) rfl (push_new w.drew _) h1 ?_⟩
  simp only [hk0]
  have e1 : (nc - (len + n)) * kst k + (len + n) * kst k = nc * kst k := by rw [← Nat.add_mul, Nat.sub_add_cancel h1]
  rw [Nat.add_mul len n] at e1
  simp
  omega

/-- An append to an up-to-date slice. -/
theorem app_core {T T' e : TypeId} {k : Option Nat} (ht : sliceOf P T = some e) (ht' : (sliceOf P T').isSome = true) (hk : kindIs P e k = true) (hby : bytesOk P e = true) (hz : hasZero P e = true) {ty : TypeId} {X : AV} {vx : Value} {n : Nat} {cs : List AV} (hg : Good C w)
    (hup : ∀ b u B, upto σ b u = some B → ∃ id, C.own b u = some (B, id)) (hsrc : srcCells σ k X = some (n, cs)) (hx : VR C w.heap X vx) {b len : Nat} {vs : Value} {B : Blk} {id : Nat} (ho : C.own b B.cells.length = some (B, id)) (hu : B.cells.length = len * kst k) (hk0 : kst B.k = kst k)
    (hs : VR C w.heap (.sl b B.cells.length 0 len) vs) (hn : 0 < n) (hbig : len + n ≤ big) (hb : ¬ C.lim b (B.cells ++ cs).length) (honly : ∀ u' B' id', C.own b u' = some (B', id') → u' = B.cells.length) :
    ∃ v w' id', (Builtin.append_ #[T, T'] ty #[vs, vx]).run P w = .ok v w' ∧ Good (addOwn C b (B.cells ++ cs).length (⟨B.k, B.cells ++ cs, .live⟩, id')) w' ∧ Step C w (addOwn C b (B.cells ++ cs).length (⟨B.k, B.cells ++ cs, .live⟩, id')) w' ∧
        VR (addOwn C b (B.cells ++ cs).length (⟨B.k, B.cells ++ cs, .live⟩, id')) w'.heap (.sl b (B.cells ++ cs).length 0 (len + n)) v := by
  obtain ⟨_, _, e3, e4⟩ := hg.ent b _ B id ho
  unfold VR at hs
  have hs := hs.2.2 B id ho
  cases hst : B.st with
  | dead => exact absurd hst e4
  | nul =>
    simp only [hst] at hs
    obtain ⟨_, rfl, rfl⟩ := hs
    have hc0 := e3 hst
    have := app_new (P := P) (σ := σ) (cells := B.cells) (k0 := B.k) (b := b) (len := 0) (cap := 0) (base := none) (olds := []) (ty := ty) ht ht' hk hby hz hg hup hsrc hx hb hk0 (by rw [hc0]; simp) (by rw [hc0]; rfl) (fun w1 _ => by simp [Builtin.firstCells]) (by rw [hc0]; simp) (by omega) (by omega)
    simpa using this
  | live =>
    simp only [hst] at hs
    obtain ⟨c, el, o, cap, g1, rfl, g3, g4, g5⟩ := hs
    obtain ⟨_, c', el', n2, n3, n4⟩ := hg.live b _ B id ho hst
    rw [g1] at n2
    simp only [Option.some.injEq, Obj.cells.injEq] at n2
    obtain ⟨rfl, rfl, _⟩ := n2
    by_cases hfit : len + n ≤ cap
    · have hcap : 0 < cap := by omega
      have ho0 := g3 hcap
      subst ho0
      obtain ⟨vals, ⟨q, m, hvx⟩, hf, hcl, hvl, hvals⟩ := src_run (P := P) hsrc hg hup hx
      have hfit' : B.cells.length + vals.length ≤ c.size := by
        have : (len + n) * kst k ≤ cap * kst k := Nat.mul_le_mul_right _ hfit
        rw [Nat.add_mul] at this
        rw [hk0] at g5
        omega
      obtain ⟨p1, p2⟩ := post_fits hg ho hst hb honly g1 hfit' hvl hvals
      have hone : ∀ v ∈ vals, v.oneCell' = true := fun v hv => by
        obtain ⟨i, hi⟩ := List.getElem?_of_mem hv
        have hlt := (List.getElem?_eq_some_iff.1 hi).1
        obtain ⟨y, m1, m2, m3⟩ := hvals i cs[i] (List.getElem?_eq_getElem (by omega))
        rw [hi] at m1; simp at m1; subst m1; exact m3
      have hstore := run_storeCells_at P id B.cells.length el vals 0 c w g1 (by omega) hone
      have happ := append_fits (P := P) (w := w) (ty := ty) (base := some ⟨id, 0, none⟩) ht ht' hk hvx (hf w rfl) hfit (fun b hb => by
        simp at hb; subst hb
        rw [add_addr, Nat.zero_add, ← hu]
        exact hstore) (fun h => by simp at h)
      refine ⟨_, _, id, happ, p1, p2, ?_⟩
      have hH' : (w.setRow id (c.toList.take B.cells.length ++ vals ++ c.toList.drop (B.cells.length + vals.length)).toArray).heap[id]? = some (.cells _ el (0, 0)) := setRow_heap w id c _ el (0, 0) g1
      refine sl_new (B := ⟨B.k, B.cells ++ cs, .live⟩) (id := id) (by simp [addOwn]) (.inl ⟨rfl, rfl⟩) rfl hH' hfit ?_
      rw [hk0] at g5 ⊢
      simp only [List.size_toArray, List.length_append, List.length_take, List.length_drop, Array.length_toList]
      omega
    · by_cases h0 : len = 0
      · subst h0
        have hc0 : B.cells = [] := List.eq_nil_of_length_eq_zero (by omega)
        refine app_new (P := P) (σ := σ) (cells := B.cells) (k0 := B.k) (b := b) (olds := []) (ty := ty) ht ht' hk hby hz hg hup hsrc hx hb hk0 hu (by rw [hc0]; rfl) (fun w1 h1 => ?_) (by rw [hc0]; simp) (by omega) hbig
        have := run_loadCells (P := P) w1 ⟨id, o, none⟩ 0 (fun _ => undef) (fun j hj => absurd hj (Nat.not_lt_zero j))
        simpa [Builtin.firstCells] using this
      · obtain rfl := g3 (by omega)
        obtain ⟨olds, k1, k2, k3⟩ := load_lies (P := P) (cs := B.cells) (off := 0) g1 (fun i q hi => by rw [Nat.zero_add]; exact n4 i q hi)
        exact app_new (P := P) (σ := σ) (cells := B.cells) (k0 := B.k) (b := b) (olds := olds) (ty := ty) ht ht' hk hby hz hg hup hsrc hx hb hk0 hu k2 (fun w1 h1 => by simp only [Builtin.firstCells]; rw [← hu]; exact k1 w1 h1) k3 (by omega) hbig
end
end Ab
namespace Ab
open Go
variable {P : Program}
section
variable {a : Act} {ρ : Operand → Value} {r : Rf → AV} {w : World} {C : Ctx} {R : Operand → Rf → Bool} {ce : CE} {σ : List Blk} {nl : Nat} {ps : List Pend}

theorem eqK_eq {a b : Option Nat} (h : eqK a b = true) : a = b := by
  cases a <;> cases b <;> simp [eqK] at h <;> simp [h]

/-- Nothing is added: the slice is as it was. -/
theorem app_none {T T' e : TypeId} {k : Option Nat} (ht : sliceOf P T = some e) (ht' : (sliceOf P T').isSome = true) (hk : kindIs P e k = true) {ty : TypeId} {X : AV} {vx vs : Value} {cs : List AV} (hg : Good C w)
    (hup : ∀ b u B, upto σ b u = some B → ∃ id, C.own b u = some (B, id)) (hsrc : srcCells σ k X = some (0, cs)) (hx : VR C w.heap X vx) (hs : ∃ a l c, vs = .slice a l c ∧ l ≤ c) :
    (Builtin.append_ #[T, T'] ty #[vs, vx]).run P w = .ok vs w := by
  obtain ⟨base, l, c, rfl, hlc⟩ := hs
  obtain ⟨vals, ⟨q, m, hvx⟩, hf, hcl, hvl, hvals⟩ := src_run (P := P) hsrc hg hup hx
  have hv0 : vals = [] := List.eq_nil_of_length_eq_zero (by omega)
  subst hv0
  have := append_fits (P := P) (w := w) (w' := w) (ty := ty) (base := base) (len := l) (cap := c) ht ht' hk hvx (hf w rfl) (by omega) (fun b _ => rfl) (fun _ => rfl)
  simpa using this

theorem dn_app {o : Oper} {ca : Call} {s x : Operand} {t t' e : TypeId} {s' x' : Rf} {k : Option Nat} {z : AV} {p : Option Pend} (ho : o.op = .call ca) (hc : ca.callee = .builtin .append) (ha : ca.args.toList = [s, x]) (hat : ca.argTypes.toList = [t, t'])
    (ht : sliceOf P t = some e) (ht' : (sliceOf P t').isSome = true) (hk : kindIs P e k = true) (hby : bytesOk P e = true) (hz : hasZero P e = true) (hg : Good C w)
    (hup : ∀ b u B, upto σ b u = some B → ∃ id, C.own b u = some (B, id)) (hb : ∀ u, ¬ C.lim nl u)
    (hgr : ∀ b u B cs, upto σ b u = some B → p = some (.grow b cs) → grows b ps = false → (∀ n, u < n → ¬ C.lim b n) ∧ ∀ u' B' id', C.own b u' = some (B', id') → u' = u)
    (hs : VR C w.heap (r s') (a.eval s)) (hx : VR C w.heap (r x') (a.eval x)) (he : ev ce σ nl ps r (.app s' x' k) = some (z, p)) : Does P o a w (PostE nl C w z p) := by
  simp only [ev] at he
  cases hsrc : srcCells σ k (r x') with
  | none => simp [hsrc] at he
  | some ncs =>
    obtain ⟨n, cs⟩ := ncs
    simp only [hsrc] at he
    cases hs' : r s' <;> simp only [hs'] at he <;> try (simp at he; done)
    · -- nil
      rw [hs'] at hs
      have hv : a.eval s = .slice none 0 0 := hs
      by_cases hn : n = 0
      · subst hn
        simp at he; obtain ⟨rfl, rfl⟩ := he
        refine append_does ho hc ha hat (app_none ht ht' hk hg hup hsrc hx ⟨none, 0, 0, hv, Nat.le_refl 0⟩) ?_
        exact (PostP.same hg (by rw [hv]; exact rfl)).e
      · have hn' : (n == 0) = false := by simpa using hn
        simp only [hn', Bool.false_eq_true, if_false] at he
        split at he
        case isFalse => simp at he
        rename_i hbig
        simp only [Option.some.injEq, Prod.mk.injEq] at he
        obtain ⟨rfl, rfl⟩ := he
        obtain ⟨v, w', id', h1, h2, h3, h4⟩ := app_new (P := P) (σ := σ) (cells := []) (k0 := k) (b := nl) (len := 0) (cap := 0) (base := none) (olds := []) (ty := o.type) ht ht' hk hby hz hg hup hsrc hx (hb _) rfl (by simp) rfl (fun w1 _ => by simp [Builtin.firstCells]) (by simp) (by omega) (by omega)
        rw [← hv] at h1
        simp only [List.nil_append, Nat.zero_add] at h2 h3 h4
        exact append_does ho hc ha hat h1 ⟨_, h2, h3, h4, id', rfl, rfl⟩
    · -- a literal
      rename_i l
      rw [hs'] at hs
      have hs0 := hs
      unfold VR at hs
      obtain ⟨blk, off, st, c, el, fz, hv, hI, hH, hl⟩ := hs
      by_cases hn : n = 0
      · subst hn
        simp at he; obtain ⟨rfl, rfl⟩ := he
        refine append_does ho hc ha hat (app_none ht ht' hk hg hup hsrc hx ⟨_, _, _, hv, Nat.le_refl _⟩) ?_
        refine (PostP.same hg ?_).e
        split
        · rename_i hnl
          unfold VR
          exact ⟨hnl, .inr ⟨blk, off, l.length, st, c, el, fz, hv, Nat.le_refl _, hI, hH, hl⟩⟩
        · exact hs0
      · have hn' : (n == 0) = false := by simpa using hn
        simp only [hn', Bool.false_eq_true, if_false] at he
        split at he
        case isFalse => simp at he
        rename_i hcond
        simp only [Bool.and_eq_true, decide_eq_true_eq] at hcond
        simp only [Option.some.injEq, Prod.mk.injEq] at he
        obtain ⟨rfl, rfl⟩ := he
        obtain ⟨olds, _, k1, k2, k3, k4⟩ := src_run (P := P) (σ := σ) (k := k) (X := .arr l) (v := a.eval s) (n := l.length) (cs := l.flatMap AV.cells) (by simp only [srcCells, hcond.1, if_true]) hg hup hs0
        rw [hv] at k1
        obtain ⟨v, w', id', h1, h2, h3, h4⟩ := app_new (P := P) (σ := σ) (cells := l.flatMap AV.cells) (k0 := k) (b := nl) (olds := olds) (ty := o.type) ht ht' hk hby hz hg hup hsrc hx (hb _) rfl k2 k3 k1 k4 (by omega) hcond.2
        rw [← hv] at h1
        exact append_does ho hc ha hat h1 ⟨_, h2, h3, h4, id', rfl, rfl⟩
    · -- an owned slice
      rename_i b u off len
      cases hu : upto σ b u with
      | none => simp [hu] at he
      | some B =>
        simp only [hu] at he
        split at he
        case isFalse => simp at he
        rename_i hcond
        simp only [Bool.and_eq_true, beq_iff_eq, decide_eq_true_eq, Bool.not_eq_true'] at hcond
        obtain ⟨⟨⟨⟨rfl, hul⟩, hbig⟩, hgr'⟩, hkk⟩ := hcond
        have hkk := eqK_eq hkk
        obtain ⟨id, hown⟩ := hup b u B hu
        have hul' := (hg.ent b u B id hown).2.1
        rw [hs'] at hs
        by_cases hn : n = 0
        · subst hn
          simp at he; obtain ⟨rfl, rfl⟩ := he
          have hsh : ∃ a' l' c', a.eval s = .slice a' l' c' ∧ l' ≤ c' := by
            unfold VR at hs
            obtain ⟨⟨q, c, e1, e2, _⟩, _⟩ := hs
            exact ⟨_, _, _, e1, e2⟩
          exact append_does ho hc ha hat (app_none ht ht' hk hg hup hsrc hx hsh) (PostP.same hg hs).e
        · have hn' : (n == 0) = false := by simpa using hn
          simp only [hn', Bool.false_eq_true, if_false] at he
          split at he
          case isTrue => simp at he
          rename_i hcs
          simp at hcs
          simp only [Option.some.injEq, Prod.mk.injEq] at he
          obtain ⟨rfl, rfl⟩ := he
          subst hul'
          obtain ⟨q1, q2⟩ := hgr b _ B cs hu rfl hgr'
          have hlt : B.cells.length < (B.cells ++ cs).length := by
            have : 0 < cs.length := List.length_pos_iff.2 hcs
            simp; omega
          obtain ⟨v, w', id', h1, h2, h3, h4⟩ := app_core (P := P) (σ := σ) (ty := o.type) ht ht' hk hby hz hg hup hsrc hx hown hul (by rw [hkk]) hs (by omega) hbig (q1 _ hlt) q2
          have e1 : B.cells.length + cs.length = (B.cells ++ cs).length := by simp
          rw [e1]
          exact append_does ho hc ha hat h1 ⟨_, h2, h3, h4, B, id, id', hcs, hown, rfl, rfl⟩
end
end Ab
