/- Literals of slices, new blocks, appends. Condition: none. -/
import Derived.Test.YtgaidfgpedibhaaAbOps
set_option linter.all false
namespace Ab
open Go
variable {P : Program}
section
variable {a : Act} {ρ : Operand → Value} {r : Rf → AV} {w : World} {C : Ctx} {R : Operand → Rf → Bool} {ce : CE} {σ : List Blk} {nl : Nat} {ps : List Pend}

/-- A slice literal's cells. -/
theorem fill_seq (sz : Nat) : ∀ (vs : List Value) (k : Nat) (c : Array Value), (∀ v, v ∈ vs → v.cells.size = sz) → (k + vs.length) * sz ≤ c.size →
    ∃ c', Instr.fill (fun i => some (i * sz, sz)) c ((vs.zipIdx k).map fun p => (p.2, p.1)) = some c' ∧ c'.size = c.size ∧ (∀ i, i < k * sz → c'[i]? = c[i]?) ∧
      ∀ (i : Nat) v, vs[i]? = some v → ∀ j, j < sz → c'[(k + i) * sz + j]? = v.cells[j]?
  | [], k, c, _, _ => ⟨c, rfl, rfl, fun _ _ => rfl, fun i v h => by simp at h⟩
  | v :: vs, k, c, hv, hb => by
    have hs := hv v (by simp)
    have hk : k * sz + sz ≤ c.size := by
      have : (k + 1) * sz ≤ (k + (v :: vs).length) * sz := Nat.mul_le_mul_right _ (by simp)
      rw [Nat.add_mul] at this
      omega
    simp only [List.zipIdx_cons, List.map_cons, Instr.fill]
    rw [if_neg (by rw [hs]; simp; omega)]
    have hf : ∀ i, (v.cells.zipIdx.foldl (fun cs (c, j) => cs.setIfInBounds (k * sz + j) c) c).size = c.size ∧ (v.cells.zipIdx.foldl (fun cs (c, j) => cs.setIfInBounds (k * sz + j) c) c)[i]? = if k * sz ≤ i ∧ i < k * sz + v.cells.size then v.cells[i - k * sz]? else c[i]? := fun i => by
      have := fill_one (k * sz) v.cells.toList 0 c i (by simp; omega)
      rw [← Array.foldl_toList]
      simp only [Array.toList_zipIdx]
      simpa using this
    obtain ⟨c', h1, h2, h3, h4⟩ := fill_seq sz vs (k + 1) (v.cells.zipIdx.foldl (fun cs (c, j) => cs.setIfInBounds (k * sz + j) c) c) (fun u hu => hv u (by simp [hu])) (by
      rw [(hf 0).1]
      have : (k + (v :: vs).length) = k + 1 + vs.length := by simp; omega
      rwa [this] at hb)
    refine ⟨c', h1, by rw [h2, (hf 0).1], fun i hi => ?_, fun i u hu j hj => ?_⟩
    · rw [h3 i (by rw [Nat.add_mul]; omega), (hf i).2, if_neg (by omega)]
    · cases i with
      | zero =>
        simp at hu; subst hu
        simp only [Nat.add_zero]
        rw [h3 _ (by rw [Nat.add_mul]; omega), (hf _).2, if_pos (by omega)]
        congr 1; omega
      | succ i =>
        have := h4 i u (by simpa using hu) j hj
        rw [show k + (i + 1) = k + 1 + i by omega]
        exact this

theorem fitAll_mem {st : Nat} : ∀ {l : List AV}, fitAll st l = true → ∀ x ∈ l, x.cells.length = st ∧ Solid x
  | [], _, x, hx => by simp at hx
  | y :: l, h, x, hx => by
    simp only [fitAll, Bool.and_eq_true, beq_iff_eq] at h
    rcases List.mem_cons.1 hx with rfl | hx
    · exact ⟨h.1.1, notUnd_iff h.1.2⟩
    · exact fitAll_mem h.2 x hx

theorem inOrder_zip : ∀ {k : Nat} {ps : List (Nat × Operand)}, inOrder k ps = true → ∀ (f : Operand → Value), ps.map (fun p => (p.1, f p.2)) = ((ps.map fun p => f p.2).zipIdx k).map fun p => (p.2, p.1)
  | _, [], _, _ => rfl
  | k, (i, x) :: r, h, f => by
    simp only [inOrder, Bool.and_eq_true, beq_iff_eq] at h
    simp only [List.map_cons, List.zipIdx_cons, h.1]
    rw [inOrder_zip h.2 f]

theorem VRL.get' {H : Array Obj} : ∀ {l : List AV} {vs : List Value}, VRL C H l vs → ∀ (i : Nat) v, vs[i]? = some v → ∃ x, l[i]? = some x ∧ VR C H x v
  | [], vs, h, i, v, hi => by rw [show vs = [] from h] at hi; simp at hi
  | x :: l, _, ⟨v0, s, e, hx, hr⟩, 0, v, hi => by rw [e] at hi; simp at hi; subst hi; exact ⟨x, rfl, hx⟩
  | x :: l, _, ⟨v0, s, e, hx, hr⟩, i + 1, v, hi => by rw [e] at hi; exact VRL.get' hr i v (by simpa using hi)

/-- A slice literal: its run, and what lies in its cells. -/
theorem lit_run {t e : TypeId} {n st : Nat} {xs : Array (Nat × Operand)} {ys : List Rf} (ht : sliceOf P t = some e) (hst : sizeIs P e st = true) (hz : hasZero P e = true) (hb : n * st ≤ 2 ^ 24) (hn : (n == xs.size) = true) (ho : inOrder 0 xs.toList = true)
    (hx : VRL C w.heap (ys.map r) ((xs.toList.map (·.2)).map ρ)) (hf : fitAll st (ys.map r) = true) :
    ∃ c : Array Value, (Instr.buildSlice t n (xs.map fun (i, x) => (i, ρ x))).run P w = .ok (.slice (some ⟨w.heap.size, 0, none⟩) ys.length ys.length) (pushW w (.cells c e)) ∧ c.size = ys.length * st ∧
      ∀ (i : Nat) x, (ys.map r)[i]? = some x → ∃ v, VR C w.heap x v ∧ v.cells.size = st ∧ Solid x ∧ ∀ j, j < st → c[i * st + j]? = v.cells[j]? := by
  have hlen : ys.length = n := by
    have h1 := VRL.length hx
    simp at h1 hn
    omega
  have hxs : (xs.map fun (i, x) => (i, ρ x)).toList = (((xs.toList.map (·.2)).map ρ).zipIdx 0).map fun p => (p.2, p.1) := by
    have := inOrder_zip ho ρ
    simp only [Array.toList_map, List.map_map] at this ⊢
    exact this
  have hsz : ∀ v, v ∈ (xs.toList.map (·.2)).map ρ → v.cells.size = st := fun v hv => by
    obtain ⟨i, hi⟩ := List.getElem?_of_mem hv
    obtain ⟨x, h1, h2⟩ := VRL.get' hx i v hi
    obtain ⟨h3, h4⟩ := fitAll_mem hf x (List.mem_of_getElem? h1)
    rw [VR.size h4 h2, h3]
  obtain ⟨z, hz'⟩ : ∃ z, (zeroValue e).run P w = .ok z w := by
    unfold hasZero at hz
    cases hi : P.info? e with
    | none => simp [hi] at hz
    | some i =>
      simp only [hi] at hz
      cases hzz : i.zero with
      | none => simp [hzz] at hz
      | some z => exact ⟨z, by simp only [zeroValue, Sem.run_bind, run_typeInfo w hi, Result.andThen_ok, hzz, Sem.run_pure]⟩
  have hu := slice_und ht w
  have hsi := info_size hst w
  have hnl : ((xs.toList.map (·.2)).map ρ).length = n := by have := VRL.length hx; simp at this; simp; omega
  -- whatever the zero cells are
  have key : ∀ zc : Array Value, ∃ c, Instr.fill (fun i => some (i * st, st)) ((Array.range (n * st)).map fun q => zc[q % zc.size]!) (xs.map fun (i, x) => (i, ρ x)).toList = some c ∧ c.size = ys.length * st ∧
      ∀ (i : Nat) x, (ys.map r)[i]? = some x → ∃ v, VR C w.heap x v ∧ v.cells.size = st ∧ Solid x ∧ ∀ j, j < st → c[i * st + j]? = v.cells[j]? := fun zc => by
    obtain ⟨c, h1, h2, _, h4⟩ := fill_seq st ((xs.toList.map (·.2)).map ρ) 0 ((Array.range (n * st)).map fun q => zc[q % zc.size]!) hsz (by rw [hnl]; simp)
    refine ⟨c, by rw [hxs]; exact h1, by rw [h2, hlen]; simp, fun i x hi => ?_⟩
    obtain ⟨v, g1, g2⟩ := hx.get i x hi
    obtain ⟨h5, h6⟩ := fitAll_mem hf x (List.mem_of_getElem? hi)
    exact ⟨v, g2, by rw [VR.size h6 g2, h5], h6, fun j hj => by have := h4 i v g1 j hj; simpa using this⟩
  by_cases h0 : n * st = 0
  · obtain ⟨c, h1, h2, h3⟩ := key #[]
    refine ⟨c, ?_, h2, h3⟩
    simp only [Instr.buildSlice, Sem.run_bind, hu, hsi, Result.andThen_ok]
    rw [if_neg (by omega)]
    simp only [h0, if_true, Sem.run_bind, Sem.run_pure, Result.andThen_ok]
    simp only [h0] at h1
    simp only [h1, run_newRow, Sem.run_bind, Sem.run_pure, Result.andThen_ok, hlen]
  · obtain ⟨c, h1, h2, h3⟩ := key z.cells
    refine ⟨c, ?_, h2, h3⟩
    simp only [Instr.buildSlice, Sem.run_bind, hu, hsi, Result.andThen_ok]
    rw [if_neg (by omega)]
    simp only [h0, if_false, Sem.run_bind, hz', Sem.run_pure, Result.andThen_ok]
    simp only [h1, run_newRow, Sem.run_bind, Sem.run_pure, Result.andThen_ok, hlen]

theorem dp_liti {o : Oper} {t e : TypeId} {n st : Nat} {xs : Array (Nat × Operand)} {ys : List Rf} {x : AV} {p : Option Pend} (ho : o.op = .buildSlice t n xs) (ht : sliceOf P t = some e) (hst : sizeIs P e st = true) (hz : hasZero P e = true) (hb : n * st ≤ 2 ^ 24) (hn : (n == xs.size) = true) (hio : inOrder 0 xs.toList = true)
    (hg : Good C w) (hx : VRL C w.heap (ys.map r) ((xs.toList.map (·.2)).map a.eval)) (he : ev ce σ nl ps r (.liti ys st) = some (x, p)) : Does P o a w (PostP C w x) ∧ p = none := by
  simp only [ev] at he
  split at he <;> simp at he
  rename_i hc
  obtain ⟨rfl, rfl⟩ := he
  simp only [Bool.and_eq_true] at hc
  obtain ⟨c, h1, h2, h3⟩ := lit_run ht hst hz hb hn hio hx hc.2
  refine ⟨Does.val (v := .slice (some ⟨w.heap.size, 0, none⟩) ys.length ys.length) (w' := pushW w (.cells c e)) ?_ ?_, rfl⟩
  · simp only [execOp, ho, Sem.run_bind, h1, Result.andThen_ok, Sem.run_pure]
  · obtain ⟨g1, g2⟩ := push_imm hg c e
    refine ⟨_, g1, g2, ?_⟩
    unfold VR
    refine ⟨hc.1, .inr ⟨w.heap.size, 0, ys.length, st, c, e, (0, 0), by simp, by simp, .inr rfl, push_new w _, VRI.of fun i x hi => ?_⟩⟩
    obtain ⟨v, k1, k2, _, k3⟩ := h3 i x hi
    exact ⟨v, VR.mono g2.ev _ _ k1, k2, fun j hj => by rw [Nat.zero_add]; exact k3 j hj⟩

theorem dp_lita {o : Oper} {t e : TypeId} {n st : Nat} {xs : Array (Nat × Operand)} {ys : List Rf} {x : AV} {p : Option Pend} (ho : o.op = .buildSlice t n xs) (ht : sliceOf P t = some e) (hst : sizeIs P e st = true) (hz : hasZero P e = true) (hb : n * st ≤ 2 ^ 24) (hn : (n == xs.size) = true) (hio : inOrder 0 xs.toList = true)
    (hg : Good C w) (hx : VRL C w.heap (ys.map r) ((xs.toList.map (·.2)).map a.eval)) (he : ev ce σ nl ps r (.lita ys st) = some (x, p)) : Does P o a w (PostP C w x) ∧ p = none := by
  simp only [ev] at he
  split at he <;> simp at he
  rename_i hc
  obtain ⟨rfl, rfl⟩ := he
  obtain ⟨c, h1, h2, h3⟩ := lit_run ht hst hz hb hn hio hx hc
  refine ⟨Does.val (v := .slice (some ⟨w.heap.size, 0, none⟩) ys.length ys.length) (w' := pushW w (.cells c e)) ?_ ?_, rfl⟩
  · simp only [execOp, ho, Sem.run_bind, h1, Result.andThen_ok, Sem.run_pure]
  · obtain ⟨g1, g2⟩ := push_imm hg c e
    refine ⟨_, g1, g2, ?_⟩
    unfold VR
    refine ⟨w.heap.size, 0, st, c, e, (0, 0), by simp, .inr rfl, push_new w _, VRI.of fun i x hi => ?_⟩
    obtain ⟨v, k1, k2, _, k3⟩ := h3 i x hi
    exact ⟨v, VR.mono g2.ev _ _ k1, k2, fun j hj => by rw [Nat.zero_add]; exact k3 j hj⟩

/-- What an entry of a phase adds. -/
def Ext (nl : Nat) : Option Pend → Ctx → Ctx → Prop
  | none, C, C' => C'.own = C.own ∧ C'.lim = C.lim
  | some (.new B), C, C' => ∃ id, C'.own = (addOwn C nl B.cells.length (B, id)).own ∧ C'.lim = (addOwn C nl B.cells.length (B, id)).lim
  | some (.news l), C, C' => ∃ ids : Nat → Nat, C'.own = (fun b u => if nl ≤ b ∧ b < nl + l.length then (ctxOf l ids C.I).own (b - nl) u else C.own b u) ∧ C'.lim = (fun b u => (nl ≤ b ∧ (ctxOf l ids C.I).lim (b - nl) u) ∨ C.lim b u)
  | some (.grow b cs), C, C' => ∃ B0 id0 id, cs ≠ [] ∧ C.own b B0.cells.length = some (B0, id0) ∧ C'.own = (addOwn C b (B0.cells ++ cs).length (⟨B0.k, B0.cells ++ cs, .live⟩, id)).own ∧ C'.lim = (addOwn C b (B0.cells ++ cs).length (⟨B0.k, B0.cells ++ cs, .live⟩, id)).lim

/-- A value, with what it adds to what is owned. -/
def PostE (nl : Nat) (C : Ctx) (w : World) (x : AV) (p : Option Pend) (v : Value) (w' : World) : Prop :=
  ∃ C', Good C' w' ∧ Step C w C' w' ∧ VR C' w'.heap x v ∧ Ext nl p C C'

theorem PostP.e {nl : Nat} {x : AV} {v : Value} {w' : World} (h : PostP C w x v w') : PostE nl C w x none v w' := by
  obtain ⟨I', h1, h2, h3⟩ := h
  exact ⟨_, h1, h2, h3, rfl, rfl⟩

theorem post_new {x : AV} {v : Value} {B : Blk} {c : Array Value} {el : TypeId} (hg : Good C w) (hb : ∀ u, ¬ C.lim nl u) (hst : B.st = .live) (hle : B.cells.length ≤ c.size)
    (hc : ∀ (i : Nat) x, B.cells[i]? = some x → ∃ y, c[i]? = some y ∧ VR C w.heap x y ∧ y.oneCell' = true)
    (hv : ∀ C', C'.own nl B.cells.length = some (B, w.heap.size) → C'.lim nl B.cells.length → VR C' (pushW w (.cells c el)).heap x v) : PostE nl C w x (some (.new B)) v (pushW w (.cells c el)) := by
  obtain ⟨h1, h2⟩ := push_own hg B (hb _) c el hst hle hc
  exact ⟨_, h1, h2, hv _ (by simp [addOwn]) (.inl ⟨rfl, rfl⟩), w.heap.size, rfl, rfl⟩

theorem cells_of {x : AV} {v : Value} {H : Array Obj} (hu : Solid x) (h : VR C H x v) : ∀ (i : Nat) q, x.cells[i]? = some q → ∃ y, v.cells[i]? = some y ∧ VR C H q y ∧ y.oneCell' = true := fun i q hi => by
  obtain ⟨h1, h2⟩ := VR.cells hu h
  obtain ⟨y, g1, g2⟩ := h1.get i q hi
  rw [Array.getElem?_toList] at g1
  exact ⟨y, g1, g2, h2 y (by rw [Array.mem_toList_iff]; exact Array.mem_of_getElem? g1)⟩

/-- A pointer to a whole new block. -/
theorem ptr_new {B : Blk} {id : Nat} {C' : Ctx} {H : Array Obj} {b u : Nat} (h1 : C'.own b u = some (B, id)) (h2 : C'.lim b u) : VR C' H (.ptr b u 0) (.pointer (some ⟨id, 0, none⟩)) := by
  unfold VR
  exact ⟨⟨id, rfl⟩, h2, fun B' id' h _ => by rw [h1] at h; simp at h; rw [h.2]⟩
/-- A slice over a whole new block. -/
theorem sl_new {B : Blk} {id : Nat} {C' : Ctx} {H : Array Obj} {b u len cap : Nat} {c : Array Value} {el : TypeId} (h1 : C'.own b u = some (B, id)) (h2 : C'.lim b u) (hs : B.st = .live) (hH : H[id]? = some (.cells c el (0, 0))) (hl : len ≤ cap)
    (hc : cap * kst B.k = c.size) : VR C' H (.sl b u 0 len) (.slice (some ⟨id, 0, none⟩) len cap) := by
  unfold VR
  refine ⟨⟨_, _, rfl, hl, fun _ => ⟨id, rfl⟩⟩, h2, fun B' id' h => ?_⟩
  rw [h1] at h; simp at h
  obtain ⟨rfl, rfl⟩ := h
  simp only [hs]
  exact ⟨c, el, 0, cap, hH, rfl, fun _ => rfl, hl, by omega⟩

theorem dn_bxm {o : Oper} {t : TypeId} {x0 : Operand} {y : Rf} {k : Option Nat} {x : AV} {p : Option Pend} (ho : o.op = .box t x0) (hg : Good C w) (hb : ∀ u, ¬ C.lim nl u) (h0 : VR C w.heap (r y) (a.eval x0))
    (he : ev ce σ nl ps r (.bxm y k) = some (x, p)) : Does P o a w (PostE nl C w x p) := by
  simp only [ev] at he
  split at he <;> simp at he
  rename_i hc
  simp only [Bool.and_eq_true, beq_iff_eq] at hc
  obtain ⟨rfl, rfl⟩ := he
  have hu := notUnd_iff hc.2
  refine Does.val (v := .pointer (some ⟨w.heap.size, 0, none⟩)) (w' := pushW w (.cells (a.eval x0).cells t)) ?_ (post_new hg hb rfl ?_ ?_ ?_)
  · simp only [execOp, ho, Instr.box, Sem.run_bind, run_newVar, Result.andThen_ok, Sem.run_pure]
  · rw [VR.size hu h0]; exact Nat.le_refl _
  · exact cells_of hu h0
  · intro C' h1 h2
    simp only [hc.1] at h1 h2
    exact ptr_new h1 h2

theorem dn_alc {o : Oper} {t : TypeId} {z : List AV} {k : Option Nat} {x : AV} {p : Option Pend} (ho : o.op = .alloc t) (hz : zeroIs P t z = true) (hg : Good C w) (hb : ∀ u, ¬ C.lim nl u)
    (he : ev ce σ nl ps r (.alc z k) = some (x, p)) : Does P o a w (PostE nl C w x p) := by
  simp only [ev] at he
  split at he <;> simp at he
  rename_i hc
  simp only [beq_iff_eq] at hc
  obtain ⟨rfl, rfl⟩ := he
  obtain ⟨v, h1, h2, h3⟩ := zero_run (C := C) hz w
  refine Does.val (v := .pointer (some ⟨w.heap.size, 0, none⟩)) (w' := pushW w (.cells v.cells t)) ?_ (post_new hg hb rfl ?_ ?_ ?_)
  · simp only [execOp, ho, Instr.alloc, Sem.run_bind, h1, run_newVar, Result.andThen_ok, Sem.run_pure]
  · have := VRL.length h2; simp at this; simp [this]
  · intro i q hi
    obtain ⟨y, g1, g2⟩ := h2.get i q hi
    rw [Array.getElem?_toList] at g1
    exact ⟨y, g1, g2, h3 y (by rw [Array.mem_toList_iff]; exact Array.mem_of_getElem? g1)⟩
  · intro C' k1 k2
    simp only [hc] at k1 k2
    exact ptr_new k1 k2

theorem flat_get {st : Nat} : ∀ {l : List AV}, (∀ x ∈ l, x.cells.length = st) → (l.flatMap AV.cells).length = l.length * st ∧ ∀ (i : Nat) x j, l[i]? = some x → j < st → (l.flatMap AV.cells)[i * st + j]? = x.cells[j]?
  | [], _ => ⟨by simp, fun i x j h => by simp at h⟩
  | y :: l, h => by
    obtain ⟨h1, h2⟩ := flat_get (l := l) fun x hx => h x (by simp [hx])
    have hy := h y (by simp)
    refine ⟨by simp only [List.flatMap_cons, List.length_append, h1, hy, List.length_cons]; rw [Nat.add_mul]; omega, fun i x j hi hj => ?_⟩
    simp only [List.flatMap_cons]
    cases i with
    | zero =>
      simp at hi; subst hi
      rw [List.getElem?_append_left (by omega)]; simp
    | succ i =>
      rw [List.getElem?_append_right (by rw [hy, Nat.add_mul]; omega), hy, ← h2 i x j (by simpa using hi) hj]
      congr 1
      rw [Nat.add_mul]; omega

/-- Cells that lie element by element, cell by cell. -/
theorem flat_cells {H : Array Obj} {st : Nat} {l : List AV} {c : Array Value} {off : Nat} (hst : ∀ x ∈ l, x.cells.length = st)
    (h : ∀ (i : Nat) x, l[i]? = some x → ∃ v, VR C H x v ∧ v.cells.size = st ∧ Solid x ∧ ∀ j, j < st → c[off + (i * st + j)]? = v.cells[j]?) :
    ∀ (i : Nat) q, (l.flatMap AV.cells)[i]? = some q → ∃ y, c[off + i]? = some y ∧ VR C H q y ∧ y.oneCell' = true := fun i q hi => by
  obtain ⟨h1, h2⟩ := flat_get hst
  have hlt := (List.getElem?_eq_some_iff.1 hi).1
  rw [h1] at hlt
  have hpos : 0 < st := by
    rcases Nat.eq_zero_or_pos st with h0 | h0
    · subst h0; simp at hlt
    · exact h0
  have hq : i / st < l.length := (Nat.div_lt_iff_lt_mul hpos).2 hlt
  have hr := Nat.mod_lt i hpos
  have e : i = i / st * st + i % st := by rw [Nat.mul_comm]; exact (Nat.div_add_mod i st).symm
  obtain ⟨v, g1, g2, g3, g4⟩ := h (i / st) l[i / st] (by simp [hq])
  rw [e] at hi ⊢
  rw [h2 (i / st) l[i / st] (i % st) (by simp [hq]) hr] at hi
  rw [g4 _ hr]
  exact cells_of g3 g1 _ q hi

theorem dn_litm {o : Oper} {t e : TypeId} {n : Nat} {k : Option Nat} {xs : Array (Nat × Operand)} {ys : List Rf} {x : AV} {p : Option Pend} (ho : o.op = .buildSlice t n xs) (ht : sliceOf P t = some e) (hst : kindIs P e k = true) (hz : hasZero P e = true) (hb' : n * kst k ≤ 2 ^ 24) (hn : (n == xs.size) = true) (hio : inOrder 0 xs.toList = true)
    (hg : Good C w) (hb : ∀ u, ¬ C.lim nl u) (hx : VRL C w.heap (ys.map r) ((xs.toList.map (·.2)).map a.eval)) (he : ev ce σ nl ps r (.litm ys k) = some (x, p)) : Does P o a w (PostE nl C w x p) := by
  simp only [ev] at he
  split at he
  case isFalse => simp at he
  rename_i hc
  simp only [Option.some.injEq, Prod.mk.injEq] at he
  obtain ⟨rfl, rfl⟩ := he
  obtain ⟨c, h1, h2, h3⟩ := lit_run ht (kind_size hst) hz hb' hn hio hx hc
  have hall : ∀ x ∈ ys.map r, x.cells.length = kst k := fun x hx => (fitAll_mem hc x hx).1
  obtain ⟨f1, f2⟩ := flat_get hall
  refine Does.val (v := .slice (some ⟨w.heap.size, 0, none⟩) ys.length ys.length) (w' := pushW w (.cells c e)) ?_ (post_new hg hb rfl ?_ ?_ ?_)
  · simp only [execOp, ho, Sem.run_bind, h1, Result.andThen_ok, Sem.run_pure]
  · simp only [f1, h2]; simp
  · intro i q hi
    have := flat_cells (off := 0) hall (fun i x hi => by obtain ⟨v, g1, g2, g3, g4⟩ := h3 i x hi; exact ⟨v, g1, g2, g3, fun j hj => by rw [Nat.zero_add]; exact g4 j hj⟩) i q hi
    simpa using this
  · intro C' k1 k2
    exact sl_new k1 k2 rfl (push_new w _) (Nat.le_refl _) h2.symm
end
end Ab
