/- append, as the model runs it. Condition: none. -/
import Derived.Test.YtgaidfgpedibhaaAbOps3
set_option linter.all false
namespace Ab
open Go
variable {P : Program}
section
variable {w : World} {C : Ctx}

theorem load_lies {cs : List AV} {blk off : Nat} {c : Array Value} {el : TypeId} {fz : Nat × Nat} (h : w.heap[blk]? = some (.cells c el fz))
    (hc : ∀ (i : Nat) q, cs[i]? = some q → ∃ y, c[off + i]? = some y ∧ VR C w.heap q y ∧ y.oneCell' = true) :
    ∃ vals : List Value, (∀ w1 : World, w1.heap = w.heap → (loadCells ⟨blk, off, none⟩ cs.length).run P w1 = .ok vals.toArray w1) ∧ vals.length = cs.length ∧ ∀ (i : Nat) q, cs[i]? = some q → ∃ y, vals[i]? = some y ∧ VR C w.heap q y ∧ y.oneCell' = true := by
  refine ⟨(List.range cs.length).map fun j => (c[off + j]?).getD undef, fun w1 h1 => run_loadCells w1 _ _ _ fun j hj => ?_, by simp, fun i q hi => ?_⟩
  · obtain ⟨y, h2, _⟩ := hc j cs[j] (by simp [hj])
    rw [add_addr]
    simp [World.cell?, h1, h, h2]
  · obtain ⟨y, h1, h2⟩ := hc i q hi
    have hlt := (List.getElem?_eq_some_iff.1 hi).1
    exact ⟨y, by simp [hlt, h1], h2⟩

theorem fitAll_all {st : Nat} {l : List AV} (h : fitAll st l = true) : ∀ x ∈ l, x.cells.length = st := fun x hx => (fitAll_mem h x hx).1

/-- What an append reads. -/
theorem src_run {σ : List Blk} {k : Option Nat} {X : AV} {v : Value} {n : Nat} {cs : List AV} (h : srcCells σ k X = some (n, cs)) (hg : Good C w) (hup : ∀ b u B, upto σ b u = some B → ∃ id, C.own b u = some (B, id)) (hv : VR C w.heap X v) :
    ∃ vals : List Value, (∃ q m, v = .slice q n m) ∧ (∀ w1 : World, w1.heap = w.heap → (Builtin.firstCells (kst k) n v).run P w1 = .ok vals.toArray w1) ∧ cs.length = n * kst k ∧ vals.length = cs.length ∧ ∀ (i : Nat) q, cs[i]? = some q → ∃ y, vals[i]? = some y ∧ VR C w.heap q y ∧ y.oneCell' = true := by
  have hnilA : ∀ (a : Option Addr) m (w1 : World), w1.heap = w.heap → (Builtin.firstCells (kst k) 0 (.slice a 0 m)).run P w1 = .ok ([] : List Value).toArray w1 := fun a m w1 _ => by
    cases a <;> simp [Builtin.firstCells, loadCells, loadCellsFrom]
  have hnil := hnilA none
  -- elements of an unwritten slice
  have himm : ∀ (l : List AV) (blk off st' cap : Nat) (c : Array Value) (el : TypeId) (fz : Nat × Nat), fitAll (kst k) l = true → v = .slice (some ⟨blk, off, none⟩) l.length cap → w.heap[blk]? = some (.cells c el fz) → VRI C w.heap c st' l off →
      ∃ vals : List Value, (∃ q m, v = .slice q l.length m) ∧ (∀ w1 : World, w1.heap = w.heap → (Builtin.firstCells (kst k) l.length v).run P w1 = .ok vals.toArray w1) ∧ (l.flatMap AV.cells).length = l.length * kst k ∧ vals.length = (l.flatMap AV.cells).length ∧ ∀ (i : Nat) q, (l.flatMap AV.cells)[i]? = some q → ∃ y, vals[i]? = some y ∧ VR C w.heap q y ∧ y.oneCell' = true := by
    intro l blk off st' cap c el fz hf e hH hl
    obtain ⟨f1, f2⟩ := flat_get (fitAll_all hf)
    have hc := flat_cells (C := C) (H := w.heap) (c := c) (off := off) (fitAll_all hf) (fun i x hi => by
      obtain ⟨val, g1, g2, g3⟩ := hl.get i x hi
      obtain ⟨h1, h2⟩ := fitAll_mem hf x (List.mem_of_getElem? hi)
      have hst : st' = kst k := by rw [← g2, VR.size h2 g1, h1]
      subst hst
      exact ⟨val, g1, g2, h2, fun j hj => by rw [← g3 j hj, Nat.add_assoc]⟩)
    obtain ⟨vals, k1, k2, k3⟩ := load_lies (P := P) hH hc
    exact ⟨vals, ⟨_, _, e⟩, fun w1 h1 => by rw [e]; simp only [Builtin.firstCells]; rw [← f1]; exact k1 w1 h1, f1, k2, k3⟩
  cases X <;> simp only [srcCells] at h <;> try (simp at h; done)
  · simp at h; obtain ⟨rfl, rfl⟩ := h
    have hv : v = .slice none 0 0 := hv
    subst hv
    exact ⟨[], ⟨_, _, rfl⟩, hnil 0, by simp, rfl, fun i q h => by simp at h⟩
  · rename_i nn l
    split at h
    case isFalse => simp at h
    rename_i hf
    simp only [Option.some.injEq, Prod.mk.injEq] at h; obtain ⟨rfl, rfl⟩ := h
    unfold VR at hv
    rcases hv.2 with ⟨rfl, _, rfl, _⟩ | ⟨blk, off, cap, st, c, el, fz, e, _, _, hH, hl⟩
    · exact ⟨[], ⟨_, _, rfl⟩, hnilA _ 0, by simp, rfl, fun i q h => by simp at h⟩
    · exact himm l blk off st cap c el fz hf e hH hl
  · rename_i l
    split at h
    case isFalse => simp at h
    rename_i hf
    simp only [Option.some.injEq, Prod.mk.injEq] at h; obtain ⟨rfl, rfl⟩ := h
    unfold VR at hv
    obtain ⟨blk, off, st, c, el, fz, e, _, hH, hl⟩ := hv
    exact himm l blk off st l.length c el fz hf e hH hl
  · rename_i b u off len
    cases hu : upto σ b u with
    | none => simp [hu] at h
    | some B =>
      simp only [hu] at h
      split at h
      case isFalse => simp at h
      rename_i hle
      simp only [Option.some.injEq, Prod.mk.injEq] at h; obtain ⟨rfl, rfl⟩ := h
      obtain ⟨id, ho⟩ := hup b u B hu
      obtain ⟨_, e1, e3, e4⟩ := hg.ent b u B id ho
      unfold VR at hv
      have hv := hv.2.2 B id ho
      have hlen : ((B.cells.drop off).take (len * kst k)).length = len * kst k := by simp; omega
      cases hs : B.st with
      | dead => exact absurd hs e4
      | nul =>
        simp only [hs] at hv
        obtain ⟨rfl, rfl, rfl⟩ := hv
        exact ⟨[], ⟨_, _, rfl⟩, hnil 0, by simp, by simp, fun i q h => by simp at h⟩
      | live =>
        simp only [hs] at hv
        obtain ⟨c, el, o, cap, g1, rfl, g3, g4, g5⟩ := hv
        obtain ⟨_, c', el', n2, n3, n4⟩ := hg.live b u B id ho hs
        rw [g1] at n2
        simp only [Option.some.injEq, Obj.cells.injEq] at n2
        obtain ⟨rfl, rfl, _⟩ := n2
        by_cases h0 : len = 0
        · subst h0
          refine ⟨[], ⟨_, _, rfl⟩, ?_, by simp, by simp, fun i q h => by simp at h⟩
          intro w1 _
          have := run_loadCells (P := P) w1 ⟨id, o, none⟩ 0 (fun _ => undef) (fun j hj => absurd hj (Nat.not_lt_zero j))
          simpa [Builtin.firstCells] using this
        · obtain rfl := g3 (by omega)
          obtain ⟨vals, k1, k2, k3⟩ := load_lies (P := P) (cs := (B.cells.drop o).take (len * kst k)) (off := o) g1 (fun i q hi => by
            have hlt := (List.getElem?_eq_some_iff.1 hi).1
            rw [hlen] at hlt
            rw [List.getElem?_take_of_lt hlt, List.getElem?_drop] at hi
            exact n4 (o + i) q hi)
          exact ⟨vals, ⟨_, _, rfl⟩, fun w1 h1 => by simp only [Builtin.firstCells]; rw [← hlen]; exact k1 w1 h1, hlen, k2, k3⟩

theorem growBy_le (n : Nat) : ∀ (m c : Nat), Builtin.growBy n m c ≤ 2 ^ m * (c + 768)
  | 0, c => by simp [Builtin.growBy]
  | m + 1, c => by
    unfold Builtin.growBy
    split
    · have : 1 * (c + 768) ≤ 2 ^ (m + 1) * (c + 768) := Nat.mul_le_mul_right _ (Nat.one_le_two_pow)
      omega
    · refine Nat.le_trans (growBy_le n m _) ?_
      rw [Nat.pow_succ, Nat.mul_assoc]
      refine Nat.mul_le_mul_left _ ?_
      omega

theorem cap_le {need cap : Nat} (h : need ≤ 1073741824) (hc : cap < need) : Builtin.nextslicecap need cap ≤ 17179881472 := by
  unfold Builtin.nextslicecap
  split
  · omega
  · split
    · omega
    · have h2 : Builtin.growBy need 4 cap ≤ 16 * (cap + 768) := growBy_le need 4 cap
      exact Nat.le_trans h2 (Nat.le_trans (Nat.mul_le_mul_left 16 (show cap + 768 ≤ 1073742592 by omega)) (by decide))

/-- An append that fits: the cells behind are written. -/
theorem append_fits {T T' e : TypeId} {k : Option Nat} (ht : sliceOf P T = some e) (ht' : (sliceOf P T').isSome = true) (hk : kindIs P e k = true) {ty : TypeId} {x : Value} {n len cap : Nat} {q : Option Addr} {m : Nat} {base : Option Addr} {vals : List Value} {w' : World}
    (hx : x = .slice q n m) (hf : (Builtin.firstCells (kst k) n x).run P w = .ok vals.toArray w) (hfit : len + n ≤ cap)
    (hst : ∀ b, base = some b → (storeCells (b.add (len * kst k)) vals).run P w = .ok () w') (hno : base = none → w' = w) :
    (Builtin.append_ #[T, T'] ty #[.slice base len cap, x]).run P w = .ok (.slice base (len + n) cap) w' := by
  obtain ⟨e', he'⟩ := Option.isSome_iff_exists.1 ht'
  subst hx
  cases base with
  | none => simp [Builtin.append_, slice_und ht, slice_und he', info_size (kind_size hk), Builtin.lenOf, hfit, hf, hno rfl]
  | some b =>
    have hst := hst b rfl
    simp [Builtin.append_, slice_und ht, slice_und he', info_size (kind_size hk), Builtin.lenOf, hfit, hf, hst]

/-- An append that doesn't fit: a new block, of whatever capacity. -/
theorem append_grows {T T' e : TypeId} {k : Option Nat} (ht : sliceOf P T = some e) (ht' : (sliceOf P T').isSome = true) (hk : kindIs P e k = true) (hby : bytesOk P e = true) (hz : hasZero P e = true) {ty : TypeId} {x : Value} {n len cap : Nat} {q : Option Addr} {m : Nat} {base : Option Addr}
    {vals olds : List Value} (hx : x = .slice q n m) (hf : ∀ w1 : World, w1.heap = w.heap → (Builtin.firstCells (kst k) n x).run P w1 = .ok vals.toArray w1) (ho : ∀ w1 : World, w1.heap = w.heap → (Builtin.firstCells (kst k) len (.slice base len cap)).run P w1 = .ok olds.toArray w1)
    (hlt : cap < len + n) (hb : len + n ≤ 1073741824) :
    ∃ (nc : Nat) (rest : Array Value), len + n ≤ nc ∧ rest.size = (nc - (len + n)) * kst k ∧
      (Builtin.append_ #[T, T'] ty #[.slice base len cap, x]).run P w = .ok (.slice (some ⟨w.heap.size, 0, none⟩) (len + n) nc) (pushW w.drew (.cells (olds.toArray ++ vals.toArray ++ rest) e)) := by
  obtain ⟨e', he'⟩ := Option.isSome_iff_exists.1 ht'
  obtain ⟨i, hi, hby⟩ := bytes_le hby
  subst hx
  have hz' : ∃ z, i.zero = some z ∧ z.cells.size = kst k := by
    unfold hasZero at hz
    simp only [hi] at hz
    cases hzz : i.zero with
    | none => simp [hzz] at hz
    | some z =>
      simp [hzz] at hz
      have := kind_size hk
      simp [sizeIs, hi] at this
      exact ⟨z, rfl, by omega⟩
  obtain ⟨z, hzz, hzs⟩ := hz'
  have hzv : ∀ w1 : World, (zeroValue e).run P w1 = .ok z w1 := fun w1 => by
    simp only [zeroValue, Sem.run_bind, run_typeInfo w1 hi, Result.andThen_ok, hzz, Sem.run_pure]
  have c0 : ¬ (len + n ≤ cap) := by omega
  have c1 : ¬ (((len + n : Nat) : Int) > IntKind.i64.max) := by
    have : IntKind.i64.max = 9223372036854775807 := by decide
    rw [this]; omega
  have c2 : ¬ (Builtin.nextslicecap (len + n) cap * i.bytes > 2 ^ 48) := by
    have h1 := cap_le hb hlt
    have h2 : Builtin.nextslicecap (len + n) cap * i.bytes ≤ 17179881472 * 4096 := Nat.mul_le_mul h1 hby
    have h3 : 17179881472 * 4096 ≤ 2 ^ 48 := by decide
    exact Nat.not_lt.2 (Nat.le_trans h2 h3)
  let nc : Nat := (Question.appendCap (len + n) cap e).cut (w.tape w.drawn (.appendCap (len + n) cap e))
  have hnc : len + n ≤ nc := by show _ ≤ _ + _; omega
  have hch : (choose (.appendCap (len + n) cap e)).run P w = .ok nc w.drew := by
    rfl
  have hask : ∀ (b : Nat) (w1 : World), (askRoom b).run P w1 = .ok () w1 := fun b w1 => by
    unfold askRoom
    split <;> rfl
  have hsz := info_size (kind_size hk) (P := P)
  refine ⟨nc, Builtin.zeroCells z.cells (nc - (len + n)), hnc, ?_, ?_⟩
  · simp [Builtin.zeroCells, hzs]
  · have hold := ho w.drew rfl
    have hfd := hf w.drew rfl
    have c1' : ¬ ((9223372036854775807 : Int) < (len : Int) + (n : Int)) := by omega
    have hfo : (Question.appendCap (len + n) cap e).forced = false := rfl
    have c2' : Builtin.nextslicecap (len + n) cap * i.bytes ≤ 281474976710656 := by
      have : (2 : Nat) ^ 48 = 281474976710656 := by decide
      omega
    simp [Builtin.append_, slice_und ht, slice_und he', hsz, Builtin.lenOf, c0, c1', run_typeInfo w hi, c2', hfo, hch, run_typeInfo w.drew hi, hask, hold, hfd, hzv, run_newRow]
    rw [if_neg (by omega)]
    have hass : ∀ Z : Array Value, olds.toArray ++ (vals.toArray ++ Z) = (olds ++ vals).toArray ++ Z := fun Z => by rw [← Array.append_assoc]; simp
    first
      | (rw [hass]; done)
      | (rw [hass]; rfl)
      | rfl
end
end Ab
