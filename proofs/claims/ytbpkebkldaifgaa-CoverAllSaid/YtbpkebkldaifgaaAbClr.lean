/- Two more operations of Go's: the capacity of a nil slice, and clear. Condition: none. -/
import Derived.Test.YtbpkebkldaifgaaAbOps
set_option linter.all false
namespace Ab
open Go
variable {P : Program}
section
variable {a : Act} {ρ : Operand → Value} {r : Rf → AV} {w : World} {C : Ctx} {R : Operand → Rf → Bool} {ce : CE} {σ : List Blk} {nl : Nat} {ps : List Pend}
theorem pl_capn {o : Oper} {ca : Call} {x : Operand} {t : TypeId} {y : Rf} {z : AV} {p : Option Pend} (ho : o.op = .call ca) (hc : ca.callee = .builtin .cap) (ha : ca.args.toList = [x]) (hat : ca.argTypes.toList = [t])
    (ht : (sliceOf P t).isSome = true) (hx : VR C w.heap (r y) (ρ x)) (he : ev ce σ nl ps r (.capn y) = some (z, p)) : Plain P ρ o w C w.heap z ∧ p = none := by
  obtain ⟨e, he'⟩ := Option.isSome_iff_exists.1 ht
  have hu := slice_und he' w
  simp only [ev] at he
  cases hx' : r y <;> simp only [hx'] at he <;> try (simp at he; done)
  simp at he; obtain ⟨rfl, rfl⟩ := he
  rw [hx'] at hx
  have hv : ρ x = .slice none 0 0 := hx
  have ha' : ca.args = #[x] := by rw [← Array.toList_inj]; simpa using ha
  have hat' : ca.argTypes = #[t] := by rw [← Array.toList_inj]; simpa using hat
  refine ⟨⟨.int .i64 0, ?_, by unfold VR; rfl⟩, rfl⟩
  simp only [execOp, ho, resolve, hc, ha', hat', Sem.run_bind, Sem.run_pure, Result.andThen_ok, invoke, builtin, Builtin.cap_]
  simp [hv, Sem.run_bind, hu, goInt]
theorem dw_clr {ids : Nat → Nat} {I : Nat → Prop} {o : Oper} {ca : Call} {t e : TypeId} {x : Operand} {x' : Rf} {zc : List AV} {k : Option Nat} {z : AV} {σ' : List Blk} (ho : o.op = .call ca) (hc : ca.callee = .builtin .clear) (ha : ca.args.toList = [x]) (hat : ca.argTypes.toList = [t]) (ht : sliceOf P t = some e) (hk : kindIs P e k = true) (hz : zeroIs P e zc = true) (hg : Good (ctxOf σ ids I) w)
    (hx : VR (ctxOf σ ids I) w.heap (r x') (a.eval x)) (he : evW ce σ r (.clr x' zc k) = some (z, σ')) : Does P o a w (PostW σ ids I w z σ') := by
  simp only [evW] at he
  cases hx' : r x' <;> simp only [hx'] at he <;> try (simp at he; done)
  rename_i b u off len
  cases hu : upto σ b u with
  | none => simp [hu] at he
  | some B =>
    simp only [hu] at he
    split at he
    case isFalse => simp at he
    rename_i hcc
    obtain ⟨c0, c1, c2, c3, c4⟩ := hcc
    simp only [Option.some.injEq, Prod.mk.injEq] at he
    obtain ⟨rfl, rfl⟩ := he
    obtain ⟨hb, hul, hnd⟩ := upto_blk hu
    have hs : B.st = .live := by revert c4; cases B.st <;> simp [BSt.isLive]
    have hown := upto_own ids I hu
    subst hul
    rw [hx'] at hx
    unfold VR at hx
    have hx3 := hx.2.2 B _ hown
    rw [hs] at hx3
    obtain ⟨c', el', o', cap, hH', e, hoff, hlc, hcs⟩ := hx3
    rw [hoff (by omega)] at e
    obtain ⟨_, c, el, hH, hle, hcells⟩ := hg.live b _ B _ hown hs
    obtain ⟨zv, z1, z2, z3⟩ := zero_run (C := ctxOf σ ids I) hz w
    have hzs : zv.cells.size = kst k := by have := VRL.length z2; simp at this; omega
    obtain ⟨d1, d2⟩ := dupN_get zc len
    rw [c3] at d1 d2
    have hvl : (Builtin.zeroCells zv.cells len).toList.length = len * kst k := by simp [Builtin.zeroCells, hzs]
    obtain ⟨g1, g2⟩ := post_write (vals := (Builtin.zeroCells zv.cells len).toList) (new := dupN len zc) (off := off) hg hown hs (ctxOf_only (u := 0) hb) hH (by omega) (by omega) (fun j q hj => by
      have hlt := (List.getElem?_eq_some_iff.1 hj).1
      rw [d1] at hlt
      rw [d2 j hlt] at hj
      have hkp : 0 < kst k := Nat.pos_of_ne_zero fun h => by rw [h] at hlt; simp at hlt
      obtain ⟨y, k1, k2⟩ := z2.get (j % kst k) q hj
      rw [Array.getElem?_toList] at k1
      refine ⟨y, ?_, k2, z3 y (by rw [Array.mem_toList_iff]; exact Array.mem_of_getElem? k1)⟩
      have hm := Nat.mod_lt j hkp
      rw [Array.getElem?_eq_getElem (by omega : j % kst k < zv.cells.size)] at k1
      simp at k1
      rw [Array.getElem?_toList]
      simp [Builtin.zeroCells, hzs, hlt, getElem!_def, Array.getElem?_eq_getElem (by omega : j % kst k < zv.cells.size), k1])
    obtain ⟨pl, _⟩ := putAt_get B.cells (dupN len zc) off (by omega)
    have hset := ctxOf_set (ids := ids) (I := I) (id' := ids b) (B' := ⟨B.k, putAt B.cells off (dupN len zc), B.st⟩) hb hnd
    have hids : (fun q => if q = b then ids b else ids q) = ids := by funext q; split <;> simp_all
    rw [hids] at hset
    obtain ⟨f1, f2⟩ := Good.shrink (C2 := ctxOf (setB σ b ⟨B.k, putAt B.cells off (dupN len zc), B.st⟩) ids I) g1 rfl (fun b1 u1 e1 h1 => by
      have := hset b1 u1 e1 h1
      simp only [pl] at this
      exact this) (fun b1 u1 h1 => ctxOf_set_lim (ids := ids) (I := I) hb (by show _ ≤ (putAt B.cells off (dupN len zc)).length; omega) b1 u1 h1)
    have hone : ∀ v ∈ (Builtin.zeroCells zv.cells len).toList, v.oneCell' = true := fun v hv => by
      obtain ⟨j, hj⟩ := List.mem_iff_getElem?.1 hv
      have hlt := (List.getElem?_eq_some_iff.1 hj).1
      rw [hvl] at hlt
      have hkp : 0 < kst k := Nat.pos_of_ne_zero fun h => by rw [h] at hlt; simp at hlt
      have hm := Nat.mod_lt j hkp
      rw [Array.getElem?_toList] at hj
      simp [Builtin.zeroCells, hzs, hlt, getElem!_def, Array.getElem?_eq_getElem (by omega : j % kst k < zv.cells.size)] at hj
      subst hj
      exact z3 _ (by rw [Array.mem_toList_iff]; exact Array.getElem_mem _)
    have hstore := run_storeCells_at P (ids b) off el (Builtin.zeroCells zv.cells len).toList 0 c w hH (by omega) hone
    simp only [Nat.add_zero] at hstore
    have ha' : ca.args = #[x] := by rw [← Array.toList_inj]; simpa using ha
    have hat' : ca.argTypes = #[t] := by rw [← Array.toList_inj]; simpa using hat
    obtain ⟨n', rfl⟩ : ∃ n', len = n' + 1 := ⟨len - 1, by omega⟩
    refine Does.val (v := .tuple #[]) (w' := w.setRow (ids b) (c.toList.take off ++ (Builtin.zeroCells zv.cells (n' + 1)).toList ++ c.toList.drop (off + (Builtin.zeroCells zv.cells (n' + 1)).toList.length)).toArray) ?_ ⟨ids, I, f1, g2.trans f2, by unfold VR; trivial⟩
    simp only [execOp, ho, resolve, hc, ha', hat', Sem.run_bind, Sem.run_pure, Result.andThen_ok, invoke, builtin, Builtin.clear_]
    simp [e, Sem.run_bind, slice_und ht, z1, hstore]
end
end Ab
