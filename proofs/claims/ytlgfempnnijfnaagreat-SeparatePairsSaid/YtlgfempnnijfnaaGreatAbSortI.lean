/- slices.Sort of numbers does what the small language says. Condition: the library's own text, as the kit's contract has walked it. -/
import Derived.Test.YtlgfempnnijfnaaGreatAbC
import Derived.Test.YtlgfempnnijfnaaGreatAbSortM
import Derived.Shelf.Sort.Plain
import Derived.Shelf.Slices.In.SortNone
set_option linter.all false
namespace Ab
open Go Go.Proofs Go.Shelf Go.Sort
variable {P : Program}
def swI (w : World) (id off n : Nat) (d : Array Int) (os : Array Obj) : World := grow (putRow (Value.int .i64) (Sort.ahead w n) id off d) os
theorem zfkS {w : World} {id off m : Nat} {dk : Array Int} {os : Array Obj} : (swI w id off m dk os).heap.size = w.heap.size + os.size := by
  simp [swI, grow, putRow, mapBlock, «Sort».ahead]
theorem zfXP {w : World} {id off m : Nat} {dk : Array Int} {os : Array Obj} {k : Nat} (h : k < w.heap.size) (hne : k ≠ id) : (swI w id off m dk os).heap[k]? = w.heap[k]? := by
  simp only [swI, grow, putRow, mapBlock, «Sort».ahead]
  rw [Array.getElem?_append_left (by simpa using h), Array.getElem?_modify, if_neg (by omega)]
theorem z7hz {w : World} {id off n : Nat} {d' : Array Int} {os : Array Obj} {c : Array Value} {el : TypeId} (hH : w.heap[id]? = some (.cells c el (0, 0))) (hfit : off + d'.size ≤ c.size) :
    (w.setRow id (c.toList.take off ++ d'.toList.map (Value.int .i64) ++ c.toList.drop (off + (d'.toList.map (Value.int .i64)).length)).toArray).heap.size ≤ (swI w id off n d' os).heap.size ∧
    ∀ k, k < w.heap.size → (swI w id off n d' os).heap[k]? = (w.setRow id (c.toList.take off ++ d'.toList.map (Value.int .i64) ++ c.toList.drop (off + (d'.toList.map (Value.int .i64)).length)).toArray).heap[k]? := by
  refine ⟨by rw [zIsg, zfkS]; omega, fun k hk => ?_⟩
  by_cases e : k = id
  · subst e
    rw [setRow_heap w k c _ el (0, 0) hH]
    simp only [swI, grow, putRow, mapBlock, «Sort».ahead]
    rw [Array.getElem?_append_left (by simpa using hk), Array.getElem?_modify, if_pos rfl, hH]
    simp only [Option.map_some, onCells, Option.some.injEq, Obj.cells.injEq, and_true]
    apply Array.ext_getElem?
    intro i
    have hta : ∀ L : List Value, L.toArray[i]? = L[i]? := fun L => by simp
    rw [hta (c.toList.take off ++ d'.toList.map (Value.int .i64) ++ c.toList.drop (off + (d'.toList.map (Value.int .i64)).length))]
    simp only [putCells, Array.getElem?_mapIdx, List.length_map, Array.length_toList]
    by_cases h1 : i < off
    · rw [List.append_assoc, List.getElem?_append_left (by simp; omega), List.getElem?_take, if_pos h1, Array.getElem?_toList]
      cases hc : c[i]? with
      | none => rfl
      | some v => simp; omega
    · by_cases h2 : i < off + d'.size
      · rw [List.getElem?_append_left (by simp; omega), List.getElem?_append_right (by simp; omega), List.getElem?_map]
        have hlt : i < c.size := by omega
        rw [Array.getElem?_eq_getElem hlt]
        simp only [List.length_take, Array.length_toList, Option.map_some]
        rw [if_pos (by omega), show min off c.size = off by omega, Array.getElem?_toList, Array.getElem?_eq_getElem (by omega)]
        simp [getElem!_def, Array.getElem?_eq_getElem (show i - off < d'.size by omega)]
      · rw [List.getElem?_append_right (by simp; omega), List.getElem?_drop, Array.getElem?_toList]
        simp only [List.length_append, List.length_take, Array.length_toList, List.length_map]
        rw [show off + d'.size + (i - (min off c.size + d'.size)) = i by omega]
        cases hc : c[i]? with
        | none => rfl
        | some v => simp; omega
  · rw [zfXP hk e, zLGX w id _ e]
theorem zPwA {ρ : Ren} (L : Lays.n189 P ρ) {b u off len : Nat} {σ : List Blk} {B : Blk} {zs : List Int} (hu : upto σ b u = some B) (hlive : B.st = .live) (hk : B.k = none) (hlen : 0 < len) (hfit : off + len ≤ B.cells.length) (hbig : B.cells.length ≤ big)
    (hD : (B.cells.drop off).take len = zs.map .int) {ids : Nat → Nat} {I : Nat → Prop} {w : World} {vs : List Value} (hg : Good (ctxOf σ ids I) w) (hv : VRL (ctxOf σ ids I) w.heap [.sl b u off len] vs) :
    Calls P (ρ.f 189) vs.toArray w fun e w' => ∃ v ids' I', e = .returned v ∧ Good (ctxOf (setB σ b ⟨B.k, putAt B.cells off ((sortI zs).map .int), B.st⟩) ids' I') w' ∧ VR (ctxOf (setB σ b ⟨B.k, putAt B.cells off ((sortI zs).map .int), B.st⟩) ids' I') w'.heap (.tup []) v ∧
      Step (ctxOf σ ids I) w (ctxOf (setB σ b ⟨B.k, putAt B.cells off ((sortI zs).map .int), B.st⟩) ids' I') w' := by
  obtain ⟨hb, hul, hnd⟩ := zOI7 hu
  have hown := z1nM ids I hu
  subst hul
  obtain ⟨v1, s1, rfl, hv1, rfl⟩ := hv
  unfold VR at hv1
  have hv1 := hv1.2.2 B _ hown
  rw [hlive] at hv1
  obtain ⟨c, el, o, cap, hH, e1, hoff, hlc, hcs⟩ := hv1
  rw [hoff (by omega)] at e1
  obtain ⟨hnI, c', el', hH', hle, hcells⟩ := hg.live b _ B _ hown hlive
  rw [hH] at hH'
  simp only [Option.some.injEq, Obj.cells.injEq] at hH'
  obtain ⟨rfl, rfl, _⟩ := hH'
  have hzl : zs.length = len := by
    have := congrArg List.length hD
    simp at this; omega
  have hDget : ∀ i, i < len → B.cells[off + i]? = (zs[i]?).map AV.int := fun i hi => by
    have := congrArg (fun l => l[i]?) hD
    simp only [List.getElem?_take, if_pos hi, List.getElem?_drop, List.getElem?_map] at this
    exact this
  have hc : ∀ i z, zs[i]? = some z → c[off + i]? = some (Value.int .i64 z) := fun i z hz => by
    have hi : i < len := by rw [← hzl]; exact (List.getElem?_eq_some_iff.1 hz).1
    have h1 := hDget i hi
    rw [hz] at h1
    obtain ⟨y, k1, k2, k3⟩ := hcells _ _ h1
    rw [k1]
    have : y = Value.int .i64 z := k2.int_inv
    rw [this]
  have hidlt := (Array.getElem?_eq_some_iff.1 hH).1
  have hHolds : Holds (Value.int .i64) w (ids b) off zs.toArray := fun j hj => by
    simp only [List.size_toArray] at hj
    refine ⟨?_, ?_⟩
    · simp only [World.cell?, hH]
      rw [getElem!_pos zs.toArray j (by simpa using hj)]
      simpa using hc j zs[j] (List.getElem?_eq_getElem hj)
    · simp [World.frozen?, hH]
  have key := Any.slices_Sort_int L (ids b) off cap zs w hHolds hidlt (by simp [big] at hbig ⊢; omega)
  rw [hzl] at key
  rw [e1]
  refine key.mono ?_
  rintro e w' ⟨rfl, n, os, rfl⟩
  rw [zu6L]
  have hpl : (sortI zs).length = len := by rw [(zZHI zs).length_eq, hzl]
  obtain ⟨g1, g2⟩ := zJE4 (vals := (sortI zs).map (Value.int .i64)) (new := (sortI zs).map .int) (off := off) hg hown hlive (zpRx (u := 0) hb) hH (by simp; omega) (by simp) (fun i q hi => by
    rw [List.getElem?_map] at hi
    cases hd : (sortI zs)[i]? with
    | none => rw [hd] at hi; simp at hi
    | some k =>
      rw [hd] at hi
      simp at hi; subst hi
      exact ⟨Value.int .i64 k, by rw [List.getElem?_map, hd]; rfl, rfl, rfl⟩)
  obtain ⟨pl, _⟩ := zAtF B.cells ((sortI zs).map .int) off (by simp; omega)
  have hset := zKck (ids := ids) (I := I) (id' := ids b) (B' := ⟨B.k, putAt B.cells off ((sortI zs).map .int), B.st⟩) hb hnd
  have hids : (fun q => if q = b then ids b else ids q) = ids := by funext q; split <;> simp_all
  rw [hids] at hset
  obtain ⟨f1, f2⟩ := Good.shrink (C2 := ctxOf (setB σ b ⟨B.k, putAt B.cells off ((sortI zs).map .int), B.st⟩) ids I) g1 rfl (fun b1 u1 e1 h1 => by
    have := hset b1 u1 e1 h1
    simp only [pl] at this
    exact this) (fun b1 u1 h1 => zkpY (ids := ids) (I := I) hb (by show B.cells.length ≤ (putAt B.cells off ((sortI zs).map .int)).length; rw [pl]; exact Nat.le_refl _) b1 u1 h1)
  have hml : (((sortI zs).map (Value.int .i64)).length) = len := by simp [hpl]
  obtain ⟨r1, r2⟩ := z7hz (off := off) (n := n) (os := os) (d' := (sortI zs).toArray) hH (by simp; omega)
  simp only [List.toList_toArray] at r1 r2
  have hsame : ∀ k, k < (w.setRow (ids b) (c.toList.take off ++ (sortI zs).map (Value.int .i64) ++ c.toList.drop (off + ((sortI zs).map (Value.int .i64)).length)).toArray).heap.size → (swI w (ids b) off n (sortI zs).toArray os).heap[k]? = (w.setRow (ids b) (c.toList.take off ++ (sortI zs).map (Value.int .i64) ++ c.toList.drop (off + ((sortI zs).map (Value.int .i64)).length)).toArray).heap[k]? := fun k hk => r2 k (by rwa [zIsg] at hk)
  obtain ⟨q1, q2⟩ := f1.growI r1 hsame I (fun _ h => h) (fun k hk => Nat.lt_of_lt_of_le (f1.I k hk) r1) (fun k hk => .inl hk) rfl ⟨rfl, by show w.drawn ≤ w.drawn + n; omega⟩ rfl
  exact ⟨_, ids, I, rfl, q1, by unfold VR; exact ⟨[], rfl, rfl⟩, (g2.trans f2).trans q2⟩
theorem zNxb {ρ : Ren} (L : Lays.n189 P ρ) {f : Nat} (hf : ρ.f 189 = f) (hb : bodied P f = true) : PrimOk P f pSortI := by
  subst hf
  refine ⟨hb, fun ce hce hbd args σ r σ' hp ids I w vs hg hv => ?_⟩
  unfold pSortI at hp
  split at hp
  · simp only [Option.some.injEq, Prod.mk.injEq] at hp
    obtain ⟨rfl, rfl⟩ := hp
    obtain ⟨v1, s1, rfl, hv1, rfl⟩ := hv
    have hv1 : v1 = .slice none 0 0 := hv1
    subst hv1
    refine (Any.slices_Sort_int_none L none 0 w).mono ?_
    rintro e w' ⟨rfl, rfl⟩
    exact ⟨_, ids, I, rfl, hg, by unfold VR; exact ⟨[], rfl, rfl⟩, Step.refl _ _⟩
  · rename_i b u off len
    split at hp
    · rename_i B hu
      split at hp
      · rename_i hc
        simp only [Bool.and_eq_true, decide_eq_true_eq] at hc
        obtain ⟨⟨⟨⟨c1, c2⟩, c3⟩, c4⟩, c5⟩ := hc
        have hlive : B.st = .live := by revert c1; cases B.st <;> simp [BSt.isLive]
        have hk : B.k = none := by revert c2; cases B.k <;> simp [kindNone]
        split at hp
        · rename_i zs hz
          simp only [Option.some.injEq, Prod.mk.injEq] at hp
          obtain ⟨rfl, rfl⟩ := hp
          exact zPwA L hu hlive hk c3 c4 c5 (zBrq hz) hg hv
        · simp at hp
      · simp at hp
    · simp at hp
  · simp at hp
end Ab
