/- slices.SortFunc, at structs that stand in their order already, turns nothing. Condition: the library's own text, as the kit's contract has walked it. -/
import Derived.Test.YtdhncjkhockhjaaAbC
import Derived.Test.YtdhncjkhockhjaaAbSortM
import Derived.Shelf.SlSortCmp.NoneTotal
set_option linter.all false
namespace Ab
open Go Go.Proofs Go.Shelf Go.Sort
variable {P : Program}
theorem world_growS {W w' : World} (h1 : W.heap.size ≤ w'.heap.size) (h2 : ∀ k, k < W.heap.size → w'.heap[k]? = W.heap[k]?) (h3 : w'.os = W.os) (h4 : w'.tape = W.tape ∧ W.drawn ≤ w'.drawn) (h5 : w'.output = W.output) :
    w' = grow (W.drewN (w'.drawn - W.drawn)) (w'.heap.extract W.heap.size w'.heap.size) := by
  obtain ⟨H, t, d, o, u⟩ := W
  obtain ⟨H', t', d', o', u'⟩ := w'
  simp only at h1 h2 h3 h4 h5
  obtain ⟨rfl, h4⟩ := h4
  subst h3; subst h5
  simp only [grow, World.drewN, World.mk.injEq, true_and, and_true]
  refine ⟨?_, by omega⟩
  apply Array.ext_getElem?
  intro i
  by_cases hi : i < H.size
  · rw [Array.getElem?_append_left hi, h2 i hi]
  · rw [Array.getElem?_append_right (by omega), Array.getElem?_extract]
    by_cases hi' : i < H'.size
    · rw [if_pos (by omega), show H.size + (i - H.size) = i by omega]
    · rw [if_neg (by omega), Array.getElem?_eq_none (by omega)]
section
variable {α : Type} [Inhabited α] {enc : α → List Value} {k : Nat}
theorem sortWorldK_size {w : World} {id off m : Nat} {dk : Array α} {os : Array Obj} : (sortWorldK enc k w id off m dk os).heap.size = w.heap.size + os.size := by
  simp [sortWorldK, putRowK, grow, putRow, mapBlock, «Sort».ahead]
theorem sortWorldK_same {w : World} {id off m : Nat} {dk : Array α} {os : Array Obj} {j : Nat} (h : j < w.heap.size) (hne : j ≠ id) : (sortWorldK enc k w id off m dk os).heap[j]? = w.heap[j]? := by
  simp only [sortWorldK, putRowK, grow, putRow, mapBlock, «Sort».ahead]
  rw [Array.getElem?_append_left (by simpa using h), Array.getElem?_modify, if_neg (by omega)]
end
theorem cmp_laysS {ce : CE} (hce : CallOk P ce) {g : Nat} {caps : List AV} {C : Ctx} {w : World} {cb : List Value} (hg : Good C w) (hcb : VRL C w.heap caps cb) {id off len k : Nat} (hid : ¬ C.I id)
    {av : Nat → AV} {enc : Nat → List Value} {cf : Nat → Nat → Int} (hv : ∀ i, VR C w.heap (av i) (.agg (enc i).toArray)) (hc : ∀ i j, cmpI ce g caps (av i) (av j) = some (cf i j)) :
    CmpLays P g cb.toArray enc k cf id off len w := by
  intro m os dk hs x y
  have h := hc x y
  unfold cmpI at h
  have hp : pcl ce g (av x :: av y :: caps) = some (.int (cf x y)) := by
    split at h
    · rename_i c hc'; simp at h; subst h; exact hc'
    · simp at h
  have hn : noLocs (av x :: av y :: caps) = true := by
    unfold pcl at hp
    split at hp
    · assumption
    · simp at hp
  have hsame : ∀ j, C.I j → (sortWorldK enc k w id off m dk os).heap[j]? = w.heap[j]? := fun j hj => sortWorldK_same (hg.I j hj) fun e => hid (e ▸ hj)
  have hg' : Good (ctxOf [] (fun _ => 0) C.I) (sortWorldK enc k w id off m dk os) :=
    ⟨fun k hk => by rw [sortWorldK_size]; have := hg.I k hk; omega, fun b u B i h => by simp [ctxOf, blk] at h, fun b u B i h => by simp [ctxOf, blk] at h, fun b u B i b' u' B' i' h => by simp [ctxOf, blk] at h, fun b u B i es h => by simp [ctxOf, blk] at h⟩
  have hvr : VRL (ctxOf [] (fun _ => 0) C.I) (sortWorldK enc k w id off m dk os).heap (av x :: av y :: caps) (.agg (enc x).toArray :: .agg (enc y).toArray :: cb) :=
    VRL.free (show ISub C w.heap (ctxOf [] (fun _ => 0) C.I) (sortWorldK enc k w id off m dk os).heap from ⟨fun _ h => h, hsame⟩) _ _ hn ⟨_, _, rfl, hv x, _, _, rfl, hv y, hcb⟩
  have key := pcl_ok hce hp hg' hvr
  rw [show #[Value.agg (enc x).toArray, Value.agg (enc y).toArray] ++ cb.toArray = (Value.agg (enc x).toArray :: .agg (enc y).toArray :: cb).toArray by simp]
  refine key.mono ?_
  rintro e w' ⟨v, rfl, I', k1, k2, k3⟩
  refine ⟨by rw [k3.int_inv], _, _, world_growS k2.size (fun k hk => k2.frame k hk owned_none) k2.os k2.tape k2.output⟩
theorem chunk_cells {k : Nat} : ∀ (n : Nat) (cs : List AV), n * k ≤ cs.length → ∀ i, i < n → (chunk (some k) n cs)[i]? = some (.agg ((cs.drop (i * k)).take k))
  | 0, _, _, i, hi => by omega
  | n + 1, cs, h, 0, _ => by simp [chunk]
  | n + 1, cs, h, i + 1, hi => by
    have h' : n * k ≤ (cs.drop k).length := by simp; rw [Nat.add_mul] at h; omega
    have := chunk_cells n (cs.drop k) h' i (by omega)
    simp only [chunk, List.getElem?_cons_succ, this, List.drop_drop]
    congr 4
    rw [Nat.add_mul]; omega
theorem chunk_len {k : Nat} : ∀ (n : Nat) (cs : List AV), (chunk (some k) n cs).length = n
  | 0, _ => rfl
  | n + 1, cs => by simp [chunk, chunk_len n]
theorem swo_ix {len : Nat} {cf : Nat → Nat → Int} (h : ∀ i j, cf i j < 0 ↔ min i (len - 1) < min j (len - 1)) : SWO (ltOf cf) where
  irrefl x := by simp only [ltOf, decide_eq_false_iff_not, h]; omega
  trans x y z h1 h2 := by simp only [ltOf, decide_eq_true_eq, h] at *; omega
  ntrans x y z h1 h2 := by simp only [ltOf, decide_eq_false_iff_not, h] at *; omega
theorem sorts_main {ρ : Ren} (L : SlLaysF0.n6 P ρ) {k : Nat} (hkd : kindIs P (ρ.t 24) (some k) = true) {ce : CE} (hce : CallOk P ce) (hbd : HasBody P ce) {b u off len g : Nat} {caps : List AV} {σ : List Blk} {B : Blk} (hu : upto σ b u = some B) (hlive : B.st = .live) (hk : B.k = some k) (hk0 : 0 < k) (hlen : 0 < len) (hfit : off + len * k ≤ B.cells.length) (hbig : B.cells.length ≤ big)
    (hag : agreeS ce g caps (chunk (some k) len (B.cells.drop off)) = true) {ids : Nat → Nat} {I : Nat → Prop} {w : World} {vs : List Value} (hg : Good (ctxOf σ ids I) w) (hv : VRL (ctxOf σ ids I) w.heap [.sl b u off len, .func g caps] vs) :
    Calls P (ρ.f 6) vs.toArray w fun e w' => ∃ v ids' I', e = .returned v ∧ Good (ctxOf σ ids' I') w' ∧ VR (ctxOf σ ids' I') w'.heap (.tup []) v ∧ Step (ctxOf σ ids I) w (ctxOf σ ids' I') w' := by
  obtain ⟨hb, hul, hnd⟩ := upto_blk hu
  have hown := upto_own ids I hu
  subst hul
  obtain ⟨v1, s1, rfl, hv1, v2, s2, rfl, hv2, rfl⟩ := hv
  unfold VR at hv1 hv2
  have hv1 := hv1.2.2 B _ hown
  rw [hlive] at hv1
  obtain ⟨c, el, o, cap, hH, e1, hoff, hlc, hcs⟩ := hv1
  rw [hoff (by omega)] at e1
  obtain ⟨cb, e2, hcb⟩ := hv2
  obtain ⟨hnI, c', el', hH', hle, hcells⟩ := hg.live b _ B _ hown hlive
  rw [hH] at hH'
  simp only [Option.some.injEq, Obj.cells.injEq] at hH'
  obtain ⟨rfl, rfl, _⟩ := hH'
  generalize hD : chunk (some k) len (B.cells.drop off) = D at hag
  have hDl : D.length = len := by rw [← hD, chunk_len]
  have hDget : ∀ i, i < len → D[i]? = some (.agg ((B.cells.drop (off + i * k)).take k)) := fun i hi => by
    rw [← hD, chunk_cells len _ (by simp; omega) i hi, List.drop_drop]
  let ix0 : Nat → Nat := fun i => min i (len - 1)
  have hix : ∀ i, ix0 i < len := fun i => by show min i (len - 1) < len; omega
  have hixk : ∀ i, off + ix0 i * k + k ≤ B.cells.length := fun i => by
    have := Nat.mul_le_mul_right k (show ix0 i + 1 ≤ len from hix i)
    rw [Nat.add_mul] at this; omega
  let av : Nat → AV := fun i => .agg ((B.cells.drop (off + ix0 i * k)).take k)
  let enc : Nat → List Value := fun i => (c.toList.drop (off + ix0 i * k)).take k
  have hek : ∀ i, (enc i).length = k := fun i => by
    have := hixk i
    show ((c.toList.drop (off + ix0 i * k)).take k).length = k
    simp; omega
  have hget : ∀ i (j : Nat), j < k → ∃ x y, B.cells[off + ix0 i * k + j]? = some x ∧ c[off + ix0 i * k + j]? = some y ∧ VR (ctxOf σ ids I) w.heap x y ∧ y.oneCell' = true ∧ (enc i)[j]? = some y := fun i j hj => by
    have := hixk i
    have hx := List.getElem?_eq_getElem (show off + ix0 i * k + j < B.cells.length by omega)
    obtain ⟨y, k1, k2, k3⟩ := hcells _ _ hx
    refine ⟨_, y, hx, k1, k2, k3, ?_⟩
    show ((c.toList.drop (off + ix0 i * k)).take k)[j]? = some y
    rw [List.getElem?_take, if_pos hj, List.getElem?_drop, Array.getElem?_toList]; exact k1
  have hone : ∀ i, ∀ v ∈ enc i, v.oneCell' = true := fun i v hv => by
    obtain ⟨j, hj⟩ := List.mem_iff_getElem?.1 hv
    have hjk : j < k := by rw [← hek i]; exact (List.getElem?_eq_some_iff.1 hj).1
    obtain ⟨_, y, _, _, _, h3, h4⟩ := hget i j hjk
    rw [hj] at h4; cases h4; exact h3
  have hvl : ∀ i (n p : Nat), p + n = k → VRL (ctxOf σ ids I) w.heap ((B.cells.drop (off + ix0 i * k + p)).take n) ((c.toList.drop (off + ix0 i * k + p)).take n) := fun i n => by
    induction n with
    | zero => intro p _; simp [VRL]
    | succ n ih =>
      intro p hp
      have := hixk i
      obtain ⟨x, y, h1, h2, h3, _, _⟩ := hget i p (by omega)
      have l1 : off + ix0 i * k + p < B.cells.length := by omega
      have l2 : off + ix0 i * k + p < c.toList.length := by simp; omega
      rw [List.drop_eq_getElem_cons l1, List.drop_eq_getElem_cons l2, List.take_succ_cons, List.take_succ_cons]
      refine ⟨_, _, rfl, ?_, ih (p + 1) (by omega)⟩
      rw [List.getElem?_eq_getElem l1] at h1
      rw [← Array.getElem?_toList, List.getElem?_eq_getElem l2] at h2
      cases h1; cases h2; exact h3
  have hvr : ∀ i, VR (ctxOf σ ids I) w.heap (av i) (.agg (enc i).toArray) := fun i => by
    unfold VR
    exact ⟨enc i, rfl, hvl i k 0 (by omega), hone i⟩
  have hDav : ∀ i, D[ix0 i]? = some (av i) := fun i => hDget _ (hix i)
  have hcm : ∀ i j, ∃ q, cmpI ce g caps (av i) (av j) = some q ∧ (q < 0 ↔ ix0 i < ix0 j) := fun i j => agreeS_spec hag (hDav i) (hDav j)
  let cf : Nat → Nat → Int := fun i j => (cmpI ce g caps (av i) (av j)).getD 0
  have hcmp : ∀ i j, cmpI ce g caps (av i) (av j) = some (cf i j) := fun i j => by
    obtain ⟨q, h1, _⟩ := hcm i j
    show _ = some ((cmpI ce g caps (av i) (av j)).getD 0)
    rw [h1]; rfl
  have hcf : ∀ i j, cf i j < 0 ↔ min i (len - 1) < min j (len - 1) := fun i j => by
    obtain ⟨q, h1, h2⟩ := hcm i j
    have : cf i j = q := by show (cmpI ce g caps (av i) (av j)).getD 0 = q; rw [h1]; rfl
    rw [this]; exact h2
  have eg : ∀ args w, (callFunc g args).run P w = .ok (.enter g args) w := by
    have h := hcmp 0 0
    unfold cmpI at h
    have hp : ∃ x, pcl ce g (av 0 :: av 0 :: caps) = some x := by
      split at h
      · rename_i c hc'; exact ⟨_, hc'⟩
      · simp at h
    obtain ⟨x, hp⟩ := hp
    unfold pcl at hp
    split at hp
    case isFalse => simp at hp
    cases hc : ce g ((av 0 :: av 0 :: caps).map wk) [] with
    | none => rw [hc] at hp; simp at hp
    | some r => exact bodied_run (hbd g _ _ r hc)
  have hidlt := (Array.getElem?_eq_some_iff.1 hH).1
  have hflat : ∀ t, t < len * k → (flatK enc k (Array.range len))[t]? = c[off + t]? := fun t ht => by
    have htk := Nat.mod_lt t hk0
    have htd : t / k < len := (Nat.div_lt_iff_lt_mul hk0).2 ht
    have hdm := Nat.div_add_mod t k
    have hi0 : ix0 (t / k) = t / k := by show min (t / k) (len - 1) = t / k; omega
    obtain ⟨_, y, _, h2, _, _, h5⟩ := hget (t / k) (t % k) htk
    rw [hi0] at h2
    have : off + t / k * k + t % k = off + t := by rw [Nat.mul_comm]; omega
    rw [this] at h2
    rw [h2]
    simp only [flatK, Array.getElem?_map, Array.size_range]
    rw [Array.getElem?_range, if_pos ht]
    simp only [Option.map_some, Option.some.injEq]
    have hr : (Array.range len)[t / k]! = t / k := by rw [getElem!_def, Array.getElem?_range, if_pos htd]
    rw [hr, getElem!_def, h5]
  have hfsz : (flatK enc k (Array.range len)).size = len * k := by simp [flatK]
  have hHolds : HoldsK enc k w (ids b) off (Array.range len) := fun j hj => by
    rw [hfsz] at hj
    have h1 := hflat j hj
    have hlt : off + j < c.size := by omega
    refine ⟨?_, ?_⟩
    · simp only [World.cell?, hH]
      rw [getElem!_def, h1, Array.getElem?_eq_getElem hlt]
      simp [hlt]
    · simp [World.frozen?, hH]
  have key := AnyQ.slices_SortFunc L k (fun w => by have := kind_agg hkd w; exact this) (fun w => by have := info_size (kind_size hkd) w; exact this) enc hek hone cf (swo_ix hcf) g cb.toArray (ids b) off cap (Array.range len) w eg
    (cmp_laysS hce hg hcb hnI hvr hcmp) hHolds hidlt (by
      have : len * 1 ≤ len * k := Nat.mul_le_mul_left len hk0
      simp [big] at hbig ⊢; omega)
  simp only [Array.size_range] at key
  rw [e1, e2]
  refine key.mono ?_
  rintro e w' ⟨rfl, d', n, os, hp, hs, rfl⟩
  obtain ⟨p1, _, p3⟩ := hp
  simp only [Array.size_range] at p1 p3
  have hperm : d'.toList.Perm (List.range len) := by
    have e3 : (d'.extract 0 len).toList = d'.toList := by rw [← p1]; simp
    have e4 : ((Array.range len).extract 0 len).toList = List.range len := by
      have : (Array.range len).extract 0 len = Array.range len := by
        have := Array.extract_size (xs := Array.range len)
        rwa [Array.size_range] at this
      rw [this]; simp
    rw [e3, e4] at p3
    exact p3
  have hlt' : ∀ x ∈ d'.toList, x < len := fun x hx => by simpa using hperm.mem_iff.1 hx
  have hd : d' = Array.range len := by
    rw [← Array.toList_inj, Array.toList_range]
    refine List.Perm.eq_of_pairwise (le := fun x y : Nat => x ≤ y) (fun x y _ _ h k => by omega) ?_ (List.pairwise_le_range) hperm
    rw [List.pairwise_iff_getElem]
    intro i j hi hj hij
    have hi' := hi; have hj' := hj
    simp only [Array.length_toList] at hi hj
    have := hs i j (Nat.zero_le _) hij (by omega)
    rw [getElem!_pos d' j hj, getElem!_pos d' i hi] at this
    simp only [ltOf, decide_eq_false_iff_not, hcf] at this
    have b1 := hlt' _ (List.getElem_mem hi')
    have b2 := hlt' _ (List.getElem_mem hj')
    simp only [Array.getElem_toList] at b1 b2 ⊢
    omega
  subst hd
  have hsame : ∀ j, j < w.heap.size → (sortWorldK enc k w (ids b) off n (Array.range len) os).heap[j]? = w.heap[j]? := fun j hj => by
    by_cases e : j = ids b
    · subst e
      simp only [sortWorldK, putRowK, grow, putRow, mapBlock, «Sort».ahead]
      rw [Array.getElem?_append_left (by simpa using hj), Array.getElem?_modify, if_pos rfl, hH]
      simp only [Option.map_some, onCells, Option.some.injEq, Obj.cells.injEq, and_true]
      apply Array.ext_getElem?
      intro i
      simp only [putCells, Array.getElem?_mapIdx]
      cases hc : c[i]? with
      | none => rfl
      | some v =>
        simp only [Option.map_some, Option.some.injEq]
        split
        · rename_i hin
          have h1 := hflat (i - off) (by rw [← hfsz]; omega)
          rw [show off + (i - off) = i by omega, hc] at h1
          rw [getElem!_def, h1]; rfl
        · rfl
    · exact sortWorldK_same hj e
  obtain ⟨q1, q2⟩ := hg.growI (w' := sortWorldK enc k w (ids b) off n (Array.range len) os) (by rw [sortWorldK_size]; omega) hsame I (fun _ h => h) (fun j hj => by rw [sortWorldK_size]; have := hg.I j hj; omega) (fun j hj => .inl hj) rfl ⟨rfl, by show w.drawn ≤ w.drawn + n; omega⟩ rfl
  exact ⟨_, ids, I, rfl, q1, by unfold VR; exact ⟨[], rfl, rfl⟩, q2⟩
/-- **slices.SortFunc, at structs in their order.** -/
theorem sorts_ok {ρ : Ren} (L : SlLaysF0.n6 P ρ) {f k : Nat} (hf : ρ.f 6 = f) (hkd : kindIs P (ρ.t 24) (some k) = true) (hb : bodied P f = true) : PrimOk P f (pSortS k) := by
  subst hf
  refine ⟨hb, fun ce hce hbd args σ r σ' hp ids I w vs hg hv => ?_⟩
  have none_case : ∀ (v2 : Value) (p : Option Addr) (cap : Nat), Calls P (ρ.f 6) #[.slice p 0 cap, v2] w fun e w' => ∃ v ids' I', e = .returned v ∧ Good (ctxOf σ ids' I') w' ∧ VR (ctxOf σ ids' I') w'.heap (.tup []) v ∧ Step (ctxOf σ ids I) w (ctxOf σ ids' I') w' := fun v2 p cap => by
    refine (AnyF.slices_SortFunc_none (P := P) (ρ := ρ) L p cap v2 w).mono ?_
    rintro e w' ⟨rfl, rfl⟩
    exact ⟨_, ids, I, rfl, hg, by unfold VR; exact ⟨[], rfl, rfl⟩, Step.refl _ _⟩
  unfold pSortS at hp
  split at hp
  · simp only [Option.some.injEq, Prod.mk.injEq] at hp
    obtain ⟨rfl, rfl⟩ := hp
    obtain ⟨v1, s1, rfl, hv1, v2, s2, rfl, hv2, rfl⟩ := hv
    have hv1 : v1 = .slice none 0 0 := hv1
    subst hv1
    exact none_case v2 none 0
  · simp only [Option.some.injEq, Prod.mk.injEq] at hp
    obtain ⟨rfl, rfl⟩ := hp
    obtain ⟨v1, s1, rfl, hv1, v2, s2, rfl, hv2, rfl⟩ := hv
    unfold VR at hv1
    rcases hv1.2 with ⟨_, a, rfl, _⟩ | ⟨blk, off, cap, st, c, el, fz, rfl, _⟩
    · exact none_case v2 a 0
    · exact none_case v2 _ cap
  · rename_i b u off len g caps
    split at hp
    · rename_i B hu
      split at hp
      · rename_i h0
        simp only [Option.some.injEq, Prod.mk.injEq] at hp
        obtain ⟨rfl, rfl⟩ := hp
        have h0 : len = 0 := by simpa using h0
        subst h0
        obtain ⟨v1, s1, rfl, hv1, v2, s2, rfl, hv2, rfl⟩ := hv
        unfold VR at hv1
        obtain ⟨⟨p, cap, rfl, _⟩, _⟩ := hv1
        exact none_case v2 p cap
      · rename_i h0
        split at hp
        · rename_i hc
          simp only [Bool.and_eq_true, decide_eq_true_eq] at hc
          obtain ⟨⟨⟨⟨⟨c1, c2⟩, c3⟩, c4⟩, c5⟩, c6⟩ := hc
          simp only [Option.some.injEq, Prod.mk.injEq] at hp
          obtain ⟨rfl, rfl⟩ := hp
          have hlive : B.st = .live := by revert c2; cases B.st <;> simp [BSt.isLive]
          exact sorts_main L hkd hce hbd hu hlive (eqK_eq c1) c3 (Nat.pos_of_ne_zero (by simpa using h0)) c4 c5 c6 hg hv
        · simp at hp
    · simp at hp
  · simp at hp
end Ab
