/- slices.SortFunc, at structs with different first cells. Condition: the library's own text, as the kit's contract has walked it. -/
import Derived.Test.YtdhncjkhockhjaaAbSortS
set_option linter.all false
namespace Ab
open Go Go.Proofs Go.Shelf Go.Sort
variable {P : Program}
section
variable {α : Type} [Inhabited α] {enc : α → Value}
theorem sortWorldP_size {w : World} {id off m : Nat} {dk : Array α} {os : Array Obj} : (sortWorld enc w id off m dk os).heap.size = w.heap.size + os.size := by
  simp [sortWorld, grow, putRow, mapBlock, «Sort».ahead]
theorem sortWorldP_same {w : World} {id off m : Nat} {dk : Array α} {os : Array Obj} {j : Nat} (h : j < w.heap.size) (hne : j ≠ id) : (sortWorld enc w id off m dk os).heap[j]? = w.heap[j]? := by
  simp only [sortWorld, grow, putRow, mapBlock, «Sort».ahead]
  rw [Array.getElem?_append_left (by simpa using h), Array.getElem?_modify, if_neg (by omega)]
end
theorem swo_r {r : Nat → Nat} {cf : Nat → Nat → Int} (h : ∀ i j, cf i j < 0 ↔ r i < r j) : SWO (ltOf cf) where
  irrefl x := by simp only [ltOf, decide_eq_false_iff_not, h]; omega
  trans x y z h1 h2 := by simp only [ltOf, decide_eq_true_eq, h] at *; omega
  ntrans x y z h1 h2 := by simp only [ltOf, decide_eq_false_iff_not, h] at *; omega
theorem flatMap_len {α β : Type} {f : α → List β} {k : Nat} : ∀ {l : List α}, (∀ x ∈ l, (f x).length = k) → (l.flatMap f).length = l.length * k
  | [], _ => by simp
  | x :: l, h => by
    have ih := flatMap_len (f := f) (k := k) (l := l) fun y hy => h y (by simp [hy])
    rw [List.flatMap_cons, List.length_append, ih, h x (by simp), List.length_cons, Nat.add_mul, Nat.one_mul, Nat.add_comm]
theorem flatMap_get {α β : Type} {f : α → List β} {k : Nat} : ∀ {l : List α} {t : Nat}, (∀ x ∈ l, (f x).length = k) → 0 < k → t < l.length * k → (l.flatMap f)[t]? = (l[t / k]?).bind fun x => (f x)[t % k]?
  | [], t, _, _, h => by simp at h
  | x :: l, t, h, hk, ht => by
    have hx := h x (by simp)
    rw [List.flatMap_cons]
    by_cases htk : t < k
    · rw [List.getElem?_append_left (by omega), Nat.div_eq_of_lt htk, Nat.mod_eq_of_lt htk]; rfl
    · have ih := flatMap_get (f := f) (k := k) (l := l) (t := t - k) (fun y hy => h y (by simp [hy])) hk (by rw [List.length_cons, Nat.add_mul] at ht; omega)
      rw [List.getElem?_append_right (by omega), hx, ih]
      obtain ⟨u, rfl⟩ : ∃ u, t = u + k := ⟨t - k, by omega⟩
      rw [Nat.add_sub_cancel, Nat.add_div_right u hk, Nat.add_mod_right]
      rfl
theorem putRow_rowP {α : Type} [Inhabited α] {enc : α → Value} {w : World} {id off n : Nat} {d' : Array α} {os : Array Obj} {c : Array Value} {el : TypeId} (hH : w.heap[id]? = some (.cells c el (0, 0))) (hfit : off + d'.size ≤ c.size) :
    (w.setRow id (c.toList.take off ++ d'.toList.map enc ++ c.toList.drop (off + (d'.toList.map enc).length)).toArray).heap.size ≤ (sortWorld enc w id off n d' os).heap.size ∧
    ∀ k, k < w.heap.size → (sortWorld enc w id off n d' os).heap[k]? = (w.setRow id (c.toList.take off ++ d'.toList.map enc ++ c.toList.drop (off + (d'.toList.map enc).length)).toArray).heap[k]? := by
  refine ⟨by rw [setRow_size, sortWorldP_size]; omega, fun k hk => ?_⟩
  by_cases e : k = id
  · subst e
    rw [setRow_heap w k c _ el (0, 0) hH]
    simp only [sortWorld, grow, putRow, mapBlock, «Sort».ahead]
    rw [Array.getElem?_append_left (by simpa using hk), Array.getElem?_modify, if_pos rfl, hH]
    simp only [Option.map_some, onCells, Option.some.injEq, Obj.cells.injEq, and_true]
    apply Array.ext_getElem?
    intro i
    have hta : ∀ L : List Value, L.toArray[i]? = L[i]? := fun L => by simp
    rw [hta (c.toList.take off ++ d'.toList.map enc ++ c.toList.drop (off + (d'.toList.map enc).length))]
    simp only [putCells, Array.getElem?_mapIdx, List.length_map, Array.length_toList]
    by_cases h1 : i < off
    · rw [List.append_assoc, List.getElem?_append_left (by simp; omega), List.getElem?_take, if_pos h1, Array.getElem?_toList]
      cases hc : c[i]? with
      | none => rfl
      | some v => simp; omega
    · by_cases h2 : i < off + d'.size
      · rw [List.getElem?_append_left (by simp; omega), List.getElem?_append_right (by simp; omega), List.getElem?_map]
        have hlt : i < c.size := by omega
        rw [Array.getElem?_eq_getElem hlt]
        simp only [List.length_take, Array.length_toList, Option.map_some]
        rw [if_pos (by omega), show min off c.size = off by omega, Array.getElem?_toList, Array.getElem?_eq_getElem (by omega)]
        simp [getElem!_def, Array.getElem?_eq_getElem (show i - off < d'.size by omega)]
      · rw [List.getElem?_append_right (by simp; omega), List.getElem?_drop, Array.getElem?_toList]
        simp only [List.length_append, List.length_take, Array.length_toList, List.length_map]
        rw [show off + d'.size + (i - (min off c.size + d'.size)) = i by omega]
        cases hc : c[i]? with
        | none => rfl
        | some v => simp; omega
  · rw [sortWorldP_same hk e, setRow_other w id _ e]
theorem sortp_main {ρ : Ren} (L : SlLaysF0.n6 P ρ) {k : Nat} (hkd : kindIs P (ρ.t 24) (some k) = true) {ce : CE} (hce : CallOk P ce) (hbd : HasBody P ce) {b u off len g : Nat} {caps : List AV} {σ : List Blk} {B : Blk} (hu : upto σ b u = some B) (hlive : B.st = .live) (hk : B.k = some k) (hk0 : 0 < k) (hlen : 0 < len) (hfit : off + len * k ≤ B.cells.length) (hbig : B.cells.length ≤ big)
    (hag : agreeS ce g caps (sortP (chunk (some k) len (B.cells.drop off))) = true) {ids : Nat → Nat} {I : Nat → Prop} {w : World} {vs : List Value} (hg : Good (ctxOf σ ids I) w) (hv : VRL (ctxOf σ ids I) w.heap [.sl b u off len, .func g caps] vs) :
    Calls P (ρ.f 6) vs.toArray w fun e w' => ∃ v ids' I', e = .returned v ∧ Good (ctxOf (setB σ b ⟨B.k, putAt B.cells off ((sortP (chunk (some k) len (B.cells.drop off))).flatMap AV.cells), B.st⟩) ids' I') w' ∧ VR (ctxOf (setB σ b ⟨B.k, putAt B.cells off ((sortP (chunk (some k) len (B.cells.drop off))).flatMap AV.cells), B.st⟩) ids' I') w'.heap (.tup []) v ∧ Step (ctxOf σ ids I) w (ctxOf (setB σ b ⟨B.k, putAt B.cells off ((sortP (chunk (some k) len (B.cells.drop off))).flatMap AV.cells), B.st⟩) ids' I') w' := by
  obtain ⟨hb, hul, hnd⟩ := upto_blk hu
  have hown := upto_own ids I hu
  subst hul
  obtain ⟨v1, s1, rfl, hv1, v2, s2, rfl, hv2, rfl⟩ := hv
  unfold VR at hv1 hv2
  have hv1 := hv1.2.2 B _ hown
  rw [hlive] at hv1
  obtain ⟨c, el, o, cap, hH, e1, hoff, hlc, hcs⟩ := hv1
  rw [hoff (by omega)] at e1
  obtain ⟨cb, e2, hcb⟩ := hv2
  obtain ⟨hnI, c', el', hH', hle, hcells⟩ := hg.live b _ B _ hown hlive
  rw [hH] at hH'
  simp only [Option.some.injEq, Obj.cells.injEq] at hH'
  obtain ⟨rfl, rfl, _⟩ := hH'
  generalize hD : chunk (some k) len (B.cells.drop off) = D at hag ⊢
  have hDl : D.length = len := by rw [← hD, chunk_len]
  have hDget : ∀ i, i < len → D[i]? = some (.agg ((B.cells.drop (off + i * k)).take k)) := fun i hi => by
    rw [← hD, chunk_cells len _ (by simp; omega) i hi, List.drop_drop]
  let ix0 : Nat → Nat := fun i => min i (len - 1)
  have hix : ∀ i, ix0 i < len := fun i => by show min i (len - 1) < len; omega
  have hixk : ∀ i, off + ix0 i * k + k ≤ B.cells.length := fun i => by
    have := Nat.mul_le_mul_right k (show ix0 i + 1 ≤ len from hix i)
    rw [Nat.add_mul] at this; omega
  let av : Nat → AV := fun i => .agg ((B.cells.drop (off + ix0 i * k)).take k)
  let enc : Nat → List Value := fun i => (c.toList.drop (off + ix0 i * k)).take k
  have hek : ∀ i, (enc i).length = k := fun i => by
    have := hixk i
    show ((c.toList.drop (off + ix0 i * k)).take k).length = k
    simp; omega
  have hget : ∀ i (j : Nat), j < k → ∃ x y, B.cells[off + ix0 i * k + j]? = some x ∧ c[off + ix0 i * k + j]? = some y ∧ VR (ctxOf σ ids I) w.heap x y ∧ y.oneCell' = true ∧ (enc i)[j]? = some y := fun i j hj => by
    have := hixk i
    have hx := List.getElem?_eq_getElem (show off + ix0 i * k + j < B.cells.length by omega)
    obtain ⟨y, k1, k2, k3⟩ := hcells _ _ hx
    refine ⟨_, y, hx, k1, k2, k3, ?_⟩
    show ((c.toList.drop (off + ix0 i * k)).take k)[j]? = some y
    rw [List.getElem?_take, if_pos hj, List.getElem?_drop, Array.getElem?_toList]; exact k1
  have hone : ∀ i, ∀ v ∈ enc i, v.oneCell' = true := fun i v hv => by
    obtain ⟨j, hj⟩ := List.mem_iff_getElem?.1 hv
    have hjk : j < k := by rw [← hek i]; exact (List.getElem?_eq_some_iff.1 hj).1
    obtain ⟨_, y, _, _, _, h3, h4⟩ := hget i j hjk
    rw [hj] at h4; cases h4; exact h3
  have hvl : ∀ i (n p : Nat), p + n = k → VRL (ctxOf σ ids I) w.heap ((B.cells.drop (off + ix0 i * k + p)).take n) ((c.toList.drop (off + ix0 i * k + p)).take n) := fun i n => by
    induction n with
    | zero => intro p _; simp [VRL]
    | succ n ih =>
      intro p hp
      have := hixk i
      obtain ⟨x, y, h1, h2, h3, _, _⟩ := hget i p (by omega)
      have l1 : off + ix0 i * k + p < B.cells.length := by omega
      have l2 : off + ix0 i * k + p < c.toList.length := by simp; omega
      rw [List.drop_eq_getElem_cons l1, List.drop_eq_getElem_cons l2, List.take_succ_cons, List.take_succ_cons]
      refine ⟨_, _, rfl, ?_, ih (p + 1) (by omega)⟩
      rw [List.getElem?_eq_getElem l1] at h1
      rw [← Array.getElem?_toList, List.getElem?_eq_getElem l2] at h2
      cases h1; cases h2; exact h3
  have hvr : ∀ i, VR (ctxOf σ ids I) w.heap (av i) (.agg (enc i).toArray) := fun i => by
    unfold VR
    exact ⟨enc i, rfl, hvl i k 0 (by omega), hone i⟩
  have hDav : ∀ i, D[ix0 i]? = some (av i) := fun i => hDget _ (hix i)
  have hpS := sortP_perm D
  generalize hS : sortP D = S at *
  have hSl : S.length = len := by rw [hpS.length_eq, hDl]
  have hSn : S.Nodup := by
    rw [List.nodup_iff_pairwise_ne, List.pairwise_iff_getElem]
    intro a b ha hb hab e
    obtain ⟨q, q1, q2⟩ := agreeS_spec hag (List.getElem?_eq_getElem ha) (List.getElem?_eq_getElem hb)
    obtain ⟨q', q3, q4⟩ := agreeS_spec hag (List.getElem?_eq_getElem hb) (List.getElem?_eq_getElem ha)
    rw [e] at q1 q3
    rw [q1] at q3
    simp only [Option.some.injEq] at q3
    subst q3
    have := q2.2 hab
    have := q4.1 this
    omega
  have hex : ∀ i, ∃ j, j < len ∧ S[j]? = some (av i) := fun i => by
    obtain ⟨j, hj⟩ := List.mem_iff_getElem?.1 (hpS.mem_iff.2 (List.mem_iff_getElem?.2 ⟨_, hDav i⟩))
    exact ⟨j, by rw [← hSl]; exact (List.getElem?_eq_some_iff.1 hj).1, hj⟩
  obtain ⟨r, hr⟩ := Classical.axiomOfChoice hex
  have hcm : ∀ i j, ∃ q, cmpI ce g caps (av i) (av j) = some q ∧ (q < 0 ↔ r i < r j) := fun i j => agreeS_spec hag (hr i).2 (hr j).2
  let cf : Nat → Nat → Int := fun i j => (cmpI ce g caps (av i) (av j)).getD 0
  have hcmp : ∀ i j, cmpI ce g caps (av i) (av j) = some (cf i j) := fun i j => by
    obtain ⟨q, h1, _⟩ := hcm i j
    show _ = some ((cmpI ce g caps (av i) (av j)).getD 0)
    rw [h1]; rfl
  have hcf : ∀ i j, cf i j < 0 ↔ r i < r j := fun i j => by
    obtain ⟨q, h1, h2⟩ := hcm i j
    have : cf i j = q := by show (cmpI ce g caps (av i) (av j)).getD 0 = q; rw [h1]; rfl
    rw [this]; exact h2
  have eg : ∀ args w, (callFunc g args).run P w = .ok (.enter g args) w := by
    have h := hcmp 0 0
    unfold cmpI at h
    have hp : ∃ x, pcl ce g (av 0 :: av 0 :: caps) = some x := by
      split at h
      · rename_i c hc'; exact ⟨_, hc'⟩
      · simp at h
    obtain ⟨x, hp⟩ := hp
    unfold pcl at hp
    split at hp
    case isFalse => simp at hp
    cases hc : ce g ((av 0 :: av 0 :: caps).map wk) [] with
    | none => rw [hc] at hp; simp at hp
    | some r => exact bodied_run (hbd g _ _ r hc)
  have hidlt := (Array.getElem?_eq_some_iff.1 hH).1
  have hflat : ∀ t, t < len * k → (flatK enc k (Array.range len))[t]? = c[off + t]? := fun t ht => by
    have htk := Nat.mod_lt t hk0
    have htd : t / k < len := (Nat.div_lt_iff_lt_mul hk0).2 ht
    have hdm := Nat.div_add_mod t k
    have hi0 : ix0 (t / k) = t / k := by show min (t / k) (len - 1) = t / k; omega
    obtain ⟨_, y, _, h2, _, _, h5⟩ := hget (t / k) (t % k) htk
    rw [hi0] at h2
    have : off + t / k * k + t % k = off + t := by rw [Nat.mul_comm]; omega
    rw [this] at h2
    rw [h2]
    simp only [flatK, Array.getElem?_map, Array.size_range]
    rw [Array.getElem?_range, if_pos ht]
    simp only [Option.map_some, Option.some.injEq]
    have hr : (Array.range len)[t / k]! = t / k := by rw [getElem!_def, Array.getElem?_range, if_pos htd]
    rw [hr, getElem!_def, h5]
  have hfsz : (flatK enc k (Array.range len)).size = len * k := by simp [flatK]
  have hHolds : HoldsK enc k w (ids b) off (Array.range len) := fun j hj => by
    rw [hfsz] at hj
    have h1 := hflat j hj
    have hlt : off + j < c.size := by omega
    refine ⟨?_, ?_⟩
    · simp only [World.cell?, hH]
      rw [getElem!_def, h1, Array.getElem?_eq_getElem hlt]
      simp [hlt]
    · simp [World.frozen?, hH]
  have key := AnyQ.slices_SortFunc L k (fun w => by have := kind_agg hkd w; exact this) (fun w => by have := info_size (kind_size hkd) w; exact this) enc hek hone cf (swo_r hcf) g cb.toArray (ids b) off cap (Array.range len) w eg
    (cmp_laysS hce hg hcb hnI hvr hcmp) hHolds hidlt (by
      have : len * 1 ≤ len * k := Nat.mul_le_mul_left len hk0
      simp [big] at hbig ⊢; omega)
  simp only [Array.size_range] at key
  rw [e1, e2]
  refine key.mono ?_
  rintro e w' ⟨rfl, d', n, os, hp, hs, rfl⟩
  obtain ⟨p1, _, p3⟩ := hp
  simp only [Array.size_range] at p1 p3
  have hperm : d'.toList.Perm (List.range len) := by
    have e3 : (d'.extract 0 len).toList = d'.toList := by rw [← p1]; simp
    have e4 : ((Array.range len).extract 0 len).toList = List.range len := by
      have : (Array.range len).extract 0 len = Array.range len := by
        have := Array.extract_size (xs := Array.range len)
        rwa [Array.size_range] at this
      rw [this]; simp
    rw [e3, e4] at p3
    exact p3
  have hDmap : (List.range len).map av = D := by
    apply List.ext_getElem? fun i => ?_
    rw [List.getElem?_map]
    by_cases hi : i < len
    · rw [List.getElem?_range hi]
      have := hDav i
      rw [show ix0 i = i by show min i (len - 1) = i; omega] at this
      rw [this]; rfl
    · rw [List.getElem?_eq_none (by simp; omega), List.getElem?_eq_none (by omega)]; rfl
  have hE : d'.toList.map av = S := by
    refine List.Perm.eq_of_pairwise (le := fun x y => ∃ a b : Nat, a ≤ b ∧ S[a]? = some x ∧ S[b]? = some y) (fun x y _ _ h k => ?_) ?_ ?_ (((hperm.map av).trans (by rw [hDmap])).trans hpS.symm)
    · obtain ⟨a, b, h1, h2, h3⟩ := h
      obtain ⟨a', b', k1, k2, k3⟩ := k
      obtain ⟨l1, h2'⟩ := List.getElem?_eq_some_iff.1 h2
      obtain ⟨l2, h3'⟩ := List.getElem?_eq_some_iff.1 h3
      obtain ⟨l3, k2'⟩ := List.getElem?_eq_some_iff.1 k2
      obtain ⟨l4, k3'⟩ := List.getElem?_eq_some_iff.1 k3
      have e1 : a = b' := (List.getElem_inj hSn).1 (h2'.trans k3'.symm)
      have e2 : b = a' := (List.getElem_inj hSn).1 (h3'.trans k2'.symm)
      have : a = b := by omega
      subst this
      rw [← h2', ← h3']
    · rw [List.pairwise_map, List.pairwise_iff_getElem]
      intro i j hi hj hij
      simp only [Array.length_toList] at hi hj
      have := hs i j (Nat.zero_le _) hij (by omega)
      rw [getElem!_pos d' j hj, getElem!_pos d' i hi] at this
      simp only [ltOf, decide_eq_false_iff_not, hcf] at this
      simp only [Array.getElem_toList]
      exact ⟨_, _, by omega, (hr d'[i]).2, (hr d'[j]).2⟩
    · rw [List.pairwise_iff_getElem]
      intro i j hi hj hij
      exact ⟨i, j, by omega, List.getElem?_eq_getElem hi, List.getElem?_eq_getElem hj⟩
  have hnew : S.flatMap AV.cells = d'.toList.flatMap fun i => (B.cells.drop (off + ix0 i * k)).take k := by
    rw [← hE, List.flatMap_map]
  have hck : ∀ i, ((B.cells.drop (off + ix0 i * k)).take k).length = k := fun i => by
    have := hixk i
    simp; omega
  have hnl : (S.flatMap AV.cells).length = len * k := by
    rw [hnew, flatMap_len fun i _ => hck i]; simp [p1]
  have hfl : (flatK enc k d').size = len * k := by simp [flatK, p1]
  obtain ⟨g1, g2⟩ := post_write (vals := (flatK enc k d').toList.map id) (new := S.flatMap AV.cells) (off := off) hg hown hlive (ctxOf_only (u := 0) hb) hH (by omega) (by rw [hnl]; simp [hfl]) (fun t q ht => by
    have htl : t < len * k := by rw [← hnl]; exact (List.getElem?_eq_some_iff.1 ht).1
    have htk := Nat.mod_lt t hk0
    have htd : t / k < len := (Nat.div_lt_iff_lt_mul hk0).2 htl
    have hdl : t / k < d'.toList.length := by simp [p1, htd]
    rw [hnew, flatMap_get (fun i _ => hck i) hk0 (by simpa [p1] using htl), List.getElem?_eq_getElem hdl] at ht
    simp only [Option.bind_some] at ht
    obtain ⟨x, y, h1, h2, h3, h4, h5⟩ := hget (d'.toList[t / k]) (t % k) htk
    have hx : x = q := by
      rw [List.getElem?_take, if_pos htk, List.getElem?_drop, h1] at ht
      exact Option.some.inj ht
    subst hx
    refine ⟨y, ?_, h3, h4⟩
    rw [List.getElem?_map, Array.getElem?_toList]
    simp only [flatK, Array.getElem?_map, p1]
    rw [Array.getElem?_range, if_pos htl]
    simp only [Option.map_some, id, Option.some.injEq]
    rw [getElem!_pos d' (t / k) (by simpa using hdl)]
    rw [getElem!_def]
    simp only [Array.getElem_toList] at h5
    rw [h5])
  obtain ⟨pl, _⟩ := putAt_get B.cells (S.flatMap AV.cells) off (by omega)
  have hset := ctxOf_set (ids := ids) (I := I) (id' := ids b) (B' := ⟨B.k, putAt B.cells off (S.flatMap AV.cells), B.st⟩) hb hnd
  have hids : (fun q => if q = b then ids b else ids q) = ids := by funext q; split <;> simp_all
  rw [hids] at hset
  obtain ⟨f1, f2⟩ := Good.shrink (C2 := ctxOf (setB σ b ⟨B.k, putAt B.cells off (S.flatMap AV.cells), B.st⟩) ids I) g1 rfl (fun b1 u1 e1 h1 => by
    have := hset b1 u1 e1 h1
    simp only [pl] at this
    exact this) (fun b1 u1 h1 => ctxOf_set_lim (ids := ids) (I := I) hb (by show B.cells.length ≤ (putAt B.cells off (S.flatMap AV.cells)).length; rw [pl]; exact Nat.le_refl _) b1 u1 h1)
  obtain ⟨r1, r2⟩ := putRow_rowP (enc := id) (off := off) (n := n) (os := os) (d' := flatK enc k d') hH (by rw [hfl]; omega)
  have hsame : ∀ j, j < (w.setRow (ids b) (c.toList.take off ++ (flatK enc k d').toList.map id ++ c.toList.drop (off + ((flatK enc k d').toList.map id).length)).toArray).heap.size → (sortWorldK enc k w (ids b) off n d' os).heap[j]? = (w.setRow (ids b) (c.toList.take off ++ (flatK enc k d').toList.map id ++ c.toList.drop (off + ((flatK enc k d').toList.map id).length)).toArray).heap[j]? := fun j hj => r2 j (by rwa [setRow_size] at hj)
  obtain ⟨q1, q2⟩ := f1.growI r1 hsame I (fun _ h => h) (fun j hj => Nat.lt_of_lt_of_le (f1.I j hj) r1) (fun j hj => .inl hj) rfl ⟨rfl, by show w.drawn ≤ w.drawn + n; omega⟩ rfl
  exact ⟨_, ids, I, rfl, q1, by unfold VR; exact ⟨[], rfl, rfl⟩, (g2.trans f2).trans q2⟩
/-- **slices.SortFunc, at structs with different first cells.** -/
theorem sortp_ok {ρ : Ren} (L : SlLaysF0.n6 P ρ) {f k : Nat} (hf : ρ.f 6 = f) (hkd : kindIs P (ρ.t 24) (some k) = true) (hb : bodied P f = true) : PrimOk P f (pSortP k) := by
  subst hf
  refine ⟨hb, fun ce hce hbd args σ r σ' hp ids I w vs hg hv => ?_⟩
  have none_case : ∀ (v2 : Value) (p : Option Addr) (cap : Nat), Calls P (ρ.f 6) #[.slice p 0 cap, v2] w fun e w' => ∃ v ids' I', e = .returned v ∧ Good (ctxOf σ ids' I') w' ∧ VR (ctxOf σ ids' I') w'.heap (.tup []) v ∧ Step (ctxOf σ ids I) w (ctxOf σ ids' I') w' := fun v2 p cap => by
    refine (AnyF.slices_SortFunc_none (P := P) (ρ := ρ) L p cap v2 w).mono ?_
    rintro e w' ⟨rfl, rfl⟩
    exact ⟨_, ids, I, rfl, hg, by unfold VR; exact ⟨[], rfl, rfl⟩, Step.refl _ _⟩
  unfold pSortP at hp
  split at hp
  · simp only [Option.some.injEq, Prod.mk.injEq] at hp
    obtain ⟨rfl, rfl⟩ := hp
    obtain ⟨v1, s1, rfl, hv1, v2, s2, rfl, hv2, rfl⟩ := hv
    have hv1 : v1 = .slice none 0 0 := hv1
    subst hv1
    exact none_case v2 none 0
  · simp only [Option.some.injEq, Prod.mk.injEq] at hp
    obtain ⟨rfl, rfl⟩ := hp
    obtain ⟨v1, s1, rfl, hv1, v2, s2, rfl, hv2, rfl⟩ := hv
    unfold VR at hv1
    rcases hv1.2 with ⟨_, a, rfl, _⟩ | ⟨blk, off, cap, st, c, el, fz, rfl, _⟩
    · exact none_case v2 a 0
    · exact none_case v2 _ cap
  · rename_i b u off len g caps
    split at hp
    · rename_i B hu
      split at hp
      · rename_i h0
        simp only [Option.some.injEq, Prod.mk.injEq] at hp
        obtain ⟨rfl, rfl⟩ := hp
        have h0 : len = 0 := by simpa using h0
        subst h0
        obtain ⟨v1, s1, rfl, hv1, v2, s2, rfl, hv2, rfl⟩ := hv
        unfold VR at hv1
        obtain ⟨⟨p, cap, rfl, _⟩, _⟩ := hv1
        exact none_case v2 p cap
      · rename_i h0
        split at hp
        · rename_i hc
          simp only [Bool.and_eq_true, decide_eq_true_eq] at hc
          obtain ⟨⟨⟨⟨⟨c1, c2⟩, c3⟩, c4⟩, c5⟩, c6⟩ := hc
          simp only [Option.some.injEq, Prod.mk.injEq] at hp
          obtain ⟨rfl, rfl⟩ := hp
          have hlive : B.st = .live := by revert c2; cases B.st <;> simp [BSt.isLive]
          exact sortp_main L hkd hce hbd hu hlive (eqK_eq c1) c3 (Nat.pos_of_ne_zero (by simpa using h0)) c4 c5 c6 hg hv
        · simp at hp
    · simp at hp
  · simp at hp
end Ab
