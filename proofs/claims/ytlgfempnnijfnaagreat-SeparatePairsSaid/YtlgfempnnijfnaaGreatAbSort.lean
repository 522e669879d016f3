/- slices.SortFunc, at words under an order of words, does what the small language says. Condition: the library's own text, as the kit's contract has walked it. -/
import Derived.Test.YtlgfempnnijfnaaGreatAbC
import Derived.Test.YtlgfempnnijfnaaGreatAbSortM
import Derived.Shelf.SlSortCmp.NoneTotal
set_option linter.all false
namespace Ab
open Go Go.Proofs Go.Shelf Go.Sort
variable {P : Program}
theorem zfSO {W w' : World} (h1 : W.heap.size ≤ w'.heap.size) (h2 : ∀ k, k < W.heap.size → w'.heap[k]? = W.heap[k]?) (h3 : w'.os = W.os) (h4 : w'.tape = W.tape ∧ W.drawn ≤ w'.drawn) (h5 : w'.output = W.output) :
    w' = grow (W.drewN (w'.drawn - W.drawn)) (w'.heap.extract W.heap.size w'.heap.size) := by
  obtain ⟨H, t, d, o, u⟩ := W
  obtain ⟨H', t', d', o', u'⟩ := w'
  simp only at h1 h2 h3 h4 h5
  obtain ⟨rfl, h4⟩ := h4
  subst h3; subst h5
  simp only [grow, World.drewN, World.mk.injEq, true_and, and_true]
  refine ⟨?_, by omega⟩
  apply Array.ext_getElem?
  intro i
  by_cases hi : i < H.size
  · rw [Array.getElem?_append_left hi, h2 i hi]
  · rw [Array.getElem?_append_right (by omega), Array.getElem?_extract]
    by_cases hi' : i < H'.size
    · rw [if_pos (by omega), show H.size + (i - H.size) = i by omega]
    · rw [if_neg (by omega), Array.getElem?_eq_none (by omega)]
theorem zi6j {α : Type} [Inhabited α] {enc : α → Value} {w : World} {id off m : Nat} {dk : Array α} {os : Array Obj} : (sortWorld enc w id off m dk os).heap.size = w.heap.size + os.size := by
  simp [sortWorld, grow, putRow, mapBlock, «Sort».ahead]
theorem zGMi {α : Type} [Inhabited α] {enc : α → Value} {w : World} {id off m : Nat} {dk : Array α} {os : Array Obj} {k : Nat} (h : k < w.heap.size) (hne : k ≠ id) : (sortWorld enc w id off m dk os).heap[k]? = w.heap[k]? := by
  simp only [sortWorld, grow, putRow, mapBlock, «Sort».ahead]
  rw [Array.getElem?_append_left (by simpa using h), Array.getElem?_modify, if_neg (by omega)]
theorem zqxX {ce : CE} (hce : CallOk P ce) {g : Nat} {caps : List AV} {C : Ctx} {w : World} {cb : List Value} (hg : Good C w) (hcb : VRL C w.heap caps cb) {id off len : Nat} (hid : ¬ C.I id)
    {av : Nat → AV} {enc : Nat → Value} {cf : Nat → Nat → Int} (hv : ∀ i, VR C w.heap (av i) (enc i)) (hc : ∀ i j, cmpI ce g caps (av i) (av j) = some (cf i j)) :
    CmpLays1 P g cb.toArray enc cf id off len w := by
  intro m os dk hs x y
  have h := hc x y
  unfold cmpI at h
  have hp : pcl ce g (av x :: av y :: caps) = some (.int (cf x y)) := by
    split at h
    · rename_i c hc'; simp at h; subst h; exact hc'
    · simp at h
  have hn : noLocs (av x :: av y :: caps) = true := by
    unfold pcl at hp
    split at hp
    · assumption
    · simp at hp
  have hsame : ∀ k, C.I k → (sortWorld enc w id off m dk os).heap[k]? = w.heap[k]? := fun k hk => zGMi (hg.I k hk) fun e => hid (e ▸ hk)
  have hg' : Good (ctxOf [] (fun _ => 0) C.I) (sortWorld enc w id off m dk os) :=
    ⟨fun k hk => by rw [zi6j]; have := hg.I k hk; omega, fun b u B i h => by simp [ctxOf, blk] at h, fun b u B i h => by simp [ctxOf, blk] at h, fun b u B i b' u' B' i' h => by simp [ctxOf, blk] at h, fun b u B i es h => by simp [ctxOf, blk] at h⟩
  have hvr : VRL (ctxOf [] (fun _ => 0) C.I) (sortWorld enc w id off m dk os).heap (av x :: av y :: caps) (enc x :: enc y :: cb) :=
    VRL.free (show ISub C w.heap (ctxOf [] (fun _ => 0) C.I) (sortWorld enc w id off m dk os).heap from ⟨fun _ h => h, hsame⟩) _ _ hn ⟨_, _, rfl, hv x, _, _, rfl, hv y, hcb⟩
  have key := zLEz hce hp hg' hvr
  rw [show #[enc x, enc y] ++ cb.toArray = (enc x :: enc y :: cb).toArray by simp]
  refine key.mono ?_
  rintro e w' ⟨v, rfl, I', k1, k2, k3⟩
  refine ⟨by rw [k3.int_inv], _, _, zfSO k2.size (fun k hk => k2.frame k hk zONh) k2.os k2.tape k2.output⟩
theorem z93J {enc : Nat → Value} {w : World} {id off n : Nat} {d' : Array Nat} {os : Array Obj} {c : Array Value} {el : TypeId} (hH : w.heap[id]? = some (.cells c el (0, 0))) (hfit : off + d'.size ≤ c.size) :
    (w.setRow id (c.toList.take off ++ d'.toList.map enc ++ c.toList.drop (off + (d'.toList.map enc).length)).toArray).heap.size ≤ (sortWorld enc w id off n d' os).heap.size ∧
    ∀ k, k < w.heap.size → (sortWorld enc w id off n d' os).heap[k]? = (w.setRow id (c.toList.take off ++ d'.toList.map enc ++ c.toList.drop (off + (d'.toList.map enc).length)).toArray).heap[k]? := by
  refine ⟨by rw [zIsg, zi6j]; omega, fun k hk => ?_⟩
  by_cases e : k = id
  · subst e
    rw [setRow_heap w k c _ el (0, 0) hH]
    simp only [sortWorld, grow, putRow, mapBlock, «Sort».ahead]
    rw [Array.getElem?_append_left (by simpa using hk), Array.getElem?_modify, if_pos rfl, hH]
    simp only [Option.map_some, onCells, Option.some.injEq, Obj.cells.injEq, and_true]
    apply Array.ext_getElem?
    intro i
    have hta : ∀ L : List Value, L.toArray[i]? = L[i]? := fun L => by simp
    rw [hta (c.toList.take off ++ d'.toList.map enc ++ c.toList.drop (off + (d'.toList.map enc).length))]
    simp only [putCells, Array.getElem?_mapIdx, List.length_map, Array.length_toList]
    by_cases h1 : i < off
    · rw [List.append_assoc, List.getElem?_append_left (by simp; omega), List.getElem?_take, if_pos h1, Array.getElem?_toList]
      cases hc : c[i]? with
      | none => rfl
      | some v => simp; omega
    · by_cases h2 : i < off + d'.size
      · rw [List.getElem?_append_left (by simp; omega), List.getElem?_append_right (by simp; omega), List.getElem?_map]
        have hlt : i < c.size := by omega
        rw [Array.getElem?_eq_getElem hlt]
        simp only [List.length_take, Array.length_toList, Option.map_some]
        rw [if_pos (by omega), show min off c.size = off by omega, Array.getElem?_toList, Array.getElem?_eq_getElem (by omega)]
        simp [getElem!_def, Array.getElem?_eq_getElem (show i - off < d'.size by omega)]
      · rw [List.getElem?_append_right (by simp; omega), List.getElem?_drop, Array.getElem?_toList]
        simp only [List.length_append, List.length_take, Array.length_toList, List.length_map]
        rw [show off + d'.size + (i - (min off c.size + d'.size)) = i by omega]
        cases hc : c[i]? with
        | none => rfl
        | some v => simp; omega
  · rw [zGMi hk e, zLGX w id _ e]
theorem zVnX {K : List Int → List Int → Int} (hK : KOk K) (wd : Nat → List Int) : SWO (ltOf fun i j => K (wd i) (wd j)) where
  irrefl x := by simp [ltOf, hK.refl]
  trans x y z h1 h2 := by
    simp only [ltOf, decide_eq_true_eq] at *
    have a1 := hK.trans (wd x) (wd y) (wd z) (by omega) (by omega)
    rcases Int.lt_or_eq_of_le a1 with h | h
    · exact h
    · exfalso
      have e := hK.eq _ _ h
      rw [e, hK.anti] at h1
      omega
  ntrans x y z h1 h2 := by
    simp only [ltOf, decide_eq_false_iff_not, Int.not_lt] at *
    have a1 := hK.anti (wd x) (wd y)
    have a2 := hK.anti (wd y) (wd z)
    have a3 := hK.anti (wd x) (wd z)
    have := hK.trans (wd z) (wd y) (wd x) (by omega) (by omega)
    omega
theorem zjkh {ρ : Ren} (L : SlLaysF.n6 P ρ) {ce : CE} (hce : CallOk P ce) (hbd : HasBody P ce) {K : List Int → List Int → Int} (hK : KOk K) {b u off len g : Nat} {caps : List AV} {σ : List Blk} {B : Blk} (hu : upto σ b u = some B) (hlive : B.st = .live) (hk : B.k = none) (hlen : 0 < len) (hfit : off + len ≤ B.cells.length) (hbig : B.cells.length ≤ big)
    (hag : agree ce g caps K ((B.cells.drop off).take len) = true) {ids : Nat → Nat} {I : Nat → Prop} {w : World} {vs : List Value} (hg : Good (ctxOf σ ids I) w) (hv : VRL (ctxOf σ ids I) w.heap [.sl b u off len, .func g caps] vs) :
    Calls P (ρ.f 6) vs.toArray w fun e w' => ∃ v ids' I', e = .returned v ∧ Good (ctxOf (setB σ b ⟨B.k, putAt B.cells off (sortK K ((B.cells.drop off).take len)), B.st⟩) ids' I') w' ∧ VR (ctxOf (setB σ b ⟨B.k, putAt B.cells off (sortK K ((B.cells.drop off).take len)), B.st⟩) ids' I') w'.heap (.tup []) v ∧
      Step (ctxOf σ ids I) w (ctxOf (setB σ b ⟨B.k, putAt B.cells off (sortK K ((B.cells.drop off).take len)), B.st⟩) ids' I') w' := by
  obtain ⟨hb, hul, hnd⟩ := zOI7 hu
  have hown := z1nM ids I hu
  subst hul
  obtain ⟨v1, s1, rfl, hv1, v2, s2, rfl, hv2, rfl⟩ := hv
  unfold VR at hv1 hv2
  have hv1 := hv1.2.2 B _ hown
  rw [hlive] at hv1
  obtain ⟨c, el, o, cap, hH, e1, hoff, hlc, hcs⟩ := hv1
  rw [hoff (by omega)] at e1
  obtain ⟨cb, e2, hcb⟩ := hv2
  obtain ⟨hnI, c', el', hH', hle, hcells⟩ := hg.live b _ B _ hown hlive
  rw [hH] at hH'
  simp only [Option.some.injEq, Obj.cells.injEq] at hH'
  obtain ⟨rfl, rfl, _⟩ := hH'
  generalize hD : (B.cells.drop off).take len = D at hag ⊢
  have hDl : D.length = len := by rw [← hD]; simp; omega
  have hDget : ∀ i, i < len → D[i]? = B.cells[off + i]? := fun i hi => by rw [← hD, List.getElem?_take, if_pos hi, List.getElem?_drop]
  let ix0 : Nat → Nat := fun i => min i (len - 1)
  have hix : ∀ i, ix0 i < len := fun i => by show min i (len - 1) < len; omega
  have hex : ∀ i, ∃ x, D[ix0 i]? = some x := fun i => ⟨_, List.getElem?_eq_getElem (by rw [hDl]; exact hix i)⟩
  let av : Nat → AV := fun i => (D[ix0 i]?).getD .und
  have hav : ∀ i, D[ix0 i]? = some (av i) := fun i => by obtain ⟨x, hx⟩ := hex i; show _ = some ((D[ix0 i]?).getD .und); rw [hx]; rfl
  have hmem : ∀ i, av i ∈ D := fun i => List.mem_iff_getElem?.2 ⟨_, hav i⟩
  let enc : Nat → Value := fun i => (c[off + ix0 i]?).getD undef
  have henc : ∀ i, c[off + ix0 i]? = some (enc i) ∧ VR (ctxOf σ ids I) w.heap (av i) (enc i) ∧ (enc i).oneCell' = true := fun i => by
    have h1 : B.cells[off + ix0 i]? = some (av i) := by rw [← hDget _ (hix i)]; exact hav i
    obtain ⟨y, k1, k2, k3⟩ := hcells _ _ h1
    have : enc i = y := by show (c[off + ix0 i]?).getD undef = y; rw [k1]; rfl
    rw [this]
    exact ⟨k1, k2, k3⟩
  let wd : Nat → List Int := fun i => (wordOf (av i)).getD []
  have hwd : ∀ i, wordOf (av i) = some (wd i) := fun i => by
    obtain ⟨p, q, h1, _⟩ := zYa1 hag (hmem i) (hmem i)
    show wordOf (av i) = some ((wordOf (av i)).getD [])
    rw [h1]; rfl
  have hcmp : ∀ i j, cmpI ce g caps (av i) (av j) = some (K (wd i) (wd j)) := fun i j => by
    obtain ⟨p, q, h1, h2, h3⟩ := zYa1 hag (hmem i) (hmem j)
    rw [hwd] at h1 h2
    cases h1; cases h2
    exact h3
  have eg : ∀ args w, (callFunc g args).run P w = .ok (.enter g args) w := by
    have h := hcmp 0 0
    unfold cmpI at h
    have hp : ∃ x, pcl ce g (av 0 :: av 0 :: caps) = some x := by
      split at h
      · rename_i c hc'; exact ⟨_, hc'⟩
      · simp at h
    obtain ⟨x, hp⟩ := hp
    unfold pcl at hp
    split at hp
    case isFalse => simp at hp
    cases hc : ce g ((av 0 :: av 0 :: caps).map wk) [] with
    | none => rw [hc] at hp; simp at hp
    | some r => exact ziZp (hbd g _ _ r hc)
  have hidlt := (Array.getElem?_eq_some_iff.1 hH).1
  have hHolds : Holds enc w (ids b) off (Array.range len) := fun j hj => by
    simp only [Array.size_range] at hj
    have hj0 : ix0 j = j := by show min j (len - 1) = j; omega
    have h1 := (henc j).1
    rw [hj0] at h1
    refine ⟨?_, ?_⟩
    · simp only [World.cell?, hH]
      rw [getElem!_def, Array.getElem?_range, if_pos hj]
      simpa using h1
    · simp [World.frozen?, hH]
  have key := Any.slices_SortFunc L enc (fun i => (henc i).2.2) (fun i j => K (wd i) (wd j)) (zVnX hK wd) g cb.toArray (ids b) off cap (Array.range len) w eg
    (zqxX hce hg hcb hnI (fun i => (henc i).2.1) hcmp) hHolds hidlt (by simp [big] at hbig ⊢; omega)
  simp only [Array.size_range] at key
  rw [e1, e2]
  refine key.mono ?_
  rintro e w' ⟨rfl, d', n, os, hp, hs, rfl⟩
  obtain ⟨p1, _, p3⟩ := hp
  simp only [Array.size_range] at p1 p3
  have hperm : d'.toList.Perm (List.range len) := by
    have e3 : (d'.extract 0 len).toList = d'.toList := by rw [← p1]; simp
    have e4 : ((Array.range len).extract 0 len).toList = List.range len := by
      have : (Array.range len).extract 0 len = Array.range len := by
        have := Array.extract_size (xs := Array.range len)
        rwa [Array.size_range] at this
      rw [this]; simp
    rw [e3, e4] at p3
    exact p3
  have hDmap : (List.range len).map av = D := by
    apply List.ext_getElem? fun i => ?_
    rw [List.getElem?_map]
    by_cases hi : i < len
    · rw [List.getElem?_range hi]
      have := hav i
      rw [show ix0 i = i by show min i (len - 1) = i; omega] at this
      rw [this]; rfl
    · rw [List.getElem?_eq_none (by simp; omega), List.getElem?_eq_none (by omega)]; rfl
  have hsorted : d'.toList.map av = sortK K D := by
    refine zh5C hK (fun x hx => ?_) (by rw [← hDmap]; exact hperm.map av) ?_
    · obtain ⟨p, q, h1, _⟩ := zYa1 hag hx hx
      exact ⟨p, h1⟩
    · rw [List.pairwise_map, List.pairwise_iff_getElem]
      intro i j hi hj hij
      simp only [Array.length_toList] at hi hj
      have := hs i j (Nat.zero_le _) hij (by omega)
      rw [getElem!_pos d' j hj, getElem!_pos d' i hi] at this
      simp only [ltOf, decide_eq_false_iff_not, Int.not_lt] at this
      rw [zW5R (hwd _) (hwd _), hK.anti]
      simp only [Array.getElem_toList]
      omega
  have hlenS : (sortK K D).length = len := by rw [← hsorted]; simp [p1]
  obtain ⟨g1, g2⟩ := zJE4 (vals := d'.toList.map enc) (new := sortK K D) (off := off) hg hown hlive (zpRx (u := 0) hb) hH (by omega) (by rw [hlenS]; simp [p1]) (fun i q hi => by
    rw [← hsorted, List.getElem?_map] at hi
    cases hd : d'.toList[i]? with
    | none => rw [hd] at hi; simp at hi
    | some k =>
      rw [hd] at hi
      simp at hi; subst hi
      exact ⟨enc k, by rw [List.getElem?_map, hd]; rfl, (henc k).2.1, (henc k).2.2⟩)
  obtain ⟨pl, _⟩ := zAtF B.cells (sortK K D) off (by omega)
  have hset := zKck (ids := ids) (I := I) (id' := ids b) (B' := ⟨B.k, putAt B.cells off (sortK K D), B.st⟩) hb hnd
  have hids : (fun q => if q = b then ids b else ids q) = ids := by funext q; split <;> simp_all
  rw [hids] at hset
  obtain ⟨f1, f2⟩ := Good.shrink (C2 := ctxOf (setB σ b ⟨B.k, putAt B.cells off (sortK K D), B.st⟩) ids I) g1 rfl (fun b1 u1 e1 h1 => by
    have := hset b1 u1 e1 h1
    simp only [pl] at this
    exact this) (fun b1 u1 h1 => zkpY (ids := ids) (I := I) hb (by show B.cells.length ≤ (putAt B.cells off (sortK K D)).length; rw [pl]; exact Nat.le_refl _) b1 u1 h1)
  obtain ⟨r1, r2⟩ := z93J (enc := enc) (off := off) (n := n) (os := os) (d' := d') hH (by rw [p1]; omega)
  have hsame : ∀ k, k < (w.setRow (ids b) (c.toList.take off ++ d'.toList.map enc ++ c.toList.drop (off + (d'.toList.map enc).length)).toArray).heap.size → (sortWorld enc w (ids b) off n d' os).heap[k]? = (w.setRow (ids b) (c.toList.take off ++ d'.toList.map enc ++ c.toList.drop (off + (d'.toList.map enc).length)).toArray).heap[k]? := fun k hk => r2 k (by rwa [zIsg] at hk)
  obtain ⟨q1, q2⟩ := f1.growI r1 hsame I (fun _ h => h) (fun k hk => Nat.lt_of_lt_of_le (f1.I k hk) r1) (fun k hk => .inl hk) rfl ⟨rfl, by show w.drawn ≤ w.drawn + n; omega⟩ rfl
  exact ⟨_, ids, I, rfl, q1, by unfold VR; exact ⟨[], rfl, rfl⟩, (g2.trans f2).trans q2⟩
theorem zL70 {ρ : Ren} (L : SlLaysF.n6 P ρ) {f : Nat} (hf : ρ.f 6 = f) (hb : bodied P f = true) : PrimOk P f pSort := by
  subst hf
  refine ⟨hb, fun ce hce hbd args σ r σ' hp ids I w vs hg hv => ?_⟩
  have none_case : ∀ (v2 : Value) (p : Option Addr) (cap : Nat), Calls P (ρ.f 6) #[.slice p 0 cap, v2] w fun e w' => ∃ v ids' I', e = .returned v ∧ Good (ctxOf σ ids' I') w' ∧ VR (ctxOf σ ids' I') w'.heap (.tup []) v ∧ Step (ctxOf σ ids I) w (ctxOf σ ids' I') w' := fun v2 p cap => by
    refine (AnyF.slices_SortFunc_none (P := P) (ρ := ρ) { L with } p cap v2 w).mono ?_
    rintro e w' ⟨rfl, rfl⟩
    exact ⟨_, ids, I, rfl, hg, by unfold VR; exact ⟨[], rfl, rfl⟩, Step.refl _ _⟩
  unfold pSort at hp
  split at hp
  · simp only [Option.some.injEq, Prod.mk.injEq] at hp
    obtain ⟨rfl, rfl⟩ := hp
    obtain ⟨v1, s1, rfl, hv1, v2, s2, rfl, hv2, rfl⟩ := hv
    have hv1 : v1 = .slice none 0 0 := hv1
    subst hv1
    exact none_case v2 none 0
  · simp only [Option.some.injEq, Prod.mk.injEq] at hp
    obtain ⟨rfl, rfl⟩ := hp
    obtain ⟨v1, s1, rfl, hv1, v2, s2, rfl, hv2, rfl⟩ := hv
    unfold VR at hv1
    rcases hv1.2 with ⟨_, a, rfl, _⟩ | ⟨blk, off, cap, st, c, el, fz, rfl, _⟩
    · exact none_case v2 a 0
    · exact none_case v2 _ cap
  · rename_i b u off len g caps
    split at hp
    · rename_i B hu
      split at hp
      · rename_i hc
        simp only [Bool.and_eq_true, decide_eq_true_eq] at hc
        obtain ⟨⟨⟨⟨c1, c2⟩, c3⟩, c4⟩, c5⟩ := hc
        have hlive : B.st = .live := by revert c1; cases B.st <;> simp [BSt.isLive]
        have hk : B.k = none := by revert c2; cases B.k <;> simp [kindNone]
        split at hp
        · rename_i hag
          simp only [Option.some.injEq, Prod.mk.injEq] at hp
          obtain ⟨rfl, rfl⟩ := hp
          exact zjkh L hce hbd zvz8 hu hlive hk c3 c4 c5 hag hg hv
        · split at hp
          · rename_i hag
            simp only [Option.some.injEq, Prod.mk.injEq] at hp
            obtain ⟨rfl, rfl⟩ := hp
            exact zjkh L hce hbd z6ce hu hlive hk c3 c4 c5 hag hg hv
          · simp at hp
      · simp at hp
    · simp at hp
  · simp at hp
end Ab
