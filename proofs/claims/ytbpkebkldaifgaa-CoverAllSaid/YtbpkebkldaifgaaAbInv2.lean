/- A step of a region keeps what holds. Condition: none. -/
import Derived.Test.YtbpkebkldaifgaaAbInv
set_option linter.all false
namespace Ab
open Go
variable {P : Program}

theorem put_getD {a : Act} {dst : Option Tmp} {v : Value} {nt : Nat} (hn : a.tmps.size = nt) (hs : ∀ s, dst = some s → s < nt) (s : Nat) : (a.put dst v).tmps.getD s undef = if dst = some s then v else a.tmps.getD s undef := by
  cases dst with
  | none => simp [Act.put]
  | some d =>
    have hd := hs d rfl
    simp only [Act.put, Array.getD_eq_getD_getElem?, Array.getElem?_setIfInBounds]
    by_cases e : d = s
    · subst e
      simp [hn, hd]
    · simp [e]
theorem put_size (a : Act) (dst : Option Tmp) (v : Value) : (a.put dst v).tmps.size = a.tmps.size := by cases dst <;> simp [Act.put]
theorem put_defers (a : Act) (dst : Option Tmp) (v : Value) : (a.put dst v).defers = a.defers := by cases dst <;> rfl

namespace RC
variable (X : RC P)
theorem dst_lt {i s : Nat} (h : dstAt X.ops i = some s) : i < X.ls.length := by
  unfold dstAt at h
  cases ho : X.ops[i]? with
  | none => simp [ho] at h
  | some o => rw [← X.len]; exact (List.getElem?_eq_some_iff.1 ho).1
theorem dst_nt {i s : Nat} (h : dstAt X.ops i = some s) : s < X.nt := by
  obtain ⟨o, l, ho, hl, hF⟩ := X.at_ (X.dst_lt h)
  have := hF.dst
  simp only [dstAt, ho, Option.bind_some] at h
  simp only [okDst, h, Bool.and_eq_true, decide_eq_true_eq] at this
  exact this.1
theorem dst_ne {i j s : Nat} (h : dstAt X.ops i = some s) (k : dstAt X.ops j = some s) (hlt : j < i) : False := by
  obtain ⟨o, l, ho, hl, hF⟩ := X.at_ (X.dst_lt h)
  have := hF.dst
  simp only [dstAt, ho, Option.bind_some] at h
  simp only [okDst, h, Bool.and_eq_true, List.all_eq_true, List.mem_range] at this
  have := this.2 j hlt
  simp [k] at this
theorem dst_inj {i j s : Nat} (h : dstAt X.ops i = some s) (k : dstAt X.ops j = some s) : i = j := by
  rcases Nat.lt_trichotomy i j with hlt | he | hlt
  · exact (X.dst_ne k h hlt).elim
  · exact he
  · exact (X.dst_ne h k hlt).elim
theorem tgt_spec {i t : Nat} (h : tgt X.ls i = some t) : i < X.ls.length ∧ ∃ o l d x m, X.ops[i]? = some o ∧ X.ls[i]? = some l ∧ Facts X i o l ∧ l.op = .ini (.t d) x m ∧ l.g = none ∧ o.dst = none ∧ d < i ∧ t = i - 1 - d ∧ alcAt X.ls t = some m ∧
    bfr X.draw X.bf t i = true ∧ ∀ j, j < i → tgt X.ls j ≠ some t := by
  unfold tgt at h
  cases hl : X.ls[i]? with
  | none => simp [hl] at h
  | some l =>
    have hi := (List.getElem?_eq_some_iff.1 hl).1
    obtain ⟨o, l', ho, hl', hF⟩ := X.at_ hi
    rw [hl] at hl'; simp at hl'; subst hl'
    simp only [hl] at h
    split at h
    · rename_i d x m hop
      have := hF.ini
      simp only [okIni, hop, Bool.and_eq_true, Option.isNone_iff_eq_none, decide_eq_true_eq, beq_iff_eq, List.all_eq_true, List.mem_range, Bool.not_eq_true', beq_eq_false_iff_ne] at this
      obtain ⟨⟨⟨⟨⟨a1, a2⟩, a3⟩, a4⟩, a5⟩, a6⟩ := this
      simp at h; subst h
      exact ⟨hi, o, l, d, x, m, ho, rfl, hF, hop, a1, a2, a3, rfl, a4, a5, a6⟩
    · simp at h
theorem tgt_inj {i j t : Nat} (h : tgt X.ls i = some t) (k : tgt X.ls j = some t) : i = j := by
  obtain ⟨_, _, _, _, _, _, _, _, _, _, _, _, _, _, _, _, h1⟩ := X.tgt_spec h
  obtain ⟨_, _, _, _, _, _, _, _, _, _, _, _, _, _, _, _, h2⟩ := X.tgt_spec k
  rcases Nat.lt_trichotomy i j with hlt | he | hlt
  · exact absurd h (h2 i hlt)
  · exact he
  · exact absurd k (h1 j hlt)
end RC

section
variable {X : RC P} {C0 : Ctx} {w0 : World} {ds : List Deferred} {D : Nat → Prop} {C : Ctx} {f : Nat} {a : Act} {w : World}

/-- Behind an operation that is no effect. -/
theorem Front.noeff {i : Nat} (h : Front X D C f) (he : effAt X.ls i = false) (I' : Nat → Prop) : Front X (fun j => D j ∨ j = i) { C with I := I' } f := by
  rcases h with h | ⟨j, i2, h, k0, y1, y2, y3⟩
  · refine .inl ⟨h.fle, fun e h1 h2 => .inl (h.lo e h1 h2), fun e h1 h2 h3 => ?_, h.shows.withI I', fun hf => ⟨(h.last hf).1, fun he => ((h.last hf).2 he).withI I'⟩⟩
    rcases h3 with h3 | rfl
    · exact h.hi e h1 h2 h3
    · rw [he] at h2; simp at h2
  · obtain ⟨ids, e1, e2⟩ := h.shows
    have hal : ∀ b, alive X (fun k => D k ∨ k = i) j b ↔ alive X D j b := fun b => by
      constructor
      · rintro (h1 | ⟨k, k1, k2, k3, k4⟩)
        · exact .inl h1
        · rcases k3 with k3 | rfl
          · exact .inr ⟨k, k1, k2, k3, k4⟩
          · rw [he] at k1; simp at k1
      · rintro (h1 | ⟨k, k1, k2, k3, k4⟩)
        · exact .inl h1
        · exact .inr ⟨k, k1, k2, .inl k3, k4⟩
    refine .inr ⟨j, i2, ⟨h.grp, h.ehi, h.le, fun e h1 h2 => .inl (h.before e h1 h2), fun e h1 h2 h3 => ?_, ids, fun b u e ha ho => e1 b u e ((hal b).1 ha) ho, fun b u hl => ⟨(hal b).2 (e2 b u hl).1, (e2 b u hl).2⟩⟩, k0, y1, y2, .inl y3⟩
    rcases h3 with h3 | rfl
    · exact h.behind e h1 h2 h3
    · rw [he] at h2; simp at h2
/-- A line that is no filling of an allocation was carried out. -/
theorem Inv.after (h : Inv X C0 w0 ds D C f a w) {i : Nat} (hi : i < X.ls.length) (hD : ¬ D i) (hb : ∀ j, bfr X.draw X.bf j i = true → D j) {o : Oper} (ho : X.ops[i]? = some o) {C' : Ctx} {w' : World} {v : Value} {f' : Nat}
    (hg' : Good C' w') (hst : Step C w C' w') (hini : tgt X.ls i = none) (hv : VR C' w'.heap (valOf X.st i) v)
    (hal : ∀ m, alcAt X.ls i = some m → (∃ s, o.dst = some s) ∧ ∃ id c el, v = .pointer (some ⟨id, 0, none⟩) ∧ w.heap.size ≤ id ∧ ¬ C'.I id ∧ ¬ owned C' id ∧ w'.heap[id]? = some (.cells c el (0, 0)) ∧ c.size = m)
    (hfr : Front X (fun j => D j ∨ j = i) C' f') : Inv X C0 w0 ds (fun j => D j ∨ j = i) C' f' (a.put o.dst v) w' := by
  have hdi : dstAt X.ops i = o.dst := by simp [dstAt, ho]
  have hget := put_getD (v := v) h.size (dst := o.dst) fun s hs => X.dst_nt (i := i) (by rw [hdi]; exact hs)
  have hgo : ∀ j s, D j → dstAt X.ops j = some s → (a.put o.dst v).tmps.getD s undef = a.tmps.getD s undef := fun j s hj hs => by
    rw [hget, if_neg]
    intro e
    have := X.dst_inj hs (hdi.trans e)
    exact hD (this ▸ hj)
  have old : ∀ j m, D j → alcAt X.ls j = some m → (∀ i', (D i' ∨ i' = i) → tgt X.ls i' ≠ some j) → ∃ s id c el, dstAt X.ops j = some s ∧ a.tmps.getD s undef = .pointer (some ⟨id, 0, none⟩) ∧ (a.put o.dst v).tmps.getD s undef = .pointer (some ⟨id, 0, none⟩) ∧
      w0.heap.size ≤ id ∧ ¬ C'.I id ∧ ¬ owned C' id ∧ w'.heap[id]? = some (.cells c el (0, 0)) ∧ c.size = m ∧ id < w.heap.size := fun j m hj hm hn => by
    obtain ⟨s, id, c, el, k1, k2, k3, k4, k5, k6, k7⟩ := h.lb j m hj hm fun i' hi' => hn i' (.inl hi')
    have hlt := (Array.getElem?_eq_some_iff.1 k6).1
    refine ⟨s, id, c, el, k1, k2, by rw [hgo j s hj k1]; exact k2, k3, fun hI => ?_, fun hO => ?_, by rw [hst.frame id hlt k5]; exact k6, k7, hlt⟩
    · rcases hst.immOrig id hI with q | q | q
      · exact k4 q
      · exact k5 q
      · omega
    · rcases hst.ownOrig id hO with q | q
      · exact k5 q
      · omega
  refine ⟨hg', h.step.trans hst, by rw [put_size]; exact h.size, by rw [put_defers]; exact h.defers, fun j hj => hj.elim (h.below j) (fun e => e ▸ hi), fun i' j hj hbf => ?_, fun j s hj hs => ?_, fun k s hk hn => ?_, fun j m hj hm hn => ?_, ?_, hfr⟩
  · rcases hj with hj | rfl
    · exact .inl (h.closed _ _ hj hbf)
    · exact .inl (hb _ hbf)
  · rcases hj with hj | rfl
    · have hne : o.dst ≠ some s := fun e => by
        unfold slotOf at hs
        cases ht : tgt X.ls j with
        | none =>
          simp only [ht] at hs
          exact hD (X.dst_inj hs (hdi.trans e) ▸ hj)
        | some t =>
          simp only [ht] at hs
          obtain ⟨_, _, _, _, _, _, _, _, _, _, _, _, _, _, _, hbt, _⟩ := X.tgt_spec ht
          exact hD (X.dst_inj hs (hdi.trans e) ▸ h.closed _ _ hj hbt)
      rw [hget, if_neg hne]
      exact VR.mono hst.ev _ _ (h.tv j s hj hs)
    · simp only [slotOf, hini, hdi] at hs
      rw [hget, if_pos hs]
      exact hv
  · have hne : o.dst ≠ some s := fun e => hn i (.inr rfl) (hdi.trans e)
    rw [hget, if_neg hne]
    exact VR.mono hst.ev _ _ (h.vv k s hk fun j hj => hn j (.inl hj))
  · rcases hj with hj | rfl
    · obtain ⟨s, id, c, el, k1, _, k2, k3, k4, k5, k6, k7, _⟩ := old j m hj hm hn
      exact ⟨s, id, c, el, k1, k2, k3, k4, k5, k6, k7⟩
    · obtain ⟨⟨s, hs⟩, id, c, el, k1, k2, k3, k4, k5, k6⟩ := hal m hm
      exact ⟨s, id, c, el, hdi.trans hs, by rw [hget, if_pos hs]; exact k1, Nat.le_trans h.step.size k2, k3, k4, k5, k6⟩
  · intro j j' m m' s s' id hj hj' hm hm' hn hn' hs hs' hne e1 e2
    rcases hj with hj | rfl <;> rcases hj' with hj' | rfl
    · rw [hgo j s hj hs] at e1
      rw [hgo j' s' hj' hs'] at e2
      exact h.lbd j j' m m' s s' id hj hj' hm hm' (fun i' hi' => hn i' (.inl hi')) (fun i' hi' => hn' i' (.inl hi')) hs hs' hne e1 e2
    · obtain ⟨s1, id1, c, el, k1, _, k2, _, _, _, _, _, k3⟩ := old j m hj hm hn
      rw [k1] at hs; simp at hs; subst hs
      obtain ⟨_, id2, c2, el2, q1, q2, _⟩ := hal m' hm'
      rw [hget, if_pos (hdi.symm.trans hs'), q1] at e2
      rw [k2] at e1
      simp at e1 e2
      omega
    · obtain ⟨s1, id1, c, el, k1, _, k2, _, _, _, _, _, k3⟩ := old j' m' hj' hm' hn'
      rw [k1] at hs'; simp at hs'; subst hs'
      obtain ⟨_, id2, c2, el2, q1, q2, _⟩ := hal m hm
      rw [hget, if_pos (hdi.symm.trans hs), q1] at e1
      rw [k2] at e2
      simp at e1 e2
      omega
    · exact hne rfl

/-- An allocation was filled: it is never written again. -/
theorem Inv.fill (h : Inv X C0 w0 ds D C f a w) {i t d m : Nat} {x : Rf} (hi : i < X.ls.length) (hD : ¬ D i) (hb : ∀ j, bfr X.draw X.bf j i = true → D j) {l : Ln} (hl : X.ls[i]? = some l) (hop : l.op = .ini (.t d) x m) (ht : tgt X.ls i = some t)
    {xv : AV} {y : Value} (hval : valOf X.st i = .pimm xv) (hn : noLoc xv = true) (hxy : VR C w.heap xv y) {s id : Nat} {c : Array Value} {el : TypeId} (hs : dstAt X.ops t = some s) (hp : a.tmps.getD s undef = .pointer (some ⟨id, 0, none⟩))
    (hid : w0.heap.size ≤ id) (hI : ¬ C.I id) (hO : ¬ owned C id) (hH : w.heap[id]? = some (.cells c el (0, 0))) {c' : Array Value} (hsz : c'.size = c.size) (hc : ∀ j, j < y.cells.size → c'[j]? = y.cells[j]?) :
    Inv X C0 w0 ds (fun j => D j ∨ j = i) { C with I := fun k => C.I k ∨ k = id } f a (w.setRow id c') := by
  obtain ⟨_, o, l', d', x', m', ho, hl', hF, hop', hg, hdst, hd, htd, hal, hbt, huniq⟩ := X.tgt_spec ht
  have hDt := hb _ hbt
  have hdi : dstAt X.ops i = none := by simp [dstAt, ho, hdst]
  have hH' : (w.setRow id c').heap[id]? = some (.cells c' el (0, 0)) := setRow_heap w id c c' el (0, 0) hH
  have hlt := (Array.getElem?_eq_some_iff.1 hH).1
  have ev : Evol C w.heap { C with I := fun k => C.I k ∨ k = id } (w.setRow id c').heap := by
    refine ⟨fun k hk => .inl hk, fun k hk => setRow_other w id c' fun e => hI (e ▸ hk), fun _ _ h => h, fun b u B' id2 _ hown => ⟨B', hown, rfl, rfl, fun c2 el2 hc2 => ?_⟩⟩
    by_cases e : id2 = id
    · subst e
      rw [hH] at hc2; simp at hc2; obtain ⟨rfl, rfl⟩ := hc2
      exact ⟨c', hH', hsz⟩
    · exact ⟨c2, by rw [setRow_other w id c' e]; exact hc2, rfl⟩
  have hgood : Good { C with I := fun k => C.I k ∨ k = id } (w.setRow id c') := by
    refine ⟨fun k hk => by rw [setRow_size]; exact hk.elim (h.good.I k) (fun e => e ▸ hlt), h.good.ent, fun b u B i' hown hlv => ?_, h.good.apart⟩
    obtain ⟨k1, c2, el2, k2, k3, k4⟩ := h.good.live b u B i' hown hlv
    have hne : i' ≠ id := fun e => hO ⟨b, u, B, e ▸ hown, hlv⟩
    refine ⟨fun hk => hk.elim k1 hne, c2, el2, by rw [setRow_other w id c' hne]; exact k2, k3, fun i2 x2 hx2 => ?_⟩
    obtain ⟨y2, j1, j2, j3⟩ := k4 i2 x2 hx2
    exact ⟨y2, j1, VR.mono ev _ _ j2, j3⟩
  have hstep : Step C0 w0 { C with I := fun k => C.I k ∨ k = id } (w.setRow id c') := by
    refine ⟨h.step.ev.trans ev, by rw [setRow_size]; exact h.step.size, fun k hk hno => by rw [setRow_other w id c' (by omega)]; exact h.step.frame k hk hno, fun k hk => h.step.ownOrig k hk, fun k hk => ?_, h.step.os, h.step.tape, h.step.output⟩
    rcases hk with hk | rfl
    · exact h.step.immOrig k hk
    · exact .inr (.inr hid)
  have hne : effAt X.ls i = false := by simp [effAt, hl, hop, IOp.isE, IOp.isW]
  have hnt : ∀ i', D i' → tgt X.ls i' ≠ some t := fun i' hi' e => hD (X.tgt_inj ht e ▸ hi')
  refine ⟨hgood, hstep, h.size, h.defers, fun j hj => hj.elim (h.below j) (fun e => e ▸ hi), fun i' j hj hbf => ?_, fun j s' hj hs' => ?_, fun k s' hk hn' => ?_, fun j m2 hj hm hn' => ?_, ?_, h.fr.noeff hne _⟩
  · rcases hj with hj | rfl
    · exact .inl (h.closed _ _ hj hbf)
    · exact .inl (hb _ hbf)
  · rcases hj with hj | rfl
    · exact VR.mono ev _ _ (h.tv j s' hj hs')
    · simp only [slotOf, ht] at hs'
      rw [hs] at hs'; simp at hs'; subst hs'
      rw [hval, hp]
      unfold VR
      exact ⟨hn, id, 0, c', el, (0, 0), y, rfl, .inr rfl, hH', VR.mono ev _ _ hxy, fun j hj => by rw [Nat.zero_add]; exact hc j hj⟩
  · exact VR.mono ev _ _ (h.vv k s' hk fun j hj => hn' j (.inl hj))
  · rcases hj with hj | rfl
    · obtain ⟨s2, id2, c2, el2, k1, k2, k3, k4, k5, k6, k7⟩ := h.lb j m2 hj hm fun i' hi' => hn' i' (.inl hi')
      have hjt : j ≠ t := fun e => hn' i (.inr rfl) (e ▸ ht)
      have hne2 : id2 ≠ id := fun e => by
        subst e
        exact h.lbd j t m2 m' s2 s id2 hj hDt hm hal (fun i' hi' => hn' i' (.inl hi')) hnt k1 hs hjt k2 hp
      exact ⟨s2, id2, c2, el2, k1, k2, k3, fun hk => hk.elim k4 hne2, k5, by rw [setRow_other w id c' hne2]; exact k6, k7⟩
    · simp [alcAt, hl, hop] at hm
  · intro j j' m1 m2 s1 s2 id2 hj hj' hm hm' hn1 hn2 hs1 hs2 hne' e1 e2
    have hji : ∀ j m, (D j ∨ j = i) → alcAt X.ls j = some m → D j := fun j m hj hm => hj.elim (fun q => q) fun e => by
      subst e; simp [alcAt, hl, hop] at hm
    exact h.lbd j j' m1 m2 s1 s2 id2 (hji j m1 hj hm) (hji j' m2 hj' hm') hm hm' (fun i' hi' => hn1 i' (.inl hi')) (fun i' hi' => hn2 i' (.inl hi')) hs1 hs2 hne' e1 e2
end
end Ab
