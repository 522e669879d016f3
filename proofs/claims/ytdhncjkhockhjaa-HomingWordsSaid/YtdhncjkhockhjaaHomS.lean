/- Comparisons, sorted words, in memory. Groups of states with the same outputs: what they are, homing words. Where a number stands in an ascending list. homing: the search in an ascending list, one more state in a set. Condition: none. -/
import Derived.Test.YtdhncjkhockhjaaGbf
import Derived.Test.YtdhncjkhockhjaaMnlT
set_option linter.all false
set_option maxRecDepth 100000
set_option maxHeartbeats 4000000
namespace Ab
def cI (x y : Int) : Int := if x < y then -1 else if y < x then 1 else 0
theorem isNaN_s (x : Int) : PC F_cmp_isNaN_int [.int x] = some (.bool false) := by
  refine PCx_of (go_cmp_isNaN_int rfl ?_)
  simp
theorem cmpI_s (x y : Int) : PC F_cmp_Compare_int [.int x, .int y] = some (.int (cI x y)) := by
  refine PCx_of (go_cmp_Compare_int rfl ?_)
  simp [isNaN_s]
  refine ⟨fun h => by simp [cI, h], fun h => ⟨fun k => ?_, fun k => ?_⟩⟩
  · simp [cI, k]; omega
  · simp [cI]; omega
theorem lex_drop {a b : List Int} {i : Int} (h0 : 0 ≤ i) (h1 : i < a.length) (h2 : i < b.length) : lexC (a.drop i.toNat) (b.drop i.toNat) = if cI (ix a i) (ix b i) = 0 then lexC (a.drop (i + 1).toNat) (b.drop (i + 1).toNat) else cI (ix a i) (ix b i) := by
  rw [drop_ix h0 h1, drop_ix h0 h2]
  unfold cI
  simp only [lexC]
  split
  · simp
  · split <;> simp
theorem scmp_s (a b : List Int) (ha : (a.length : Int) ≤ 9223372036854775807) (hb : (b.length : Int) ≤ 9223372036854775807) : PC F_slices_Compare_Sint_int [iL a, iL b] = some (.int (lexC a b)) := by
  refine PCx_of (go_slices_Compare_Sint_int rfl ?_)
  simp
  refine W_iter (fun i : Int => [(2, .int i)]) (fun _ => []) (fun i => 0 ≤ i ∧ i ≤ a.length ∧ i ≤ b.length ∧ lexC (a.drop i.toNat) (b.drop i.toNat) = lexC a b) (fun i => (a.length - i).toNat) 0 rfl ⟨by omega, by omega, by omega, rfl⟩ fun i ⟨i0, i1, i2, i3⟩ => ?_
  by_cases hi : i < a.length
  · by_cases hj : i < b.length
    · have e := lex_drop i0 hi hj
      rw [i3] at e
      simp [-More_nor, hi, hj, i0, cmpI_s, show ¬ (b.length : Int) ≤ i by omega]
      refine ⟨fun h => ⟨by omega, More_of (i + 1) rfl rfl ⟨by omega, by omega, by omega, by rw [if_pos h] at e; exact e.symm⟩ (by omega)⟩, fun h => by rw [if_neg h] at e; exact e.symm⟩
    · have e : b.drop i.toNat = [] := drop_end (by omega)
      rw [e, drop_ix i0 hi] at i3
      have i3 : (1 : Int) = lexC a b := i3
      simp [-More_nor, hi, hj, i0, show (b.length : Int) ≤ i by omega]
      exact i3
  · have e : a.drop i.toNat = [] := drop_end (by omega)
    rw [e] at i3
    simp [hi]
    by_cases hj : i < b.length
    · rw [drop_ix i0 hj] at i3
      have i3 : (-1 : Int) = lexC a b := i3
      exact ⟨fun _ => i3, fun h => by omega⟩
    · rw [drop_end (by omega)] at i3
      have i3 : (0 : Int) = lexC a b := i3
      exact ⟨fun h => by omega, fun _ => i3⟩
/-- A comparison. -/
abbrev Cmp := List Int → List Int → Int
section
variable {K : Cmp}
/-- Strictly sorted. -/
abbrev ascG (K : Cmp) (l : List (List Int)) : Prop := l.Pairwise fun a b => K a b < 0
end
abbrev asc (l : List (List Int)) : Prop := ascG slxC l
/-- The comparison is this function. -/
structure CmpF (f : Nat) (K : Cmp) : Prop where
  ok : KOk K
  run : ∀ a b : List Int, (a.length : Int) ≤ 1000000 → (b.length : Int) ≤ 1000000 → PC f [iL a, iL b] = some (.int (K a b))
  one : K = slxC ∨ K = lexC
section
variable {K : Cmp}
theorem wclone_s (w : List Int) (h : (w.length : Int) ≤ 1000000) : PC F_slices_Clone_Sint_int [iL w] = some (iL w) := by
  have e : pClone1 (cN G Q 0) [iL w] = some (iL w) := by
    simp only [pClone1, iL]
    rw [if_pos]
    simp [isScalar]
    try omega
  have := go_slices_Clone_Sint_int e
  unfold PC PCx
  rw [this]
  rfl
end
section
variable {f : Nat} {K : Cmp} (hF : CmpF f K)
include hF
end
end Ab
namespace Ab
/-- Lists of numbers that ascend. -/
abbrev up (l : List Int) : Prop := l.Pairwise fun a b => a < b
theorem up_eq : ∀ {l k : List Int}, up l → up k → (∀ x, x ∈ l ↔ x ∈ k) → l = k
  | [], [], _, _, _ => rfl
  | [], b :: k, _, _, h => absurd ((h b).2 (by simp)) (by simp)
  | a :: l, [], _, _, h => absurd ((h a).1 (by simp)) (by simp)
  | a :: l, b :: k, h1, h2, h => by
    have ⟨a1, a2⟩ := List.pairwise_cons.1 h1
    have ⟨b1, b2⟩ := List.pairwise_cons.1 h2
    have e : a = b := by
      rcases List.mem_cons.1 ((h a).1 (by simp)) with e | ha
      · exact e
      rcases List.mem_cons.1 ((h b).2 (by simp)) with e | hb
      · exact e.symm
      have := b1 a ha
      have := a1 b hb
      omega
    subst e
    congr 1
    refine up_eq a2 b2 fun x => ?_
    constructor
    · intro hx
      rcases List.mem_cons.1 ((h x).1 (by simp [hx])) with e | hk
      · have := a1 x hx; omega
      · exact hk
    · intro hx
      rcases List.mem_cons.1 ((h x).2 (by simp [hx])) with e | hk
      · have := b1 x hx; omega
      · exact hk
/-- A set with one more number. -/
def iput (l : List Int) (t : Int) : List Int := if t ∈ l then l else (l.filter fun x => decide (x < t)) ++ t :: l.filter fun x => decide (t < x)
theorem iput_mem {l : List Int} {t x : Int} : x ∈ iput l t ↔ x ∈ l ∨ x = t := by
  unfold iput
  by_cases h : t ∈ l
  · rw [if_pos h]
    constructor
    · exact .inl
    · rintro (h' | rfl)
      · exact h'
      · exact h
  · rw [if_neg h]
    simp only [List.mem_append, List.mem_cons, List.mem_filter, decide_eq_true_eq]
    constructor
    · rintro (⟨h1, _⟩ | h1 | ⟨h1, _⟩)
      · exact .inl h1
      · exact .inr h1
      · exact .inl h1
    · rintro (h1 | h1)
      · rcases Int.lt_trichotomy x t with h2 | h2 | h2
        · exact .inl ⟨h1, h2⟩
        · exact .inr (.inl h2)
        · exact .inr (.inr ⟨h1, h2⟩)
      · exact .inr (.inl h1)
theorem iput_up {l : List Int} {t : Int} (h : up l) : up (iput l t) := by
  unfold iput
  split
  · exact h
  · rw [up, List.pairwise_append]
    refine ⟨h.filter _, ?_, fun a ha b hb => ?_⟩
    · rw [List.pairwise_cons]
      exact ⟨fun x hx => by simpa using (List.mem_filter.1 hx).2, h.filter _⟩
    · have h1 : a < t := by simpa using (List.mem_filter.1 ha).2
      rcases List.mem_cons.1 hb with rfl | hb
      · exact h1
      · have h2 : t < b := by simpa using (List.mem_filter.1 hb).2
        omega
/-- A group: outputs, current states. -/
abbrev Gr := List Int × List Int
def gput (o : List Int) (t : Int) : List Gr → List Gr
  | [] => [(o, [t])]
  | g :: r => if g.1 = o then (g.1, iput g.2 t) :: r else g :: gput o t r
def gtab (m : Mly) (w : List Int) : Nat → List Gr
  | 0 => []
  | s + 1 => gput (m.outs (s : Int) w) (m.run (s : Int) w) (gtab m w s)
theorem gput_keys {o : List Int} {t : Int} : ∀ {l : List Gr}, (gput o t l).map (·.1) = if o ∈ l.map (·.1) then l.map (·.1) else l.map (·.1) ++ [o]
  | [] => by simp [gput]
  | g :: r => by
    unfold gput
    by_cases h : g.1 = o
    · rw [if_pos h]; simp [h]
    · rw [if_neg h, List.map_cons, gput_keys (l := r)]
      have h' : ¬ o = g.1 := fun e => h e.symm
      by_cases hm : o ∈ r.map (·.1)
      · rw [if_pos hm, if_pos (by simp only [List.map_cons, List.mem_cons]; exact .inr hm)]; rfl
      · rw [if_neg hm, if_neg (by simp only [List.map_cons, List.mem_cons, not_or]; exact ⟨h', hm⟩)]; rfl
/-- What the groups of the first states are. -/
structure Gok (m : Mly) (w : List Int) (n : Nat) (G : List Gr) : Prop where
  nd : (G.map (·.1)).Nodup
  up : ∀ g ∈ G, up g.2
  mem : ∀ g ∈ G, ∀ t, t ∈ g.2 ↔ ∃ s : Nat, s < n ∧ m.outs (s : Int) w = g.1 ∧ m.run (s : Int) w = t
  all : ∀ s : Nat, s < n → m.outs (s : Int) w ∈ G.map (·.1)
  ne : ∀ g ∈ G, ∃ s : Nat, s < n ∧ m.outs (s : Int) w = g.1
theorem gput_mem {o : List Int} {t : Int} : ∀ {l : List Gr} {g : Gr}, (l.map (·.1)).Nodup → (g ∈ gput o t l ↔ (g ∈ l ∧ g.1 ≠ o) ∨ (∃ k ∈ l, k.1 = o ∧ g = (o, iput k.2 t)) ∨ (o ∉ l.map (·.1) ∧ g = (o, [t])))
  | [], g, _ => by simp [gput]
  | k :: r, g, hn => by
    have ⟨n1, n2⟩ := List.nodup_cons.1 (show (k.1 :: r.map (·.1)).Nodup from hn)
    unfold gput
    by_cases h : k.1 = o
    · rw [if_pos h]
      subst h
      constructor
      · intro hg
        rcases List.mem_cons.1 hg with rfl | hg
        · exact .inr (.inl ⟨k, by simp, rfl, rfl⟩)
        · exact .inl ⟨by simp [hg], fun e => n1 (e ▸ List.mem_map.2 ⟨g, hg, rfl⟩)⟩
      · rintro (⟨h1, h2⟩ | ⟨q, h1, h2, rfl⟩ | ⟨h1, _⟩)
        · rcases List.mem_cons.1 h1 with rfl | h1
          · exact absurd rfl h2
          · exact List.mem_cons_of_mem _ h1
        · rcases List.mem_cons.1 h1 with rfl | h1
          · exact List.mem_cons_self
          · exact absurd (List.mem_map.2 ⟨q, h1, h2⟩) n1
        · exact absurd (by simp) h1
    · rw [if_neg h, List.mem_cons, gput_mem n2]
      constructor
      · rintro (rfl | ⟨h1, h2⟩ | ⟨q, h1, h2, rfl⟩ | ⟨h1, rfl⟩)
        · exact .inl ⟨by simp, h⟩
        · exact .inl ⟨by simp [h1], h2⟩
        · exact .inr (.inl ⟨q, by simp [h1], h2, rfl⟩)
        · exact .inr (.inr ⟨by simp only [List.map_cons, List.mem_cons, not_or]; exact ⟨fun e => h e.symm, h1⟩, rfl⟩)
      · rintro (⟨h1, h2⟩ | ⟨q, h1, h2, rfl⟩ | ⟨h1, rfl⟩)
        · rcases List.mem_cons.1 h1 with rfl | h1
          · exact .inl rfl
          · exact .inr (.inl ⟨h1, h2⟩)
        · rcases List.mem_cons.1 h1 with rfl | h1
          · exact absurd h2 h
          · exact .inr (.inr (.inl ⟨q, h1, h2, rfl⟩))
        · simp only [List.map_cons, List.mem_cons, not_or] at h1
          exact .inr (.inr (.inr ⟨h1.2, rfl⟩))
theorem gtab_ok {m : Mly} {w : List Int} : ∀ {n : Nat}, Gok m w n (gtab m w n)
  | 0 => ⟨by simp [gtab], by simp [gtab], by simp [gtab], by omega, by simp [gtab]⟩
  | n + 1 => by
    have ih := gtab_ok (m := m) (w := w) (n := n)
    have hk := gput_keys (o := m.outs (n : Int) w) (t := m.run (n : Int) w) (l := gtab m w n)
    unfold gtab
    generalize gtab m w n = G at *
    refine ⟨?_, fun g hg => ?_, fun g hg t => ?_, fun s hs => ?_, fun g hg => ?_⟩
    · rw [hk]
      split
      · exact ih.nd
      · rename_i hno
        rw [List.nodup_append]
        exact ⟨ih.nd, by simp, fun a ha b hb => by simp at hb; subst hb; exact fun e => hno (e ▸ ha)⟩
    · rcases (gput_mem ih.nd).1 hg with ⟨h1, _⟩ | ⟨k, h1, _, rfl⟩ | ⟨_, rfl⟩
      · exact ih.up g h1
      · exact iput_up (ih.up k h1)
      · simp [up]
    · rcases (gput_mem ih.nd).1 hg with ⟨h1, h2⟩ | ⟨k, h1, h2, rfl⟩ | ⟨h1, rfl⟩
      · rw [ih.mem g h1]
        constructor
        · rintro ⟨s, s1, s2, s3⟩; exact ⟨s, by omega, s2, s3⟩
        · rintro ⟨s, s1, s2, s3⟩
          by_cases e : s = n
          · subst e; exact absurd s2.symm h2
          · exact ⟨s, by omega, s2, s3⟩
      · dsimp only
        rw [iput_mem, ih.mem k h1]
        constructor
        · rintro (⟨s, s1, s2, s3⟩ | rfl)
          · exact ⟨s, by omega, by rw [s2, h2], s3⟩
          · exact ⟨n, by omega, rfl, rfl⟩
        · rintro ⟨s, s1, s2, s3⟩
          by_cases e : s = n
          · subst e; exact .inr s3.symm
          · exact .inl ⟨s, by omega, by rw [s2, h2], s3⟩
      · dsimp only
        simp only [List.mem_singleton]
        constructor
        · rintro rfl; exact ⟨n, by omega, rfl, rfl⟩
        · rintro ⟨s, s1, s2, s3⟩
          by_cases e : s = n
          · subst e; exact s3.symm
          · have := ih.all s (by omega)
            rw [s2] at this
            exact absurd this h1
    · rw [hk]
      by_cases e : s = n
      · subst e
        split
        · assumption
        · simp
      · have := ih.all s (by omega)
        split
        · exact this
        · exact List.mem_append_left _ this
    · rcases (gput_mem ih.nd).1 hg with ⟨h1, _⟩ | ⟨k, h1, _, rfl⟩ | ⟨_, rfl⟩
      · obtain ⟨s, s1, s2⟩ := ih.ne g h1; exact ⟨s, by omega, s2⟩
      · exact ⟨n, by omega, rfl⟩
      · exact ⟨n, by omega, rfl⟩
theorem Gok.perm {m : Mly} {w : List Int} {n : Nat} {G H : List Gr} (h : Gok m w n G) (hp : H.Perm G) : Gok m w n H :=
  ⟨((hp.map (·.1)).nodup_iff).2 h.nd, fun g hg => h.up g (hp.mem_iff.1 hg), fun g hg => h.mem g (hp.mem_iff.1 hg), fun s hs => ((hp.map (·.1)).mem_iff).2 (h.all s hs), fun g hg => h.ne g (hp.mem_iff.1 hg)⟩
/-- The groups in the order of their outputs. -/
def insG2 (x : Gr) : List Gr → List Gr
  | [] => [x]
  | y :: r => if lexC x.1 y.1 ≤ 0 then x :: y :: r else y :: insG2 x r
def srtG : List Gr → List Gr
  | [] => []
  | x :: r => insG2 x (srtG r)
theorem insG2_perm (x : Gr) : ∀ l, (insG2 x l).Perm (x :: l)
  | [] => .refl _
  | y :: r => by
    unfold insG2
    split
    · exact .refl _
    · exact ((insG2_perm x r).cons y).trans (.swap x y r)
theorem srtG_perm : ∀ l, (srtG l).Perm l
  | [] => .refl _
  | x :: r => (insG2_perm x _).trans ((srtG_perm r).cons x)
theorem insG2_up {x : Gr} : ∀ {l : List Gr}, l.Pairwise (fun a b => lexC a.1 b.1 < 0) → x.1 ∉ l.map (·.1) → (insG2 x l).Pairwise (fun a b => lexC a.1 b.1 < 0)
  | [], _, _ => by simp [insG2]
  | y :: r, h, hx => by
    have ⟨h1, h2⟩ := List.pairwise_cons.1 h
    simp only [List.map_cons, List.mem_cons, not_or] at hx
    have hne : lexC x.1 y.1 ≠ 0 := fun e => hx.1 (lexC_ok.eq _ _ e)
    unfold insG2
    split
    · rename_i hle
      refine List.pairwise_cons.2 ⟨fun z hz => ?_, h⟩
      rcases List.mem_cons.1 hz with rfl | hz
      · omega
      · have a := h1 z hz
        have b := lexC_ok.trans x.1 y.1 z.1 hle (by omega)
        by_cases e : lexC x.1 z.1 = 0
        · have e' := lexC_ok.eq _ _ e
          have := lexC_ok.anti y.1 z.1
          rw [← e'] at this a
          omega
        · omega
    · rename_i hgt
      refine List.pairwise_cons.2 ⟨fun z hz => ?_, insG2_up h2 hx.2⟩
      rcases List.mem_cons.1 ((insG2_perm x r).mem_iff.1 hz) with rfl | hz
      · have := lexC_ok.anti z.1 y.1; omega
      · exact h1 z hz
theorem srtG_up : ∀ {l : List Gr}, (l.map (·.1)).Nodup → (srtG l).Pairwise (fun a b => lexC a.1 b.1 < 0)
  | [], _ => by simp [srtG]
  | x :: r, h => by
    have ⟨h1, h2⟩ := List.nodup_cons.1 (show (x.1 :: r.map (·.1)).Nodup from h)
    exact insG2_up (srtG_up h2) fun hm => h1 (((srtG_perm r).map (·.1)).mem_iff.1 hm)
def Mly.grps (m : Mly) (w : List Int) : List Gr := srtG (gtab m w m.next.length)
theorem grps_ok (m : Mly) (w : List Int) : Gok m w m.next.length (m.grps w) := gtab_ok.perm (srtG_perm _)
theorem grps_up (m : Mly) (w : List Int) : (m.grps w).Pairwise (fun a b => lexC a.1 b.1 < 0) := srtG_up gtab_ok.nd
/-- The current states of some outputs. -/
def Mly.cur (m : Mly) (w o : List Int) : List Int := ((List.range m.next.length).filter fun (t : Nat) => (List.range m.next.length).any fun (s : Nat) => decide (m.outs (s : Int) w = o) && decide (m.run (s : Int) w = (t : Int))).map fun (t : Nat) => (t : Int)
theorem cur_up {m : Mly} {w o : List Int} : up (m.cur w o) := by
  unfold Mly.cur
  rw [up, List.pairwise_map]
  exact (List.pairwise_lt_range.filter _).imp fun h => by omega
theorem cur_mem {m : Mly} (hm : m.Ok) {w o : List Int} (hw : ∀ x ∈ w, 0 ≤ x ∧ x < m.inputs) {t : Int} : t ∈ m.cur w o ↔ ∃ s : Nat, s < m.next.length ∧ m.outs (s : Int) w = o ∧ m.run (s : Int) w = t := by
  unfold Mly.cur
  simp only [List.mem_map, List.mem_filter, List.mem_range, List.any_eq_true, Bool.and_eq_true, decide_eq_true_eq]
  constructor
  · rintro ⟨t', ⟨_, s, hs, h1, h2⟩, rfl⟩; exact ⟨s, hs, h1, h2⟩
  · rintro ⟨s, hs, h1, h2⟩
    have := run_rng hm (s := (s : Int)) ⟨by omega, by omega⟩ hw
    exact ⟨t.toNat, ⟨by omega, s, hs, h1, by omega⟩, by omega⟩
theorem grps_cur {m : Mly} (hm : m.Ok) {w : List Int} (hw : ∀ x ∈ w, 0 ≤ x ∧ x < m.inputs) {g : Gr} (hg : g ∈ m.grps w) : g.2 = m.cur w g.1 :=
  up_eq ((grps_ok m w).up g hg) cur_up fun t => by rw [(grps_ok m w).mem g hg, cur_mem hm hw]
/-- The states of the first group with several ones. -/
def Mly.hop (m : Mly) (w : List Int) : List Int := match (m.grps w).find? fun g => decide (1 < g.2.length) with
  | some g => g.2
  | none => []
/-- After this word the outputs tell the state. -/
def Mly.hom (m : Mly) (w : List Int) : Prop := ∀ s t : Nat, s < m.next.length → t < m.next.length → m.outs (s : Int) w = m.outs (t : Int) w → m.run (s : Int) w = m.run (t : Int) w
theorem up_one {l : List Int} (h : up l) (h1 : ∀ x ∈ l, ∀ y ∈ l, x = y) : l.length ≤ 1 := by
  match l, h with
  | [], _ => simp
  | [_], _ => simp
  | a :: b :: r, h =>
    have := h1 a (by simp) b (by simp)
    have := (List.pairwise_cons.1 h).1 b (by simp)
    omega
theorem cur_hom {m : Mly} (hm : m.Ok) {w : List Int} (hw : ∀ x ∈ w, 0 ≤ x ∧ x < m.inputs) : m.hom w ↔ ∀ s : Nat, s < m.next.length → (m.cur w (m.outs (s : Int) w)) = [m.run (s : Int) w] := by
  constructor
  · intro h s hs
    refine up_eq cur_up (by simp [up]) fun t => ?_
    rw [cur_mem hm hw, List.mem_singleton]
    constructor
    · rintro ⟨u, u1, u2, u3⟩; rw [← u3]; exact h u s u1 hs u2
    · rintro rfl; exact ⟨s, hs, rfl, rfl⟩
  · intro h s t hs ht e
    have h1 := h s hs
    rw [e, h t ht] at h1
    simpa using h1.symm
theorem hop_nil {m : Mly} (hm : m.Ok) {w : List Int} (hw : ∀ x ∈ w, 0 ≤ x ∧ x < m.inputs) : m.hop w = [] ↔ m.hom w := by
  have hG := grps_ok m w
  unfold Mly.hop
  cases hf : (m.grps w).find? fun g => decide (1 < g.2.length) with
  | none =>
    simp only [true_iff]
    rw [cur_hom hm hw]
    intro s hs
    obtain ⟨g, hg, e⟩ := List.mem_map.1 (hG.all s hs)
    have h1 := List.find?_eq_none.1 hf g hg
    simp only [decide_eq_true_eq] at h1
    have h2 := grps_cur hm hw hg
    have h3 := (hG.mem g hg (m.run (s : Int) w)).2 ⟨s, hs, e.symm, rfl⟩
    rw [← e, ← h2]
    match hg2 : g.2, h1, h3 with
    | [x], _, h3 => simp only [List.mem_singleton] at h3; rw [h3]
    | _ :: _ :: _, h1, _ => simp at h1
  | some g =>
    have hg := List.mem_of_find?_eq_some hf
    have h1 := List.find?_some hf
    simp only [decide_eq_true_eq] at h1
    constructor
    · intro e; simp only at e; rw [e] at h1; simp at h1
    · intro h
      exfalso
      have := up_one (hG.up g hg) fun x hx y hy => by
        obtain ⟨s, s1, s2, s3⟩ := (hG.mem g hg x).1 hx
        obtain ⟨t, t1, t2, t3⟩ := (hG.mem g hg y).1 hy
        rw [← s3, ← t3]
        exact h s t s1 t1 (by rw [s2, t2])
      omega
end Ab
namespace Ab
/-- What is before a place, and what is not. -/
structure Cut (l : List Int) (t : Int) (i : Nat) : Prop where
  le : i ≤ l.length
  lo : ∀ x ∈ l.take i, x < t
  hi : ∀ x ∈ l.drop i, ¬ x < t
theorem cut_of {l : List Int} {t : Int} {i : Nat} (hi : i ≤ l.length) (h1 : ∀ k : Nat, k < i → ix l (k : Int) < t) (h2 : ∀ k : Nat, i ≤ k → k < l.length → ¬ ix l (k : Int) < t) : Cut l t i := by
  refine ⟨hi, fun x hx => ?_, fun x hx => ?_⟩
  · obtain ⟨k, hk, rfl⟩ := List.mem_iff_getElem.1 hx
    rw [List.getElem_take]
    simp at hk
    have := h1 k (by omega)
    rwa [ix_nat (by omega)] at this
  · obtain ⟨k, hk, rfl⟩ := List.mem_iff_getElem.1 hx
    rw [List.getElem_drop]
    simp at hk
    have := h2 (i + k) (by omega) (by omega)
    rwa [ix_nat (by omega)] at this
theorem cut_put {l : List Int} {t : Int} {i : Nat} (hu : up l) (h : Cut l t i) : iput l t = if i < l.length ∧ ix l (i : Int) = t then l else l.take i ++ t :: l.drop i := by
  have hs : l.take i ++ l.drop i = l := List.take_append_drop i l
  by_cases hf : i < l.length ∧ ix l (i : Int) = t
  · rw [if_pos hf]
    unfold iput
    rw [if_pos]
    rw [← hf.2]
    exact ix_mem (by omega) (by omega)
  · rw [if_neg hf]
    have hd : ∀ x ∈ l.drop i, t < x := by
      intro x hx
      have h1 := h.hi x hx
      by_cases hlt : i < l.length
      · have h2 : ix l (i : Int) ≠ t := fun e => hf ⟨hlt, e⟩
        rw [List.drop_eq_getElem_cons hlt] at hx
        have h3 := h.hi l[i] (by rw [List.drop_eq_getElem_cons hlt]; exact List.mem_cons_self)
        rw [ix_nat hlt] at h2
        have hup : up (l.drop i) := List.Pairwise.sublist (List.drop_sublist i l) hu
        rw [List.drop_eq_getElem_cons hlt] at hup
        rcases List.mem_cons.1 hx with rfl | hx
        · omega
        · have := (List.pairwise_cons.1 hup).1 x hx
          omega
      · rw [List.drop_of_length_le (by omega)] at hx; simp at hx
    have hn : t ∉ l := by
      intro hm
      rw [← hs] at hm
      rcases List.mem_append.1 hm with hm | hm
      · have := h.lo t hm; omega
      · have := hd t hm; omega
    unfold iput
    rw [if_neg hn]
    have f1 : (l.filter fun x => decide (x < t)) = l.take i := by
      rw [← hs, List.filter_append, List.filter_eq_self.2 (fun x hx => by simpa using h.lo x hx), List.filter_eq_nil_iff.2 (fun x hx => by have := hd x hx; simp; omega), List.append_nil, hs]
    have f2 : (l.filter fun x => decide (t < x)) = l.drop i := by
      rw [← hs, List.filter_append, List.filter_eq_nil_iff.2 (fun x hx => by have := h.lo x hx; simp; omega), List.filter_eq_self.2 (fun x hx => by simpa using hd x hx), List.nil_append, hs]
    rw [f1, f2]
theorem iput_len {l : List Int} {t : Int} : (iput l t).length ≤ l.length + 1 := by
  unfold iput
  split
  · omega
  · have h : ∀ l : List Int, (l.filter fun x => decide (x < t)).length + (l.filter fun x => decide (t < x)).length ≤ l.length := by
      intro l
      induction l with
      | nil => simp
      | cons a l ih =>
        by_cases h1 : a < t
        · rw [List.filter_cons_of_pos (by simpa using h1), List.filter_cons_of_neg (by simp; omega)]; simp; omega
        · rw [List.filter_cons_of_neg (by simpa using h1)]
          by_cases h2 : t < a
          · rw [List.filter_cons_of_pos (by simpa using h2)]; simp; omega
          · rw [List.filter_cons_of_neg (by simpa using h2)]; simp; omega
    have := h l
    simp; omega
end Ab
namespace Ab
def bsi (l : List Int) (t : Int) : Nat := (l.filter fun x => decide (x < t)).length
theorem cut_bsi {l : List Int} {t : Int} {i : Nat} (h : Cut l t i) : i = bsi l t := by
  unfold bsi
  have hs : l.take i ++ l.drop i = l := List.take_append_drop i l
  rw [← hs, List.filter_append, List.filter_eq_self.2 (fun x hx => by simpa using h.lo x hx), List.filter_eq_nil_iff.2 (fun x hx => by have := h.hi x hx; simpa using this), List.append_nil, List.length_take]
  have := h.le
  omega
theorem up_ix {l : List Int} (h : up l) {i j : Nat} (hij : i ≤ j) (hj : j < l.length) : ix l (i : Int) ≤ ix l (j : Int) := by
  rw [ix_nat (by omega), ix_nat hj]
  by_cases e : i = j
  · subst e; exact Int.le_refl _
  · have := List.pairwise_iff_getElem.1 h i j (by omega) hj (by omega)
    omega
theorem cNaN_s (a : Int) : PC F_cmp_isNaN_int [.int a] = some (.bool false) := by
  refine PCx_of (go_cmp_isNaN_int rfl ?_)
  simp
theorem sNaN_s (a : Int) : PC F_slices_isNaN_int [.int a] = some (.bool false) := by
  refine PCx_of (go_slices_isNaN_int rfl ?_)
  simp
theorem Less_s (a b : Int) : PC F_cmp_Less_int [.int a, .int b] = some (.bool (decide (a < b))) := by
  refine PCx_of (go_cmp_Less_int rfl ?_)
  simp [cNaN_s]
theorem BinarySearch_s (l : List Int) (t : Int) (hl : (l.length : Int) ≤ 1000000) (hu : up l) : PC F_slices_BinarySearch_Sint_int [iL l, .int t] = some (.tup [.int (bsi l t), .bool (decide (bsi l t < l.length ∧ ix l (bsi l t : Int) = t))]) := by
  refine PCx_of (go_slices_BinarySearch_Sint_int rfl ?_)
  have hLs := fun a => Less_s a t
  simp [-More_nor]
  refine W_iter (fun p : Nat × Nat => [(3, .int p.1), (4, .int p.2)]) (fun _ => []) (fun p => (p.1 ≤ p.2 ∧ p.2 ≤ l.length) ∧ (∀ k : Nat, k < p.1 → ix l (k : Int) < t) ∧ ∀ k : Nat, p.2 ≤ k → k < l.length → t ≤ ix l (k : Int)) (fun p => p.2 - p.1) (0, l.length) (by simp [sets]) ⟨by omega, by omega, fun k h1 h2 => by omega⟩ ?_
  rintro ⟨i, j⟩ ⟨h1, h2, h3⟩
  dsimp only at h1 h2 h3 ⊢
  by_cases hij : i < j
  · have hm : ((i : Int) + (j : Int)).fdiv 2 = (((i + j) / 2 : Nat) : Int) := by
      rw [Int.fdiv_eq_ediv_of_nonneg _ (by omega)]; omega
    have hm1 : i ≤ (i + j) / 2 := by omega
    have hm2 : (i + j) / 2 < j := by omega
    generalize (i + j) / 2 = h at *
    by_cases hlt : ix l (h : Int) < t
    · have hlt' := eq_true hlt
      simp [-More_nor, hij, hm, hLs, hlt']
      refine ⟨by omega, by omega, by omega, by omega, by omega, More_of (h + 1, j) (by simp) rfl ⟨by dsimp only; omega, fun k hk => ?_, h3⟩ (by dsimp only; omega)⟩
      have := up_ix hu (i := k) (j := h) (by dsimp only at hk; omega) (by omega)
      omega
    · have hlt' := eq_false hlt
      simp [-More_nor, hij, hm, hLs, hlt']
      refine ⟨by omega, by omega, by omega, by omega, More_of (i, h) (by simp) rfl ⟨by dsimp only; omega, h2, fun k hk hkl => ?_⟩ (by dsimp only; omega)⟩
      have := up_ix hu (i := h) (j := k) (by dsimp only at hk; omega) hkl
      omega
  · have e : i = j := by omega
    subst e
    have hc : i = bsi l t := cut_bsi (cut_of h1.2 h2 fun k hk hkl => by have := h3 k hk hkl; omega)
    rw [← hc]
    by_cases hlt : i < l.length
    · by_cases he : ix l (i : Int) = t
      · have he' := eq_true he
        simp [-More_nor, hlt, he', sNaN_s]
      · have he' := eq_false he
        simp [-More_nor, hlt, he', sNaN_s]
    · simp [-More_nor, hlt]
theorem cut_ex {l : List Int} {t : Int} (hu : up l) : Cut l t (bsi l t) := by
  have h : ∀ n : Nat, n ≤ l.length → ∃ i : Nat, i ≤ n ∧ (∀ k : Nat, k < i → ix l (k : Int) < t) ∧ ∀ k : Nat, i ≤ k → k < n → ¬ ix l (k : Int) < t := by
    intro n
    induction n with
    | zero => intro _; exact ⟨0, by omega, by omega, by omega⟩
    | succ n ih =>
      intro hn
      by_cases hlt : ix l (n : Int) < t
      · exact ⟨n + 1, by omega, fun k hk => by have := up_ix hu (i := k) (j := n) (by omega) (by omega); omega, by omega⟩
      · obtain ⟨i, h1, h2, h3⟩ := ih (by omega)
        refine ⟨i, by omega, h2, fun k hk hkn => ?_⟩
        by_cases e : k = n
        · subst e; exact hlt
        · exact h3 k hk (by omega)
  obtain ⟨i, h1, h2, h3⟩ := h l.length (Nat.le_refl _)
  have hc := cut_of h1 h2 h3
  rw [← cut_bsi hc]
  exact hc
theorem fitI : ∀ l : List Int, fitAll (kst none) (l.map .int) = true
  | [] => rfl
  | x :: l => by
    have := fitI l
    simp only [fitAll, List.map_cons, List.all_cons, this, Bool.and_true] at this ⊢
    rfl
theorem cellsI : ∀ l : List Int, (l.map AV.int).flatMap AV.cells = l.map .int
  | [] => rfl
  | x :: l => by rw [List.map_cons, List.flatMap_cons, cellsI l]; rfl
theorem firstI : ∀ l : List Int, firstIs 1 (l.map .int) = true
  | [] => rfl
  | x :: l => rfl
theorem putAt_end {p q new : List AV} {off : Nat} (h1 : p.length = off) (h2 : q.length = new.length) : putAt (p ++ q) off new = p ++ new := by
  subst h1
  unfold putAt
  rw [List.take_left' rfl, List.drop_of_length_le (l := p ++ q) (by simp; omega), List.append_nil]
theorem put_s (l : List Int) (t : Int) (hl : (l.length : Int) ≤ 100000) (hu : up l) : PC F_homing_put [iL l, .int t] = some (iL (iput l t)) := by
  refine PCx_of (go_homing_put rfl ?_)
  have hB := BinarySearch_s l t (by omega) hu
  have hc := cut_ex hu (t := t)
  rw [cut_put hu hc]
  have hle := hc.le
  generalize bsi l t = i at *
  by_cases hf : i < l.length ∧ ix l (i : Int) = t
  · rw [if_pos hf]
    have h1 := eq_true hf.1
    have h2 := eq_true hf.2
    simp [hB, h1, h2]
  · rw [if_neg hf]
    have h1 : decide (i < l.length ∧ ix l (i : Int) = t) = false := by simpa using hf
    rw [h1] at hB
    have hA : ∀ j, (l.map AV.int).take j = (l.take j).map .int := fun j => (List.map_take ..).symm
    have hD : ∀ j, (l.map AV.int).drop j = (l.drop j).map .int := fun j => (List.map_drop ..).symm
    have hDT : (l.drop i).take (l.length - i) = l.drop i := List.take_of_length_le (by simp)
    have hDTm : ((l.drop i).map AV.int).take (l.length - i) = (l.drop i).map .int := List.take_of_length_le (by simp)
    have hAT : ((l.take i).map AV.int).take (min i l.length) = (l.take i).map .int := List.take_of_length_le (by simp)
    have hmin : min i l.length = i := Nat.min_eq_left hle
    have hil : ((i : Int) < (l.length : Int) + 1) = True := eq_true (by omega)
    have hil' : (i < l.length + 1) = True := eq_true (by omega)
    by_cases hi0 : i = 0
    · subst hi0
      have e2 : (List.replicate (l.length + 1) (0 : Int)).set 0 t = t :: List.replicate l.length 0 := by rw [List.replicate_succ, List.set_cons_zero]
      have e3 : putAt ((t :: List.replicate l.length (0 : Int)).map AV.int) 1 (l.map .int) = (t :: l).map .int := by
        unfold putAt
        rw [List.map_cons, List.take_succ_cons, List.take_zero, List.length_map, List.drop_of_length_le (by simp; omega)]
        simp
      by_cases hd : l = []
      · subst hd
        have hB' : PC F_slices_BinarySearch_Sint_int [.imm false [], .int t] = some (.tup [.int 0, .bool false]) := hB
        simp [hB', fitI, firstI, firstIs, fitAll]
        have hv := vd_iL (σ := [⟨none, [t].map .int, .live⟩]) (fr := false) (b := 0) (xs := [t]) (n := 1) (st := .live) rfl (by simp) rfl
        rw [show ([⟨none, [AV.int t], .live⟩] : List Blk) = [⟨none, [t].map .int, .live⟩] from rfl, hv]
        rfl
      · have hd' := eq_false hd
        have hl0 : (l.length = 0) = False := eq_false fun e => hd (List.eq_nil_of_length_eq_zero e)
        simp [-List.map_replicate, -List.map_take, -List.map_drop, -List.map_append, -List.map_set, hB, hA, hD, fitI, cellsI, firstI, hil, hil', hd', hl0]
        refine ⟨by omega, by omega, by omega, by omega, ?_⟩
        rw [e2, e3, vd_iL (st := .live) rfl (by simp) (by simp), optK_some]
    · have hi0' := eq_false hi0
      have hln : (l = []) = False := eq_false (by intro e; rw [e] at hle; simp at hle; omega)
      have e1 : putAt ((List.replicate (l.length + 1) (0 : Int)).map AV.int) 0 ((l.take i).map .int) = (l.take i ++ List.replicate (l.length + 1 - i) 0).map .int := by
        unfold putAt
        rw [List.take_zero, List.nil_append, List.length_map, List.length_take, hmin, Nat.zero_add, ← List.map_drop, List.drop_replicate, List.map_append]
      have e2 : (l.take i ++ List.replicate (l.length + 1 - i) 0).set i t = l.take i ++ t :: List.replicate (l.length - i) 0 := by
        rw [List.set_append, if_neg (by simp; omega), List.length_take, hmin, Nat.sub_self, show l.length + 1 - i = (l.length - i) + 1 by omega, List.replicate_succ, List.set_cons_zero]
      have e3 : putAt ((l.take i ++ t :: List.replicate (l.length - i) 0).map AV.int) (i + 1) ((l.drop i).map .int) = (l.take i ++ t :: l.drop i).map .int := by
        have es : l.take i ++ t :: List.replicate (l.length - i) 0 = (l.take i ++ [t]) ++ List.replicate (l.length - i) 0 := by simp
        have ek : (l.take i ++ [t]).length = i + 1 := by simp; omega
        rw [es, List.map_append, putAt_end (by rw [List.length_map]; exact ek) (by simp), ← List.map_append, List.append_assoc]
        rfl
      have el : (l.take i ++ List.replicate (l.length + 1 - i) 0).length = l.length + 1 := by simp; omega
      by_cases hd : l.length - i = 0
      · have hd' := eq_true hd
        simp [-List.map_replicate, -List.map_take, -List.map_drop, -List.map_append, -List.map_set, hB, hA, hD, hDT, fitI, cellsI, firstI, hi0', hln, hil, hil', hAT, hDTm, hd', e1]
        refine ⟨by omega, by omega, by omega, by omega, by omega, by omega, by omega, by omega, by omega, by omega, by omega, ?_⟩
        have hi : i = l.length := by omega
        have ef : l.take i ++ t :: List.replicate (l.length - i) 0 = l.take i ++ t :: l.drop i := by rw [hd, List.drop_of_length_le (by omega)]; rfl
        rw [e2, ef, vd_iL (st := .live) rfl (by simp) (by simp; omega), optK_some]
      · have hd' := eq_false hd
        simp [-List.map_replicate, -List.map_take, -List.map_drop, -List.map_append, -List.map_set, hB, hA, hD, hDT, fitI, cellsI, firstI, hi0', hln, hil, hil', hAT, hDTm, hd', e1]
        refine ⟨by omega, by omega, by omega, by omega, by omega, by omega, by omega, by omega, by omega, by omega, by omega, ?_⟩
        rw [e2, e3, vd_iL (st := .live) rfl (by simp) (by simp; omega), optK_some]
end Ab
