/- What words visit, counted; tours take all transitions. Condition: none. -/
import Derived.Test.YtbpkebkldaifgaaCovD
import Derived.Test.YtbpkebkldaifgaaFrom
set_option linter.all false
set_option maxRecDepth 100000
set_option maxHeartbeats 4000000
namespace Ab
theorem sub_len {α : Type} [DecidableEq α] : ∀ {K L : List α}, K.Nodup → (∀ x ∈ K, x ∈ L) → K.length ≤ L.length
  | [], _, _, _ => by simp
  | x :: K, L, h, hs => by
    have hx := hs x (by simp)
    have hn := List.nodup_cons.1 h
    have := sub_len (K := K) (L := L.erase x) hn.2 fun y hy => by
      have hne : y ≠ x := fun e => hn.1 (e ▸ hy)
      exact (List.mem_erase_of_ne hne).2 (hs y (by simp [hy]))
    rw [List.length_erase_of_mem hx] at this
    have := List.length_pos_of_mem hx
    simp; omega
/-- The transitions that a word takes. -/
def Mly.trs (m : Mly) : Int → List Int → List (Int × Int)
  | _, [] => []
  | s, a :: w => (s, a) :: m.trs (ix (ix m.next s) a) w
abbrev Mly.nxt (m : Mly) (p : Int × Int) : Int := ix (ix m.next p.1) p.2
theorem trs_len {m : Mly} : ∀ {w : List Int} {s : Int}, (m.trs s w).length = w.length
  | [], _ => rfl
  | a :: w, s => by simp only [Mly.trs, List.length_cons, trs_len (w := w)]
theorem trs_app {m : Mly} : ∀ {u v : List Int} {s : Int}, m.trs s (u ++ v) = m.trs s u ++ m.trs (m.run s u) v
  | [], _, _ => rfl
  | a :: u, v, s => by simp only [List.cons_append, Mly.trs, Mly.run, trs_app (u := u)]
/-- A state that can be reached. -/
def Mly.InR (m : Mly) (x : Int) : Prop := ∃ i : Int, 0 ≤ i ∧ i < ((m.places m.start).length : Int) ∧ (ix (m.places m.start) i).1 = x
theorem inR_start {m : Mly} (hm : m.Ok) : m.InR m.start := by
  have hb := places_bf m hm m.start hm.start
  exact ⟨0, by omega, by have := hb.bq.pos; omega, by rw [hb.bq.head]⟩
theorem inR_run {m : Mly} (hm : m.Ok) {x : Int} (h : m.InR x) {w : List Int} (hw : ∀ a ∈ w, 0 ≤ a ∧ a < m.inputs) : m.InR (m.run x w) := by
  have hb := places_bf m hm m.start hm.start
  obtain ⟨i, i0, i1, rfl⟩ := h
  have hr := hb.run i i0 i1
  obtain ⟨k, k0, k1, e, _⟩ := hb.all ((ix (m.places m.start) i).2 ++ w) fun a ha => by
    rcases List.mem_append.1 ha with ha | ha
    · exact hr.2 a ha
    · exact hw a ha
  exact ⟨k, k0, k1, by rw [e, run_app, hr.1]⟩
theorem inR_next {m : Mly} (hm : m.Ok) {x a : Int} (h : m.InR x) (ha : 0 ≤ a ∧ a < m.inputs) : m.InR (ix (ix m.next x) a) := inR_run hm h (w := [a]) fun b hb => by simp at hb; subst hb; exact ha
theorem inR_rng {m : Mly} (hm : m.Ok) {x : Int} (h : m.InR x) : 0 ≤ x ∧ x < (m.next.length : Int) := by
  have hb := places_bf m hm m.start hm.start
  obtain ⟨i, i0, i1, rfl⟩ := h
  exact hb.bq.rng _ (ix_mem i0 i1)
theorem trs_inR {m : Mly} (hm : m.Ok) : ∀ {w : List Int} {s : Int}, m.InR s → (∀ a ∈ w, 0 ≤ a ∧ a < m.inputs) → ∀ p ∈ m.trs s w, m.InR p.1 ∧ (0 ≤ p.2 ∧ p.2 < m.inputs)
  | [], _, _, _, p, hp => by simp [Mly.trs] at hp
  | a :: w, s, hs, hw, p, hp => by
    rcases List.mem_cons.1 hp with rfl | hp
    · exact ⟨hs, hw a (by simp)⟩
    · exact trs_inR hm (inR_next hm hs (hw a (by simp))) (fun b hb => hw b (by simp [hb])) p hp
/-- All transitions that can be reached. -/
def Mly.allT (m : Mly) : List (Int × Int) := ((m.places m.start).map (·.1)).flatMap fun s => (List.range m.inputs.toNat).map fun (a : Nat) => (s, (a : Int))
theorem allT_mem {m : Mly} (hm : m.Ok) {p : Int × Int} : p ∈ m.allT ↔ m.InR p.1 ∧ (0 ≤ p.2 ∧ p.2 < m.inputs) := by
  unfold Mly.allT
  rw [List.mem_flatMap]
  constructor
  · rintro ⟨s, hs, hp⟩
    obtain ⟨q, hq, rfl⟩ := List.mem_map.1 hs
    obtain ⟨i, hi, rfl⟩ := List.mem_iff_getElem.1 hq
    obtain ⟨a, ha, rfl⟩ := List.mem_map.1 hp
    simp at ha
    exact ⟨⟨i, by omega, by omega, by rw [ix_nat hi]⟩, by dsimp only; omega⟩
  · rintro ⟨⟨i, i0, i1, e⟩, h0, h1⟩
    refine ⟨p.1, List.mem_map.2 ⟨_, ix_mem i0 i1, e⟩, List.mem_map.2 ⟨p.2.toNat, by simp; omega, ?_⟩⟩
    rw [show ((p.2.toNat : Nat) : Int) = p.2 by omega]
theorem flat_len {α β : Type} {f : α → List β} {n : Nat} (h : ∀ a, (f a).length = n) : ∀ {l : List α}, (l.flatMap f).length = l.length * n
  | [] => by simp
  | a :: l => by rw [List.flatMap_cons, List.length_append, h, flat_len h, List.length_cons, Nat.succ_mul, Nat.add_comm]
theorem allT_len {m : Mly} : m.allT.length = (m.places m.start).length * m.inputs.toNat := by
  unfold Mly.allT
  rw [flat_len (n := m.inputs.toNat) (fun a => by simp), List.length_map]
theorem allT_nd {m : Mly} (hm : m.Ok) : m.allT.Nodup := by
  have hb := places_bf m hm m.start hm.start
  show List.Pairwise (fun a b => a ≠ b) m.allT
  unfold Mly.allT
  rw [List.pairwise_flatMap]
  refine ⟨fun s _ => ?_, ?_⟩
  · rw [List.pairwise_map]
    exact (List.pairwise_lt_range).imp fun h e => by injection e with _ e; omega
  · have hn : ((m.places m.start).map (·.1)).Pairwise (fun a b => a ≠ b) := hb.bq.nd
    refine hn.imp fun {a b} hab x hx y hy e => ?_
    obtain ⟨i, _, rfl⟩ := List.mem_map.1 hx
    obtain ⟨j, _, rfl⟩ := List.mem_map.1 hy
    injection e with e _
    exact hab e
/-- The table holds these transitions. -/
structure Kt (m : Mly) (T : List (List Bool)) (K : List (Int × Int)) : Prop where
  sh : Sh m.next.length m.inputs.toNat T
  nd : K.Nodup
  tak : ∀ s a, 0 ≤ s → s < (m.next.length : Int) → 0 ≤ a → a < m.inputs → (ix (ix T s) a = true ↔ (s, a) ∈ K)
theorem mark_ix {N C : Nat} {T : List (List Bool)} (h : Sh N C T) {s a x b : Int} (s0 : 0 ≤ s) (s1 : s < N) (a0 : 0 ≤ a) (a1 : a < C) (x0 : 0 ≤ x) (x1 : x < N) (b0 : 0 ≤ b) (b1 : b < C) : ix (ix (mark T s a) x) b = if x = s ∧ b = a then true else ix (ix T x) b := by
  have hl := h.len
  have hr := h.ix s0 s1
  unfold mark
  rw [ixs_set x0 (by omega)]
  by_cases e : x = (s.toNat : Int)
  · rw [if_pos e]
    have e' : x = s := by omega
    subst e'
    rw [ixs_set b0 (by omega)]
    by_cases e2 : b = (a.toNat : Int)
    · rw [if_pos e2, if_pos ⟨rfl, by omega⟩]
    · rw [if_neg e2, if_neg (by omega)]
  · rw [if_neg e, if_neg (by omega)]
theorem Kt.mark {m : Mly} (hm : m.Ok) {T : List (List Bool)} {K : List (Int × Int)} (h : Kt m T K) {s a : Int} (hs : 0 ≤ s ∧ s < (m.next.length : Int)) (ha : 0 ≤ a ∧ a < m.inputs) (hf : ix (ix T s) a = false) : Kt m (mark T s a) ((s, a) :: K) := by
  have hin := hm.inputs
  refine ⟨mark_sh h.sh hs.1 hs.2, List.nodup_cons.2 ⟨fun hk => ?_, h.nd⟩, fun x b x0 x1 b0 b1 => ?_⟩
  · rw [(h.tak s a hs.1 hs.2 ha.1 ha.2).2 hk] at hf; simp at hf
  · rw [mark_ix h.sh hs.1 hs.2 ha.1 (by omega) x0 x1 b0 (by omega)]
    by_cases e : x = s ∧ b = a
    · rw [if_pos e]; simp [e.1, e.2]
    · rw [if_neg e, h.tak x b x0 x1 b0 b1, List.mem_cons]
      constructor
      · exact .inr
      · rintro (e' | h)
        · injection e' with e1 e2; exact absurd ⟨e1, e2⟩ e
        · exact h
theorem blank_kt {m : Mly} : Kt m m.blank [] := by
  refine ⟨⟨by simp, fun r hr => by rw [List.eq_of_mem_replicate hr]; simp⟩, by simp, fun s a s0 s1 a0 a1 => ?_⟩
  rw [ixs_rep s0 s1, ixs_rep a0 (by omega)]
  simp
/-- Counts. -/
structure Cg (m : Mly) (c : Cv) (K : List (Int × Int)) : Prop where
  kt : Kt m c.tak K
  n : c.n = K.length
  vnd : c.vis.Nodup
theorem visit_cg {m : Mly} {c : Cv} {K : List (Int × Int)} (h : Cg m c K) {s : Int} : Cg m (c.visit s) K ∧ ∀ t, t ∈ (c.visit s).vis ↔ t ∈ c.vis ∨ t = s := by
  unfold Cv.visit
  split
  · rename_i hv
    refine ⟨h, fun t => ⟨.inl, ?_⟩⟩
    rintro (ht | rfl)
    · exact ht
    · obtain ⟨x, hx, e⟩ := List.any_eq_true.1 hv
      simp at e; subst e; exact hx
  · rename_i hv
    refine ⟨⟨h.kt, h.n, ?_⟩, fun t => by simp⟩
    rw [List.nodup_append]
    refine ⟨h.vnd, by simp, fun a ha b hb e => ?_⟩
    simp at hb; subst hb; subst e
    exact hv (List.any_eq_true.2 ⟨a, ha, by simp⟩)
theorem take_cg {m : Mly} (hm : m.Ok) {c : Cv} {K : List (Int × Int)} (h : Cg m c K) {s a : Int} (hs : 0 ≤ s ∧ s < (m.next.length : Int)) (ha : 0 ≤ a ∧ a < m.inputs) : ∃ K', Cg m (c.take s a) K' ∧ ∀ p, p ∈ K' ↔ p ∈ K ∨ p = (s, a) := by
  unfold Cv.take
  split
  · rename_i ht
    refine ⟨K, h, fun p => ⟨.inl, ?_⟩⟩
    rintro (hp | rfl)
    · exact hp
    · exact (h.kt.tak s a hs.1 hs.2 ha.1 ha.2).1 ht
  · rename_i ht
    refine ⟨(s, a) :: K, ⟨h.kt.mark hm hs ha (by simpa using ht), by simp [h.n], h.vnd⟩, fun p => by rw [List.mem_cons]; exact Or.comm⟩
theorem goV_cg {m : Mly} (hm : m.Ok) : ∀ {w : List Int} {s : Int} {c : Cv} {K : List (Int × Int)}, Cg m c K → (0 ≤ s ∧ s < (m.next.length : Int)) → (∀ a ∈ w, 0 ≤ a ∧ a < m.inputs) →
    ∃ K', Cg m (m.goV s w c) K' ∧ (∀ p, p ∈ K' ↔ p ∈ K ∨ p ∈ m.trs s w) ∧ ∀ t, t ∈ (m.goV s w c).vis ↔ t ∈ c.vis ∨ ∃ p ∈ m.trs s w, t = m.nxt p
  | [], s, c, K, h, _, _ => ⟨K, h, fun p => by simp [Mly.trs], fun t => by simp [Mly.trs, Mly.goV]⟩
  | a :: w, s, c, K, h, hs, hw => by
    have ha := hw a (by simp)
    obtain ⟨K1, h1, k1⟩ := take_cg hm h hs ha
    have hv := visit_cg h1 (s := ix (ix m.next s) a)
    have hn := hm.nx s a hs.1 hs.2 ha.1 ha.2
    obtain ⟨K2, h2, k2, v2⟩ := goV_cg hm (w := w) hv.1 hn fun b hb => hw b (by simp [hb])
    refine ⟨K2, h2, fun p => ?_, fun t => ?_⟩
    · rw [k2, k1]; simp only [Mly.trs, List.mem_cons]
      constructor
      · rintro ((h | h) | h)
        · exact .inl h
        · exact .inr (.inl h)
        · exact .inr (.inr h)
      · rintro (h | h | h)
        · exact .inl (.inl h)
        · exact .inl (.inr h)
        · exact .inr h
    · show t ∈ (m.goV (ix (ix m.next s) a) w ((c.take s a).visit (ix (ix m.next s) a))).vis ↔ _
      rw [v2, hv.2, take_vis]
      simp only [Mly.trs, List.mem_cons]
      constructor
      · rintro ((h | h) | ⟨p, hp, e⟩)
        · exact .inl h
        · exact .inr ⟨(s, a), .inl rfl, h⟩
        · exact .inr ⟨p, .inr hp, e⟩
      · rintro (h | ⟨p, rfl | hp, e⟩)
        · exact .inl (.inl h)
        · exact .inl (.inr e)
        · exact .inr ⟨p, hp, e⟩
theorem cov_cg {m : Mly} (hm : m.Ok) : ∀ {ws : List (List Int)} {c : Cv} {K : List (Int × Int)}, Cg m c K → (∀ w ∈ ws, ∀ a ∈ w, 0 ≤ a ∧ a < m.inputs) →
    ∃ K', Cg m (m.cov ws c) K' ∧ (∀ p, p ∈ K' ↔ p ∈ K ∨ ∃ w ∈ ws, p ∈ m.trs m.start w) ∧ ∀ t, t ∈ (m.cov ws c).vis ↔ t ∈ c.vis ∨ ∃ w ∈ ws, t = m.start ∨ ∃ p ∈ m.trs m.start w, t = m.nxt p
  | [], c, K, h, _ => ⟨K, h, fun p => by simp, fun t => by simp [Mly.cov]⟩
  | w :: ws, c, K, h, hw => by
    have hv := visit_cg h (s := m.start)
    obtain ⟨K1, h1, k1, v1⟩ := goV_cg hm (w := w) hv.1 hm.start (hw w (by simp))
    obtain ⟨K2, h2, k2, v2⟩ := cov_cg hm (ws := ws) h1 fun x hx => hw x (by simp [hx])
    refine ⟨K2, h2, fun p => ?_, fun t => ?_⟩
    · rw [k2, k1]
      constructor
      · rintro ((h | h) | ⟨x, hx, h⟩)
        · exact .inl h
        · exact .inr ⟨w, by simp, h⟩
        · exact .inr ⟨x, by simp [hx], h⟩
      · rintro (h | ⟨x, hx, h⟩)
        · exact .inl (.inl h)
        · rcases List.mem_cons.1 hx with rfl | hx
          · exact .inl (.inr h)
          · exact .inr ⟨x, hx, h⟩
    · show t ∈ (m.cov ws (m.goV m.start w (c.visit m.start))).vis ↔ _
      rw [v2, v1, hv.2]
      constructor
      · rintro (((h | h) | h) | ⟨x, hx, h⟩)
        · exact .inl h
        · exact .inr ⟨w, by simp, .inl h⟩
        · exact .inr ⟨w, by simp, .inr h⟩
        · exact .inr ⟨x, by simp [hx], h⟩
      · rintro (h | ⟨x, hx, h⟩)
        · exact .inl (.inl (.inl h))
        · rcases List.mem_cons.1 hx with rfl | hx
          · rcases h with h | h
            · exact .inl (.inl (.inr h))
            · exact .inl (.inr h)
          · exact .inr ⟨x, hx, h⟩
/-- Words that take all transitions: the counts. -/
theorem cov_full {m : Mly} (hm : m.Ok) {ws : List (List Int)} (hne : ws ≠ []) (hw : ∀ w ∈ ws, ∀ a ∈ w, 0 ≤ a ∧ a < m.inputs) (hall : ∀ p ∈ m.allT, ∃ w ∈ ws, p ∈ m.trs m.start w) :
    (m.cov0 ws).vis.length = (m.places m.start).length ∧ (m.cov0 ws).n = (((m.places m.start).length * m.inputs.toNat : Nat) : Int) := by
  have hb := places_bf m hm m.start hm.start
  obtain ⟨K, h, hk, hv⟩ := cov_cg hm (ws := ws) (c := ⟨[], m.blank, 0⟩) (K := []) ⟨blank_kt, rfl, by simp⟩ hw
  have hK : ∀ p, p ∈ K ↔ p ∈ m.allT := fun p => by
    rw [hk]
    constructor
    · rintro (h | ⟨w, hw', h⟩)
      · simp at h
      · exact (allT_mem hm).2 (trs_inR hm (inR_start hm) (hw w hw') p h)
    · exact fun h => .inr (hall p h)
  have hV : ∀ t, t ∈ (m.cov ws ⟨[], m.blank, 0⟩).vis ↔ t ∈ (m.places m.start).map (·.1) := fun t => by
    have hR : t ∈ (m.places m.start).map (·.1) ↔ m.InR t := by
      rw [List.mem_map]
      constructor
      · rintro ⟨p, hp, rfl⟩
        obtain ⟨i, hi, rfl⟩ := List.mem_iff_getElem.1 hp
        exact ⟨i, by omega, by omega, by rw [ix_nat hi]⟩
      · rintro ⟨i, i0, i1, e⟩; exact ⟨_, ix_mem i0 i1, e⟩
    rw [hv, hR]
    constructor
    · rintro (h | ⟨w, hw', rfl | ⟨p, hp, rfl⟩⟩)
      · simp at h
      · exact inR_start hm
      · have := trs_inR hm (inR_start hm) (hw w hw') p hp
        exact inR_next hm this.1 this.2
    · rintro ⟨i, i0, i1, rfl⟩
      right
      by_cases e : i = 0
      · subst e
        rw [hb.bq.head]
        obtain ⟨w, hw'⟩ := List.exists_mem_of_ne_nil ws hne
        exact ⟨w, hw', .inl rfl⟩
      · obtain ⟨j, b, j0, j1, b0, e⟩ := hb.par i (by omega) i1
        obtain ⟨w, hw', hp⟩ := hall ((ix (m.places m.start) j).1, b) ((allT_mem hm).2 ⟨⟨j, j0, by omega, rfl⟩, b0⟩)
        exact ⟨w, hw', .inr ⟨_, hp, by rw [e]⟩⟩
  have l1 := sub_len h.vnd fun t ht => (hV t).1 ht
  have l2 := sub_len hb.bq.nd fun t ht => (hV t).2 ht
  have l3 := sub_len h.kt.nd fun p hp => (hK p).1 hp
  have l4 := sub_len (allT_nd hm) fun p hp => (hK p).2 hp
  rw [List.length_map] at l1 l2
  rw [allT_len] at l3 l4
  have hn := h.n
  unfold Mly.cov0
  exact ⟨by omega, by omega⟩
end Ab
