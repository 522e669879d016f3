/- Tables in memory, the first transition that was not taken, the order of the reachable states. Condition: none. -/
import Derived.Test.YtmmkhoncblnicaaBfsOrd
import Derived.Test.YtmmkhoncblnicaaCovA
import Derived.Test.YtmmkhoncblnicaaGrid
set_option linter.all false
set_option maxRecDepth 100000
set_option maxHeartbeats 4000000
namespace Ab
theorem Reach_s (m : Mly) (h : m.fits) (hv : m.validE = 0) : PC F_mealy_Reach [m.av] = some (iL ((m.places m.start).map (·.1))) := by
  have hm := mvalidE_ok hv
  obtain ⟨hi1, hi2⟩ := hm.inputs
  obtain ⟨hs1, hs2⟩ := hm.states
  have hs := hm.start
  refine PCx_of (go_mealy_Reach rfl ?_)
  simp [-List.map_replicate, mValid_s m h, hv]
  refine ⟨by omega, by omega, by omega, ?_⟩
  refine W_iter (fun p : Int × List Pl × List Bool => [(3, .int p.1), (4, .sl 1 p.2.1.length 0 p.2.1.length)]) (fun p => [⟨none, p.2.2.map .bool, .live⟩, ⟨none, (p.2.1.map (·.1)).map .int, .live⟩])
    (fun p => (0 ≤ p.1 ∧ p.1 ≤ p.2.1.length) ∧ Bq m m.start p.2.1 ∧ Sn m.next.length p.2.2 p.2.1 ∧ ∃ f : Nat, bfs m f p.1 p.2.1 = m.places m.start ∧ (m.next.length : Int) + 1 ≤ f + p.1)
    (fun p => (m.next.length - p.1).toNat) (0, [(m.start, [])], (List.replicate m.next.length false).set m.start.toNat true) (by simp [sets]) ⟨by simp, Bq.init hs, ?_, m.next.length + 1, rfl, by simp⟩ ?_
  · have := Sn.add (N := m.next.length) (b := List.replicate m.next.length false) (q := []) (w := []) ⟨by simp, fun t t0 t1 => by rw [ixs_rep t0 t1]; rfl⟩ hs.1 hs.2
    simpa using this
  rintro ⟨i, q, b⟩ ⟨⟨i0, i1⟩, hq, hb, f, hf1, hf2⟩
  dsimp only at i0 i1 hq hb hf1 hf2 ⊢
  have hqn := hq.le
  by_cases hi : i < q.length
  · have hp := hq.rng _ (ix_mem i0 hi)
    have g1 : ix (q.map (·.1)) i = (ix q i).1 := ix_map i0 hi
    have hp' : 0 ≤ ix (q.map (·.1)) i ∧ ix (q.map (·.1)) i < (m.next.length : Int) := by rw [g1]; exact hp
    have hrow := (hm.row _ hp'.1 hp'.2).1
    simp [-More_nor, -List.map_map, hi, i0, hp'.1, hp'.2, hrow]
    refine W_iter (fun p : Int × List Pl × List Bool => [(4, .sl 1 p.2.1.length 0 p.2.1.length), (5, .int p.1)]) (fun p => [⟨none, p.2.2.map .bool, .live⟩, ⟨none, (p.2.1.map (·.1)).map .int, .live⟩])
      (fun p => (0 ≤ p.1 ∧ p.1 ≤ m.inputs) ∧ Bq m m.start p.2.1 ∧ Sn m.next.length p.2.2 p.2.1 ∧ p.2.1 = brow m (ix q i) q p.1 ∧ q.length ≤ p.2.1.length ∧ ix p.2.1 i = ix q i)
      (fun p => (m.inputs - p.1).toNat) (0, q, b) (by simp [-List.map_map, sets]) ⟨by simp; omega, hq, hb, rfl, by simp, rfl⟩ ?_
    rintro ⟨a, q', b'⟩ ⟨⟨a0, a1⟩, gq, gb, ge, gl, gx⟩
    dsimp only at a0 a1 gq gb ge gl gx ⊢
    have gqn := gq.le
    by_cases ha : a < m.inputs
    · have ht := hm.nx _ a hp.1 hp.2 a0 ha
      have ht' := ht
      rw [← g1] at ht'
      have hbk := gb.ok _ ht.1 ht.2
      rw [← g1] at hbk
      have hbl := gb.len
      have hwl := gq.len i i0 (by omega)
      rw [gx] at hwl
      have es : brow m (ix q i) q (a + 1) = bstep m (ix q i) q' a := by rw [brow_succ a0, ← ge]
      cases hh : hasS q' (ix (ix m.next (ix q i).1) a) with
      | true =>
        rw [← g1] at hh
        simp [-More_nor, -List.map_map, ha, a0, i0, hrow, ht'.1, ht'.2, hbl, hbk, hh]
        rw [g1] at hh
        refine ⟨by omega, More_of (a + 1, q', b') (by simp) rfl ⟨by dsimp only; omega, gq, gb, by dsimp only; rw [es, bstep_has hh], gl, gx⟩ (by dsimp only; omega)⟩
      | false =>
        rw [← g1] at hh
        simp [-More_nor, -List.map_map, ha, a0, i0, hrow, ht'.1, ht'.2, hbl, hbk, hh]
        rw [g1] at hh ⊢
        refine ⟨by omega, by omega, More_of (a + 1, q' ++ [(ix (ix m.next (ix q i).1) a, (ix q i).2 ++ [a])], b'.set (ix (ix m.next (ix q i).1) a).toNat true) (by simp [sets]) (by simp [-List.map_map]) ⟨by dsimp only; omega, gq.add ht hh (by simp) (by simp; omega), gb.add ht.1 ht.2, by dsimp only; rw [es, bstep_new hh], by simp; omega, by dsimp only; rw [ixa_app i0 (by omega), gx]⟩ (by dsimp only; omega)⟩
    · have hai : a = m.inputs := by omega
      subst hai
      simp [-More_nor, -List.map_map]
      refine ⟨by omega, More_of (i + 1, q', b') (by simp) rfl ⟨by dsimp only; omega, gq, gb, ?_⟩ (by dsimp only; omega)⟩
      match f, hf1, hf2 with
      | 0, _, hf2 => omega
      | f + 1, hf1, hf2 => exact ⟨f, by dsimp only; rw [bfs_go hi, ← ge] at hf1; exact hf1, by dsimp only; omega⟩
  · have v1 := vd_iL (σ := [⟨none, b.map .bool, .live⟩, ⟨none, (q.map (·.1)).map .int, .live⟩]) (fr := false) (b := 1) (xs := q.map (·.1)) (n := q.length) (st := .live) rfl (by simp) (by simp)
    simp [-List.map_map, hi, v1]
    rw [← hf1, bfs_end hi]
end Ab
namespace Ab
/-- The table, nothing taken. -/
abbrev Mly.blank (m : Mly) : List (List Bool) := List.replicate m.next.length (List.replicate m.inputs.toNat false)
end Ab
namespace Ab
/-- The first input of a place that was not taken. -/
def Mly.open1 (m : Mly) (T : List (List Bool)) (p : Pl) : Option Int := ((List.range m.inputs.toNat).find? fun (a : Nat) => !(ix (ix T p.1) (a : Int))).map fun (a : Nat) => (a : Int)
theorem ix_rng {n : Nat} {i : Int} (h0 : 0 ≤ i) (h1 : i < n) : ix (List.range n) i = i.toNat := by
  unfold ix
  rw [List.getD_eq_getElem?_getD, List.getElem?_range (by omega)]; rfl
theorem open1_hit {m : Mly} {T : List (List Bool)} {p : Pl} {a : Int} (a0 : 0 ≤ a) (a1 : a < m.inputs) (h : ix (ix T p.1) a = false) (h2 : ∀ b, 0 ≤ b → b < a → ix (ix T p.1) b = true) : m.open1 T p = some a := by
  unfold Mly.open1
  rw [find_hit (i := a) a0 (by simp; omega) (by rw [ix_rng a0 (by omega), show ((a.toNat : Nat) : Int) = a by omega, h]; rfl) (fun j j0 j1 => by rw [ix_rng j0 (by omega), show ((j.toNat : Nat) : Int) = j by omega, h2 j j0 j1]; rfl)]
  rw [ix_rng a0 (by omega)]
  simp; omega
theorem open1_no {m : Mly} {T : List (List Bool)} {p : Pl} (h2 : ∀ b, 0 ≤ b → b < m.inputs → ix (ix T p.1) b = true) : m.open1 T p = none := by
  unfold Mly.open1
  rw [find_no fun j j0 j1 => by simp at j1; rw [ix_rng j0 (by omega), show ((j.toNat : Nat) : Int) = j by omega, h2 j j0 (by omega)]; rfl]
  rfl
theorem open1_some {m : Mly} {T : List (List Bool)} {p : Pl} {a : Int} (h : m.open1 T p = some a) : (0 ≤ a ∧ a < m.inputs) ∧ ix (ix T p.1) a = false := by
  unfold Mly.open1 at h
  obtain ⟨n, h1, rfl⟩ := Option.map_eq_some_iff.1 h
  have h2 := List.find?_some h1
  have h3 := List.mem_of_find?_eq_some h1
  simp at h2 h3
  exact ⟨by omega, h2⟩
theorem open1_none {m : Mly} {T : List (List Bool)} {p : Pl} (h : m.open1 T p = none) : ∀ b, 0 ≤ b → b < m.inputs → ix (ix T p.1) b = true := by
  intro b b0 b1
  unfold Mly.open1 at h
  rw [Option.map_eq_none_iff, List.find?_eq_none] at h
  have := h b.toNat (by simp; omega)
  rw [show ((b.toNat : Nat) : Int) = b by omega] at this
  simpa using this
def Mly.fresh (m : Mly) (s : Int) (T : List (List Bool)) : Option (Pl × Int) := (m.places s).findSome? fun p => (m.open1 T p).map fun a => (p, a)
theorem findSome_hit {α β : Type} [Inhabited α] {f : α → Option β} {xs : List α} {i : Int} {b : β} (h0 : 0 ≤ i) (h1 : i < xs.length) (h : f (ix xs i) = some b) (h2 : ∀ j, 0 ≤ j → j < i → f (ix xs j) = none) : xs.findSome? f = some b := by
  rw [List.findSome?_eq_some_iff]
  refine ⟨xs.take i.toNat, ix xs i, xs.drop (i + 1).toNat, ?_, h, fun x hx => ?_⟩
  · rw [← drop_ix h0 h1, List.take_append_drop]
  · obtain ⟨j, hj, rfl⟩ := List.mem_iff_getElem.1 hx
    simp at hj
    have := h2 j (by omega) (by omega)
    rw [ix_nat (by omega)] at this
    simpa using this
theorem findSome_inv {α β : Type} [Inhabited α] {f : α → Option β} {b : β} : ∀ {xs : List α}, xs.findSome? f = some b → ∃ i : Int, 0 ≤ i ∧ i < xs.length ∧ f (ix xs i) = some b ∧ ∀ j, 0 ≤ j → j < i → f (ix xs j) = none := by
  intro xs h
  rw [List.findSome?_eq_some_iff] at h
  obtain ⟨l1, x, l2, rfl, h2, h3⟩ := h
  have e : ix (l1 ++ x :: l2) (l1.length : Int) = x := by
    unfold ix
    rw [List.getD_eq_getElem?_getD, Int.toNat_natCast, List.getElem?_append_right (Nat.le_refl _)]; simp
  refine ⟨(l1.length : Int), by omega, by simp; omega, by rw [e]; exact h2, fun j j0 j1 => ?_⟩
  rw [ixa_app j0 j1]
  exact h3 _ (ix_mem j0 j1)
theorem fresh_hit {m : Mly} {s i a : Int} {T : List (List Bool)} (h0 : 0 ≤ i) (h1 : i < (m.places s).length) (h : m.open1 T (ix (m.places s) i) = some a) (h2 : ∀ j, 0 ≤ j → j < i → m.open1 T (ix (m.places s) j) = none) : m.fresh s T = some (ix (m.places s) i, a) := by
  unfold Mly.fresh
  exact findSome_hit h0 h1 (by rw [h]; rfl) fun j a b => by rw [h2 j a b]; rfl
theorem fresh_no {m : Mly} {s : Int} {T : List (List Bool)} (h2 : ∀ j, 0 ≤ j → j < ((m.places s).length : Int) → m.open1 T (ix (m.places s) j) = none) : m.fresh s T = none := by
  unfold Mly.fresh
  rw [List.findSome?_eq_none_iff]
  intro x hx
  obtain ⟨i, hi, rfl⟩ := List.mem_iff_getElem.1 hx
  rw [← ix_nat hi, h2 i (by omega) (by omega)]; rfl
theorem fresh_some {m : Mly} {s : Int} {T : List (List Bool)} {p : Pl} {a : Int} (h : m.fresh s T = some (p, a)) : ∃ i : Int, 0 ≤ i ∧ i < (m.places s).length ∧ p = ix (m.places s) i ∧ m.open1 T p = some a ∧ ∀ j : Int, 0 ≤ j → j < i → m.open1 T (ix (m.places s) j) = none := by
  obtain ⟨i, i0, i1, h1, h2⟩ := findSome_inv h
  obtain ⟨a', h3, h4⟩ := Option.map_eq_some_iff.1 h1
  injection h4 with h4 h5
  subst h4 h5
  exact ⟨i, i0, i1, rfl, h3, fun j a b => by simpa using h2 j a b⟩
/-- What the program's function returns. -/
def freshA : Option (Pl × Int) → AV
  | none => .tup [.snil, .bool false]
  | some (p, a) => .tup [iL (p.2 ++ [a]), .bool true]
/-- What the document's function returns. -/
def Mly.freshR (m : Mly) : Option (Pl × Int) → AV
  | none => .tup [.snil, .int 0, .bool false]
  | some (p, a) => .tup [iL (p.2 ++ [a]), .int (ix (ix m.next p.1) a), .bool true]
end Ab
namespace Ab
end Ab
