/- The states that can be reached, each with its first word. Condition: none. -/
import Derived.Test.YtmmkhoncblnicaaMlyValid
set_option linter.all false
set_option maxRecDepth 100000
set_option maxHeartbeats 4000000
namespace Ab
abbrev Pl := Int × List Int
def bstep (m : Mly) (p : Pl) (q : List Pl) (a : Int) : List Pl := if q.any (fun x => x.1 == ix (ix m.next p.1) a) then q else q ++ [(ix (ix m.next p.1) a, p.2 ++ [a])]
def brow (m : Mly) (p : Pl) (q : List Pl) (k : Int) : List Pl := (List.range k.toNat).foldl (fun q a => bstep m p q (a : Nat)) q
theorem brow_zero {m : Mly} {p : Pl} {q : List Pl} : brow m p q 0 = q := rfl
theorem brow_succ {m : Mly} {p : Pl} {q : List Pl} {a : Int} (h : 0 ≤ a) : brow m p q (a + 1) = bstep m p (brow m p q a) a := by
  unfold brow
  rw [show (a + 1).toNat = a.toNat + 1 by omega, List.range_succ, List.foldl_append]
  simp only [List.foldl_cons, List.foldl_nil]
  rw [show ((a.toNat : Nat) : Int) = a by omega]
def bfs (m : Mly) : Nat → Int → List Pl → List Pl
  | 0, _, q => q
  | f + 1, i, q => if i < q.length then bfs m f (i + 1) (brow m (ix q i) q m.inputs) else q
def Mly.places (m : Mly) (s : Int) : List Pl := bfs m (m.next.length + 1) 0 [(s, [])]
theorem nodup_len : ∀ (n : Nat) {l : List Int}, l.Nodup → (∀ x ∈ l, 0 ≤ x ∧ x < (n : Int)) → l.length ≤ n
  | 0, l, _, h => by
    cases l with
    | nil => simp
    | cons x r => have := h x (by simp); omega
  | n + 1, l, hn, h => by
    have e : l.length = (l.filter fun x => decide (x < (n : Int))).length + (l.filter fun x => !decide (x < (n : Int))).length := by
      clear hn h
      induction l with
      | nil => rfl
      | cons x r ih => by_cases hx : x < (n : Int) <;> simp [hx] <;> omega
    have h1 := nodup_len n (l := l.filter fun x => decide (x < (n : Int))) (hn.filter _) (fun x hx => by
      simp only [List.mem_filter, decide_eq_true_eq] at hx
      exact ⟨(h x hx.1).1, hx.2⟩)
    have h2 : (l.filter fun x => !decide (x < (n : Int))).length ≤ 1 := by
      have hnd := hn.filter (fun x => !decide (x < (n : Int)))
      have hall : ∀ x ∈ l.filter (fun x => !decide (x < (n : Int))), x = (n : Int) := fun x hx => by
        have hx := List.mem_filter.1 hx
        have h2 : ¬ x < (n : Int) := by simpa using hx.2
        have := h x hx.1
        omega
      generalize l.filter (fun x => !decide (x < (n : Int))) = k at hnd hall
      match k, hnd, hall with
      | [], _, _ => simp
      | [_], _, _ => simp
      | x :: y :: r, hnd, hall =>
        have hx := hall x (by simp)
        have hy := hall y (by simp)
        have hm := (List.nodup_cons.1 hnd).1
        exact absurd (by rw [hx, hy]; simp) hm
    omega
/-- What holds of a queue. -/
structure Bq (m : Mly) (s : Int) (q : List Pl) : Prop where
  nd : (q.map (·.1)).Nodup
  rng : ∀ p ∈ q, 0 ≤ p.1 ∧ p.1 < (m.next.length : Int)
  pos : 0 < q.length
  head : ix q 0 = (s, [])
  len : ∀ j, 0 ≤ j → j < (q.length : Int) → ((ix q j).2.length : Int) ≤ j
  ne : ∀ j, 0 < j → j < (q.length : Int) → (ix q j).2 ≠ []
theorem Bq.le {m : Mly} {s : Int} {q : List Pl} (h : Bq m s q) : q.length ≤ m.next.length := by
  have := nodup_len m.next.length h.nd (fun x hx => by
    obtain ⟨p, hp, rfl⟩ := List.mem_map.1 hx
    exact h.rng p hp)
  simpa using this
theorem Bq.init {m : Mly} {s : Int} (h : 0 ≤ s ∧ s < (m.next.length : Int)) : Bq m s [(s, [])] := by
  refine ⟨by simp, by simpa using h, by simp, rfl, fun j j0 j1 => ?_, fun j j0 j1 => ?_⟩
  · simp at j1
    rw [show j = 0 by omega]; simp [ix]
  · simp at j1; omega
theorem ixa_app {α : Type} [Inhabited α] {l m : List α} {j : Int} (h0 : 0 ≤ j) (h1 : j < l.length) : ix (l ++ m) j = ix l j := by
  unfold ix
  rw [List.getD_eq_getElem?_getD, List.getD_eq_getElem?_getD, List.getElem?_append_left (by omega)]
theorem ixa_last {α : Type} [Inhabited α] {l : List α} {x : α} : ix (l ++ [x]) (l.length : Int) = x := by
  unfold ix
  rw [List.getD_eq_getElem?_getD, Int.toNat_natCast, List.getElem?_append_right (Nat.le_refl _)]; simp
/-- A state is there. -/
def hasS (q : List Pl) (t : Int) : Bool := q.any fun x => x.1 == t
theorem hasS_iff {q : List Pl} {t : Int} : hasS q t = true ↔ t ∈ q.map (·.1) := by
  simp [hasS]
theorem Bq.add {m : Mly} {s : Int} {q : List Pl} (h : Bq m s q) {t : Int} {w : List Int} (ht : 0 ≤ t ∧ t < (m.next.length : Int)) (hn : hasS q t = false) (hw : w ≠ []) (hl : w.length ≤ q.length) : Bq m s (q ++ [(t, w)]) := by
  have hq := h.pos
  have hn' : t ∉ q.map (·.1) := fun hm => by rw [hasS_iff.2 hm] at hn; simp at hn
  refine ⟨?_, fun p hp => ?_, by simp, by rw [ixa_app (by omega) (by omega)]; exact h.head, fun j j0 j1 => ?_, fun j j0 j1 => ?_⟩
  · rw [List.map_append, List.nodup_append]
    refine ⟨h.nd, by simp, fun a ha b hb => ?_⟩
    simp at hb; subst hb
    exact fun e => hn' (e ▸ ha)
  · rcases List.mem_append.1 hp with hp | hp
    · exact h.rng p hp
    · simp at hp; subst hp; exact ht
  · by_cases hj : j < (q.length : Int)
    · rw [ixa_app j0 hj]; exact h.len j j0 hj
    · simp at j1
      rw [show j = (q.length : Int) by omega, ixa_last]
      simp; omega
  · by_cases hj : j < (q.length : Int)
    · rw [ixa_app (by omega) hj]; exact h.ne j j0 hj
    · simp at j1
      rw [show j = (q.length : Int) by omega, ixa_last]
      exact hw
theorem bstep_has {m : Mly} {p : Pl} {q : List Pl} {a : Int} (h : hasS q (ix (ix m.next p.1) a) = true) : bstep m p q a = q := if_pos h
theorem bstep_new {m : Mly} {p : Pl} {q : List Pl} {a : Int} (h : hasS q (ix (ix m.next p.1) a) = false) : bstep m p q a = q ++ [(ix (ix m.next p.1) a, p.2 ++ [a])] := if_neg (by unfold hasS at h; simp [h])
theorem Bq.step {m : Mly} (hm : m.Ok) {s : Int} {q : List Pl} (h : Bq m s q) {p : Pl} (hp : 0 ≤ p.1 ∧ p.1 < (m.next.length : Int)) (hl : p.2.length < q.length) {a : Int} (a0 : 0 ≤ a) (a1 : a < m.inputs) : Bq m s (bstep m p q a) := by
  have ht := hm.nx p.1 a hp.1 hp.2 a0 a1
  cases hh : hasS q (ix (ix m.next p.1) a) with
  | true => rw [bstep_has hh]; exact h
  | false => rw [bstep_new hh]; exact h.add ht hh (by simp) (by simp; omega)
theorem bstep_pre {m : Mly} {p : Pl} {q : List Pl} {a : Int} : ∃ l, bstep m p q a = q ++ l := by
  unfold bstep
  split
  · exact ⟨[], by simp⟩
  · exact ⟨_, rfl⟩
theorem bfs_end {m : Mly} {f : Nat} {i : Int} {q : List Pl} (h : ¬ i < (q.length : Int)) : bfs m f i q = q := by
  cases f with
  | zero => rfl
  | succ f => unfold bfs; rw [if_neg h]
theorem bfs_go {m : Mly} {f : Nat} {i : Int} {q : List Pl} (h : i < (q.length : Int)) : bfs m (f + 1) i q = bfs m f (i + 1) (brow m (ix q i) q m.inputs) := by
  conv => lhs; unfold bfs
  rw [if_pos h]
end Ab
