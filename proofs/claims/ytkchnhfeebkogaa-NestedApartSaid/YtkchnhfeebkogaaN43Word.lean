/- Well-matched words, taken apart. Condition: none. -/
import Derived.Test.YtkchnhfeebkogaaN43Pairs
set_option linter.all false
set_option maxRecDepth 100000
set_option maxHeartbeats 4000000
namespace Ab
inductive Wd (M : Mch) : Int → Int → List Int → Prop
  | nil (s : Int) : Wd M s s []
  | inn (s i t : Int) (w : List Int) : 0 ≤ i → i < M.inns → Wd M (M.inner s i) t w → Wd M s t ((M.calls + i) :: w)
  | call (s c p r t : Int) (u v : List Int) : 0 ≤ c → c < M.calls → 0 ≤ r → r < M.rets → Wd M (M.call s c).1 p u → Wd M (M.pop p (M.call s c).2 r) t v → Wd M s t (c :: (u ++ (M.calls + M.inns + r) :: v))
theorem Wd.app {M : Mch} {a b c : Int} {u v : List Int} (h : Wd M a b u) (k : Wd M b c v) : Wd M a c (u ++ v) := by
  induction h with
  | nil s => exact k
  | inn s i t w h0 h1 _ ih => exact .inn s i c _ h0 h1 (ih k)
  | call s x p r t u v h0 h1 h2 h3 h4 _ _ ih =>
    have := Wd.call s x p r c u _ h0 h1 h2 h3 h4 (ih k)
    simpa using this
theorem Wd.conn {M : Mch} {a b : Int} {u : List Int} (h : Wd M a b u) : Conn M a b := by
  induction h with
  | nil s => exact .refl s
  | inn s i t w h0 h1 _ ih => exact .inn s i t h0 h1 ih
  | call s x p r t u v h0 h1 h2 h3 _ _ ih1 ih2 => exact .call s x p r t h0 h1 h2 h3 ih1 ih2
theorem Conn.wd {M : Mch} {a b : Int} (h : Conn M a b) : ∃ u, Wd M a b u := by
  induction h with
  | refl s => exact ⟨[], .nil s⟩
  | inn s i t h0 h1 _ ih => obtain ⟨u, hu⟩ := ih; exact ⟨_, .inn s i t u h0 h1 hu⟩
  | call s x p r t h0 h1 h2 h3 _ _ ih1 ih2 =>
    obtain ⟨u, hu⟩ := ih1
    obtain ⟨v, hv⟩ := ih2
    exact ⟨_, .call s x p r t u v h0 h1 h2 h3 hu hv⟩
def Mch.step (M : Mch) (p : Int × List Int) (x : Int) : Int × List Int :=
  if x < M.calls then ((M.call p.1 x).1, (M.call p.1 x).2 :: p.2)
  else if x < M.calls + M.inns then (M.inner p.1 (x - M.calls), p.2)
  else (M.pop p.1 (hd p.2) (x - M.calls - M.inns), p.2.tail)
def mt (a b : Int) : Nat → List Int → Bool
  | d, [] => d == 0
  | d, x :: w => if x < a then mt a b (d + 1) w else if x < a + b then mt a b d w else match d with
    | 0 => false
    | d + 1 => mt a b d w
inductive Fr (M : Mch) (s : Int) : List Int → List Int → Int → Prop
  | base (w : List Int) (q : Int) : Wd M s q w → Fr M s w [] q
  | open_ (w : List Int) (st : List Int) (p c q : Int) (v : List Int) : Fr M s w st p → 0 ≤ c → c < M.calls → Wd M (M.call p c).1 q v → Fr M s (w ++ c :: v) ((M.call p c).2 :: st) q
theorem Fr.ext {M : Mch} {s q q' : Int} {w st v : List Int} (h : Fr M s w st q) (k : Wd M q q' v) : Fr M s (w ++ v) st q' := by
  cases h with
  | base _ _ h => exact .base _ _ (h.app k)
  | open_ w st p c _ u h c0 c1 hu =>
    have := Fr.open_ w st p c q' _ h c0 c1 (hu.app k)
    simpa using this
theorem Fr.run {M : Mch} {s : Int} {n : Int} (hn : n = M.calls + M.inns + M.rets) : ∀ {u w st : List Int} {q : Int}, Fr M s w st q → (∀ x ∈ u, 0 ≤ x ∧ x < n) → mt M.calls M.inns st.length u = true → Wd M s (u.foldl M.step (q, st)).1 (w ++ u) ∧ (u.foldl M.step (q, st)).2 = []
  | [], w, st, q, h, _, hm => by
    have hst : st = [] := by simpa [mt] using hm
    subst hst
    cases h with
    | base _ _ h => exact ⟨by simpa using h, rfl⟩
  | x :: u, w, st, q, h, hx, hm => by
    have x0 := hx x (by simp)
    have hx' : ∀ y ∈ u, 0 ≤ y ∧ y < n := fun y hy => hx y (by simp [hy])
    simp only [mt] at hm
    simp only [List.foldl_cons, Mch.step]
    by_cases c1 : x < M.calls
    · rw [if_pos c1] at hm ⊢
      have := Fr.run hn (Fr.open_ w st q x _ [] h x0.1 c1 (.nil _)) hx' hm
      simpa using this
    · rw [if_neg c1] at hm ⊢
      by_cases c2 : x < M.calls + M.inns
      · rw [if_pos c2] at hm ⊢
        have k := Wd.inn (M := M) q (x - M.calls) _ [] (by omega) (by omega) (.nil _)
        rw [show M.calls + (x - M.calls) = x by omega] at k
        have := Fr.run hn (h.ext k) hx' hm
        simpa using this
      · rw [if_neg c2] at hm ⊢
        cases h with
        | base _ _ h => simp at hm
        | open_ w st p c _ v h c0 c1 hv =>
          simp only [List.length_cons] at hm
          have k := Wd.call (M := M) p c q (x - M.calls - M.inns) _ v [] c0 c1 (by omega) (by omega) hv (.nil _)
          rw [show M.calls + M.inns + (x - M.calls - M.inns) = x by omega] at k
          have := Fr.run hn (h.ext k) hx' hm
          simpa [hd] using this
theorem Wd.run {M : Mch} (hM : 0 ≤ M.calls ∧ 0 ≤ M.inns ∧ 0 ≤ M.rets) {s t : Int} {w : List Int} (h : Wd M s t w) : (∀ x ∈ w, 0 ≤ x ∧ x < M.calls + M.inns + M.rets) ∧ (∀ d rest, mt M.calls M.inns d (w ++ rest) = mt M.calls M.inns d rest) ∧ ∀ st rest, (w ++ rest).foldl M.step (s, st) = rest.foldl M.step (t, st) := by
  induction h with
  | nil s => exact ⟨by simp, fun _ _ => rfl, fun _ _ => rfl⟩
  | inn s i t w h0 h1 _ ih =>
    obtain ⟨a, b, c⟩ := ih
    refine ⟨fun x hx => ?_, fun d rest => ?_, fun st rest => ?_⟩
    · rcases List.mem_cons.1 hx with rfl | hx
      · omega
      · exact a x hx
    · simp only [List.cons_append, mt]
      rw [if_neg (by omega), if_pos (by omega), b]
    · simp only [List.cons_append, List.foldl_cons, Mch.step]
      rw [if_neg (by omega), if_pos (by omega), show M.calls + i - M.calls = i by omega, c]
  | call s x p r t u v h0 h1 h2 h3 _ _ ih1 ih2 =>
    obtain ⟨a, b, c⟩ := ih1
    obtain ⟨a', b', c'⟩ := ih2
    refine ⟨fun y hy => ?_, fun d rest => ?_, fun st rest => ?_⟩
    · simp only [List.mem_cons, List.mem_append] at hy
      rcases hy with rfl | hy | rfl | hy
      · omega
      · exact a y hy
      · omega
      · exact a' y hy
    · simp only [List.cons_append, List.append_assoc, mt]
      rw [if_pos h1, b]
      simp only [mt]
      rw [if_neg (by omega), if_neg (by omega), b']
    · simp only [List.cons_append, List.append_assoc, List.foldl_cons, Mch.step]
      rw [if_pos h1, c]
      simp only [List.foldl_cons, Mch.step]
      rw [if_neg (by omega), if_neg (by omega), show M.calls + M.inns + r - M.calls - M.inns = r by omega]
      exact c' st rest
theorem zU50 {M : Mch} (hM : 0 ≤ M.calls ∧ 0 ≤ M.inns ∧ 0 ≤ M.rets) {s t : Int} {w : List Int} : Wd M s t w ↔ (∀ x ∈ w, 0 ≤ x ∧ x < M.calls + M.inns + M.rets) ∧ mt M.calls M.inns 0 w = true ∧ (w.foldl M.step (s, [])).1 = t := by
  constructor
  · intro h
    obtain ⟨a, b, c⟩ := h.run hM
    refine ⟨a, ?_, ?_⟩
    · have := b 0 []
      simpa [mt] using this
    · have := c [] []
      simp at this
      rw [this]
  · rintro ⟨a, b, rfl⟩
    have := Fr.run (M := M) rfl (u := w) (.base [] s (.nil s)) a b
    simpa using this.1
theorem zOBH {n : Nst} : ∀ {w : List Int} {d : Nat} {mx mn : Int}, mn ≤ 0 → (mt n.calls n.inns d w = true ∧ mn = 0 ↔ (w.foldl n.lev3 ((d : Int), mx, mn)).2.2 = 0 ∧ (w.foldl n.lev3 ((d : Int), mx, mn)).1 = 0)
  | [], d, mx, mn, h => by
    simp [mt]
    omega
  | x :: w, d, mx, mn, h => by
    simp only [mt, List.foldl_cons, Nst.lev3, Nst.lev]
    by_cases c1 : x < n.calls
    · rw [if_pos c1, if_pos c1, show min mn ((d : Int) + 1) = mn by omega]
      have := zOBH (n := n) (w := w) (d := d + 1) (mx := max mx ((d : Int) + 1)) h
      rw [show (((d + 1 : Nat)) : Int) = (d : Int) + 1 by omega] at this
      exact this
    · rw [if_neg c1, if_neg c1]
      by_cases c2 : x < n.calls + n.inns
      · rw [if_pos c2, if_neg (by omega), show min mn (d : Int) = mn by omega]
        exact zOBH (w := w) (d := d) h
      · rw [if_neg c2, if_pos (by omega)]
        cases d with
        | succ d =>
          rw [show ((d + 1 : Nat) : Int) - 1 = (d : Int) by omega, show min mn (d : Int) = mn by omega]
          exact zOBH (w := w) (d := d) h
        | zero =>
          simp only [Bool.false_eq_true, false_and, false_iff, not_and]
          intro hz
          have : ∀ (w : List Int) (p : Int × Int × Int), (w.foldl n.lev3 p).2.2 ≤ p.2.2 := by
            intro w
            induction w with
            | nil => intro p; exact Int.le_refl _
            | cons y w ih =>
              intro p
              have := ih (n.lev3 p y)
              simp only [List.foldl_cons]
              simp only [Nst.lev3] at this ⊢
              omega
          have := this w (((0 : Nat) : Int) - 1, max mx (((0 : Nat) : Int) - 1), min mn (((0 : Nat) : Int) - 1))
          simp only at this
          omega
theorem zLmk {n : Nst} {w : List Int} : n.mat w = mt n.calls n.inns 0 w := by
  rw [Bool.eq_iff_iff]
  have := zOBH (n := n) (w := w) (d := 0) (mx := 0) (mn := 0) (Int.le_refl 0)
  simp only [and_true] at this
  rw [this]
  simp only [Nst.mat, Nst.levs, Bool.and_eq_true]
  exact ⟨fun h => ⟨of_decide_eq_true h.1, of_decide_eq_true h.2⟩, fun h => ⟨decide_eq_true h.1, decide_eq_true h.2⟩⟩
theorem zGlo {n : Nst} (hn : n.Ok) {s t : Int} {w : List Int} : Wd n.mch s t w ↔ (∀ x ∈ w, 0 ≤ x ∧ x < n.calls + n.inns + n.rets) ∧ n.mat w = true ∧ (n.run s w).1 = t := by
  have h1 := hn.calls; have h2 := hn.inns; have h3 := hn.rets
  rw [zU50 (M := n.mch) ⟨h1.1, h2.1, h3.1⟩, zLmk]
  rfl
end Ab
