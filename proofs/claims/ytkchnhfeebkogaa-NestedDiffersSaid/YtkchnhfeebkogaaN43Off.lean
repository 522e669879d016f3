/- First words by lengths: one level of the program's search. The search begins and ends; the first word to good states. The automaton of pairs of states. The search in memory. A word is offered: nested's best. Condition: none. -/
import Derived.Test.YtkchnhfeebkogaaN43Lv
set_option linter.all false
set_option maxRecDepth 100000
set_option maxHeartbeats 2000000
namespace Ab
structure Lvl (M : Mch) (n : Nat) (S C : Bs) : Prop where
  s : Bst M (Stp M) n S
  c : Bst M (Wd M) n C
  oi : ∀ s i, inS M s → 0 ≤ i → i < M.inns → Ofd S s (M.inner s i) [M.calls + i]
  oc : ∀ s c q u r, inS M s → 0 ≤ c → c < M.calls → inS M q → 0 ≤ r → r < M.rets → C.D (M.call s c).1 q = true → C.W (M.call s c).1 q = some u → Ofd S s (M.pop q (M.call s c).2 r) (c :: (u ++ [M.calls + M.inns + r]))
  oe : ∀ s, inS M s → Ofd C s s []
  oj : ∀ s p t a b, inS M s → inS M p → inS M t → S.D s p = true → C.D p t = true → S.W s p = some a → C.W p t = some b → Ofd C s t (a ++ b)
section
variable {M : Mch} {n : Nat} {S C : Bs}
theorem zZ3e (hM : M.Sm) : ∀ s t w, Stp M s t w → sy w := fun _ _ _ h => h.wd.sy hM
theorem wd_sy (hM : M.Sm) : ∀ s t w, Wd M s t w → sy w := fun _ _ _ h => h.sy hM
theorem Bst.fin {P : Int → Int → List Int → Prop} {b : Bs} (h : Bst M P n b) {s t : Int} {w : List Int} (hs : inS M s) (ht : inS M t) (hf : fstO (P s t) = some w) (hl : w.length < n) : b.D s t = true ∧ b.W s t = some w := by
  have := (h.dn s t hs ht).2 ⟨w, hf, hl⟩
  exact ⟨this, by rw [h.wd s t hs ht this, hf]⟩
theorem Stp.range (hM : M.Ok) {s t : Int} {w : List Int} (h : Stp M s t w) (hs : inS M s) : inS M t := h.wd.range hM hs
theorem Lvl.cplS (hM : M.Sm) (h : Lvl M n S C) : ∀ s t a, inS M s → inS M t → M.sk s t = some a → a.length = n → S.W s t = some a := by
  intro s t a hs ht ha hl
  have hf := (zWgz hM).1 ha
  have hst := hf.1.1
  have hit : ∀ x, Ofd S s t x → rkW x ≤ rkW a → S.W s t = some a := fun x k hr => k.hit (zZ3e hM) h.s hs ht ha (by omega) hr
  cases hst with
  | inn i h0 h1 => exact hit _ (h.oi s i hs h0 h1) (Nat.le_refl _)
  | call c p r u c0 c1 r0 r1 hu =>
    have hc := hM.ok.call s c hs.1 hs.2 c0 c1
    have hp : inS M p := hu.range hM.ok hc
    simp at hl
    have hl2 := hf.1.2
    simp at hl2
    obtain ⟨v, hv, hr, hvl⟩ := lk_le hM hu (by omega)
    obtain ⟨d1, d2⟩ := h.c.fin hc hp hv (by omega)
    refine hit _ (h.oc s c p v r hs c0 c1 hp r0 r1 d1 d2) (zwrz ?_ (zbv9 ?_ hr (Nat.le_refl _)))
    · have := hf.1.1.wd.sy hM
      exact (z62S.1 this).2
    · have := (z62S.1 (hf.1.1.wd.sy hM)).2
      exact (z0tu.1 this).2
theorem cplC (hM : M.Sm) (hS : Bst M (Stp M) (n + 1) S) (hC : Bst M (Wd M) n C) (oe : ∀ s, inS M s → Ofd C s s []) (oj : ∀ s p t a b, inS M s → inS M p → inS M t → S.D s p = true → C.D p t = true → S.W s p = some a → C.W p t = some b → Ofd C s t (a ++ b)) : ∀ s t a, inS M s → inS M t → M.lk s t = some a → a.length = n → C.W s t = some a := by
  intro s t a hs ht ha hl
  have hf := (zvJ0 hM).1 ha
  rcases zFCa hf.1.1 with ⟨rfl, rfl⟩ | ⟨p, u, v, rfl, h1, h2⟩
  · exact (oe s hs).hit (wd_sy hM) hC hs hs ha (by omega) (Nat.le_refl _)
  · have hp := h1.range hM.ok hs
    have hpos := h1.pos
    have hl2 := hf.1.2
    rw [List.length_append] at hl hl2
    obtain ⟨x, hx, hr1, hx1⟩ := sk_le hM h1 (by omega)
    obtain ⟨y, hy, hr2, hy1⟩ := lk_le hM h2 (by omega)
    obtain ⟨d1, d2⟩ := hS.fin hs hp hx (by omega)
    obtain ⟨d3, d4⟩ := hC.fin hp ht hy (by omega)
    exact (oj s p t x y hs hp ht d1 d3 d2 d4).hit (wd_sy hM) hC hs ht ha (by rw [List.length_append]; omega) (zbv9 (h2.sy hM) hr1 hr2)
theorem Bst.doneW {P : Int → Int → List Int → Prop} {b : Bs} (h : Bst M P n b) {s t : Int} (hs : inS M s) (ht : inS M t) (hd : b.D s t = true) : ∃ w, b.W s t = some w ∧ fstO (P s t) = some w ∧ w.length < n := by
  obtain ⟨w, h1, h2⟩ := (h.dn s t hs ht).1 hd
  exact ⟨w, by rw [h.wd s t hs ht hd, h1], h1, h2⟩
theorem Bst.keep {P : Int → Int → List Int → Prop} {b c : Bs} (h : Bst M P n b) (k : Bst M P n c) {s t : Int} (hs : inS M s) (ht : inS M t) : b.D s t = c.D s t ∧ (b.D s t = true → b.W s t = c.W s t) := by
  have e : b.D s t = c.D s t := by rw [Bool.eq_iff_iff, h.dn s t hs ht, k.dn s t hs ht]
  exact ⟨e, fun hd => by rw [h.wd s t hs ht hd, k.wd s t hs ht (by rw [← e]; exact hd)]⟩
structure LvA (M : Mch) (n : Nat) (S C : Bs) (C' : Bs) (out : List PR) (i : Nat) (t : Int) : Prop where
  c : Bst M (Wd M) n C'
  l : Bsl M C C'
  o : ∀ (j : Nat) (v : Int) (a b : List Int), (j < i ∨ j = i ∧ v < t) → j < out.length → inS M v → C.D (ix out (j : Int)).2 v = true → S.W (ix out (j : Int)).1 (ix out (j : Int)).2 = some a → C.W (ix out (j : Int)).2 v = some b → Ofd C' (ix out (j : Int)).1 v (a ++ b)
variable {C' : Bs} {out : List PR}
theorem LvA.init (h : Bst M (Wd M) n C) : LvA M n S C C out 0 0 := ⟨h, .refl _, fun j v a b hj hl hv => by
  rcases hj with hj | ⟨_, hj⟩
  · omega
  · have := hv.1; omega⟩
theorem LvA.row {i : Nat} (h : LvA M n S C C' out i (M.size : Int)) : LvA M n S C C' out (i + 1) 0 := ⟨h.c, h.l, fun j v a b hj hl hv => h.o j v a b (by
  have := hv.1
  have := hv.2
  rcases hj with hj | ⟨_, hj⟩
  · by_cases e : j = i
    · exact .inr ⟨e, by omega⟩
    · exact .inl (by omega)
  · omega) hl hv⟩
theorem LvA.skip {i : Nat} {t : Int} (h : LvA M n S C C' out i t) (hd : C.D (ix out (i : Int)).2 t = false) : LvA M n S C C' out i (t + 1) := ⟨h.c, h.l, fun j v a b hj hl hv k1 => by
  rcases hj with hj | ⟨rfl, hj⟩
  · exact h.o j v a b (.inl hj) hl hv k1
  · by_cases e : v = t
    · subst e; rw [hd] at k1; simp at k1
    · exact h.o j v a b (.inr ⟨rfl, by omega⟩) hl hv k1⟩
theorem LvA.step (hM : M.Sm) {i : Nat} {t : Int} (h : LvA M n S C C' out i t) (hi : i < out.length) (h1 : inS M (ix out (i : Int)).1) (h2 : inS M (ix out (i : Int)).2) (ht : inS M t) {a b : List Int} (ha : S.W (ix out (i : Int)).1 (ix out (i : Int)).2 = some a) (hS : Stp M (ix out (i : Int)).1 (ix out (i : Int)).2 a) (hn : n ≤ a.length) (hb : C.W (ix out (i : Int)).2 t = some b) (hC : Wd M (ix out (i : Int)).2 t b) : LvA M n S C (C'.off (ix out (i : Int)).1 t (a ++ b)) out i (t + 1) := by
  obtain ⟨k1, k2, k3⟩ := h.c.off (wd_sy hM) h1 ht (hS.then hC) (by rw [List.length_append]; omega)
  refine ⟨k1, h.l.trans k2, fun j v x y hj hl hv d1 d2 d3 => ?_⟩
  by_cases e : j = i ∧ v = t
  · obtain ⟨rfl, rfl⟩ := e
    rw [ha] at d2
    rw [hb] at d3
    injection d2 with d2
    injection d3 with d3
    rw [← d2, ← d3]; exact k3
  · have hP := h.o j v x y (by
      rcases hj with hj | ⟨e1, hj⟩
      · exact .inl hj
      · exact .inr ⟨e1, by
          by_cases e2 : v = t
          · exact absurd ⟨e1, e2⟩ e
          · omega⟩) hl hv d1 d2 d3
    rcases hP with hP | hP | ⟨w, w1, w2⟩
    · exact .inl hP
    · exact .inr (.inl (k2.D _ _ hP))
    · by_cases hin : inS M (ix out (j : Int)).1
      · obtain ⟨u, u1, u2⟩ := k2.W _ _ _ hin hv w1
        exact .inr (.inr ⟨u, u1, by omega⟩)
      · exact .inr (.inr ⟨w, by
          unfold Bs.off
          split
          · exact w1
          · have hne : ¬ ((ix out (j : Int)).1 = (ix out (i : Int)).1 ∧ v = t) := fun e3 => hin (by rw [e3.1]; exact h1)
            split
            · dsimp only [updW]; rw [if_neg hne]; exact w1
            · split
              · exact w1
              · split
                · exact w1
                · dsimp only [updW]; rw [if_neg hne]; exact w1, w2⟩)
theorem LvA.fin (hM : M.Sm) {S0 : Bs} (h : Lvl M n S0 C) (hS : Bst M (Stp M) (n + 1) (S0.tk n).2) (ho : ∀ s t, (s, t) ∈ (S0.tk n).1 ↔ (inS M s ∧ inS M t) ∧ ∃ a, M.sk s t = some a ∧ a.length = n ∧ S0.W s t = some a) (k : LvA M n (S0.tk n).2 C C' (S0.tk n).1 (S0.tk n).1.length 0) : ∀ s p t a b, inS M s → inS M p → inS M t → (S0.tk n).2.D s p = true → C'.D p t = true → (S0.tk n).2.W s p = some a → C'.W p t = some b → Ofd C' s t (a ++ b) := by
  intro s p t a b hs hp ht d1 d2 w1 w2
  obtain ⟨e1, e2⟩ := h.c.keep k.c hp ht
  rw [← e1] at d2
  rw [← e2 d2] at w2
  by_cases d3 : S0.D s p = true
  · exact (h.oj s p t a b hs hp ht d3 d2 w1 w2).mono k.l hs ht
  · obtain ⟨x, x1, x2, x3⟩ := hS.doneW hs hp d1
    have hm : (s, p) ∈ (S0.tk n).1 := by
      refine (ho s p).2 ⟨⟨hs, hp⟩, x, x2, ?_, x1⟩
      refine Classical.byContradiction fun hne => d3 ?_
      exact (h.s.fin hs hp x2 (by omega)).1
    obtain ⟨j, hj, e⟩ := List.mem_iff_getElem.1 hm
    have e' : ix (S0.tk n).1 (j : Int) = (s, p) := by rw [zrZW hj, e]
    have := k.o j t a b (.inl hj) hj ht
    rw [e'] at this
    exact this d2 w1 w2
abbrev CR := Int × Int × Int
def AOk (M : Mch) (A : Int → List CR) : Prop := ∀ p, inS M p → ∀ s c g, (s, c, g) ∈ A p ↔ (inS M s ∧ (0 ≤ c ∧ c < M.calls)) ∧ M.call s c = (p, g)
structure LvB (M : Mch) (n : Nat) (A : Int → List CR) (S C S' C' : Bs) (out : List PR) (i : Nat) (t : Int) (k : Nat) (r : Int) : Prop where
  s : Bst M (Stp M) (n + 1) S'
  c : Bst M (Wd M) (n + 1) C'
  ls : Bsl M S S'
  lc : Bsl M C C'
  o1 : ∀ (j : Nat) (s : Int) (a b : List Int), (j < i ∨ j = i ∧ s < t) → j < out.length → inS M s → S.D s (ix out (j : Int)).1 = true → S.W s (ix out (j : Int)).1 = some a → C.W (ix out (j : Int)).1 (ix out (j : Int)).2 = some b → Ofd C' s (ix out (j : Int)).2 (a ++ b)
  o2 : ∀ (j l : Nat) (x : Int) (b : List Int), (j < i ∨ j = i ∧ (l < k ∨ l = k ∧ x < r)) → j < out.length → l < (A (ix out (j : Int)).1).length → (0 ≤ x ∧ x < M.rets) → C.W (ix out (j : Int)).1 (ix out (j : Int)).2 = some b → Ofd S' (ix (A (ix out (j : Int)).1) (l : Int)).1 (M.pop (ix out (j : Int)).2 (ix (A (ix out (j : Int)).1) (l : Int)).2.2 x) ((ix (A (ix out (j : Int)).1) (l : Int)).2.1 :: (b ++ [M.calls + M.inns + x]))
variable {A : Int → List CR} {S' : Bs}
theorem Ofd.off {P : Int → Int → List Int → Prop} {b : Bs} {s t u v : Int} {x y : List Int} (hs : inS M s) (ht : inS M t) (k : Bsl M b (b.off s t x)) (h : Ofd b u v y) : Ofd (b.off s t x) u v y := by
  rcases h with h | h | ⟨w, w1, w2⟩
  · exact .inl h
  · exact .inr (.inl (k.D _ _ h))
  · by_cases hin : inS M u ∧ inS M v
    · obtain ⟨z, u1, u2⟩ := k.W _ _ _ hin.1 hin.2 w1
      exact .inr (.inr ⟨z, u1, by omega⟩)
    · have hne : ¬ (u = s ∧ v = t) := fun e3 => hin (by rw [e3.1, e3.2]; exact ⟨hs, ht⟩)
      exact .inr (.inr ⟨w, by
        unfold Bs.off
        split
        · exact w1
        · split
          · dsimp only [updW]; rw [if_neg hne]; exact w1
          · split
            · exact w1
            · split
              · exact w1
              · dsimp only [updW]; rw [if_neg hne]; exact w1, w2⟩)
theorem LvB.init (hS : Bst M (Stp M) (n + 1) S) (hC : Bst M (Wd M) (n + 1) C) : LvB M n A S C S C out 0 0 0 0 := ⟨hS, hC, .refl _, .refl _, fun j s a b hj hl hs => by
  rcases hj with hj | ⟨_, hj⟩
  · omega
  · have := hs.1; omega, fun j l x b hj hl h2 hx => by
  rcases hj with hj | ⟨_, hj | ⟨_, hj⟩⟩ <;> omega⟩
theorem LvB.skipS {i : Nat} {t : Int} (h : LvB M n A S C S' C' out i t 0 0) (hd : S.D t (ix out (i : Int)).1 = false) : LvB M n A S C S' C' out i (t + 1) 0 0 := ⟨h.s, h.c, h.ls, h.lc, fun j s a b hj hl hs k1 => by
  rcases hj with hj | ⟨rfl, hj⟩
  · exact h.o1 j s a b (.inl hj) hl hs k1
  · by_cases e : s = t
    · subst e; rw [hd] at k1; simp at k1
    · exact h.o1 j s a b (.inr ⟨rfl, by omega⟩) hl hs k1, h.o2⟩
theorem LvB.stepS (hM : M.Sm) {i : Nat} {t : Int} (h : LvB M n A S C S' C' out i t 0 0) (hi : i < out.length) (h1 : inS M (ix out (i : Int)).1) (h2 : inS M (ix out (i : Int)).2) (ht : inS M t) {a b : List Int} (ha : S.W t (ix out (i : Int)).1 = some a) (hS : Stp M t (ix out (i : Int)).1 a) (hb : C.W (ix out (i : Int)).1 (ix out (i : Int)).2 = some b) (hC : Wd M (ix out (i : Int)).1 (ix out (i : Int)).2 b) (hn : n ≤ b.length) : LvB M n A S C S' (C'.off t (ix out (i : Int)).2 (a ++ b)) out i (t + 1) 0 0 := by
  have hpos := hS.pos
  obtain ⟨k1, k2, k3⟩ := h.c.off (wd_sy hM) ht h2 (hS.then hC) (by rw [List.length_append]; omega)
  refine ⟨h.s, k1, h.ls, h.lc.trans k2, fun j v x y hj hl hv d1 d2 d3 => ?_, h.o2⟩
  by_cases e : j = i ∧ v = t
  · obtain ⟨rfl, rfl⟩ := e
    rw [ha] at d2
    rw [hb] at d3
    injection d2 with d2
    injection d3 with d3
    rw [← d2, ← d3]; exact k3
  · refine Ofd.off (P := Wd M) ht h2 k2 (h.o1 j v x y ?_ hl hv d1 d2 d3)
    rcases hj with hj | ⟨e1, hj⟩
    · exact .inl hj
    · exact .inr ⟨e1, by
        by_cases e2 : v = t
        · exact absurd ⟨e1, e2⟩ e
        · omega⟩
theorem LvB.stepR (hM : M.Sm) {i k : Nat} {r : Int} (h : LvB M n A S C S' C' out i (M.size : Int) k r) (hA : AOk M A) (hi : i < out.length) (h1 : inS M (ix out (i : Int)).1) (h2 : inS M (ix out (i : Int)).2) (hk : k < (A (ix out (i : Int)).1).length) (hr : 0 ≤ r ∧ r < M.rets) {b : List Int} (hb : C.W (ix out (i : Int)).1 (ix out (i : Int)).2 = some b) (hC : Wd M (ix out (i : Int)).1 (ix out (i : Int)).2 b) (hn : n ≤ b.length) : LvB M n A S C (S'.off (ix (A (ix out (i : Int)).1) (k : Int)).1 (M.pop (ix out (i : Int)).2 (ix (A (ix out (i : Int)).1) (k : Int)).2.2 r) ((ix (A (ix out (i : Int)).1) (k : Int)).2.1 :: (b ++ [M.calls + M.inns + r]))) C' out i (M.size : Int) k (r + 1) := by
  have hm := zmAQ (l := A (ix out (i : Int)).1) (n := (k : Int)) (by omega) (by omega)
  have hq := (hA _ h1 (ix (A (ix out (i : Int)).1) (k : Int)).1 (ix (A (ix out (i : Int)).1) (k : Int)).2.1 (ix (A (ix out (i : Int)).1) (k : Int)).2.2).1 hm
  obtain ⟨⟨q1, q2, q3⟩, q4⟩ := hq
  have hw := Stp.call (M := M) (ix (A (ix out (i : Int)).1) (k : Int)).1 (ix (A (ix out (i : Int)).1) (k : Int)).2.1 (ix out (i : Int)).2 r b q2 q3 hr.1 hr.2 (by rw [q4]; exact hC)
  rw [q4] at hw
  dsimp only at hw
  have hin : inS M (M.pop (ix out (i : Int)).2 (ix (A (ix out (i : Int)).1) (k : Int)).2.2 r) := hw.range hM.ok q1
  obtain ⟨k1, k2, k3⟩ := h.s.off (zZ3e hM) q1 hin hw (by simp; omega)
  refine ⟨k1, h.c, h.ls.trans k2, h.lc, h.o1, fun j l x y hj hl hl2 hx d => ?_⟩
  by_cases e : j = i ∧ l = k ∧ x = r
  · obtain ⟨rfl, rfl, rfl⟩ := e
    rw [hb] at d
    injection d with d
    rw [← d]; exact k3
  · refine Ofd.off (P := Stp M) q1 hin k2 (h.o2 j l x y ?_ hl hl2 hx d)
    rcases hj with hj | ⟨e1, hj | ⟨e2, hj⟩⟩
    · exact .inl hj
    · exact .inr ⟨e1, .inl hj⟩
    · exact .inr ⟨e1, .inr ⟨e2, by
        by_cases e3 : x = r
        · exact absurd ⟨e1, e2, e3⟩ e
        · omega⟩⟩
theorem LvB.rowR {i k : Nat} (h : LvB M n A S C S' C' out i (M.size : Int) k M.rets) : LvB M n A S C S' C' out i (M.size : Int) (k + 1) 0 := ⟨h.s, h.c, h.ls, h.lc, h.o1, fun j l x b hj hl hl2 hx => h.o2 j l x b (by
  rcases hj with hj | ⟨e1, hj | ⟨e2, hj⟩⟩
  · exact .inl hj
  · by_cases e : l = k
    · exact .inr ⟨e1, .inr ⟨e, hx.2⟩⟩
    · exact .inr ⟨e1, .inl (by omega)⟩
  · have := hx.1; omega) hl hl2 hx⟩
theorem LvB.next {i : Nat} (h : LvB M n A S C S' C' out i (M.size : Int) (A (ix out (i : Int)).1).length 0) : LvB M n A S C S' C' out (i + 1) 0 0 0 := ⟨h.s, h.c, h.ls, h.lc, fun j s a b hj hl hs => h.o1 j s a b (by
  rcases hj with hj | ⟨_, hj⟩
  · by_cases e : j = i
    · exact .inr ⟨e, hs.2⟩
    · exact .inl (by omega)
  · have := hs.1; omega) hl hs, fun j l x b hj hl hl2 hx => h.o2 j l x b (by
  rcases hj with hj | ⟨e1, hj | ⟨e2, hj⟩⟩
  · by_cases e : j = i
    · subst e; exact .inr ⟨rfl, .inl hl2⟩
    · exact .inl (by omega)
  · omega
  · have := hx.1; omega) hl hl2 hx⟩
theorem LvB.fin (hM : M.Sm) {S0 C0 C1 : Bs} (h : Lvl M n S0 C0) (hA : AOk M A) (hls : Bsl M S0 S) (hl1 : Bsl M C0 C1) (hl2 : Bsl M C1 C) (hC1 : Bst M (Wd M) n C1)
    (oj : ∀ s p t a b, inS M s → inS M p → inS M t → S.D s p = true → C1.D p t = true → S.W s p = some a → C1.W p t = some b → Ofd C1 s t (a ++ b))
    (ho : ∀ s t, (s, t) ∈ out ↔ (inS M s ∧ inS M t) ∧ ∃ a, M.lk s t = some a ∧ a.length = n ∧ C.W s t = some a)
    (hS : Bst M (Stp M) (n + 1) S) (hC : Bst M (Wd M) (n + 1) C) (k : LvB M n A S C S' C' out out.length 0 0 0) : Lvl M (n + 1) S' C' := by
  have find : ∀ p q, inS M p → inS M q → ∀ w, M.lk p q = some w → w.length = n → ∃ j : Nat, j < out.length ∧ ix out (j : Int) = (p, q) ∧ C.W p q = some w := by
    intro p q hp hq w hw hl
    have hf := hC.fin hp hq hw (by omega)
    obtain ⟨j, hj, e⟩ := List.mem_iff_getElem.1 ((ho p q).2 ⟨⟨hp, hq⟩, w, hw, hl, hf.2⟩)
    exact ⟨j, hj, by rw [zrZW hj, e], hf.2⟩
  refine ⟨k.s, k.c, fun s i hs h0 h1 => (h.oi s i hs h0 h1).mono (hls.trans k.ls) hs (hM.ok.inner s i hs.1 hs.2 h0 h1), fun s c q u r hs c0 c1 hq r0 r1 d1 d2 => ?_, fun s hs => (h.oe s hs).mono ((hl1.trans hl2).trans k.lc) hs hs, fun s p t a b hs hp ht d1 d2 w1 w2 => ?_⟩
  · have hc := hM.ok.call s c hs.1 hs.2 c0 c1
    have hp := hM.ok.pop s c q r hs.1 hs.2 c0 c1 hq.1 hq.2 r0 r1
    obtain ⟨w, x1, x2, x3⟩ := k.c.doneW hc hq d1
    rw [d2] at x1
    injection x1 with x1
    subst x1
    by_cases hl : u.length < n
    · obtain ⟨y1, y2⟩ := h.c.fin hc hq x2 hl
      exact (h.oc s c q u r hs c0 c1 hq r0 r1 y1 y2).mono (hls.trans k.ls) hs hp
    · obtain ⟨j, hj, e, hw⟩ := find _ _ hc hq u x2 (by omega)
      have hmem := (hA _ hc s c (M.call s c).2).2 ⟨⟨hs, c0, c1⟩, rfl⟩
      obtain ⟨l, hl, el⟩ := List.mem_iff_getElem.1 hmem
      have el' : ix (A (M.call s c).1) (l : Int) = (s, c, (M.call s c).2) := by rw [zrZW hl, el]
      have := k.o2 j l r u (.inl hj) hj
      rw [e] at this
      dsimp only at this
      rw [el'] at this
      exact this hl ⟨r0, r1⟩ hw
  · obtain ⟨e1, e2⟩ := hS.keep k.s hs hp
    obtain ⟨e3, e4⟩ := hC.keep k.c hp ht
    rw [← e1] at d1
    rw [← e3] at d2
    rw [← e2 d1] at w1
    rw [← e4 d2] at w2
    obtain ⟨w, x1, x2, x3⟩ := hC.doneW hp ht d2
    rw [w2] at x1
    injection x1 with x1
    subst x1
    by_cases hl : b.length < n
    · obtain ⟨y1, y2⟩ := hC1.fin hp ht x2 hl
      exact (oj s p t a b hs hp ht d1 y1 w1 y2).mono (hl2.trans k.lc) hs ht
    · obtain ⟨j, hj, e, hw⟩ := find p t hp ht b x2 (by omega)
      have := k.o1 j s a b (.inl hj) hj hs
      rw [e] at this
      exact this d1 w1 hw
end
end Ab
namespace Ab
def Bs.emp : Bs := ⟨fun _ _ => none, fun _ _ => false, fun _ => []⟩
theorem zWgp {M : Mch} {P : Int → Int → List Int → Prop} : Bst M P 0 Bs.emp := ⟨fun s t w _ _ h => by simp [Bs.emp] at h, fun s t _ _ => by simp [Bs.emp], fun s t _ _ h => by simp [Bs.emp] at h, fun s t w _ _ h => by simp [Bs.emp] at h, fun s t w _ _ h => by simp [Bs.emp] at h, fun s t k h => by simp [Bs.emp] at h, fun k => by simp [Bs.emp]⟩
structure Ini (M : Mch) (S C : Bs) (A : Int → List CR) (s e i c : Int) : Prop where
  bs : Bst M (Stp M) 0 S
  bc : Bst M (Wd M) 0 C
  oe : ∀ u, inS M u → u < e → Ofd C u u []
  oi : ∀ u j, inS M u → 0 ≤ j → j < M.inns → (u < s ∨ u = s ∧ j < i) → Ofd S u (M.inner u j) [M.calls + j]
  a : ∀ p u d g, (u, d, g) ∈ A p ↔ (0 ≤ u ∧ (0 ≤ d ∧ d < M.calls) ∧ (u < s ∨ u = s ∧ d < c)) ∧ M.call u d = (p, g)
section
variable {M : Mch} {S C : Bs} {A : Int → List CR} {s e i c : Int}
theorem Ini.init : Ini M .emp .emp (fun _ => []) 0 0 0 0 := ⟨zWgp, zWgp, fun u hu h => by have := hu.1; omega, fun u j hu _ _ h => by have := hu.1; omega, fun p u d g => by simp; omega⟩
theorem Ini.stepE (hM : M.Sm) (h : Ini M S C A s s i c) (hs : inS M s) : Ini M S (C.off s s []) A s (s + 1) i c := by
  obtain ⟨k1, k2, k3⟩ := h.bc.off (wd_sy hM) hs hs (.nil s) (Nat.zero_le _)
  refine ⟨h.bs, k1, fun u hu hl => ?_, h.oi, h.a⟩
  by_cases e2 : u = s
  · subst e2; exact k3
  · exact (h.oe u hu (by omega)).mono k2 hu hu
theorem Ini.stepI (hM : M.Sm) (h : Ini M S C A s e i c) (hs : inS M s) (i0 : 0 ≤ i) (i1 : i < M.inns) : Ini M (S.off s (M.inner s i) [M.calls + i]) C A s e (i + 1) c := by
  have ht := hM.ok.inner s i hs.1 hs.2 i0 i1
  obtain ⟨k1, k2, k3⟩ := h.bs.off (zZ3e hM) hs ht (.inn s i i0 i1) (Nat.zero_le _)
  refine ⟨k1, h.bc, h.oe, fun u j hu j0 j1 hl => ?_, h.a⟩
  by_cases e2 : u = s ∧ j = i
  · obtain ⟨rfl, rfl⟩ := e2; exact k3
  · refine (h.oi u j hu j0 j1 ?_).mono k2 hu (hM.ok.inner u j hu.1 hu.2 j0 j1)
    rcases hl with hl | ⟨e3, hl⟩
    · exact .inl hl
    · exact .inr ⟨e3, by
        by_cases e4 : j = i
        · exact absurd ⟨e3, e4⟩ e2
        · omega⟩
def updA (A : Int → List CR) (p : Int) (x : CR) : Int → List CR := fun q => if q = p then A q ++ [x] else A q
theorem Ini.stepC (h : Ini M S C A s e i c) (s0 : 0 ≤ s) (c0 : 0 ≤ c) (c1 : c < M.calls) : Ini M S C (updA A (M.call s c).1 (s, c, (M.call s c).2)) s e i (c + 1) := by
  refine ⟨h.bs, h.bc, h.oe, h.oi, fun p u d g => ?_⟩
  unfold updA
  have ha := h.a p u d g
  by_cases hp : p = (M.call s c).1
  · rw [if_pos hp, List.mem_append, ha]
    constructor
    · rintro (⟨⟨a1, a2, a3⟩, a4⟩ | h)
      · refine ⟨⟨a1, a2, ?_⟩, a4⟩
        rcases a3 with a3 | ⟨a3, a5⟩
        · exact .inl a3
        · exact .inr ⟨a3, by omega⟩
      · simp at h
        obtain ⟨rfl, rfl, rfl⟩ := h
        exact ⟨⟨s0, ⟨c0, c1⟩, .inr ⟨rfl, by omega⟩⟩, Prod.ext hp.symm rfl⟩
    · rintro ⟨⟨a1, a2, a3⟩, a4⟩
      by_cases e2 : u = s ∧ d = c
      · obtain ⟨rfl, rfl⟩ := e2
        exact .inr (by simp [a4])
      · refine .inl ⟨⟨a1, a2, ?_⟩, a4⟩
        rcases a3 with a3 | ⟨a3, a5⟩
        · exact .inl a3
        · exact .inr ⟨a3, by
            by_cases e4 : d = c
            · exact absurd ⟨a3, e4⟩ e2
            · omega⟩
  · rw [if_neg hp, ha]
    constructor
    · rintro ⟨⟨a1, a2, a3⟩, a4⟩
      refine ⟨⟨a1, a2, ?_⟩, a4⟩
      rcases a3 with a3 | ⟨a3, a5⟩
      · exact .inl a3
      · exact .inr ⟨a3, by omega⟩
    · rintro ⟨⟨a1, a2, a3⟩, a4⟩
      refine ⟨⟨a1, a2, ?_⟩, a4⟩
      rcases a3 with a3 | ⟨a3, a5⟩
      · exact .inl a3
      · exact .inr ⟨a3, by
          by_cases e4 : d = c
          · subst e4; subst a3; rw [a4] at hp; exact absurd rfl hp
          · omega⟩
theorem Ini.next (h : Ini M S C A s e M.inns M.calls) : Ini M S C A (s + 1) e 0 0 := ⟨h.bs, h.bc, h.oe, fun u j hu j0 j1 hl => h.oi u j hu j0 j1 (by
  rcases hl with hl | ⟨_, hl⟩
  · by_cases e2 : u = s
    · exact .inr ⟨e2, j1⟩
    · exact .inl (by omega)
  · omega), fun p u d g => by
  rw [h.a]
  constructor
  · rintro ⟨⟨a1, a2, a3⟩, a4⟩
    refine ⟨⟨a1, a2, ?_⟩, a4⟩
    rcases a3 with a3 | ⟨a3, a5⟩
    · exact .inl (by omega)
    · exact .inl (by omega)
  · rintro ⟨⟨a1, a2, a3⟩, a4⟩
    refine ⟨⟨a1, a2, ?_⟩, a4⟩
    rcases a3 with a3 | ⟨_, a5⟩
    · by_cases e2 : u = s
      · exact .inr ⟨e2, a2.2⟩
      · exact .inl (by omega)
    · have := a2.1; omega⟩
theorem Ini.fin (hM : M.Sm) (h : Ini M S C A (M.size : Int) (M.size : Int) 0 0) : Lvl M 0 S C ∧ AOk M A := by
  refine ⟨⟨h.bs, h.bc, fun s i hs h0 h1 => h.oi s i hs h0 h1 (.inl hs.2), fun s c q u r hs c0 c1 hq r0 r1 d _ => ?_, fun s hs => h.oe s hs hs.2, fun s p t a b hs hp ht d => ?_⟩, fun p hp s c g => ?_⟩
  · obtain ⟨w, _, h2⟩ := (h.bc.dn _ q (hM.ok.call s c hs.1 hs.2 c0 c1) hq).1 d
    omega
  · obtain ⟨w, _, h2⟩ := (h.bs.dn s p hs hp).1 d
    omega
  · rw [h.a]
    constructor
    · rintro ⟨⟨a1, a2, a3⟩, a4⟩
      refine ⟨⟨⟨a1, ?_⟩, a2⟩, a4⟩
      rcases a3 with a3 | ⟨_, a5⟩
      · exact a3
      · have := a2.1; omega
    · rintro ⟨⟨a1, a2⟩, a4⟩
      exact ⟨⟨a1.1, a2, .inl a1.2⟩, a4⟩
end
def gdW (M : Mch) (s : Int) (g : Int → Bool) (w : List Int) : Prop := ∃ t, inS M t ∧ g t = true ∧ Wd M s t w
noncomputable def Mch.f1 (M : Mch) (s : Int) (g : Int → Bool) : Option (List Int) := fstO (gdW M s g)
section
variable {M : Mch} {s : Int} {g : Int → Bool}
theorem gd_sy (hM : M.Sm) : ∀ w, gdW M s g w → sy w := fun w ⟨_, _, _, h⟩ => h.sy hM
theorem zHpH (hM : M.Sm) (h : ∀ t, inS M t → g t = true → M.lk s t = none) : M.f1 s g = none := by
  cases e : M.f1 s g with
  | none => rfl
  | some w =>
    have hf := zDGF e
    obtain ⟨⟨⟨t, h1, h2, h3⟩, h4⟩, _⟩ := hf
    obtain ⟨v, hv, _⟩ := lk_le hM h3 h4
    rw [h t h1 h2] at hv; simp at hv
theorem zhOI (hM : M.Sm) {w : List Int} {t : Int} (ht : inS M t) (hg : g t = true) (hw : M.lk s t = some w) (h : ∀ u v, inS M u → g u = true → M.lk s u = some v → rkW w ≤ rkW v) : M.f1 s g = some w := by
  have hf := (zvJ0 hM).1 hw
  refine zgy3 (gd_sy hM) ⟨⟨⟨t, ht, hg, hf.1.1⟩, hf.1.2⟩, ?_⟩
  rintro v ⟨u, h1, h2, h3⟩
  by_cases hl : v.length ≤ 1024
  · obtain ⟨x, hx, hr, _⟩ := lk_le hM h3 hl
    have := h u x h1 h2 hx
    omega
  · exact Nat.le_of_lt (zeLi (hf.1.1.sy hM) (by have := hf.1.2; omega))
theorem zqB0 (hM : M.Sm) {n : Nat} (hp : ∀ t, inS M t → g t = true → ∀ w, M.lk s t = some w → n ≤ w.length) {w : List Int} {t : Int} (ht : inS M t) (hg : g t = true) (hw : M.lk s t = some w) (hl : w.length = n) (h : ∀ u v, inS M u → g u = true → M.lk s u = some v → v.length = n → rkW w ≤ rkW v) : M.f1 s g = some w := by
  refine zhOI hM ht hg hw fun u v hu hgu hv => ?_
  by_cases e : v.length = n
  · exact h u v hu hgu hv e
  · have := hp u hu hgu v hv
    have hsy := ((zvJ0 hM).1 hw).1.1.sy hM
    exact Nat.le_of_lt (zeLi hsy (by omega))
end
open Classical in
noncomputable def Mch.f1E (M : Mch) (s : Int) (g : Int → Bool) : Int := if (∃ t, inS M t ∧ g t = true ∧ Conn M s t) ∧ M.f1 s g = none then 3 else 0
end Ab
namespace Ab
theorem zyBn {α : Type} [Inhabited α] {N : Nat} {f : Nat → α} {s : Int} (h0 : 0 ≤ s) (h1 : s < (N : Int)) : ix ((List.range N).map f) s = f s.toNat := by
  obtain ⟨k, rfl⟩ := Int.eq_ofNat_of_zero_le h0
  rw [zrZW (by simp; omega)]
  simp
section
variable (a b : Nst)
def prK : Nat := b.accept.length
def prN : Nat := a.accept.length * b.accept.length
def prAcc (s : Nat) : Bool := ix a.accept ((s / prK b : Nat) : Int) != ix b.accept ((s % prK b : Nat) : Int)
def prCall (s : Nat) : List Int := (List.range a.calls.toNat).map fun (c : Nat) => ix (ix a.call ((s / prK b : Nat) : Int)) (c : Int) * (prK b : Int) + ix (ix b.call ((s % prK b : Nat) : Int)) (c : Int)
def prPush (s : Nat) : List Int := (List.range a.calls.toNat).map fun (c : Nat) => ix (ix a.push ((s / prK b : Nat) : Int)) (c : Int) * b.stack + ix (ix b.push ((s % prK b : Nat) : Int)) (c : Int)
def prInn (s : Nat) : List Int := (List.range a.inns.toNat).map fun (c : Nat) => ix (ix a.inner ((s / prK b : Nat) : Int)) (c : Int) * (prK b : Int) + ix (ix b.inner ((s % prK b : Nat) : Int)) (c : Int)
def prPopR (s g : Nat) : List Int := (List.range a.rets.toNat).map fun (r : Nat) => ix (ix (ix a.pop ((s / prK b : Nat) : Int)) ((g / b.stack.toNat : Nat) : Int)) (r : Int) * (prK b : Int) + ix (ix (ix b.pop ((s % prK b : Nat) : Int)) ((g % b.stack.toNat : Nat) : Int)) (r : Int)
def prPop (s : Nat) : List (List Int) := (List.range (a.stack.toNat * b.stack.toNat)).map (prPopR a b s)
def prd : Nst := ⟨a.calls, a.inns, a.rets, a.stack * b.stack, a.start * (prK b : Int) + b.start, (List.range (prN a b)).map (prAcc a b), (List.range (prN a b)).map (prCall a b), (List.range (prN a b)).map (prPush a b), (List.range (prN a b)).map (prInn a b), (List.range (prN a b)).map (prPop a b)⟩
end
section
variable {a b : Nst}
theorem zAqx {x y m k : Int} (hx : 0 ≤ x ∧ x < m) (hy : 0 ≤ y ∧ y < k) : 0 ≤ x * k + y ∧ x * k + y < m * k := by
  have h1 : 0 ≤ x * k := Int.mul_nonneg hx.1 (by omega)
  have h2 : (x + 1) * k ≤ m * k := Int.mul_le_mul_of_nonneg_right (by omega) (by omega)
  rw [Int.add_mul] at h2
  omega
theorem z1TS : (prd a b).accept.length = a.accept.length * b.accept.length := by simp [prd, prN]
structure PrOk (a b : Nst) : Prop where
  oa : a.Ok
  ob : b.Ok
  c : b.calls = a.calls
  i : b.inns = a.inns
  r : b.rets = a.rets
  n : a.accept.length * b.accept.length ≤ 128
  g : a.stack * b.stack ≤ 128
theorem PrOk.k (h : PrOk a b) : 1 ≤ b.accept.length := by have := h.ob.states; omega
theorem PrOk.xy (h : PrOk a b) {s : Int} (h0 : 0 ≤ s) (h1 : s < ((prN a b : Nat) : Int)) : ((s.toNat / prK b : Nat) : Int) < (a.accept.length : Int) ∧ ((s.toNat % prK b : Nat) : Int) < (b.accept.length : Int) := by
  have hk := h.k
  unfold prN at h1
  unfold prK
  constructor
  · have := (Nat.div_lt_iff_lt_mul (show 0 < b.accept.length by omega)).2 (show s.toNat < a.accept.length * b.accept.length by omega)
    omega
  · have := Nat.mod_lt s.toNat (show b.accept.length > 0 by omega)
    omega
theorem PrOk.gh (h : PrOk a b) {g : Int} (h0 : 0 ≤ g) (h1 : g < a.stack * b.stack) : ((g.toNat / b.stack.toNat : Nat) : Int) < a.stack ∧ ((g.toNat % b.stack.toNat : Nat) : Int) < b.stack := by
  have h2 := h.oa.stack
  have h3 := h.ob.stack
  have e : (a.stack.toNat * b.stack.toNat : Nat) = (a.stack * b.stack).toNat := by
    have : ((a.stack.toNat * b.stack.toNat : Nat) : Int) = a.stack * b.stack := by
      rw [Int.natCast_mul, show ((a.stack.toNat : Nat) : Int) = a.stack by omega, show ((b.stack.toNat : Nat) : Int) = b.stack by omega]
    omega
  constructor
  · have := (Nat.div_lt_iff_lt_mul (show 0 < b.stack.toNat by omega)).2 (show g.toNat < a.stack.toNat * b.stack.toNat by omega)
    omega
  · have := Nat.mod_lt g.toNat (show b.stack.toNat > 0 by omega)
    omega
theorem PrOk.stk (h : PrOk a b) : ((a.stack.toNat * b.stack.toNat : Nat) : Int) = a.stack * b.stack := by
  have h2 := h.oa.stack
  have h3 := h.ob.stack
  rw [Int.natCast_mul, show ((a.stack.toNat : Nat) : Int) = a.stack by omega, show ((b.stack.toNat : Nat) : Int) = b.stack by omega]
theorem zBaE (h : PrOk a b) : (prd a b).Ok := by
  have ha := h.oa
  have hb := h.ob
  have hac := ha.calls
  have hai := ha.inns
  have har := ha.rets
  have hsa := ha.states
  have hsb := hb.states
  have hga := ha.stack
  have hgb := hb.stack
  have hst := h.stk
  have hN : (prd a b).accept.length = prN a b := by simp [prd]
  have hNn : ((prN a b : Nat) : Int) = (a.accept.length : Int) * (b.accept.length : Int) := by unfold prN; rw [Int.natCast_mul]
  have h128 := h.n
  refine ⟨ha.calls, ha.inns, ha.rets, ha.syms, ⟨?_, h.g⟩, ?_, ?_, ?_, fun s s0 s1 => ?_, fun s c s0 s1 c0 c1 => ?_, fun s c s0 s1 c0 c1 => ?_, fun s c s0 s1 c0 c1 => ?_, fun s g s0 s1 g0 g1 => ?_, fun s g r s0 s1 g0 g1 r0 r1 => ?_⟩
  · have : 1 * 1 ≤ a.stack * b.stack := Int.mul_le_mul hga.1 hgb.1 (by omega) (by omega)
    exact this
  · rw [hN]
    unfold prN
    have : 1 * 1 ≤ a.accept.length * b.accept.length := Nat.mul_le_mul (by omega) (by omega)
    omega
  · rw [hN, hNn]
    exact zAqx ha.start hb.start
  · simp [prd]
  · rw [hN] at s1
    have e1 : ix (prd a b).call s = prCall a b s.toNat := zyBn s0 s1
    have e2 : ix (prd a b).push s = prPush a b s.toNat := zyBn s0 s1
    have e3 : ix (prd a b).inner s = prInn a b s.toNat := zyBn s0 s1
    have e4 : ix (prd a b).pop s = prPop a b s.toNat := zyBn s0 s1
    rw [e1, e2, e3, e4]
    simp only [prCall, prPush, prInn, prPop, List.length_map, List.length_range, prd]
    exact ⟨by omega, by omega, by omega, by omega⟩
  · rw [hN] at s1 ⊢
    obtain ⟨hx, hy⟩ := h.xy s0 s1
    have e1 : ix (prd a b).call s = prCall a b s.toNat := zyBn s0 s1
    have c1' : c < a.calls := c1
    have e2 : ix (prCall a b s.toNat) c = _ := zyBn c0 (by omega)
    rw [e1, e2, hNn, show ((c.toNat : Nat) : Int) = c by omega]
    exact zAqx (ha.call _ c (Int.natCast_nonneg _) hx c0 c1') (hb.call _ c (Int.natCast_nonneg _) hy c0 (by rw [h.c]; exact c1'))
  · rw [hN] at s1
    obtain ⟨hx, hy⟩ := h.xy s0 s1
    have e1 : ix (prd a b).push s = prPush a b s.toNat := zyBn s0 s1
    have c1' : c < a.calls := c1
    have e2 : ix (prPush a b s.toNat) c = _ := zyBn c0 (by omega)
    rw [e1, e2, show ((c.toNat : Nat) : Int) = c by omega]
    exact zAqx (ha.push _ c (Int.natCast_nonneg _) hx c0 c1') (hb.push _ c (Int.natCast_nonneg _) hy c0 (by rw [h.c]; exact c1'))
  · rw [hN] at s1 ⊢
    obtain ⟨hx, hy⟩ := h.xy s0 s1
    have e1 : ix (prd a b).inner s = prInn a b s.toNat := zyBn s0 s1
    have c1' : c < a.inns := c1
    have e2 : ix (prInn a b s.toNat) c = _ := zyBn c0 (by omega)
    rw [e1, e2, hNn, show ((c.toNat : Nat) : Int) = c by omega]
    exact zAqx (ha.inner _ c (Int.natCast_nonneg _) hx c0 c1') (hb.inner _ c (Int.natCast_nonneg _) hy c0 (by rw [h.i]; exact c1'))
  · rw [hN] at s1
    have e1 : ix (prd a b).pop s = prPop a b s.toNat := zyBn s0 s1
    have g1' : g < a.stack * b.stack := g1
    have e2 : ix (prPop a b s.toNat) g = prPopR a b s.toNat g.toNat := zyBn g0 (by rw [hst]; exact g1')
    rw [e1, e2]
    simp only [prPopR, List.length_map, List.length_range, prd]
    omega
  · rw [hN] at s1 ⊢
    obtain ⟨hx, hy⟩ := h.xy s0 s1
    have e1 : ix (prd a b).pop s = prPop a b s.toNat := zyBn s0 s1
    have g1' : g < a.stack * b.stack := g1
    have r1' : r < a.rets := r1
    obtain ⟨hg1, hg2⟩ := h.gh g0 g1'
    have e2 : ix (prPop a b s.toNat) g = prPopR a b s.toNat g.toNat := zyBn g0 (by rw [hst]; exact g1')
    have e3 : ix (prPopR a b s.toNat g.toNat) r = _ := zyBn r0 (by omega)
    rw [e1, e2, e3, hNn, show ((r.toNat : Nat) : Int) = r by omega]
    exact zAqx (ha.pop _ _ r (Int.natCast_nonneg _) hx (Int.natCast_nonneg _) hg1 r0 r1') (hb.pop _ _ r (Int.natCast_nonneg _) hy (Int.natCast_nonneg _) hg2 r0 (by rw [h.r]; exact r1'))
theorem zPo6 (h : PrOk a b) {s c : Int} (s0 : 0 ≤ s) (s1 : s < ((prN a b : Nat) : Int)) (c0 : 0 ≤ c) (c1 : c < a.calls) : (prd a b).mch.call s c = (ix (ix a.call ((s.toNat / prK b : Nat) : Int)) c * (prK b : Int) + ix (ix b.call ((s.toNat % prK b : Nat) : Int)) c, ix (ix a.push ((s.toNat / prK b : Nat) : Int)) c * b.stack + ix (ix b.push ((s.toNat % prK b : Nat) : Int)) c) := by
  have e1 : ix (prd a b).call s = prCall a b s.toNat := zyBn s0 s1
  have e2 : ix (prCall a b s.toNat) c = _ := zyBn c0 (by omega)
  have e3 : ix (prd a b).push s = prPush a b s.toNat := zyBn s0 s1
  have e4 : ix (prPush a b s.toNat) c = _ := zyBn c0 (by omega)
  show (ix (ix (prd a b).call s) c, ix (ix (prd a b).push s) c) = _
  rw [e1, e2, e3, e4, show ((c.toNat : Nat) : Int) = c by omega]
theorem z3OJ (h : PrOk a b) {s c : Int} (s0 : 0 ≤ s) (s1 : s < ((prN a b : Nat) : Int)) (c0 : 0 ≤ c) (c1 : c < a.inns) : (prd a b).mch.inner s c = ix (ix a.inner ((s.toNat / prK b : Nat) : Int)) c * (prK b : Int) + ix (ix b.inner ((s.toNat % prK b : Nat) : Int)) c := by
  have e1 : ix (prd a b).inner s = prInn a b s.toNat := zyBn s0 s1
  have e2 : ix (prInn a b s.toNat) c = _ := zyBn c0 (by omega)
  show ix (ix (prd a b).inner s) c = _
  rw [e1, e2, show ((c.toNat : Nat) : Int) = c by omega]
theorem zEkT (h : PrOk a b) {s g r : Int} (s0 : 0 ≤ s) (s1 : s < ((prN a b : Nat) : Int)) (g0 : 0 ≤ g) (g1 : g < a.stack * b.stack) (r0 : 0 ≤ r) (r1 : r < a.rets) : (prd a b).mch.pop s g r = ix (ix (ix a.pop ((s.toNat / prK b : Nat) : Int)) ((g.toNat / b.stack.toNat : Nat) : Int)) r * (prK b : Int) + ix (ix (ix b.pop ((s.toNat % prK b : Nat) : Int)) ((g.toNat % b.stack.toNat : Nat) : Int)) r := by
  have hst := h.stk
  have e1 : ix (prd a b).pop s = prPop a b s.toNat := zyBn s0 s1
  have e2 : ix (prPop a b s.toNat) g = prPopR a b s.toNat g.toNat := zyBn g0 (by rw [hst]; exact g1)
  have e3 : ix (prPopR a b s.toNat g.toNat) r = _ := zyBn r0 (by omega)
  show ix (ix (ix (prd a b).pop s) g) r = _
  rw [e1, e2, e3, show ((r.toNat : Nat) : Int) = r by omega]
end
end Ab
namespace Ab
inductive DT where
  | rt (f : Bool) (k : Nat)
  | ra (t : Nat)
  | jk (B : Blk)
structure XM where
  N : Nat
  bx : List AV
  S : Bs
  C : Bs
  A : Int → List CR
  ri : Bool → Nat → Nat
  ai : Nat → Nat
  dyn : List DT
def XM.b (X : XM) (f : Bool) : Bs := if f = true then X.S else X.C
inductive Ix where
  | rdy (f : Bool) | box (f : Bool) | wr (f : Bool) (s : Nat) | wo (f : Bool) | dr (f : Bool) (s : Nat) | dno (f : Bool) | co | bx | dy (i : Nat)
def e0 (N : Nat) (f : Bool) : Nat := if f = true then 0 else 2 * N + 4
def num (N : Nat) : Ix → Nat
  | .rdy f => e0 N f
  | .box f => e0 N f + 1
  | .wr f s => e0 N f + if s = 0 then 2 else 4 + 2 * s
  | .wo f => e0 N f + 3
  | .dr f s => e0 N f + if s = 0 then 4 else 5 + 2 * s
  | .dno f => e0 N f + 5
  | .co => 4 * N + 8
  | .bx => 4 * N + 9
  | .dy i => 4 * N + 10 + i
def decb (f : Bool) (i : Nat) : Ix := if i = 0 then .rdy f else if i = 1 then .box f else if i = 2 then .wr f 0 else if i = 3 then .wo f else if i = 4 then .dr f 0 else if i = 5 then .dno f else if i % 2 = 0 then .wr f (i / 2 - 2) else .dr f (i / 2 - 2)
def decI (N j : Nat) : Ix := if j < 2 * N + 4 then decb true j else if j < 4 * N + 8 then decb false (j - (2 * N + 4)) else if j = 4 * N + 8 then .co else if j = 4 * N + 9 then .bx else .dy (j - (4 * N + 10))
theorem zeVS {N i : Nat} {f : Bool} : num N (decb f i) = e0 N f + i := by
  unfold decb
  split
  · rename_i h; subst h; rfl
  split
  · rename_i h; subst h; rfl
  split
  · rename_i h; subst h; rfl
  split
  · rename_i h; subst h; rfl
  split
  · rename_i h; subst h; rfl
  split
  · rename_i h; subst h; rfl
  split
  · simp only [num]; rw [if_neg (by omega)]; omega
  · simp only [num]; rw [if_neg (by omega)]; omega
theorem zFx5 {N j : Nat} : num N (decI N j) = j := by
  unfold decI
  split
  · rw [zeVS]; simp [e0]
  split
  · rw [zeVS]; simp [e0]; omega
  split
  · simp only [num]; omega
  split
  · simp only [num]; omega
  · simp only [num]; omega
def Ix.val (N D : Nat) : Ix → Prop
  | .wr _ s => s < N
  | .dr _ s => s < N
  | .dy i => i < D
  | _ => True
theorem zjWf {f : Bool} {s : Nat} : decb f (if s = 0 then 2 else 4 + 2 * s) = .wr f s := by
  by_cases h : s = 0
  · subst h; rfl
  · rw [if_neg h]
    unfold decb
    rw [if_neg (by omega), if_neg (by omega), if_neg (by omega), if_neg (by omega), if_neg (by omega), if_neg (by omega), if_pos (by omega)]
    congr 1; omega
theorem zWOt {f : Bool} {s : Nat} : decb f (if s = 0 then 4 else 5 + 2 * s) = .dr f s := by
  by_cases h : s = 0
  · subst h; rfl
  · rw [if_neg h]
    unfold decb
    rw [if_neg (by omega), if_neg (by omega), if_neg (by omega), if_neg (by omega), if_neg (by omega), if_neg (by omega), if_neg (by omega)]
    congr 1; omega
theorem zaCG {N i : Nat} {f : Bool} (h : i < 2 * N + 4) : decI N (e0 N f + i) = decb f i := by
  unfold decI e0
  cases f with
  | true => simp only [if_true]; rw [if_pos (by omega)]; congr 1; omega
  | false => simp only [Bool.false_eq_true, if_false]; rw [if_neg (by omega), if_pos (by omega)]; congr 1; omega
theorem zb2l {N D : Nat} (hN : 1 ≤ N) {x : Ix} (h : x.val N D) : decI N (num N x) = x := by
  cases x with
  | rdy f => exact zaCG (i := 0) (by omega)
  | box f => exact zaCG (i := 1) (by omega)
  | wo f => exact zaCG (i := 3) (by omega)
  | dno f => exact zaCG (i := 5) (by omega)
  | wr f s =>
    have h : s < N := h
    show decI N (e0 N f + _) = _
    rw [zaCG (by split <;> omega), zjWf]
  | dr f s =>
    have h : s < N := h
    show decI N (e0 N f + _) = _
    rw [zaCG (by split <;> omega), zWOt]
  | co =>
    show decI N (4 * N + 8) = .co
    unfold decI
    rw [if_neg (by omega), if_neg (by omega), if_pos rfl]
  | bx =>
    show decI N (4 * N + 9) = .bx
    unfold decI
    rw [if_neg (by omega), if_neg (by omega), if_neg (by omega), if_pos rfl]
  | dy i =>
    show decI N (4 * N + 10 + i) = .dy i
    unfold decI
    rw [if_neg (by omega), if_neg (by omega), if_neg (by omega), if_neg (by omega)]
    congr 1; omega
theorem zzGJ {N D : Nat} {x : Ix} (h : x.val N D) : num N x < 4 * N + 10 + D := by
  cases x with
  | rdy f => cases f <;> simp [num, e0] <;> omega
  | box f => cases f <;> simp [num, e0] <;> omega
  | wo f => cases f <;> simp [num, e0] <;> omega
  | dno f => cases f <;> simp [num, e0] <;> omega
  | wr f s => have h : s < N := h; cases f <;> simp [num, e0] <;> split <;> omega
  | dr f s => have h : s < N := h; cases f <;> simp [num, e0] <;> split <;> omega
  | co => simp [num]; omega
  | bx => simp [num]; omega
  | dy i => have h : i < D := h; simp [num]; omega
theorem zJha {N D i : Nat} {f : Bool} (hN : 1 ≤ N) (h : i < 2 * N + 4) : (decb f i).val N D := by
  unfold decb
  split
  · exact trivial
  split
  · exact trivial
  split
  · show 0 < N; omega
  split
  · exact trivial
  split
  · show 0 < N; omega
  split
  · exact trivial
  split
  · show i / 2 - 2 < N; omega
  · show i / 2 - 2 < N; omega
theorem z6fO {N D j : Nat} (hN : 1 ≤ N) (h : j < 4 * N + 10 + D) : (decI N j).val N D := by
  unfold decI
  split
  · exact zJha hN (by assumption)
  split
  · exact zJha hN (by omega)
  split
  · exact trivial
  split
  · exact trivial
  · show j - (4 * N + 10) < D; omega
def wc : Option (List Int) → AV
  | none => .snil
  | some w => .imm true (w.map .int)
def wrow (N : Nat) (W : TO) (s : Nat) : List AV := (List.range N).map fun (t : Nat) => wc (W (s : Int) (t : Int))
def drow (N : Nat) (D : Int → Int → Bool) (s : Nat) : List Bool := (List.range N).map fun (t : Nat) => D (s : Int) (t : Int)
def prs (l : List PR) : List AV := l.flatMap fun p => [.int p.1, .int p.2]
def crs (l : List CR) : List AV := l.flatMap fun p => [.int p.1, .int p.2.1, .int p.2.2]
def rowS (N : Nat) (g : Nat → Ix) : List AV := (List.range N).map fun s => .sl (num N (g s)) N 0 N
def rdc (X : XM) (f : Bool) : List AV := (List.range 1025).map fun k => if (X.b f).R k = [] then .snil else .sl (num X.N (.dy (X.ri f k))) (2 * ((X.b f).R k).length) 0 ((X.b f).R k).length
def coc (X : XM) : List AV := (List.range X.N).map fun (t : Nat) => if X.A (t : Int) = [] then .snil else .sl (num X.N (.dy (X.ai t))) (3 * (X.A (t : Int)).length) 0 (X.A (t : Int)).length
def dcb (X : XM) : Option DT → Blk
  | some (.rt f k) => ⟨some 2, prs ((X.b f).R k), .live⟩
  | some (.ra t) => ⟨some 3, crs (X.A (t : Int)), .live⟩
  | some (.jk B) => B
  | none => default
def cb (X : XM) : Ix → Blk
  | .rdy f => ⟨none, rdc X f, .live⟩
  | .box f => ⟨some 3, [.sl (num X.N (.wo f)) X.N 0 X.N, .sl (num X.N (.dno f)) X.N 0 X.N, .sl (num X.N (.rdy f)) 1025 0 1025], .live⟩
  | .wr f s => ⟨none, wrow X.N (X.b f).W s, .live⟩
  | .wo f => ⟨none, rowS X.N (.wr f), .live⟩
  | .dr f s => ⟨none, (drow X.N (X.b f).D s).map .bool, .live⟩
  | .dno f => ⟨none, rowS X.N (.dr f), .live⟩
  | .co => ⟨none, coc X, .live⟩
  | .bx => ⟨some 14, X.bx ++ [.ptr (num X.N (.box true)) (kst (some 3)) 0, .ptr (num X.N (.box false)) (kst (some 3)) 0, .sl (num X.N .co) X.N 0 X.N], .live⟩
  | .dy i => dcb X X.dyn[i]?
def mem (X : XM) : List Blk := (List.range (4 * X.N + 10 + X.dyn.length)).map fun j => cb X (decI X.N j)
structure Xok (X : XM) : Prop where
  n : 1 ≤ X.N ∧ X.N ≤ 1000
  bx : X.bx.length = 11
  r1 : ∀ f k, (X.b f).R k ≠ [] → X.dyn[X.ri f k]? = some (.rt f k)
  r2 : ∀ i f k, X.dyn[i]? = some (.rt f k) → (X.b f).R k ≠ [] ∧ i = X.ri f k
  a1 : ∀ t : Nat, X.A (t : Int) ≠ [] → X.dyn[X.ai t]? = some (.ra t)
  a2 : ∀ (i t : Nat), X.dyn[i]? = some (.ra t) → X.A (t : Int) ≠ [] ∧ i = X.ai t
section
variable {X Y : XM}
theorem zKS9 : (mem X).length = 4 * X.N + 10 + X.dyn.length := by simp [mem]
theorem zTeC (hN : 1 ≤ X.N) {x : Ix} (h : x.val X.N X.dyn.length) : blk (mem X) (num X.N x) = some (cb X x) := by
  have := zzGJ h
  rw [zzWB]
  unfold mem
  rw [List.getElem?_map, List.getElem?_range this, Option.map_some, zb2l hN h]
theorem zaSl (hN1 : 1 ≤ X.N) (hN : X.N = Y.N) (hd : X.dyn.length = Y.dyn.length) {x : Ix} (hv : x.val X.N X.dyn.length) (B : Blk) (hB : cb Y x = B) (h : ∀ y, y ≠ x → cb Y y = cb X y) : setB (mem X) (num X.N x) B = mem Y := by
  rw [z4Wl]
  apply List.ext_getElem
  · simp [mem, hN, hd]
  · intro i h1 h2
    rw [List.getElem_set]
    simp only [mem, List.getElem_map, List.getElem_range]
    by_cases e : num X.N x = i
    · rw [if_pos e, ← hB, ← e, ← hN, zb2l hN1 hv]
    · rw [if_neg e, hN]
      refine (h _ fun e2 => e ?_).symm
      rw [← e2, hN]; exact zFx5
theorem zVJX (hN1 : 1 ≤ X.N) (hN : X.N = Y.N) (hd : X.dyn.length = Y.dyn.length) {x z : Ix} (hv : x.val X.N X.dyn.length) (hz : z.val X.N X.dyn.length) (hne : num X.N x ≠ num X.N z) (B B' : Blk) (hB : cb Y x = B) (hB' : cb Y z = B') (h : ∀ y, y ≠ x → y ≠ z → cb Y y = cb X y) : setB (setB (mem X) (num X.N x) B) (num X.N z) B' = mem Y := by
  rw [z4Wl, z4Wl]
  apply List.ext_getElem
  · simp [mem, hN, hd]
  · intro i h1 h2
    rw [List.getElem_set, List.getElem_set]
    simp only [mem, List.getElem_map, List.getElem_range]
    by_cases e : num X.N z = i
    · rw [if_pos e, ← hB', ← e, ← hN, zb2l hN1 hz]
    · rw [if_neg e]
      by_cases e1 : num X.N x = i
      · rw [if_pos e1, ← hB, ← e1, ← hN, zb2l hN1 hv]
      · rw [if_neg e1, hN]
        refine (h _ (fun e2 => e1 ?_) fun e2 => e ?_).symm
        · rw [← e2, hN]; exact zFx5
        · rw [← e2, hN]; exact zFx5
theorem zQvU (hN1 : 1 ≤ X.N) (hN : X.N = Y.N) {d : DT} (hd : Y.dyn = X.dyn ++ [d]) {z : Ix} (hz : z.val X.N X.dyn.length) (B B' : Blk) (hB : dcb Y (some d) = B) (hB' : cb Y z = B') (h : ∀ y, y ≠ z → y.val X.N X.dyn.length → cb Y y = cb X y) : setB (mem X ++ [B]) (num X.N z) B' = mem Y := by
  have hl : Y.dyn.length = X.dyn.length + 1 := by rw [hd]; simp
  have hlt := zzGJ hz
  rw [z4Wl]
  apply List.ext_getElem
  · simp [mem, hN, hl]; omega
  · intro i h1 h2
    rw [List.getElem_set]
    by_cases e : num X.N z = i
    · rw [if_pos e]
      simp only [mem, List.getElem_map, List.getElem_range]
      rw [← hB', ← e, ← hN, zb2l hN1 hz]
    · rw [if_neg e]
      have h3 : i < 4 * X.N + 10 + X.dyn.length + 1 := by
        have := h2
        simp only [mem, List.length_map, List.length_range] at this
        omega
      by_cases e1 : i = 4 * X.N + 10 + X.dyn.length
      · rw [List.getElem_append_right (by rw [zKS9]; omega)]
        simp only [zKS9, e1, Nat.sub_self, List.getElem_cons_zero]
        have hdi : decI Y.N (4 * X.N + 10 + X.dyn.length) = .dy X.dyn.length := by
          rw [← hN]; exact zb2l (D := X.dyn.length + 1) hN1 (x := .dy X.dyn.length) (Nat.lt_succ_self _)
        simp only [mem, List.getElem_map, List.getElem_range, e1, hdi]
        show B = dcb Y Y.dyn[X.dyn.length]?
        rw [hd, List.getElem?_append_right (Nat.le_refl _), Nat.sub_self]
        exact hB.symm
      · rw [List.getElem_append_left (by rw [zKS9]; omega)]
        simp only [mem, List.getElem_map, List.getElem_range, ← hN]
        refine (h _ (fun e2 => e ?_) ?_).symm
        · rw [← e2]; exact zFx5
        · exact z6fO hN1 (by omega)
theorem zXAD (hN1 : 1 ≤ X.N) (B : Blk) : mem X ++ [B] = mem { X with dyn := X.dyn ++ [.jk B] } := by
  apply List.ext_getElem
  · simp [mem]; omega
  · intro i h1 h2
    have h3 : i < 4 * X.N + 10 + X.dyn.length + 1 := by
      have := h1
      simp only [List.length_append, zKS9, List.length_cons, List.length_nil] at this
      omega
    by_cases e1 : i = 4 * X.N + 10 + X.dyn.length
    · rw [List.getElem_append_right (by rw [zKS9]; omega)]
      simp only [zKS9, e1, Nat.sub_self, List.getElem_cons_zero]
      have hdi : decI X.N (4 * X.N + 10 + X.dyn.length) = .dy X.dyn.length := zb2l (D := X.dyn.length + 1) hN1 (x := .dy X.dyn.length) (Nat.lt_succ_self _)
      simp only [mem, List.getElem_map, List.getElem_range, hdi]
      show B = dcb _ (X.dyn ++ [.jk B])[X.dyn.length]?
      rw [List.getElem?_append_right (Nat.le_refl _), Nat.sub_self]
      rfl
    · rw [List.getElem_append_left (by rw [zKS9]; omega)]
      simp only [mem, List.getElem_map, List.getElem_range]
      have hv := z6fO (N := X.N) (D := X.dyn.length) (j := i) hN1 (by omega)
      generalize decI X.N i = y at hv
      cases y with
      | dy k =>
        have hk : k < X.dyn.length := hv
        show dcb X X.dyn[k]? = dcb _ (X.dyn ++ [.jk B])[k]?
        rw [List.getElem?_append_left hk, List.getElem?_eq_getElem hk]
        cases X.dyn[k] <;> rfl
      | _ => rfl
end
end Ab
namespace Ab
theorem dieN {p : Nat → Bool} : ∀ {σ : List Blk} {i : Nat}, (∀ j, i ≤ j → j < i + σ.length → p j = false) → dieIf p i σ = σ
  | [], _, _ => rfl
  | B :: r, i, h => by
    unfold dieIf
    rw [h i (Nat.le_refl _) (by simp), dieN fun j h1 h2 => h j (by omega) (by simp; omega)]
    rfl
theorem zG6u {p : Nat → Bool} : ∀ {σ τ : List Blk} {i : Nat}, dieIf p i (σ ++ τ) = dieIf p i σ ++ dieIf p (i + σ.length) τ
  | [], τ, i => by simp [dieIf]
  | B :: r, τ, i => by
    simp only [List.cons_append, dieIf, List.length_cons]
    rw [zG6u, show i + 1 + r.length = i + (r.length + 1) by omega]
theorem dieL {p : Nat → Bool} : ∀ {σ : List Blk} {i : Nat}, (dieIf p i σ).length = σ.length
  | [], _ => rfl
  | B :: r, i => by unfold dieIf; simp [dieL]
theorem znKw {σ : List Blk} {B : Blk} {n : Nat} (h : n = σ.length) : blk (σ ++ [B]) n = some B := by
  subst h
  rw [zzWB]; simp
theorem zVMl {σ : List Blk} {f : Nat} : ∀ (l : List AV) (acc : List Nat), (∀ x ∈ l, ∃ n, x = .int n) → l.foldl (fun acc y => reach σ f y acc) acc = acc
  | [], _, _ => rfl
  | x :: l, acc, h => by
    obtain ⟨n, rfl⟩ := h x (by simp)
    have e : reach σ f (.int n) acc = acc := by cases f <;> rfl
    simp only [List.foldl_cons, e]
    exact zVMl l acc fun y hy => h y (by simp [hy])
theorem chunkI {rest : List AV} : ∀ {xs : List Int}, chunk none xs.length (xs.map AV.int ++ rest) = xs.map .int
  | [] => rfl
  | x :: xs => by
    have e := chunkI (rest := rest) (xs := xs)
    simp only [List.length_cons, List.map_cons, List.cons_append, chunk, e]
theorem zZJF {vars : List AV} {fl : Option (Nat × AV)} {σ : List Blk} {k u : Nat} {l : List Int} {r : Nat} {n : Nat} {Q : Ex → St → Prop} (hσ : n = σ.length) (hu : u = l.length + r) (hn : nth vars k = .sl n u 0 l.length) (h : Q .nor ⟨setN vars k (.imm true (l.map .int)), fl, σ ++ [⟨none, l.map .int ++ List.replicate r (.int 0), .dead⟩]⟩) : W L (.frz k) ⟨vars, fl, σ ++ [⟨none, l.map .int ++ List.replicate r (.int 0), .live⟩]⟩ Q := by
  generalize hB : (⟨none, l.map .int ++ List.replicate r (.int 0), .live⟩ : Blk) = B
  have hb := znKw (B := B) hσ
  have hr : reach (σ ++ [B]) vd (.sl n u 0 l.length) [] = [n] := by
    show reach (σ ++ [B]) (11 + 1) (.sl n u 0 l.length) [] = [n]
    unfold reach
    simp only [hb]
    rw [if_neg (by simp)]
    rw [← hB]
    refine zVMl _ _ fun x hx => ?_
    rcases List.mem_append.1 hx with hx | hx
    · obtain ⟨a, _, rfl⟩ := List.mem_map.1 hx; exact ⟨a, rfl⟩
    · exact ⟨0, (List.mem_replicate.1 hx).2⟩
  have hd1 : blk (dieIf (fun b => !([n] : List Nat).contains b) 0 (σ ++ [B])) n = some B := by
    rw [zG6u]
    have : dieIf (fun b => !([n] : List Nat).contains b) (0 + σ.length) [B] = [B] := by
      simp [dieIf, hσ]
    rw [this]
    exact znKw (by rw [dieL]; exact hσ)
  have hd2 : dieIf (fun b => ([n] : List Nat).contains b) 0 (σ ++ [B]) = σ ++ [⟨B.k, B.cells, .dead⟩] := by
    rw [zG6u, dieN fun j h1 h2 => by simp; omega]
    congr 1
    simp [dieIf, hσ]
  have hup : ∀ τ : List Blk, blk τ n = some B → upto τ n u = some B := fun τ ht => by
    unfold upto
    rw [ht, ← hB]
    simp [hu]
  have hv : view (dieIf (fun b => !([n] : List Nat).contains b) 0 (σ ++ [B])) false vd (.sl n u 0 l.length) = some (iL l) := by
    have := hup _ hd1
    show view _ false (11 + 1) _ = _
    unfold view
    simp only [this]
    rw [← hB]
    simp only [kst, List.drop_zero, Nat.zero_add, Nat.mul_one]
    have e : ∀ τ, mapO (view τ false 11) (l.map AV.int) = some (l.map AV.int) := fun τ => zwdp (f := AV.int) (g := AV.int) fun _ _ => rfl
    rw [if_pos (by simp), chunkI, e]
  have hs : surely (σ ++ [B]) (.sl n u 0 l.length) = true := by
    have := hup _ hb
    simp only [surely, this]
    rw [← hB]
  have hBc : (⟨B.k, B.cells, .dead⟩ : Blk) = ⟨none, l.map .int ++ List.replicate r (.int 0), .dead⟩ := by rw [← hB]
  refine ⟨0, .nor, _, ?_, h⟩
  simp only [exec, hn, hr, hv, hs, hd2, hBc]
  rfl
inductive Rdw (σ : List Blk) : AV → List Int → Prop
  | nil : Rdw σ .snil []
  | imm (q : Bool) (l : List Int) : Rdw σ (.imm q (l.map .int)) l
  | sl (b : Nat) (l : List Int) : blk σ b = some ⟨none, l.map .int, .live⟩ → Rdw σ (.sl b l.length 0 l.length) l
section
variable {X : XM} {f : Bool} {s t : Nat}
theorem zCaJ {N : Nat} {g : Nat → Ix} : (rowS N g).length = N := by simp [rowS]
theorem z2sE {N : Nat} {g : Nat → Ix} (h : s < N) : elm (rowS N g) s = some (.sl (num N (g s)) N 0 N) := by rw [znyW]; simp [rowS, h]
theorem zFNI {N : Nat} {W : TO} : (wrow N W s).length = N := by simp [wrow]
theorem zoH3 {N : Nat} {W : TO} (h : t < N) : elm (wrow N W s) t = some (wc (W (s : Int) (t : Int))) := by rw [znyW]; simp [wrow, h]
theorem zGyT {N : Nat} {D : Int → Int → Bool} : (drow N D s).length = N := by simp [drow]
theorem z8jd {N : Nat} {D : Int → Int → Bool} (h : t < N) : ix (drow N D s) (t : Int) = D (s : Int) (t : Int) := by rw [zrZW (by rw [zGyT]; exact h)]; simp [drow]
theorem z6JH {N : Nat} {D : Int → Int → Bool} (h : t < N) : elm ((drow N D s).map .bool) t = some (.bool (D (s : Int) (t : Int))) := by rw [znyW]; simp [drow, h]
theorem m_box (h : Xok X) : blk (mem X) (num X.N (.box f)) = some ⟨some 3, [.sl (num X.N (.wo f)) X.N 0 X.N, .sl (num X.N (.dno f)) X.N 0 X.N, .sl (num X.N (.rdy f)) 1025 0 1025], .live⟩ := zTeC h.n.1 (x := .box f) trivial
theorem m_wo (h : Xok X) : blk (mem X) (num X.N (.wo f)) = some ⟨none, rowS X.N (.wr f), .live⟩ := zTeC h.n.1 (x := .wo f) trivial
theorem m_wr (h : Xok X) (hs : s < X.N) : blk (mem X) (num X.N (.wr f s)) = some ⟨none, wrow X.N (X.b f).W s, .live⟩ := zTeC h.n.1 (x := .wr f s) hs
theorem m_do (h : Xok X) : blk (mem X) (num X.N (.dno f)) = some ⟨none, rowS X.N (.dr f), .live⟩ := zTeC h.n.1 (x := .dno f) trivial
theorem m_dr (h : Xok X) (hs : s < X.N) : blk (mem X) (num X.N (.dr f s)) = some ⟨none, (drow X.N (X.b f).D s).map .bool, .live⟩ := zTeC h.n.1 (x := .dr f s) hs
theorem m_rdy (h : Xok X) : blk (mem X) (num X.N (.rdy f)) = some ⟨none, rdc X f, .live⟩ := zTeC h.n.1 (x := .rdy f) trivial
structure Xe (X Y : XM) : Prop where
  ok : Xok Y
  n : Y.N = X.N
  bx : Y.bx = X.bx
  d : ∃ ext, Y.dyn = X.dyn ++ ext
theorem Xe.refl (h : Xok X) : Xe X X := ⟨h, rfl, rfl, [], by simp⟩
theorem Xe.trans {Y Z : XM} (h : Xe X Y) (k : Xe Y Z) : Xe X Z := ⟨k.ok, by rw [k.n, h.n], by rw [k.bx, h.bx], by
  obtain ⟨e1, h1⟩ := h.d
  obtain ⟨e2, h2⟩ := k.d
  exact ⟨e1 ++ e2, by rw [h2, h1, List.append_assoc]⟩⟩
def XM.add (X : XM) (B : Blk) : XM := { X with dyn := X.dyn ++ [.jk B] }
theorem zQld (h : Xok X) (B : Blk) : Xok (X.add B) := by
  refine ⟨h.n, h.bx, fun f k hr => ?_, fun i f k hi => ?_, fun t hr => ?_, fun i t hi => ?_⟩
  · have := h.r1 f k hr
    show (X.dyn ++ [.jk B])[X.ri f k]? = _
    rw [List.getElem?_append_left (List.getElem?_eq_some_iff.1 this).1, this]
  · have hi : (X.dyn ++ [.jk B])[i]? = some (.rt f k) := hi
    by_cases hl : i < X.dyn.length
    · rw [List.getElem?_append_left hl] at hi; exact h.r2 i f k hi
    · rw [List.getElem?_append_right (by omega)] at hi
      have : i - X.dyn.length = 0 ∨ 0 < i - X.dyn.length := by omega
      rcases this with e | e
      · rw [e] at hi; simp at hi
      · rw [List.getElem?_eq_none (by simp; omega)] at hi; simp at hi
  · have := h.a1 t hr
    show (X.dyn ++ [.jk B])[X.ai t]? = _
    rw [List.getElem?_append_left (List.getElem?_eq_some_iff.1 this).1, this]
  · have hi : (X.dyn ++ [.jk B])[i]? = some (.ra t) := hi
    by_cases hl : i < X.dyn.length
    · rw [List.getElem?_append_left hl] at hi; exact h.a2 i t hi
    · rw [List.getElem?_append_right (by omega)] at hi
      have : i - X.dyn.length = 0 ∨ 0 < i - X.dyn.length := by omega
      rcases this with e | e
      · rw [e] at hi; simp at hi
      · rw [List.getElem?_eq_none (by simp; omega)] at hi; simp at hi
theorem add_e (h : Xok X) (B : Blk) : Xe X (X.add B) := ⟨zQld h B, rfl, rfl, [.jk B], rfl⟩
theorem zxtn (h : Xok X) (B : Blk) : mem X ++ [B] = mem (X.add B) := zXAD h.n.1 B
def XM.setB' (X : XM) (f : Bool) (b : Bs) : XM := if f = true then { X with S := b } else { X with C := b }
theorem z0tM {b : Bs} : (X.setB' f b).b f = b := by cases f <;> rfl
theorem zRB4 {b : Bs} : (X.setB' f b).b (!f) = X.b (!f) := by cases f <;> rfl
theorem zLD3 {b : Bs} {g : Bool} : (X.setB' f b).b g = if g = f then b else X.b g := by cases f <;> cases g <;> rfl
theorem zKgL {b : Bs} : (X.setB' f b).N = X.N ∧ (X.setB' f b).bx = X.bx ∧ (X.setB' f b).A = X.A ∧ (X.setB' f b).ri = X.ri ∧ (X.setB' f b).ai = X.ai ∧ (X.setB' f b).dyn = X.dyn := by cases f <;> exact ⟨rfl, rfl, rfl, rfl, rfl, rfl⟩
end
end Ab
