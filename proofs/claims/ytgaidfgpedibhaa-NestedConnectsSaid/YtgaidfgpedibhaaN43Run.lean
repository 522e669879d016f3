/- The state that a word leads to. Condition: none. -/
import Derived.Test.YtgaidfgpedibhaaN43Acc
set_option linter.all false
set_option maxRecDepth 100000
set_option maxHeartbeats 4000000
namespace Ab
/-! ### The methods of an automaton -/
theorem scall_s (n : Nst) (s c : Int) (s0 : 0 ≤ s) (s1 : s < n.call.length) (s2 : s < n.push.length) (c0 : 0 ≤ c) (c1 : c < (ix n.call s).length) (c2 : c < (ix n.push s).length) : PC F_nested_single_call [n.av, .int s, .int c] = some (.tup [.int (ix (ix n.call s) c), .int (ix (ix n.push s) c)]) := by
  refine PCx_of (go_nested_single_call rfl ?_)
  simp [s0, s1, s2, c0, c1, c2]
theorem sinner_s (n : Nst) (s c : Int) (s0 : 0 ≤ s) (s1 : s < n.inner.length) (c0 : 0 ≤ c) (c1 : c < (ix n.inner s).length) : PC F_nested_single_inner [n.av, .int s, .int c] = some (.int (ix (ix n.inner s) c)) := by
  refine PCx_of (go_nested_single_inner rfl ?_)
  simp [s0, s1, c0, c1]
theorem spop_s (n : Nst) (s g r : Int) (s0 : 0 ≤ s) (s1 : s < n.pop.length) (g0 : 0 ≤ g) (g1 : g < (ix n.pop s).length) (r0 : 0 ≤ r) (r1 : r < (ix (ix n.pop s) g).length) : PC F_nested_single_pop [n.av, .int s, .int g, .int r] = some (.int (ix (ix (ix n.pop s) g) r)) := by
  refine PCx_of (go_nested_single_pop rfl ?_)
  simp [s0, s1, g0, g1, r0, r1]
theorem ssize_s (n : Nst) : PC F_nested_single_size [n.av] = some (.int n.accept.length) := by
  refine PCx_of (go_nested_single_size rfl ?_)
  simp
/-! ### A stack -/
/-- The top. -/
def hd (l : List Int) : Int := l.headD 0
theorem hd_cons {x : Int} {l : List Int} : hd (x :: l) = x := rfl
/-- The stack object: not used yet, or a slice of k elements over the cells xs. -/
def stC : Option (List Int × Nat) → List Blk
  | none => [⟨some 1, [.snil], .live⟩]
  | some (xs, k) => [⟨some 1, [.sl 1 xs.length 0 k], .live⟩, ⟨none, xs.map .int, .live⟩]
def stPush (x : Int) : Option (List Int × Nat) → Option (List Int × Nat)
  | none => some ([x], 1)
  | some (xs, k) => if xs.length = k then some (xs ++ [x], k + 1) else some (xs.set k x, k + 1)
def stPop : Option (List Int × Nat) → Option (List Int × Nat)
  | none => none
  | some (xs, k) => some (xs, k - 1)
/-- The elements, the top first. -/
def stL : Option (List Int × Nat) → List Int
  | none => []
  | some (xs, k) => (xs.take k).reverse
def stOk (m : Nat) : Option (List Int × Nat) → Prop
  | none => True
  | some (xs, k) => k ≤ xs.length ∧ k ≤ m
theorem stL_push {x : Int} {o : Option (List Int × Nat)} {m : Nat} (h : stOk m o) : stL (stPush x o) = x :: stL o ∧ stOk (m + 1) (stPush x o) := by
  cases o with
  | none => simp [stPush, stL, stOk]
  | some p =>
    obtain ⟨xs, k⟩ := p
    simp only [stOk] at h
    simp only [stPush]
    split
    · rename_i e; subst e; exact ⟨by simp [stL, List.take_of_length_le], by simp [stOk]; exact h.2⟩
    · rename_i e
      refine ⟨?_, by simp [stOk]; omega⟩
      simp only [stL]
      rw [List.take_add_one, List.take_set_of_le (Nat.le_refl k), List.getElem?_set_self (by omega)]
      simp
theorem stL_pop {o : Option (List Int × Nat)} {m : Nat} (h : stOk m o) (hp : stL o ≠ []) : stL (stPop o) = (stL o).tail ∧ stOk m (stPop o) ∧ ∃ xs k, o = some (xs, k) ∧ 0 < k ∧ k ≤ xs.length ∧ ix xs ((k : Int) - 1) = hd (stL o) := by
  cases o with
  | none => exact absurd rfl hp
  | some p =>
    obtain ⟨xs, k⟩ := p
    simp only [stOk] at h
    have hk : 0 < k := by
      rcases Nat.eq_zero_or_pos k with rfl | hk
      · simp [stL] at hp
      · exact hk
    obtain ⟨k, rfl⟩ : ∃ j, k = j + 1 := ⟨k - 1, by omega⟩
    have e : xs.take (k + 1) = xs.take k ++ [xs[k]] := by
      rw [List.take_add_one, List.getElem?_eq_getElem (by omega)]; rfl
    refine ⟨?_, by simp [stPop, stOk]; omega, xs, k + 1, rfl, by omega, by omega, ?_⟩
    · show (xs.take k).reverse = ((xs.take (k + 1)).reverse).tail
      rw [e, List.reverse_append]; rfl
    · show _ = hd ((xs.take (k + 1)).reverse)
      rw [e, show ((k + 1 : Nat) : Int) - 1 = (k : Int) by omega, ix_nat (by omega), List.reverse_append]
      rfl
theorem push_s (x : Int) (o : Option (List Int × Nat)) (h : stOk 100000 o) : L F_nested_stack_int_push [.ptr 0 1 0, .int x] (stC o) = some (.tup [], stC (stPush x o)) := by
  refine LX_eq (go_nested_stack_int_push rfl ?_)
  cases o with
  | none => simp [stC, stPush]
  | some p =>
    obtain ⟨xs, k⟩ := p
    simp only [stOk] at h
    by_cases hk : xs.length = k
    · simp [stC, stPush, hk]; omega
    · simp [stC, stPush, hk, show k < xs.length by omega]; omega
theorem pop_s (xs : List Int) (k : Nat) (h0 : 0 < k) (h1 : k ≤ xs.length) (h2 : k ≤ 100000) : L F_nested_stack_int_pop [.ptr 0 1 0] (stC (some (xs, k))) = some (.int (ix xs ((k : Int) - 1)), stC (stPop (some (xs, k)))) := by
  refine LX_eq (go_nested_stack_int_pop rfl ?_)
  simp [stC, stPop]
  (repeat' apply And.intro) <;> omega
/-! ### Runs -/
/-- One symbol: the state and the stack. -/
def Nst.step (n : Nst) (p : Int × List Int) (x : Int) : Int × List Int :=
  if x < n.calls then (ix (ix n.call p.1) x, ix (ix n.push p.1) x :: p.2)
  else if x < n.calls + n.inns then (ix (ix n.inner p.1) (x - n.calls), p.2)
  else (ix (ix (ix n.pop p.1) (hd p.2)) (x - n.calls - n.inns), p.2.tail)
def Nst.run (n : Nst) (s : Int) (w : List Int) : Int × List Int := w.foldl n.step (s, [])
def Nst.runp (n : Nst) (s : Int) (w : List Int) (i : Int) : Int × List Int := (w.take i.toNat).foldl n.step (s, [])
theorem runp_succ {n : Nst} {s : Int} {w : List Int} {i : Int} (h0 : 0 ≤ i) (h1 : i < w.length) : n.runp s w (i + 1) = n.step (n.runp s w i) (ix w i) := foldl_take h0 h1
theorem runp_end {n : Nst} {s : Int} {w : List Int} {i : Int} (h : (w.length : Int) ≤ i) : n.runp s w i = n.run s w := foldl_take1 h
/-- A word that never closes what is not open. -/
def Nst.up (n : Nst) (w : List Int) : Prop := ∀ i, 0 ≤ i → i ≤ (w.length : Int) → 0 ≤ (n.lvp w i).1
theorem lvp_low {n : Nst} {w : List Int} {i : Int} (h0 : 0 ≤ i) (h1 : i ≤ w.length) : (n.levs w).2.2 ≤ (n.lvp w i).2.2 ∧ (n.lvp w i).2.2 ≤ (n.lvp w i).1 := by
  have k1 : ∀ j : Nat, j ≤ w.length → (n.lvp w j).2.2 ≤ (n.lvp w j).1 := by
    intro j hj
    cases j with
    | zero => simp [lvp_zero]
    | succ j =>
      have e := lvp_succ (n := n) (w := w) (i := j) (by omega) (by omega)
      rw [show ((j + 1 : Nat) : Int) = (j : Int) + 1 by omega, e]
      simp only [Nst.lev3]
      omega
  have k2 : ∀ d j : Nat, j + d = w.length → (n.levs w).2.2 ≤ (n.lvp w j).2.2 := by
    intro d
    induction d with
    | zero =>
      intro j hj
      rw [← lvp_end (n := n) (w := w) (i := j) (by omega)]
      exact Int.le_refl _
    | succ d ih =>
      intro j hj
      have := ih (j + 1) (by omega)
      have e := lvp_succ (n := n) (w := w) (i := j) (by omega) (by omega)
      rw [show ((j + 1 : Nat) : Int) = (j : Int) + 1 by omega, e] at this
      simp only [Nst.lev3] at this
      omega
  have a := k1 i.toNat (by omega)
  have b := k2 (w.length - i.toNat) i.toNat (by omega)
  rw [show ((i.toNat : Nat) : Int) = i by omega] at a b
  exact ⟨b, a⟩
theorem up_of {n : Nst} {w : List Int} (h : (n.levs w).2.2 = 0) : n.up w := fun i h0 h1 => by
  have := lvp_low (n := n) h0 h1
  omega
theorem run_inv {n : Nst} (hn : n.Ok) {w : List Int} (hw : n.word w) (hu : n.up w) {s : Int} (hs : 0 ≤ s ∧ s < n.accept.length) {i : Int} (h0 : 0 ≤ i) (h1 : i ≤ w.length) :
    (0 ≤ (n.runp s w i).1 ∧ (n.runp s w i).1 < n.accept.length) ∧ ((n.runp s w i).2.length : Int) = (n.lvp w i).1 ∧ ∀ g ∈ (n.runp s w i).2, 0 ≤ g ∧ g < n.stack := by
  have key : ∀ j : Nat, j ≤ w.length → (0 ≤ (n.runp s w j).1 ∧ (n.runp s w j).1 < n.accept.length) ∧ ((n.runp s w j).2.length : Int) = (n.lvp w j).1 ∧ ∀ g ∈ (n.runp s w j).2, 0 ≤ g ∧ g < n.stack := by
    intro j
    induction j with
    | zero => intro _; exact ⟨hs, rfl, by simp [Nst.runp]⟩
    | succ j ih =>
      intro hj
      obtain ⟨a, b, c⟩ := ih (by omega)
      have e := runp_succ (n := n) (s := s) (w := w) (i := j) (by omega) (by omega)
      have e2 := lvp_succ (n := n) (w := w) (i := j) (by omega) (by omega)
      have hx := hw.2 _ (ix_mem (l := w) (n := j) (by omega) (by omega))
      have hup := hu (j + 1) (by omega) (by omega)
      rw [show ((j + 1 : Nat) : Int) = (j : Int) + 1 by omega, e, e2]
      rw [e2] at hup
      simp only [Nst.lev3, Nst.lev] at hup ⊢
      unfold Nst.step
      by_cases c1 : ix w j < n.calls
      · rw [if_pos c1] at hup ⊢
        rw [if_pos c1]
        have q1 := hn.call _ _ a.1 a.2 hx.1 c1
        have q2 := hn.push _ _ a.1 a.2 hx.1 c1
        refine ⟨q1, by simp; omega, fun g hg => ?_⟩
        rcases List.mem_cons.1 hg with rfl | hg
        · exact q2
        · exact c g hg
      rw [if_neg c1] at hup ⊢
      rw [if_neg c1]
      by_cases c2 : ix w j < n.calls + n.inns
      · rw [if_pos c2]
        rw [if_neg (show ¬ n.calls + n.inns ≤ ix w j by omega)]
        exact ⟨hn.inner _ _ a.1 a.2 (by omega) (by omega), b, c⟩
      · rw [if_neg c2]
        rw [if_pos (show n.calls + n.inns ≤ ix w j by omega)] at hup ⊢
        have hne : (n.runp s w j).2 ≠ [] := fun h => by rw [h] at b; simp at b; omega
        obtain ⟨g, l, hgl⟩ := List.exists_cons_of_ne_nil hne
        have qg := c g (by rw [hgl]; simp)
        rw [hgl] at b c ⊢
        simp only [hd_cons, List.tail_cons]
        refine ⟨hn.pop _ _ _ a.1 a.2 qg.1 qg.2 (by omega) (by omega), ?_, fun g' hg' => c g' (by simp [hg'])⟩
        simp at b; omega
  have := key i.toNat (by omega)
  rw [show ((i.toNat : Nat) : Int) = i by omega] at this
  exact this
theorem From_s (n : Nst) (hn : n.Ok) (w : List Int) (hw : n.word w) (hu : n.up w) (s : Int) (hs : 0 ≤ s ∧ s < n.accept.length) : PC F_ref43_From [n.av, .int s, iL w] = some (.int (n.run s w).1) := by
  refine PCx_of (go_ref43_From rfl ?_)
  simp
  refine W_iter (fun p : Int × List Int × Nat => [(3, .int p.1), (1, .int (n.runp s w p.1).1), (6, .sl 0 p.2.1.length 0 p.2.2)]) (fun p => [⟨none, p.2.1.map .int, stOf p.2.1⟩]) (fun p => (0 ≤ p.1 ∧ p.1 ≤ w.length) ∧ stOk p.1.toNat (some p.2) ∧ stL (some p.2) = (n.runp s w p.1).2) (fun p => (w.length - p.1).toNat) (0, [], 0) rfl ⟨⟨by simp, by simp⟩, by simp [stOk], rfl⟩ ?_
  rintro ⟨i, xs, k⟩ ⟨⟨i0, i1⟩, h1, h2⟩
  dsimp only at i0 i1 h1 h2 ⊢
  obtain ⟨⟨a0, a1⟩, b, c⟩ := run_inv hn hw hu hs i0 i1
  by_cases hi : i < w.length
  · have e := runp_succ (n := n) (s := s) i0 hi
    have hx := hw.2 _ (ix_mem i0 hi)
    have ln := hn.lens
    have rw' := hn.row _ a0 a1
    have hc := hn.calls
    have hin := hn.inns
    have hrt := hn.rets
    have hw1 := hw.1
    have k1 : k ≤ i.toNat := h1.2
    have k2 : k ≤ xs.length := h1.1
    by_cases c1 : ix w i < n.calls
    · have p1 := stL_push (x := ix (ix n.push (n.runp s w i).1) (ix w i)) h1
      have e' : n.runp s w (i + 1) = (ix (ix n.call (n.runp s w i).1) (ix w i), ix (ix n.push (n.runp s w i).1) (ix w i) :: (n.runp s w i).2) := by rw [e, Nst.step, if_pos c1]
      have d1 : (n.runp s w i).1 < n.call.length := by omega
      have d2 : (n.runp s w i).1 < n.push.length := by omega
      have d3 : ix w i < (ix n.call (n.runp s w i).1).length := by omega
      have d4 : ix w i < (ix n.push (n.runp s w i).1).length := by omega
      rw [h2] at p1
      by_cases hk : xs.length = k
      · simp only [stPush, hk, if_true] at p1
        simp [hi, i0, c1, show ¬ n.calls ≤ ix w i by omega, hk, a0, d1, d2, d3, d4, hx.1, -More_nor]
        (repeat' apply And.intro) <;> try omega
        refine More_of (i + 1, xs ++ [ix (ix n.push (n.runp s w i).1) (ix w i)], k + 1) (by simp [e', hk]) (by simp) ⟨⟨by dsimp only; omega, by dsimp only; omega⟩, ?_, ?_⟩ (by dsimp only; omega)
        · show stOk (i + 1).toNat _
          rw [show (i + 1).toNat = i.toNat + 1 by omega]; exact p1.2
        · show _ = (n.runp s w (i + 1)).2
          rw [e']; exact p1.1
      · simp only [stPush, hk, if_false] at p1
        simp [hi, i0, c1, show ¬ n.calls ≤ ix w i by omega, hk, a0, d1, d2, d3, d4, hx.1, show k < xs.length by omega, -More_nor]
        (repeat' apply And.intro) <;> try omega
        refine More_of (i + 1, xs.set k (ix (ix n.push (n.runp s w i).1) (ix w i)), k + 1) (by simp [e']) (by simp) ⟨⟨by dsimp only; omega, by dsimp only; omega⟩, ?_, ?_⟩ (by dsimp only; omega)
        · show stOk (i + 1).toNat _
          rw [show (i + 1).toNat = i.toNat + 1 by omega]; exact p1.2
        · show _ = (n.runp s w (i + 1)).2
          rw [e']; exact p1.1
    by_cases c2 : ix w i < n.calls + n.inns
    · have e' : n.runp s w (i + 1) = (ix (ix n.inner (n.runp s w i).1) (ix w i - n.calls), (n.runp s w i).2) := by rw [e, Nst.step, if_neg c1, if_pos c2]
      have d1 : (n.runp s w i).1 < n.inner.length := by omega
      have d2 : ix w i - n.calls < (ix n.inner (n.runp s w i).1).length := by omega
      simp [hi, i0, c1, c2, show n.calls ≤ ix w i by omega, show ¬ n.calls + n.inns ≤ ix w i by omega, a0, d1, d2, -More_nor]
      (repeat' apply And.intro) <;> try omega
      refine More_of (i + 1, xs, k) (by simp [e']) (by simp) ⟨⟨by dsimp only; omega, by dsimp only; omega⟩, ?_, ?_⟩ (by dsimp only; omega)
      · simp only [stOk] at h1 ⊢; omega
      · show _ = (n.runp s w (i + 1)).2
        rw [e']; exact h2
    · have e' : n.runp s w (i + 1) = (ix (ix (ix n.pop (n.runp s w i).1) (hd (n.runp s w i).2)) (ix w i - n.calls - n.inns), (n.runp s w i).2.tail) := by rw [e, Nst.step, if_neg c1, if_neg c2]
      have hup := hu (i + 1) (by omega) (by omega)
      rw [lvp_succ i0 hi] at hup
      simp only [Nst.lev3, Nst.lev, if_neg c1, if_pos (show n.calls + n.inns ≤ ix w i by omega)] at hup
      have hne : (n.runp s w i).2 ≠ [] := fun h => by rw [h] at b; simp at b; omega
      obtain ⟨p1, p2, _, _, rfl2, p3, p4, p5⟩ := stL_pop h1 (by rw [h2]; exact hne)
      cases rfl2
      rw [h2] at p1 p5
      have hg : hd (n.runp s w i).2 ∈ (n.runp s w i).2 := by
        obtain ⟨g, l, hgl⟩ := List.exists_cons_of_ne_nil hne
        rw [hgl, hd_cons]; simp
      have qg := c _ hg
      have d1 : (n.runp s w i).1 < n.pop.length := by omega
      have d2 : hd (n.runp s w i).2 < (ix n.pop (n.runp s w i).1).length := by omega
      have d3 := hn.popl _ _ a0 a1 qg.1 qg.2
      have d4 : ix w i - n.calls - n.inns < (ix (ix n.pop (n.runp s w i).1) (hd (n.runp s w i).2)).length := by omega
      have hxs : xs ≠ [] := fun h => by rw [h] at p4; simp at p4; omega
      have p5' : ix xs ((k - 1 : Nat) : Int) = hd (n.runp s w i).2 := by rw [show (((k - 1 : Nat) : Int)) = (k : Int) - 1 by omega]; exact p5
      simp [hi, i0, c1, c2, show n.calls ≤ ix w i by omega, show n.calls + n.inns ≤ ix w i by omega, a0, d1, -More_nor, p5, p5', hxs]
      (repeat' apply And.intro) <;> try omega
      refine More_of (i + 1, xs, k - 1) (by simp [e']) (by simp) ⟨⟨by dsimp only; omega, by dsimp only; omega⟩, ?_, ?_⟩ (by dsimp only; omega)
      · simp only [stPop, stOk] at p2 ⊢; omega
      · show _ = (n.runp s w (i + 1)).2
        rw [e']; exact p1
  · rw [← runp_end (n := n) (s := s) (w := w) (i := i) (by omega)]
    simp [hi]
/-! ### Acceptance -/
/-- Well-matched: nothing is closed that is not open, and all is closed. -/
def Nst.mat (n : Nst) (w : List Int) : Bool := decide ((n.levs w).2.2 = 0) && decide ((n.levs w).1 = 0)
def Nst.syms (n : Nst) : Int := n.calls + n.inns + n.rets
def Nst.matched (n : Nst) (w : List Int) : Bool := decide (n.validE = 0) && (decide (wordE w n.syms = 0) && n.mat w)
theorem Ok.sum {n : Nst} (h : n.Ok) : inR (n.calls + n.inns) = true ∧ inR (n.calls + n.inns + n.rets) = true := by
  have := h.calls; have := h.inns; have := h.rets
  rw [inR_iff, inR_iff]; omega
theorem Matched_s (n : Nst) (hf : n.fits) (w : List Int) (hl : (w.length : Int) ≤ 9223372036854775807) : PC F_nested_Matched [n.av, iL w] = some (.bool (n.matched w)) := by
  refine PCx_of (go_nested_Matched rfl ?_)
  have e1 := Valid_s n hf
  by_cases hv : n.validE = 0
  · have ok := validE_ok hv
    have e2 := symbols_s n (Ok.sum ok).1 (Ok.sum ok).2
    have e3 : PC F_word_Check [iL w, .int (n.calls + n.inns + n.rets)] = some (.int (wordE w n.syms)) := wCheck_s w _ hl
    by_cases hw : wordE w n.syms = 0
    · have e4 : PC F_nested_levels [n.av, iL w] = some (.tup [.int (n.levs w).2.1, .bool (n.mat w)]) := levels_s n w (Ok.sum ok).1 (by have := (wordE_zero hw).1; omega)
      simp [e1, hv, e2, e3, hw, e4, Nst.matched]
    · simp [e1, hv, e2, e3, hw, Nst.matched]
  · simp [e1, hv, Nst.matched]
theorem RMatched_s (n : Nst) (hf : n.fits) (w : List Int) (hl : (w.length : Int) ≤ 9223372036854775807) : PC F_ref43_Matched [n.av, iL w] = some (.bool (n.matched w)) := by
  refine PCx_of (go_ref43_Matched rfl ?_)
  have e1 := RValid_s n hf
  by_cases hv : n.validE = 0
  · have ok := validE_ok hv
    have e2 := rsymbols_s n (Ok.sum ok).1 (Ok.sum ok).2
    have e3 : PC F_ref01_Check [iL w, .int (n.calls + n.inns + n.rets)] = some (.int (wordE w n.syms)) := rCheck_s w _ hl
    by_cases hw : wordE w n.syms = 0
    · have e4 := depths_s n w (Ok.sum ok).1 ok.inns.1 (by have := (wordE_zero hw).1; omega)
      by_cases hz : (n.levs w).2.2 = 0 <;> simp [e1, hv, e2, e3, hw, e4, Nst.matched, Nst.mat, hz]
    · simp [e1, hv, e2, e3, hw, Nst.matched]
  · simp [e1, hv, Nst.matched]
/-- Whether a word is accepted, or the error. -/
def Nst.acc (n : Nst) (w : List Int) : Bool × Int :=
  if n.validE ≠ 0 then (false, n.validE)
  else if wordE w n.syms ≠ 0 then (false, wordE w n.syms)
  else if 64 < (n.levs w).2.1 then (false, 16)
  else if n.mat w = false then (false, 0)
  else (ix n.accept (n.run n.start w).1, 0)
theorem mat_t {n : Nst} {w : List Int} (h : n.mat w = true) : (n.levs w).2.2 = 0 ∧ (n.levs w).1 = 0 := by simpa [Nst.mat] using h
theorem RAccepts_s (n : Nst) (hf : n.fits) (w : List Int) (hl : (w.length : Int) ≤ 9223372036854775807) : PC F_ref43_Accepts [n.av, iL w] = some (.tup [.bool (n.acc w).1, .int (n.acc w).2]) := by
  refine PCx_of (go_ref43_Accepts rfl ?_)
  have e1 := RValid_s n hf
  by_cases hv : n.validE = 0
  · have ok := validE_ok hv
    have e2 := rsymbols_s n (Ok.sum ok).1 (Ok.sum ok).2
    have e3 : PC F_ref01_Check [iL w, .int (n.calls + n.inns + n.rets)] = some (.int (wordE w n.syms)) := rCheck_s w _ hl
    by_cases hw : wordE w n.syms = 0
    · have e4 := depths_s n w (Ok.sum ok).1 ok.inns.1 (by have := (wordE_zero hw).1; omega)
      have e5 := RMatched_s n hf w hl
      by_cases hm : 64 < (n.levs w).2.1
      · simp [e1, hv, e2, e3, hw, e4, hm, Nst.acc]
      · by_cases hb : n.mat w = true
        · have e6 := From_s n ok w (wordE_zero hw) (up_of (mat_t hb).1) n.start ok.start
          have q := run_inv ok (wordE_zero hw) (up_of (mat_t hb).1) ok.start (i := w.length) (by omega) (by omega)
          rw [runp_end (by omega)] at q
          have e5' : PC F_ref43_Matched [n.av, iL w] = some (.bool true) := by rw [e5]; simp [Nst.matched, hv, hw, hb]
          simp [e1, hv, e2, e3, hw, e4, hm, e5', e6, q.1.1, q.1.2, Nst.acc, hb]
        · have e5' : PC F_ref43_Matched [n.av, iL w] = some (.bool false) := by rw [e5]; simp [Nst.matched, hv, hw, hb]
          simp [e1, hv, e2, e3, hw, e4, hm, e5', Nst.acc, hb]
    · simp [e1, hv, e2, e3, hw, Nst.acc]
  · simp [e1, hv, Nst.acc]
theorem Accepts_s (n : Nst) (hf : n.fits) (w : List Int) (hl : (w.length : Int) ≤ 9223372036854775807) : PC F_nested_Accepts [n.av, iL w] = some (.tup [.bool (n.acc w).1, .int (n.acc w).2]) := by
  refine PCx_of (go_nested_Accepts rfl ?_)
  have e1 := Valid_s n hf
  by_cases hv : n.validE = 0
  case neg => simp [e1, hv, Nst.acc]
  have ok := validE_ok hv
  have e2 := symbols_s n (Ok.sum ok).1 (Ok.sum ok).2
  have e3 : PC F_word_Check [iL w, .int (n.calls + n.inns + n.rets)] = some (.int (wordE w n.syms)) := wCheck_s w _ hl
  by_cases hw : wordE w n.syms = 0
  case neg => simp [e1, hv, e2, e3, hw, Nst.acc]
  have hwd := wordE_zero hw
  have e4 : PC F_nested_levels [n.av, iL w] = some (.tup [.int (n.levs w).2.1, .bool (n.mat w)]) := levels_s n w (Ok.sum ok).1 (by have := hwd.1; omega)
  by_cases hm : 64 < (n.levs w).2.1
  · simp [e1, hv, e2, e3, hw, e4, hm, Nst.acc]
  by_cases hb : n.mat w = true
  case neg => simp [e1, hv, e2, e3, hw, e4, hm, hb, Nst.acc]
  have hu := up_of (mat_t hb).1
  have hs := ok.start
  rw [show n.acc w = (ix n.accept (n.run n.start w).1, 0) by simp [Nst.acc, hv, hw, hm, hb]]
  simp [e1, hv, e2, e3, hw, e4, hm, hb]
  refine W_iter (fun p : Int × Option (List Int × Nat) => [(7, .int p.1), (12, .int (n.runp n.start w p.1).1)]) (fun p => stC p.2) (fun p => (0 ≤ p.1 ∧ p.1 ≤ w.length) ∧ stOk p.1.toNat p.2 ∧ stL p.2 = (n.runp n.start w p.1).2) (fun p => (w.length - p.1).toNat) (0, none) (by rfl) ⟨⟨by simp, by simp⟩, by simp [stOk], rfl⟩ ?_
  rintro ⟨i, o⟩ ⟨⟨i0, i1⟩, h1, h2⟩
  dsimp only at i0 i1 h1 h2 ⊢
  obtain ⟨⟨a0, a1⟩, b, c⟩ := run_inv ok hwd hu hs i0 i1
  by_cases hi : i < w.length
  · have e := runp_succ (n := n) (s := n.start) i0 hi
    have hx := hwd.2 _ (ix_mem i0 hi)
    have ln := ok.lens
    have rw' := ok.row _ a0 a1
    have hc := ok.calls
    have hin := ok.inns
    have hrt := ok.rets
    have hw1 := hwd.1
    have hso : stOk 100000 o := by
      cases o with
      | none => trivial
      | some p => obtain ⟨xs, k⟩ := p; simp only [stOk] at h1 ⊢; omega
    by_cases c1 : ix w i < n.calls
    · have p1 := stL_push (x := ix (ix n.push (n.runp n.start w i).1) (ix w i)) h1
      have e' : n.runp n.start w (i + 1) = (ix (ix n.call (n.runp n.start w i).1) (ix w i), ix (ix n.push (n.runp n.start w i).1) (ix w i) :: (n.runp n.start w i).2) := by rw [e, Nst.step, if_pos c1]
      have q1 := scall_s n (n.runp n.start w i).1 (ix w i) a0 (by omega) (by omega) hx.1 (by omega) (by omega)
      have q2 := push_s (ix (ix n.push (n.runp n.start w i).1) (ix w i)) o hso
      simp [hi, i0, c1, q1, q2, -More_nor]
      (repeat' apply And.intro) <;> try omega
      refine More_of (i + 1, stPush (ix (ix n.push (n.runp n.start w i).1) (ix w i)) o) (by simp [e']) (by simp) ⟨⟨by dsimp only; omega, by dsimp only; omega⟩, ?_, ?_⟩ (by dsimp only; omega)
      · show stOk (i + 1).toNat _
        rw [show (i + 1).toNat = i.toNat + 1 by omega]; exact p1.2
      · show _ = (n.runp n.start w (i + 1)).2
        rw [e', ← h2]; exact p1.1
    by_cases c2 : ix w i < n.calls + n.inns
    · have e' : n.runp n.start w (i + 1) = (ix (ix n.inner (n.runp n.start w i).1) (ix w i - n.calls), (n.runp n.start w i).2) := by rw [e, Nst.step, if_neg c1, if_pos c2]
      have q1 := sinner_s n (n.runp n.start w i).1 (ix w i - n.calls) a0 (by omega) (by omega) (by omega)
      simp [hi, i0, c1, c2, q1, -More_nor]
      (repeat' apply And.intro) <;> try omega
      refine More_of (i + 1, o) (by simp [e']) (by simp) ⟨⟨by dsimp only; omega, by dsimp only; omega⟩, ?_, ?_⟩ (by dsimp only; omega)
      · cases o with
        | none => trivial
        | some p => obtain ⟨xs, k⟩ := p; simp only [stOk] at h1 ⊢; omega
      · show _ = (n.runp n.start w (i + 1)).2
        rw [e']; exact h2
    · have e' : n.runp n.start w (i + 1) = (ix (ix (ix n.pop (n.runp n.start w i).1) (hd (n.runp n.start w i).2)) (ix w i - n.calls - n.inns), (n.runp n.start w i).2.tail) := by rw [e, Nst.step, if_neg c1, if_neg c2]
      have hup := hu (i + 1) (by omega) (by omega)
      rw [lvp_succ i0 hi] at hup
      simp only [Nst.lev3, Nst.lev, if_neg c1, if_pos (show n.calls + n.inns ≤ ix w i by omega)] at hup
      have hne : (n.runp n.start w i).2 ≠ [] := fun h => by rw [h] at b; simp at b; omega
      obtain ⟨p1, p2, xs, k, rfl, p3, p4, p5⟩ := stL_pop h1 (by rw [h2]; exact hne)
      rw [h2] at p1 p5
      have hg : hd (n.runp n.start w i).2 ∈ (n.runp n.start w i).2 := by
        obtain ⟨g, l, hgl⟩ := List.exists_cons_of_ne_nil hne
        rw [hgl, hd_cons]; simp
      have qg := c _ hg
      have d3 := ok.popl _ _ a0 a1 qg.1 qg.2
      have q1 := spop_s n (n.runp n.start w i).1 (hd (n.runp n.start w i).2) (ix w i - n.calls - n.inns) a0 (by omega) qg.1 (by omega) (by omega) (by omega)
      have q2 := pop_s xs k p3 p4 hso.2
      rw [p5] at q2
      simp [hi, i0, c1, c2, q1, q2, -More_nor]
      (repeat' apply And.intro) <;> try omega
      refine More_of (i + 1, stPop (some (xs, k))) (by simp [e']) (by simp) ⟨⟨by dsimp only; omega, by dsimp only; omega⟩, ?_, ?_⟩ (by dsimp only; omega)
      · simp only [stPop, stOk] at p2 ⊢; omega
      · show _ = (n.runp n.start w (i + 1)).2
        rw [e']; exact p1
  · rw [runp_end (n := n) (s := n.start) (w := w) (i := i) (by omega)] at a0 a1 ⊢
    simp [hi, a0, a1]
end Ab
