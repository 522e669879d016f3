/- Runs of an automaton over a word: the program's and the document's. Condition: none. -/
import Derived.Test.YtgaidfgpedibhaaN43ValidR
set_option linter.all false
set_option maxRecDepth 100000
set_option maxHeartbeats 4000000
namespace Ab
/-! ### Words -/
theorem foldl_take {α β : Type} [Inhabited β] {f : α → β → α} {a : α} {w : List β} {i : Int} (h0 : 0 ≤ i) (h1 : i < w.length) : (w.take (i + 1).toNat).foldl f a = f ((w.take i.toNat).foldl f a) (ix w i) := by
  have e : w.take (i + 1).toNat = w.take i.toNat ++ [ix w i] := by
    rw [show (i + 1).toNat = i.toNat + 1 by omega, List.take_add_one, ix_eq h0 h1]
    rfl
  rw [e, List.foldl_append]; rfl
theorem foldl_take0 {α β : Type} {f : α → β → α} {a : α} {w : List β} : (w.take (0 : Int).toNat).foldl f a = a := rfl
theorem foldl_take1 {α β : Type} {f : α → β → α} {a : α} {w : List β} {i : Int} (h : (w.length : Int) ≤ i) : (w.take i.toNat).foldl f a = w.foldl f a := by
  rw [List.take_of_length_le (by omega)]
/-- The error of a word. -/
def wordE (w : List Int) (k : Int) : Int := if k < 1 ∨ 1024 < k then 2 else if 1024 < (w.length : Int) then 3 else if bad w k = true then 1 else 0
theorem wcheck1_s (x k : Int) : PC F_word_Check_1 [.int x, .pimm (.int k)] = some (.bool (out1 k x)) := by
  refine PCx_of (go_word_Check_1 rfl ?_)
  simp [out1]
  omega
theorem permitted_s (k : Int) : PC F_word_permitted [.int k] = some (.bool (decide (1 ≤ k) && decide (k ≤ 1024))) := by
  refine PCx_of (go_word_permitted rfl ?_)
  simp
  omega
theorem size01_s (k : Int) : PC F_ref01_Size [.int k] = some (.bool (decide (1 ≤ k) && decide (k ≤ 1024))) := by
  refine PCx_of (go_ref01_Size rfl ?_)
  simp
  omega
theorem wCheck_s (w : List Int) (k : Int) (hl : (w.length : Int) ≤ 9223372036854775807) : PC F_word_Check [iL w, .int k] = some (.int (wordE w k)) := by
  refine PCx_of (go_word_Check rfl ?_)
  have e1 := permitted_s k
  by_cases hk : k < 1 ∨ 1024 < k
  · simp [e1, show (decide (1 ≤ k) && decide (k ≤ 1024)) = false by simp; omega]
    simp [wordE, hk]
  have e2 : PC F_slices_ContainsFunc_Sint_int [iL w, .func F_word_Check_1 [.pimm (.int k)]] = some (.bool (bad w k)) := ContainsFunc_s w F_word_Check_1 [.pimm (.int k)] (out1 k) hl rfl rfl (fun x _ => wcheck1_s x k)
  simp [e1, show (decide (1 ≤ k) && decide (k ≤ 1024)) = true by simp; omega, e2]
  simp only [wordE, if_neg hk]
  exact ⟨fun a => by simp [a], fun a => ⟨fun b => by simp [b]; omega, fun b => by simp [b]; omega⟩⟩
theorem rCheck_s (w : List Int) (k : Int) (hl : (w.length : Int) ≤ 9223372036854775807) : PC F_ref01_Check [iL w, .int k] = some (.int (wordE w k)) := by
  refine PCx_of (go_ref01_Check rfl ?_)
  have e1 := size01_s k
  by_cases hk : k < 1 ∨ 1024 < k
  · simp [e1, show (decide (1 ≤ k) && decide (k ≤ 1024)) = false by simp; omega]
    simp [wordE, hk]
  simp [e1, show (decide (1 ≤ k) && decide (k ≤ 1024)) = true by simp; omega]
  refine ⟨fun a => by simp [wordE, hk, a], fun a => ?_⟩
  refine W_iter (fun i : Int => [(2, .int i)]) (fun _ => []) (fun i => 0 ≤ i ∧ i ≤ w.length ∧ ∀ j, 0 ≤ j → j < i → out1 k (ix w j) = false) (fun i => (w.length - i).toNat) 0 rfl ⟨by omega, by omega, upto_zero⟩ fun i ⟨i0, i1, i2⟩ => ?_
  by_cases hi : i < w.length
  · simp [hi, i0]
    have q : out1 k (ix w i) = true → 1 = wordE w k := fun h => by rw [wordE, if_neg hk, if_neg (by omega), if_pos (bad_t i0 hi h)]
    exact ⟨fun b => q (by simp [out1, b]), fun b => ⟨fun c => q (by simp [out1, c]), fun c => ⟨by omega, ⟨by omega, by omega, upto_succ (out1_f.2 ⟨b, c⟩) i2⟩, by omega⟩⟩⟩
  · simp [hi]
    rw [wordE, if_neg hk, if_neg (by omega), bad_n fun j a b => i2 j a (by omega)]
    rfl
/-! ### Levels -/
/-- The difference of calls and returns behind one more symbol. -/
def Nst.lev (n : Nst) (l x : Int) : Int := if x < n.calls then l + 1 else if n.calls + n.inns ≤ x then l - 1 else l
/-- Now, the greatest, the least. -/
def Nst.lev3 (n : Nst) (p : Int × Int × Int) (x : Int) : Int × Int × Int := (n.lev p.1 x, max p.2.1 (n.lev p.1 x), min p.2.2 (n.lev p.1 x))
def Nst.levs (n : Nst) (w : List Int) : Int × Int × Int := w.foldl n.lev3 (0, 0, 0)
def Nst.lvp (n : Nst) (w : List Int) (i : Int) : Int × Int × Int := (w.take i.toNat).foldl n.lev3 (0, 0, 0)
theorem lvp_succ {n : Nst} {w : List Int} {i : Int} (h0 : 0 ≤ i) (h1 : i < w.length) : n.lvp w (i + 1) = n.lev3 (n.lvp w i) (ix w i) := foldl_take h0 h1
theorem lvp_zero {n : Nst} {w : List Int} : n.lvp w 0 = (0, 0, 0) := rfl
theorem lvp_end {n : Nst} {w : List Int} {i : Int} (h : (w.length : Int) ≤ i) : n.lvp w i = n.levs w := foldl_take1 h
theorem lvp_nat {n : Nst} {w : List Int} (i : Nat) (h : i ≤ w.length) : -i ≤ (n.lvp w i).1 ∧ (n.lvp w i).1 ≤ i ∧ 0 ≤ (n.lvp w i).2.1 ∧ (n.lvp w i).2.1 ≤ i ∧ (n.lvp w i).2.2 ≤ 0 ∧ -i ≤ (n.lvp w i).2.2 := by
  induction i with
  | zero => simp [lvp_zero]
  | succ i ih =>
    have e := lvp_succ (n := n) (w := w) (i := i) (by omega) (by omega)
    have := ih (by omega)
    rw [show ((i + 1 : Nat) : Int) = (i : Int) + 1 by omega, e]
    simp only [Nst.lev3, Nst.lev]
    split <;> (try split) <;> omega
theorem lvp_bound {n : Nst} {w : List Int} {i : Int} (h0 : 0 ≤ i) (h1 : i ≤ w.length) : -i ≤ (n.lvp w i).1 ∧ (n.lvp w i).1 ≤ i ∧ 0 ≤ (n.lvp w i).2.1 ∧ (n.lvp w i).2.1 ≤ i ∧ (n.lvp w i).2.2 ≤ 0 ∧ -i ≤ (n.lvp w i).2.2 := by
  have := lvp_nat (n := n) (w := w) i.toNat (by omega)
  rw [show ((i.toNat : Nat) : Int) = i by omega] at this
  exact this
theorem levels_s (n : Nst) (w : List Int) (hi : inR (n.calls + n.inns) = true) (hl : (w.length : Int) ≤ 1000000) : PC F_nested_levels [n.av, iL w] = some (.tup [.int (n.levs w).2.1, .bool (decide ((n.levs w).2.2 = 0) && decide ((n.levs w).1 = 0))]) := by
  refine PCx_of (go_nested_levels rfl ?_)
  rw [inR_iff] at hi
  simp
  refine W_iter (fun i : Int => [(2, .int i), (7, .int (n.lvp w i).1), (8, .int (n.lvp w i).2.1), (9, .bool (decide ((n.lvp w i).2.2 = 0)))]) (fun _ => []) (fun i => 0 ≤ i ∧ i ≤ w.length) (fun i => (w.length - i).toNat) 0 rfl (by simp) fun i ⟨i0, i1⟩ => ?_
  have B := lvp_bound (n := n) i0 i1
  by_cases hi : i < w.length
  · have e := lvp_succ (n := n) i0 hi
    simp [hi, i0, and_assoc]
    refine ⟨fun c1 => ?_, fun c1 => ⟨by omega, by omega, fun c2 => ?_, fun c2 => ?_⟩⟩
    · simp only [e, Nst.lev3, Nst.lev, if_pos c1]
      (repeat' (first | apply And.intro | intro _)) <;> first | trivial | omega
    · simp only [e, Nst.lev3, Nst.lev, if_neg (show ¬ ix w i < n.calls by omega), if_pos c2]
      (repeat' (first | apply And.intro | intro _)) <;> first | trivial | omega
    · simp only [e, Nst.lev3, Nst.lev, if_neg (show ¬ ix w i < n.calls by omega), if_neg (show ¬ n.calls + n.inns ≤ ix w i by omega)]
      (repeat' (first | apply And.intro | intro _)) <;> first | trivial | omega
  · have e := lvp_end (n := n) (w := w) (i := i) (by omega)
    rw [e] at B ⊢
    simp [hi]
    omega
theorem depths_s (n : Nst) (w : List Int) (hi : inR (n.calls + n.inns) = true) (h0 : 0 ≤ n.inns) (hl : (w.length : Int) ≤ 1000000) : PC F_ref43_depths [n.av, iL w] = some (.tup [.int (n.levs w).2.1, .int (n.levs w).2.2, .int (n.levs w).1]) := by
  refine PCx_of (go_ref43_depths rfl ?_)
  rw [inR_iff] at hi
  simp
  refine W_iter (fun i : Int => [(2, .int i), (4, .int (n.lvp w i).1), (5, .int (n.lvp w i).2.1), (6, .int (n.lvp w i).2.2)]) (fun _ => []) (fun i => 0 ≤ i ∧ i ≤ w.length) (fun i => (w.length - i).toNat) 0 rfl (by simp) fun i ⟨i0, i1⟩ => ?_
  have B := lvp_bound (n := n) i0 i1
  by_cases hi : i < w.length
  · have e := lvp_succ (n := n) i0 hi
    simp [hi, i0, and_assoc]
    refine ⟨fun c1 => ?_, fun c1 => ⟨by omega, by omega, fun c2 => ?_, fun c2 => ?_⟩⟩
    · simp only [e, Nst.lev3, Nst.lev, if_pos c1]
      (repeat' (first | apply And.intro | intro _)) <;> first | trivial | omega
    · simp only [e, Nst.lev3, Nst.lev, if_neg (show ¬ ix w i < n.calls by omega), if_pos c2]
      (repeat' (first | apply And.intro | intro _)) <;> first | trivial | omega
    · simp only [e, Nst.lev3, Nst.lev, if_neg (show ¬ ix w i < n.calls by omega), if_neg (show ¬ n.calls + n.inns ≤ ix w i by omega)]
      (repeat' (first | apply And.intro | intro _)) <;> first | trivial | omega
  · have e := lvp_end (n := n) (w := w) (i := i) (by omega)
    rw [e] at B ⊢
    simp [hi]
/-! ### A valid automaton -/
structure Nst.Ok (n : Nst) : Prop where
  calls : 0 ≤ n.calls ∧ n.calls ≤ 64
  inns : 0 ≤ n.inns ∧ n.inns ≤ 64
  rets : 0 ≤ n.rets ∧ n.rets ≤ 64
  syms : 1 ≤ n.calls + n.inns + n.rets ∧ n.calls + n.inns + n.rets ≤ 64
  stack : 1 ≤ n.stack ∧ n.stack ≤ 128
  states : 1 ≤ (n.accept.length : Int) ∧ (n.accept.length : Int) ≤ 128
  start : 0 ≤ n.start ∧ n.start < n.accept.length
  lens : (n.call.length : Int) = n.accept.length ∧ (n.push.length : Int) = n.accept.length ∧ (n.inner.length : Int) = n.accept.length ∧ (n.pop.length : Int) = n.accept.length
  row : ∀ s, 0 ≤ s → s < (n.accept.length : Int) → ((ix n.call s).length : Int) = n.calls ∧ ((ix n.push s).length : Int) = n.calls ∧ ((ix n.inner s).length : Int) = n.inns ∧ ((ix n.pop s).length : Int) = n.stack
  call : ∀ s c, 0 ≤ s → s < (n.accept.length : Int) → 0 ≤ c → c < n.calls → 0 ≤ ix (ix n.call s) c ∧ ix (ix n.call s) c < n.accept.length
  push : ∀ s c, 0 ≤ s → s < (n.accept.length : Int) → 0 ≤ c → c < n.calls → 0 ≤ ix (ix n.push s) c ∧ ix (ix n.push s) c < n.stack
  inner : ∀ s c, 0 ≤ s → s < (n.accept.length : Int) → 0 ≤ c → c < n.inns → 0 ≤ ix (ix n.inner s) c ∧ ix (ix n.inner s) c < n.accept.length
  popl : ∀ s g, 0 ≤ s → s < (n.accept.length : Int) → 0 ≤ g → g < n.stack → ((ix (ix n.pop s) g).length : Int) = n.rets
  pop : ∀ s g r, 0 ≤ s → s < (n.accept.length : Int) → 0 ≤ g → g < n.stack → 0 ≤ r → r < n.rets → 0 ≤ ix (ix (ix n.pop s) g) r ∧ ix (ix (ix n.pop s) g) r < n.accept.length
theorem sizeE_zero {n : Nst} (h : n.sizeE = 0) : (0 ≤ n.calls ∧ n.calls ≤ 64) ∧ (0 ≤ n.inns ∧ n.inns ≤ 64) ∧ (0 ≤ n.rets ∧ n.rets ≤ 64) ∧ (1 ≤ n.calls + n.inns + n.rets ∧ n.calls + n.inns + n.rets ≤ 64) ∧ (1 ≤ n.stack ∧ n.stack ≤ 128) ∧ (1 ≤ (n.accept.length : Int) ∧ (n.accept.length : Int) ≤ 128) ∧ (0 ≤ n.start ∧ n.start < n.accept.length) ∧ (n.call.length : Int) = n.accept.length ∧ (n.push.length : Int) = n.accept.length ∧ (n.inner.length : Int) = n.accept.length ∧ (n.pop.length : Int) = n.accept.length := by
  unfold Nst.sizeE at h
  have hl : n.accept ≠ [] → 1 ≤ (n.accept.length : Int) := fun h => by
    have := List.length_pos_iff.2 h
    omega
  by_cases ha : n.accept = []
  · simp only [if_pos ha] at h
    (repeat' split at h) <;> omega
  · have := hl ha
    simp only [if_neg ha] at h
    (repeat' split at h) <;> omega
theorem rowE_zero {n : Nst} {s : Int} (h : n.rowE s = 0) : (((ix n.call s).length : Int) = n.calls ∧ ((ix n.push s).length : Int) = n.calls ∧ ((ix n.inner s).length : Int) = n.inns ∧ ((ix n.pop s).length : Int) = n.stack) ∧ bad (ix n.call s) n.accept.length = false ∧ bad (ix n.push s) n.stack = false ∧ bad (ix n.inner s) n.accept.length = false ∧ ∀ g, 0 ≤ g → g < n.stack → ((ix (ix n.pop s) g).length : Int) = n.rets ∧ bad (ix (ix n.pop s) g) n.accept.length = false := by
  unfold Nst.rowE at h
  split at h
  · simp at h
  rename_i a
  split at h
  · simp at h
  rename_i b
  simp only [not_or, Classical.not_not, Bool.not_eq_true] at a b
  refine ⟨a, b.1, b.2.1, b.2.2, fun g g0 g1 => ?_⟩
  have := firstN_eq.1 h g g0 (by omega)
  simp only [Nst.popE] at this
  split at this
  · simp at this
  rename_i c
  split at this
  · simp at this
  rename_i d
  exact ⟨by simpa using c, by simpa using d⟩
theorem validE_ok {n : Nst} (h : n.validE = 0) : n.Ok := by
  have hs : n.sizeE = 0 := by
    unfold Nst.validE at h
    split at h
    · rename_i a; exact absurd h a
    · rename_i a; simpa using a
  have hr : ∀ s, 0 ≤ s → s < (n.accept.length : Int) → n.rowE s = 0 := by
    unfold Nst.validE at h
    rw [if_neg (by simpa using hs)] at h
    exact firstN_eq.1 h
  obtain ⟨h1, h2, h3, h4, h5, h6, h7, h8⟩ := sizeE_zero hs
  have R := fun s s0 s1 => rowE_zero (hr s s0 s1)
  exact ⟨h1, h2, h3, h4, h5, h6, h7, h8, fun s s0 s1 => (R s s0 s1).1, fun s c s0 s1 c0 c1 => bad_fi.1 (R s s0 s1).2.1 c c0 (by have := (R s s0 s1).1; omega), fun s c s0 s1 c0 c1 => bad_fi.1 (R s s0 s1).2.2.1 c c0 (by have := (R s s0 s1).1; omega), fun s c s0 s1 c0 c1 => bad_fi.1 (R s s0 s1).2.2.2.1 c c0 (by have := (R s s0 s1).1; omega), fun s g s0 s1 g0 g1 => ((R s s0 s1).2.2.2.2 g g0 g1).1, fun s g r s0 s1 g0 g1 r0 r1 => bad_fi.1 ((R s s0 s1).2.2.2.2 g g0 g1).2 r r0 (by have := ((R s s0 s1).2.2.2.2 g g0 g1).1; omega)⟩
/-- A word of the automaton's symbols. -/
def Nst.word (n : Nst) (w : List Int) : Prop := (w.length : Int) ≤ 1024 ∧ ∀ x ∈ w, 0 ≤ x ∧ x < n.calls + n.inns + n.rets
theorem wordE_zero {n : Nst} {w : List Int} (h : wordE w (n.calls + n.inns + n.rets) = 0) : n.word w := by
  unfold wordE at h
  (repeat' split at h) <;> try (simp at h; done)
  rename_i a b c
  exact ⟨by omega, fun x hx => bad_f.1 (by simpa using c) x hx⟩
end Ab
