/- The check of an automaton, by the program and by the document. Condition: none. -/
import Derived.Test.YtgaidfgpedibhaaCom
set_option linter.all false
set_option maxRecDepth 100000
set_option maxHeartbeats 4000000
namespace Ab
structure Nst where
  calls : Int
  inns : Int
  rets : Int
  stack : Int
  start : Int
  accept : List Bool
  call : List (List Int)
  push : List (List Int)
  inner : List (List Int)
  pop : List (List (List Int))
  deriving Inhabited
abbrev Nst.av (n : Nst) : AV := .agg [.int n.calls, .int n.inns, .int n.rets, .int n.stack, .int n.start, bL n.accept, iLL n.call, iLL n.push, iLL n.inner, iLLL n.pop]
/-- The lengths of lists are those of lists in memory, the numbers fit. -/
structure Nst.fits (n : Nst) : Prop where
  calls : inR n.calls = true
  inns : inR n.inns = true
  rets : inR n.rets = true
  stack : inR n.stack = true
  start : inR n.start = true
  accept : (n.accept.length : Int) ≤ 9223372036854775807
  call : ∀ l ∈ n.call, (l.length : Int) ≤ 9223372036854775807
  push : ∀ l ∈ n.push, (l.length : Int) ≤ 9223372036854775807
  inner : ∀ l ∈ n.inner, (l.length : Int) ≤ 9223372036854775807
  pop : ∀ l ∈ n.pop, (l.length : Int) ≤ 9223372036854775807 ∧ ∀ m ∈ l, (m.length : Int) ≤ 9223372036854775807

theorem outside1_s (x k : Int) : PC F_nested_outside_1 [.int x, .pimm (.int k)] = some (.bool (out1 k x)) := by
  refine PCx_of (go_nested_outside_1 rfl ?_)
  simp [out1]
  omega
theorem outside_s (xs : List Int) (k : Int) (hl : (xs.length : Int) ≤ 9223372036854775807): PC F_nested_outside [iL xs, .int k] = some (.bool (bad xs k)) := by
  refine PCx_of (go_nested_outside rfl ?_)
  simp [ContainsFunc_s xs F_nested_outside_1 [.pimm (.int k)] (out1 k) hl rfl rfl (fun x _ => outside1_s x k)]
  rfl
theorem symbols_s (n : Nst) (h1 : inR (n.calls + n.inns) = true) (h2 : inR (n.calls + n.inns + n.rets) = true) : PC F_nested_symbols [n.av] = some (.int (n.calls + n.inns + n.rets)) := by
  refine PCx_of (go_nested_symbols rfl ?_)
  simp
  rw [inR_iff] at h1 h2
  omega
theorem rsymbols_s (n : Nst) (h1 : inR (n.calls + n.inns) = true) (h2 : inR (n.calls + n.inns + n.rets) = true) : PC F_ref43_Symbols [n.av] = some (.int (n.calls + n.inns + n.rets)) := by
  refine PCx_of (go_ref43_Symbols rfl ?_)
  simp
  rw [inR_iff] at h1 h2
  omega
/-- The error of a row of returns. -/
def Nst.popE (n : Nst) (l : List Int) : Int := if (l.length : Int) ≠ n.rets then 1 else if bad l n.accept.length = true then 2 else 0
/-- The error of a state. -/
def Nst.rowE (n : Nst) (s : Int) : Int :=
  if ¬ ((ix n.call s).length : Int) = n.calls ∨ ¬ ((ix n.push s).length : Int) = n.calls ∨ ¬ ((ix n.inner s).length : Int) = n.inns ∨ ¬ ((ix n.pop s).length : Int) = n.stack then 1
  else if bad (ix n.call s) n.accept.length = true ∨ bad (ix n.push s) n.stack = true ∨ bad (ix n.inner s) n.accept.length = true then 2
  else firstN (fun g => n.popE (ix (ix n.pop s) g)) (ix n.pop s).length
theorem row_s (n : Nst) (h : n.fits) (s : Int) (h0 : 0 ≤ s) (h1 : s < n.call.length) (h2 : s < n.push.length) (h3 : s < n.inner.length) (h4 : s < n.pop.length) : PC F_nested_row [n.av, .int s] = some (.int (n.rowE s)) := by
  have e1 := outside_s (ix n.call s) n.accept.length (h.call _ (ix_mem h0 h1))
  have e2 := outside_s (ix n.push s) n.stack (h.push _ (ix_mem h0 h2))
  have e3 := outside_s (ix n.inner s) n.accept.length (h.inner _ (ix_mem h0 h3))
  have hp := h.pop _ (ix_mem h0 h4)
  refine PCx_of (go_nested_row rfl ?_)
  simp [h0, h1, h2, h3, h4, e1, e2, e3]
  have no : ∀ {a : Int}, 1 = n.rowE s → a = 1 → a = n.rowE s := fun h e => e.trans h
  refine ⟨fun a1 => ⟨fun a2 => ⟨fun a3 => ⟨fun a4 => ⟨fun b1 => by simp [Nst.rowE, a1, a2, a3, a4, b1], fun b1 => ⟨fun b2 => by simp [Nst.rowE, a1, a2, a3, a4, b2], fun b2 => ⟨fun b3 => by simp [Nst.rowE, a1, a2, a3, a4, b3], fun b3 => ?_⟩⟩⟩, fun a4 => by simp [Nst.rowE, a4]⟩, fun a3 => by simp [Nst.rowE, a3]⟩, fun a2 => by simp [Nst.rowE, a2]⟩, fun a1 => by simp [Nst.rowE, a1]⟩
  have e : n.rowE s = firstN (fun g => n.popE (ix (ix n.pop s) g)) (ix n.pop s).length := by simp [Nst.rowE, a1, a2, a3, a4, b1, b2, b3]
  rw [e]
  refine W_iter (fun i : Int => [(4, .int i)]) (fun _ => []) (fun i => 0 ≤ i ∧ i ≤ (ix n.pop s).length ∧ ∀ j, 0 ≤ j → j < i → n.popE (ix (ix n.pop s) j) = 0) (fun i => ((ix n.pop s).length - i).toNat) 0 rfl (by simp; omega) fun i ⟨i0, i1, i2⟩ => ?_
  by_cases hi : i < (ix n.pop s).length
  · have e4 := outside_s (ix (ix n.pop s) i) n.accept.length (hp.2 _ (ix_mem i0 hi))
    simp [hi, i0, e4]
    have q : ∀ {x : Int}, n.popE (ix (ix n.pop s) i) = x → x ≠ 0 → x = firstN (fun g => n.popE (ix (ix n.pop s) g)) (ix n.pop s).length := fun h1 h2 => by subst h1; exact (firstN_some (f := fun g => n.popE (ix (ix n.pop s) g)) i0 hi h2 i2).symm
    refine ⟨fun c1 => ⟨fun c2 => q (by simp [Nst.popE, c1, c2]) (by simp), fun c2 => ⟨by omega, ⟨by omega, by omega, upto_succ (by simp [Nst.popE, c1, c2]) i2⟩, by omega⟩⟩, fun c1 => q (by simp [Nst.popE, c1]) (by simp)⟩
  · simp [hi]
    rw [firstN_none fun j a b => i2 j a (by omega)]
/-- The error of the numbers of an automaton. -/
def Nst.sizeE (n : Nst) : Int :=
  if n.calls < 0 ∨ 65 ≤ n.calls ∨ n.inns < 0 ∨ 65 ≤ n.inns ∨ n.rets < 0 ∨ 65 ≤ n.rets then 2
  else if n.calls + n.inns + n.rets < 1 then 2
  else if 64 < n.calls + n.inns + n.rets then 2
  else if n.stack < 1 then 2
  else if 128 < n.stack then 2
  else if n.accept = [] then 19
  else if 128 < (n.accept.length : Int) then 11
  else if n.start < 0 then 2
  else if (n.accept.length : Int) ≤ n.start then 2
  else if ¬ (n.call.length : Int) = n.accept.length then 1
  else if ¬ (n.push.length : Int) = n.accept.length then 1
  else if ¬ (n.inner.length : Int) = n.accept.length then 1
  else if ¬ (n.pop.length : Int) = n.accept.length then 1
  else 0
/-- The error of an automaton. -/
def Nst.validE (n : Nst) : Int := if n.sizeE ≠ 0 then n.sizeE else firstN n.rowE n.accept.length
theorem validE_pos {n : Nst} {x : Int} (h : n.sizeE = x) (hx : x ≠ 0) : x = n.validE := by
  subst h; simp [Nst.validE, hx]
theorem Valid_s (n : Nst) (h : n.fits) : PC F_nested_Valid [n.av] = some (.int n.validE) := by
  refine PCx_of (go_nested_Valid rfl ?_)
  have e1 : PC F_nested_outside [.imm false [.int n.calls, .int n.inns, .int n.rets], .int 65] = _ := outside_s [n.calls, n.inns, n.rets] 65 (by simp)
  by_cases hb : bad [n.calls, n.inns, n.rets] 65 = true
  · simp [e1, hb]
    simp [bad, out1] at hb
    exact validE_pos (by simp [Nst.sizeE, show n.calls < 0 ∨ 65 ≤ n.calls ∨ n.inns < 0 ∨ 65 ≤ n.inns ∨ n.rets < 0 ∨ 65 ≤ n.rets by omega]) (by simp)
  have hb' := hb
  simp [bad, out1] at hb'
  have e2 := symbols_s n (by rw [inR_iff]; omega) (by rw [inR_iff]; omega)
  have e0 : ¬ (n.calls < 0 ∨ 65 ≤ n.calls ∨ n.inns < 0 ∨ 65 ≤ n.inns ∨ n.rets < 0 ∨ 65 ≤ n.rets) := by omega
  simp [e1, hb, e2]
  repeat' (first | apply And.intro | intro _)
  all_goals try (refine validE_pos ?_ (by simp); unfold Nst.sizeE; rw [if_neg e0]; repeat (first | rw [if_pos (by assumption)] | rw [if_neg (by assumption)] | rw [if_neg (by omega)]))
  rename_i a1 a2 a3 a4 a5 a6 a7 a8 b1 b2 b3 b4
  have e3 : n.sizeE = 0 := by unfold Nst.sizeE; rw [if_neg e0]; repeat (first | rw [if_pos (by assumption)] | rw [if_neg (by assumption)] | rw [if_neg (by omega)])
  rw [show n.validE = firstN n.rowE n.accept.length by simp [Nst.validE, e3]]
  refine W_iter (fun i : Int => [(3, .int i)]) (fun _ => []) (fun i => 0 ≤ i ∧ i ≤ n.accept.length ∧ ∀ j, 0 ≤ j → j < i → n.rowE j = 0) (fun i => (n.accept.length - i).toNat) 0 rfl (by simp; omega) fun i ⟨i0, i1, i2⟩ => ?_
  by_cases hi : i < n.accept.length
  · have e4 := row_s n h i i0 (by omega) (by omega) (by omega) (by omega)
    simp [hi, e4]
    exact ⟨fun hz => ⟨by omega, ⟨by omega, by omega, upto_succ hz i2⟩, by omega⟩, fun hz => (firstN_some i0 hi hz i2).symm⟩
  · simp [hi]
    rw [firstN_none fun j a b => i2 j a (by omega)]
end Ab
