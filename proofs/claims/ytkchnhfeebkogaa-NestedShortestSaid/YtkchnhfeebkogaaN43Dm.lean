/- Lists that grow from nil, and are given away. The words that are no proper prefixes of others. Prefixes and greatest words, by the program. Words, by the document. The first nested word is in the language, and none comes before it. The automaton of pairs, as the program has it. Condition: none. -/
import Derived.Test.YtkchnhfeebkogaaN43Lv
import Derived.Test.YtkchnhfeebkogaaN43Sh
import Derived.Test.YtkchnhfeebkogaaN43Laws2
set_option linter.all false
set_option maxRecDepth 100000
set_option maxHeartbeats 4000000
namespace Ab
abbrev louI (out : List Int) : Blk := ⟨none, out.map .int, if out = [] then .nul else .live⟩
theorem zX4P {σ : List Blk} {b : Nat} {out : List Int} (h : blk σ b = some (louI out)) : view σ false vd (.sl b out.length 0 out.length) = some (iL out) := vd_iL h (by split <;> simp) rfl
end Ab
namespace Ab
end Ab
namespace Ab
def comN : List Int → List Int → Nat
  | x :: a, y :: b => if x = y then comN a b + 1 else 0
  | _, _ => 0
theorem z8Dm : ∀ a b, comN a b ≤ a.length ∧ comN a b ≤ b.length
  | [], b => by simp [comN]
  | _ :: _, [] => by simp [comN]
  | x :: a, y :: b => by
    have := z8Dm a b
    unfold comN; split <;> simp <;> omega
theorem zymp : ∀ {i : Nat} {a b : List Int}, i ≤ a.length → i ≤ b.length → (∀ j : Nat, j < i → ix a (j : Int) = ix b (j : Int)) → (i = a.length ∨ i = b.length ∨ ix a (i : Int) ≠ ix b (i : Int)) → comN a b = i
  | 0, [], b, _, _, _, _ => by simp [comN]
  | 0, _ :: _, [], _, _, _, _ => by simp [comN]
  | 0, x :: a, y :: b, _, _, _, h => by
    rcases h with h | h | h
    · simp at h
    · simp at h
    · have h : ¬ x = y := h
      unfold comN; rw [if_neg h]
  | i + 1, [], b, h, _, _, _ => by simp at h
  | i + 1, _ :: _, [], _, h, _, _ => by simp at h
  | i + 1, x :: a, y :: b, h1, h2, h3, h4 => by
    have hs : ∀ (l : List Int) (z : Int) (j : Nat), ix (z :: l) ((j + 1 : Nat) : Int) = ix l (j : Int) := fun l z j => by simp [ix]
    have e0 := h3 0 (by omega)
    have e0 : x = y := e0
    unfold comN
    rw [if_pos e0, zymp (i := i) (by simpa using h1) (by simpa using h2) (fun j hj => by have := h3 (j + 1) (by omega); rwa [hs, hs] at this) ?_]
    rw [hs, hs] at h4
    simpa using h4
theorem zlSD : ∀ {w p : List Int}, comN w p = p.length ↔ p <+: w
  | [], [] => by simp [comN]
  | [], _ :: _ => by simp [comN]
  | _ :: _, [] => by simp [comN]
  | x :: w, y :: p => by
    have := zlSD (w := w) (p := p)
    unfold comN
    rw [List.cons_prefix_cons]
    by_cases e : x = y
    · rw [if_pos e]; simp [e, this]
    · rw [if_neg e]; simp; intro h; exact absurd h.symm e
end Ab
namespace Ab
theorem z4k3 (a b : List Int) (ha : (a.length : Int) ≤ 9223372036854775807) (hb : (b.length : Int) ≤ 9223372036854775807) : PC zy97 [iL a, iL b] = some (.int (comN a b)) := by
  refine zx72 (zJfH rfl ?_)
  simp
  refine zv8C (fun i : Nat => [(2, .int i)]) (fun _ => []) (fun i => i ≤ a.length ∧ i ≤ b.length ∧ ∀ j : Nat, j < i → ix a (j : Int) = ix b (j : Int)) (fun i => a.length - i) 0 (by simp [sets]) ⟨by omega, by omega, fun j h => by omega⟩ fun i ⟨i0, i1, i2⟩ => ?_
  by_cases hi : i < a.length
  · by_cases hj : i < b.length
    · simp [-zJRc, hi, hj]
      refine ⟨fun h => ⟨by omega, zGkM (i + 1) (by simp) rfl ⟨by omega, by omega, fun j hj => ?_⟩ (by omega)⟩, fun h => ?_⟩
      · by_cases e : j = i
        · subst e; exact h
        · exact i2 j (by omega)
      · rw [zymp i0 i1 i2 (.inr (.inr h))]
    · have e : comN a b = i := zymp i0 i1 i2 (by omega)
      simp [hi, hj, e]
  · have e : comN a b = i := zymp i0 i1 i2 (by omega)
    simp [hi, e]
theorem zIyl {a b : List Int} : (a.length = b.length ∧ comN a b = a.length) ↔ a = b := by
  constructor
  · rintro ⟨h1, h2⟩
    have := (zlSD (w := a) (p := b)).1 (by omega)
    exact (this.eq_of_length h1.symm).symm
  · rintro rfl
    exact ⟨rfl, zlSD.2 (List.prefix_refl _)⟩
theorem zQbQ (a b : List Int) (ha : (a.length : Int) ≤ 9223372036854775807) (hb : (b.length : Int) ≤ 9223372036854775807) : PC zA97 [iL a, iL b] = some (.bool (decide (a = b))) := by
  refine zx72 (zTPf rfl ?_)
  have h := zIyl (a := a) (b := b)
  by_cases e : a = b
  · subst e
    have := h.2 rfl
    simp [z4k3 a a ha ha, this.2]
  · by_cases hl : a.length = b.length
    · have : ¬ comN a b = a.length := fun h' => e (h.1 ⟨hl, h'⟩)
      simp [z4k3 a b ha hb, e, show (a.length : Int) = b.length by omega]
      omega
    · simp [z4k3 a b ha hb, e, show ¬ (a.length : Int) = b.length by omega]
theorem zOah : ∀ (a b : List Int), lexC a b = if comN a b = a.length then (if comN a b = b.length then 0 else -1) else if comN a b < b.length ∧ ix a (comN a b : Int) < ix b (comN a b : Int) then -1 else 1
  | [], [] => by simp [lexC, comN]
  | [], _ :: _ => by simp [lexC, comN]
  | _ :: _, [] => by simp [lexC, comN]
  | x :: a, y :: b => by
    have ih := zOah a b
    have hs : ∀ (l : List Int) (z : Int) (j : Nat), ix (z :: l) ((j + 1 : Nat) : Int) = ix l (j : Int) := fun l z j => by simp [ix]
    unfold lexC comN
    by_cases e : x = y
    · subst e
      rw [if_neg (by omega), if_neg (by omega), if_pos rfl, ih, hs, hs]
      simp
    · rw [if_neg e]
      have hx : ix (x :: a) ((0 : Nat) : Int) = x := rfl
      have hy : ix (y :: b) ((0 : Nat) : Int) = y := rfl
      rw [hx, hy]
      by_cases h : x < y
      · simp [h]
      · simp [h]; omega
theorem z5oG (a b : List Int) (ha : (a.length : Int) ≤ 9223372036854775807) (hb : (b.length : Int) ≤ 9223372036854775807) : PC zr8d [iL a, iL b] = some (.int (lexC a b)) := by
  refine zx72 (ztvg rfl ?_)
  have hle := z8Dm a b
  have hc := z4k3 a b ha hb
  have hx := zOah a b
  generalize comN a b = n at *
  by_cases h1 : n = a.length
  · by_cases h2 : n = b.length
    · rw [if_pos h1, if_pos h2] at hx
      simp [hc, hx, show (n : Int) = a.length by omega, show (n : Int) = b.length by omega, show (a.length : Int) = b.length by omega]
    · rw [if_pos h1, if_neg h2] at hx
      simp [hc, hx, show (n : Int) = a.length by omega, show ¬ (a.length : Int) = b.length by omega]
  · rw [if_neg h1] at hx
    by_cases h2 : n < b.length ∧ ix a (n : Int) < ix b (n : Int)
    · rw [if_pos h2] at hx
      simp [hc, hx, show ¬ (n : Int) = a.length by omega, h2.1, h2.2, show n < a.length by omega]
    · rw [if_neg h2] at hx
      by_cases h3 : n < b.length
      · simp [hc, hx, show ¬ (n : Int) = a.length by omega, h3, show n < a.length by omega, show ¬ ix a (n : Int) < ix b (n : Int) from fun h => h2 ⟨h3, h⟩]
      · simp [hc, hx, show ¬ (n : Int) = a.length by omega, h3, show n < a.length by omega]
theorem z6sk (a b : List Int) (ha : (a.length : Int) ≤ 9223372036854775807) (hb : (b.length : Int) ≤ 9223372036854775807) : PC zIk1 [iL a, iL b] = some (.int (slxC a b)) := by
  refine zx72 (zuY7 rfl ?_)
  have e := z5oG a b ha hb
  unfold slxC
  by_cases h1 : a.length < b.length
  · simp [h1]
  · by_cases h2 : b.length < a.length
    · simp [h1, h2]
    · simp [h1, h2, e]
end Ab
namespace Ab
theorem zoQ6 (n : Nst) : (∃ e : Int, e ≠ 0 ∧ n.shA = .tup [.imm false [], .bool false, .int e]) ∨ (n.validE = 0 ∧ n.mch.f1 n.start (ix n.accept) = none ∧ n.mch.f1E n.start (ix n.accept) = 0 ∧ n.shA = .tup [.imm false [], .bool false, .int 0]) ∨ (n.validE = 0 ∧ ∃ w, n.mch.f1 n.start (ix n.accept) = some w ∧ n.shA = .tup [iL w, .bool true, .int 0]) := by
  unfold Nst.shA
  by_cases hv : n.validE = 0
  · rw [if_pos hv]
    cases hf : n.mch.f1 n.start (ix n.accept) with
    | none =>
      by_cases he : n.mch.f1E n.start (ix n.accept) = 0
      · exact .inr (.inl ⟨hv, rfl, he, by rw [he]; rfl⟩)
      · exact .inl ⟨_, he, rfl⟩
    | some w => exact .inr (.inr ⟨hv, w, rfl, rfl⟩)
  · rw [if_neg hv]
    exact .inl ⟨_, hv, rfl⟩
end Ab
namespace Ab
def Nst.cs (n : Nst) : List AV := [.int n.calls, .int n.inns, .int n.rets, .int n.stack, .int n.start, bL n.accept, iLL n.call, iLL n.push, iLL n.inner, iLLL n.pop]
section
variable {a b : Nst}
end
end Ab
