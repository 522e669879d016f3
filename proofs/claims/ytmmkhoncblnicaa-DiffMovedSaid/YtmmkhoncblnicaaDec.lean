/- Arguments that read as plain data are encodings of lists and numbers. Condition: none. -/
import Derived.Test.YtmmkhoncblnicaaAbTop
import Derived.Test.YtmmkhoncblnicaaCom
set_option linter.all false
namespace Ab
open Go
theorem has_int {x : AV} (h : Ty.int.has x) : ∃ n : Int, x = .int n ∧ inR n = true := h
theorem has_bool {x : AV} (h : Ty.bool.has x) : ∃ n : Bool, x = .bool n ∧ True := by
  obtain ⟨b, rfl⟩ := h; exact ⟨b, rfl, trivial⟩
theorem has_list {e : Ty} {α : Type} {f : α → AV} {p : α → Prop} (h : ∀ y, e.has y → ∃ a, y = f a ∧ p a) {x : AV} (hx : (Ty.sl e).has x) : ∃ l : List α, x = .imm false (l.map f) ∧ (l.length : Int) ≤ 9223372036854775807 ∧ ∀ a ∈ l, p a := by
  obtain ⟨l, rfl, hl, hm⟩ := hx
  have key : ∀ l : List AV, (∀ y, y ∈ l → e.has y) → ∃ m : List α, l = m.map f ∧ ∀ a ∈ m, p a := by
    intro l
    induction l with
    | nil => exact fun _ => ⟨[], rfl, by simp⟩
    | cons y r ih =>
      intro hm
      obtain ⟨a, rfl, ha⟩ := h y (hm y (by simp))
      obtain ⟨m, rfl, hm'⟩ := ih fun z hz => hm z (by simp [hz])
      exact ⟨a :: m, rfl, by simpa using ⟨ha, hm'⟩⟩
  obtain ⟨m, rfl, hm'⟩ := key l hm
  refine ⟨m, rfl, ?_, hm'⟩
  simp [maxLen] at hl
  omega
/-- Lists of numbers in memory. -/
def okI (l : List Int) : Prop := (l.length : Int) ≤ 9223372036854775807 ∧ ∀ n ∈ l, inR n = true
def okB (l : List Bool) : Prop := (l.length : Int) ≤ 9223372036854775807
def okII (l : List (List Int)) : Prop := (l.length : Int) ≤ 9223372036854775807 ∧ ∀ m ∈ l, okI m
def okIII (l : List (List (List Int))) : Prop := (l.length : Int) ≤ 9223372036854775807 ∧ ∀ m ∈ l, okII m
theorem has_I {x : AV} (h : (Ty.sl .int).has x) : ∃ l : List Int, x = iL l ∧ okI l := has_list (fun _ h => has_int h) h
theorem has_B {x : AV} (h : (Ty.sl .bool).has x) : ∃ l : List Bool, x = bL l ∧ okB l := by
  obtain ⟨l, h1, h2, _⟩ := has_list (fun _ h => has_bool h) h
  exact ⟨l, h1, h2⟩
theorem has_II {x : AV} (h : (Ty.sl (.sl .int)).has x) : ∃ l : List (List Int), x = iLL l ∧ okII l := has_list (fun _ h => has_I h) h
theorem has_III {x : AV} (h : (Ty.sl (.sl (.sl .int))).has x) : ∃ l : List (List (List Int)), x = iLLL l ∧ okIII l := has_list (fun _ h => has_II h) h
theorem view_true {σ : List Blk} {b fr : Bool} {v : AV} (h : viewT σ fr v = some (.bool b)) : v = .bool b := by
  have key : ∀ {x : AV} {k : Nat}, view σ fr (k + 1) x = some (.bool b) → x = .bool b := by
    intro x k h
    cases x <;> unfold view at h
    case bool => simpa using h
    case sl =>
      dsimp only at h
      split at h
      · simp at h
      · split at h
        · split at h <;> simp at h
        · simp at h
    case ptr =>
      dsimp only at h
      split at h
      · simp at h
      · split at h
        · split at h
          · simp at h
          · split at h <;> simp at h
        · simp at h
    all_goals (try dsimp only at h)
    all_goals (try split at h) <;> simp at h
  cases v with
  | tup l => simp only [viewT] at h; split at h <;> simp at h
  | _ => exact key (k := 11) h
/-- A law that answers true. -/
theorem law_of {f : Nat} {args : List AV} (h : PC f args = some (.bool true)) : ∃ σ', L f args [] = some (.bool true, σ') := by
  unfold PC PCx at h
  cases hl : L f args [] with
  | none => simp [hl] at h
  | some p =>
    obtain ⟨v, σ'⟩ := p
    simp only [hl] at h
    exact ⟨σ', by rw [view_true h]⟩
end Ab
