/- Functions on words that many layers use. Condition: none. -/
import Derived.Test.YtkchnhfeebkogaaN43Widen
set_option linter.all false
set_option maxRecDepth 100000
set_option maxHeartbeats 4000000
namespace Ab
def wB (p : Bool × List Int) : AV := if p.1 = true ∧ p.2 = [] then .snil else iL p.2
theorem zzLk (p : Bool × List Int) : wB p = .snil ∧ p.2 = [] ∨ wB p = iL p.2 := by
  unfold wB
  split
  · rename_i h; exact .inl ⟨rfl, h.2⟩
  · exact .inr rfl
theorem zeyr : ∀ {n : Nat} {cs : List AV}, cs.length ≤ n → chunk none n cs = cs
  | 0, cs, h => by
    have : cs = [] := List.eq_nil_of_length_eq_zero (by omega)
    subst this; rfl
  | n + 1, [], h => rfl
  | n + 1, c :: cs, h => by simp only [chunk]; rw [zeyr (by simpa using h)]
theorem zwdp {α : Type} {f g : α → AV} {v : AV → Option AV} : ∀ {xs : List α}, (∀ x ∈ xs, v (f x) = some (g x)) → mapO v (xs.map f) = some (xs.map g)
  | [], _ => rfl
  | x :: xs, h => by
    have e := zwdp (f := f) (g := g) (v := v) (xs := xs) fun y hy => h y (by simp [hy])
    simp only [List.map_cons, mapO, h x (by simp), e]
theorem zxF7 {α : Type} {f g : α → AV} {σ : List Blk} {fr : Bool} {b k n : Nat} {xs : List α} {st : BSt} (h : blk σ b = some ⟨none, xs.map f, st⟩) (hs : st.isArr = true) (hn : n = xs.length) (hf : ∀ x ∈ xs, view σ fr k (f x) = some (g x)) :
    view σ fr (k + 1) (.sl b n 0 n) = some (.imm false (xs.map g)) := by
  subst hn
  have hu : upto σ b xs.length = some ⟨none, xs.map f, st⟩ := by
    unfold upto
    rw [h]
    cases st <;> simp at hs ⊢
  unfold view
  simp only [hu, kst, List.length_map, List.drop_zero, Nat.zero_add, Nat.mul_one, Nat.le_refl, if_true]
  rw [zeyr (by simp), zwdp hf]
theorem vd_iL {σ : List Blk} {fr : Bool} {b n : Nat} {xs : List Int} {st : BSt} (h : blk σ b = some ⟨none, xs.map .int, st⟩) (hs : st.isArr = true) (hn : n = xs.length) : view σ fr vd (.sl b n 0 n) = some (iL xs) := zxF7 (k := 11) h hs hn fun _ _ => rfl
end Ab
