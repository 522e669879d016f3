/- Batches of words: the document's. Condition: none. -/
import Derived.Test.YtkedjdfangojmaaCost
set_option linter.all false
set_option maxRecDepth 100000
set_option maxHeartbeats 4000000
namespace Ab
/-- Two lists, member by member. -/
inductive F2 {α β : Type} (R : α → β → Prop) : List α → List β → Prop
  | nil : F2 R [] []
  | cons {a b as bs} : R a b → F2 R as bs → F2 R (a :: as) (b :: bs)
theorem F2.imp {α β : Type} {R S : α → β → Prop} (h : ∀ a b, R a b → S a b) {as : List α} {bs : List β} (k : F2 R as bs) : F2 S as bs := by
  induction k with
  | nil => exact .nil
  | cons h1 _ ih => exact .cons (h _ _ h1) ih
theorem F2.snoc {α β : Type} {R : α → β → Prop} {as : List α} {bs : List β} {a : α} {b : β} (k : F2 R as bs) (h : R a b) : F2 R (as ++ [a]) (bs ++ [b]) := by
  induction k with
  | nil => exact .cons h .nil
  | cons h1 _ ih => exact .cons h1 ih
theorem F2.len {α β : Type} {R : α → β → Prop} {as : List α} {bs : List β} (k : F2 R as bs) : as.length = bs.length := by
  induction k with
  | nil => rfl
  | cons h1 _ ih => simp [ih]
theorem F2.mapO {α β : Type} {f : α → Option β} {as : List α} {bs : List β} (k : F2 (fun a b => f a = some b) as bs) : Ab.mapO f as = some bs := by
  induction k with
  | nil => rfl
  | cons h1 _ ih => simp only [Ab.mapO, h1, ih]
theorem F2.map {α β γ : Type} {R : α → β → Prop} {f : β → γ} {as : List α} {bs : List β} (k : F2 R as bs) : F2 (fun a c => ∃ b, R a b ∧ c = f b) as (bs.map f) := by
  induction k with
  | nil => exact .nil
  | cons h1 _ ih => exact .cons ⟨_, h1, rfl⟩ ih
/-- A word in memory. X: a block that it does not use. -/
def RW (r : List Blk) (X : Nat) (c : AV) (w : List Int) : Prop := (c = .imm true [] ∧ w = []) ∨ (w ≠ [] ∧ ∃ b, b ≠ X ∧ c = .sl (b + 1) w.length 0 w.length ∧ blk r b = some ⟨none, w.map .int, .live⟩)
/-- A batch in memory. -/
def RG (r : List Blk) (X : Nat) (c : AV) (g : List (List Int)) : Prop := ∃ b cs, b ≠ X ∧ c = .sl (b + 1) g.length 0 g.length ∧ blk r b = some ⟨none, cs, .live⟩ ∧ F2 (RW r X) cs g
theorem rg_blk_lt {r : List Blk} {b : Nat} {B : Blk} : blk r b = some B → b < r.length := by
  induction r generalizing b with
  | nil => intro h; cases b <;> simp [blk] at h
  | cons x r ih =>
    cases b with
    | zero => intro _; simp
    | succ b => intro h; have := ih h; simp; omega
theorem rg_blk_new {r : List Blk} {B : Blk} {l : List Blk} : blk (r ++ B :: l) r.length = some B := by
  induction r with
  | nil => rfl
  | cons x r ih => exact ih
theorem rg_app {r l : List Blk} {b : Nat} {B : Blk} : blk r b = some B → blk (r ++ l) b = some B := by
  induction r generalizing b with
  | nil => intro h; cases b <;> simp [blk] at h
  | cons x r ih =>
    cases b with
    | zero => exact id
    | succ b => exact ih
theorem rg_set_ne {r : List Blk} {b b' : Nat} {B : Blk} (h : b' ≠ b) : blk (setB r b B) b' = blk r b' := by
  induction r generalizing b b' with
  | nil => rfl
  | cons x r ih =>
    cases b with
    | zero =>
      cases b' with
      | zero => exact absurd rfl h
      | succ b' => rfl
    | succ b =>
      cases b' with
      | zero => rfl
      | succ b' => exact ih (by omega)
theorem rg_set_eq {r : List Blk} {b : Nat} {B : Blk} (h : b < r.length) : blk (setB r b B) b = some B := by
  induction r generalizing b with
  | nil => simp at h
  | cons x r ih =>
    cases b with
    | zero => rfl
    | succ b => exact ih (by simpa using h)
theorem RW.mono {r r' : List Blk} {X X' : Nat} {c : AV} {w : List Int} (h : RW r X c w) (hb : ∀ b B, b ≠ X → blk r b = some B → blk r' b = some B) (hx : X' = X ∨ r.length ≤ X') : RW r' X' c w := by
  rcases h with h | ⟨h0, b, h1, h2, h3⟩
  · exact .inl h
  · refine .inr ⟨h0, b, ?_, h2, hb _ _ h1 h3⟩
    rcases hx with rfl | hx
    · exact h1
    · have := rg_blk_lt h3; omega
theorem RG.mono {r r' : List Blk} {X X' : Nat} {c : AV} {g : List (List Int)} (h : RG r X c g) (hb : ∀ b B, b ≠ X → blk r b = some B → blk r' b = some B) (hx : X' = X ∨ r.length ≤ X') : RG r' X' c g := by
  obtain ⟨b, cs, h1, h2, h3, h4⟩ := h
  refine ⟨b, cs, ?_, h2, hb _ _ h1 h3, h4.imp fun a w k => k.mono hb hx⟩
  rcases hx with rfl | hx
  · exact h1
  · have := rg_blk_lt h3; omega
/-- Lists of lists, seen. -/
theorem view_F2 {σ : List Blk} {fr : Bool} {b k n : Nat} {cs ys : List AV} {st : BSt} (h : blk σ b = some ⟨none, cs, st⟩) (hs : st ≠ .dead) (hn : n = cs.length) (hf : F2 (fun c y => view σ fr k c = some y) cs ys) : view σ fr (k + 1) (.sl b n 0 n) = some (.imm false ys) := by
  subst hn
  have hu : upto σ b cs.length = some ⟨none, cs, st⟩ := by
    unfold upto
    rw [h]
    cases st <;> simp at hs ⊢
  unfold view
  simp only [hu, kst, List.drop_zero, Nat.zero_add, Nat.mul_one, Nat.le_refl, if_true]
  rw [chunk_n (Nat.le_refl _), hf.mapO]
theorem rg_elm_last {cds : List AV} {c : AV} : elm (cds ++ [c]) cds.length = some c := by
  induction cds with
  | nil => rfl
  | cons x r ih => exact ih
theorem rg_pT_last {cds : List AV} {c : AV} {K : AV → Prop} {t : Tk K} : pT (cds ++ [c]) cds.length none K t = K c := by
  rw [pT_none, rg_elm_last]; rfl
theorem rg_pU_last {cds : List AV} {c x : AV} {K : List AV → Prop} {t : Tk K} : pU (cds ++ [c]) cds.length [x] K t = K (cds ++ [x]) := by
  rw [pU_sets]; simp
end Ab
