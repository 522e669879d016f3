/- What reads as its own reads so anywhere. Condition: none. -/
import Derived.Test.YtchamabaodnjkaaCom
set_option linter.all false
set_option maxRecDepth 100000
set_option maxHeartbeats 4000000
namespace Ab
theorem mapO_imp {α β : Type} {f g : α → Option β} (h : ∀ x y, f x = some y → g x = some y) : ∀ {l : List α} {m : List β}, mapO f l = some m → mapO g l = some m
  | [], m, e => e
  | x :: l, m, e => by
    simp only [mapO] at e ⊢
    cases h1 : f x with
    | none => rw [h1] at e; simp at e
    | some y =>
      rw [h1] at e
      cases h2 : mapO f l with
      | none => rw [h2] at e; simp at e
      | some s =>
        rw [h2] at e
        rw [h _ _ h1, mapO_imp h h2]
        exact e
theorem view_tf {σ : List Blk} : ∀ {k : Nat} {x y : AV}, view σ true k x = some y → view σ false k x = some y
  | 0, x, y, e => by simp [view] at e
  | k + 1, x, y, e => by
    have ih : ∀ {l m : List AV}, mapO (view σ true k) l = some m → mapO (view σ false k) l = some m := fun h => mapO_imp (fun x y => view_tf) h
    unfold view at e ⊢
    cases x with
    | sl b u off len =>
      simp only at e ⊢
      cases hu : upto σ b u with
      | none => rw [hu] at e; simp at e
      | some B =>
        rw [hu] at e
        simp only at e ⊢
        split at e
        · rename_i hb
          rw [if_pos hb]
          cases hm : mapO (view σ true k) (chunk B.k len (B.cells.drop off)) with
          | none => rw [hm] at e; simp at e
          | some m => rw [hm] at e; rw [ih hm]; exact e
        · simp at e
    | ptr b u off =>
      simp only at e ⊢
      cases hu : upto σ b u with
      | none => rw [hu] at e; simp at e
      | some B =>
        rw [hu] at e
        simp only at e ⊢
        split at e
        · rename_i hb
          rw [if_pos hb]
          cases hp : part B.cells 0 B.k with
          | none => rw [hp] at e; simp at e
          | some z =>
            rw [hp] at e
            simp only at e ⊢
            cases hz : view σ true k z with
            | none => rw [hz] at e; simp at e
            | some z' => rw [hz] at e; rw [view_tf hz]; exact e
        · simp at e
    | agg l =>
      simp only at e ⊢
      cases hm : mapO (view σ true k) l with
      | none => rw [hm] at e; simp at e
      | some m => rw [hm] at e; rw [ih hm]; exact e
    | func g l =>
      simp only at e ⊢
      cases hm : mapO (view σ true k) l with
      | none => rw [hm] at e; simp at e
      | some m => rw [hm] at e; rw [ih hm]; exact e
    | iface t v =>
      simp only at e ⊢
      cases hz : view σ true k v with
      | none => rw [hz] at e; simp at e
      | some z' => rw [hz] at e; rw [view_tf hz]; exact e
    | imm b l => simp at e
    | pimm v => simp at e
    | _ => exact e
theorem viewT_tf {σ : List Blk} {x y : AV} (e : viewT σ true x = some y) : viewT σ false x = some y := by
  unfold viewT at e ⊢
  cases x with
  | tup l =>
    simp only at e ⊢
    cases hm : mapO (view σ true vd) l with
    | none => rw [hm] at e; simp at e
    | some m => rw [hm] at e; rw [mapO_imp (fun x y => view_tf) hm]; exact e
  | _ => exact view_tf e
/-- A call whose answer is all its own. -/
def PF (f : Nat) (args : List AV) (r : AV) : Prop := LX L f args [] fun v σ' => viewT σ' true v = some r
theorem PF.pc {f : Nat} {args : List AV} {r : AV} (h : PF f args r) : PC f args = some r := by
  obtain ⟨v, σ', h1, h2⟩ := LX_s h
  simp only [PC, PCx, h1]
  exact viewT_tf h2
theorem PF_of {f : Nat} {args : List AV} {r : AV} (h : LX L f args [] fun v σ' => optK (viewT σ' true v) (· = r)) : PF f args r := by
  obtain ⟨v, σ', h1, h2⟩ := LX_s h
  obtain ⟨u, h3, rfl⟩ := optK_s h2
  exact LX_of h1 h3
end Ab
