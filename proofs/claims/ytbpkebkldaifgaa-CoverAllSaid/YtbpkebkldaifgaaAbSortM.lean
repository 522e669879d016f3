/- The sorting of words: more fuel gives the same answer; with as much as is wanted. Condition: none. -/
import Derived.Test.YtbpkebkldaifgaaAbSortL
import Derived.Test.YtbpkebkldaifgaaAbLim
set_option linter.all false
namespace Ab
theorem agree_spec {ce : CE} {g : Nat} {caps : List AV} {K : List Int → List Int → Int} {d : List AV} (h : agree ce g caps K d = true) {x y : AV} (hx : x ∈ d) (hy : y ∈ d) : ∃ u v, wordOf x = some u ∧ wordOf y = some v ∧ cmpI ce g caps x y = some (K u v) := by
  simp only [agree, List.all_eq_true] at h
  have := h x hx y hy
  split at this
  · rename_i u v h1 h2
    split at this
    · rename_i c h3
      simp only [beq_iff_eq] at this
      subst this
      exact ⟨u, v, h1, h2, h3⟩
    · simp at this
  · simp at this
theorem cmpI_mono {a b : CE} (h : CE.le a b) {g : Nat} {caps : List AV} {x y : AV} {c : Int} (e : cmpI a g caps x y = some c) : cmpI b g caps x y = some c := by
  unfold cmpI at e ⊢
  cases hp : pcl a g (x :: y :: caps) with
  | none => rw [hp] at e; simp at e
  | some r => rw [pcl_mono h hp]; rw [hp] at e; exact e
theorem agree_mono {a b : CE} (h : CE.le a b) {g : Nat} {caps : List AV} {K : List Int → List Int → Int} {d : List AV} (e : agree a g caps K d = true) : agree b g caps K d = true := by
  simp only [agree, List.all_eq_true]
  intro x hx y hy
  obtain ⟨u, v, h1, h2, h3⟩ := agree_spec e hx hy
  simp [h1, h2, cmpI_mono h h3]
theorem agree_back {a b : CE} (h : CE.le a b) {g : Nat} {caps : List AV} {K K' : List Int → List Int → Int} {d : List AV} (e : agree a g caps K d = true) (e' : agree b g caps K' d = true) : agree a g caps K' d = true := by
  simp only [agree, List.all_eq_true]
  intro x hx y hy
  obtain ⟨u, v, h1, h2, h3⟩ := agree_spec e hx hy
  obtain ⟨u', v', k1, k2, k3⟩ := agree_spec e' hx hy
  rw [h1] at k1; rw [h2] at k2
  cases k1; cases k2
  have := cmpI_mono h h3
  rw [this] at k3
  simp only [Option.some.injEq] at k3
  simp [h1, h2, h3, k3]
theorem pSort_mono : ∀ a b : CE, CE.le a b → ∀ args σ v, pSort a args σ = some v → pSort b args σ = some v := by
  intro a b h args σ v hp
  unfold pSort at hp ⊢
  split at hp
  · exact hp
  · exact hp
  · split at hp
    · rename_i B hu
      split at hp
      · rename_i hc
        rw [if_pos hc]
        split at hp
        · rename_i hag
          rw [if_pos (agree_mono h hag)]; exact hp
        · rename_i hns
          split at hp
          · rename_i hag
            rw [if_neg (fun e => hns (agree_back h hag e)), if_pos (agree_mono h hag)]; exact hp
          · simp at hp
      · simp at hp
    · simp at hp
  · simp at hp
theorem pCloneS_mono : ∀ a b : CE, CE.le a b → ∀ args σ v, pCloneS a args σ = some v → pCloneS b args σ = some v := fun _ _ _ _ _ _ h => h
theorem pGrow_mono : ∀ a b : CE, CE.le a b → ∀ args σ v, pGrow a args σ = some v → pGrow b args σ = some v := fun _ _ _ _ _ _ h => h
/-- One bound for all. -/
theorem common {α : Type} {p : Nat → α → Prop} (hm : ∀ n m x, n ≤ m → p n x → p m x) : ∀ {l : List α}, (∀ x ∈ l, ∃ n, p n x) → ∃ n, ∀ x ∈ l, p n x
  | [], _ => ⟨0, by simp⟩
  | a :: l, h => by
    obtain ⟨n, hn⟩ := h a (by simp)
    obtain ⟨m, hm'⟩ := common hm (l := l) fun x hx => h x (by simp [hx])
    refine ⟨max n m, fun x hx => ?_⟩
    rcases List.mem_cons.1 hx with rfl | hx
    · exact hm _ _ _ (Nat.le_max_left n m) hn
    · exact hm _ _ _ (Nat.le_max_right n m) (hm' x hx)
section
variable {G : Nat → Option Fn} {Q : Prims}
theorem agree_lim (hQ : PrimsMono Q) {g : Nat} {caps : List AV} {K : List Int → List Int → Int} {d : List AV} (h : ∀ x ∈ d, ∀ y ∈ d, ∃ u v, wordOf x = some u ∧ wordOf y = some v ∧ pcl (lim G Q) g (x :: y :: caps) = some (.int (K u v))) : ∃ N, agree (cN G Q N) g caps K d = true := by
  have h1 : ∀ x ∈ d, ∃ N, ∀ y ∈ d, ∃ u v, wordOf x = some u ∧ wordOf y = some v ∧ pcl (cN G Q N) g (x :: y :: caps) = some (.int (K u v)) := fun x hx => by
    refine common (p := fun N y => ∃ u v, wordOf x = some u ∧ wordOf y = some v ∧ pcl (cN G Q N) g (x :: y :: caps) = some (.int (K u v))) (fun n m y hnm ⟨u, v, a, b, c⟩ => ⟨u, v, a, b, pcl_mono (cN_mono hQ hnm) c⟩) fun y hy => ?_
    obtain ⟨u, v, a, b, c⟩ := h x hx y hy
    obtain ⟨N, hN⟩ := pcl_cont hQ c
    exact ⟨N, u, v, a, b, hN⟩
  obtain ⟨N, hN⟩ := common (p := fun N x => ∀ y ∈ d, ∃ u v, wordOf x = some u ∧ wordOf y = some v ∧ pcl (cN G Q N) g (x :: y :: caps) = some (.int (K u v))) (fun n m x hnm hx y hy => by
    obtain ⟨u, v, a, b, c⟩ := hx y hy
    exact ⟨u, v, a, b, pcl_mono (cN_mono hQ hnm) c⟩) h1
  refine ⟨N, ?_⟩
  simp only [agree, List.all_eq_true]
  intro x hx y hy
  obtain ⟨u, v, a, b, c⟩ := hN x hx y hy
  simp [a, b, cmpI, c]
end
end Ab
