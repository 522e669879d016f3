/- slices.Grow of a nil slice of numbers does what the small language says. Condition: the library's own text, as the kit's contract has walked it. -/
import Derived.Test.YtlgfempnnijfnaaGreatAbC
import Derived.Test.YtlgfempnnijfnaaGreatAbSortM
import Derived.Shelf.Spec.SlicesGrow
set_option linter.all false
namespace Ab
open Go Go.Proofs Go.Shelf
variable {P : Program}
def growOk (P : Program) (t : TypeId) : Bool := match P.info? t with
  | some i => (match i.zero with
    | some (.int .i64 0) => true
    | _ => false) && i.size == 1 && decide (i.bytes ≤ 8)
  | none => false
theorem zDD3 {ρ : Ren} (L : Lays8.n4 P ρ) {f : Nat} (hf : ρ.f 4 = f) (hb : bodied P f = true) (hz : growOk P (ρ.t 25) = true) : PrimOk P f pGrow := by
  subst hf
  obtain ⟨i0, hi0, hz0, hs0, hby⟩ : ∃ i0, P.info? (ρ.t 25) = some i0 ∧ i0.zero = some (.int .i64 0) ∧ i0.size = 1 ∧ i0.bytes ≤ 8 := by
    unfold growOk at hz
    cases hi : P.info? (ρ.t 25) with
    | none => simp [hi] at hz
    | some i =>
      simp only [hi, Bool.and_eq_true, beq_iff_eq, decide_eq_true_eq] at hz
      obtain ⟨⟨h1, h2⟩, h3⟩ := hz
      refine ⟨i, rfl, ?_, h2, h3⟩
      split at h1
      · assumption
      · simp at h1
  refine ⟨hb, fun ce hce hbd args σ r σ' hp ids I w vs hg hv => ?_⟩
  unfold pGrow at hp
  split at hp
  · rename_i n
    obtain ⟨v1, s1, rfl, hv1, v2, s2, rfl, hv2, rfl⟩ := hv
    have hv1 : v1 = .slice none 0 0 := hv1
    have hv2 : v2 = .int .i64 n := hv2
    subst hv1; subst hv2
    split at hp
    · rename_i h0
      simp only [beq_iff_eq] at h0
      subst h0
      simp only [Option.some.injEq, Prod.mk.injEq] at hp
      obtain ⟨rfl, rfl⟩ := hp
      refine (Any8.slices_Grow_room L none 0 0 0 w (Nat.le_refl _) (by omega) (by omega) (Nat.le_refl _)).mono ?_
      rintro e w' ⟨rfl, rfl⟩
      exact ⟨_, ids, I, rfl, hg, rfl, Step.refl _ _⟩
    · rename_i h0
      split at hp
      · rename_i hc
        obtain ⟨c1, c2⟩ := hc
        simp only [Option.some.injEq, Prod.mk.injEq] at hp
        obtain ⟨rfl, rfl⟩ := hp
        obtain ⟨m, rfl⟩ : ∃ m : Nat, n = m := ⟨n.toNat, by omega⟩
        simp only [Int.toNat_natCast]
        have hm : m ≤ 1073741824 := by simp [big] at c2; omega
        have hbytes : (0 + m) * i0.bytes ≤ 140737488355328 := by
          have : (0 + m) * i0.bytes ≤ 1073741824 * 8 := Nat.mul_le_mul (by omega) hby
          omega
        have key := Any8.slices_Grow_grow L i0 (.int .i64 0) hi0 hz0 (by omega) none 0 0 m [] w (Nat.le_refl _) (by omega) hbytes (by omega) (by simp) (fun _ => rfl) (fun a h => by simp at h)
        refine key.mono ?_
        rintro e w' ⟨rfl, rfl⟩
        have hgc := grownCap_ge w (0 + m) 0 (ρ.t 25)
        generalize grownCap w (0 + m) 0 (ρ.t 25) = cap at hgc ⊢
        have hz1 : (Value.int .i64 0).cells = #[.int .i64 0] := rfl
        generalize hcc : ([].toArray ++ Builtin.zeroCells (Value.int .i64 0).cells (0 + m - 0) ++ Builtin.zeroCells (Value.int .i64 0).cells (cap - (0 + m))) = cc
        have hsz : cc.size = cap := by rw [← hcc]; simp [Builtin.zeroCells, hz1]; omega
        have hall : ∀ (k i : Nat), i < k → (Builtin.zeroCells (Value.int .i64 0).cells k)[i]? = some (.int .i64 0) := fun k i hi => by
          simp [Builtin.zeroCells, hz1, hi, Nat.mod_one]
        have hzl : ∀ k, (Builtin.zeroCells (Value.int .i64 0).cells k).size = k := fun k => by simp [Builtin.zeroCells, hz1]
        have hget : ∀ i, i < cap → cc[i]? = some (.int .i64 0) := fun i hi => by
          rw [← hcc]
          by_cases h1 : i < m
          · rw [Array.getElem?_append_left (by simp [hzl]; omega), Array.getElem?_append_right (by simp)]
            exact hall _ _ (by simp; omega)
          · rw [Array.getElem?_append_right (by simp [hzl]; omega)]
            refine hall _ _ (by simp [hzl]; omega)
        have hg0 : Good (ctxOf σ ids I) w.drew := ⟨hg.I, hg.ent, hg.live, hg.apart, hg.maps⟩
        have hst0 : Step (ctxOf σ ids I) w (ctxOf σ ids I) w.drew := Step.heap rfl rfl ⟨rfl, Nat.le_succ _⟩ rfl
        obtain ⟨k1, k2⟩ := zj2x hg0 (b := σ.length) ⟨none, List.replicate m (.int 0), .live⟩ (zIsc _) cc (ρ.t 25) rfl (by simp; omega) (fun i x hx => by
          simp only [List.getElem?_replicate] at hx
          split at hx
          · rename_i hi
            simp at hx; subst hx
            exact ⟨_, hget i (by omega), rfl, rfl⟩
          · simp at hx)
        obtain ⟨f1, f2⟩ := Good.shrink (C2 := ctxOf (σ ++ [⟨none, List.replicate m (.int 0), .live⟩]) (fun q => if q = σ.length then w.drew.heap.size else ids q) I) k1 rfl (zltG (by simp)) zBmS
        refine ⟨_, _, I, rfl, f1, ?_, hst0.trans (k2.trans f2)⟩
        refine VR.mono f2.ev _ _ ?_
        have hl : (List.replicate m (AV.int 0)).length = m := by simp
        refine zVoA (B := ⟨none, List.replicate m (.int 0), .live⟩) (id := w.drew.heap.size) (c := cc) (el := ρ.t 25) (by simp [addOwn]) (.inl ⟨rfl, hl.symm⟩) rfl (zew4 _ _) (Nat.zero_le _) (by simp [kst, hsz])
      · simp at hp
  · simp at hp
end Ab
