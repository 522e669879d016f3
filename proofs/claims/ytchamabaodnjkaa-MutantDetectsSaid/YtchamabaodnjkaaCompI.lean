/- Numbers sorted, each once. Condition: none. -/
import Derived.Test.YtchamabaodnjkaaBfsOrd
import Derived.Test.YtchamabaodnjkaaFrz
set_option linter.all false
set_option maxRecDepth 100000
set_option maxHeartbeats 4000000
namespace Ab
theorem zlnK_clr {vars env : List AV} {x : Rf} {z : List AV} {k : Option Nat} {σp σ : List Blk} {K : List AV → List Blk → List Blk → Prop} {b u off len : Nat} {B : Blk} (hr : rv vars env x = .sl b u off len) (hu : upto σ b u = some B) (hc : 0 < len ∧ off + len * kst k ≤ B.cells.length ∧ kst B.k = kst k ∧ z.length = kst k ∧ B.st.isLive = true) : lnK L vars (.clr x z k) false env σp σ K = K (.und :: env) [] (setB σ b ⟨B.k, putAt B.cells off (dupN len z), B.st⟩) := by
  show optK (evW L σ (rv vars env) (.clr x z k)) (fun p => K (p.1 :: env) [] p.2) = _
  simp only [evW, hr, hu]
  rw [if_pos hc]; rfl
/-- The first n numbers, each once (of a sorted list). -/
def zmpN (l : List Int) : Nat → List Int
  | 0 => []
  | n + 1 => if 0 < n ∧ ix l (n : Int) = ix l ((n : Int) - 1) then zmpN l n else zmpN l n ++ [ix l (n : Int)]
def compZ (l : List Int) : List Int := zmpN l l.length
theorem zmpN_mem {l : List Int} : ∀ {n : Nat} {w : Int}, n ≤ l.length → (w ∈ zmpN l n ↔ ∃ j : Int, 0 ≤ j ∧ j < n ∧ ix l j = w)
  | 0, w, _ => by simp [zmpN]; intro j; omega
  | n + 1, w, h => by
    have ih := fun w => zmpN_mem (l := l) (n := n) (w := w) (by omega)
    unfold zmpN
    split
    · rename_i he
      rw [ih]
      constructor
      · rintro ⟨j, j0, j1, e⟩; exact ⟨j, j0, by omega, e⟩
      · rintro ⟨j, j0, j1, e⟩
        by_cases hj : j = (n : Int)
        · subst hj; exact ⟨(n : Int) - 1, by omega, by omega, by rw [← he.2]; exact e⟩
        · exact ⟨j, j0, by omega, e⟩
    · rw [List.mem_append, ih]
      constructor
      · rintro (⟨j, j0, j1, e⟩ | e)
        · exact ⟨j, j0, by omega, e⟩
        · simp at e; exact ⟨n, by omega, by omega, e.symm⟩
      · rintro ⟨j, j0, j1, e⟩
        by_cases hj : j = (n : Int)
        · subst hj; right; simp [e]
        · left; exact ⟨j, j0, by omega, e⟩
theorem compZ_mem {l : List Int} {w : Int} : w ∈ compZ l ↔ w ∈ l := by
  unfold compZ
  rw [zmpN_mem (Nat.le_refl _)]
  constructor
  · rintro ⟨j, j0, j1, rfl⟩; exact ix_mem j0 j1
  · intro h
    obtain ⟨j, hj, e⟩ := List.mem_iff_getElem.1 h
    exact ⟨j, by omega, by omega, by rw [ix_nat hj, e]⟩
theorem zmpN_len (l : List Int) : ∀ n, (zmpN l n).length ≤ n
  | 0 => by simp [zmpN]
  | n + 1 => by
    have := zmpN_len l n
    unfold zmpN; split
    · omega
    · simp; omega
theorem zmpN_asc {l : List Int} (hs : l.Pairwise (· ≤ ·)) : ∀ {n : Nat}, n ≤ l.length → (zmpN l n).Pairwise (· < ·)
  | 0, _ => by simp [zmpN]
  | n + 1, h => by
    have ih := zmpN_asc hs (n := n) (by omega)
    unfold zmpN
    split
    · exact ih
    · rename_i hn
      rw [List.pairwise_append]
      refine ⟨ih, by simp, fun a ha b hb => ?_⟩
      simp at hb; subst hb
      obtain ⟨j, j0, j1, rfl⟩ := (zmpN_mem (by omega)).1 ha
      have le : ∀ i k : Nat, i ≤ k → k < l.length → ix l (i : Int) ≤ ix l (k : Int) := fun i k h1 h2 => by
        rcases Nat.lt_or_eq_of_le h1 with h1 | h1
        · rw [ix_nat (by omega), ix_nat h2]
          exact List.pairwise_iff_getElem.1 hs i k (by omega) h2 h1
        · subst h1; omega
      have a1 := le j.toNat (n - 1) (by omega) (by omega)
      have a2 := le (n - 1) n (by omega) (by omega)
      rw [show ((j.toNat : Nat) : Int) = j by omega, show ((n - 1 : Nat) : Int) = (n : Int) - 1 by omega] at a1
      rw [show ((n - 1 : Nat) : Int) = (n : Int) - 1 by omega] at a2
      have a3 : ix l (n : Int) ≠ ix l ((n : Int) - 1) := fun e => hn ⟨by omega, e⟩
      omega
theorem zasc_eq {a b : List Int} (ha : a.Pairwise (· < ·)) (hb : b.Pairwise (· < ·)) (h : ∀ x, x ∈ a ↔ x ∈ b) : a = b := by
  refine List.Perm.eq_of_pairwise (le := (· < ·)) (fun x y _ _ h k => by omega) ha hb ?_
  refine (List.perm_ext_iff_of_nodup ?_ ?_).2 h
  · exact ha.imp fun h => by omega
  · exact hb.imp fun h => by omega
theorem compZ_all {vs : List Int} (h : zmpN vs vs.length = vs.take vs.length) : compZ vs = vs := by unfold compZ; rw [h, List.take_length]
theorem zmpN_one {vs : List Int} (h : 0 < vs.length) : zmpN vs 1 = vs.take 1 := by
  match vs, h with
  | x :: r, _ => rfl
theorem zmpN_same {vs : List Int} {k : Int} (k0 : 1 ≤ k) (h : ix vs k = ix vs (k - 1)) : zmpN vs (k + 1).toNat = zmpN vs k.toNat := by
  rw [show (k + 1).toNat = k.toNat + 1 by omega]
  conv => lhs; unfold zmpN
  rw [if_pos ⟨by omega, by rw [show ((k.toNat : Nat) : Int) = k by omega]; exact h⟩]
theorem zmpN_next {vs : List Int} {k : Int} (k0 : 1 ≤ k) (h : ¬ ix vs k = ix vs (k - 1)) : zmpN vs (k + 1).toNat = zmpN vs k.toNat ++ [ix vs k] := by
  rw [show (k + 1).toNat = k.toNat + 1 by omega]
  conv => lhs; unfold zmpN
  rw [if_neg (fun ⟨_, e⟩ => h (by rwa [show ((k.toNat : Nat) : Int) = k by omega] at e)), show ((k.toNat : Nat) : Int) = k by omega]
theorem ztake_ix {vs : List Int} {k : Int} (h0 : 0 ≤ k) (h1 : k < vs.length) : vs.take (k + 1).toNat = vs.take k.toNat ++ [ix vs k] := by
  rw [show (k + 1).toNat = k.toNat + 1 by omega, List.take_add_one, ix_eq h0 h1]; rfl
abbrev Zb (vs : List Int) : Blk := ⟨none, vs.map .int, .live⟩
abbrev ZB (vs : List Int) (r : Nat) : Blk := ⟨none, vs.map .int ++ List.replicate r (.int 0), .live⟩
theorem zcompact_l (vs : List Int) (h0 : vs ≠ []) (hl : (vs.length : Int) ≤ 1000000) :
    LX L F_slices_Compact_Sint_int [.sl 0 vs.length 0 vs.length] [Zb vs] (fun v τ => v = .sl 0 vs.length 0 (compZ vs).length ∧ τ = [ZB (compZ vs) (vs.length - (compZ vs).length)]) := by
  have hn : 0 < vs.length := List.length_pos_iff.2 h0
  refine go_slices_Compact_Sint_int rfl ?_
  by_cases h2 : vs.length < 2
  · simp [show (vs.length : Int) < 2 by omega]
    have e1 : vs.length = 1 := by omega
    rw [compZ_all (by rw [e1]; exact zmpN_one hn)]; simp
  · simp [show ¬ (vs.length : Int) < 2 by omega]
    refine W_iter (fun k : Int => [(1, .int k)]) (fun _ => [Zb vs]) (fun k => 1 ≤ k ∧ k ≤ vs.length ∧ zmpN vs k.toNat = vs.take k.toNat) (fun k => (vs.length - k).toNat) 1 rfl ⟨by omega, by omega, ?_⟩ fun k ⟨k0, k1, k2⟩ => ?_
    · exact zmpN_one hn
    by_cases hk : k < vs.length
    · simp [-More_nor, hk, show 0 ≤ k by omega, show 0 ≤ k - 1 by omega, show k - 1 < (vs.length : Int) by omega]
      refine ⟨by omega, by omega, by omega, fun he => ⟨by omega, ?_⟩, fun he => ⟨by omega, More_of (k + 1) rfl rfl ⟨by omega, by omega, by rw [zmpN_next (by omega) he, k2, ztake_ix (by omega) hk]⟩ (by omega)⟩⟩
      obtain ⟨k, rfl⟩ : ∃ k' : Nat, k = k' := ⟨k.toNat, by omega⟩
      have hkn : k < vs.length := by omega
      rw [Int.toNat_natCast] at k2 ⊢
      have hst := zmpN_same (vs := vs) k0 he
      rw [show ((k : Int) + 1).toNat = k + 1 by omega, Int.toNat_natCast, k2] at hst
      refine W_iter (fun p : Nat × Nat × List Int => [(1, .int p.1), (2, .int ((p.2.1 : Int) + 1))]) (fun p => [Zb p.2.2]) (fun p => k + p.2.1 + 1 ≤ vs.length ∧ p.2.2.length = vs.length ∧ p.1 = (zmpN vs (k + p.2.1 + 1)).length ∧ p.1 ≤ k + p.2.1 ∧ p.2.2.take p.1 = zmpN vs (k + p.2.1 + 1) ∧ ∀ j : Nat, k + p.2.1 ≤ j → j < vs.length → ix p.2.2 (j : Int) = ix vs (j : Int))
        (fun p => vs.length - p.2.1) (k, 0, vs) (by simp [sets]) ⟨by dsimp only; omega, rfl, by dsimp only; rw [Nat.add_zero, hst]; simp; omega, by dsimp only; omega, by dsimp only; rw [Nat.add_zero, hst], fun _ _ _ => rfl⟩ ?_
      rintro ⟨q, j, cs⟩ ⟨j1, c1, c2, c3, c4, c5⟩
      dsimp only at j1 c1 c2 c3 c4 c5 ⊢
      by_cases hj : k + j + 1 < vs.length
      · have e1 := c5 (k + j + 1) (by omega) hj
        have e2 := c5 (k + j) (by omega) (by omega)
        have s1 : ix vs ((k + j + 1 : Nat) : Int) = ix vs ((k + j : Nat) : Int) → zmpN vs (k + (j + 1) + 1) = zmpN vs (k + j + 1) := fun h => by
          have := zmpN_same (vs := vs) (k := ((k + j + 1 : Nat) : Int)) (by omega) (by rw [show ((k + j + 1 : Nat) : Int) - 1 = ((k + j : Nat) : Int) by omega]; exact h)
          rw [show (((k + j + 1 : Nat) : Int) + 1).toNat = k + (j + 1) + 1 by omega, show (((k + j + 1 : Nat) : Int)).toNat = k + j + 1 by omega] at this
          exact this
        have s2 : ¬ ix vs ((k + j + 1 : Nat) : Int) = ix vs ((k + j : Nat) : Int) → zmpN vs (k + (j + 1) + 1) = zmpN vs (k + j + 1) ++ [ix vs ((k + j + 1 : Nat) : Int)] := fun h => by
          have := zmpN_next (vs := vs) (k := ((k + j + 1 : Nat) : Int)) (by omega) (by rw [show ((k + j + 1 : Nat) : Int) - 1 = ((k + j : Nat) : Int) by omega]; exact h)
          rw [show (((k + j + 1 : Nat) : Int) + 1).toNat = k + (j + 1) + 1 by omega, show (((k + j + 1 : Nat) : Int)).toNat = k + j + 1 by omega] at this
          exact this
        rw [← e1, ← e2, show ((k + j + 1 : Nat) : Int) = (k : Int) + ((j : Int) + 1) by omega, show ((k + j : Nat) : Int) = (k : Int) + j by omega] at s1 s2
        simp [-More_nor, c1, show (j : Int) + 1 < ((vs.length - k : Nat) : Int) by omega]
        refine ⟨by omega, by omega, by omega, by omega, by omega, fun h => ⟨by omega, More_of (q, j + 1, cs) (by simp) rfl ⟨by dsimp only; omega, c1, by dsimp only; rw [s1 h]; exact c2, by dsimp only; omega, by dsimp only; rw [s1 h]; exact c4, fun i a b => c5 i (by dsimp only at a; omega) b⟩ (by dsimp only; omega)⟩, fun h => ⟨by omega, by omega, by omega, by omega, by omega, More_of (q + 1, j + 1, cs.set q (ix cs ((k : Int) + ((j : Int) + 1)))) (by simp) (by simp [List.map_set]) ⟨by dsimp only; omega, by simp [c1], by dsimp only; rw [s2 h]; simp; exact c2, by dsimp only; omega, ?_, fun i a b => ?_⟩ (by dsimp only; omega)⟩⟩
        · dsimp only
          rw [s2 h, ← c4, List.take_add_one, List.take_set_of_le (Nat.le_refl _), List.getElem?_set_self (by omega)]
          rfl
        · dsimp only at a ⊢
          rw [ixs_set (by omega) (by omega), if_neg (by omega)]
          exact c5 i (by omega) b
      · simp [-More_nor, show ¬ (j : Int) + 1 < ((vs.length - k : Nat) : Int) by omega]
        have hqn : q ≤ vs.length := by omega
        have hnn : k + j + 1 = vs.length := by omega
        rw [hnn] at c2 c4
        refine ⟨c1, hqn, ?_⟩
        rw [zlnK_clr (B := Zb cs) rfl (by simp [upto, blk, c1]) ⟨by omega, by simp [c1]; omega, rfl, rfl, rfl⟩]
        have hput : putAt (cs.map .int) q (dupN (vs.length - q) [.int 0]) = (compZ vs).map .int ++ List.replicate (vs.length - q) (.int 0) := by
          unfold putAt
          rw [← List.map_take, c4, List.drop_of_length_le (by simp [dupN, c1]; omega)]
          simp [dupN, compZ]
        have hq2 : (compZ vs).length = q := by unfold compZ; exact c2.symm
        simp [-List.map_replicate, hput, hq2]
        omega
    · simp [hk]
      rw [show k.toNat = vs.length by omega] at k2
      rw [compZ_all k2]; simp
end Ab
