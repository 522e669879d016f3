/- Blocks of numbers; stores: blocks behind others, blocks that are put, rows that lie somewhere. Numbers sorted, each once. The outputs of a machine, each once. slices.Compact behind two blocks. Condition: none. -/
import Derived.Test.YtlgfempnnijfnaaGreatGbf
import Derived.Test.YtlgfempnnijfnaaGreatMnlT
set_option linter.all false
set_option maxRecDepth 100000
set_option maxHeartbeats 4000000
namespace Ab
abbrev Zb (vs : List Int) : Blk := ⟨none, vs.map .int, .live⟩
theorem bE : ∀ (σ : List Blk) (i : Nat), blk σ i = σ[i]?
  | [], i => by simp [blk]
  | x :: r, 0 => rfl
  | x :: r, i + 1 => by simp [blk, bE r i]
theorem sE : ∀ (σ : List Blk) (i : Nat) (B : Blk), setB σ i B = σ.set i B
  | [], i, B => by simp [setB]
  | x :: r, 0, B => rfl
  | x :: r, i + 1, B => by simp [setB, sE r i B]
def rws (e : Nat) (p : Nat → Nat) (n K : Nat) : List AV := (List.range n).map fun j => .sl (p j + e) K 0 K
theorem zJuI {e n K : Nat} {p : Nat → Nat} : rws e p (n + 1) K = rws e p n K ++ [.sl (p n + e) K 0 K] := by simp [rws, List.range_succ]
theorem z4HF {e n K : Nat} {p : Nat → Nat} : (rws e p n K).length = n := by simp [rws]
theorem zhi1 {ce : CE} {a b c d : AV} {r : List Blk} : ev ce (⟨some 4, [a, b, c, d], .live⟩ :: r) 0 [] (fun _ => .ptr 0 (kst (some 4)) 0) (.ld (.v 0) (some 4)) = some (.agg [a, b, c, d], none) := (rfl)
theorem znKw {Q r : List Blk} {B : Blk} : blk (Q ++ B :: r) Q.length = some B := by rw [bE]; simp
theorem zFZS {Q r : List Blk} {A B : Blk} : blk (Q ++ A :: B :: r) (Q.length + 1) = some B := by rw [bE]; simp
theorem zsbM {Q r : List Blk} {B C : Blk} : setB (Q ++ B :: r) Q.length C = Q ++ C :: r := by rw [sE, List.set_append, if_neg (by omega)]; simp
theorem zHO5 {Q r : List Blk} {A B C : Blk} : setB (Q ++ A :: B :: r) (Q.length + 1) C = Q ++ A :: C :: r := by rw [sE, List.set_append, if_neg (by omega)]; simp
theorem zwpB {σ : List Blk} {b k : Nat} {l : List Int} (h : blk σ b = some (Zb l)) : view σ false (k + 2) (.sl b l.length 0 l.length) = some (iL l) := by
  have hu : upto σ b l.length = some (Zb l) := by
    unfold upto
    rw [h]
    simp
  unfold view
  simp only [hu, kst, List.drop_zero, Nat.zero_add, Nat.mul_one]
  have e : mapO (view σ false (k + 1)) (l.map AV.int) = some (l.map AV.int) := zwdp (f := AV.int) (g := AV.int) fun _ _ => rfl
  rw [if_pos (by simp), zeyr (by simp), e]
structure RowsAt (σ : List Blk) (b : Nat) (at' : Nat → Nat) (l : List (List Int)) : Prop where
  tab : blk σ b = some ⟨none, (List.range l.length).map fun (j : Nat) => AV.sl (at' j) (ix l (j : Int)).length 0 (ix l (j : Int)).length, .live⟩
  row : ∀ j : Nat, j < l.length → blk σ (at' j) = some (Zb (ix l (j : Int)))
theorem zxD4 {σ : List Blk} {at' : Nat → Nat} {k : Nat} {l : List (List Int)} (h : ∀ j : Nat, j < l.length → blk σ (at' j) = some (Zb (ix l (j : Int)))) : mapO (view σ false (k + 2)) ((List.range l.length).map fun (j : Nat) => AV.sl (at' j) (ix l (j : Int)).length 0 (ix l (j : Int)).length) = some (l.map iL) := by
  have e : l.map iL = (List.range l.length).map fun (j : Nat) => iL (ix l (j : Int)) := by
    apply List.ext_getElem
    · simp
    · intro i h1 h2
      simp at h1
      simp only [List.getElem_map, List.getElem_range]
      rw [zrZW h1]
  rw [e, zwdp]
  intro j hj
  exact zwpB (h j (List.mem_range.1 hj))
theorem zlv3 {σ : List Blk} {b k n : Nat} {at' : Nat → Nat} {l : List (List Int)} (h : RowsAt σ b at' l) (hn : n = l.length) : view σ false (k + 3) (.sl b n 0 n) = some (iLL l) := by
  subst hn
  have hu : upto σ b l.length = some ⟨none, (List.range l.length).map fun (j : Nat) => AV.sl (at' j) (ix l (j : Int)).length 0 (ix l (j : Int)).length, .live⟩ := by
    unfold upto
    rw [h.tab]
    simp
  unfold view
  simp only [hu, kst, List.drop_zero, Nat.zero_add, Nat.mul_one]
  rw [if_pos (by simp), zeyr (by simp), zxD4 h.row]
end Ab
namespace Ab
theorem z703 {vars env : List AV} {x : Rf} {z : List AV} {k : Option Nat} {σp σ : List Blk} {K : List AV → List Blk → List Blk → Prop} {b u off len : Nat} {B : Blk} (hr : rv vars env x = .sl b u off len) (hu : upto σ b u = some B) (hc : 0 < len ∧ off + len * kst k ≤ B.cells.length ∧ kst B.k = kst k ∧ z.length = kst k ∧ B.st.isLive = true) : lnK L vars (.clr x z k) false env σp σ K = K (.und :: env) [] (setB σ b ⟨B.k, putAt B.cells off (dupN len z), B.st⟩) := by
  show optK (evW L σ (rv vars env) (.clr x z k)) (fun p => K (p.1 :: env) [] p.2) = _
  simp only [evW, hr, hu]
  rw [if_pos hc]; rfl
def zmpN (l : List Int) : Nat → List Int
  | 0 => []
  | n + 1 => if 0 < n ∧ ix l (n : Int) = ix l ((n : Int) - 1) then zmpN l n else zmpN l n ++ [ix l (n : Int)]
def compZ (l : List Int) : List Int := zmpN l l.length
theorem zWUM {l : List Int} : ∀ {n : Nat} {w : Int}, n ≤ l.length → (w ∈ zmpN l n ↔ ∃ j : Int, 0 ≤ j ∧ j < n ∧ ix l j = w)
  | 0, w, _ => by simp [zmpN]; intro j; omega
  | n + 1, w, h => by
    have ih := fun w => zWUM (l := l) (n := n) (w := w) (by omega)
    unfold zmpN
    split
    · rename_i he
      rw [ih]
      constructor
      · rintro ⟨j, j0, j1, e⟩; exact ⟨j, j0, by omega, e⟩
      · rintro ⟨j, j0, j1, e⟩
        by_cases hj : j = (n : Int)
        · subst hj; exact ⟨(n : Int) - 1, by omega, by omega, by rw [← he.2]; exact e⟩
        · exact ⟨j, j0, by omega, e⟩
    · rw [List.mem_append, ih]
      constructor
      · rintro (⟨j, j0, j1, e⟩ | e)
        · exact ⟨j, j0, by omega, e⟩
        · simp at e; exact ⟨n, by omega, by omega, e.symm⟩
      · rintro ⟨j, j0, j1, e⟩
        by_cases hj : j = (n : Int)
        · subst hj; right; simp [e]
        · left; exact ⟨j, j0, by omega, e⟩
theorem zQKH {l : List Int} {w : Int} : w ∈ compZ l ↔ w ∈ l := by
  unfold compZ
  rw [zWUM (Nat.le_refl _)]
  constructor
  · rintro ⟨j, j0, j1, rfl⟩; exact zmAQ j0 j1
  · intro h
    obtain ⟨j, hj, e⟩ := List.mem_iff_getElem.1 h
    exact ⟨j, by omega, by omega, by rw [zrZW hj, e]⟩
theorem zxIN (l : List Int) : ∀ n, (zmpN l n).length ≤ n
  | 0 => by simp [zmpN]
  | n + 1 => by
    have := zxIN l n
    unfold zmpN; split
    · omega
    · simp; omega
theorem zG25 {l : List Int} (hs : l.Pairwise (· ≤ ·)) : ∀ {n : Nat}, n ≤ l.length → (zmpN l n).Pairwise (· < ·)
  | 0, _ => by simp [zmpN]
  | n + 1, h => by
    have ih := zG25 hs (n := n) (by omega)
    unfold zmpN
    split
    · exact ih
    · rename_i hn
      rw [List.pairwise_append]
      refine ⟨ih, by simp, fun a ha b hb => ?_⟩
      simp at hb; subst hb
      obtain ⟨j, j0, j1, rfl⟩ := (zWUM (by omega)).1 ha
      have le : ∀ i k : Nat, i ≤ k → k < l.length → ix l (i : Int) ≤ ix l (k : Int) := fun i k h1 h2 => by
        rcases Nat.lt_or_eq_of_le h1 with h1 | h1
        · rw [zrZW (by omega), zrZW h2]
          exact List.pairwise_iff_getElem.1 hs i k (by omega) h2 h1
        · subst h1; omega
      have a1 := le j.toNat (n - 1) (by omega) (by omega)
      have a2 := le (n - 1) n (by omega) (by omega)
      rw [show ((j.toNat : Nat) : Int) = j by omega, show ((n - 1 : Nat) : Int) = (n : Int) - 1 by omega] at a1
      rw [show ((n - 1 : Nat) : Int) = (n : Int) - 1 by omega] at a2
      have a3 : ix l (n : Int) ≠ ix l ((n : Int) - 1) := fun e => hn ⟨by omega, e⟩
      omega
theorem z9uB {vs : List Int} (h : zmpN vs vs.length = vs.take vs.length) : compZ vs = vs := by unfold compZ; rw [h, List.take_length]
theorem z1Az {vs : List Int} (h : 0 < vs.length) : zmpN vs 1 = vs.take 1 := by
  match vs, h with
  | x :: r, _ => rfl
theorem zykE {vs : List Int} {k : Int} (k0 : 1 ≤ k) (h : ix vs k = ix vs (k - 1)) : zmpN vs (k + 1).toNat = zmpN vs k.toNat := by
  rw [show (k + 1).toNat = k.toNat + 1 by omega]
  conv => lhs; unfold zmpN
  rw [if_pos ⟨by omega, by rw [show ((k.toNat : Nat) : Int) = k by omega]; exact h⟩]
theorem zth6 {vs : List Int} {k : Int} (k0 : 1 ≤ k) (h : ¬ ix vs k = ix vs (k - 1)) : zmpN vs (k + 1).toNat = zmpN vs k.toNat ++ [ix vs k] := by
  rw [show (k + 1).toNat = k.toNat + 1 by omega]
  conv => lhs; unfold zmpN
  rw [if_neg (fun ⟨_, e⟩ => h (by rwa [show ((k.toNat : Nat) : Int) = k by omega] at e)), show ((k.toNat : Nat) : Int) = k by omega]
theorem z3WV {vs : List Int} {k : Int} (h0 : 0 ≤ k) (h1 : k < vs.length) : vs.take (k + 1).toNat = vs.take k.toNat ++ [ix vs k] := by
  rw [show (k + 1).toNat = k.toNat + 1 by omega, List.take_add_one, ix_eq h0 h1]; rfl
abbrev ZB (vs : List Int) (r : Nat) : Blk := ⟨none, vs.map .int ++ List.replicate r (.int 0), .live⟩
end Ab
namespace Ab
theorem zh09 {σ : List Blk} {b n : Nat} {zs : List Int} (hu : blk σ b = some (Zb zs)) (hn : n = zs.length) (h0 : zs ≠ []) (hl : (zs.length : Int) ≤ 1000000) : L zTrs [.sl b n 0 n] σ = some (.tup [], setB σ b (Zb (sortI zs))) := by
  subst hn
  refine zE0x (N := 0) ?_
  have hu' : upto σ b zs.length = some (Zb zs) := by
    unfold upto
    rw [hu]
    simp
  have hp : 0 < zs.length := List.length_pos_iff.2 h0
  simp only [pSortI, hu']
  have hb : zs.length ≤ big := by show zs.length ≤ 1073741824; omega
  rw [if_pos (by simp [BSt.isLive, kindNone, hp]; omega)]
  have ht : (((zs.map AV.int).drop 0).take zs.length) = zs.map .int := by rw [List.drop_zero, List.take_of_length_le (by simp)]
  rw [ht, zyc3]
  have hs : (sortI zs).length = zs.length := (zZHI zs).length_eq
  have hput : putAt (zs.map AV.int) 0 ((sortI zs).map .int) = (sortI zs).map .int := by
    unfold putAt
    rw [List.take_zero, List.nil_append, List.drop_of_length_le (by simp [hs])]; simp
  simp only [hput]
theorem zchunk {rest : List AV} : ∀ {xs : List Int}, chunk none xs.length (xs.map AV.int ++ rest) = xs.map .int
  | [] => rfl
  | x :: xs => by
    have e := zchunk (rest := rest) (xs := xs)
    simp only [List.length_cons, List.map_cons, List.cons_append, chunk, e]
theorem zYLL (l : List Int) : (compZ l).length ≤ l.length := zxIN l _
end Ab
namespace Ab
theorem zzIy {A B : Blk} (vs : List Int) (h0 : vs ≠ []) (hl : (vs.length : Int) ≤ 1000000) :
    LX L zMnE [.sl 2 vs.length 0 vs.length] [A, B, Zb vs] (fun v τ => v = .sl 2 vs.length 0 (compZ vs).length ∧ τ = [A, B, ZB (compZ vs) (vs.length - (compZ vs).length)]) := by
  have hn : 0 < vs.length := List.length_pos_iff.2 h0
  refine zcvF rfl ?_
  by_cases h2 : vs.length < 2
  · simp [show (vs.length : Int) < 2 by omega]
    have e1 : vs.length = 1 := by omega
    rw [z9uB (by rw [e1]; exact z1Az hn)]; simp
  · simp [show ¬ (vs.length : Int) < 2 by omega]
    refine zv8C (fun k : Int => [(1, .int k)]) (fun _ => [A, B, Zb vs]) (fun k => 1 ≤ k ∧ k ≤ vs.length ∧ zmpN vs k.toNat = vs.take k.toNat) (fun k => (vs.length - k).toNat) 1 rfl ⟨by omega, by omega, ?_⟩ fun k ⟨k0, k1, k2⟩ => ?_
    · exact z1Az hn
    by_cases hk : k < vs.length
    · simp [-zJRc, hk, show 0 ≤ k by omega, show 0 ≤ k - 1 by omega, show k - 1 < (vs.length : Int) by omega]
      refine ⟨by omega, by omega, by omega, fun he => ⟨by omega, ?_⟩, fun he => ⟨by omega, zGkM (k + 1) rfl rfl ⟨by omega, by omega, by rw [zth6 (by omega) he, k2, z3WV (by omega) hk]⟩ (by omega)⟩⟩
      obtain ⟨k, rfl⟩ : ∃ k' : Nat, k = k' := ⟨k.toNat, by omega⟩
      have hkn : k < vs.length := by omega
      rw [Int.toNat_natCast] at k2 ⊢
      have hst := zykE (vs := vs) k0 he
      rw [show ((k : Int) + 1).toNat = k + 1 by omega, Int.toNat_natCast, k2] at hst
      refine zv8C (fun p : Nat × Nat × List Int => [(1, .int p.1), (2, .int ((p.2.1 : Int) + 1))]) (fun p => [A, B, Zb p.2.2]) (fun p => k + p.2.1 + 1 ≤ vs.length ∧ p.2.2.length = vs.length ∧ p.1 = (zmpN vs (k + p.2.1 + 1)).length ∧ p.1 ≤ k + p.2.1 ∧ p.2.2.take p.1 = zmpN vs (k + p.2.1 + 1) ∧ ∀ j : Nat, k + p.2.1 ≤ j → j < vs.length → ix p.2.2 (j : Int) = ix vs (j : Int))
        (fun p => vs.length - p.2.1) (k, 0, vs) (by simp [sets]) ⟨by dsimp only; omega, rfl, by dsimp only; rw [Nat.add_zero, hst]; simp; omega, by dsimp only; omega, by dsimp only; rw [Nat.add_zero, hst], fun _ _ _ => rfl⟩ ?_
      rintro ⟨q, j, cs⟩ ⟨j1, c1, c2, c3, c4, c5⟩
      dsimp only at j1 c1 c2 c3 c4 c5 ⊢
      by_cases hj : k + j + 1 < vs.length
      · have e1 := c5 (k + j + 1) (by omega) hj
        have e2 := c5 (k + j) (by omega) (by omega)
        have s1 : ix vs ((k + j + 1 : Nat) : Int) = ix vs ((k + j : Nat) : Int) → zmpN vs (k + (j + 1) + 1) = zmpN vs (k + j + 1) := fun h => by
          have := zykE (vs := vs) (k := ((k + j + 1 : Nat) : Int)) (by omega) (by rw [show ((k + j + 1 : Nat) : Int) - 1 = ((k + j : Nat) : Int) by omega]; exact h)
          rw [show (((k + j + 1 : Nat) : Int) + 1).toNat = k + (j + 1) + 1 by omega, show (((k + j + 1 : Nat) : Int)).toNat = k + j + 1 by omega] at this
          exact this
        have s2 : ¬ ix vs ((k + j + 1 : Nat) : Int) = ix vs ((k + j : Nat) : Int) → zmpN vs (k + (j + 1) + 1) = zmpN vs (k + j + 1) ++ [ix vs ((k + j + 1 : Nat) : Int)] := fun h => by
          have := zth6 (vs := vs) (k := ((k + j + 1 : Nat) : Int)) (by omega) (by rw [show ((k + j + 1 : Nat) : Int) - 1 = ((k + j : Nat) : Int) by omega]; exact h)
          rw [show (((k + j + 1 : Nat) : Int) + 1).toNat = k + (j + 1) + 1 by omega, show (((k + j + 1 : Nat) : Int)).toNat = k + j + 1 by omega] at this
          exact this
        rw [← e1, ← e2, show ((k + j + 1 : Nat) : Int) = (k : Int) + ((j : Int) + 1) by omega, show ((k + j : Nat) : Int) = (k : Int) + j by omega] at s1 s2
        simp [-zJRc, c1, show (j : Int) + 1 < ((vs.length - k : Nat) : Int) by omega]
        refine ⟨by omega, by omega, by omega, by omega, by omega, fun h => ⟨by omega, zGkM (q, j + 1, cs) (by simp) rfl ⟨by dsimp only; omega, c1, by dsimp only; rw [s1 h]; exact c2, by dsimp only; omega, by dsimp only; rw [s1 h]; exact c4, fun i a b => c5 i (by dsimp only at a; omega) b⟩ (by dsimp only; omega)⟩, fun h => ⟨by omega, by omega, by omega, by omega, by omega, zGkM (q + 1, j + 1, cs.set q (ix cs ((k : Int) + ((j : Int) + 1)))) (by simp) (by simp [List.map_set]) ⟨by dsimp only; omega, by simp [c1], by dsimp only; rw [s2 h]; simp; exact c2, by dsimp only; omega, ?_, fun i a b => ?_⟩ (by dsimp only; omega)⟩⟩
        · dsimp only
          rw [s2 h, ← c4, List.take_add_one, List.take_set_of_le (Nat.le_refl _), List.getElem?_set_self (by omega)]
          rfl
        · dsimp only at a ⊢
          rw [zf2p (by omega) (by omega), if_neg (by omega)]
          exact c5 i (by omega) b
      · simp [-zJRc, show ¬ (j : Int) + 1 < ((vs.length - k : Nat) : Int) by omega]
        have hqn : q ≤ vs.length := by omega
        have hnn : k + j + 1 = vs.length := by omega
        rw [hnn] at c2 c4
        refine ⟨c1, hqn, ?_⟩
        rw [z703 (B := Zb cs) (b := 2) rfl (by simp [upto, blk, c1]) ⟨by omega, by simp [c1]; omega, rfl, rfl, rfl⟩]
        have hput : putAt (cs.map .int) q (dupN (vs.length - q) [.int 0]) = (compZ vs).map .int ++ List.replicate (vs.length - q) (.int 0) := by
          unfold putAt
          rw [← List.map_take, c4, List.drop_of_length_le (by simp [dupN, c1]; omega)]
          simp [dupN, compZ]
        have hq2 : (compZ vs).length = q := by unfold compZ; exact c2.symm
        simp [-List.map_replicate, hput, hq2]
        omega
    · simp [hk]
      rw [show k.toNat = vs.length by omega] at k2
      rw [z9uB k2]; simp
end Ab
