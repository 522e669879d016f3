/- Comparisons, sorted words, in memory. Groups of states with the same outputs: what they are, homing words. Where a number stands in an ascending list. Condition: none. -/
import Derived.Test.YtlgfempnnijfnaaGreatGbf
import Derived.Test.YtlgfempnnijfnaaGreatMnlT
set_option linter.all false
set_option maxRecDepth 100000
set_option maxHeartbeats 4000000
namespace Ab
def cI (x y : Int) : Int := if x < y then -1 else if y < x then 1 else 0
theorem zeUC (x : Int) : PC zPpc [.int x] = some (.bool false) := by
  refine zx72 (zXA2 rfl ?_)
  simp
theorem zZEX (x y : Int) : PC zb3m [.int x, .int y] = some (.int (cI x y)) := by
  refine zx72 (zWPT rfl ?_)
  simp [zeUC]
  refine ⟨fun h => by simp [cI, h], fun h => ⟨fun k => ?_, fun k => ?_⟩⟩
  · simp [cI, k]; omega
  · simp [cI]; omega
theorem or_s (x y : Int) : PC zVj2 [.imm false [.int x, .int y]] = some (.int (if x = 0 then y else x)) := by
  refine zx72 (zB37 rfl ?_)
  have e : (.imm false [.int x, .int y] : AV) = iL [x, y] := rfl
  rw [e]
  simp only [iL]
  generalize hl : [x, y] = l
  have hlen : l.length = 2 := by rw [← hl]; rfl
  simp [hlen]
  refine zv8C (fun i : Int => [(1, .int i)]) (fun _ => []) (fun i => 0 ≤ i ∧ i ≤ 2 ∧ ∀ j, 0 ≤ j → j < i → ix l j = 0) (fun i => (2 - i).toNat) 0 rfl ⟨by omega, by omega, zguy⟩ fun i ⟨i0, i1, i2⟩ => ?_
  have e0 : ix l 0 = x := by rw [← hl]; rfl
  have e1 : ix l 1 = y := by rw [← hl]; rfl
  by_cases hi : i < 2
  · simp [-zJRc, hi, i0, hlen]
    refine ⟨fun h => ⟨by omega, zGkM (i + 1) rfl rfl ⟨by omega, by omega, zvtS h i2⟩ (by omega)⟩, fun h => ?_⟩
    by_cases e : i = 0
    · subst e; rw [e0] at h ⊢; simp [h]
    · have : i = 1 := by omega
      subst this
      have := i2 0 (by omega) (by omega)
      rw [e0] at this
      rw [e1]; simp [this]
  · have h0 := i2 0 (by omega) (by omega)
    have h1 := i2 1 (by omega) (by omega)
    rw [e0] at h0; rw [e1] at h1
    simp [hi, h0, h1]
theorem z6Gt {a b : List Int} {i : Int} (h0 : 0 ≤ i) (h1 : i < a.length) (h2 : i < b.length) : lexC (a.drop i.toNat) (b.drop i.toNat) = if cI (ix a i) (ix b i) = 0 then lexC (a.drop (i + 1).toNat) (b.drop (i + 1).toNat) else cI (ix a i) (ix b i) := by
  rw [zN4X h0 h1, zN4X h0 h2]
  unfold cI
  simp only [lexC]
  split
  · simp
  · split <;> simp
theorem zc8o (a b : List Int) (ha : (a.length : Int) ≤ 9223372036854775807) (hb : (b.length : Int) ≤ 9223372036854775807) : PC z5pu [iL a, iL b] = some (.int (lexC a b)) := by
  refine zx72 (zT2p rfl ?_)
  simp
  refine zv8C (fun i : Int => [(2, .int i)]) (fun _ => []) (fun i => 0 ≤ i ∧ i ≤ a.length ∧ i ≤ b.length ∧ lexC (a.drop i.toNat) (b.drop i.toNat) = lexC a b) (fun i => (a.length - i).toNat) 0 rfl ⟨by omega, by omega, by omega, rfl⟩ fun i ⟨i0, i1, i2, i3⟩ => ?_
  by_cases hi : i < a.length
  · by_cases hj : i < b.length
    · have e := z6Gt i0 hi hj
      rw [i3] at e
      simp [-zJRc, hi, hj, i0, zZEX, show ¬ (b.length : Int) ≤ i by omega]
      refine ⟨fun h => ⟨by omega, zGkM (i + 1) rfl rfl ⟨by omega, by omega, by omega, by rw [if_pos h] at e; exact e.symm⟩ (by omega)⟩, fun h => by rw [if_neg h] at e; exact e.symm⟩
    · have e : b.drop i.toNat = [] := zdV2 (by omega)
      rw [e, zN4X i0 hi] at i3
      have i3 : (1 : Int) = lexC a b := i3
      simp [-zJRc, hi, hj, i0, show (b.length : Int) ≤ i by omega]
      exact i3
  · have e : a.drop i.toNat = [] := zdV2 (by omega)
    rw [e] at i3
    simp [hi]
    by_cases hj : i < b.length
    · rw [zN4X i0 hj] at i3
      have i3 : (-1 : Int) = lexC a b := i3
      exact ⟨fun _ => i3, fun h => by omega⟩
    · rw [zdV2 (by omega)] at i3
      have i3 : (0 : Int) = lexC a b := i3
      exact ⟨fun h => by omega, fun _ => i3⟩
theorem zXl5 (a b : List Int) (ha : (a.length : Int) ≤ 9223372036854775807) (hb : (b.length : Int) ≤ 9223372036854775807) : PC zGKM [iL a, iL b] = some (.int (slxC a b)) := by
  refine zx72 (zHXr rfl ?_)
  simp [zZEX, zc8o a b ha hb, or_s]
  unfold slxC cI
  (repeat' split) <;> first | rfl | omega
abbrev Cmp := List Int → List Int → Int
section
variable {K : Cmp}
def insG (K : Cmp) (x : List Int) : List (List Int) → List (List Int)
  | [] => [x]
  | y :: r => if K x y ≤ 0 then x :: y :: r else y :: insG K x r
def sortG (K : Cmp) : List (List Int) → List (List Int)
  | [] => []
  | x :: r => insG K x (sortG K r)
theorem zvwC (x : List Int) : ∀ l : List (List Int), insK K (iL x) (l.map iL) = (insG K x l).map iL
  | [] => rfl
  | y :: r => by
    have e : kLe K (iL x) (iL y) = decide (K x y ≤ 0) := by
      unfold kLe
      rw [show wordOf (iL x) = some x from zWaJ x, show wordOf (iL y) = some y from zWaJ y]
    simp only [List.map_cons, insK, insG, e, zvwC x r]
    by_cases h : K x y ≤ 0 <;> simp [h]
theorem zyhq : ∀ l : List (List Int), sortK K (l.map iL) = (sortG K l).map iL
  | [] => rfl
  | x :: r => by simp only [List.map_cons, sortK, sortG, zyhq r, zvwC]
theorem zG2H (x : List Int) : ∀ l, (insG K x l).Perm (x :: l)
  | [] => .refl _
  | y :: r => by
    unfold insG
    split
    · exact .refl _
    · exact ((zG2H x r).cons y).trans (.swap x y r)
theorem zBxp : ∀ l, (sortG K l).Perm l
  | [] => .refl _
  | x :: r => (zG2H x _).trans ((zBxp r).cons x)
theorem zSuL (hK : KOk K) {u v : List Int} (h : ¬ K u v ≤ 0) : K v u ≤ 0 := by have := hK.anti u v; omega
theorem zlTn (hK : KOk K) (x : List Int) : ∀ {l : List (List Int)}, l.Pairwise (fun a b => K a b ≤ 0) → (insG K x l).Pairwise (fun a b => K a b ≤ 0)
  | [], _ => by simp [insG]
  | y :: r, h => by
    rw [List.pairwise_cons] at h
    unfold insG
    split
    · rename_i hx
      rw [List.pairwise_cons, List.pairwise_cons]
      refine ⟨fun a ha => ?_, h⟩
      rcases List.mem_cons.1 ha with rfl | ha
      · exact hx
      · exact hK.trans _ _ _ hx (h.1 a ha)
    · rename_i hx
      rw [List.pairwise_cons]
      refine ⟨fun a ha => ?_, zlTn hK x h.2⟩
      rcases List.mem_cons.1 ((zG2H x r).mem_iff.1 ha) with rfl | ha
      · exact zSuL hK hx
      · exact h.1 a ha
theorem zGIm (hK : KOk K) : ∀ l, (sortG K l).Pairwise (fun a b => K a b ≤ 0)
  | [] => .nil
  | x :: r => zlTn hK x (zGIm hK r)
def cmpN (l : List (List Int)) : Nat → List (List Int)
  | 0 => []
  | n + 1 => if 0 < n ∧ ix l (n : Int) = ix l ((n : Int) - 1) then cmpN l n else cmpN l n ++ [ix l (n : Int)]
def compW (l : List (List Int)) : List (List Int) := cmpN l l.length
theorem zOrD (l : List (List Int)) : ∀ n, (cmpN l n).length ≤ n
  | 0 => by simp [cmpN]
  | n + 1 => by
    have := zOrD l n
    unfold cmpN; split
    · omega
    · simp; omega
theorem zfRJ {l : List (List Int)} : ∀ {n : Nat} {w : List Int}, n ≤ l.length → (w ∈ cmpN l n ↔ ∃ j : Int, 0 ≤ j ∧ j < n ∧ ix l j = w)
  | 0, w, _ => by simp [cmpN]; intro j; omega
  | n + 1, w, h => by
    have ih := fun w => zfRJ (l := l) (n := n) (w := w) (by omega)
    unfold cmpN
    split
    · rename_i he
      rw [ih]
      constructor
      · rintro ⟨j, j0, j1, e⟩; exact ⟨j, j0, by omega, e⟩
      · rintro ⟨j, j0, j1, e⟩
        by_cases hj : j = (n : Int)
        · subst hj; exact ⟨(n : Int) - 1, by omega, by omega, by rw [← he.2]; exact e⟩
        · exact ⟨j, j0, by omega, e⟩
    · rw [List.mem_append, ih]
      constructor
      · rintro (⟨j, j0, j1, e⟩ | e)
        · exact ⟨j, j0, by omega, e⟩
        · simp at e; exact ⟨n, by omega, by omega, e.symm⟩
      · rintro ⟨j, j0, j1, e⟩
        by_cases hj : j = (n : Int)
        · subst hj; right; simp [e]
        · left; exact ⟨j, j0, by omega, e⟩
theorem zRBF {l : List (List Int)} {w : List Int} : w ∈ compW l ↔ w ∈ l := by
  unfold compW
  rw [zfRJ (Nat.le_refl _)]
  constructor
  · rintro ⟨j, j0, j1, rfl⟩; exact zmAQ j0 j1
  · intro h
    obtain ⟨i, hi, rfl⟩ := List.mem_iff_getElem.1 h
    exact ⟨i, by omega, by omega, zrZW hi⟩
abbrev ascG (K : Cmp) (l : List (List Int)) : Prop := l.Pairwise fun a b => K a b < 0
theorem pw_ix (hK : KOk K) {l : List (List Int)} (h : l.Pairwise (fun a b => K a b ≤ 0)) {i j : Int} (i0 : 0 ≤ i) (ij : i ≤ j) (j1 : j < l.length) : K (ix l i) (ix l j) ≤ 0 := by
  by_cases e : i = j
  · subst e; exact Int.le_of_eq (hK.refl _)
  · rw [List.pairwise_iff_getElem] at h
    have := h i.toNat j.toNat (by omega) (by omega) (by omega)
    rw [← zrZW (by omega), ← zrZW (by omega)] at this
    rwa [show ((i.toNat : Nat) : Int) = i by omega, show ((j.toNat : Nat) : Int) = j by omega] at this
theorem zEX3 (hK : KOk K) {l : List (List Int)} (h : l.Pairwise (fun a b => K a b ≤ 0)) : ∀ {n : Nat}, n ≤ l.length → ascG K (cmpN l n)
  | 0, _ => .nil
  | n + 1, hn => by
    have ih := zEX3 hK h (n := n) (by omega)
    unfold cmpN
    split
    · exact ih
    · rename_i hne
      rw [ascG, List.pairwise_append]
      refine ⟨ih, by simp, fun a ha b hb => ?_⟩
      simp at hb; subst hb
      obtain ⟨j, j0, j1, rfl⟩ := (zfRJ (by omega)).1 ha
      have n0 : 0 < n := by omega
      have h1 := pw_ix hK h j0 (show j ≤ (n : Int) - 1 by omega) (by omega)
      have h2 := pw_ix hK h (show 0 ≤ (n : Int) - 1 by omega) (show (n : Int) - 1 ≤ n by omega) (by omega)
      have h3 : ¬ K (ix l ((n : Int) - 1)) (ix l n) = 0 := fun e => hne ⟨n0, (hK.eq _ _ e).symm⟩
      have h4 := hK.trans _ _ _ h1 h2
      by_cases e : K (ix l j) (ix l n) = 0
      · have e' := hK.eq _ _ e
        rw [e'] at h1
        have := hK.anti (ix l n) (ix l ((n : Int) - 1))
        omega
      · omega
def sortUG (K : Cmp) (l : List (List Int)) : List (List Int) := compW (sortG K l)
theorem zjJG {l : List (List Int)} {w : List Int} : w ∈ sortUG K l ↔ w ∈ l := by
  unfold sortUG; rw [zRBF, (zBxp l).mem_iff]
theorem zPq5 (hK : KOk K) (l : List (List Int)) : ascG K (sortUG K l) := zEX3 hK (zGIm hK l) (Nat.le_refl _)
theorem zUWa (hK : KOk K) {a : List Int} (h : K a a < 0) : False := by have := hK.refl a; omega
theorem ztOD (hK : KOk K) : ∀ {l k : List (List Int)}, ascG K l → ascG K k → (∀ w, w ∈ l ↔ w ∈ k) → l = k
  | [], [], _, _, _ => rfl
  | [], y :: k, _, _, h => by have := (h y).2 (by simp); simp at this
  | x :: l, [], _, _, h => by have := (h x).1 (by simp); simp at this
  | x :: l, y :: k, h1, h2, h => by
    rw [ascG, List.pairwise_cons] at h1 h2
    have e : x = y := by
      rcases List.mem_cons.1 ((h x).1 (by simp)) with e | hx
      · exact e
      · rcases List.mem_cons.1 ((h y).2 (by simp)) with e | hy
        · exact e.symm
        · have a := h2.1 x hx
          have b := h1.1 y hy
          have := hK.anti x y
          omega
    subst e
    rw [ztOD hK h1.2 h2.2 fun w => ?_]
    constructor
    · intro hw
      rcases List.mem_cons.1 ((h w).1 (by simp [hw])) with e | hk
      · subst e; exact (zUWa hK (h1.1 w hw)).elim
      · exact hk
    · intro hw
      rcases List.mem_cons.1 ((h w).2 (by simp [hw])) with e | hk
      · subst e; exact (zUWa hK (h2.1 w hw)).elim
      · exact hk
theorem znem (hK : KOk K) {l k : List (List Int)} (hk : ascG K k) (h : ∀ w, w ∈ l ↔ w ∈ k) : sortUG K l = k := ztOD hK (zPq5 hK l) hk fun w => by rw [zjJG, h]
theorem zftd (l : List (List Int)) : (compW l).length ≤ l.length := zOrD l _
theorem zAE3 (l : List (List Int)) : (sortG K l).length = l.length := (zBxp l).length_eq
end
abbrev asc (l : List (List Int)) : Prop := ascG slxC l
abbrev sortU (l : List (List Int)) : List (List Int) := sortUG slxC l
theorem zQl1 {l k : List (List Int)} (hk : asc k) (h : ∀ w, w ∈ l ↔ w ∈ k) : sortU l = k := znem zvz8 hk h
theorem zMWM {l : List (List Int)} {w : List Int} : w ∈ sortU l ↔ w ∈ l := zjJG
theorem zZTJ {ce : CE} {g : Nat} {caps d : List AV} (h : agree ce g caps slxC d = true) (k : agree ce g caps lexC d = true) : sortK slxC d = sortK lexC d := by
  have hw : areWords d := fun x hx => by
    obtain ⟨u, v, h1, _⟩ := zYa1 h hx hx
    exact ⟨u, h1⟩
  refine zh5C z6ce hw (zLhs d) ?_
  have hs := zrgh zvz8 hw
  refine hs.imp_of_mem fun {x y} hx hy hxy => ?_
  have hx' := (zLhs d).mem_iff.1 hx
  have hy' := (zLhs d).mem_iff.1 hy
  obtain ⟨u, v, h1, h2, h3⟩ := zYa1 h hx' hy'
  obtain ⟨u', v', k1, k2, k3⟩ := zYa1 k hx' hy'
  rw [h1] at k1; rw [h2] at k2
  injection k1 with k1; injection k2 with k2
  subst k1; subst k2
  rw [h3] at k3
  have e : slxC u v = lexC u v := by simpa using k3
  rw [zW5R h1 h2] at hxy ⊢
  omega
structure CmpF (f : Nat) (K : Cmp) : Prop where
  ok : KOk K
  run : ∀ a b : List Int, (a.length : Int) ≤ 1000000 → (b.length : Int) ≤ 1000000 → PC f [iL a, iL b] = some (.int (K a b))
  one : K = slxC ∨ K = lexC
theorem zRaq : CmpF zGKM slxC := ⟨zvz8, fun a b ha hb => zXl5 a b (by omega) (by omega), .inl rfl⟩
section
variable {K : Cmp}
abbrev LB (ws : List (List Int)) (k : Nat) : Blk := ⟨none, ws.map iL ++ List.replicate k .snil, .live⟩
abbrev Lb (ws : List (List Int)) : Blk := ⟨none, ws.map iL, .live⟩
abbrev fitW (ws : List (List Int)) : Prop := ∀ w ∈ ws, (w.length : Int) ≤ 1000000
theorem zEsX (w : List Int) (h : (w.length : Int) ≤ 1000000) : PC zUHS [iL w] = some (iL w) := by
  have e : pClone1 (cN G Q 0) [iL w] = some (iL w) := by
    simp only [pClone1, iL]
    rw [if_pos]
    simp [isScalar]
    try omega
  have := zHFW e
  unfold PC PCx
  rw [this]
  rfl
theorem zQSF {vars env : List AV} {x : Rf} {z : List AV} {k : Option Nat} {σp σ : List Blk} {K : List AV → List Blk → List Blk → Prop} {b u off len : Nat} {B : Blk} (hr : rv vars env x = .sl b u off len) (hu : upto σ b u = some B) (hc : 0 < len ∧ off + len * kst k ≤ B.cells.length ∧ kst B.k = kst k ∧ z.length = kst k ∧ B.st.isLive = true) : lnK L vars (.clr x z k) false env σp σ K = K (.und :: env) [] (setB σ b ⟨B.k, putAt B.cells off (dupN len z), B.st⟩) := by
  show optK (evW L σ (rv vars env) (.clr x z k)) (fun p => K (p.1 :: env) [] p.2) = _
  simp only [evW, hr, hu]
  rw [if_pos hc]; rfl
theorem zV1J {vs : List (List Int)} (h : cmpN vs vs.length = vs.take vs.length) : compW vs = vs := by unfold compW; rw [h, List.take_length]
theorem z5su {vs : List (List Int)} (h : 0 < vs.length) : cmpN vs 1 = vs.take 1 := by
  match vs, h with
  | x :: r, _ => rfl
theorem zoHf {vs : List (List Int)} {k : Int} (k0 : 1 ≤ k) (h : ix vs k = ix vs (k - 1)) : cmpN vs (k + 1).toNat = cmpN vs k.toNat := by
  rw [show (k + 1).toNat = k.toNat + 1 by omega]
  conv => lhs; unfold cmpN
  rw [if_pos ⟨by omega, by rw [show ((k.toNat : Nat) : Int) = k by omega]; exact h⟩]
theorem zQ36 {vs : List (List Int)} {k : Int} (k0 : 1 ≤ k) (h : ¬ ix vs k = ix vs (k - 1)) : cmpN vs (k + 1).toNat = cmpN vs k.toNat ++ [ix vs k] := by
  rw [show (k + 1).toNat = k.toNat + 1 by omega]
  conv => lhs; unfold cmpN
  rw [if_neg (fun ⟨_, e⟩ => h (by rwa [show ((k.toNat : Nat) : Int) = k by omega] at e)), show ((k.toNat : Nat) : Int) = k by omega]
theorem zNC6 {vs : List (List Int)} {k : Int} (h0 : 0 ≤ k) (h1 : k < vs.length) : vs.take (k + 1).toNat = vs.take k.toNat ++ [ix vs k] := by
  rw [show (k + 1).toNat = k.toNat + 1 by omega, List.take_add_one, ix_eq h0 h1]; rfl
theorem zl1u {ws : List (List Int)} (h : fitW ws) : fitW (sortG K ws) := fun w hw => h w ((zBxp ws).mem_iff.1 hw)
theorem zZ6r (ws : List (List Int)) (h0 : ws ≠ []) (hl : (ws.length : Int) ≤ 1000000) : L zDOo [iLL ws] [] = some (.sl 0 ws.length 0 ws.length, [Lb ws]) := by
  refine z1qS (N := 0) ?_
  obtain ⟨x, l, rfl⟩ : ∃ x l, ws = x :: l := by
    cases ws with
    | nil => exact absurd rfl h0
    | cons x l => exact ⟨x, l, rfl⟩
  have h1 : ∀ k : List (List Int), (k.map iL).all isOne = true := fun k => by simp [isOne]
  have h2 : ∀ k : List (List Int), noLocs (k.map iL) = true := fun k => by
    induction k with
    | nil => rfl
    | cons a r ih => simp only [List.map_cons, noLocs, noLoc, Bool.true_and]; exact ih
  have h3 : ((x :: l).map iL).length ≤ big := by rw [List.length_map]; show (x :: l).length ≤ 1073741824; omega
  have hw : ((x :: l).map iL).map wk1 = (x :: l).map iL := by simp [wk1]
  have hc : (((x :: l).map iL).all isOne && noLocs ((x :: l).map iL) && decide (((x :: l).map iL).length ≤ big)) = true := by
    rw [h1, h2, decide_eq_true h3]; rfl
  show pCloneS (cN G Q 0) [.imm false (iL x :: l.map iL)] [] = _
  unfold pCloneS
  refine (if_pos hc).trans ?_
  rw [show (iL x :: l.map iL) = (x :: l).map iL from rfl, hw, List.length_map]
  rfl
theorem z4ZY {α : Type} {f : α → AV} {rest : List AV} : ∀ {xs : List α}, chunk none xs.length (xs.map f ++ rest) = xs.map f
  | [] => rfl
  | x :: xs => by
    have e := z4ZY (f := f) (rest := rest) (xs := xs)
    simp only [List.length_cons, List.map_cons, List.cons_append, chunk, e]
theorem vd_LB {σ : List Blk} {fr : Bool} {b u r : Nat} {xs : List (List Int)} {st : BSt} (h : blk σ b = some ⟨none, xs.map iL ++ List.replicate r .snil, st⟩) (hs : st.isArr = true) (hu : u = xs.length + r) : view σ false vd (.sl b u 0 xs.length) = some (iLL xs) := by
  subst hu
  have hu : upto σ b (xs.length + r) = some ⟨none, xs.map iL ++ List.replicate r .snil, st⟩ := by
    unfold upto
    rw [h]
    cases st <;> simp at hs ⊢
  show view σ false (11 + 1) _ = _
  unfold view
  simp only [hu, kst, List.drop_zero, Nat.zero_add, Nat.mul_one]
  rw [if_pos (by simp), z4ZY, zwdp (f := iL) (g := iL) (v := view σ false 11) fun _ _ => rfl]
theorem z1v6 {xs : List (List Int)} {r : Nat} {i : Int} (h0 : 0 ≤ i) (h1 : i < xs.length) : elm (xs.map iL ++ List.replicate r AV.snil) i.toNat = some (iL (ix xs i)) := by
  rw [znyW, List.getElem?_append_left (by simp; omega), List.getElem?_map, ix_eq h0 h1]; rfl
theorem z2yt {xs : List (List Int)} {r : Nat} {i : Int} (h0 : 0 ≤ i) (h1 : i < xs.length) : (xs.map iL ++ List.replicate r AV.snil).set i.toNat (iL (ix xs i)) = xs.map iL ++ List.replicate r AV.snil := by
  rw [List.set_append, if_pos (by simp; omega), ← List.map_set]
  congr 2
  have : ix xs i = xs[i.toNat] := by
    have := zrZW (l := xs) (n := i.toNat) (by omega)
    rwa [show ((i.toNat : Nat) : Int) = i by omega] at this
  rw [this]; exact List.set_getElem_self _
end
section
variable {f : Nat} {K : Cmp} (hF : CmpF f K)
include hF
theorem zrcD (ws : List (List Int)) (h0 : ws ≠ []) (hl : (ws.length : Int) ≤ 1000000) (hw : fitW ws) : L zuPb [.sl 0 ws.length 0 ws.length, .func f []] [Lb ws] = some (.tup [], [Lb (sortG K ws)]) := by
  have hc : ∀ x ∈ ws.map iL, ∀ y ∈ ws.map iL, ∃ u v, wordOf x = some u ∧ wordOf y = some v ∧ pcl (lim G Q) f (x :: y :: []) = some (.int (K u v)) := by
    intro x hx y hy
    obtain ⟨u, hu, rfl⟩ := List.mem_map.1 hx
    obtain ⟨v, hv, rfl⟩ := List.mem_map.1 hy
    refine ⟨u, v, zWaJ u, zWaJ v, ?_⟩
    have := hF.run u v (hw u hu) (hw v hv)
    unfold pcl
    rw [if_pos (by simp)]
    exact this
  obtain ⟨N, hN⟩ := ziAO z1GZ hc
  refine zaIf (N := N) ?_
  have hn : 0 < ws.length := List.length_pos_iff.2 h0
  have hu : upto [Lb ws] 0 ws.length = some (Lb ws) := by simp [upto, blk]
  have hbig : (ws.map iL).length ≤ big := by rw [List.length_map]; show ws.length ≤ 1073741824; omega
  simp only [pSort, hu]
  have ht : (((ws.map iL).drop 0).take ws.length) = ws.map iL := by rw [List.drop_zero, List.take_of_length_le (by simp)]
  rw [ht]
  have hcond : ((BSt.live).isLive && kindNone none && decide (0 < ws.length) && decide (0 + ws.length ≤ (ws.map iL).length) && decide ((ws.map iL).length ≤ big)) = true := by
    simp only [List.length_map] at hbig ⊢
    simp [hn, BSt.isLive, kindNone]
    try omega
  rw [if_pos hcond]
  have hsel : (if agree (cN G Q N) f [] slxC (ws.map iL) = true then some (AV.tup [], setB [Lb ws] 0 ⟨none, putAt (ws.map iL) 0 (sortK slxC (ws.map iL)), .live⟩) else if agree (cN G Q N) f [] lexC (ws.map iL) = true then some (AV.tup [], setB [Lb ws] 0 ⟨none, putAt (ws.map iL) 0 (sortK lexC (ws.map iL)), .live⟩) else none) = some (AV.tup [], setB [Lb ws] 0 ⟨none, putAt (ws.map iL) 0 (sortK K (ws.map iL)), .live⟩) := by
    rcases hF.one with e | e
    · rw [e] at hN ⊢; rw [if_pos hN]
    · rw [e] at hN ⊢
      by_cases h : agree (cN G Q N) f [] slxC (ws.map iL) = true
      · rw [if_pos h, zZTJ h hN]
      · rw [if_neg h, if_pos hN]
  rw [hsel, zyhq]
  have hp : putAt (ws.map iL) 0 ((sortG K ws).map iL) = (sortG K ws).map iL := by
    unfold putAt
    rw [List.take_zero, List.nil_append, List.drop_of_length_le (by simp [zAE3])]; simp
  rw [hp]
theorem zxcb (a b : List Int) (ha : (a.length : Int) ≤ 1000000) (hb : (b.length : Int) ≤ 1000000) : PC zgJR [iL a, iL b, .pimm (.func f [])] = some (.bool (decide (a = b))) := by
  refine zx72 (zw0l rfl ?_)
  have e := hF.run a b ha hb
  simp [e]
  exact ⟨hF.ok.eq a b, fun h => by subst h; exact hF.ok.refl a⟩
theorem zr7g (vs : List (List Int)) (h0 : vs ≠ []) (hl : (vs.length : Int) ≤ 1000000) (hw : fitW vs) :
    LX L zcfo [.sl 0 vs.length 0 vs.length, .func zgJR [.pimm (.func f [])]] [Lb vs] (fun v τ => v = .sl 0 vs.length 0 (compW vs).length ∧ τ = [LB (compW vs) (vs.length - (compW vs).length)]) := by
  have hn : 0 < vs.length := List.length_pos_iff.2 h0
  refine zuR7 rfl ?_
  by_cases h2 : vs.length < 2
  · simp [show (vs.length : Int) < 2 by omega]
    have e1 : vs.length = 1 := by omega
    rw [zV1J (by rw [e1]; exact z5su hn)]; simp
  · simp [show ¬ (vs.length : Int) < 2 by omega]
    refine zv8C (fun k : Int => [(2, .int k)]) (fun _ => [Lb vs]) (fun k => 1 ≤ k ∧ k ≤ vs.length ∧ cmpN vs k.toNat = vs.take k.toNat) (fun k => (vs.length - k).toNat) 1 rfl ⟨by omega, by omega, ?_⟩ fun k ⟨k0, k1, k2⟩ => ?_
    · exact z5su hn
    by_cases hk : k < vs.length
    · have e := zxcb hF (ix vs k) (ix vs (k - 1)) (hw _ (zmAQ (by omega) hk)) (hw _ (zmAQ (by omega) (by omega)))
      simp [-zJRc, hk, show 0 ≤ k by omega, show 0 ≤ k - 1 by omega, show k - 1 < (vs.length : Int) by omega, e]
      refine ⟨by omega, by omega, by omega, fun he => ⟨by omega, ?_⟩, fun he => ⟨by omega, zGkM (k + 1) rfl rfl ⟨by omega, by omega, by rw [zQ36 (by omega) he, k2, zNC6 (by omega) hk]⟩ (by omega)⟩⟩
      obtain ⟨k, rfl⟩ : ∃ k' : Nat, k = k' := ⟨k.toNat, by omega⟩
      have hkn : k < vs.length := by omega
      rw [Int.toNat_natCast] at k2 ⊢
      have hst := zoHf (vs := vs) k0 he
      rw [show ((k : Int) + 1).toNat = k + 1 by omega, Int.toNat_natCast, k2] at hst
      refine zv8C (fun p : Nat × Nat × List (List Int) => [(2, .int p.1), (3, .int ((p.2.1 : Int) + 1))]) (fun p => [Lb p.2.2]) (fun p => k + p.2.1 + 1 ≤ vs.length ∧ p.2.2.length = vs.length ∧ p.1 = (cmpN vs (k + p.2.1 + 1)).length ∧ p.1 ≤ k + p.2.1 ∧ p.2.2.take p.1 = cmpN vs (k + p.2.1 + 1) ∧ ∀ j : Nat, k + p.2.1 ≤ j → j < vs.length → ix p.2.2 (j : Int) = ix vs (j : Int))
        (fun p => vs.length - p.2.1) (k, 0, vs) (by simp [sets]) ⟨by dsimp only; omega, rfl, by dsimp only; rw [Nat.add_zero, hst]; simp; omega, by dsimp only; omega, by dsimp only; rw [Nat.add_zero, hst], fun _ _ _ => rfl⟩ ?_
      rintro ⟨q, j, cs⟩ ⟨j1, c1, c2, c3, c4, c5⟩
      dsimp only at j1 c1 c2 c3 c4 c5 ⊢
      by_cases hj : k + j + 1 < vs.length
      · have e1 := c5 (k + j + 1) (by omega) hj
        have e2 := c5 (k + j) (by omega) (by omega)
        have e := zxcb hF (ix vs ((k + j + 1 : Nat) : Int)) (ix vs ((k + j : Nat) : Int)) (hw _ (zmAQ (by omega) (by omega))) (hw _ (zmAQ (by omega) (by omega)))
        rw [← e1, ← e2, show ((k + j + 1 : Nat) : Int) = (k : Int) + ((j : Int) + 1) by omega, show ((k + j : Nat) : Int) = (k : Int) + j by omega] at e
        simp [-zJRc, c1, show (j : Int) + 1 < ((vs.length - k : Nat) : Int) by omega, e]
        have s1 : ix vs ((k + j + 1 : Nat) : Int) = ix vs ((k + j : Nat) : Int) → cmpN vs (k + (j + 1) + 1) = cmpN vs (k + j + 1) := fun h => by
          have := zoHf (vs := vs) (k := ((k + j + 1 : Nat) : Int)) (by omega) (by rw [show ((k + j + 1 : Nat) : Int) - 1 = ((k + j : Nat) : Int) by omega]; exact h)
          rw [show (((k + j + 1 : Nat) : Int) + 1).toNat = k + (j + 1) + 1 by omega, show (((k + j + 1 : Nat) : Int)).toNat = k + j + 1 by omega] at this
          exact this
        have s2 : ¬ ix vs ((k + j + 1 : Nat) : Int) = ix vs ((k + j : Nat) : Int) → cmpN vs (k + (j + 1) + 1) = cmpN vs (k + j + 1) ++ [ix vs ((k + j + 1 : Nat) : Int)] := fun h => by
          have := zQ36 (vs := vs) (k := ((k + j + 1 : Nat) : Int)) (by omega) (by rw [show ((k + j + 1 : Nat) : Int) - 1 = ((k + j : Nat) : Int) by omega]; exact h)
          rw [show (((k + j + 1 : Nat) : Int) + 1).toNat = k + (j + 1) + 1 by omega, show (((k + j + 1 : Nat) : Int)).toNat = k + j + 1 by omega] at this
          exact this
        rw [← e1, ← e2, show ((k + j + 1 : Nat) : Int) = (k : Int) + ((j : Int) + 1) by omega, show ((k + j : Nat) : Int) = (k : Int) + j by omega] at s1 s2
        refine ⟨by omega, by omega, by omega, by omega, by omega, fun h => ⟨by omega, zGkM (q, j + 1, cs) (by simp) rfl ⟨by dsimp only; omega, c1, by dsimp only; rw [s1 h]; exact c2, by dsimp only; omega, by dsimp only; rw [s1 h]; exact c4, fun i a b => c5 i (by dsimp only at a; omega) b⟩ (by dsimp only; omega)⟩, fun h => ⟨by omega, by omega, by omega, by omega, by omega, zGkM (q + 1, j + 1, cs.set q (ix cs ((k : Int) + ((j : Int) + 1)))) (by simp) (by simp [List.map_set]) ⟨by dsimp only; omega, by simp [c1], by dsimp only; rw [s2 h]; simp; exact c2, by dsimp only; omega, ?_, fun i a b => ?_⟩ (by dsimp only; omega)⟩⟩
        · dsimp only
          rw [s2 h, ← c4, List.take_add_one, List.take_set_of_le (Nat.le_refl _), List.getElem?_set_self (by omega)]
          rfl
        · dsimp only at a ⊢
          rw [zf2p (by omega) (by omega), if_neg (by omega)]
          exact c5 i (by omega) b
      · simp [-zJRc, show ¬ (j : Int) + 1 < ((vs.length - k : Nat) : Int) by omega]
        have hqn : q ≤ vs.length := by omega
        have hnn : k + j + 1 = vs.length := by omega
        rw [hnn] at c2 c4
        refine ⟨c1, hqn, ?_⟩
        rw [zQSF (B := Lb cs) rfl (by simp [upto, blk, c1]) ⟨by omega, by simp [c1]; omega, rfl, rfl, rfl⟩]
        have hput : putAt (cs.map iL) q (dupN (vs.length - q) [.snil]) = (compW vs).map iL ++ List.replicate (vs.length - q) .snil := by
          unfold putAt
          rw [← List.map_take, c4, List.drop_of_length_le (by simp [dupN, c1]; omega)]
          simp [dupN, compW]
        have hq2 : (compW vs).length = q := by unfold compW; exact c2.symm
        simp [hput, hq2]
        omega
    · simp [hk]
      rw [show k.toNat = vs.length by omega] at k2
      rw [zV1J k2]; simp
theorem z4Hv : L zcfo [.imm false [], .func zgJR [.pimm (.func f [])]] [] = some (.imm false [], []) := by
  refine LX_eq (zuR7 rfl ?_)
  simp
theorem z5Ii (ws : List (List Int)) (hl : (ws.length : Int) ≤ 1000000) (hw : fitW ws) : PC zePV [iLL ws, .func f []] = some (iLL (sortUG K ws)) := by
  refine zx72 (zgTS rfl ?_)
  by_cases h0 : ws = []
  · subst h0
    have e1 : L zDOo [.imm false []] [] = some (.imm false [], []) := z1qS (N := 0) rfl
    have e2 : L zuPb [.imm false [], .func f []] [] = some (.tup [], []) := zaIf (N := 0) rfl
    have e3 := z4Hv hF
    simp [e1, e2, e3, shV]
    refine zv8C (fun _ : Unit => []) (fun _ => []) (fun _ => True) (fun _ => 0) () rfl trivial fun _ _ => ?_
    simp [sortUG, sortG, compW, cmpN]
  · have h1 : sortG K ws ≠ [] := fun e => h0 (List.eq_nil_of_length_eq_zero (by rw [← zAE3 (K := K), e]; rfl))
    have hlen := zAE3 (K := K) ws
    have e1 := zZ6r ws h0 hl
    have e2 := zrcD hF ws h0 hl hw
    obtain ⟨_, _, e3, rfl, rfl⟩ := LX_s (zr7g hF (sortG K ws) h1 (by omega) (zl1u hw))
    rw [hlen] at e3
    have hsh : shL 0 (ws.map iL) = ws.map iL := by
      have : ∀ k : List (List Int), shL 0 (k.map iL) = k.map iL := fun k => by
        induction k with
        | nil => rfl
        | cons a r ih => simp only [List.map_cons, shL, shV, ih]
      exact this ws
    simp [e1, e2, e3, shV, shB, hsh]
    have hk := zftd (sortG K ws)
    rw [hlen] at hk
    have hfit : fitW (compW (sortG K ws)) := fun w h => hw w (zjJG.1 h)
    show W L zXeB.loop _ _
    have hu : sortUG K ws = compW (sortG K ws) := rfl
    rw [hu]
    generalize compW (sortG K ws) = cs at *
    have hv := vd_LB (σ := [LB cs (ws.length - cs.length)]) (fr := false) (b := 0) (u := ws.length) (xs := cs) (r := ws.length - cs.length) (st := .live) rfl (by simp) (by omega)
    refine zv8C (fun i : Int => [(4, .int i)]) (fun _ => [LB cs (ws.length - cs.length)]) (fun i => 0 ≤ i ∧ i ≤ cs.length) (fun i => (cs.length - i).toNat) 0 rfl (by omega) fun i ⟨i0, i1⟩ => ?_
    by_cases hi : i < cs.length
    · have e4 := zEsX (ix cs i) (hfit _ (zmAQ i0 hi))
      have hel := z1v6 (xs := cs) (r := ws.length - cs.length) i0 hi
      have hset := z2yt (xs := cs) (r := ws.length - cs.length) i0 hi
      simp [-zJRc, -List.map_append, hi, i0, hk, hel, e4, -zD0v, ↓zd72, hset]
      exact ⟨by omega, by omega, zGkM (i + 1) (by simp) rfl (by omega) (by omega)⟩
    · simp [hi, hv]
end
theorem zGle (ws : List (List Int)) (hl : (ws.length : Int) ≤ 1000000) (hw : fitW ws) : PC ze0X [iLL ws] = some (iLL (sortU ws)) := by
  refine zx72 (zwoP rfl ?_)
  simp [z5Ii zRaq ws hl hw]
end Ab
namespace Ab
abbrev up (l : List Int) : Prop := l.Pairwise fun a b => a < b
theorem up_eq : ∀ {l k : List Int}, up l → up k → (∀ x, x ∈ l ↔ x ∈ k) → l = k
  | [], [], _, _, _ => rfl
  | [], b :: k, _, _, h => absurd ((h b).2 (by simp)) (by simp)
  | a :: l, [], _, _, h => absurd ((h a).1 (by simp)) (by simp)
  | a :: l, b :: k, h1, h2, h => by
    have ⟨a1, a2⟩ := List.pairwise_cons.1 h1
    have ⟨b1, b2⟩ := List.pairwise_cons.1 h2
    have e : a = b := by
      rcases List.mem_cons.1 ((h a).1 (by simp)) with e | ha
      · exact e
      rcases List.mem_cons.1 ((h b).2 (by simp)) with e | hb
      · exact e.symm
      have := b1 a ha
      have := a1 b hb
      omega
    subst e
    congr 1
    refine up_eq a2 b2 fun x => ?_
    constructor
    · intro hx
      rcases List.mem_cons.1 ((h x).1 (by simp [hx])) with e | hk
      · have := a1 x hx; omega
      · exact hk
    · intro hx
      rcases List.mem_cons.1 ((h x).2 (by simp [hx])) with e | hk
      · have := b1 x hx; omega
      · exact hk
def iput (l : List Int) (t : Int) : List Int := if t ∈ l then l else (l.filter fun x => decide (x < t)) ++ t :: l.filter fun x => decide (t < x)
theorem zHc8 {l : List Int} {t x : Int} : x ∈ iput l t ↔ x ∈ l ∨ x = t := by
  unfold iput
  by_cases h : t ∈ l
  · rw [if_pos h]
    constructor
    · exact .inl
    · rintro (h' | rfl)
      · exact h'
      · exact h
  · rw [if_neg h]
    simp only [List.mem_append, List.mem_cons, List.mem_filter, decide_eq_true_eq]
    constructor
    · rintro (⟨h1, _⟩ | h1 | ⟨h1, _⟩)
      · exact .inl h1
      · exact .inr h1
      · exact .inl h1
    · rintro (h1 | h1)
      · rcases Int.lt_trichotomy x t with h2 | h2 | h2
        · exact .inl ⟨h1, h2⟩
        · exact .inr (.inl h2)
        · exact .inr (.inr ⟨h1, h2⟩)
      · exact .inr (.inl h1)
theorem zAfB {l : List Int} {t : Int} (h : up l) : up (iput l t) := by
  unfold iput
  split
  · exact h
  · rw [up, List.pairwise_append]
    refine ⟨h.filter _, ?_, fun a ha b hb => ?_⟩
    · rw [List.pairwise_cons]
      exact ⟨fun x hx => by simpa using (List.mem_filter.1 hx).2, h.filter _⟩
    · have h1 : a < t := by simpa using (List.mem_filter.1 ha).2
      rcases List.mem_cons.1 hb with rfl | hb
      · exact h1
      · have h2 : t < b := by simpa using (List.mem_filter.1 hb).2
        omega
abbrev Gr := List Int × List Int
def gput (o : List Int) (t : Int) : List Gr → List Gr
  | [] => [(o, [t])]
  | g :: r => if g.1 = o then (g.1, iput g.2 t) :: r else g :: gput o t r
def gtab (m : Mly) (w : List Int) : Nat → List Gr
  | 0 => []
  | s + 1 => gput (m.outs (s : Int) w) (m.run (s : Int) w) (gtab m w s)
theorem zFhZ {o : List Int} {t : Int} : ∀ {l : List Gr}, (gput o t l).map (·.1) = if o ∈ l.map (·.1) then l.map (·.1) else l.map (·.1) ++ [o]
  | [] => by simp [gput]
  | g :: r => by
    unfold gput
    by_cases h : g.1 = o
    · rw [if_pos h]; simp [h]
    · rw [if_neg h, List.map_cons, zFhZ (l := r)]
      have h' : ¬ o = g.1 := fun e => h e.symm
      by_cases hm : o ∈ r.map (·.1)
      · rw [if_pos hm, if_pos (by simp only [List.map_cons, List.mem_cons]; exact .inr hm)]; rfl
      · rw [if_neg hm, if_neg (by simp only [List.map_cons, List.mem_cons, not_or]; exact ⟨h', hm⟩)]; rfl
structure Gok (m : Mly) (w : List Int) (n : Nat) (G : List Gr) : Prop where
  nd : (G.map (·.1)).Nodup
  up : ∀ g ∈ G, up g.2
  mem : ∀ g ∈ G, ∀ t, t ∈ g.2 ↔ ∃ s : Nat, s < n ∧ m.outs (s : Int) w = g.1 ∧ m.run (s : Int) w = t
  all : ∀ s : Nat, s < n → m.outs (s : Int) w ∈ G.map (·.1)
  ne : ∀ g ∈ G, ∃ s : Nat, s < n ∧ m.outs (s : Int) w = g.1
theorem zBd2 {o : List Int} {t : Int} : ∀ {l : List Gr} {g : Gr}, (l.map (·.1)).Nodup → (g ∈ gput o t l ↔ (g ∈ l ∧ g.1 ≠ o) ∨ (∃ k ∈ l, k.1 = o ∧ g = (o, iput k.2 t)) ∨ (o ∉ l.map (·.1) ∧ g = (o, [t])))
  | [], g, _ => by simp [gput]
  | k :: r, g, hn => by
    have ⟨n1, n2⟩ := List.nodup_cons.1 (show (k.1 :: r.map (·.1)).Nodup from hn)
    unfold gput
    by_cases h : k.1 = o
    · rw [if_pos h]
      subst h
      constructor
      · intro hg
        rcases List.mem_cons.1 hg with rfl | hg
        · exact .inr (.inl ⟨k, by simp, rfl, rfl⟩)
        · exact .inl ⟨by simp [hg], fun e => n1 (e ▸ List.mem_map.2 ⟨g, hg, rfl⟩)⟩
      · rintro (⟨h1, h2⟩ | ⟨q, h1, h2, rfl⟩ | ⟨h1, _⟩)
        · rcases List.mem_cons.1 h1 with rfl | h1
          · exact absurd rfl h2
          · exact List.mem_cons_of_mem _ h1
        · rcases List.mem_cons.1 h1 with rfl | h1
          · exact List.mem_cons_self
          · exact absurd (List.mem_map.2 ⟨q, h1, h2⟩) n1
        · exact absurd (by simp) h1
    · rw [if_neg h, List.mem_cons, zBd2 n2]
      constructor
      · rintro (rfl | ⟨h1, h2⟩ | ⟨q, h1, h2, rfl⟩ | ⟨h1, rfl⟩)
        · exact .inl ⟨by simp, h⟩
        · exact .inl ⟨by simp [h1], h2⟩
        · exact .inr (.inl ⟨q, by simp [h1], h2, rfl⟩)
        · exact .inr (.inr ⟨by simp only [List.map_cons, List.mem_cons, not_or]; exact ⟨fun e => h e.symm, h1⟩, rfl⟩)
      · rintro (⟨h1, h2⟩ | ⟨q, h1, h2, rfl⟩ | ⟨h1, rfl⟩)
        · rcases List.mem_cons.1 h1 with rfl | h1
          · exact .inl rfl
          · exact .inr (.inl ⟨h1, h2⟩)
        · rcases List.mem_cons.1 h1 with rfl | h1
          · exact absurd h2 h
          · exact .inr (.inr (.inl ⟨q, h1, h2, rfl⟩))
        · simp only [List.map_cons, List.mem_cons, not_or] at h1
          exact .inr (.inr (.inr ⟨h1.2, rfl⟩))
theorem zPkq {m : Mly} {w : List Int} : ∀ {n : Nat}, Gok m w n (gtab m w n)
  | 0 => ⟨by simp [gtab], by simp [gtab], by simp [gtab], by omega, by simp [gtab]⟩
  | n + 1 => by
    have ih := zPkq (m := m) (w := w) (n := n)
    have hk := zFhZ (o := m.outs (n : Int) w) (t := m.run (n : Int) w) (l := gtab m w n)
    unfold gtab
    generalize gtab m w n = G at *
    refine ⟨?_, fun g hg => ?_, fun g hg t => ?_, fun s hs => ?_, fun g hg => ?_⟩
    · rw [hk]
      split
      · exact ih.nd
      · rename_i hno
        rw [List.nodup_append]
        exact ⟨ih.nd, by simp, fun a ha b hb => by simp at hb; subst hb; exact fun e => hno (e ▸ ha)⟩
    · rcases (zBd2 ih.nd).1 hg with ⟨h1, _⟩ | ⟨k, h1, _, rfl⟩ | ⟨_, rfl⟩
      · exact ih.up g h1
      · exact zAfB (ih.up k h1)
      · simp [up]
    · rcases (zBd2 ih.nd).1 hg with ⟨h1, h2⟩ | ⟨k, h1, h2, rfl⟩ | ⟨h1, rfl⟩
      · rw [ih.mem g h1]
        constructor
        · rintro ⟨s, s1, s2, s3⟩; exact ⟨s, by omega, s2, s3⟩
        · rintro ⟨s, s1, s2, s3⟩
          by_cases e : s = n
          · subst e; exact absurd s2.symm h2
          · exact ⟨s, by omega, s2, s3⟩
      · dsimp only
        rw [zHc8, ih.mem k h1]
        constructor
        · rintro (⟨s, s1, s2, s3⟩ | rfl)
          · exact ⟨s, by omega, by rw [s2, h2], s3⟩
          · exact ⟨n, by omega, rfl, rfl⟩
        · rintro ⟨s, s1, s2, s3⟩
          by_cases e : s = n
          · subst e; exact .inr s3.symm
          · exact .inl ⟨s, by omega, by rw [s2, h2], s3⟩
      · dsimp only
        simp only [List.mem_singleton]
        constructor
        · rintro rfl; exact ⟨n, by omega, rfl, rfl⟩
        · rintro ⟨s, s1, s2, s3⟩
          by_cases e : s = n
          · subst e; exact s3.symm
          · have := ih.all s (by omega)
            rw [s2] at this
            exact absurd this h1
    · rw [hk]
      by_cases e : s = n
      · subst e
        split
        · assumption
        · simp
      · have := ih.all s (by omega)
        split
        · exact this
        · exact List.mem_append_left _ this
    · rcases (zBd2 ih.nd).1 hg with ⟨h1, _⟩ | ⟨k, h1, _, rfl⟩ | ⟨_, rfl⟩
      · obtain ⟨s, s1, s2⟩ := ih.ne g h1; exact ⟨s, by omega, s2⟩
      · exact ⟨n, by omega, rfl⟩
      · exact ⟨n, by omega, rfl⟩
theorem Gok.perm {m : Mly} {w : List Int} {n : Nat} {G H : List Gr} (h : Gok m w n G) (hp : H.Perm G) : Gok m w n H :=
  ⟨((hp.map (·.1)).nodup_iff).2 h.nd, fun g hg => h.up g (hp.mem_iff.1 hg), fun g hg => h.mem g (hp.mem_iff.1 hg), fun s hs => ((hp.map (·.1)).mem_iff).2 (h.all s hs), fun g hg => h.ne g (hp.mem_iff.1 hg)⟩
def insG2 (x : Gr) : List Gr → List Gr
  | [] => [x]
  | y :: r => if lexC x.1 y.1 ≤ 0 then x :: y :: r else y :: insG2 x r
def srtG : List Gr → List Gr
  | [] => []
  | x :: r => insG2 x (srtG r)
theorem zxmc (x : Gr) : ∀ l, (insG2 x l).Perm (x :: l)
  | [] => .refl _
  | y :: r => by
    unfold insG2
    split
    · exact .refl _
    · exact ((zxmc x r).cons y).trans (.swap x y r)
theorem z5iU : ∀ l, (srtG l).Perm l
  | [] => .refl _
  | x :: r => (zxmc x _).trans ((z5iU r).cons x)
def Mly.grps (m : Mly) (w : List Int) : List Gr := srtG (gtab m w m.next.length)
theorem zuPd (m : Mly) (w : List Int) : Gok m w m.next.length (m.grps w) := zPkq.perm (z5iU _)
def Mly.cur (m : Mly) (w o : List Int) : List Int := ((List.range m.next.length).filter fun (t : Nat) => (List.range m.next.length).any fun (s : Nat) => decide (m.outs (s : Int) w = o) && decide (m.run (s : Int) w = (t : Int))).map fun (t : Nat) => (t : Int)
theorem zRlI {m : Mly} {w o : List Int} : up (m.cur w o) := by
  unfold Mly.cur
  rw [up, List.pairwise_map]
  exact (List.pairwise_lt_range.filter _).imp fun h => by omega
theorem zJrs {m : Mly} (hm : m.Ok) {w o : List Int} (hw : ∀ x ∈ w, 0 ≤ x ∧ x < m.inputs) {t : Int} : t ∈ m.cur w o ↔ ∃ s : Nat, s < m.next.length ∧ m.outs (s : Int) w = o ∧ m.run (s : Int) w = t := by
  unfold Mly.cur
  simp only [List.mem_map, List.mem_filter, List.mem_range, List.any_eq_true, Bool.and_eq_true, decide_eq_true_eq]
  constructor
  · rintro ⟨t', ⟨_, s, hs, h1, h2⟩, rfl⟩; exact ⟨s, hs, h1, h2⟩
  · rintro ⟨s, hs, h1, h2⟩
    have := zwd6 hm (s := (s : Int)) ⟨by omega, by omega⟩ hw
    exact ⟨t.toNat, ⟨by omega, s, hs, h1, by omega⟩, by omega⟩
theorem zhZV {m : Mly} (hm : m.Ok) {w : List Int} (hw : ∀ x ∈ w, 0 ≤ x ∧ x < m.inputs) {g : Gr} (hg : g ∈ m.grps w) : g.2 = m.cur w g.1 :=
  up_eq ((zuPd m w).up g hg) zRlI fun t => by rw [(zuPd m w).mem g hg, zJrs hm hw]
def Mly.hop (m : Mly) (w : List Int) : List Int := match (m.grps w).find? fun g => decide (1 < g.2.length) with
  | some g => g.2
  | none => []
end Ab
namespace Ab
structure Cut (l : List Int) (t : Int) (i : Nat) : Prop where
  le : i ≤ l.length
  lo : ∀ x ∈ l.take i, x < t
  hi : ∀ x ∈ l.drop i, ¬ x < t
end Ab
