/- Functions of the library that are known by what they do: the sorting of a slice of words, the copy of a slice of lists. Orders of words, and sorted lists. The sorting of words: more fuel gives the same answer; with as much as is wanted. Condition: none. -/
import Derived.Test.YtkchnhfeebkogaaAbCore
import Derived.Test.YtkchnhfeebkogaaAbL
set_option linter.all false
namespace Ab
def intsOf : List AV → Option (List Int)
  | [] => some []
  | .int n :: r => match intsOf r with
    | some s => some (n :: s)
    | none => none
  | _ :: _ => none
def wordOf : AV → Option (List Int)
  | .imm false l => intsOf l
  | _ => none
def lexC : List Int → List Int → Int
  | [], [] => 0
  | [], _ :: _ => -1
  | _ :: _, [] => 1
  | x :: a, y :: b => if x < y then -1 else if y < x then 1 else lexC a b
def slxC (a b : List Int) : Int := if a.length < b.length then -1 else if b.length < a.length then 1 else lexC a b
def cmpI (ce : CE) (g : Nat) (caps : List AV) (x y : AV) : Option Int := match pcl ce g (x :: y :: caps) with
  | some (.int c) => some c
  | _ => none
def agree (ce : CE) (g : Nat) (caps : List AV) (K : List Int → List Int → Int) (d : List AV) : Bool :=
  d.all fun x => d.all fun y => match wordOf x, wordOf y with
    | some u, some v => (match cmpI ce g caps x y with
      | some c => c == K u v
      | none => false)
    | _, _ => false
def kLe (K : List Int → List Int → Int) (x y : AV) : Bool := match wordOf x, wordOf y with
  | some u, some v => decide (K u v ≤ 0)
  | _, _ => true
def insK (K : List Int → List Int → Int) (x : AV) : List AV → List AV
  | [] => [x]
  | y :: r => if kLe K x y then x :: y :: r else y :: insK K x r
def sortK (K : List Int → List Int → Int) : List AV → List AV
  | [] => []
  | x :: r => insK K x (sortK K r)
def kindNone : Option Nat → Bool
  | none => true
  | some _ => false
def pSort : CE → List AV → List Blk → Option (AV × List Blk) := fun ce args σ => match args with
  | [.snil, .func _ _] => some (.tup [], σ)
  | [.imm _ [], .func _ _] => some (.tup [], σ)
  | [.sl b u off len, .func g caps] => match upto σ b u with
    | some B => if B.st.isLive && kindNone B.k && decide (0 < len) && decide (off + len ≤ B.cells.length) && decide (B.cells.length ≤ big) then
        (if agree ce g caps slxC ((B.cells.drop off).take len) then some (.tup [], setB σ b ⟨B.k, putAt B.cells off (sortK slxC ((B.cells.drop off).take len)), B.st⟩)
         else if agree ce g caps lexC ((B.cells.drop off).take len) then some (.tup [], setB σ b ⟨B.k, putAt B.cells off (sortK lexC ((B.cells.drop off).take len)), B.st⟩)
         else none) else none
    | none => none
  | _ => none
def isOne : AV → Bool
  | .int _ | .bool _ | .str _ | .imm _ _ | .snil => true
  | _ => false
def pCloneS : CE → List AV → List Blk → Option (AV × List Blk) := fun _ args σ => match args with
  | [.snil] => some (.imm false [], σ)
  | [.imm _ []] => some (.imm false [], σ)
  | [.imm _ (x :: l)] => if (x :: l).all isOne && noLocs (x :: l) && decide ((x :: l).length ≤ big) then some (.sl σ.length (x :: l).length 0 (x :: l).length, σ ++ [⟨none, (x :: l).map wk1, .live⟩]) else none
  | _ => none
def pGrow : CE → List AV → List Blk → Option (AV × List Blk) := fun _ args σ => match args with
  | [.snil, .int n] => if n == 0 then some (.snil, σ) else if 0 < n ∧ n ≤ big then some (.sl σ.length n.toNat 0 0, σ ++ [⟨none, List.replicate n.toNat (.int 0), .live⟩]) else none
  | _ => none
def pGrowS : CE → List AV → List Blk → Option (AV × List Blk) := fun _ args σ => match args with
  | [.snil, .int n] => if n == 0 then some (.snil, σ) else if 0 < n ∧ n ≤ big then some (.sl σ.length n.toNat 0 0, σ ++ [⟨none, List.replicate n.toNat .snil, .live⟩]) else none
  | _ => none
end Ab
namespace Ab
structure KOk (K : List Int → List Int → Int) : Prop where
  refl : ∀ u, K u u = 0
  anti : ∀ u v, K u v = - K v u
  eq : ∀ u v, K u v = 0 → u = v
  trans : ∀ u v w, K u v ≤ 0 → K v w ≤ 0 → K u w ≤ 0
theorem zdNg : ∀ u, lexC u u = 0
  | [] => rfl
  | x :: u => by unfold lexC; simp [zdNg u]
theorem zKx2 : ∀ u v, lexC u v = - lexC v u
  | [], [] => rfl
  | [], _ :: _ => rfl
  | _ :: _, [] => rfl
  | x :: u, y :: v => by
    unfold lexC
    have := zKx2 u v
    rcases Int.lt_trichotomy x y with h | h | h
    · rw [if_pos h, if_neg (by omega), if_pos h]
    · subst h; simp; exact this
    · rw [if_neg (by omega), if_pos h, if_pos h]; rfl
theorem z8W0 : ∀ u v, lexC u v = 0 → u = v
  | [], [], _ => rfl
  | [], _ :: _, h => by simp [lexC] at h
  | _ :: _, [], h => by simp [lexC] at h
  | x :: u, y :: v, h => by
    unfold lexC at h
    rcases Int.lt_trichotomy x y with h1 | h1 | h1
    · rw [if_pos h1] at h; omega
    · subst h1; simp at h; rw [z8W0 u v h]
    · rw [if_neg (by omega), if_pos h1] at h; omega
theorem z3ev : ∀ u v w, lexC u v ≤ 0 → lexC v w ≤ 0 → lexC u w ≤ 0
  | [], [], _, _, h => h
  | [], _ :: _, [], _, h => by simp [lexC] at h
  | [], _ :: _, _ :: _, _, _ => by simp [lexC]
  | _ :: _, [], _, h, _ => by simp [lexC] at h
  | _ :: _, _ :: _, [], _, h => by simp [lexC] at h
  | x :: u, y :: v, z :: w, h1, h2 => by
    unfold lexC at h1 h2 ⊢
    rcases Int.lt_trichotomy x y with a | a | a
    · rcases Int.lt_trichotomy y z with b | b | b
      · rw [if_pos (by omega)]; omega
      · subst b; rw [if_pos a]; omega
      · rw [if_neg (by omega), if_pos b] at h2; omega
    · subst a
      rcases Int.lt_trichotomy x z with b | b | b
      · rw [if_pos b]; omega
      · subst b; simp at h1 h2 ⊢; exact z3ev u v w h1 h2
      · rw [if_neg (by omega), if_pos b] at h2; omega
    · rw [if_neg (by omega), if_pos a] at h1; omega
theorem z6ce : KOk lexC := ⟨zdNg, zKx2, z8W0, z3ev⟩
theorem zvz8 : KOk slxC := by
  refine ⟨fun u => by simp [slxC, zdNg], fun u v => ?_, fun u v h => ?_, fun u v w h1 h2 => ?_⟩
  · unfold slxC
    have := zKx2 u v
    rcases Nat.lt_trichotomy u.length v.length with h | h | h
    · rw [if_pos h, if_neg (by omega), if_pos h]
    · rw [if_neg (by omega), if_neg (by omega), if_neg (by omega), if_neg (by omega)]; exact this
    · rw [if_neg (by omega), if_pos h, if_pos h]; rfl
  · unfold slxC at h
    split at h
    · omega
    split at h
    · omega
    exact z8W0 u v h
  · unfold slxC at h1 h2 ⊢
    rcases Nat.lt_trichotomy u.length v.length with a | a | a
    · rcases Nat.lt_trichotomy v.length w.length with b | b | b
      · rw [if_pos (by omega)]; omega
      · rw [if_pos (by omega)]; omega
      · rw [if_neg (by omega), if_pos b] at h2; omega
    · rcases Nat.lt_trichotomy v.length w.length with b | b | b
      · rw [if_pos (by omega)]; omega
      · rw [if_neg (by omega), if_neg (by omega)] at h1 h2 ⊢; exact z3ev u v w h1 h2
      · rw [if_neg (by omega), if_pos b] at h2; omega
    · rw [if_neg (by omega), if_pos a] at h1; omega
theorem zBrq : ∀ {l : List AV} {u : List Int}, intsOf l = some u → l = u.map .int
  | [], u, h => by simp [intsOf] at h; subst h; rfl
  | x :: r, u, h => by
    unfold intsOf at h
    split at h
    · rename_i h1; simp at h1
    · rename_i n r' h1
      simp at h1; obtain ⟨rfl, rfl⟩ := h1
      cases hr : intsOf r with
      | none => simp [hr] at h
      | some s => simp [hr] at h; subst h; simp [zBrq hr]
    · simp at h
theorem zyc3 : ∀ (u : List Int), intsOf (u.map .int) = some u
  | [] => rfl
  | x :: u => by simp [intsOf, zyc3 u]
theorem z8G6 {x : AV} {u : List Int} (h : wordOf x = some u) : x = .imm false (u.map .int) := by
  unfold wordOf at h
  split at h
  · rw [zBrq h]
  · simp at h
theorem zWaJ (u : List Int) : wordOf (.imm false (u.map .int)) = some u := zyc3 u
section
variable {K : List Int → List Int → Int}
theorem zyvt (x : AV) : ∀ l, (insK K x l).Perm (x :: l)
  | [] => .refl _
  | y :: r => by
    unfold insK
    split
    · exact .refl _
    · exact ((zyvt x r).cons y).trans (.swap x y r)
theorem zLhs : ∀ l, (sortK K l).Perm l
  | [] => .refl _
  | x :: r => (zyvt x _).trans ((zLhs r).cons x)
def areWords (l : List AV) : Prop := ∀ x ∈ l, ∃ u, wordOf x = some u
theorem zW5R {x y : AV} {u v : List Int} (h : wordOf x = some u) (k : wordOf y = some v) : kLe K x y = true ↔ K u v ≤ 0 := by simp [kLe, h, k]
theorem zg5Q (hK : KOk K) {x y : AV} {u v : List Int} (hx : wordOf x = some u) (hy : wordOf y = some v) (h : kLe K x y = true) (k : kLe K y x = true) : x = y := by
  rw [zW5R hx hy] at h
  rw [zW5R hy hx, hK.anti] at k
  have := hK.eq u v (by omega)
  subst this
  rw [z8G6 hx, z8G6 hy]
theorem zzlv (hK : KOk K) {x : AV} : ∀ {l : List AV}, areWords (x :: l) → l.Pairwise (fun x y => kLe K x y = true) → (insK K x l).Pairwise (fun x y => kLe K x y = true)
  | [], _, _ => by simp [insK]
  | y :: r, hw, h => by
    obtain ⟨u, hu⟩ := hw x (by simp)
    obtain ⟨v, hv⟩ := hw y (by simp)
    unfold insK
    split
    · rename_i hxy
      refine List.pairwise_cons.2 ⟨fun z hz => ?_, h⟩
      rcases List.mem_cons.1 hz with rfl | hz
      · exact hxy
      · obtain ⟨t, ht⟩ := hw z (by simp [hz])
        have := (List.pairwise_cons.1 h).1 z hz
        rw [zW5R hv ht] at this
        rw [zW5R hu hv] at hxy
        rw [zW5R hu ht]
        exact hK.trans _ _ _ hxy this
    · rename_i hxy
      have ih := zzlv hK (x := x) (l := r) (fun z hz => hw z (by rcases List.mem_cons.1 hz with rfl | hz <;> simp [*])) (List.pairwise_cons.1 h).2
      refine List.pairwise_cons.2 ⟨fun z hz => ?_, ih⟩
      rcases List.mem_cons.1 ((zyvt x r).mem_iff.1 hz) with rfl | hz
      · rw [zW5R hu hv] at hxy
        rw [zW5R hv hu, hK.anti]
        omega
      · exact (List.pairwise_cons.1 h).1 z hz
theorem zrgh (hK : KOk K) : ∀ {l : List AV}, areWords l → (sortK K l).Pairwise (fun x y => kLe K x y = true)
  | [], _ => by simp [sortK]
  | x :: r, hw => by
    have hw' : areWords r := fun z hz => hw z (by simp [hz])
    refine zzlv hK (fun z hz => ?_) (zrgh hK hw')
    rcases List.mem_cons.1 hz with rfl | hz
    · exact hw z (by simp)
    · exact hw' z ((zLhs r).mem_iff.1 hz)
theorem zh5C (hK : KOk K) {l m : List AV} (hw : areWords l) (hp : m.Perm l) (hs : m.Pairwise (fun x y => kLe K x y = true)) : m = sortK K l := by
  refine List.Perm.eq_of_pairwise (le := fun x y => kLe K x y = true) (fun x y hx hy h k => ?_) hs (zrgh hK hw) (hp.trans (zLhs l).symm)
  obtain ⟨u, hu⟩ := hw x (hp.mem_iff.1 hx)
  obtain ⟨v, hv⟩ := hw y ((zLhs l).mem_iff.1 hy)
  exact zg5Q hK hu hv h k
end
end Ab
namespace Ab
theorem zYa1 {ce : CE} {g : Nat} {caps : List AV} {K : List Int → List Int → Int} {d : List AV} (h : agree ce g caps K d = true) {x y : AV} (hx : x ∈ d) (hy : y ∈ d) : ∃ u v, wordOf x = some u ∧ wordOf y = some v ∧ cmpI ce g caps x y = some (K u v) := by
  simp only [agree, List.all_eq_true] at h
  have := h x hx y hy
  split at this
  · rename_i u v h1 h2
    split at this
    · rename_i c h3
      simp only [beq_iff_eq] at this
      subst this
      exact ⟨u, v, h1, h2, h3⟩
    · simp at this
  · simp at this
theorem zlZD {a b : CE} (h : CE.le a b) {g : Nat} {caps : List AV} {x y : AV} {c : Int} (e : cmpI a g caps x y = some c) : cmpI b g caps x y = some c := by
  unfold cmpI at e ⊢
  cases hp : pcl a g (x :: y :: caps) with
  | none => rw [hp] at e; simp at e
  | some r => rw [zIRr h hp]; rw [hp] at e; exact e
theorem zujf {a b : CE} (h : CE.le a b) {g : Nat} {caps : List AV} {K : List Int → List Int → Int} {d : List AV} (e : agree a g caps K d = true) : agree b g caps K d = true := by
  simp only [agree, List.all_eq_true]
  intro x hx y hy
  obtain ⟨u, v, h1, h2, h3⟩ := zYa1 e hx hy
  simp [h1, h2, zlZD h h3]
theorem z1z6 {a b : CE} (h : CE.le a b) {g : Nat} {caps : List AV} {K K' : List Int → List Int → Int} {d : List AV} (e : agree a g caps K d = true) (e' : agree b g caps K' d = true) : agree a g caps K' d = true := by
  simp only [agree, List.all_eq_true]
  intro x hx y hy
  obtain ⟨u, v, h1, h2, h3⟩ := zYa1 e hx hy
  obtain ⟨u', v', k1, k2, k3⟩ := zYa1 e' hx hy
  rw [h1] at k1; rw [h2] at k2
  cases k1; cases k2
  have := zlZD h h3
  rw [this] at k3
  simp only [Option.some.injEq] at k3
  simp [h1, h2, h3, k3]
theorem zesw : ∀ a b : CE, CE.le a b → ∀ args σ v, pSort a args σ = some v → pSort b args σ = some v := by
  intro a b h args σ v hp
  unfold pSort at hp ⊢
  split at hp
  · exact hp
  · exact hp
  · split at hp
    · rename_i B hu
      split at hp
      · rename_i hc
        rw [if_pos hc]
        split at hp
        · rename_i hag
          rw [if_pos (zujf h hag)]; exact hp
        · rename_i hns
          split at hp
          · rename_i hag
            rw [if_neg (fun e => hns (z1z6 h hag e)), if_pos (zujf h hag)]; exact hp
          · simp at hp
      · simp at hp
    · simp at hp
  · simp at hp
theorem zygH : ∀ a b : CE, CE.le a b → ∀ args σ v, pCloneS a args σ = some v → pCloneS b args σ = some v := fun _ _ _ _ _ _ h => h
theorem zr1Z : ∀ a b : CE, CE.le a b → ∀ args σ v, pGrowS a args σ = some v → pGrowS b args σ = some v := fun _ _ _ _ _ _ h => h
theorem zGIi : ∀ a b : CE, CE.le a b → ∀ args σ v, pGrow a args σ = some v → pGrow b args σ = some v := fun _ _ _ _ _ _ h => h
theorem common {α : Type} {p : Nat → α → Prop} (hm : ∀ n m x, n ≤ m → p n x → p m x) : ∀ {l : List α}, (∀ x ∈ l, ∃ n, p n x) → ∃ n, ∀ x ∈ l, p n x
  | [], _ => ⟨0, by simp⟩
  | a :: l, h => by
    obtain ⟨n, hn⟩ := h a (by simp)
    obtain ⟨m, hm'⟩ := common hm (l := l) fun x hx => h x (by simp [hx])
    refine ⟨max n m, fun x hx => ?_⟩
    rcases List.mem_cons.1 hx with rfl | hx
    · exact hm _ _ _ (Nat.le_max_left n m) hn
    · exact hm _ _ _ (Nat.le_max_right n m) (hm' x hx)
section
variable {G : Nat → Option Fn} {Q : Prims}
theorem ziAO (hQ : PrimsMono Q) {g : Nat} {caps : List AV} {K : List Int → List Int → Int} {d : List AV} (h : ∀ x ∈ d, ∀ y ∈ d, ∃ u v, wordOf x = some u ∧ wordOf y = some v ∧ pcl (lim G Q) g (x :: y :: caps) = some (.int (K u v))) : ∃ N, agree (cN G Q N) g caps K d = true := by
  have h1 : ∀ x ∈ d, ∃ N, ∀ y ∈ d, ∃ u v, wordOf x = some u ∧ wordOf y = some v ∧ pcl (cN G Q N) g (x :: y :: caps) = some (.int (K u v)) := fun x hx => by
    refine common (p := fun N y => ∃ u v, wordOf x = some u ∧ wordOf y = some v ∧ pcl (cN G Q N) g (x :: y :: caps) = some (.int (K u v))) (fun n m y hnm ⟨u, v, a, b, c⟩ => ⟨u, v, a, b, zIRr (zowp hQ hnm) c⟩) fun y hy => ?_
    obtain ⟨u, v, a, b, c⟩ := h x hx y hy
    obtain ⟨N, hN⟩ := zbjS hQ c
    exact ⟨N, u, v, a, b, hN⟩
  obtain ⟨N, hN⟩ := common (p := fun N x => ∀ y ∈ d, ∃ u v, wordOf x = some u ∧ wordOf y = some v ∧ pcl (cN G Q N) g (x :: y :: caps) = some (.int (K u v))) (fun n m x hnm hx y hy => by
    obtain ⟨u, v, a, b, c⟩ := hx y hy
    exact ⟨u, v, a, b, zIRr (zowp hQ hnm) c⟩) h1
  refine ⟨N, ?_⟩
  simp only [agree, List.all_eq_true]
  intro x hx y hy
  obtain ⟨u, v, a, b, c⟩ := hN x hx y hy
  simp [a, b, cmpI, c]
end
end Ab
namespace Ab
def insI (x : Int) : List Int → List Int
  | [] => [x]
  | y :: r => if x ≤ y then x :: y :: r else y :: insI x r
def sortI : List Int → List Int
  | [] => []
  | x :: r => insI x (sortI r)
theorem zkey (x : Int) : ∀ l : List Int, (insI x l).Perm (x :: l)
  | [] => List.Perm.refl _
  | y :: r => by
    unfold insI
    split
    · exact List.Perm.refl _
    · exact ((zkey x r).cons y).trans (List.Perm.swap x y r)
theorem zZHI : ∀ l : List Int, (sortI l).Perm l
  | [] => List.Perm.refl _
  | x :: r => (zkey x _).trans ((zZHI r).cons x)
theorem zfNj {x : Int} : ∀ {l : List Int}, l.Pairwise (· ≤ ·) → (insI x l).Pairwise (· ≤ ·)
  | [], _ => by simp [insI]
  | y :: r, h => by
    unfold insI
    rw [List.pairwise_cons] at h
    split
    · rename_i hxy
      rw [List.pairwise_cons, List.pairwise_cons]
      refine ⟨fun z hz => ?_, h⟩
      rcases List.mem_cons.1 hz with rfl | hz
      · exact hxy
      · have := h.1 z hz; omega
    · rename_i hxy
      rw [List.pairwise_cons]
      refine ⟨fun z hz => ?_, zfNj h.2⟩
      rcases List.mem_cons.1 ((zkey x r).mem_iff.1 hz) with rfl | hz
      · omega
      · exact h.1 z hz
theorem zN0D : ∀ l : List Int, (sortI l).Pairwise (· ≤ ·)
  | [] => List.Pairwise.nil
  | _ :: r => zfNj (zN0D r)
theorem zK3w {l m : List Int} (hp : m.Perm l) (hs : m.Pairwise (· ≤ ·)) : m = sortI l :=
  List.Perm.eq_of_pairwise (le := (· ≤ ·)) (fun x y _ _ h k => by omega) hs (zN0D l) (hp.trans (zZHI l).symm)
theorem zu6L (l : List Int) : (l.mergeSort fun x y => decide (x ≤ y)) = sortI l := by
  refine zK3w (List.mergeSort_perm l _) ?_
  have := List.pairwise_mergeSort (le := fun x y : Int => decide (x ≤ y)) (fun a b c h1 h2 => by simp at h1 h2 ⊢; omega) (fun a b => by simp; omega) l
  exact this.imp fun h => by simpa using h
def pSortI : CE → List AV → List Blk → Option (AV × List Blk) := fun _ args σ => match args with
  | [.snil] => some (.tup [], σ)
  | [.sl b u off len] => match upto σ b u with
    | some B => if B.st.isLive && kindNone B.k && decide (0 < len) && decide (off + len ≤ B.cells.length) && decide (B.cells.length ≤ big) then
        (match intsOf ((B.cells.drop off).take len) with
        | some zs => some (.tup [], setB σ b ⟨B.k, putAt B.cells off ((sortI zs).map .int), B.st⟩)
        | none => none) else none
    | none => none
  | _ => none
theorem ztmm : ∀ a b : CE, CE.le a b → ∀ args σ v, pSortI a args σ = some v → pSortI b args σ = some v := fun _ _ _ _ _ _ h => h
def agreeS (ce : CE) (g : Nat) (caps : List AV) (d : List AV) : Bool :=
  (List.range d.length).all fun i => (List.range d.length).all fun j => match d[i]?, d[j]? with
    | some x, some y => (match cmpI ce g caps x y with
      | some c => decide (c < 0) == decide (i < j)
      | none => false)
    | _, _ => false
def pSortS (k : Nat) : CE → List AV → List Blk → Option (AV × List Blk) := fun ce args σ => match args with
  | [.snil, .func _ _] => some (.tup [], σ)
  | [.imm _ [], .func _ _] => some (.tup [], σ)
  | [.sl b u off len, .func g caps] => match upto σ b u with
    | some B => if len == 0 then some (.tup [], σ) else if eqK B.k (some k) && B.st.isLive && decide (0 < k) && decide (off + len * k ≤ B.cells.length) && decide (B.cells.length ≤ big) && agreeS ce g caps (chunk (some k) len (B.cells.drop off)) then some (.tup [], σ) else none
    | none => none
  | _ => none
theorem zO8b {ce : CE} {g : Nat} {caps d : List AV} (h : agreeS ce g caps d = true) {i j : Nat} {x y : AV} (hx : d[i]? = some x) (hy : d[j]? = some y) : ∃ c, cmpI ce g caps x y = some c ∧ (c < 0 ↔ i < j) := by
  simp only [agreeS, List.all_eq_true, List.mem_range] at h
  have := h i (List.getElem?_eq_some_iff.1 hx).1 j (List.getElem?_eq_some_iff.1 hy).1
  rw [hx, hy] at this
  simp only at this
  split at this
  · rename_i c hc
    refine ⟨c, hc, ?_⟩
    simpa using this
  · simp at this
theorem zQFz {a b : CE} (h : CE.le a b) {g : Nat} {caps d : List AV} (e : agreeS a g caps d = true) : agreeS b g caps d = true := by
  simp only [agreeS, List.all_eq_true, List.mem_range]
  intro i hi j hj
  obtain ⟨c, h1, h2⟩ := zO8b e (List.getElem?_eq_getElem hi) (List.getElem?_eq_getElem hj)
  rw [List.getElem?_eq_getElem hi, List.getElem?_eq_getElem hj]
  simp [zlZD h h1, h2]
theorem zvW1 (k : Nat) : ∀ a b : CE, CE.le a b → ∀ args σ v, pSortS k a args σ = some v → pSortS k b args σ = some v := by
  intro a b h args σ v hp
  unfold pSortS at hp ⊢
  split at hp
  · exact hp
  · exact hp
  · split at hp
    · rename_i B hu
      split at hp
      · rename_i h0
        rw [if_pos h0]; exact hp
      · rename_i h0
        rw [if_neg h0]
        split at hp
        · rename_i hc
          simp only [Bool.and_eq_true] at hc
          rw [if_pos (by simp only [Bool.and_eq_true]; exact ⟨hc.1, zQFz h hc.2⟩)]; exact hp
        · simp at hp
    · simp at hp
  · simp at hp
theorem zvjJ {G : Nat → Option Fn} {Q : Prims} (hQ : PrimsMono Q) {g : Nat} {caps d : List AV} (h : ∀ (i j : Nat) x y, d[i]? = some x → d[j]? = some y → ∃ c, pcl (lim G Q) g (x :: y :: caps) = some (.int c) ∧ (c < 0 ↔ i < j)) : ∃ N, agreeS (cN G Q N) g caps d = true := by
  have hm : ∀ n m (q : Nat × Nat), n ≤ m → (∀ x y, d[q.1]? = some x → d[q.2]? = some y → ∃ c, pcl (cN G Q n) g (x :: y :: caps) = some (.int c) ∧ (c < 0 ↔ q.1 < q.2)) → ∀ x y, d[q.1]? = some x → d[q.2]? = some y → ∃ c, pcl (cN G Q m) g (x :: y :: caps) = some (.int c) ∧ (c < 0 ↔ q.1 < q.2) := fun n m q hnm hq x y hx hy => by
    obtain ⟨c, h1, h2⟩ := hq x y hx hy
    exact ⟨c, zIRr (zowp hQ hnm) h1, h2⟩
  obtain ⟨N, hN⟩ := common hm (l := (List.range d.length).flatMap fun i => (List.range d.length).map fun j => (i, j)) fun q hq => by
    simp only [List.mem_flatMap, List.mem_range, List.mem_map] at hq
    obtain ⟨i, hi, j, hj, rfl⟩ := hq
    obtain ⟨c, h1, h2⟩ := h i j _ _ (List.getElem?_eq_getElem hi) (List.getElem?_eq_getElem hj)
    obtain ⟨n, hn⟩ := zbjS hQ h1
    exact ⟨n, fun x y hx hy => by
      simp only at hx hy
      rw [List.getElem?_eq_getElem hi] at hx
      rw [List.getElem?_eq_getElem hj] at hy
      cases hx; cases hy
      exact ⟨c, hn, h2⟩⟩
  refine ⟨N, ?_⟩
  simp only [agreeS, List.all_eq_true, List.mem_range]
  intro i hi j hj
  have hq : (i, j) ∈ (List.range d.length).flatMap fun i => (List.range d.length).map fun j => (i, j) := by
    simp only [List.mem_flatMap, List.mem_range, List.mem_map]
    exact ⟨i, hi, j, hj, rfl⟩
  obtain ⟨c, h1, h2⟩ := hN (i, j) hq _ _ (List.getElem?_eq_getElem hi) (List.getElem?_eq_getElem hj)
  rw [List.getElem?_eq_getElem hi, List.getElem?_eq_getElem hj]
  simp [cmpI, h1, h2]
def kLeP (x y : AV) : Bool := match x, y with
  | .agg (a :: _), .agg (b :: _) => kLe lexC a b
  | _, _ => true
def insP (x : AV) : List AV → List AV
  | [] => [x]
  | y :: r => if kLeP x y then x :: y :: r else y :: insP x r
def sortP : List AV → List AV
  | [] => []
  | x :: r => insP x (sortP r)
theorem zaIQ (x : AV) : ∀ l, (insP x l).Perm (x :: l)
  | [] => .refl _
  | y :: r => by
    unfold insP
    split
    · exact .refl _
    · exact ((zaIQ x r).cons y).trans (.swap x y r)
theorem zU8Z : ∀ l, (sortP l).Perm l
  | [] => .refl _
  | x :: r => (zaIQ x _).trans ((zU8Z r).cons x)
def pSortP (k : Nat) : CE → List AV → List Blk → Option (AV × List Blk) := fun ce args σ => match args with
  | [.snil, .func _ _] => some (.tup [], σ)
  | [.imm _ [], .func _ _] => some (.tup [], σ)
  | [.sl b u off len, .func g caps] => match upto σ b u with
    | some B => if len == 0 then some (.tup [], σ) else if eqK B.k (some k) && B.st.isLive && decide (0 < k) && decide (off + len * k ≤ B.cells.length) && decide (B.cells.length ≤ big) && agreeS ce g caps (sortP (chunk (some k) len (B.cells.drop off))) then some (.tup [], setB σ b ⟨B.k, putAt B.cells off ((sortP (chunk (some k) len (B.cells.drop off))).flatMap AV.cells), B.st⟩) else none
    | none => none
  | _ => none
theorem zCPd (k : Nat) : ∀ a b : CE, CE.le a b → ∀ args σ v, pSortP k a args σ = some v → pSortP k b args σ = some v := by
  intro a b h args σ v hp
  unfold pSortP at hp ⊢
  split at hp
  · exact hp
  · exact hp
  · split at hp
    · rename_i B hu
      split at hp
      · rename_i h0
        rw [if_pos h0]; exact hp
      · rename_i h0
        rw [if_neg h0]
        split at hp
        · rename_i hc
          simp only [Bool.and_eq_true] at hc
          rw [if_pos (by simp only [Bool.and_eq_true]; exact ⟨hc.1, zQFz h hc.2⟩)]; exact hp
        · simp at hp
    · simp at hp
  · simp at hp
def pMul64 : CE → List AV → List Blk → Option (AV × List Blk) := fun _ args σ => match args with
  | [.ik 7 x, .ik 7 y] => if (0 ≤ x ∧ x ≤ 18446744073709551615) ∧ 0 ≤ y ∧ y ≤ 18446744073709551615 then some (.tup [.ik 7 (x * y / 18446744073709551616), .ik 7 (x * y % 18446744073709551616)], σ) else none
  | _ => none
theorem zEM8 : ∀ a b : CE, CE.le a b → ∀ args σ v, pMul64 a args σ = some v → pMul64 b args σ = some v := fun _ _ _ _ _ _ h => h
end Ab
