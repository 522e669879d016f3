/- The first unique input-output word, in plain terms. separate.situation: after, key. separate.Uio: the search. separate.Uio. Condition: none. -/
import Derived.Test.YtlgfempnnijfnaaGreatSepT
import Derived.Test.YtlgfempnnijfnaaGreatSepA
import Derived.Test.YtlgfempnnijfnaaGreatCompJ
set_option linter.all false
set_option maxRecDepth 100000
set_option maxHeartbeats 1000000
namespace Ab
theorem zsYJ {α : Type} [BEq α] [LawfulBEq α] : ∀ {l L : List α}, l.Nodup → (∀ x ∈ l, x ∈ L) → l.length ≤ L.length
  | [], _, _, _ => by simp
  | a :: l, L, hn, h => by
    obtain ⟨h1, h2⟩ := List.nodup_cons.1 hn
    have ha := h a (by simp)
    have := zsYJ (l := l) (L := L.erase a) h2 fun x hx => (List.mem_erase_of_ne (fun e => h1 (by rw [← e]; exact hx))).2 (h x (by simp [hx]))
    rw [List.length_erase_of_mem ha] at this
    have := List.length_pos_of_mem ha
    simp only [List.length_cons]
    omega
def subs : Nat → List (List Int)
  | 0 => [[]]
  | n + 1 => subs n ++ (subs n).map fun l => l ++ [(n : Int)]
theorem zr3Y : ∀ {n : Nat} {l : List Int}, up l → (∀ t ∈ l, 0 ≤ t ∧ t < (n : Int)) → l ∈ subs n
  | 0, l, _, h => by
    have : l = [] := List.eq_nil_iff_forall_not_mem.2 fun t ht => by have := h t ht; omega
    subst this; simp [subs]
  | n + 1, l, hu, h => by
    unfold subs
    rw [List.mem_append]
    by_cases hn : (n : Int) ∈ l
    · refine .inr (List.mem_map.2 ⟨l.filter fun t => decide (t < (n : Int)), zr3Y (List.Pairwise.filter _ hu) (fun t ht => ?_), ?_⟩)
      · obtain ⟨h1, h2⟩ := List.mem_filter.1 ht
        simp at h2
        have := h t h1
        omega
      · refine up_eq ?_ hu fun t => ?_
        · rw [up, List.pairwise_append]
          refine ⟨List.Pairwise.filter _ hu, by simp, fun x hx y hy => ?_⟩
          have := (List.mem_filter.1 hx).2
          simp at this hy
          omega
        · simp only [List.mem_append, List.mem_filter, decide_eq_true_eq, List.mem_cons, List.not_mem_nil, or_false]
          constructor
          · rintro (⟨h1, _⟩ | rfl)
            · exact h1
            · exact hn
          · intro ht
            have := h t ht
            by_cases e : t = (n : Int)
            · exact .inr e
            · exact .inl ⟨ht, by omega⟩
    · refine .inl (zr3Y hu fun t ht => ?_)
      have := h t ht
      have : t ≠ (n : Int) := fun e => hn (e ▸ ht)
      omega
abbrev Sit := Int × List Int
def asi (l : List Nat) : List Int := l.map fun (t : Nat) => (t : Int)
theorem zOj4 {n : Nat} {p : Nat → Bool} : up (asi ((List.range n).filter p)) := by
  unfold asi up
  rw [List.pairwise_map]
  exact List.Pairwise.imp (fun h => by omega) (List.Pairwise.filter _ List.pairwise_lt_range)
theorem zm9g {n : Nat} {p : Nat → Bool} {t : Int} : t ∈ asi ((List.range n).filter p) ↔ (0 ≤ t ∧ t < (n : Int)) ∧ p t.toNat = true := by
  unfold asi
  simp only [List.mem_map, List.mem_filter, List.mem_range]
  constructor
  · rintro ⟨k, ⟨h1, h2⟩, rfl⟩
    exact ⟨by omega, by simpa using h2⟩
  · rintro ⟨h1, h2⟩
    exact ⟨t.toNat, ⟨by omega, h2⟩, by omega⟩
def Mly.oth (m : Mly) (s : Int) (l : List Int) (a : Int) : List Int := asi ((List.range m.next.length).filter fun (t : Nat) => l.any fun u => decide (ix (ix m.out u) a = ix (ix m.out s) a) && decide (ix (ix m.next u) a = ((t : Nat) : Int)))
theorem zdBc {m : Mly} {s : Int} {l : List Int} {a : Int} : up (m.oth s l a) := zOj4
theorem zneN {m : Mly} {s : Int} {l : List Int} {a t : Int} : t ∈ m.oth s l a ↔ (0 ≤ t ∧ t < (m.next.length : Int)) ∧ ∃ u ∈ l, ix (ix m.out u) a = ix (ix m.out s) a ∧ ix (ix m.next u) a = t := by
  unfold Mly.oth
  rw [zm9g]
  refine and_congr_right fun h => ?_
  rw [List.any_eq_true]
  have e : ((t.toNat : Nat) : Int) = t := by omega
  simp only [Bool.and_eq_true, decide_eq_true_eq, e]
def Mly.aft (m : Mly) (x : Sit) (a : Int) : Sit := (ix (ix m.next x.1) a, m.oth x.1 x.2 a)
def Mly.unx (m : Mly) (x : Sit) (a : Int) : Option Sit := if (m.aft x a).2 = [] then none else if (m.aft x a).1 ∈ (m.aft x a).2 then some x else some (m.aft x a)
structure Uok (m : Mly) (x : Sit) : Prop where
  at' : 0 ≤ x.1 ∧ x.1 < (m.next.length : Int)
  up : up x.2
  rng : ∀ t ∈ x.2, 0 ≤ t ∧ t < (m.next.length : Int)
def allS : List Sit := (List.range 8).flatMap fun (s : Nat) => (subs 8).map fun r => ((s : Int), r)
theorem zcfT : allS.length = 2048 := by decide +kernel
theorem ugr {m : Mly} (hm : m.Ok) (h8 : m.next.length ≤ 8) : GrOk m.unx m.inputs (Uok m) 2048 := by
  refine ⟨by have := hm.inputs; omega, fun x a y hx a0 a1 h => ?_, fun l hn h => ?_⟩
  · unfold Mly.unx at h
    split at h
    · simp at h
    · split at h
      · injection h with h; subst h; exact hx
      · injection h with h
        subst h
        exact ⟨hm.nx _ _ hx.at'.1 hx.at'.2 a0 a1, zdBc, fun t ht => (zneN.1 ht).1⟩
  · rw [← zcfT]
    refine zsYJ hn fun x hx => ?_
    have hk := h x hx
    have h1 := hk.at'
    unfold allS
    rw [List.mem_flatMap]
    refine ⟨x.1.toNat, by simp; omega, List.mem_map.2 ⟨x.2, zr3Y hk.up fun t ht => ?_, ?_⟩⟩
    · have := hk.rng t ht; omega
    · exact Prod.ext (by dsimp only; omega) rfl
def Mly.othW (m : Mly) (s : Int) (w : List Int) : List Int := asi ((List.range m.next.length).filter fun t => (List.range m.next.length).any fun u => decide (((u : Nat) : Int) ≠ s) && (decide (m.outs ((u : Nat) : Int) w = m.outs s w) && decide (m.run ((u : Nat) : Int) w = ((t : Nat) : Int))))
def Mly.situ (m : Mly) (s : Int) (w : List Int) : Sit := (m.run s w, m.othW s w)
theorem zXcX {m : Mly} {s : Int} {w : List Int} {t : Int} : t ∈ m.othW s w ↔ (0 ≤ t ∧ t < (m.next.length : Int)) ∧ ∃ u : Int, (0 ≤ u ∧ u < (m.next.length : Int)) ∧ u ≠ s ∧ m.outs u w = m.outs s w ∧ m.run u w = t := by
  unfold Mly.othW
  rw [zm9g]
  refine and_congr_right fun h => ?_
  rw [List.any_eq_true]
  have e : ((t.toNat : Nat) : Int) = t := by omega
  simp only [Bool.and_eq_true, decide_eq_true_eq, e, List.mem_range]
  constructor
  · rintro ⟨u, h1, h2, h3, h4⟩; exact ⟨u, by omega, h2, h3, h4⟩
  · rintro ⟨u, h1, h2, h3, h4⟩
    have eu : ((u.toNat : Nat) : Int) = u := by omega
    exact ⟨u.toNat, by omega, by rw [eu]; exact h2, by rw [eu]; exact h3, by rw [eu]; exact h4⟩
theorem zA9u {m : Mly} (hm : m.Ok) {s : Int} (hs : 0 ≤ s ∧ s < (m.next.length : Int)) {w : List Int} (hw : ∀ x ∈ w, 0 ≤ x ∧ x < m.inputs) : Uok m (m.situ s w) := ⟨zwd6 hm hs hw, zOj4, fun t ht => (zXcX.1 ht).1⟩
def Mly.uio (m : Mly) (s n : Int) : Option (List Int) := match gfirst m.unx m.inputs 2048 (m.situ s []) with
  | some w => if (w.length : Int) ≤ n then some w else none
  | none => none
theorem z4UF {m : Mly} (hm : m.Ok) (h8 : m.next.length ≤ 8) {s n : Int} (hs : 0 ≤ s ∧ s < (m.next.length : Int)) {i : Int} {q : List (Sit × List Int)} (h : Gst m.unx m.inputs (Uok m) 2048 (m.situ s []) i 0 q) (hn : Nof m.unx m.inputs i 0 q) (i1 : i < q.length) (hl : n ≤ ((ix q i).2.length : Int)) : m.uio s n = none := by
  have hG := ugr hm h8
  have h0 := zA9u hm hs (w := []) (by simp)
  obtain ⟨r, hr⟩ := h.pre hG i1 (by omega) hG.k0
  have hf := zHpW hG h0
  have hi0 := h.i0
  unfold Mly.uio
  cases hg : gfirst m.unx m.inputs 2048 (m.situ s []) with
  | none => rfl
  | some w =>
    dsimp only
    refine if_neg fun hc => ?_
    unfold gfirst at hg
    obtain ⟨x, hx, rfl⟩ := Option.map_eq_some_iff.1 hg
    obtain ⟨p, hp, h1, h2, h3, h4⟩ := zj4u.1 (List.mem_of_head? hx)
    obtain ⟨j, hj, rfl⟩ := List.mem_iff_getElem.1 hp
    rw [← zrZW hj] at h2 h4
    by_cases hji : (j : Int) < i
    · have := hn.1 j (by omega) hji _ h1.1 h1.2
      rw [hr, zT8e (by omega) (by omega)] at h2
      exact this h2
    · have hle : (ix q i).2.length ≤ (ix (gplaces m.unx m.inputs 2048 (m.situ s [])) (j : Int)).2.length := by
        have ei : ix q i = ix (gplaces m.unx m.inputs 2048 (m.situ s [])) i := by rw [hr, zT8e hi0 i1]
        rw [ei]
        by_cases e : i = (j : Int)
        · rw [e]; exact Nat.le_refl _
        · have := hf.asc i j hi0 (by omega) (by omega)
          refine Classical.byContradiction fun hc => ?_
          unfold slxC at this
          rw [if_neg (by omega), if_pos (by omega)] at this
          omega
      rw [h4] at hc
      simp at hc
      omega
end Ab
namespace Ab
attribute [local simp] z2GA
def kbs (l : List Int) : List UInt8 := l.map fun x => UInt8.ofNat x.toNat
theorem z7Ix : ∀ {l : List Int}, (∀ x ∈ l, 0 ≤ x ∧ x ≤ 255) → bytesOf (l.map (AV.ik 4)) = some (kbs l)
  | [], _ => rfl
  | x :: l, h => by
    have hx := h x (by simp)
    have e := z7Ix (l := l) fun y hy => h y (by simp [hy])
    have hb : byteOf (.ik 4 x) = some (UInt8.ofNat x.toNat) := if_pos hx
    rw [List.map_cons, bytesOf, hb, e]; rfl
theorem zTqU : ∀ {l k : List Int}, (∀ x ∈ l, 0 ≤ x ∧ x ≤ 255) → (∀ x ∈ k, 0 ≤ x ∧ x ≤ 255) → kbs l = kbs k → l = k
  | [], [], _, _, _ => rfl
  | [], y :: k, _, _, h => by simp [kbs] at h
  | x :: l, [], _, _, h => by simp [kbs] at h
  | x :: l, y :: k, h1, h2, h => by
    simp only [kbs, List.map_cons, List.cons.injEq] at h
    have hx := h1 x (by simp)
    have hy := h2 y (by simp)
    have e : x.toNat = y.toNat := by
      have := congrArg UInt8.toNat h.1
      simp only [UInt8.toNat_ofNat'] at this
      omega
    rw [zTqU (fun z hz => h1 z (by simp [hz])) (fun z hz => h2 z (by simp [hz])) h.2, show x = y by omega]
theorem key_s (s : Int) (l w : List Int) (hs : 0 ≤ s ∧ s ≤ 255) (hl : ∀ x ∈ l, 0 ≤ x ∧ x ≤ 255) (hn : l.length ≤ 1000) : PC zooT [.agg [.int s, iL l, iL w]] = some (.str (kbs (s :: l))) := by
  refine zx72 (zh8Q rfl ?_)
  simp [-zJRc, hs.1, hs.2]
  refine zv8C (fun i : Nat => [(2, .int i), (5, .sl 0 (i + 1) 0 (i + 1))]) (fun i => [⟨none, (s :: l.take i).map (AV.ik 4), .live⟩]) (fun i => i ≤ l.length) (fun i => l.length - i) 0 (by simp [sets]) (by omega) ?_
  intro i hi1
  by_cases hi : i < l.length
  · have tk := zyXT hi
    have hx := hl _ (zmAQ (l := l) (n := (i : Int)) (by omega) (by omega))
    have hmin : min i l.length = i := Nat.min_eq_left (by omega)
    simp [-zJRc, -List.map_take, hi, hx.1, hx.2, hmin]
    refine ⟨by omega, by omega, zGkM (i + 1) (by simp) ?_ (by omega) (by omega)⟩
    rw [tk, List.map_append]; rfl
  · have ei : i = l.length := by omega
    subst ei
    have hb := z7Ix (l := s :: l) fun x hx => by
      rcases List.mem_cons.1 hx with rfl | hx
      · exact hs
      · exact hl x hx
    rw [List.map_cons] at hb
    have e : (l.map (AV.ik 4)).take l.length = l.map (AV.ik 4) := List.take_of_length_le (by simp)
    simp [-zJRc, -List.map_take, e, hb]
def afL (m : Mly) (s : Int) (l : List Int) (a : Int) (i : Nat) : List Int := ((l.take i).filter fun u => decide (ix (ix m.out u) a = ix (ix m.out s) a)).map fun u => ix (ix m.next u) a
def afS (st : Int) (w L : List Int) : List Blk := if L = [] then [⟨some 3, [.int 0, .snil, .snil], .live⟩, ⟨some 3, [.int st, .snil, iL w], .live⟩] else [⟨some 3, [.int 0, .snil, .snil], .live⟩, ⟨some 3, [.int st, .sl 2 L.length 0 L.length, iL w], .live⟩, Zb L]
theorem ztSA {m : Mly} {s : Int} {l : List Int} {a : Int} {i : Nat} (hi : i < l.length) : afL m s l a (i + 1) = afL m s l a i ++ if ix (ix m.out (ix l (i : Int))) a = ix (ix m.out s) a then [ix (ix m.next (ix l (i : Int))) a] else [] := by
  unfold afL
  rw [zyXT hi, List.filter_append, List.map_append]
  congr 1
  by_cases h : ix (ix m.out (ix l (i : Int))) a = ix (ix m.out s) a
  · simp [h]
  · simp [h]
theorem zGxk {m : Mly} {s : Int} {l : List Int} {a : Int} {i : Nat} : (afL m s l a i).length ≤ l.length := by
  unfold afL
  rw [List.length_map]
  have h1 := List.length_filter_le (fun u => decide (ix (ix m.out u) a = ix (ix m.out s) a)) (l.take i)
  have h2 := List.length_take_le' i l
  omega
theorem zmgb {m : Mly} (hm : m.Ok) {s : Int} {l : List Int} {a : Int} (hl : ∀ t ∈ l, 0 ≤ t ∧ t < (m.next.length : Int)) (ha : 0 ≤ a ∧ a < m.inputs) : compZ (sortI (afL m s l a l.length)) = m.oth s l a := by
  refine up_eq (zG25 (zN0D _) (Nat.le_refl _)) zdBc fun t => ?_
  rw [zQKH, (zZHI _).mem_iff, zneN]
  unfold afL
  rw [List.take_of_length_le (Nat.le_refl _)]
  simp only [List.mem_map, List.mem_filter, decide_eq_true_eq]
  constructor
  · rintro ⟨u, ⟨h1, h2⟩, rfl⟩
    have := hl u h1
    exact ⟨hm.nx _ _ this.1 this.2 ha.1 ha.2, u, h1, h2, rfl⟩
  · rintro ⟨_, u, h1, h2, rfl⟩
    exact ⟨u, ⟨h1, h2⟩, rfl⟩
theorem zVcY {σ : List Blk} : L zMnE [.snil] σ = some (.snil, σ) := by
  refine LX_eq (zcvF rfl ?_)
  simp
theorem zTUJ {σ : List Blk} {b u r k : Nat} {xs : List Int} (h : blk σ b = some (ZB xs r)) (hu : u = xs.length + r) : view σ false (k + 2) (.sl b u 0 xs.length) = some (iL xs) := by
  subst hu
  have hu : upto σ b (xs.length + r) = some (ZB xs r) := by
    unfold upto
    rw [h]
    simp
  unfold view
  simp only [hu, kst, List.drop_zero, Nat.zero_add, Nat.mul_one]
  have e : mapO (view σ false (k + 1)) (xs.map AV.int) = some (xs.map AV.int) := zwdp (f := AV.int) (g := AV.int) fun _ _ => rfl
  rw [if_pos (by simp), zchunk, e]
theorem zHzW {ce : CE} {a b c : AV} {r : List Blk} : ev ce (⟨some 3, [a, b, c], .live⟩ :: r) 0 [] (fun _ => .ptr 0 (kst (some 3)) 0) (.ld (.v 0) (some 3)) = some (.agg [a, b, c], none) := (rfl)
theorem zxjx (m : Mly) (hm : m.Ok) (s : Int) (hs : 0 ≤ s ∧ s < (m.next.length : Int)) (l : List Int) (hl : ∀ t ∈ l, 0 ≤ t ∧ t < (m.next.length : Int)) (hn : l.length ≤ 1000) (w : List Int) (hw : w.length ≤ 100000) (a : Int) (ha : 0 ≤ a ∧ a < m.inputs) : PC zH8N [.agg [.int s, iL l, iL w], m.av, .int a] = some (.agg [.int (ix (ix m.next s) a), iL (m.oth s l a), iL (w ++ [a])]) := by
  refine zx72 (zSS1 rfl ?_)
  have hrs := hm.row s hs.1 hs.2
  have hml := hm.len
  have hso : s < (m.out.length : Int) := by omega
  have hj := zy9E [(false, w), (false, [a])] (by simp) (by simp [cat]; omega)
  have hj' : PC zOq9 [.imm false [iL w, .imm false [.int a]]] = some (iL (w ++ [a])) := by
    have e1 : [(false, w), (false, [a])].map wB = [iL w, .imm false [.int a]] := by simp [wB]
    have e2 : cat [(false, w), (false, [a])] = w ++ [a] := by simp [cat]
    rwa [e1, e2] at hj
  simp [-zJRc, hs.1, hs.2, ha.1, ha.2, hrs.1, hj']
  refine zv8C (fun i : Nat => [(5, .int i)]) (fun i => afS (ix (ix m.next s) a) (w ++ [a]) (afL m s l a i)) (fun i => i ≤ l.length) (fun i => l.length - i) 0 (by simp [sets, afS, afL]) (by omega) ?_
  intro i hi1
  have hle := zGxk (m := m) (s := s) (l := l) (a := a) (i := i)
  by_cases hi : i < l.length
  · have hx := hl _ (zmAQ (l := l) (n := (i : Int)) (by omega) (by omega))
    have hsucc := ztSA (m := m) (s := s) (a := a) hi
    have hrx := hm.row _ hx.1 hx.2
    have hxo : ix l (i : Int) < (m.out.length : Int) := by omega
    generalize hL : afL m s l a i = L at *
    by_cases he : ix (ix m.out (ix l (i : Int))) a = ix (ix m.out s) a
    · rw [if_pos he] at hsucc
      by_cases h0 : L = []
      · subst h0
        have e : afS (ix (ix m.next s) a) (w ++ [a]) [] = [⟨some 3, [.int 0, .snil, .snil], .live⟩, ⟨some 3, [.int (ix (ix m.next s) a), .snil, iL (w ++ [a])], .live⟩] := if_pos rfl
        rw [e]
        simp [-zJRc, hi, hx.1, hx.2, ha.1, ha.2, hs.1, hs.2, hrs.2, hrx.1, hrx.2, hxo, hso, he]
        refine ⟨by omega, zGkM (i + 1) (by simp) ?_ (by omega) (by omega)⟩
        rw [hsucc]
        simp [afS]
      · have e : afS (ix (ix m.next s) a) (w ++ [a]) L = [⟨some 3, [.int 0, .snil, .snil], .live⟩, ⟨some 3, [.int (ix (ix m.next s) a), .sl 2 L.length 0 L.length, iL (w ++ [a])], .live⟩, Zb L] := if_neg h0
        rw [e]
        have hl0 : (L.length = 0) = False := eq_false fun e => h0 (List.eq_nil_of_length_eq_zero e)
        simp [-zJRc, hi, hx.1, hx.2, ha.1, ha.2, hs.1, hs.2, hrs.2, hrx.1, hrx.2, hxo, hso, he]
        refine ⟨by omega, by omega, zGkM (i + 1) (by simp) ?_ (by omega) (by omega)⟩
        rw [hsucc]
        simp [afS]
    · rw [if_neg he, List.append_nil] at hsucc
      simp [-zJRc, hi, hx.1, hx.2, ha.1, ha.2, hs.1, hs.2, hrs.2, hrx.1, hrx.2, hxo, hso, he]
      exact ⟨by omega, zGkM (i + 1) (by simp) (by rw [hsucc]) (by omega) (by omega)⟩
  · have ei : i = l.length := by omega
    subst ei
    have ho := zmgb hm (s := s) hl ha
    generalize hL : afL m s l a l.length = L at *
    by_cases h0 : L = []
    · subst h0
      have e : afS (ix (ix m.next s) a) (w ++ [a]) [] = [⟨some 3, [.int 0, .snil, .snil], .live⟩, ⟨some 3, [.int (ix (ix m.next s) a), .snil, iL (w ++ [a])], .live⟩] := if_pos rfl
      rw [e, ← ho]
      have h1 : ∀ σ, L zTrs [.snil] σ = some (.tup [], σ) := fun σ => zE0x (N := 0) rfl
      simp [-zJRc, h1, zVcY, zHzW]
      rfl
    · have e : afS (ix (ix m.next s) a) (w ++ [a]) L = [⟨some 3, [.int 0, .snil, .snil], .live⟩, ⟨some 3, [.int (ix (ix m.next s) a), .sl 2 L.length 0 L.length, iL (w ++ [a])], .live⟩, Zb L] := if_neg h0
      rw [e, ← ho]
      have h1 := zh09 (σ := [⟨some 3, [.int 0, .snil, .snil], .live⟩, ⟨some 3, [.int (ix (ix m.next s) a), .sl 2 L.length 0 L.length, iL (w ++ [a])], .live⟩, Zb L]) (b := 2) (zs := L) rfl rfl h0 (by omega)
      have hlen : (sortI L).length = L.length := (zZHI L).length_eq
      have h0' : sortI L ≠ [] := fun e => h0 (List.eq_nil_of_length_eq_zero (by rw [← hlen, e]; rfl))
      have hc := zzIy (A := ⟨some 3, [.int 0, .snil, .snil], .live⟩) (B := ⟨some 3, [.int (ix (ix m.next s) a), .sl 2 L.length 0 L.length, iL (w ++ [a])], .live⟩) (sortI L) h0' (by omega)
      rw [hlen] at hc
      obtain ⟨_, _, hc, rfl, rfl⟩ := LX_s hc
      have hcl := zYLL (sortI L)
      rw [hlen] at hcl
      generalize hr : L.length - (compZ (sortI L)).length = r at *
      have v1 := zTUJ (σ := [⟨some 3, [.int (ix (ix m.next s) a), .sl 2 L.length 0 (compZ (sortI L)).length, .imm false (w.map AV.int ++ [.int a])], .live⟩, ⟨some 3, [.int (ix (ix m.next s) a), .sl 2 L.length 0 (compZ (sortI L)).length, .imm false (w.map AV.int ++ [.int a])], .live⟩, ZB (compZ (sortI L)) r]) (b := 2) (u := L.length) (k := 9) (r := r) (xs := compZ (sortI L)) rfl (by omega)
      simp [-zJRc, h1, hc, -List.map_replicate, zHzW, v1]
end Ab
namespace Ab
theorem zWCt (l : List Int) (v : Int) (hl : (l.length : Int) ≤ 1000000) : LX L zZZJ [iL l, .int v] [] (fun r _ => ∃ k : Int, r = .int k ∧ (0 ≤ k ↔ v ∈ l)) := by
  refine zbc1 rfl ?_
  simp [-zJRc]
  refine zv8C (fun i : Nat => [(2, .int i)]) (fun _ => []) (fun i => i ≤ l.length ∧ ∀ j : Nat, j < i → ix l (j : Int) ≠ v) (fun i => l.length - i) 0 (by simp [sets]) ⟨by omega, fun j hj => by omega⟩ ?_
  rintro i ⟨hi1, hi2⟩
  by_cases hi : i < l.length
  · by_cases he : v = ix l (i : Int)
    · have hm := zmAQ (l := l) (n := (i : Int)) (by omega) (by omega)
      rw [← he] at hm
      have he' := eq_true he
      simp [-zJRc, hi, he', hm]
    · have he' := eq_false he
      simp [-zJRc, hi, he']
      refine ⟨by omega, zGkM (i + 1) (by simp) rfl ⟨by omega, fun j hj => ?_⟩ (by omega)⟩
      by_cases e : j = i
      · subst e; exact fun h => he h.symm
      · exact hi2 j (by omega)
  · have : v ∉ l := fun hm => by
      obtain ⟨j, hj, rfl⟩ := List.mem_iff_getElem.1 hm
      have := hi2 j (by omega)
      rw [zrZW hj] at this
      exact this rfl
    simp [-zJRc, hi, this]
theorem zD6c (l : List Int) (v : Int) (hl : (l.length : Int) ≤ 1000000) : PC z99Y [iL l, .int v] = some (.bool (decide (v ∈ l))) := by
  refine zx72 (z9RN rfl ?_)
  obtain ⟨_, σ', h, k, rfl, hk⟩ := LX_s (zWCt l v hl)
  have hp : PC zZZJ [iL l, .int k] = PC zZZJ [iL l, .int k] := rfl
  have h1 : PC zZZJ [iL l, .int v] = some (.int k) := by
    simp only [PC, PCx, h]; rfl
  by_cases hm : v ∈ l
  · have := hk.2 hm
    simp [h1, hm, this]
  · have : ¬ 0 ≤ k := fun h => hm (hk.1 h)
    simp [h1, hm, this]
abbrev PS := Sit × List Int
def sc (q : List PS) : List AV := q.flatMap fun p => [.int p.1.1, iL p.1.2, iL p.2]
theorem ze6D : ∀ {q : List PS}, (sc q).length = 3 * q.length
  | [] => rfl
  | p :: q => by
    have := ze6D (q := q)
    simp only [sc, List.flatMap_cons, List.length_append, List.length_cons, List.length_nil] at this ⊢; omega
theorem zk7E {q r : List PS} : sc (q ++ r) = sc q ++ sc r := by simp [sc]
theorem zPxM {p : PS} : sc [p] = [.int p.1.1, iL p.1.2, iL p.2] := by simp [sc]
theorem zTLL : ∀ {q : List PS} {n : Nat}, n < q.length → (sc q).drop (n * 3) = .int (ix q (n : Int)).1.1 :: iL (ix q (n : Int)).1.2 :: iL (ix q (n : Int)).2 :: (sc q).drop (n * 3 + 3)
  | p :: q, 0, _ => rfl
  | p :: q, n + 1, h => by
    have := zTLL (q := q) (n := n) (by simpa using h)
    have e : ix (p :: q) ((n + 1 : Nat) : Int) = ix q (n : Int) := by simp [ix]
    rw [e, show (n + 1) * 3 = n * 3 + 1 + 1 + 1 by omega]
    exact this
section
variable {q : List PS} {n : Int} {K : AV → Prop} {t : Tk K}
theorem zaec (h0 : 0 ≤ n) (h1 : n < q.length) : elm (sc q) (n.toNat * 3 + 2) = some (iL (ix q n).2) := by
  have := zTLL (q := q) (n := n.toNat) (by omega)
  rw [show ((n.toNat : Nat) : Int) = n by omega] at this
  rw [znyW]
  have g : ∀ j, (sc q)[n.toNat * 3 + j]? = ((sc q).drop (n.toNat * 3))[j]? := fun j => by rw [List.getElem?_drop]
  rw [g 2, this]; rfl
theorem zl8R (h0 : 0 ≤ n) (h1 : n < q.length) : pT (sc q) (0 + n.toNat * 3) (some 3) K t = K (.agg [.int (ix q n).1.1, iL (ix q n).1.2, iL (ix q n).2]) := by
  have := zTLL (q := q) (n := n.toNat) (by omega)
  rw [show ((n.toNat : Nat) : Int) = n by omega] at this
  unfold pT part
  rw [Nat.zero_add]
  simp only
  rw [if_pos (by rw [ze6D]; omega), this]
  rfl
end
def sk (q : List PS) : List (AV × AV) := q.map fun p => (.str (kbs (p.1.1 :: p.1.2)), .bool true)
theorem z0Yv {q r : List PS} : sk (q ++ r) = sk q ++ sk r := by simp [sk]
theorem zpeT {p : PS} : sk [p] = [(.str (kbs (p.1.1 :: p.1.2)), .bool true)] := rfl
def by8 (x : Sit) : Prop := (0 ≤ x.1 ∧ x.1 ≤ 255) ∧ ∀ t ∈ x.2, 0 ≤ t ∧ t ≤ 255
theorem zq0F {x : Sit} (h : by8 x) : ∀ t ∈ x.1 :: x.2, 0 ≤ t ∧ t ≤ 255 := fun t ht => by
  rcases List.mem_cons.1 ht with rfl | ht
  · exact h.1
  · exact h.2 t ht
theorem zqhy {x : Sit} (hx : by8 x) : ∀ {q : List PS}, (∀ p ∈ q, by8 p.1) → findM (sk q) (.str (kbs (x.1 :: x.2))) = some (if hasG q x then some (.bool true) else none)
  | [], _ => rfl
  | p :: q, h => by
    have ih := zqhy hx (q := q) fun r hr => h r (by simp [hr])
    unfold sk at ih ⊢
    simp only [List.map_cons, findM, keyEq]
    have e : hasG (p :: q) x = (decide (p.1 = x) || hasG q x) := by simp [hasG]
    by_cases hp : p.1 = x
    · rw [e, hp]; simp
    · have h1 : decide (kbs (x.1 :: x.2) = kbs (p.1.1 :: p.1.2)) = false := by
        rw [decide_eq_false_iff_not]
        intro hk
        have := zTqU (zq0F hx) (zq0F (h p (by simp))) hk
        simp only [List.cons.injEq] at this
        exact hp (Prod.ext this.1.symm this.2.symm)
      rw [h1, e]
      simp only [ih]
      simp [hp]
theorem uok8 {m : Mly} (h8 : m.next.length ≤ 8) {x : Sit} (h : Uok m x) : by8 x := ⟨by have := h.at'; omega, fun t ht => by have := h.rng t ht; omega⟩
theorem zkD0 {n : Nat} {l : List Int} (hu : up l) (h : ∀ t ∈ l, 0 ≤ t ∧ t < (n : Int)) : l.length ≤ n := zVv5 n (List.Pairwise.imp (fun h => by omega) hu) h
def Usr (m : Mly) (s n i : Int) (q : List PS) : Prop := (Gst m.unx m.inputs (Uok m) 2048 (m.situ s []) i 0 q ∧ Nof m.unx m.inputs i 0 q) ∨ (m.uio s n = none ∧ (∀ j, i ≤ j → j < (q.length : Int) → n ≤ ((ix q j).2.length : Int)) ∧ q.length ≤ 2048 ∧ 0 ≤ i)
def uioA (o : Option (List Int)) : AV := .tup [iL (o.getD []), .bool o.isSome, .int 0]
theorem za8g {m : Mly} {s : Int} : m.situ s [] = (s, m.othW s []) := rfl
theorem zU8V (m : Mly) (hm : m.Ok) (h8 : m.next.length ≤ 8) (s : Int) (hs : 0 ≤ s ∧ s < (m.next.length : Int)) (n : Int) (hn : 0 ≤ n ∧ n ≤ 128) : PC z2bL [m.av, .agg [.int s, iL (m.othW s []), iL []], .int n] = some (uioA (m.uio s n)) := by
  refine zx72 (zqZK rfl ?_)
  have hG := ugr hm h8
  have h0 := zA9u hm hs (w := []) (by simp)
  have hin := hm.inputs
  have hst := hm.states
  rw [za8g] at h0
  have b0 := uok8 h8 h0
  have hk0 := key_s s (m.othW s []) [] b0.1 b0.2 (by have := zkD0 h0.up h0.rng; dsimp only at this; omega)
  have hkf : ∀ x, keyFits 1 (.str x) = true := fun _ => rfl
  have hk0 : PC zooT [.agg [.int s, .imm false ((m.othW s []).map .int), .imm false []]] = some (.str (kbs (s :: m.othW s []))) := hk0
  simp [-zJRc, hk0, findM, hkf]
  refine zv8C (fun p : Int × List PS => [(4, .int p.1), (5, .sl 1 (3 * p.2.length) 0 p.2.length)]) (fun p => [⟨some 0, [], .map (sk p.2)⟩, ⟨some 3, sc p.2, .live⟩])
    (fun p => p.1 ≤ p.2.length ∧ Usr m s n p.1 p.2) (fun p => (2049 - p.1).toNat) (0, [((s, m.othW s []), [])]) (by simp [sets, zPxM, zpeT]) ⟨by simp, .inl ⟨Gst.init hG (zA9u hm hs (w := []) (by simp)), Nof.init⟩⟩ ?_
  rintro ⟨i, q⟩ ⟨i1, hU⟩
  dsimp only at i1 hU ⊢
  have i0 : 0 ≤ i := by
    rcases hU with ⟨h, _⟩ | ⟨_, _, _, h⟩
    · exact h.i0
    · exact h
  have hql : q.length ≤ 2048 := by
    rcases hU with ⟨h, _⟩ | ⟨_, _, h, _⟩
    · exact h.gi.gq.le hG
    · exact h
  by_cases hi : i < q.length
  · have gel := zaec i0 hi
    by_cases hl : n ≤ ((ix q i).2.length : Int)
    · have hl' := eq_true hl
      have hD : m.uio s n = none := by
        rcases hU with ⟨h, hn⟩ | ⟨h, _⟩
        · exact z4UF hm h8 hs h hn hi hl
        · exact h
      have hlate : ∀ j, i + 1 ≤ j → j < (q.length : Int) → n ≤ ((ix q j).2.length : Int) := by
        rcases hU with ⟨h, _⟩ | ⟨_, h, _, _⟩
        · intro j j0 j1
          have := h.gi.asc i j i0 (by omega) j1
          have : (ix q i).2.length ≤ (ix q j).2.length := by
            refine Classical.byContradiction fun hc => ?_
            unfold slxC at this
            rw [if_neg (by omega), if_pos (by omega)] at this
            omega
          omega
        · exact fun j j0 j1 => h j (by omega) j1
      simp [-zJRc, hi, i0, ze6D, gel, hl']
      refine ⟨by omega, zGkM (i + 1, q) (by simp) rfl ⟨by dsimp only; omega, .inr ⟨hD, hlate, hql, by omega⟩⟩ (by dsimp only; omega)⟩
    · have hl' := eq_false hl
      obtain ⟨hq, hno⟩ : Gst m.unx m.inputs (Uok m) 2048 (m.situ s []) i 0 q ∧ Nof m.unx m.inputs i 0 q := by
        rcases hU with h | ⟨_, h, _, _⟩
        · exact h
        · exact absurd (h i (by omega) hi) hl
      have hp := hq.gi.gq.rng _ (zmAQ i0 hi)
      simp [-zJRc, hi, i0, ze6D, gel, hl']
      refine zv8C (fun p : Int × List PS => [(5, .sl 1 (3 * p.2.length) 0 p.2.length), (7, .int p.1)]) (fun p => [⟨some 0, [], .map (sk p.2)⟩, ⟨some 3, sc p.2, .live⟩])
        (fun p => (0 ≤ p.1 ∧ p.1 ≤ m.inputs) ∧ (i < p.2.length ∧ ix p.2 i = ix q i) ∧ Gst m.unx m.inputs (Uok m) 2048 (m.situ s []) i p.1 p.2 ∧ Nof m.unx m.inputs i p.1 p.2)
        (fun p => (m.inputs - p.1).toNat) (0, q) (by simp [sets]) ⟨by dsimp only; omega, ⟨hi, rfl⟩, hq, hno⟩ ?_
      rintro ⟨a, q'⟩ ⟨⟨a0, a1⟩, ⟨hiq, gx⟩, gq, gn⟩
      dsimp only at a0 a1 hiq gx gq gn ⊢
      have gql := gq.gi.gq.le hG
      by_cases ha : a < m.inputs
      · have hwl := gq.gi.gq.len i i0 hiq
        rw [gx] at hwl
        have p3 := fun (K : AV → Prop) (t : Tk K) => zl8R (q := q') (K := K) (t := t) i0 hiq
        simp only [gx] at p3
        have hA := zxjx m hm (ix q i).1.1 hp.at' (ix q i).1.2 hp.rng (by have := zkD0 hp.up hp.rng; omega) (ix q i).2 (by omega) a ⟨a0, ha⟩
        have hok : Uok m (m.aft (ix q i).1 a) := ⟨hm.nx _ _ hp.at'.1 hp.at'.2 a0 ha, zdBc, fun t ht => (zneN.1 ht).1⟩
        have hb8 := uok8 h8 hok
        have hoL := zkD0 hok.up hok.rng
        have hC := zD6c (m.oth (ix q i).1.1 (ix q i).1.2 a) (ix (ix m.next (ix q i).1.1) a) (by unfold Mly.aft at hoL; dsimp only at hoL; omega)
        have hK := key_s (ix (ix m.next (ix q i).1.1) a) (m.oth (ix q i).1.1 (ix q i).1.2 a) ((ix q i).2 ++ [a]) hb8.1 hb8.2 (by unfold Mly.aft at hoL; dsimp only at hoL; omega)
        have hF := zqhy hb8 (q := q') fun p hp => uok8 h8 (gq.gi.gq.rng p hp)
        have hx : m.unx (ix q i).1 a = if (m.aft (ix q i).1 a).2 = [] then none else if (m.aft (ix q i).1 a).1 ∈ (m.aft (ix q i).1 a).2 then some (ix q i).1 else some (m.aft (ix q i).1 a) := rfl
        have hAf : m.aft (ix q i).1 a = (ix (ix m.next (ix q i).1.1) a, m.oth (ix q i).1.1 (ix q i).1.2 a) := rfl
        rw [hAf] at hx hF hok
        dsimp only at hx hF
        generalize m.oth (ix q i).1.1 (ix q i).1.2 a = Z at *
        generalize hu : ix (ix m.next (ix q i).1.1) a = u at *
        have hK : PC zooT [.agg [.int u, .imm false (Z.map .int), .imm false ((ix q i).2.map .int ++ [.int a])]] = some (.str (kbs (u :: Z))) := by
          rw [← hK, iL, iL, List.map_append]; rfl
        by_cases hz : Z = []
        · subst hz
          rw [if_pos rfl] at hx
          have hg := z2RY hG gq gn hiq a0 ha (by rw [gx]; exact hx)
          rw [gx] at hg
          have hD : m.uio s n = some ((ix q i).2 ++ [a]) := by
            unfold Mly.uio
            rw [hg]
            exact if_pos (by simp; omega)
          rw [hD]
          simp [-zJRc, ha, a0, i0, hiq, ze6D, ↓p3, hA]
          simp [uioA]
        · have hz0 : (Z.length = 0) = False := eq_false fun e => hz (List.eq_nil_of_length_eq_zero e)
          have hz1 := eq_false hz
          rw [if_neg hz] at hx
          by_cases hin : u ∈ Z
          · rw [if_pos hin] at hx
            have hin' : decide (u ∈ Z) = true := by simpa using hin
            rw [hin'] at hC
            have hstay : Gst m.unx m.inputs (Uok m) 2048 (m.situ s []) i (a + 1) q' := gq.stay hG hiq a0 ha (by
              refine zoo4 (by rw [gx]; exact hx) ?_
              rw [z6uL, ← gx]
              exact List.mem_map.2 ⟨_, zmAQ i0 hiq, rfl⟩)
            have hnof : Nof m.unx m.inputs i (a + 1) q' := gn.step (by rw [gx, hx]; simp)
            simp [-zJRc, ha, a0, i0, hiq, ze6D, ↓p3, hA, hz0, hz1, hC]
            refine ⟨by omega, zGkM (a + 1, q') (by simp) rfl ⟨by dsimp only; omega, ⟨hiq, gx⟩, hstay, hnof⟩ (by dsimp only; omega)⟩
          · rw [if_neg hin] at hx
            have hin' : decide (u ∈ Z) = false := by simpa using hin
            rw [hin'] at hC
            have hnof : Nof m.unx m.inputs i (a + 1) q' := gn.step (by rw [gx, hx]; simp)
            cases hh : hasG q' (u, Z) with
            | true =>
              have hstay : Gst m.unx m.inputs (Uok m) 2048 (m.situ s []) i (a + 1) q' := gq.stay hG hiq a0 ha (zoo4 (by rw [gx]; exact hx) hh)
              rw [hh] at hF
              simp [-zJRc, ha, a0, i0, hiq, ze6D, ↓p3, hA, hz0, hz1, hC, hK, hF, hkf]
              refine ⟨by omega, zGkM (a + 1, q') (by simp) rfl ⟨by dsimp only; omega, ⟨hiq, gx⟩, hstay, hnof⟩ (by dsimp only; omega)⟩
            | false =>
              have hnew : Gst m.unx m.inputs (Uok m) 2048 (m.situ s []) i (a + 1) (q' ++ [((u, Z), (ix q i).2 ++ [a])]) := by
                have := gq.step hG hiq a0 ha
                rw [z18f (by rw [gx]; exact hx) hh, gx] at this
                exact this
              rw [hh] at hF
              have hk3 : (3 * q'.length = q'.length * kst (some 3)) = True := eq_true (by simp [kst]; omega)
              have h4 : ((4096 : Int) ≤ (q'.length : Int)) = False := eq_false (by omega)
              have h4' : ((4096 : Nat) ≤ q'.length) = False := eq_false (by omega)
              simp [-zJRc, ha, a0, i0, hiq, ze6D, ↓p3, hA, hz0, hz1, hC, hK, hF, hkf, hk3, h4, h4']
              refine ⟨by omega, by omega, zGkM (a + 1, q' ++ [((u, Z), (ix q i).2 ++ [a])]) (by simp [Nat.mul_add]) (by simp [zk7E, zPxM, z0Yv, zpeT, iL]) ⟨by dsimp only; omega, ⟨by simp; omega, by dsimp only; rw [zT8e i0 hiq, gx]⟩, hnew, hnof.app i0 hiq⟩ (by dsimp only; omega)⟩
      · have hxi : a = m.inputs := by omega
        subst hxi
        simp [-zJRc]
        refine ⟨by omega, zGkM (i + 1, q') (by simp) rfl ⟨by dsimp only; omega, .inl ⟨gq.next hG hiq, gn.next⟩⟩ (by dsimp only; omega)⟩
  · have hD : m.uio s n = none := by
      rcases hU with ⟨h, hn⟩ | ⟨h, _⟩
      · unfold Mly.uio; rw [zjxQ h hn hi]
      · exact h
    rw [hD]
    simp [hi]
    rfl
end Ab
namespace Ab
theorem zCAR {vars : List AV} {fl : Option (Nat × AV)} {σ : List Blk} {k : Nat} {x : AV} {ds : List Nat} {Q : Ex → St → Prop} (hr : reach σ vd (nth vars k) [] = ds) (hs : surely σ (nth vars k) = false) (hv : view (dieIf (fun b => !ds.contains b) 0 σ) false vd (nth vars k) = some (.pimm x)) (h : Q .nor ⟨setN vars k (.pimm x), fl, dieIf (fun b => ds.contains b) 0 σ⟩) : W L (.frz k) ⟨vars, fl, σ⟩ Q := by
  refine ⟨0, .nor, _, ?_, h⟩
  simp only [exec, hr, hv, hs]
  rfl
theorem zpB1 {σ : List Blk} {f : Nat} : ∀ (l : List Int) (acc : List Nat), (l.map AV.int).foldl (fun acc y => reach σ f y acc) acc = acc
  | [], _ => rfl
  | x :: l, acc => by
    have e : reach σ f (.int x) acc = acc := by cases f <;> rfl
    simp only [List.map_cons, List.foldl_cons, e]
    exact zpB1 l acc
theorem zDnM {σ : List Blk} {b f : Nat} {s : Int} {x y x' y' : AV} (h : blk σ b = some ⟨some 3, [.int s, x, y], .live⟩) (hx : view σ false (f + 1) x = some x') (hy : view σ false (f + 1) y = some y') : view σ false (f + 3) (.ptr b (kst (some 3)) 0) = some (.pimm (.agg [.int s, x', y'])) := by
  have hu : upto σ b (kst (some 3)) = some ⟨some 3, [.int s, x, y], .live⟩ := by
    unfold upto
    rw [h]; rfl
  have h0 : view σ false (f + 1) (.int s) = some (.int s) := by unfold view; rfl
  have ha : view σ false (f + 2) (.agg [.int s, x, y]) = some (.agg [.int s, x', y']) := by
    unfold view
    simp only [mapO, h0, hx, hy]
  have hp : part [AV.int s, x, y] 0 (some 3) = some (.agg [.int s, x, y]) := rfl
  unfold view
  simp only [hu, hp, ha]
  rfl
theorem zTci {σ : List Blk} {f : Nat} : view σ false (f + 1) .snil = some (.imm false []) := by unfold view; rfl
theorem zKSE {vars : List AV} {fl : Option (Nat × AV)} {k : Nat} {s : Int} {Q : Ex → St → Prop} (hn : nth vars k = .ptr 0 (kst (some 3)) 0) (h : Q .nor ⟨setN vars k (.pimm (.agg [.int s, .imm false [], .imm false []])), fl, [⟨some 3, [.int s, .snil, .snil], .dead⟩]⟩) : W L (.frz k) ⟨vars, fl, [⟨some 3, [.int s, .snil, .snil], .live⟩]⟩ Q := by
  have hr : reach [⟨some 3, [.int s, .snil, .snil], .live⟩] vd (.ptr 0 (kst (some 3)) 0) [] = [0] := rfl
  have hv := zDnM (σ := [⟨some 3, [.int s, .snil, .snil], .live⟩]) (b := 0) (f := 9) (s := s) (x := .snil) (y := .snil) rfl zTci zTci
  refine zCAR (ds := [0]) (x := .agg [.int s, .imm false [], .imm false []]) (by rw [hn]; exact hr) (by rw [hn]; rfl) (by rw [hn]; exact hv) h
theorem zY52 {σ : List Blk} {s : Int} {l : List Int} {u n : Nat} (h0 : blk σ 0 = some ⟨some 3, [.int s, .sl 1 u 0 n, .snil], .live⟩) (h1 : blk σ 1 = some (Zb l)) : reach σ vd (.ptr 0 (kst (some 3)) 0) [] = [1, 0] := by
  show reach σ (11 + 1) (.ptr 0 (kst (some 3)) 0) [] = [1, 0]
  have e1 : reach σ 11 (.sl 1 u 0 n) [0] = [1, 0] := by
    show reach σ (10 + 1) (.sl 1 u 0 n) [0] = [1, 0]
    unfold reach
    simp only [h1]
    rw [if_neg (by decide)]
    exact zpB1 l _
  have e0 : reach σ 11 (.int s) [0] = [0] := by unfold reach; rfl
  have e2 : reach σ 11 .snil [1, 0] = [1, 0] := by unfold reach; rfl
  unfold reach
  simp only [h0]
  rw [if_neg (by decide)]
  simp only [List.foldl_cons, List.foldl_nil, e0, e1, e2]
theorem zL7i {vars : List AV} {fl : Option (Nat × AV)} {k : Nat} {s : Int} {l : List Int} {Q : Ex → St → Prop} (hn : nth vars k = .ptr 0 (kst (some 3)) 0) (h : Q .nor ⟨setN vars k (.pimm (.agg [.int s, iL l, .imm false []])), fl, [⟨some 3, [.int s, .sl 1 l.length 0 l.length, .snil], .dead⟩, ⟨none, l.map .int, .dead⟩]⟩) : W L (.frz k) ⟨vars, fl, [⟨some 3, [.int s, .sl 1 l.length 0 l.length, .snil], .live⟩, Zb l]⟩ Q := by
  have hr := zY52 (σ := [⟨some 3, [.int s, .sl 1 l.length 0 l.length, .snil], .live⟩, Zb l]) (s := s) (l := l) (u := l.length) (n := l.length) rfl rfl
  have hd : dieIf (fun b => !([1, 0] : List Nat).contains b) 0 [⟨some 3, [.int s, .sl 1 l.length 0 l.length, .snil], .live⟩, Zb l] = [⟨some 3, [.int s, .sl 1 l.length 0 l.length, .snil], .live⟩, Zb l] := by simp [dieIf]
  have hz := zwpB (σ := [⟨some 3, [.int s, .sl 1 l.length 0 l.length, .snil], .live⟩, Zb l]) (b := 1) (k := 8) (l := l) rfl
  have hv := zDnM (σ := [⟨some 3, [.int s, .sl 1 l.length 0 l.length, .snil], .live⟩, Zb l]) (b := 0) (f := 9) (s := s) rfl hz zTci
  refine zCAR (ds := [1, 0]) (x := .agg [.int s, iL l, .imm false []]) (by rw [hn]; exact hr) (by rw [hn]; rfl) (by rw [hn, hd]; exact hv) h
def uiL (s : Int) (i : Nat) : List Int := asi ((List.range i).filter fun (t : Nat) => decide ((t : Int) ≠ s))
theorem zE6j {s : Int} {i : Nat} : uiL s (i + 1) = uiL s i ++ if (i : Int) = s then [] else [(i : Int)] := by
  unfold uiL asi
  rw [List.range_succ, List.filter_append, List.map_append]
  congr 1
  by_cases h : (i : Int) = s
  · simp [h]
  · simp [h]
theorem zo45 {s : Int} {i : Nat} : (uiL s i).length ≤ i := by
  unfold uiL asi
  rw [List.length_map]
  have := List.length_filter_le (fun (t : Nat) => decide ((t : Int) ≠ s)) (List.range i)
  simpa using this
theorem zpIt {m : Mly} {s : Int} : uiL s m.next.length = m.othW s [] := by
  refine up_eq zOj4 zOj4 fun t => ?_
  rw [zXcX]
  unfold uiL
  rw [zm9g]
  refine and_congr_right fun h => ?_
  simp only [decide_eq_true_eq, Mly.outs, Mly.run, true_and]
  rw [show ((t.toNat : Nat) : Int) = t by omega]
  exact ⟨fun h2 => ⟨t, h, h2, rfl⟩, fun ⟨u, u1, u2, e⟩ => e ▸ u2⟩
def uiS (s : Int) (l : List Int) : List Blk := if l = [] then [⟨some 3, [.int s, .snil, .snil], .live⟩] else [⟨some 3, [.int s, .sl 1 l.length 0 l.length, .snil], .live⟩, Zb l]
noncomputable def Mly.uioR (m : Mly) (s n : Int) : Option (List Int) × Int := if m.mchk m.mnlb ≠ 0 then (none, m.mchk m.mnlb) else if s < 0 ∨ (m.next.length : Int) ≤ s ∨ n < 0 ∨ 128 < n then (none, 2) else if m.othW s [] = [] then (some [], 0) else (m.uio s n, 0)
def uioRA (r : Option (List Int) × Int) : AV := .tup [iL (r.1.getD []), .bool r.1.isSome, .int r.2]
theorem zwBY {m : Mly} (h : m.mchk m.mnlb = 0) : m.validE = 0 ∧ Mnl m := by
  unfold Mly.mchk at h
  split at h
  · rename_i a; exact absurd h a
  · split at h
    · rename_i b; exact zVHJ.1 b
    · simp at h
theorem Uio_s (m : Mly) (h : m.fits) (hn8 : m.validE = 0 → m.next.length ≤ 8) (s n : Int) : PC zvA6 [m.av, .int s, .int n] = some (uioRA (m.uioR s n)) := by
  refine zx72 (zY44 rfl ?_)
  have hc := zeP2 m h
  by_cases h0 : m.mchk m.mnlb = 0
  case neg =>
    have e : m.uioR s n = (none, m.mchk m.mnlb) := by unfold Mly.uioR; rw [if_pos h0]
    rw [e]
    simp [hc, h0, uioRA]
  obtain ⟨hv, hM⟩ := zwBY h0
  have h8 := hn8 hv
  have hm := hM.ok
  have hst := hm.states
  rw [h0] at hc
  by_cases h1 : s < 0 ∨ (m.next.length : Int) ≤ s ∨ n < 0 ∨ 128 < n
  · have e : m.uioR s n = (none, 2) := by unfold Mly.uioR; rw [if_neg (by simpa using h0), if_pos h1]
    rw [e]
    by_cases a1 : s < 0
    · simp [hc, a1, uioRA]
    by_cases a2 : (m.next.length : Int) ≤ s
    · simp [hc, a1, a2, uioRA]
    by_cases a3 : n < 0
    · simp [hc, a1, a2, a3, uioRA]
    have a4 : 128 < n := by omega
    simp [hc, a1, a2, a3, a4, uioRA]
  · have a1 := eq_false (show ¬ s < 0 by omega)
    have a2 := eq_false (show ¬ (m.next.length : Int) ≤ s by omega)
    have a3 := eq_false (show ¬ n < 0 by omega)
    have a4 := eq_false (show ¬ 128 < n by omega)
    simp [-zJRc, hc, a1, a2, a3, a4]
    refine zv8C (fun i : Nat => [(5, .int i)]) (fun i => uiS s (uiL s i)) (fun i => i ≤ m.next.length) (fun i => m.next.length - i) 0 (by simp [sets, uiS, uiL, asi]) (by omega) ?_
    intro i hi1
    by_cases hi : i < m.next.length
    · have hsucc := zE6j (s := s) (i := i)
      have hle := zo45 (s := s) (i := i)
      generalize uiL s i = l at *
      by_cases he : (i : Int) = s
      · rw [if_pos he, List.append_nil] at hsucc
        have he' := eq_true he
        simp [-zJRc, hi, he']
        exact ⟨by omega, zGkM (i + 1) (by simp) (by rw [hsucc]) (by omega) (by omega)⟩
      · rw [if_neg he] at hsucc
        have he' := eq_false he
        by_cases hl : l = []
        · subst hl
          have e : uiS s [] = [⟨some 3, [.int s, .snil, .snil], .live⟩] := if_pos rfl
          rw [e]
          simp [-zJRc, hi, he']
          exact ⟨by omega, zGkM (i + 1) (by simp) (by rw [hsucc]; simp [uiS]) (by omega) (by omega)⟩
        · have e : uiS s l = [⟨some 3, [.int s, .sl 1 l.length 0 l.length, .snil], .live⟩, Zb l] := if_neg hl
          rw [e]
          have hl0 : (l.length = 0) = False := eq_false fun e => hl (List.eq_nil_of_length_eq_zero e)
          simp [-zJRc, hi, he']
          exact ⟨by omega, by omega, zGkM (i + 1) (by simp) (by rw [hsucc]; simp [uiS]) (by omega) (by omega)⟩
    · have ei : i = m.next.length := by omega
      subst ei
      have hS := zU8V m hm h8 s ⟨by omega, by omega⟩ n ⟨by omega, by omega⟩
      have e : m.uioR s n = if m.othW s [] = [] then (some [], 0) else (m.uio s n, 0) := by unfold Mly.uioR; rw [if_neg (by simpa using h0), if_neg h1]
      rw [e, zpIt]
      generalize m.othW s [] = l at *
      by_cases hl : l = []
      · subst hl
        have e : uiS s [] = [⟨some 3, [.int s, .snil, .snil], .live⟩] := if_pos rfl
        rw [e]
        simp [-zJRc]
        refine zKSE rfl ?_
        simp [-zJRc]
        rfl
      · have e : uiS s l = [⟨some 3, [.int s, .sl 1 l.length 0 l.length, .snil], .live⟩, Zb l] := if_neg hl
        rw [e]
        have hl0 : (l.length = 0) = False := eq_false fun e => hl (List.eq_nil_of_length_eq_zero e)
        have hS' : PC z2bL [m.av, .agg [.int s, .imm false (l.map .int), .imm false []], .int n] = some (uioA (m.uio s n)) := hS
        simp [-zJRc]
        refine zL7i rfl ?_
        unfold uioA at hS'
        simp [-zJRc, hl0, hl, hS', uioRA]
end Ab
