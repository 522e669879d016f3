/- Arguments that read as plain data are encodings of lists and numbers. Mealy machines as plain data. The check of a Mealy machine, by the program and by the document. The states that can be reached, each with its first word. Lists in memory, places, tables: what needs no cover. Comparisons, sorted words, in memory. The rank of a word, and first words. First words by the document's table. First words by lengths: the program's search. Condition: none. -/
import Derived.Test.YtkchnhfeebkogaaAbTop
import Derived.Test.YtkchnhfeebkogaaN43Widen
import Derived.Test.YtkchnhfeebkogaaWords
import Derived.Test.YtkchnhfeebkogaaN43Word
set_option linter.all false
set_option maxRecDepth 100000
set_option maxHeartbeats 4000000
namespace Ab
open Go
theorem has_int {x : AV} (h : Ty.int.has x) : ∃ n : Int, x = .int n ∧ inR n = true := h
theorem has_bool {x : AV} (h : Ty.bool.has x) : ∃ n : Bool, x = .bool n ∧ True := by
  obtain ⟨b, rfl⟩ := h; exact ⟨b, rfl, trivial⟩
theorem has_list {e : Ty} {α : Type} {f : α → AV} {p : α → Prop} (h : ∀ y, e.has y → ∃ a, y = f a ∧ p a) {x : AV} (hx : (Ty.sl e).has x) : ∃ l : List α, x = .imm false (l.map f) ∧ (l.length : Int) ≤ 9223372036854775807 ∧ ∀ a ∈ l, p a := by
  obtain ⟨l, rfl, hl, hm⟩ := hx
  have key : ∀ l : List AV, (∀ y, y ∈ l → e.has y) → ∃ m : List α, l = m.map f ∧ ∀ a ∈ m, p a := by
    intro l
    induction l with
    | nil => exact fun _ => ⟨[], rfl, by simp⟩
    | cons y r ih =>
      intro hm
      obtain ⟨a, rfl, ha⟩ := h y (hm y (by simp))
      obtain ⟨m, rfl, hm'⟩ := ih fun z hz => hm z (by simp [hz])
      exact ⟨a :: m, rfl, by simpa using ⟨ha, hm'⟩⟩
  obtain ⟨m, rfl, hm'⟩ := key l hm
  refine ⟨m, rfl, ?_, hm'⟩
  simp [maxLen] at hl
  omega
def okI (l : List Int) : Prop := (l.length : Int) ≤ 9223372036854775807 ∧ ∀ n ∈ l, inR n = true
def okB (l : List Bool) : Prop := (l.length : Int) ≤ 9223372036854775807
def okII (l : List (List Int)) : Prop := (l.length : Int) ≤ 9223372036854775807 ∧ ∀ m ∈ l, okI m
def okIII (l : List (List (List Int))) : Prop := (l.length : Int) ≤ 9223372036854775807 ∧ ∀ m ∈ l, okII m
theorem has_I {x : AV} (h : (Ty.sl .int).has x) : ∃ l : List Int, x = iL l ∧ okI l := has_list (fun _ h => has_int h) h
theorem has_B {x : AV} (h : (Ty.sl .bool).has x) : ∃ l : List Bool, x = bL l ∧ okB l := by
  obtain ⟨l, h1, h2, _⟩ := has_list (fun _ h => has_bool h) h
  exact ⟨l, h1, h2⟩
theorem has_II {x : AV} (h : (Ty.sl (.sl .int)).has x) : ∃ l : List (List Int), x = iLL l ∧ okII l := has_list (fun _ h => has_I h) h
theorem has_III {x : AV} (h : (Ty.sl (.sl (.sl .int))).has x) : ∃ l : List (List (List Int)), x = iLLL l ∧ okIII l := has_list (fun _ h => has_II h) h
theorem ztrE {σ : List Blk} {b fr : Bool} {v : AV} (h : viewT σ fr v = some (.bool b)) : v = .bool b := by
  have key : ∀ {x : AV} {k : Nat}, view σ fr (k + 1) x = some (.bool b) → x = .bool b := by
    intro x k h
    cases x <;> unfold view at h
    case bool => simpa using h
    case sl =>
      dsimp only at h
      split at h
      · simp at h
      · split at h
        · split at h <;> simp at h
        · simp at h
    case ptr =>
      dsimp only at h
      split at h
      · simp at h
      · split at h
        · split at h
          · simp at h
          · split at h <;> simp at h
        · simp at h
    all_goals (try dsimp only at h)
    all_goals (try split at h) <;> simp at h
  cases v with
  | tup l => simp only [viewT] at h; split at h <;> simp at h
  | _ => exact key (k := 11) h
theorem law_of {f : Nat} {args : List AV} (h : PC f args = some (.bool true)) : ∃ σ', L f args [] = some (.bool true, σ') := by
  unfold PC PCx at h
  cases hl : L f args [] with
  | none => simp [hl] at h
  | some p =>
    obtain ⟨v, σ'⟩ := p
    simp only [hl] at h
    exact ⟨σ', by rw [ztrE h]⟩
end Ab
namespace Ab
structure Mly where
  inputs : Int
  start : Int
  next : List (List Int)
  out : List (List Int)
  deriving Inhabited
abbrev Mly.av (m : Mly) : AV := .agg [.int m.inputs, .int m.start, iLL m.next, iLL m.out]
structure Mly.fits (m : Mly) : Prop where
  inputs : inR m.inputs = true
  start : inR m.start = true
  next : okII m.next
  out : okII m.out
def Mly.rowE (m : Mly) (s : Int) : Int :=
  if ¬ ((ix m.next s).length : Int) = m.inputs ∨ ¬ ((ix m.out s).length : Int) = m.inputs then 1
  else if bad (ix m.next s) m.next.length = true ∨ bad (ix m.out s) 1048577 = true then 2 else 0
def Mly.sizeE (m : Mly) : Int :=
  if m.inputs < 1 then 2
  else if 64 < m.inputs then 2
  else if m.next = [] then 19
  else if 128 < (m.next.length : Int) then 11
  else if m.start < 0 then 2
  else if (m.next.length : Int) ≤ m.start then 2
  else if ¬ (m.out.length : Int) = m.next.length then 1
  else 0
def Mly.validE (m : Mly) : Int := if m.sizeE ≠ 0 then m.sizeE else firstN m.rowE m.next.length
structure Mly.Ok (m : Mly) : Prop where
  inputs : 1 ≤ m.inputs ∧ m.inputs ≤ 64
  states : 1 ≤ (m.next.length : Int) ∧ (m.next.length : Int) ≤ 128
  start : 0 ≤ m.start ∧ m.start < m.next.length
  len : (m.out.length : Int) = m.next.length
  row : ∀ s, 0 ≤ s → s < (m.next.length : Int) → ((ix m.next s).length : Int) = m.inputs ∧ ((ix m.out s).length : Int) = m.inputs
  nx : ∀ s a, 0 ≤ s → s < (m.next.length : Int) → 0 ≤ a → a < m.inputs → 0 ≤ ix (ix m.next s) a ∧ ix (ix m.next s) a < m.next.length
  ot : ∀ s a, 0 ≤ s → s < (m.next.length : Int) → 0 ≤ a → a < m.inputs → 0 ≤ ix (ix m.out s) a ∧ ix (ix m.out s) a ≤ 1048576
end Ab
namespace Ab
end Ab
namespace Ab
abbrev Pl := Int × List Int
def bstep (m : Mly) (p : Pl) (q : List Pl) (a : Int) : List Pl := if q.any (fun x => x.1 == ix (ix m.next p.1) a) then q else q ++ [(ix (ix m.next p.1) a, p.2 ++ [a])]
def brow (m : Mly) (p : Pl) (q : List Pl) (k : Int) : List Pl := (List.range k.toNat).foldl (fun q a => bstep m p q (a : Nat)) q
def bfs (m : Mly) : Nat → Int → List Pl → List Pl
  | 0, _, q => q
  | f + 1, i, q => if i < q.length then bfs m f (i + 1) (brow m (ix q i) q m.inputs) else q
def Mly.places (m : Mly) (s : Int) : List Pl := bfs m (m.next.length + 1) 0 [(s, [])]
theorem zVv5 : ∀ (n : Nat) {l : List Int}, l.Nodup → (∀ x ∈ l, 0 ≤ x ∧ x < (n : Int)) → l.length ≤ n
  | 0, l, _, h => by
    cases l with
    | nil => simp
    | cons x r => have := h x (by simp); omega
  | n + 1, l, hn, h => by
    have e : l.length = (l.filter fun x => decide (x < (n : Int))).length + (l.filter fun x => !decide (x < (n : Int))).length := by
      clear hn h
      induction l with
      | nil => rfl
      | cons x r ih => by_cases hx : x < (n : Int) <;> simp [hx] <;> omega
    have h1 := zVv5 n (l := l.filter fun x => decide (x < (n : Int))) (hn.filter _) (fun x hx => by
      simp only [List.mem_filter, decide_eq_true_eq] at hx
      exact ⟨(h x hx.1).1, hx.2⟩)
    have h2 : (l.filter fun x => !decide (x < (n : Int))).length ≤ 1 := by
      have hnd := hn.filter (fun x => !decide (x < (n : Int)))
      have hall : ∀ x ∈ l.filter (fun x => !decide (x < (n : Int))), x = (n : Int) := fun x hx => by
        have hx := List.mem_filter.1 hx
        have h2 : ¬ x < (n : Int) := by simpa using hx.2
        have := h x hx.1
        omega
      generalize l.filter (fun x => !decide (x < (n : Int))) = k at hnd hall
      match k, hnd, hall with
      | [], _, _ => simp
      | [_], _, _ => simp
      | x :: y :: r, hnd, hall =>
        have hx := hall x (by simp)
        have hy := hall y (by simp)
        have hm := (List.nodup_cons.1 hnd).1
        exact absurd (by rw [hx, hy]; simp) hm
    omega
structure Bq (m : Mly) (s : Int) (q : List Pl) : Prop where
  nd : (q.map (·.1)).Nodup
  rng : ∀ p ∈ q, 0 ≤ p.1 ∧ p.1 < (m.next.length : Int)
  pos : 0 < q.length
  head : ix q 0 = (s, [])
  len : ∀ j, 0 ≤ j → j < (q.length : Int) → ((ix q j).2.length : Int) ≤ j
  ne : ∀ j, 0 < j → j < (q.length : Int) → (ix q j).2 ≠ []
theorem Bq.le {m : Mly} {s : Int} {q : List Pl} (h : Bq m s q) : q.length ≤ m.next.length := by
  have := zVv5 m.next.length h.nd (fun x hx => by
    obtain ⟨p, hp, rfl⟩ := List.mem_map.1 hx
    exact h.rng p hp)
  simpa using this
theorem Bq.init {m : Mly} {s : Int} (h : 0 ≤ s ∧ s < (m.next.length : Int)) : Bq m s [(s, [])] := by
  refine ⟨by simp, by simpa using h, by simp, rfl, fun j j0 j1 => ?_, fun j j0 j1 => ?_⟩
  · simp at j1
    rw [show j = 0 by omega]; simp [ix]
  · simp at j1; omega
theorem zT8e {α : Type} [Inhabited α] {l m : List α} {j : Int} (h0 : 0 ≤ j) (h1 : j < l.length) : ix (l ++ m) j = ix l j := by
  unfold ix
  rw [List.getD_eq_getElem?_getD, List.getD_eq_getElem?_getD, List.getElem?_append_left (by omega)]
theorem zD1B {α : Type} [Inhabited α] {l : List α} {x : α} : ix (l ++ [x]) (l.length : Int) = x := by
  unfold ix
  rw [List.getD_eq_getElem?_getD, Int.toNat_natCast, List.getElem?_append_right (Nat.le_refl _)]; simp
def hasS (q : List Pl) (t : Int) : Bool := q.any fun x => x.1 == t
theorem zOV0 {q : List Pl} {t : Int} : hasS q t = true ↔ t ∈ q.map (·.1) := by
  simp [hasS]
theorem Bq.add {m : Mly} {s : Int} {q : List Pl} (h : Bq m s q) {t : Int} {w : List Int} (ht : 0 ≤ t ∧ t < (m.next.length : Int)) (hn : hasS q t = false) (hw : w ≠ []) (hl : w.length ≤ q.length) : Bq m s (q ++ [(t, w)]) := by
  have hq := h.pos
  have hn' : t ∉ q.map (·.1) := fun hm => by rw [zOV0.2 hm] at hn; simp at hn
  refine ⟨?_, fun p hp => ?_, by simp, by rw [zT8e (by omega) (by omega)]; exact h.head, fun j j0 j1 => ?_, fun j j0 j1 => ?_⟩
  · rw [List.map_append, List.nodup_append]
    refine ⟨h.nd, by simp, fun a ha b hb => ?_⟩
    simp at hb; subst hb
    exact fun e => hn' (e ▸ ha)
  · rcases List.mem_append.1 hp with hp | hp
    · exact h.rng p hp
    · simp at hp; subst hp; exact ht
  · by_cases hj : j < (q.length : Int)
    · rw [zT8e j0 hj]; exact h.len j j0 hj
    · simp at j1
      rw [show j = (q.length : Int) by omega, zD1B]
      simp; omega
  · by_cases hj : j < (q.length : Int)
    · rw [zT8e (by omega) hj]; exact h.ne j j0 hj
    · simp at j1
      rw [show j = (q.length : Int) by omega, zD1B]
      exact hw
theorem zWJS {m : Mly} {p : Pl} {q : List Pl} {a : Int} (h : hasS q (ix (ix m.next p.1) a) = true) : bstep m p q a = q := if_pos h
theorem z8XM {m : Mly} {p : Pl} {q : List Pl} {a : Int} (h : hasS q (ix (ix m.next p.1) a) = false) : bstep m p q a = q ++ [(ix (ix m.next p.1) a, p.2 ++ [a])] := if_neg (by unfold hasS at h; simp [h])
theorem Bq.step {m : Mly} (hm : m.Ok) {s : Int} {q : List Pl} (h : Bq m s q) {p : Pl} (hp : 0 ≤ p.1 ∧ p.1 < (m.next.length : Int)) (hl : p.2.length < q.length) {a : Int} (a0 : 0 ≤ a) (a1 : a < m.inputs) : Bq m s (bstep m p q a) := by
  have ht := hm.nx p.1 a hp.1 hp.2 a0 a1
  cases hh : hasS q (ix (ix m.next p.1) a) with
  | true => rw [zWJS hh]; exact h
  | false => rw [z8XM hh]; exact h.add ht hh (by simp) (by simp; omega)
end Ab
namespace Ab
abbrev Mly.at (m : Mly) (s : Int) : Mly := ⟨m.inputs, s, m.next, m.out⟩
abbrev pW (p : Pl) : AV := wB (true, p.2)
def pc (q : List Pl) : List AV := q.flatMap fun p => [.int p.1, pW p]
theorem zf2p {α : Type} [Inhabited α] {l : List α} {n : Nat} {i : Int} {x : α} (h0 : 0 ≤ i) (h1 : i < l.length) : ix (l.set n x) i = if i = n then x else ix l i := by
  unfold ix
  rw [List.getD_eq_getElem?_getD, List.getD_eq_getElem?_getD, List.getElem?_set]
  by_cases e : i = n
  · rw [if_pos (by omega), if_pos (by omega), if_pos e]; rfl
  · rw [if_neg (by omega), if_neg e]
structure Sn (N : Nat) (b : List Bool) (q : List Pl) : Prop where
  len : b.length = N
  ok : ∀ t, 0 ≤ t → t < (N : Int) → ix b t = hasS q t
theorem Sn.add {N : Nat} {b : List Bool} {q : List Pl} (h : Sn N b q) {t : Int} {w : List Int} (t0 : 0 ≤ t) (t1 : t < N) : Sn N (b.set t.toNat true) (q ++ [(t, w)]) := by
  refine ⟨by simp [h.len], fun u u0 u1 => ?_⟩
  rw [zf2p u0 (by have := h.len; omega)]
  by_cases e : u = (t.toNat : Int)
  · rw [if_pos e]; simp [hasS]; right; omega
  · rw [if_neg e, h.ok u u0 u1]
    simp [hasS]
    omega
def Mly.way (m : Mly) (s t : Int) : List Int × Bool × Int := match (m.places s).find? fun p => p.1 == t with
  | some p => (p.2, true, 0)
  | none => ([], false, 0)
def Mly.path (m : Mly) (s t : Int) : List Int × Bool × Int :=
  if m.validE ≠ 0 then ([], false, m.validE)
  else if s < 0 ∨ (m.next.length : Int) ≤ s ∨ t < 0 ∨ (m.next.length : Int) ≤ t then ([], false, 2)
  else m.way s t
end Ab
namespace Ab
def cI (x y : Int) : Int := if x < y then -1 else if y < x then 1 else 0
theorem zeUC (x : Int) : PC zPpc [.int x] = some (.bool false) := by
  refine zx72 (zXA2 rfl ?_)
  simp
theorem zZEX (x y : Int) : PC zb3m [.int x, .int y] = some (.int (cI x y)) := by
  refine zx72 (zWPT rfl ?_)
  simp [zeUC]
  refine ⟨fun h => by simp [cI, h], fun h => ⟨fun k => ?_, fun k => ?_⟩⟩
  · simp [cI, k]; omega
  · simp [cI]; omega
theorem or_s (x y : Int) : PC zVj2 [.imm false [.int x, .int y]] = some (.int (if x = 0 then y else x)) := by
  refine zx72 (zB37 rfl ?_)
  have e : (.imm false [.int x, .int y] : AV) = iL [x, y] := rfl
  rw [e]
  simp only [iL]
  generalize hl : [x, y] = l
  have hlen : l.length = 2 := by rw [← hl]; rfl
  simp [hlen]
  refine zv8C (fun i : Int => [(1, .int i)]) (fun _ => []) (fun i => 0 ≤ i ∧ i ≤ 2 ∧ ∀ j, 0 ≤ j → j < i → ix l j = 0) (fun i => (2 - i).toNat) 0 rfl ⟨by omega, by omega, zguy⟩ fun i ⟨i0, i1, i2⟩ => ?_
  have e0 : ix l 0 = x := by rw [← hl]; rfl
  have e1 : ix l 1 = y := by rw [← hl]; rfl
  by_cases hi : i < 2
  · simp [-zJRc, hi, i0, hlen]
    refine ⟨fun h => ⟨by omega, zGkM (i + 1) rfl rfl ⟨by omega, by omega, zvtS h i2⟩ (by omega)⟩, fun h => ?_⟩
    by_cases e : i = 0
    · subst e; rw [e0] at h ⊢; simp [h]
    · have : i = 1 := by omega
      subst this
      have := i2 0 (by omega) (by omega)
      rw [e0] at this
      rw [e1]; simp [this]
  · have h0 := i2 0 (by omega) (by omega)
    have h1 := i2 1 (by omega) (by omega)
    rw [e0] at h0; rw [e1] at h1
    simp [hi, h0, h1]
theorem z6Gt {a b : List Int} {i : Int} (h0 : 0 ≤ i) (h1 : i < a.length) (h2 : i < b.length) : lexC (a.drop i.toNat) (b.drop i.toNat) = if cI (ix a i) (ix b i) = 0 then lexC (a.drop (i + 1).toNat) (b.drop (i + 1).toNat) else cI (ix a i) (ix b i) := by
  rw [zN4X h0 h1, zN4X h0 h2]
  unfold cI
  simp only [lexC]
  split
  · simp
  · split <;> simp
theorem zc8o (a b : List Int) (ha : (a.length : Int) ≤ 9223372036854775807) (hb : (b.length : Int) ≤ 9223372036854775807) : PC z5pu [iL a, iL b] = some (.int (lexC a b)) := by
  refine zx72 (zT2p rfl ?_)
  simp
  refine zv8C (fun i : Int => [(2, .int i)]) (fun _ => []) (fun i => 0 ≤ i ∧ i ≤ a.length ∧ i ≤ b.length ∧ lexC (a.drop i.toNat) (b.drop i.toNat) = lexC a b) (fun i => (a.length - i).toNat) 0 rfl ⟨by omega, by omega, by omega, rfl⟩ fun i ⟨i0, i1, i2, i3⟩ => ?_
  by_cases hi : i < a.length
  · by_cases hj : i < b.length
    · have e := z6Gt i0 hi hj
      rw [i3] at e
      simp [-zJRc, hi, hj, i0, zZEX, show ¬ (b.length : Int) ≤ i by omega]
      refine ⟨fun h => ⟨by omega, zGkM (i + 1) rfl rfl ⟨by omega, by omega, by omega, by rw [if_pos h] at e; exact e.symm⟩ (by omega)⟩, fun h => by rw [if_neg h] at e; exact e.symm⟩
    · have e : b.drop i.toNat = [] := zdV2 (by omega)
      rw [e, zN4X i0 hi] at i3
      have i3 : (1 : Int) = lexC a b := i3
      simp [-zJRc, hi, hj, i0, show (b.length : Int) ≤ i by omega]
      exact i3
  · have e : a.drop i.toNat = [] := zdV2 (by omega)
    rw [e] at i3
    simp [hi]
    by_cases hj : i < b.length
    · rw [zN4X i0 hj] at i3
      have i3 : (-1 : Int) = lexC a b := i3
      exact ⟨fun _ => i3, fun h => by omega⟩
    · rw [zdV2 (by omega)] at i3
      have i3 : (0 : Int) = lexC a b := i3
      exact ⟨fun h => by omega, fun _ => i3⟩
theorem zXl5 (a b : List Int) (ha : (a.length : Int) ≤ 9223372036854775807) (hb : (b.length : Int) ≤ 9223372036854775807) : PC zGKM [iL a, iL b] = some (.int (slxC a b)) := by
  refine zx72 (zHXr rfl ?_)
  simp [zZEX, zc8o a b ha hb, or_s]
  unfold slxC cI
  (repeat' split) <;> first | rfl | omega
abbrev Cmp := List Int → List Int → Int
section
variable {K : Cmp}
end
structure CmpF (f : Nat) (K : Cmp) : Prop where
  ok : KOk K
  run : ∀ a b : List Int, (a.length : Int) ≤ 1000000 → (b.length : Int) ≤ 1000000 → PC f [iL a, iL b] = some (.int (K a b))
  one : K = slxC ∨ K = lexC
section
variable {K : Cmp}
theorem zEsX (w : List Int) (h : (w.length : Int) ≤ 1000000) : PC zUHS [iL w] = some (iL w) := by
  have e : pClone1 (cN G Q 0) [iL w] = some (iL w) := by
    simp only [pClone1, iL]
    rw [if_pos]
    simp [isScalar]
    try omega
  have := zHFW e
  unfold PC PCx
  rw [this]
  rfl
end
section
variable {f : Nat} {K : Cmp} (hF : CmpF f K)
include hF
end
end Ab
namespace Ab
def rkW : List Int → Nat
  | [] => 0
  | x :: w => (x.toNat + 1) * 65 ^ w.length + rkW w
def sy (w : List Int) : Prop := ∀ x ∈ w, 0 ≤ x ∧ x < 64
theorem z62S {x : Int} {w : List Int} : sy (x :: w) ↔ (0 ≤ x ∧ x < 64) ∧ sy w := by simp [sy]
theorem z0tu {u v : List Int} : sy (u ++ v) ↔ sy u ∧ sy v := by
  simp only [sy, List.mem_append]
  exact ⟨fun h => ⟨fun x hx => h x (.inl hx), fun x hx => h x (.inr hx)⟩, fun h x hx => hx.elim (h.1 x) (h.2 x)⟩
theorem rk_lt : ∀ {w : List Int}, sy w → rkW w < 65 ^ w.length
  | [], _ => by simp [rkW]
  | x :: w, h => by
    obtain ⟨h1, h2⟩ := z62S.1 h
    have ih := rk_lt h2
    have hx : x.toNat + 1 ≤ 64 := by omega
    have : (x.toNat + 1) * 65 ^ w.length ≤ 64 * 65 ^ w.length := Nat.mul_le_mul_right _ hx
    rw [List.length_cons, Nat.pow_succ, rkW]
    omega
theorem rk_ge {x : Int} {w : List Int} : 65 ^ w.length ≤ rkW (x :: w) := by
  rw [rkW]
  have : 1 * 65 ^ w.length ≤ (x.toNat + 1) * 65 ^ w.length := Nat.mul_le_mul_right _ (by omega)
  omega
theorem zeLi {u v : List Int} (hu : sy u) (h : u.length < v.length) : rkW u < rkW v := by
  cases v with
  | nil => simp at h
  | cons y v =>
    have h1 := rk_lt hu
    have h2 := rk_ge (x := y) (w := v)
    have h3 : 65 ^ u.length ≤ 65 ^ v.length := Nat.pow_le_pow_right (by omega) (by simpa using Nat.le_of_lt_succ h)
    omega
theorem zNEy {u v : List Int} (hv : sy v) (h : rkW u ≤ rkW v) : u.length ≤ v.length := by
  refine Classical.byContradiction fun hc => ?_
  have := zeLi hv (show v.length < u.length by omega)
  omega
theorem zkcb : ∀ {u v : List Int}, sy u → sy v → u.length = v.length → lexC u v < 0 → rkW u < rkW v
  | [], [], _, _, _, h => by simp [lexC] at h
  | [], _ :: _, _, _, h, _ => by simp at h
  | _ :: _, [], _, _, h, _ => by simp at h
  | x :: u, y :: v, hu, hv, hl, h => by
    obtain ⟨h1, h2⟩ := z62S.1 hu
    obtain ⟨h3, h4⟩ := z62S.1 hv
    have hl' : u.length = v.length := by simpa using hl
    unfold lexC at h
    rw [rkW, rkW]
    split at h
    · rename_i hxy
      have a := rk_lt h2
      rw [hl'] at a ⊢
      have : (x.toNat + 1 + 1) * 65 ^ v.length ≤ (y.toNat + 1) * 65 ^ v.length := Nat.mul_le_mul_right _ (by omega)
      rw [Nat.add_mul (x.toNat + 1)] at this
      omega
    · split at h
      · omega
      · rename_i a b
        have e : x = y := by omega
        subst e
        have := zkcb h2 h4 hl' h
        rw [hl']
        omega
theorem zTYO {u v : List Int} (hu : sy u) (hv : sy v) (h : slxC u v < 0) : rkW u < rkW v := by
  unfold slxC at h
  split at h
  · exact zeLi hu (by assumption)
  · split at h
    · omega
    · exact zkcb hu hv (by omega) h
theorem z7J5 {u v : List Int} (hu : sy u) (hv : sy v) : slxC u v ≤ 0 ↔ rkW u ≤ rkW v := by
  constructor
  · intro h
    by_cases e : slxC u v = 0
    · rw [zvz8.eq _ _ e]; exact Nat.le_refl _
    · exact Nat.le_of_lt (zTYO hu hv (by omega))
  · intro h
    refine Classical.byContradiction fun hc => ?_
    have := zvz8.anti u v
    have := zTYO hv hu (by omega)
    omega
theorem z6FH {u v : List Int} (hu : sy u) (hv : sy v) (h : rkW u = rkW v) : u = v := by
  refine zvz8.eq u v ?_
  have h1 := (z7J5 hu hv).2 (by omega)
  have h2 := (z7J5 hv hu).2 (by omega)
  have := zvz8.anti u v
  omega
theorem zEIv : ∀ {u v : List Int}, rkW (u ++ v) = rkW u * 65 ^ v.length + rkW v
  | [], v => by simp [rkW]
  | x :: u, v => by
    rw [List.cons_append, rkW, rkW, zEIv, List.length_append, Nat.pow_add, Nat.add_mul ((x.toNat + 1) * 65 ^ u.length), Nat.mul_assoc, Nat.add_assoc]
theorem zbv9 {u u' v v' : List Int} (hv : sy v') (h1 : rkW u ≤ rkW u') (h2 : rkW v ≤ rkW v') : rkW (u ++ v) ≤ rkW (u' ++ v') := by
  rw [zEIv, zEIv]
  have h3 := zNEy hv h2
  have h4 : 65 ^ v.length ≤ 65 ^ v'.length := Nat.pow_le_pow_right (by omega) h3
  have := Nat.mul_le_mul h1 h4
  omega
theorem zwrz {x : Int} {v v' : List Int} (hv : sy v') (h2 : rkW v ≤ rkW v') : rkW (x :: v) ≤ rkW (x :: v') := zbv9 (u := [x]) (u' := [x]) hv (Nat.le_refl _) h2
def fstW (P : List Int → Prop) (w : List Int) : Prop := (P w ∧ w.length ≤ 1024) ∧ ∀ v, P v → rkW w ≤ rkW v
theorem z1Hh {P : List Int → Prop} (hP : ∀ w, P w → sy w) : ∀ {w : List Int}, P w → w.length ≤ 1024 → ∃ v, fstW P v := by
  have : ∀ (n : Nat) (w : List Int), rkW w ≤ n → P w → ∃ v, P v ∧ rkW v ≤ rkW w ∧ ∀ u, P u → rkW v ≤ rkW u := by
    intro n
    induction n with
    | zero => exact fun w h hw => ⟨w, hw, Nat.le_refl _, fun u _ => by omega⟩
    | succ n ih =>
      intro w h hw
      by_cases hx : ∃ u, P u ∧ rkW u < rkW w
      · obtain ⟨u, h1, h2⟩ := hx
        obtain ⟨v, v1, v2, v3⟩ := ih u (by omega) h1
        exact ⟨v, v1, by omega, v3⟩
      · exact ⟨w, hw, Nat.le_refl _, fun u hu => by
          refine Classical.byContradiction fun hc => hx ⟨u, hu, by omega⟩⟩
  intro w hw hl
  obtain ⟨v, v1, v2, v3⟩ := this _ w (Nat.le_refl _) hw
  exact ⟨v, ⟨v1, by have := zNEy (hP w hw) v2; omega⟩, v3⟩
theorem zCxC {P : List Int → Prop} (hP : ∀ w, P w → sy w) {u v : List Int} (h : fstW P u) (k : fstW P v) : u = v := by
  refine z6FH (hP u h.1.1) (hP v k.1.1) ?_
  have := h.2 v k.1.1
  have := k.2 u h.1.1
  omega
open Classical in
noncomputable def fstO (P : List Int → Prop) : Option (List Int) := if h : ∃ w, fstW P w then some (choose h) else none
theorem zDGF {P : List Int → Prop} {w : List Int} (h : fstO P = some w) : fstW P w := by
  unfold fstO at h
  split at h
  · rename_i hx
    injection h with h
    rw [← h]; exact Classical.choose_spec hx
  · simp at h
theorem zgy3 {P : List Int → Prop} (hP : ∀ w, P w → sy w) {w : List Int} (h : fstW P w) : fstO P = some w := by
  unfold fstO
  rw [dif_pos ⟨w, h⟩]
  exact congrArg some (zCxC hP (Classical.choose_spec (⟨w, h⟩ : ∃ w, fstW P w)) h)
structure Mch.Sm (M : Mch) : Prop where
  ok : M.Ok
  sum : M.calls + M.inns + M.rets ≤ 64
theorem Wd.sy {M : Mch} (hM : M.Sm) {s t : Int} {w : List Int} (h : Wd M s t w) : Ab.sy w := fun x hx => by
  have := (h.run ⟨hM.ok.calls.1, hM.ok.inns.1, hM.ok.rets.1⟩).1 x hx
  have := hM.sum
  omega
theorem Wd.range {M : Mch} (hM : M.Ok) {s t : Int} {w : List Int} (h : Wd M s t w) (hs : 0 ≤ s ∧ s < (M.size : Int)) : 0 ≤ t ∧ t < (M.size : Int) := h.conn.range hM hs
noncomputable def Mch.lk (M : Mch) (s t : Int) : Option (List Int) := fstO (Wd M s t)
inductive Stp (M : Mch) : Int → Int → List Int → Prop
  | inn (s i : Int) : 0 ≤ i → i < M.inns → Stp M s (M.inner s i) [M.calls + i]
  | call (s c p r : Int) (u : List Int) : 0 ≤ c → c < M.calls → 0 ≤ r → r < M.rets → Wd M (M.call s c).1 p u → Stp M s (M.pop p (M.call s c).2 r) (c :: (u ++ [M.calls + M.inns + r]))
theorem Stp.wd {M : Mch} {s t : Int} {w : List Int} (h : Stp M s t w) : Wd M s t w := by
  cases h with
  | inn i h0 h1 => exact .inn s i _ [] h0 h1 (.nil _)
  | call c p r u h0 h1 h2 h3 h4 => exact .call s c p r _ u [] h0 h1 h2 h3 h4 (.nil _)
theorem Stp.pos {M : Mch} {s t : Int} {w : List Int} (h : Stp M s t w) : 1 ≤ w.length := by
  cases h <;> simp
theorem Stp.then {M : Mch} {s p t : Int} {a b : List Int} (h : Stp M s p a) (k : Wd M p t b) : Wd M s t (a ++ b) := h.wd.app k
theorem zFCa {M : Mch} {s t : Int} {w : List Int} (h : Wd M s t w) : (s = t ∧ w = []) ∨ ∃ p a b, w = a ++ b ∧ Stp M s p a ∧ Wd M p t b := by
  cases h with
  | nil s => exact .inl ⟨rfl, rfl⟩
  | inn s i t w h0 h1 h2 => exact .inr ⟨_, [M.calls + i], w, rfl, .inn s i h0 h1, h2⟩
  | call s c p r t u v h0 h1 h2 h3 h4 h5 => exact .inr ⟨_, c :: (u ++ [M.calls + M.inns + r]), v, by simp, .call s c p r u h0 h1 h2 h3 h4, h5⟩
noncomputable def Mch.sk (M : Mch) (s t : Int) : Option (List Int) := fstO (Stp M s t)
section
variable {M : Mch} {s t : Int} {w : List Int}
theorem zvJ0 (hM : M.Sm) : M.lk s t = some w ↔ fstW (Wd M s t) w := ⟨zDGF, zgy3 fun w h => h.sy hM⟩
theorem zWgz (hM : M.Sm) : M.sk s t = some w ↔ fstW (Stp M s t) w := ⟨zDGF, zgy3 fun w h => h.wd.sy hM⟩
theorem lk_le (hM : M.Sm) (h : Wd M s t w) (hl : w.length ≤ 1024) : ∃ v, M.lk s t = some v ∧ rkW v ≤ rkW w ∧ v.length ≤ w.length := by
  obtain ⟨v, hv⟩ := z1Hh (fun w h => Wd.sy hM h) h hl
  exact ⟨v, (zvJ0 hM).2 hv, hv.2 w h, zNEy (h.sy hM) (hv.2 w h)⟩
theorem sk_le (hM : M.Sm) (h : Stp M s t w) (hl : w.length ≤ 1024) : ∃ v, M.sk s t = some v ∧ rkW v ≤ rkW w ∧ v.length ≤ w.length := by
  obtain ⟨v, hv⟩ := z1Hh (fun w h => (Stp.wd h).sy hM) h hl
  exact ⟨v, (zWgz hM).2 hv, hv.2 w h, zNEy (h.wd.sy hM) (hv.2 w h)⟩
end
end Ab
namespace Ab
abbrev TO := Int → Int → Option (List Int)
inductive Cnd (M : Mch) (T : TO) (s t : Int) : List Int → Prop
  | inn (i : Int) (x : List Int) : 0 ≤ i → i < M.inns → T (M.inner s i) t = some x → Cnd M T s t ((M.calls + i) :: x)
  | call (c p r : Int) (x y : List Int) : 0 ≤ c → c < M.calls → 0 ≤ p → p < (M.size : Int) → 0 ≤ r → r < M.rets → T (M.call s c).1 p = some x → T (M.pop p (M.call s c).2 r) t = some y → Cnd M T s t (c :: (x ++ (M.calls + M.inns + r) :: y))
def inS (M : Mch) (s : Int) : Prop := 0 ≤ s ∧ s < (M.size : Int)
def TOk (M : Mch) (T : TO) : Prop := ∀ s t w, inS M s → inS M t → T s t = some w → Wd M s t w ∧ w.length ≤ 1024
theorem Cnd.wd {M : Mch} (hM : M.Ok) {T : TO} (hT : TOk M T) {s t : Int} {w : List Int} (hs : inS M s) (ht : inS M t) (h : Cnd M T s t w) : Wd M s t w := by
  cases h with
  | inn i x h0 h1 h2 => exact .inn s i t x h0 h1 (hT _ _ _ (hM.inner s i hs.1 hs.2 h0 h1) ht h2).1
  | call c p r x y c0 c1 p0 p1 r0 r1 h1 h2 =>
    have hc := hM.call s c hs.1 hs.2 c0 c1
    have hp := hM.pop s c p r hs.1 hs.2 c0 c1 p0 p1 r0 r1
    exact .call s c p r t x y c0 c1 r0 r1 (hT _ _ _ hc ⟨p0, p1⟩ h1).1 (hT _ _ _ hp ht h2).1
theorem z0G9 {M : Mch} (hM : M.Sm) {T : TO} (hT : TOk M T) (rf : ∀ s, inS M s → T s s = some []) (fx : ∀ s t, inS M s → inS M t → ∀ c, Cnd M T s t c → c.length ≤ 1024 → ∃ x, T s t = some x ∧ rkW x ≤ rkW c) : ∀ s t, inS M s → inS M t → T s t = M.lk s t := by
  have key : ∀ s t w, Wd M s t w → inS M s → w.length ≤ 1024 → ∃ x, T s t = some x ∧ rkW x ≤ rkW w := by
    intro s t w h
    induction h with
    | nil s => exact fun hs _ => ⟨[], rf s hs, Nat.le_refl _⟩
    | inn s i t w h0 h1 h2 ih =>
      intro hs hl
      have hi := hM.ok.inner s i hs.1 hs.2 h0 h1
      have ht : inS M t := h2.range hM.ok hi
      obtain ⟨x, hx, hr⟩ := ih hi (by simp at hl; omega)
      have hr' := zwrz (x := M.calls + i) (h2.sy hM) hr
      have hsy : sy ((M.calls + i) :: w) := (Wd.inn s i t w h0 h1 h2).sy hM
      obtain ⟨y, hy, hr2⟩ := fx s t hs ht _ (.inn i x h0 h1 hx) (by have := zNEy hsy hr'; omega)
      exact ⟨y, hy, by omega⟩
    | call s c p r t u v c0 c1 r0 r1 h1 h2 ih1 ih2 =>
      intro hs hl
      have hc := hM.ok.call s c hs.1 hs.2 c0 c1
      have hp : inS M p := h1.range hM.ok hc
      have hq := hM.ok.pop s c p r hs.1 hs.2 c0 c1 hp.1 hp.2 r0 r1
      have ht : inS M t := h2.range hM.ok hq
      simp at hl
      obtain ⟨x, hx, hr1⟩ := ih1 hc (by omega)
      obtain ⟨y, hy, hr2⟩ := ih2 hq (by omega)
      have hsy : sy (c :: (u ++ (M.calls + M.inns + r) :: v)) := (Wd.call s c p r t u v c0 c1 r0 r1 h1 h2).sy hM
      have hs2 := (z62S.1 hsy).2
      have hr' : rkW (c :: (x ++ (M.calls + M.inns + r) :: y)) ≤ rkW (c :: (u ++ (M.calls + M.inns + r) :: v)) := zwrz hs2 (zbv9 (z0tu.1 hs2).2 hr1 (zwrz (h2.sy hM) hr2))
      obtain ⟨z, hz, hr3⟩ := fx s t hs ht _ (.call c p r x y c0 c1 hp.1 hp.2 r0 r1 hx hy) (by have := zNEy hsy hr'; simp at this ⊢; omega)
      exact ⟨z, hz, by omega⟩
  intro s t hs ht
  cases h : T s t with
  | some x =>
    obtain ⟨h1, h2⟩ := hT s t x hs ht h
    refine ((zvJ0 hM).2 ⟨⟨h1, h2⟩, fun v hv => ?_⟩).symm
    by_cases hl : v.length ≤ 1024
    · obtain ⟨y, hy, hr⟩ := key s t v hv hs hl
      rw [h] at hy
      injection hy with hy
      rw [hy]; exact hr
    · exact Nat.le_of_lt (zeLi (h1.sy hM) (by omega))
  | none =>
    cases h2 : M.lk s t with
    | none => rfl
    | some w =>
      have := (zvJ0 hM).1 h2
      obtain ⟨y, hy, _⟩ := key s t w this.1.1 hs this.1.2
      rw [h] at hy; simp at hy
def btr (l : Option (List Int)) (w : List Int) : Option (List Int) := if 1024 < w.length then l else match l with
  | none => some w
  | some x => if slxC x w ≤ 0 then some x else some w
theorem zmbV {l : Option (List Int)} {w x : List Int} (h : btr l w = some x) : l = some x ∨ (x = w ∧ x.length ≤ 1024) := by
  unfold btr at h
  split at h
  · exact .inl h
  · split at h
    · injection h with h; exact .inr ⟨h.symm, by rw [← h]; omega⟩
    · split at h
      · exact .inl h
      · injection h with h; exact .inr ⟨h.symm, by rw [← h]; omega⟩
theorem zvKs {l : Option (List Int)} {w x : List Int} (hx : sy x) (hw : sy w) (h : l = some x) : ∃ y, btr l w = some y ∧ rkW y ≤ rkW x := by
  subst h
  unfold btr
  split
  · exact ⟨x, rfl, Nat.le_refl _⟩
  · dsimp only
    split
    · exact ⟨x, rfl, Nat.le_refl _⟩
    · rename_i hc
      rw [z7J5 hx hw] at hc
      exact ⟨w, rfl, by omega⟩
theorem zo6B {l : Option (List Int)} {w : List Int} (hl : ∀ x, l = some x → sy x) (hw : sy w) (h : w.length ≤ 1024) : ∃ y, btr l w = some y ∧ rkW y ≤ rkW w := by
  unfold btr
  rw [if_neg (by omega)]
  cases l with
  | none => exact ⟨w, rfl, Nat.le_refl _⟩
  | some x =>
    dsimp only
    split
    · rename_i hc
      exact ⟨x, rfl, (z7J5 (hl x rfl) hw).1 hc⟩
    · exact ⟨w, rfl, Nat.le_refl _⟩
def btrs (l : Option (List Int)) (ws : List (List Int)) : Option (List Int) := ws.foldl btr l
theorem zHPQ {l : Option (List Int)} {ws : List (List Int)} {w : List Int} : btrs l (ws ++ [w]) = btr (btrs l ws) w := by simp [btrs]
theorem zqUQ {x : List Int} : ∀ {ws : List (List Int)} {l : Option (List Int)}, btrs l ws = some x → l = some x ∨ (x ∈ ws ∧ x.length ≤ 1024)
  | [], _, h => .inl h
  | w :: ws, l, h => by
    rcases zqUQ (ws := ws) (l := btr l w) h with h | ⟨h1, h2⟩
    · rcases zmbV h with h | ⟨rfl, h2⟩
      · exact .inl h
      · exact .inr ⟨by simp, h2⟩
    · exact .inr ⟨by simp [h1], h2⟩
theorem zApf : ∀ {ws : List (List Int)} {l : Option (List Int)} {x : List Int}, sy x → (∀ w ∈ ws, sy w) → l = some x → ∃ y, btrs l ws = some y ∧ rkW y ≤ rkW x
  | [], _, x, _, _, h => ⟨x, h, Nat.le_refl _⟩
  | w :: ws, l, x, hx, hw, h => by
    obtain ⟨y, hy, hr⟩ := zvKs hx (hw w (by simp)) h
    have hsy : sy y := by
      rcases zmbV hy with h' | ⟨rfl, _⟩
      · rw [h] at h'; injection h' with h'; rw [← h']; exact hx
      · exact hw _ (by simp)
    obtain ⟨z, hz, hr2⟩ := zApf (ws := ws) hsy (fun v hv => hw v (by simp [hv])) hy
    exact ⟨z, hz, by omega⟩
theorem zGFr : ∀ {ws : List (List Int)} {l : Option (List Int)} {w : List Int}, (∀ x, l = some x → sy x) → (∀ w ∈ ws, sy w) → w ∈ ws → w.length ≤ 1024 → ∃ y, btrs l ws = some y ∧ rkW y ≤ rkW w
  | v :: ws, l, w, hl, hw, hm, h => by
    have hl2 : ∀ x, btr l v = some x → sy x := fun x hx => by
      rcases zmbV hx with h' | ⟨rfl, _⟩
      · exact hl x h'
      · exact hw _ (by simp)
    rcases List.mem_cons.1 hm with rfl | hm
    · obtain ⟨y, hy, hr⟩ := zo6B hl (hw w (by simp)) h
      obtain ⟨z, hz, hr2⟩ := zApf (ws := ws) (hl2 y hy) (fun v hv => hw v (by simp [hv])) hy
      exact ⟨z, hz, by omega⟩
    · exact zGFr (ws := ws) hl2 (fun v hv => hw v (by simp [hv])) hm h
end Ab
namespace Ab
abbrev PR := Int × Int
structure Bs where
  W : TO
  D : Int → Int → Bool
  R : Nat → List PR
def updW (W : TO) (s t : Int) (w : List Int) : TO := fun u v => if u = s ∧ v = t then some w else W u v
def updR (R : Nat → List PR) (n : Nat) (p : PR) : Nat → List PR := fun k => if k = n then R k ++ [p] else R k
def updD (D : Int → Int → Bool) (s t : Int) : Int → Int → Bool := fun u v => if u = s ∧ v = t then true else D u v
def Bs.off (b : Bs) (s t : Int) (x : List Int) : Bs :=
  if 1024 < x.length ∨ b.D s t = true then b else match b.W s t with
  | none => ⟨updW b.W s t x, b.D, updR b.R x.length (s, t)⟩
  | some o => if o.length < x.length then b else if slxC o x ≤ 0 then b else ⟨updW b.W s t x, b.D, if x.length < o.length then updR b.R x.length (s, t) else b.R⟩
structure Bst (M : Mch) (P : Int → Int → List Int → Prop) (n : Nat) (b : Bs) : Prop where
  snd : ∀ s t w, inS M s → inS M t → b.W s t = some w → P s t w ∧ w.length ≤ 1024
  dn : ∀ s t, inS M s → inS M t → (b.D s t = true ↔ ∃ w, fstO (P s t) = some w ∧ w.length < n)
  wd : ∀ s t, inS M s → inS M t → b.D s t = true → b.W s t = fstO (P s t)
  ge : ∀ s t w, inS M s → inS M t → b.W s t = some w → b.D s t = false → n ≤ w.length
  rdy : ∀ s t w, inS M s → inS M t → b.W s t = some w → b.D s t = false → (s, t) ∈ b.R w.length
  low : ∀ s t k, (s, t) ∈ b.R k → (inS M s ∧ inS M t) ∧ ∃ w, b.W s t = some w ∧ w.length ≤ k
  nd : ∀ k, (b.R k).Nodup
def Ofd (b : Bs) (s t : Int) (x : List Int) : Prop := 1024 < x.length ∨ b.D s t = true ∨ ∃ w, b.W s t = some w ∧ rkW w ≤ rkW x
structure Bsl (M : Mch) (b c : Bs) : Prop where
  D : ∀ s t, b.D s t = true → c.D s t = true
  W : ∀ s t w, inS M s → inS M t → b.W s t = some w → ∃ v, c.W s t = some v ∧ rkW v ≤ rkW w
theorem Bsl.refl {M : Mch} (b : Bs) : Bsl M b b := ⟨fun _ _ h => h, fun _ _ w _ _ h => ⟨w, h, Nat.le_refl _⟩⟩
theorem Bsl.trans {M : Mch} {a b c : Bs} (h : Bsl M a b) (k : Bsl M b c) : Bsl M a c := ⟨fun s t e => k.D s t (h.D s t e), fun s t w hs ht e => by
  obtain ⟨v, h1, h2⟩ := h.W s t w hs ht e
  obtain ⟨u, h3, h4⟩ := k.W s t v hs ht h1
  exact ⟨u, h3, by omega⟩⟩
theorem Ofd.mono {M : Mch} {b c : Bs} (h : Bsl M b c) {s t : Int} {x : List Int} (hs : inS M s) (ht : inS M t) (k : Ofd b s t x) : Ofd c s t x := by
  rcases k with k | k | ⟨w, k1, k2⟩
  · exact .inl k
  · exact .inr (.inl (h.D s t k))
  · obtain ⟨v, h1, h2⟩ := h.W s t w hs ht k1
    exact .inr (.inr ⟨v, h1, by omega⟩)
section
variable {M : Mch} {P : Int → Int → List Int → Prop} {n : Nat} {b : Bs}
theorem Bst.off (hP : ∀ s t w, P s t w → sy w) (h : Bst M P n b) {s t : Int} {x : List Int} (hs : inS M s) (ht : inS M t) (hx : P s t x) (hn : n ≤ x.length) : Bst M P n (b.off s t x) ∧ Bsl M b (b.off s t x) ∧ Ofd (b.off s t x) s t x := by
  have hsx := hP s t x hx
  unfold Bs.off
  split
  · rename_i hc
    exact ⟨h, .refl _, by rcases hc with hc | hc; exact .inl hc; exact .inr (.inl hc)⟩
  · rename_i hc
    have hl : x.length ≤ 1024 := by omega
    have hD : b.D s t = false := by
      cases e : b.D s t with
      | false => rfl
      | true => exact absurd (.inr e) hc
    -- a better word is put in
    have put : ∀ R : Nat → List PR, (∀ k p, p ∈ b.R k → p ∈ R k) → (∀ k p, p ∈ R k → p ∈ b.R k ∨ (k = x.length ∧ p = (s, t))) → (s, t) ∈ R x.length → (∀ w, b.W s t = some w → rkW x ≤ rkW w ∧ x.length ≤ w.length) → (∀ k, (R k).Nodup) → Bst M P n ⟨updW b.W s t x, b.D, R⟩ ∧ Bsl M b ⟨updW b.W s t x, b.D, R⟩ ∧ Ofd ⟨updW b.W s t x, b.D, R⟩ s t x := by
      intro R h1 h2 h3 h4 h5
      refine ⟨⟨fun u v w hu hv e => ?_, h.dn, fun u v hu hv e => ?_, fun u v w hu hv e e2 => ?_, fun u v w hu hv e e2 => ?_, fun u v k e => ?_, h5⟩, ⟨fun _ _ e => e, fun u v w hu hv e => ?_⟩, ?_⟩
      · dsimp only [updW] at e
        by_cases huv : u = s ∧ v = t
        · rw [if_pos huv] at e; injection e with e; rw [huv.1, huv.2, ← e]; exact ⟨hx, hl⟩
        · rw [if_neg huv] at e; exact h.snd u v w hu hv e
      · dsimp only [updW] at e ⊢
        by_cases huv : u = s ∧ v = t
        · rw [huv.1, huv.2, hD] at e; simp at e
        · rw [if_neg huv]; exact h.wd u v hu hv e
      · dsimp only [updW] at e e2
        by_cases huv : u = s ∧ v = t
        · rw [if_pos huv] at e; injection e with e; rw [← e]; exact hn
        · rw [if_neg huv] at e; exact h.ge u v w hu hv e e2
      · dsimp only [updW] at e e2 ⊢
        by_cases huv : u = s ∧ v = t
        · rw [if_pos huv] at e; injection e with e; rw [huv.1, huv.2, ← e]; exact h3
        · rw [if_neg huv] at e; exact h1 _ _ (h.rdy u v w hu hv e e2)
      · dsimp only [updW] at e ⊢
        by_cases huv : u = s ∧ v = t
        · obtain ⟨rfl, rfl⟩ := huv
          refine ⟨⟨hs, ht⟩, x, if_pos ⟨rfl, rfl⟩, ?_⟩
          rcases h2 _ _ e with e | ⟨rfl, _⟩
          · obtain ⟨_, w, h7, h6⟩ := h.low _ _ k e
            have := (h4 w h7).2
            omega
          · exact Nat.le_refl _
        · rw [if_neg huv]
          rcases h2 _ _ e with e | ⟨rfl, e4⟩
          · exact h.low u v k e
          · injection e4 with e1 e2; exact absurd ⟨e1, e2⟩ huv
      · dsimp only [updW]
        by_cases huv : u = s ∧ v = t
        · rw [if_pos huv]; rw [huv.1, huv.2] at e; exact ⟨x, rfl, (h4 w e).1⟩
        · rw [if_neg huv]; exact ⟨w, e, Nat.le_refl _⟩
      · exact .inr (.inr ⟨x, if_pos ⟨rfl, rfl⟩, Nat.le_refl _⟩)
    have inR1 : ∀ k p, p ∈ b.R k → p ∈ updR b.R x.length (s, t) k := fun k p hp => by unfold updR; split <;> simp [hp]
    have inR2 : ∀ k p, p ∈ updR b.R x.length (s, t) k → p ∈ b.R k ∨ (k = x.length ∧ p = (s, t)) := fun k p hp => by
      unfold updR at hp
      split at hp
      · rename_i hk
        rcases List.mem_append.1 hp with hp | hp
        · exact .inl hp
        · simp at hp; exact .inr ⟨hk, hp⟩
      · exact .inl hp
    have inR4 : (∀ w, b.W s t = some w → x.length < w.length) → ∀ k, (updR b.R x.length (s, t) k).Nodup := fun hw k => by
      unfold updR
      split
      · rename_i hk
        rw [List.nodup_append]
        refine ⟨h.nd k, by simp, fun p hp q hq e => ?_⟩
        simp at hq
        subst hq; subst e
        obtain ⟨_, w, h7, h6⟩ := h.low _ _ k hp
        have := hw w h7
        omega
      · exact h.nd k
    have inR3 : (s, t) ∈ updR b.R x.length (s, t) x.length := by unfold updR; rw [if_pos rfl]; simp
    split
    · rename_i e
      exact put _ inR1 inR2 inR3 (fun w hw => by rw [e] at hw; simp at hw) (inR4 fun w hw => by rw [e] at hw; simp at hw)
    · rename_i o e
      have hso := hP s t o (h.snd s t o hs ht e).1
      split
      · rename_i hlt
        exact ⟨h, .refl _, .inr (.inr ⟨o, e, Nat.le_of_lt (zeLi hso hlt)⟩)⟩
      · rename_i hlt
        split
        · rename_i hle
          exact ⟨h, .refl _, .inr (.inr ⟨o, e, (z7J5 hso hsx).1 hle⟩)⟩
        · rename_i hle
          rw [z7J5 hso hsx] at hle
          have h4 : ∀ w, b.W s t = some w → rkW x ≤ rkW w ∧ x.length ≤ w.length := fun w hw => by
            rw [e] at hw; injection hw with hw; rw [← hw]; exact ⟨by omega, by omega⟩
          split
          · rename_i hlt2
            exact put _ inR1 inR2 inR3 h4 (inR4 fun w hw => by rw [e] at hw; injection hw with hw; rw [← hw]; exact hlt2)
          · have hel : o.length = x.length := by omega
            exact put _ (fun _ _ h => h) (fun _ _ h => .inl h) (by rw [← hel]; exact h.rdy s t o hs ht e hD) h4 h.nd
theorem Ofd.hit (hP : ∀ s t w, P s t w → sy w) (h : Bst M P n b) {s t : Int} {x a : List Int} (hs : inS M s) (ht : inS M t) (k : Ofd b s t x) (ha : fstO (P s t) = some a) (hn : n ≤ a.length) (hr : rkW x ≤ rkW a) : b.W s t = some a := by
  have hf := zDGF ha
  rcases k with k | k | ⟨w, k1, k2⟩
  · have := zNEy (hP s t a hf.1.1) hr
    have := hf.1.2
    omega
  · obtain ⟨w, h1, h2⟩ := (h.dn s t hs ht).1 k
    rw [ha] at h1
    injection h1 with h1
    rw [← h1] at h2
    omega
  · have h1 := h.snd s t w hs ht k1
    have h2 := hf.2 w h1.1
    rw [k1, z6FH (hP s t w h1.1) (hP s t a hf.1.1) (by omega)]
def tkr (D : Int → Int → Bool) : List PR → List PR × (Int → Int → Bool)
  | [] => ([], D)
  | p :: l => if D p.1 p.2 = true then tkr D l else ((p :: (tkr (updD D p.1 p.2) l).1), (tkr (updD D p.1 p.2) l).2)
theorem zvto : ∀ {l : List PR} {D : Int → Int → Bool}, (∀ u v, (tkr D l).2 u v = true ↔ D u v = true ∨ (u, v) ∈ l) ∧ (∀ p, p ∈ (tkr D l).1 ↔ p ∈ l ∧ D p.1 p.2 = false) ∧ (tkr D l).1.Nodup
  | [], D => by simp [tkr]
  | p :: l, D => by
    unfold tkr
    by_cases h : D p.1 p.2 = true
    · rw [if_pos h]
      obtain ⟨h1, h2, h3⟩ := zvto (l := l) (D := D)
      refine ⟨fun u v => ?_, fun q => ?_, h3⟩
      · rw [h1, List.mem_cons]
        constructor
        · rintro (h | h)
          · exact .inl h
          · exact .inr (.inr h)
        · rintro (h | h | h)
          · exact .inl h
          · subst h; exact .inl (by assumption)
          · exact .inr h
      · rw [h2, List.mem_cons]
        constructor
        · rintro ⟨a, b⟩; exact ⟨.inr a, b⟩
        · rintro ⟨a | a, b⟩
          · subst a; rw [h] at b; simp at b
          · exact ⟨a, b⟩
    · rw [if_neg h]
      obtain ⟨h1, h2, h3⟩ := zvto (l := l) (D := updD D p.1 p.2)
      refine ⟨fun u v => ?_, fun q => ?_, ?_⟩
      · dsimp only
        rw [h1, List.mem_cons]
        unfold updD
        by_cases e : u = p.1 ∧ v = p.2
        · rw [if_pos e]
          have : (u, v) = p := Prod.ext e.1 e.2
          simp [this]
        · rw [if_neg e]
          have : (u, v) ≠ p := fun h => e ⟨congrArg Prod.fst h, congrArg Prod.snd h⟩
          simp [this]
      · dsimp only
        rw [List.mem_cons, h2, List.mem_cons]
        unfold updD
        by_cases e : q = p
        · subst e; simp; simpa using h
        · have : ¬ (q.1 = p.1 ∧ q.2 = p.2) := fun h => e (Prod.ext h.1 h.2)
          rw [if_neg this]
          simp [e]
      · dsimp only
        rw [List.nodup_cons]
        refine ⟨fun hp => ?_, h3⟩
        have := ((h2 p).1 hp).2
        unfold updD at this
        rw [if_pos ⟨rfl, rfl⟩] at this
        simp at this
def Bs.tk (b : Bs) (n : Nat) : List PR × Bs := ((tkr b.D (b.R n)).1, ⟨b.W, (tkr b.D (b.R n)).2, b.R⟩)
theorem Bst.tk (hP : ∀ s t w, P s t w → sy w) (h : Bst M P n b) (hc : ∀ s t a, inS M s → inS M t → fstO (P s t) = some a → a.length = n → b.W s t = some a) : Bst M P (n + 1) (b.tk n).2 ∧ Bsl M b (b.tk n).2 ∧ (b.tk n).1.Nodup ∧ ∀ s t, (s, t) ∈ (b.tk n).1 ↔ (inS M s ∧ inS M t) ∧ ∃ a, fstO (P s t) = some a ∧ a.length = n ∧ b.W s t = some a := by
  obtain ⟨h1, h2, h3⟩ := zvto (l := b.R n) (D := b.D)
  -- a pair that is taken has a final word
  have fin : ∀ s t, (s, t) ∈ b.R n → b.D s t = false → (inS M s ∧ inS M t) ∧ ∃ a, fstO (P s t) = some a ∧ a.length = n ∧ b.W s t = some a := by
    intro s t hm hd
    obtain ⟨hst, w, hw, hl⟩ := h.low s t n hm
    have hg := h.ge s t w hst.1 hst.2 hw hd
    have hp := h.snd s t w hst.1 hst.2 hw
    obtain ⟨a, ha⟩ := z1Hh (P := P s t) (hP s t) hp.1 hp.2
    have ha' := zgy3 (hP s t) ha
    have hr := ha.2 w hp.1
    have hal := zNEy (hP s t w hp.1) hr
    have han : a.length = n := by
      refine Classical.byContradiction fun hne => ?_
      have := (h.dn s t hst.1 hst.2).2 ⟨a, ha', by omega⟩
      rw [hd] at this; simp at this
    exact ⟨hst, a, ha', han, hc s t a hst.1 hst.2 ha' han⟩
  have tak : ∀ s t a, inS M s → inS M t → fstO (P s t) = some a → a.length = n → (s, t) ∈ b.R n ∧ b.D s t = false := by
    intro s t a hs ht ha hl
    have hd : b.D s t = false := by
      cases e : b.D s t with
      | false => rfl
      | true =>
        obtain ⟨w, k1, k2⟩ := (h.dn s t hs ht).1 e
        rw [ha] at k1; injection k1 with k1; rw [← k1] at k2; omega
    refine ⟨?_, hd⟩
    have := h.rdy s t a hs ht (hc s t a hs ht ha hl) hd
    rwa [hl] at this
  have hD : ∀ s t, inS M s → inS M t → ((b.tk n).2.D s t = true ↔ ∃ w, fstO (P s t) = some w ∧ w.length < n + 1) := by
    intro s t hs ht
    show (tkr b.D (b.R n)).2 s t = true ↔ _
    rw [h1]
    constructor
    · rintro (k | k)
      · obtain ⟨w, k1, k2⟩ := (h.dn s t hs ht).1 k
        exact ⟨w, k1, by omega⟩
      · cases e : b.D s t with
        | true =>
          obtain ⟨w, k1, k2⟩ := (h.dn s t hs ht).1 e
          exact ⟨w, k1, by omega⟩
        | false =>
          obtain ⟨_, a, k1, k2, _⟩ := fin s t k e
          exact ⟨a, k1, by omega⟩
    · rintro ⟨w, k1, k2⟩
      by_cases e : w.length < n
      · exact .inl ((h.dn s t hs ht).2 ⟨w, k1, e⟩)
      · exact .inr (tak s t w hs ht k1 (by omega)).1
  have hW : (b.tk n).2.W = b.W := rfl
  have hR : (b.tk n).2.R = b.R := rfl
  have up : ∀ s t, (b.tk n).2.D s t = false → b.D s t = false ∧ (s, t) ∉ b.R n := by
    intro s t e
    have : ¬ ((tkr b.D (b.R n)).2 s t = true) := by rw [Bool.not_eq_true]; exact e
    rw [h1] at this
    refine ⟨?_, fun hm => this (.inr hm)⟩
    cases e2 : b.D s t with
    | false => rfl
    | true => exact absurd (.inl e2) this
  refine ⟨⟨h.snd, hD, fun s t hs ht e => ?_, fun s t w hs ht e e2 => ?_, fun s t w hs ht e e2 => h.rdy s t w hs ht e (up s t e2).1, h.low, h.nd⟩, ⟨fun s t e => (h1 s t).2 (.inl e), fun s t w _ _ e => ⟨w, e, Nat.le_refl _⟩⟩, h3, fun s t => ?_⟩
  · rw [hW]
    rcases (h1 s t).1 e with e | e
    · exact h.wd s t hs ht e
    · cases e2 : b.D s t with
      | true => exact h.wd s t hs ht e2
      | false =>
        obtain ⟨_, a, k1, k2, k3⟩ := fin s t e e2
        rw [k3, k1]
  · rw [hW] at e
    have hu := up s t e2
    have hg := h.ge s t w hs ht e hu.1
    have hr := h.rdy s t w hs ht e hu.1
    refine Classical.byContradiction fun hc2 => ?_
    have : w.length = n := by omega
    rw [this] at hr
    exact hu.2 hr
  · show (s, t) ∈ (tkr b.D (b.R n)).1 ↔ _
    rw [h2]
    constructor
    · rintro ⟨k1, k2⟩; exact fin s t k1 k2
    · rintro ⟨⟨hs, ht⟩, a, k1, k2, _⟩
      exact tak s t a hs ht k1 k2
end
theorem zmWO {α : Type} [BEq α] [LawfulBEq α] : ∀ {l L : List α}, l.Nodup → (∀ x ∈ l, x ∈ L) → l.length ≤ L.length
  | [], _, _, _ => by simp
  | a :: l, L, hn, h => by
    obtain ⟨h1, h2⟩ := List.nodup_cons.1 hn
    have ha := h a (by simp)
    have := zmWO (l := l) (L := L.erase a) h2 fun x hx => (List.mem_erase_of_ne (fun e => h1 (by rw [← e]; exact hx))).2 (h x (by simp [hx]))
    rw [List.length_erase_of_mem ha] at this
    have := List.length_pos_of_mem ha
    simp only [List.length_cons]
    omega
def allP (N : Nat) : List PR := (List.range N).flatMap fun (s : Nat) => (List.range N).map fun (t : Nat) => ((s : Int), (t : Int))
theorem zE3R {N : Nat} : (allP N).length = N * N := by
  unfold allP
  have : ∀ k : Nat, ((List.range k).flatMap fun (s : Nat) => (List.range N).map fun (t : Nat) => ((s : Int), (t : Int))).length = k * N := by
    intro k
    induction k with
    | zero => simp
    | succ k ih => rw [List.range_succ, List.flatMap_append, List.length_append, ih]; simp [Nat.add_mul]
  exact this N
theorem Bst.rlen {M : Mch} {P : Int → Int → List Int → Prop} {n : Nat} {b : Bs} (h : Bst M P n b) (k : Nat) : (b.R k).length ≤ M.size * M.size := by
  rw [← zE3R]
  refine zmWO (h.nd k) fun p hp => ?_
  obtain ⟨⟨h1, h2⟩, _⟩ := h.low p.1 p.2 k hp
  have := h1.1
  have := h1.2
  have := h2.1
  have := h2.2
  exact List.mem_flatMap.2 ⟨p.1.toNat, by simp; omega, List.mem_map.2 ⟨p.2.toNat, by simp; omega, Prod.ext (by dsimp only; omega) (by dsimp only; omega)⟩⟩
end Ab
