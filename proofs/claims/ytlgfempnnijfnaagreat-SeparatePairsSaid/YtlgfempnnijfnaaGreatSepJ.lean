/- Sorted words, by the document. The law on batches. The time of words. Batches of words: the document's. Sorted words, by the document: a list in one block. The greatest words, by the document. Charset and Identifiers of the document. Condition: none. -/
import Derived.Test.YtlgfempnnijfnaaGreatHomV
import Derived.Test.YtlgfempnnijfnaaGreatSepK
import Derived.Test.YtlgfempnnijfnaaGreatSepB
import Derived.Test.YtlgfempnnijfnaaGreatHomX
import Derived.Test.YtlgfempnnijfnaaGreatMini
set_option linter.all false
set_option maxRecDepth 100000
set_option maxHeartbeats 4000000
namespace Ab
def atP (l : List (List Int)) (w : List Int) (k : Nat) : Prop := k ≤ l.length ∧ (∀ j : Nat, j < k → slxC (ix l (j : Int)) w < 0) ∧ ∀ j : Nat, k ≤ j → j < l.length → 0 ≤ slxC (ix l (j : Int)) w
theorem za3F {l : List (List Int)} (h : asc l) {i j : Nat} (hij : i < j) (hj : j < l.length) : slxC (ix l (i : Int)) (ix l (j : Int)) < 0 := by
  rw [asc, ascG, List.pairwise_iff_getElem] at h
  have := h i j (by omega) hj hij
  rwa [← zrZW (by omega), ← zrZW hj] at this
theorem zFKn {u v w : List Int} (h : slxC u v < 0) (k : slxC v w ≤ 0) : slxC u w < 0 := by
  have h1 := zvz8.trans u v w (by omega) k
  by_cases e : slxC u w = 0
  · have e' := zvz8.eq u w e
    subst e'
    have := zvz8.anti u v
    omega
  · omega
theorem zOfv (l : List (List Int)) (h : asc l) (w : List Int) (hl : (l.length : Int) ≤ 1000000) (hw : fitW l) (hww : (w.length : Int) ≤ 1000000) : LX L zt89 [iLL l, iL w] [] (fun v _ => ∃ k : Nat, v = .int k ∧ atP l w k) := by
  refine zYsz rfl ?_
  simp
  refine zv8C (fun p : Nat × Nat => [(2, .int p.1), (3, .int p.2)]) (fun _ => []) (fun p => p.1 ≤ p.2 ∧ p.2 ≤ l.length ∧ (∀ j : Nat, j < p.1 → slxC (ix l (j : Int)) w < 0) ∧ ∀ j : Nat, p.2 ≤ j → j < l.length → 0 ≤ slxC (ix l (j : Int)) w) (fun p => p.2 - p.1) (0, l.length) (by simp [sets]) ⟨by simp, by simp, fun j h => by simp at h, fun j a b => by dsimp only at a; omega⟩ ?_
  rintro ⟨a, b⟩ ⟨h1, h2, h3, h4⟩
  dsimp only at h1 h2 h3 h4 ⊢
  by_cases hab : a < b
  · obtain ⟨k, hk⟩ : ∃ k, k = (a + b) / 2 := ⟨_, rfl⟩
    have hki : ((a : Int) + b).tdiv 2 = (k : Int) := by rw [hk, Int.tdiv_eq_ediv_of_nonneg (by omega)]; omega
    have hkl : k < l.length := by omega
    have hc := z6sk (ix l (k : Int)) w (by have := hw _ (zmAQ (l := l) (n := (k : Int)) (by omega) (by omega)); omega) (by omega)
    simp [-zJRc, hab, hki, hkl, hc]
    refine ⟨by omega, by omega, fun h5 => ⟨by omega, zGkM (k + 1, b) (by simp) rfl ⟨by dsimp only; omega, h2, fun j hj => ?_, h4⟩ (by dsimp only; omega)⟩, fun h5 => zGkM (a, k) (by simp) rfl ⟨by dsimp only; omega, by dsimp only; omega, h3, fun j hj1 hj2 => ?_⟩ (by dsimp only; omega)⟩
    · by_cases e : j = k
      · subst e; exact h5
      · have := za3F h (i := j) (j := k) (by dsimp only at hj; omega) hkl
        exact zFKn this (by omega)
    · by_cases e : j = k
      · subst e; exact h5
      · have := za3F h (i := k) (j := j) (by dsimp only at hj1; omega) hj2
        have h6 := zvz8.anti w (ix l (k : Int))
        have h7 := zvz8.trans w (ix l (k : Int)) (ix l (j : Int)) (by omega) (by omega)
        have h8 := zvz8.anti w (ix l (j : Int))
        omega
  · have e : a = b := by omega
    subst e
    simp
    first | exact ⟨h2, h3, h4⟩ | exact ⟨_, rfl, h2, h3, h4⟩
theorem z8ty {l : List (List Int)} (h : asc l) {w : List Int} {k : Nat} (hk : atP l w k) (hne : ¬ (k < l.length ∧ ix l (k : Int) = w)) : asc (l.take k ++ w :: l.drop k) := by
  obtain ⟨k1, k2, k3⟩ := hk
  have lo : ∀ v ∈ l.take k, slxC v w < 0 := fun v hv => by
    obtain ⟨j, hj, rfl⟩ := List.mem_iff_getElem.1 hv
    have hj' : j < min k l.length := by simpa using hj
    have := k2 j (by omega)
    rw [zrZW (by omega)] at this
    simpa using this
  have hi : ∀ v ∈ l.drop k, slxC w v < 0 := fun v hv => by
    obtain ⟨j, hj, rfl⟩ := List.mem_iff_getElem.1 hv
    have hj' : j < l.length - k := by simpa using hj
    have h0 := k3 (k + j) (by omega) (by omega)
    have hw : ¬ slxC (ix l ((k + j : Nat) : Int)) w = 0 := fun e => by
      have e := zvz8.eq _ _ e
      by_cases ej : j = 0
      · subst ej; exact hne ⟨by omega, e⟩
      · have := za3F h (i := k) (j := k + j) (by omega) (by omega)
        rw [e] at this
        have := k3 k (by omega) (by omega)
        omega
    have := zvz8.anti w (ix l ((k + j : Nat) : Int))
    rw [zrZW (by omega)] at h0 hw this
    rw [List.getElem_drop]
    omega
  rw [asc, ascG, List.pairwise_append, List.pairwise_cons]
  refine ⟨h.take, ⟨hi, h.drop⟩, fun a ha b hb => ?_⟩
  rcases List.mem_cons.1 hb with rfl | hb
  · exact lo a ha
  · exact zFKn (lo a ha) (by have := hi b hb; omega)
end Ab
namespace Ab
theorem zoTP {α : Type} [Inhabited α] {l : List α} {i : Nat} (h : i < l.length) : ix l (i : Int) ∈ l := zmAQ (by omega) (by omega)
end Ab
namespace Ab
structure Lat where
  step : List Int
  rst : Int
  deriving Inhabited
abbrev Lat.av (l : Lat) : AV := .agg [iL l.step, .int l.rst]
structure Lat.fits (l : Lat) : Prop where
  len : (l.step.length : Int) ≤ 9223372036854775807
  st : ∀ x ∈ l.step, -9223372036854775808 ≤ x ∧ x ≤ 9223372036854775807
  rs : -9223372036854775808 ≤ l.rst ∧ l.rst ≤ 9223372036854775807
def outC (x : Int) : Bool := decide (x < 0) || decide (1048576 < x)
def Lat.bad (l : Lat) : Bool := outC l.rst || l.step.any outC
end Ab
namespace Ab
inductive F2 {α β : Type} (R : α → β → Prop) : List α → List β → Prop
  | nil : F2 R [] []
  | cons {a b as bs} : R a b → F2 R as bs → F2 R (a :: as) (b :: bs)
theorem F2.imp {α β : Type} {R S : α → β → Prop} (h : ∀ a b, R a b → S a b) {as : List α} {bs : List β} (k : F2 R as bs) : F2 S as bs := by
  induction k with
  | nil => exact .nil
  | cons h1 _ ih => exact .cons (h _ _ h1) ih
theorem F2.len {α β : Type} {R : α → β → Prop} {as : List α} {bs : List β} (k : F2 R as bs) : as.length = bs.length := by
  induction k with
  | nil => rfl
  | cons h1 _ ih => simp [ih]
theorem F2.mapO {α β : Type} {f : α → Option β} {as : List α} {bs : List β} (k : F2 (fun a b => f a = some b) as bs) : Ab.mapO f as = some bs := by
  induction k with
  | nil => rfl
  | cons h1 _ ih => simp only [Ab.mapO, h1, ih]
theorem F2.map {α β γ : Type} {R : α → β → Prop} {f : β → γ} {as : List α} {bs : List β} (k : F2 R as bs) : F2 (fun a c => ∃ b, R a b ∧ c = f b) as (bs.map f) := by
  induction k with
  | nil => exact .nil
  | cons h1 _ ih => exact .cons ⟨_, h1, rfl⟩ ih
def RW (r : List Blk) (X : Nat) (c : AV) (w : List Int) : Prop := (c = .imm true [] ∧ w = []) ∨ (w ≠ [] ∧ ∃ b, b ≠ X ∧ c = .sl (b + 1) w.length 0 w.length ∧ blk r b = some ⟨none, w.map .int, .live⟩)
def RG (r : List Blk) (X : Nat) (c : AV) (g : List (List Int)) : Prop := ∃ b cs, b ≠ X ∧ c = .sl (b + 1) g.length 0 g.length ∧ blk r b = some ⟨none, cs, .live⟩ ∧ F2 (RW r X) cs g
theorem zc3Q {r : List Blk} {b : Nat} {B : Blk} : blk r b = some B → b < r.length := by
  induction r generalizing b with
  | nil => intro h; cases b <;> simp [blk] at h
  | cons x r ih =>
    cases b with
    | zero => intro _; simp
    | succ b => intro h; have := ih h; simp; omega
theorem z7k3 {r : List Blk} {B : Blk} {l : List Blk} : blk (r ++ B :: l) r.length = some B := by
  induction r with
  | nil => rfl
  | cons x r ih => exact ih
theorem zc79 {r l : List Blk} {b : Nat} {B : Blk} : blk r b = some B → blk (r ++ l) b = some B := by
  induction r generalizing b with
  | nil => intro h; cases b <;> simp [blk] at h
  | cons x r ih =>
    cases b with
    | zero => exact id
    | succ b => exact ih
theorem RW.mono {r r' : List Blk} {X X' : Nat} {c : AV} {w : List Int} (h : RW r X c w) (hb : ∀ b B, b ≠ X → blk r b = some B → blk r' b = some B) (hx : X' = X ∨ r.length ≤ X') : RW r' X' c w := by
  rcases h with h | ⟨h0, b, h1, h2, h3⟩
  · exact .inl h
  · refine .inr ⟨h0, b, ?_, h2, hb _ _ h1 h3⟩
    rcases hx with rfl | hx
    · exact h1
    · have := zc3Q h3; omega
theorem RG.mono {r r' : List Blk} {X X' : Nat} {c : AV} {g : List (List Int)} (h : RG r X c g) (hb : ∀ b B, b ≠ X → blk r b = some B → blk r' b = some B) (hx : X' = X ∨ r.length ≤ X') : RG r' X' c g := by
  obtain ⟨b, cs, h1, h2, h3, h4⟩ := h
  refine ⟨b, cs, ?_, h2, hb _ _ h1 h3, h4.imp fun a w k => k.mono hb hx⟩
  rcases hx with rfl | hx
  · exact h1
  · have := zc3Q h3; omega
theorem zS5y {σ : List Blk} {fr : Bool} {b k n : Nat} {cs ys : List AV} {st : BSt} (h : blk σ b = some ⟨none, cs, st⟩) (hs : st.isArr = true) (hn : n = cs.length) (hf : F2 (fun c y => view σ fr k c = some y) cs ys) : view σ fr (k + 1) (.sl b n 0 n) = some (.imm false ys) := by
  subst hn
  have hu : upto σ b cs.length = some ⟨none, cs, st⟩ := by
    unfold upto
    rw [h]
    cases st <;> simp at hs ⊢
  unfold view
  simp only [hu, kst, List.drop_zero, Nat.zero_add, Nat.mul_one, Nat.le_refl, if_true]
  rw [zeyr (Nat.le_refl _), hf.mapO]
end Ab
namespace Ab
theorem RW.seen {r : List Blk} {X : Nat} {c : AV} {w : List Int} (h : RW r X c w) (B : Blk) {k : Nat} : view (B :: r) false (k + 2) c = some (iL w) := by
  rcases h with ⟨rfl, rfl⟩ | ⟨h0, b, _, rfl, h1⟩
  · rfl
  · exact zxF7 (k := k + 1) (f := .int) (g := .int) (st := .live) (xs := w) h1 (by simp) rfl fun _ _ => rfl
theorem F2.get {α β : Type} {R : α → β → Prop} {as : List α} {bs : List β} (k : F2 R as bs) : ∀ {i : Nat} {a : α} {b : β}, as[i]? = some a → bs[i]? = some b → R a b := by
  induction k with
  | nil => intro i a b h; simp at h
  | cons h1 _ ih =>
    intro i a b h h'
    cases i with
    | zero => simp at h h'; subst h h'; exact h1
    | succ i => exact ih (by simpa using h) (by simpa using h')
theorem F2.take {α β : Type} {R : α → β → Prop} {as : List α} {bs : List β} (k : F2 R as bs) : ∀ (n : Nat), F2 R (as.take n) (bs.take n) := by
  induction k with
  | nil => intro n; simp; exact .nil
  | cons h1 _ ih =>
    intro n
    cases n with
    | zero => exact .nil
    | succ n => exact .cons h1 (ih n)
theorem F2.drop {α β : Type} {R : α → β → Prop} {as : List α} {bs : List β} (k : F2 R as bs) : ∀ (n : Nat), F2 R (as.drop n) (bs.drop n) := by
  induction k with
  | nil => intro n; simp; exact .nil
  | cons h1 h2 ih =>
    intro n
    cases n with
    | zero => exact .cons h1 h2
    | succ n => exact ih n
theorem F2.app {α β : Type} {R : α → β → Prop} {as cs : List α} {bs ds : List β} (k : F2 R as bs) (h : F2 R cs ds) : F2 R (as ++ cs) (bs ++ ds) := by
  induction k with
  | nil => exact h
  | cons h1 _ ih => exact .cons h1 ih
def SL (r : List Blk) (cells : List AV) (l : List (List Int)) : Prop := F2 (RW r r.length) cells l
theorem SL.seen {r : List Blk} {cells : List AV} {l : List (List Int)} (h : SL r cells l) : view (⟨none, cells, .live⟩ :: r) false vd (.sl 0 cells.length 0 cells.length) = some (iLL l) := by
  refine zS5y (k := 11) (st := .live) rfl (by simp) rfl ?_
  exact h.map.imp fun c y ⟨w, k1, k2⟩ => by subst k2; exact k1.seen _
theorem z5eV {a b : List AV} {x y : AV} : (a ++ x :: b).set a.length y = a ++ y :: b := by simp
theorem z483 {C : List AV} {x : AV} {j : Nat} (h : j < C.length) : elm (C.take (j + 1) ++ x :: C.drop (j + 1)) j = some C[j] := by
  rw [znyW, List.getElem?_append_left (by simp; omega), List.getElem?_take_of_lt (by omega), List.getElem?_eq_getElem h]
theorem SL.more {r l2 : List Blk} {cells : List AV} {l : List (List Int)} (h : SL r cells l) : SL (r ++ l2) cells l := F2.imp (fun a b k => k.mono (fun b B _ => zc79) (.inr (by simp))) h
theorem zMXm {l : List (List Int)} {w : List Int} {k : Nat} (x : List Int) : x ∈ l.take k ++ w :: l.drop k ↔ x ∈ l ∨ x = w := by
  have h := List.take_append_drop k l
  conv => rhs; rw [← h]
  simp only [List.mem_append, List.mem_cons]
  constructor
  · rintro (h | h | h)
    · exact .inl (.inl h)
    · exact .inr h
    · exact .inl (.inr h)
  · rintro ((h | h) | h)
    · exact .inl h
    · exact .inr (.inr h)
    · exact .inr (.inl h)
theorem zITR {f : Nat} {args : List AV} {b : Bool} (h : PC f args = some (.bool b)) : ∃ τ, L f args [] = some (.bool b, τ) := by
  simp only [PC, PCx] at h
  split at h
  · rename_i v τ h1
    rw [ztrE h] at h1
    exact ⟨τ, h1⟩
  · simp at h
theorem zSGv (r : List Blk) (C : List AV) (l : List (List Int)) (hS : SL r C l) (h : asc l) (w : List Int) (hl : (l.length : Int) ≤ 1000000) (hw : fitW l) (hww : (w.length : Int) ≤ 1000000) : LX L zn9E [.sl 0 C.length 0 C.length, iL w] (⟨none, C, .live⟩ :: r) (fun v σ' => ∃ r' C' l', v = .sl 0 C'.length 0 C'.length ∧ σ' = ⟨none, C', .live⟩ :: r' ∧ SL r' C' l' ∧ asc l' ∧ (∀ x, x ∈ l' ↔ x ∈ l ∨ x = w) ∧ l'.length ≤ l.length + 1) := by
  refine z4KL rfl ?_
  obtain ⟨v, σ', hp, k, rfl, hk⟩ := LX_s (zOfv l h w hl hw hww)
  have hv := hS.seen
  have hlen := hS.len
  have hk0 := hk.1
  have hr01 : ∀ a b : List Int, (a.length : Int) ≤ 1000000 → (b.length : Int) ≤ 1000000 → ∃ τ, L zA97 [iL a, iL b] [] = some (.bool (decide (a = b)), τ) := fun a b h1 h2 => zITR (zQbQ a b (by omega) (by omega))
  by_cases hkc : k < C.length
  · have hkl : k < l.length := by omega
    obtain ⟨c, hc⟩ : ∃ c, C[k]? = some c := ⟨_, List.getElem?_eq_getElem hkc⟩
    have hcw := hS.get hc (List.getElem?_eq_getElem hkl)
    rw [← zrZW hkl] at hcw
    have hcv : view (⟨none, C, .live⟩ :: r) false vd c = some (iL (ix l (k : Int))) := hcw.seen ⟨none, C, .live⟩ (k := 10)
    have hce : elm C k = some c := by rw [znyW]; exact hc
    obtain ⟨τ, hsm⟩ := hr01 (ix l (k : Int)) w (by have := hw _ (zoTP hkl); omega) hww
    by_cases hs : ix l (k : Int) = w
    · rw [decide_eq_true hs] at hsm
      simp [hv, hp, hkc, hce, hcv, hsm]
      exact ⟨r, C, rfl, ⟨rfl, rfl⟩, l, hS, h, fun x => ⟨.inl, fun h => h.elim id fun e => by rw [e, ← hs]; exact zoTP hkl⟩, by omega⟩
    · have hne : ¬ (k < l.length ∧ ix l (k : Int) = w) := fun h => hs h.2
      rw [decide_eq_false hs] at hsm
      simp [-zJRc, hv, hp, hkc, hce, hcv, hsm]
      refine ⟨by omega, by omega, ?_⟩
      refine zv8C (fun p : Nat × AV => [(3, .int p.1)]) (fun p => ⟨none, C.take p.1 ++ p.2 :: C.drop p.1, .live⟩ :: r) (fun p => k ≤ p.1 ∧ p.1 ≤ C.length) (fun p => p.1) (C.length, .snil) (by simp [sets]) ⟨by dsimp only; omega, by dsimp only; omega⟩ ?_
      rintro ⟨i, x⟩ ⟨i0, i1⟩
      dsimp only at i0 i1 ⊢
      have hti : (C.take i).length = i := by simp; omega
      by_cases hi : k < i
      · obtain ⟨j, rfl⟩ : ∃ j, i = j + 1 := ⟨i - 1, by omega⟩
        have hjC : j < C.length := by omega
        have he := z483 (C := C) (x := x) hjC
        have hset : (C.take (j + 1) ++ x :: C.drop (j + 1)).set (j + 1) C[j] = C.take j ++ C[j] :: C.drop j := by
          have h1 := z5eV (a := C.take (j + 1)) (b := C.drop (j + 1)) (x := x) (y := C[j])
          rw [hti] at h1
          have e1 : C.take (j + 1) = C.take j ++ [C[j]] := by rw [List.take_add_one, List.getElem?_eq_getElem hjC]; rfl
          have e2 : C.drop j = C[j] :: C.drop (j + 1) := List.drop_eq_getElem_cons hjC
          rw [h1, e1, e2, List.append_assoc]; rfl
        have hmin : min (j + 1) C.length = j + 1 := Nat.min_eq_left (by omega)
        have hsz : (C.take (j + 1) ++ x :: C.drop (j + 1)).length = C.length + 1 := by simp; omega
        have hcj : (C[j]).cells = [C[j]] ∧ notUnd C[j] = true := by
          have hjl : j < l.length := by omega
          have := hS.get (List.getElem?_eq_getElem hjC) (List.getElem?_eq_getElem hjl)
          rcases this with ⟨h1, _⟩ | ⟨_, b, _, h1, _⟩ <;> rw [h1] <;> exact ⟨rfl, rfl⟩
        have hii : (k : Int) < (j : Int) + 1 := by omega
        generalize C[j] = cj at *
        simp [-zJRc, -List.map_take, -zD0v, ↓zd72, hii, he, hset, hmin, hcj.1, hcj.2]
        (repeat' apply And.intro) <;> try omega
        exact zGkM (j, cj) (by simp) rfl ⟨by dsimp only; omega, by dsimp only; omega⟩ (by dsimp only; omega)
      · have ei : i = k := by omega
        subst ei
        have hset : ∀ y, (C.take i ++ x :: C.drop i).set i y = C.take i ++ y :: C.drop i := fun y => by
          have h1 := z5eV (a := C.take i) (b := C.drop i) (x := x) (y := y)
          rwa [hti] at h1
        have hsz : (C.take i ++ x :: C.drop i).length = C.length + 1 := by simp; omega
        by_cases hwz : w = []
        · have hwz' : (w = []) = True := eq_true hwz
          simp [-zJRc, -zD0v, ↓zd72, hi, hset, hwz']
          refine ⟨by omega, by omega, by omega, _, _, by simp; omega, ⟨rfl, rfl⟩, l.take i ++ w :: l.drop i, (hS.take i).app (.cons (.inl ⟨rfl, hwz⟩) (hS.drop i)), z8ty h hk hne, fun x => ?_, by simp; omega⟩
          exact zMXm x
        · simp [-zJRc, -zD0v, ↓zd72, hi, hset, hwz]
          have hS' := hS.more (l2 := [⟨none, w.map .int, .live⟩])
          refine ⟨by omega, by omega, by omega, by omega, _, _, by simp; omega, ⟨rfl, rfl⟩, l.take i ++ w :: l.drop i, (F2.take hS' i).app (.cons (.inr ⟨hwz, r.length, by simp, rfl, z7k3⟩) (F2.drop hS' i)), z8ty h hk hne, zMXm, by simp; omega⟩
  · have hne : ¬ (k < l.length ∧ ix l (k : Int) = w) := fun h => hkc (by omega)
    simp [-zJRc, hv, hp, hkc]
    refine ⟨by omega, by omega, ?_⟩
    refine zv8C (fun p : Nat × AV => [(3, .int p.1)]) (fun p => ⟨none, C.take p.1 ++ p.2 :: C.drop p.1, .live⟩ :: r) (fun p => k ≤ p.1 ∧ p.1 ≤ C.length) (fun p => p.1) (C.length, .snil) (by simp [sets]) ⟨by dsimp only; omega, by dsimp only; omega⟩ ?_
    rintro ⟨i, x⟩ ⟨i0, i1⟩
    dsimp only at i0 i1 ⊢
    have hti : (C.take i).length = i := by simp; omega
    by_cases hi : k < i
    · obtain ⟨j, rfl⟩ : ∃ j, i = j + 1 := ⟨i - 1, by omega⟩
      have hjC : j < C.length := by omega
      have he := z483 (C := C) (x := x) hjC
      have hset : (C.take (j + 1) ++ x :: C.drop (j + 1)).set (j + 1) C[j] = C.take j ++ C[j] :: C.drop j := by
        have h1 := z5eV (a := C.take (j + 1)) (b := C.drop (j + 1)) (x := x) (y := C[j])
        rw [hti] at h1
        have e1 : C.take (j + 1) = C.take j ++ [C[j]] := by rw [List.take_add_one, List.getElem?_eq_getElem hjC]; rfl
        have e2 : C.drop j = C[j] :: C.drop (j + 1) := List.drop_eq_getElem_cons hjC
        rw [h1, e1, e2, List.append_assoc]; rfl
      have hmin : min (j + 1) C.length = j + 1 := Nat.min_eq_left (by omega)
      have hsz : (C.take (j + 1) ++ x :: C.drop (j + 1)).length = C.length + 1 := by simp; omega
      have hcj : (C[j]).cells = [C[j]] ∧ notUnd C[j] = true := by
        have hjl : j < l.length := by omega
        have := hS.get (List.getElem?_eq_getElem hjC) (List.getElem?_eq_getElem hjl)
        rcases this with ⟨h1, _⟩ | ⟨_, b, _, h1, _⟩ <;> rw [h1] <;> exact ⟨rfl, rfl⟩
      have hii : (k : Int) < (j : Int) + 1 := by omega
      generalize C[j] = cj at *
      simp [-zJRc, -List.map_take, -zD0v, ↓zd72, hii, he, hset, hmin, hcj.1, hcj.2]
      (repeat' apply And.intro) <;> try omega
    · have ei : i = k := by omega
      subst ei
      have hset : ∀ y, (C.take i ++ x :: C.drop i).set i y = C.take i ++ y :: C.drop i := fun y => by
        have h1 := z5eV (a := C.take i) (b := C.drop i) (x := x) (y := y)
        rwa [hti] at h1
      have hsz : (C.take i ++ x :: C.drop i).length = C.length + 1 := by simp; omega
      by_cases hwz : w = []
      · have hwz' : (w = []) = True := eq_true hwz
        simp [-zJRc, -zD0v, ↓zd72, hi, hset, hwz']
        refine ⟨by omega, by omega, by omega, _, _, by simp; omega, ⟨rfl, rfl⟩, l.take i ++ w :: l.drop i, (hS.take i).app (.cons (.inl ⟨rfl, hwz⟩) (hS.drop i)), z8ty h hk hne, fun x => ?_, by simp; omega⟩
        exact zMXm x
      · simp [-zJRc, -zD0v, ↓zd72, hi, hset, hwz]
        have hS' := hS.more (l2 := [⟨none, w.map .int, .live⟩])
        refine ⟨by omega, by omega, by omega, by omega, _, _, by simp; omega, ⟨rfl, rfl⟩, l.take i ++ w :: l.drop i, (F2.take hS' i).app (.cons (.inr ⟨hwz, r.length, by simp, rfl, z7k3⟩) (F2.drop hS' i)), z8ty h hk hne, zMXm, by simp; omega⟩
theorem zztH (w : List Int) (hww : (w.length : Int) ≤ 1000000) : LX L zn9E [.snil, iL w] [] (fun v σ' => ∃ r' C', v = .sl 0 C'.length 0 C'.length ∧ σ' = ⟨none, C', .live⟩ :: r' ∧ SL r' C' [w]) := by
  refine z4KL rfl ?_
  obtain ⟨v, σ', hp, k, rfl, hk⟩ := LX_s (zOfv [] (by simp [asc, ascG]) w (by simp) (fun x h => by simp at h) hww)
  have hk0 : k = 0 := by have := hk.1; simpa using this
  subst hk0
  have hp : L zt89 [.imm false [], iL w] [] = some (.int 0, σ') := hp
  have hv : view [] false vd .snil = some (.imm false []) := rfl
  simp [-zJRc, hv, hp]
  refine zv8C (fun _ : Unit => []) (fun _ => [⟨none, [.snil], .live⟩]) (fun _ => True) (fun _ => 0) () (by simp [sets]) trivial ?_
  intro _ _
  by_cases hwz : w = []
  · have hwz' : (w = []) = True := eq_true hwz
    simp [hwz']
    exact ⟨[], _, rfl, ⟨rfl, rfl⟩, .cons (.inl ⟨rfl, hwz⟩) .nil⟩
  · simp [hwz]
    exact ⟨by omega, [⟨none, w.map .int, .live⟩], _, rfl, ⟨rfl, rfl⟩, .cons (.inr ⟨hwz, 0, by simp, rfl, rfl⟩) .nil⟩
theorem zsEq (ws : List (List Int)) (hl : (ws.length : Int) ≤ 1000000) (hw : fitW ws) : PC zJzg [iLL ws] = some (iLL (sortU ws)) := by
  refine zx72 (zTRa rfl ?_)
  simp
  refine zv8C (fun p : Nat × List AV × List Blk × List (List Int) => [(1, .int p.1), (2, if p.1 = 0 then .snil else .sl 0 p.2.1.length 0 p.2.1.length)]) (fun p => if p.1 = 0 then [] else ⟨none, p.2.1, .live⟩ :: p.2.2.1) (fun p => p.1 ≤ ws.length ∧ SL p.2.2.1 p.2.1 p.2.2.2 ∧ asc p.2.2.2 ∧ (∀ x, x ∈ p.2.2.2 ↔ x ∈ ws.take p.1) ∧ p.2.2.2.length ≤ p.1) (fun p => ws.length - p.1) (0, [], [], []) (by simp [sets]) ⟨by simp, .nil, by simp [asc, ascG], by simp, by simp⟩ ?_
  rintro ⟨i, C, r, l⟩ ⟨i0, i1, i2, i3, i4⟩
  dsimp only at i0 i1 i2 i3 i4 ⊢
  by_cases hi : i < ws.length
  · have hwi := hw _ (zoTP (l := ws) (i := i) hi)
    have t1 : ws.take (i + 1) = ws.take i ++ [ix ws (i : Int)] := by
      rw [List.take_add_one, List.getElem?_eq_getElem hi, zrZW hi]; rfl
    by_cases h0 : i = 0
    · subst h0
      obtain ⟨v, σ', hx, r', C', rfl, rfl, hS⟩ := LX_s (zztH (ix ws ((0 : Nat) : Int)) hwi)
      have hx' : L zn9E [.snil, .imm false ((ix ws 0).map .int)] [] = some (.sl 0 C'.length 0 C'.length, ⟨none, C', .live⟩ :: r') := hx
      simp [-zJRc, hi, hx']
      exact zGkM (1, C', r', [ix ws 0]) (by simp) (by simp) ⟨by dsimp only; omega, hS, by simp [asc, ascG], fun x => by rw [show (1 : Nat) = 0 + 1 by rfl, t1]; simp, by simp⟩ (by dsimp only; omega)
    · have hfw : fitW l := fun x hx => hw x (List.mem_of_mem_take ((i3 x).1 hx))
      obtain ⟨v, σ', hx, r', C', l', rfl, rfl, hS, ha, hm, hlen⟩ := LX_s (zSGv r C l i1 i2 (ix ws (i : Int)) (by omega) hfw hwi)
      simp [-zJRc, hi, h0, hx]
      refine ⟨by omega, zGkM (i + 1, C', r', l') (by simp) (by simp) ⟨by dsimp only; omega, hS, ha, fun x => ?_, by dsimp only; omega⟩ (by dsimp only; omega)⟩
      rw [hm, i3, t1]; simp
  · have ei : i = ws.length := by omega
    subst ei
    have t2 : ws.take ws.length = ws := List.take_of_length_le (by simp)
    rw [t2] at i3
    have e : sortU ws = l := zQl1 i2 fun x => (i3 x).symm
    have hv := i1.seen
    by_cases h0 : ws.length = 0
    · have : l = [] := by
        cases l with
        | nil => rfl
        | cons a r => have := (i3 a).1 (by simp); rw [List.length_eq_zero_iff.1 h0] at this; simp at this
      subst this
      simp [h0, e]
    · simp [h0, hv, e]
end Ab
namespace Ab
end Ab
namespace Ab
theorem zGRU {m : Mly} (h : m.fits) (hM : Mnl m) (hv : m.validE = 0) (h8 : m.next.length ≤ 8) {s t : Int} (hs : 0 ≤ s ∧ s < (m.next.length : Int)) (ht : 0 ≤ t ∧ t < (m.next.length : Int)) (hne : s ≠ t) : PC zAOG [m.av, .int s, .int t] = some (.tup [iL (m.sw s t), .bool true, .int 0]) := by
  have := zuiB m h hv s t hs ht
  obtain ⟨e, _⟩ := sw_ok hM h8 hs ht hne
  rw [this, e]; rfl
theorem zzUB (m : Mly) (h : m.fits) (hn8 : m.validE = 0 → m.next.length ≤ 8) : PC zuMA [m.av] = some (.tup [iLL m.chA, .int (m.mchk m.mnlb)]) := by
  refine zx72 (zzSb rfl ?_)
  have hc := zGPu m h
  by_cases h0 : m.mchk m.mnlb = 0
  case neg =>
    have e : m.chA = [] := if_neg h0
    rw [e]
    simp [hc, h0]
  obtain ⟨hv, hM⟩ := zwBY h0
  have h8 := hn8 hv
  have hm := hM.ok
  have hst := hm.states
  have hin := hm.inputs
  have e : m.chA = sortU (m.chs m.next.length) := if_pos h0
  rw [e]
  rw [h0] at hc ⊢
  simp [-zJRc, hc]
  refine zv8C (fun i : Nat => [(3, .int i), (5, .sl 0 (m.chs i).length 0 (m.chs i).length)]) (fun i => [loutL (m.chs i)]) (fun i => i ≤ m.next.length) (fun i => m.next.length - i) 0 (by simp [sets, Mly.chs]) (by omega) ?_
  intro i hi1
  have hX := zSAn hM h8 i hi1
  by_cases hi : i < m.next.length
  · simp [-zJRc, hi]
    refine ⟨by omega, ?_⟩
    have hR := fun j => Chi.row hM h8 hX j
    have hcs : m.chs (i + 1) = m.chr i (m.chs i) (m.next.length - (i + 1)) := rfl
    generalize m.chs i = set at *
    refine zv8C (fun j : Nat => [(4, .int ((i + 1 + j : Nat) : Int)), (5, .sl 0 (m.chr i set j).length 0 (m.chr i set j).length)]) (fun j => [loutL (m.chr i set j)]) (fun j => i + 1 + j ≤ m.next.length) (fun j => m.next.length - j) 0 (by simp [sets, Mly.chr]) (by omega) ?_
    intro j hj1
    have hY := hR j hj1
    have hE : m.chr i set (j + 1) = m.chp (i : Int) ((i + 1 + j : Nat) : Int) (m.chr i set j) := rfl
    generalize hws : m.chr i set j = ws at *
    by_cases hj : i + 1 + j < m.next.length
    · have hw := swl_w hM h8 hY.ok
      have hlen := hY.ok.len
      have hs := z1Ti m h hv ws (i : Int) ((i + 1 + j : Nat) : Int) ⟨by omega, by omega⟩ ⟨by omega, by omega⟩ (by omega) (fun w hx => zuoY ⟨by omega, by omega⟩ (by have := (hw w hx).1; omega) (hw w hx).2)
      have hvw := zzaI (σ := [loutL ws]) (b := 0) (out := ws) rfl
      have hS := zGRU h hM hv h8 (s := (i : Int)) (t := ((i + 1 + j : Nat) : Int)) ⟨by omega, by omega⟩ ⟨by omega, by omega⟩ (by omega)
      unfold Mly.chp at hE
      have hjc : (((i + 1 + j : Nat) : Int) < (m.next.length : Int)) = True := eq_true (by omega)
      have hjc' : ((i : Int) + 1 + (j : Int) < (m.next.length : Int)) = True := eq_true (by omega)
      generalize hT : ((i + 1 + j : Nat) : Int) = T at *
      cases hb : m.sep (i : Int) T ws with
      | true =>
        rw [hb] at hs hE
        rw [if_pos rfl] at hE
        obtain ⟨τ, hz⟩ := zEZS hs
        have hz : L zel3 [.agg [.int m.inputs, .int m.start, .imm false (m.next.map iL), .imm false (m.out.map iL)], .int (i : Int), .int T, iLL ws] [] = some (.bool true, τ) := hz
        simp [-zJRc, hjc, hjc', hvw, hz]
        exact ⟨by omega, zGkM (j + 1) (by simp [hE]; omega) (by rw [hE]) (by omega) (by omega)⟩
      | false =>
        rw [hb] at hs hE
        rw [if_neg (by simp)] at hE
        obtain ⟨τ, hz⟩ := zEZS hs
        have hz : L zel3 [.agg [.int m.inputs, .int m.start, .imm false (m.next.map iL), .imm false (m.out.map iL)], .int (i : Int), .int T, iLL ws] [] = some (.bool false, τ) := hz
        simp [-zJRc, hjc, hjc', hvw, hz, hS]
        exact ⟨by split <;> simp, by omega, by omega, zGkM (j + 1) (by simp [hE]; omega) (by rw [hE]; simp [loutL]) (by omega) (by omega)⟩
    · have hjc : ((i : Int) + 1 + (j : Int) < (m.next.length : Int)) = False := eq_false (by omega)
      have ej : j = m.next.length - (i + 1) := by omega
      subst ej
      simp [-zJRc, hjc]
      exact ⟨by omega, zGkM (i + 1) (by simp [hcs, hws]) (by rw [hcs, hws]) (by omega) (by omega)⟩
  · have ei : i = m.next.length := by omega
    subst ei
    have hw := swl_w hM h8 hX.ok
    have hlen := hX.ok.len
    have hsrt := zsEq (m.chs m.next.length) (by omega) fun w hx => by have := (hw w hx).1; omega
    simp
    refine zNE6 rfl ?_
    simp [hsrt]
abbrev loutX (out : List (List (List Int))) : Blk := ⟨none, out.map iLL, if out = [] then .nul else .live⟩
theorem z6nH {vars : List AV} {fl : Option (Nat × AV)} {ws : List (List Int)} {B : Blk} {k : Nat} {Q : Ex → St → Prop} (hn : nth vars k = .sl 1 ws.length 0 ws.length) (h : ∀ b B', Q .nor ⟨setN vars k (.imm b (ws.map iL)), fl, [B, B']⟩) : W L (.frz k) ⟨vars, fl, [B, loutL ws]⟩ Q := by
  have hr : reach [B, loutL ws] vd (.sl 1 ws.length 0 ws.length) [] = [1] := by
    show reach [B, loutL ws] (11 + 1) (.sl 1 ws.length 0 ws.length) [] = [1]
    unfold reach
    simp only [List.contains_nil, Bool.false_eq_true, if_false, blk]
    exact zT1r ws [1]
  have hd : dieIf (fun b => !([1] : List Nat).contains b) 0 [B, loutL ws] = [⟨B.k, B.cells, .dead⟩, loutL ws] := by simp [dieIf]
  have hv := zzaI (σ := [⟨B.k, B.cells, .dead⟩, loutL ws]) (b := 1) (out := ws) rfl
  have hd2 : dieIf (fun b => ([1] : List Nat).contains b) 0 [B, loutL ws] = [B, ⟨none, ws.map iL, .dead⟩] := by simp [dieIf]
  have hs : ∃ b, surely [B, loutL ws] (.sl 1 ws.length 0 ws.length) = b := ⟨_, rfl⟩
  obtain ⟨b, hs⟩ := hs
  cases b with
  | true =>
    refine ⟨0, .nor, _, ?_, h true ⟨none, ws.map iL, .dead⟩⟩
    simp only [exec, hn, hr, hd, hv, hs, hd2]
    rfl
  | false =>
    refine ⟨0, .nor, _, ?_, h false ⟨none, ws.map iL, .dead⟩⟩
    simp only [exec, hn, hr, hd, hv, hs, hd2]
    rfl
theorem z2Ry {m : Mly} {i : Nat} (hi : i < m.next.length) : m.idl.take (i + 1) = m.idl.take i ++ [sortU (m.idn i m.next.length)] := by
  rw [List.take_add_one]
  simp [Mly.idl, hi]
theorem zDlr {m : Nat} : ∀ l : List (List (List Int)), (l.map iLL).all (lowv m) = true
  | [] => rfl
  | x :: l => by simp [zDlr l]
theorem zi5m (m : Mly) (h : m.fits) (hn8 : m.validE = 0 → m.next.length ≤ 8) : PC zg5p [m.av] = some (.tup [.imm false (m.idA.map iLL), .int (m.mchk m.mnlb)]) := by
  refine zx72 (zNKA rfl ?_)
  have hc := zGPu m h
  by_cases h0 : m.mchk m.mnlb = 0
  case neg =>
    have e : m.idA = [] := if_neg h0
    rw [e]
    simp [hc, h0]
  obtain ⟨hv, hM⟩ := zwBY h0
  have h8 := hn8 hv
  have hm := hM.ok
  have hst := hm.states
  have e : m.idA = m.idl := if_pos h0
  rw [e]
  rw [h0] at hc ⊢
  simp [-zJRc, hc]
  have hll : m.idl.length = m.next.length := by simp [Mly.idl]
  refine zv8C (fun i : Nat => [(3, .int i), (7, .sl 0 i 0 i)]) (fun i => [loutX (m.idl.take i)]) (fun i => i ≤ m.next.length) (fun i => m.next.length - i) 0 (by simp [sets]) (by omega) ?_
  intro i hi1
  refine zWAK rfl ?_
  have hl1 : (m.idl.take i).length = i := by simp [hll]; omega
  by_cases hi : i < m.next.length
  · have htk := z2Ry hi
    generalize hO : m.idl.take i = O at *
    simp [-zJRc, hi]
    refine zv8C (fun j : Nat => [(4, .int j), (5, .sl 1 (m.idn i j).length 0 (m.idn i j).length)]) (fun j => [loutX O, loutL (m.idn i j)]) (fun j => j ≤ m.next.length) (fun j => m.next.length - j) 0 (by simp [sets, zvCe]) (by omega) ?_
    intro j hj1
    refine zWAK rfl ?_
    have hsu := zhvs (m := m) (s := i) (b := j)
    have hil := zZDR (m := m) (s := i) (b := j)
    have hil' : (m.idn i j).length ≤ 8 := by rw [hil]; split <;> omega
    by_cases hj : j < m.next.length
    · by_cases he : j = i
      · rw [if_pos he, List.append_nil] at hsu
        generalize m.idn i j = l at *
        have he' : ((j : Int) = (i : Int)) = True := eq_true (by omega)
        have he2 := eq_true he
        simp [-zJRc, hj, he', he2]
        exact ⟨by omega, zGkM (j + 1) (by simp [hsu]) (by rw [hsu]) (by omega) (by omega)⟩
      · rw [if_neg he] at hsu
        have he' : ((j : Int) = (i : Int)) = False := eq_false (by omega)
        have he2 := eq_false he
        have hS := zGRU h hM hv h8 (s := (i : Int)) (t := (j : Int)) ⟨by omega, by omega⟩ ⟨by omega, by omega⟩ (by omega)
        generalize m.idn i j = l at *
        simp [-zJRc, hj, he', he2, hS]
        exact ⟨by split <;> simp, by omega, by omega, zGkM (j + 1) (by simp [hsu]) (by rw [hsu]; simp [loutL]) (by omega) (by omega)⟩
    · have ej : j = m.next.length := by omega
      subst ej
      have hsrt := zsEq (m.idn i m.next.length) (by omega) fun w hx => by
        obtain ⟨t, h1, h2, rfl⟩ := z2DI.1 hx
        have := (sw_ok hM h8 (s := (i : Int)) (t := (t : Int)) ⟨by omega, by omega⟩ ⟨by omega, by omega⟩ (by omega)).2.2.2
        omega
      generalize hl : m.idn i m.next.length = l at *
      have hal := zDlr (m := 1) O
      simp [-zJRc]
      refine z6nH rfl fun b B' => ?_
      simp [-zJRc, hsrt]
      exact ⟨⟨hl1, by split <;> simp⟩, by omega, by omega, zGkM (i + 1) (by simp [hl1]) (by rw [htk]; simp [loutX]) (by omega) (by omega)⟩
  · have ei : i = m.next.length := by omega
    subst ei
    have hf : m.idl.take m.next.length = m.idl := List.take_of_length_le (by omega)
    rw [hf]
    have hv := zxF7 (σ := [loutX m.idl]) (fr := false) (b := 0) (k := 11) (n := m.next.length) (f := iLL) (g := iLL) (xs := m.idl) rfl (by split <;> rfl) hll.symm fun _ _ => rfl
    have hv' : view [loutX m.idl] false vd (.sl 0 m.next.length 0 m.next.length) = some (.imm false (m.idl.map iLL)) := hv
    simp [-zJRc, hv']
end Ab
