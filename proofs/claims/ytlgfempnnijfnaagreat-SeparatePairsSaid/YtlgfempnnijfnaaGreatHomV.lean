/- The words that are no proper prefixes of others. Prefixes and greatest words, by the program. Words, by the document. homing.groups: the walk. homing: Resolves, Possible, Final. homing.Word, by the program. Condition: none. -/
import Derived.Test.YtlgfempnnijfnaaGreatHomB
import Derived.Test.YtlgfempnnijfnaaGreatMnlT
import Derived.Test.YtlgfempnnijfnaaGreatRunR
import Derived.Test.YtlgfempnnijfnaaGreatSepT
import Derived.Test.YtlgfempnnijfnaaGreatRMinC
set_option linter.all false
set_option maxRecDepth 100000
set_option maxHeartbeats 4000000
namespace Ab
end Ab
namespace Ab
def comN : List Int → List Int → Nat
  | x :: a, y :: b => if x = y then comN a b + 1 else 0
  | _, _ => 0
theorem z8Dm : ∀ a b, comN a b ≤ a.length ∧ comN a b ≤ b.length
  | [], b => by simp [comN]
  | _ :: _, [] => by simp [comN]
  | x :: a, y :: b => by
    have := z8Dm a b
    unfold comN; split <;> simp <;> omega
theorem zymp : ∀ {i : Nat} {a b : List Int}, i ≤ a.length → i ≤ b.length → (∀ j : Nat, j < i → ix a (j : Int) = ix b (j : Int)) → (i = a.length ∨ i = b.length ∨ ix a (i : Int) ≠ ix b (i : Int)) → comN a b = i
  | 0, [], b, _, _, _, _ => by simp [comN]
  | 0, _ :: _, [], _, _, _, _ => by simp [comN]
  | 0, x :: a, y :: b, _, _, _, h => by
    rcases h with h | h | h
    · simp at h
    · simp at h
    · have h : ¬ x = y := h
      unfold comN; rw [if_neg h]
  | i + 1, [], b, h, _, _, _ => by simp at h
  | i + 1, _ :: _, [], _, h, _, _ => by simp at h
  | i + 1, x :: a, y :: b, h1, h2, h3, h4 => by
    have hs : ∀ (l : List Int) (z : Int) (j : Nat), ix (z :: l) ((j + 1 : Nat) : Int) = ix l (j : Int) := fun l z j => by simp [ix]
    have e0 := h3 0 (by omega)
    have e0 : x = y := e0
    unfold comN
    rw [if_pos e0, zymp (i := i) (by simpa using h1) (by simpa using h2) (fun j hj => by have := h3 (j + 1) (by omega); rwa [hs, hs] at this) ?_]
    rw [hs, hs] at h4
    simpa using h4
theorem zlSD : ∀ {w p : List Int}, comN w p = p.length ↔ p <+: w
  | [], [] => by simp [comN]
  | [], _ :: _ => by simp [comN]
  | _ :: _, [] => by simp [comN]
  | x :: w, y :: p => by
    have := zlSD (w := w) (p := p)
    unfold comN
    rw [List.cons_prefix_cons]
    by_cases e : x = y
    · rw [if_pos e]; simp [e, this]
    · rw [if_neg e]; simp; intro h; exact absurd h.symm e
end Ab
namespace Ab
theorem z4k3 (a b : List Int) (ha : (a.length : Int) ≤ 9223372036854775807) (hb : (b.length : Int) ≤ 9223372036854775807) : PC zy97 [iL a, iL b] = some (.int (comN a b)) := by
  refine zx72 (zJfH rfl ?_)
  simp
  refine zv8C (fun i : Nat => [(2, .int i)]) (fun _ => []) (fun i => i ≤ a.length ∧ i ≤ b.length ∧ ∀ j : Nat, j < i → ix a (j : Int) = ix b (j : Int)) (fun i => a.length - i) 0 (by simp [sets]) ⟨by omega, by omega, fun j h => by omega⟩ fun i ⟨i0, i1, i2⟩ => ?_
  by_cases hi : i < a.length
  · by_cases hj : i < b.length
    · simp [-zJRc, hi, hj]
      refine ⟨fun h => ⟨by omega, zGkM (i + 1) (by simp) rfl ⟨by omega, by omega, fun j hj => ?_⟩ (by omega)⟩, fun h => ?_⟩
      · by_cases e : j = i
        · subst e; exact h
        · exact i2 j (by omega)
      · rw [zymp i0 i1 i2 (.inr (.inr h))]
    · have e : comN a b = i := zymp i0 i1 i2 (by omega)
      simp [hi, hj, e]
  · have e : comN a b = i := zymp i0 i1 i2 (by omega)
    simp [hi, e]
theorem zIyl {a b : List Int} : (a.length = b.length ∧ comN a b = a.length) ↔ a = b := by
  constructor
  · rintro ⟨h1, h2⟩
    have := (zlSD (w := a) (p := b)).1 (by omega)
    exact (this.eq_of_length h1.symm).symm
  · rintro rfl
    exact ⟨rfl, zlSD.2 (List.prefix_refl _)⟩
theorem zQbQ (a b : List Int) (ha : (a.length : Int) ≤ 9223372036854775807) (hb : (b.length : Int) ≤ 9223372036854775807) : PC zA97 [iL a, iL b] = some (.bool (decide (a = b))) := by
  refine zx72 (zTPf rfl ?_)
  have h := zIyl (a := a) (b := b)
  by_cases e : a = b
  · subst e
    have := h.2 rfl
    simp [z4k3 a a ha ha, this.2]
  · by_cases hl : a.length = b.length
    · have : ¬ comN a b = a.length := fun h' => e (h.1 ⟨hl, h'⟩)
      simp [z4k3 a b ha hb, e, show (a.length : Int) = b.length by omega]
      omega
    · simp [z4k3 a b ha hb, e, show ¬ (a.length : Int) = b.length by omega]
theorem zOah : ∀ (a b : List Int), lexC a b = if comN a b = a.length then (if comN a b = b.length then 0 else -1) else if comN a b < b.length ∧ ix a (comN a b : Int) < ix b (comN a b : Int) then -1 else 1
  | [], [] => by simp [lexC, comN]
  | [], _ :: _ => by simp [lexC, comN]
  | _ :: _, [] => by simp [lexC, comN]
  | x :: a, y :: b => by
    have ih := zOah a b
    have hs : ∀ (l : List Int) (z : Int) (j : Nat), ix (z :: l) ((j + 1 : Nat) : Int) = ix l (j : Int) := fun l z j => by simp [ix]
    unfold lexC comN
    by_cases e : x = y
    · subst e
      rw [if_neg (by omega), if_neg (by omega), if_pos rfl, ih, hs, hs]
      simp
    · rw [if_neg e]
      have hx : ix (x :: a) ((0 : Nat) : Int) = x := rfl
      have hy : ix (y :: b) ((0 : Nat) : Int) = y := rfl
      rw [hx, hy]
      by_cases h : x < y
      · simp [h]
      · simp [h]; omega
theorem z5oG (a b : List Int) (ha : (a.length : Int) ≤ 9223372036854775807) (hb : (b.length : Int) ≤ 9223372036854775807) : PC zr8d [iL a, iL b] = some (.int (lexC a b)) := by
  refine zx72 (ztvg rfl ?_)
  have hle := z8Dm a b
  have hc := z4k3 a b ha hb
  have hx := zOah a b
  generalize comN a b = n at *
  by_cases h1 : n = a.length
  · by_cases h2 : n = b.length
    · rw [if_pos h1, if_pos h2] at hx
      simp [hc, hx, show (n : Int) = a.length by omega, show (n : Int) = b.length by omega, show (a.length : Int) = b.length by omega]
    · rw [if_pos h1, if_neg h2] at hx
      simp [hc, hx, show (n : Int) = a.length by omega, show ¬ (a.length : Int) = b.length by omega]
  · rw [if_neg h1] at hx
    by_cases h2 : n < b.length ∧ ix a (n : Int) < ix b (n : Int)
    · rw [if_pos h2] at hx
      simp [hc, hx, show ¬ (n : Int) = a.length by omega, h2.1, h2.2, show n < a.length by omega]
    · rw [if_neg h2] at hx
      by_cases h3 : n < b.length
      · simp [hc, hx, show ¬ (n : Int) = a.length by omega, h3, show n < a.length by omega, show ¬ ix a (n : Int) < ix b (n : Int) from fun h => h2 ⟨h3, h⟩]
      · simp [hc, hx, show ¬ (n : Int) = a.length by omega, h3, show n < a.length by omega]
theorem z6sk (a b : List Int) (ha : (a.length : Int) ≤ 9223372036854775807) (hb : (b.length : Int) ≤ 9223372036854775807) : PC zIk1 [iL a, iL b] = some (.int (slxC a b)) := by
  refine zx72 (zuY7 rfl ?_)
  have e := z5oG a b ha hb
  unfold slxC
  by_cases h1 : a.length < b.length
  · simp [h1]
  · by_cases h2 : b.length < a.length
    · simp [h1, h2]
    · simp [h1, h2, e]
end Ab
namespace Ab
theorem Gok.len {m : Mly} {w : List Int} {n : Nat} {G : List Gr} (h : Gok m w n G) : ∀ g ∈ G, g.1.length = w.length := fun g hg => by
  obtain ⟨s, _, e⟩ := h.ne g hg
  rw [← e, zj8m]
theorem zmRP : ∀ {cs : List AV} {i : Nat} {x : AV}, putR cs i [x] = cs.set i x
  | [], 0, _ => rfl
  | [], _ + 1, _ => rfl
  | c :: cs, 0, x => by cases cs <;> rfl
  | c :: cs, i + 1, x => by
    show c :: putR cs i [x] = _
    rw [zmRP]; rfl
end Ab
namespace Ab
def Mly.hchk (m : Mly) (w : List Int) : Int := if m.validE ≠ 0 then m.validE else wordE w m.inputs
def Mly.pos (m : Mly) (w o : List Int) : List Int × Int := if m.hchk w ≠ 0 then ([], m.hchk w) else if w.length ≠ o.length then ([], 1) else (m.cur w o, 0)
def Mly.fin (m : Mly) (w o : List Int) : Int × Bool × Int := if (m.pos w o).2 ≠ 0 ∨ (m.pos w o).1.length ≠ 1 then (0, false, (m.pos w o).2) else (ix (m.pos w o).1 0, true, 0)
end Ab
namespace Ab
theorem zv5c (m : Mly) (h : m.fits) (hv : m.validE = 0) (s t : Int) (hs : 0 ≤ s ∧ s < (m.next.length : Int)) (ht : 0 ≤ t ∧ t < (m.next.length : Int)) : PC zbRp [m.av, .int s, .int t] = some (.tup [iL ((dist m m s t).getD []), .bool (dist m m s t).isSome, .int 0]) := by
  refine zx72 (zUuU rfl ?_)
  have hV := zo3u m h
  rw [hv] at hV
  have hm := zaDP hv
  have hS := zlpn m m hm hm rfl s t hs ht
  have h1 : (s < 0) = False := eq_false (by omega)
  have h2 : (t < 0) = False := eq_false (by omega)
  have h3 : ((m.next.length : Int) ≤ s) = False := eq_false (by omega)
  have h4 : ((m.next.length : Int) ≤ t) = False := eq_false (by omega)
  simp [hV, hS, h1, h2, h3, h4]
theorem zuoY {w : List Int} {k : Int} (h1 : 1 ≤ k ∧ k ≤ 1024) (h2 : (w.length : Int) ≤ 1024) (h3 : ∀ x ∈ w, 0 ≤ x ∧ x < k) : wordE w k = 0 := by
  unfold wordE
  rw [if_neg (by omega), if_neg (by omega), if_neg (by rw [bad_f.2 h3]; simp)]
structure HwI (m : Mly) (R : List Int) (p : Nat × List Int) : Prop where
  eq : m.hwd (m.next.length - p.1) p.2 = R
  cnt : p.1 + 1 ≤ m.cnt p.2
  sym : ∀ x ∈ p.2, 0 ≤ x ∧ x < m.inputs
  len : p.2.length ≤ 64 * p.1
theorem HwI.init {m : Mly} (hm : m.Ok) : HwI m (m.hwd m.next.length []) (0, []) := by
  have := hm.states
  exact ⟨rfl, zzpl (by omega), by simp, by simp⟩
theorem HwI.step {m : Mly} (hm : Mnl m) (hn : m.next.length ≤ 8) {R : List Int} {i : Nat} {w : List Int} (h : HwI m R (i, w)) (ho : m.hop w ≠ []) : ∃ v, dist m m (ix (m.hop w) 0) (ix (m.hop w) 1) = some v ∧ HwI m R (i + 1, w ++ v) ∧ i + 2 ≤ m.next.length ∧ w.length + v.length ≤ 1024 ∧ v ≠ [] := by
  have hsym : ∀ x ∈ w, 0 ≤ x ∧ x < m.inputs := h.sym
  obtain ⟨v, h1, h2, h3, h4⟩ := zMk5 hm hsym ho
  have hc := h.cnt
  have hle := zSTg (m := m) (w := w ++ v)
  have hl := h.len
  have h64 : m.next.length * m.next.length ≤ 64 := Nat.mul_le_mul hn hn
  dsimp only at hc hl
  have e := h.eq
  dsimp only at e
  obtain ⟨j, hj⟩ : ∃ j, m.next.length - i = j + 1 := ⟨m.next.length - i - 1, by omega⟩
  rw [hj] at e
  unfold Mly.hwd at e
  rw [if_neg ho, h1, Option.getD_some] at e
  refine ⟨v, h1, ⟨?_, by dsimp only; omega, h2, by dsimp only; rw [List.length_append]; omega⟩, by omega, by omega, fun e => by rw [e, List.append_nil] at h4; omega⟩
  dsimp only
  rw [show m.next.length - (i + 1) = j by omega]
  exact e
end Ab
