/- Lists that grow from nil, and are given away. The words that are no proper prefixes of others. Prefixes and greatest words, by the program. Words, by the document. The automaton of pairs, as the program has it. Differ, as the program finds it. Nested words apart. Condition: none. -/
import Derived.Test.YtkchnhfeebkogaaN43Lv
import Derived.Test.YtkchnhfeebkogaaN43Sh
import Derived.Test.YtkchnhfeebkogaaN43Laws2
set_option linter.all false
set_option maxRecDepth 100000
set_option maxHeartbeats 4000000
namespace Ab
abbrev louI (out : List Int) : Blk := ⟨none, out.map .int, if out = [] then .nul else .live⟩
theorem zX4P {σ : List Blk} {b : Nat} {out : List Int} (h : blk σ b = some (louI out)) : view σ false vd (.sl b out.length 0 out.length) = some (iL out) := vd_iL h (by split <;> simp) rfl
end Ab
namespace Ab
end Ab
namespace Ab
def comN : List Int → List Int → Nat
  | x :: a, y :: b => if x = y then comN a b + 1 else 0
  | _, _ => 0
theorem z8Dm : ∀ a b, comN a b ≤ a.length ∧ comN a b ≤ b.length
  | [], b => by simp [comN]
  | _ :: _, [] => by simp [comN]
  | x :: a, y :: b => by
    have := z8Dm a b
    unfold comN; split <;> simp <;> omega
theorem zymp : ∀ {i : Nat} {a b : List Int}, i ≤ a.length → i ≤ b.length → (∀ j : Nat, j < i → ix a (j : Int) = ix b (j : Int)) → (i = a.length ∨ i = b.length ∨ ix a (i : Int) ≠ ix b (i : Int)) → comN a b = i
  | 0, [], b, _, _, _, _ => by simp [comN]
  | 0, _ :: _, [], _, _, _, _ => by simp [comN]
  | 0, x :: a, y :: b, _, _, _, h => by
    rcases h with h | h | h
    · simp at h
    · simp at h
    · have h : ¬ x = y := h
      unfold comN; rw [if_neg h]
  | i + 1, [], b, h, _, _, _ => by simp at h
  | i + 1, _ :: _, [], _, h, _, _ => by simp at h
  | i + 1, x :: a, y :: b, h1, h2, h3, h4 => by
    have hs : ∀ (l : List Int) (z : Int) (j : Nat), ix (z :: l) ((j + 1 : Nat) : Int) = ix l (j : Int) := fun l z j => by simp [ix]
    have e0 := h3 0 (by omega)
    have e0 : x = y := e0
    unfold comN
    rw [if_pos e0, zymp (i := i) (by simpa using h1) (by simpa using h2) (fun j hj => by have := h3 (j + 1) (by omega); rwa [hs, hs] at this) ?_]
    rw [hs, hs] at h4
    simpa using h4
theorem zlSD : ∀ {w p : List Int}, comN w p = p.length ↔ p <+: w
  | [], [] => by simp [comN]
  | [], _ :: _ => by simp [comN]
  | _ :: _, [] => by simp [comN]
  | x :: w, y :: p => by
    have := zlSD (w := w) (p := p)
    unfold comN
    rw [List.cons_prefix_cons]
    by_cases e : x = y
    · rw [if_pos e]; simp [e, this]
    · rw [if_neg e]; simp; intro h; exact absurd h.symm e
end Ab
namespace Ab
theorem z4k3 (a b : List Int) (ha : (a.length : Int) ≤ 9223372036854775807) (hb : (b.length : Int) ≤ 9223372036854775807) : PC zy97 [iL a, iL b] = some (.int (comN a b)) := by
  refine zx72 (zJfH rfl ?_)
  simp
  refine zv8C (fun i : Nat => [(2, .int i)]) (fun _ => []) (fun i => i ≤ a.length ∧ i ≤ b.length ∧ ∀ j : Nat, j < i → ix a (j : Int) = ix b (j : Int)) (fun i => a.length - i) 0 (by simp [sets]) ⟨by omega, by omega, fun j h => by omega⟩ fun i ⟨i0, i1, i2⟩ => ?_
  by_cases hi : i < a.length
  · by_cases hj : i < b.length
    · simp [-zJRc, hi, hj]
      refine ⟨fun h => ⟨by omega, zGkM (i + 1) (by simp) rfl ⟨by omega, by omega, fun j hj => ?_⟩ (by omega)⟩, fun h => ?_⟩
      · by_cases e : j = i
        · subst e; exact h
        · exact i2 j (by omega)
      · rw [zymp i0 i1 i2 (.inr (.inr h))]
    · have e : comN a b = i := zymp i0 i1 i2 (by omega)
      simp [hi, hj, e]
  · have e : comN a b = i := zymp i0 i1 i2 (by omega)
    simp [hi, e]
theorem zIyl {a b : List Int} : (a.length = b.length ∧ comN a b = a.length) ↔ a = b := by
  constructor
  · rintro ⟨h1, h2⟩
    have := (zlSD (w := a) (p := b)).1 (by omega)
    exact (this.eq_of_length h1.symm).symm
  · rintro rfl
    exact ⟨rfl, zlSD.2 (List.prefix_refl _)⟩
theorem zQbQ (a b : List Int) (ha : (a.length : Int) ≤ 9223372036854775807) (hb : (b.length : Int) ≤ 9223372036854775807) : PC zA97 [iL a, iL b] = some (.bool (decide (a = b))) := by
  refine zx72 (zTPf rfl ?_)
  have h := zIyl (a := a) (b := b)
  by_cases e : a = b
  · subst e
    have := h.2 rfl
    simp [z4k3 a a ha ha, this.2]
  · by_cases hl : a.length = b.length
    · have : ¬ comN a b = a.length := fun h' => e (h.1 ⟨hl, h'⟩)
      simp [z4k3 a b ha hb, e, show (a.length : Int) = b.length by omega]
      omega
    · simp [z4k3 a b ha hb, e, show ¬ (a.length : Int) = b.length by omega]
theorem zOah : ∀ (a b : List Int), lexC a b = if comN a b = a.length then (if comN a b = b.length then 0 else -1) else if comN a b < b.length ∧ ix a (comN a b : Int) < ix b (comN a b : Int) then -1 else 1
  | [], [] => by simp [lexC, comN]
  | [], _ :: _ => by simp [lexC, comN]
  | _ :: _, [] => by simp [lexC, comN]
  | x :: a, y :: b => by
    have ih := zOah a b
    have hs : ∀ (l : List Int) (z : Int) (j : Nat), ix (z :: l) ((j + 1 : Nat) : Int) = ix l (j : Int) := fun l z j => by simp [ix]
    unfold lexC comN
    by_cases e : x = y
    · subst e
      rw [if_neg (by omega), if_neg (by omega), if_pos rfl, ih, hs, hs]
      simp
    · rw [if_neg e]
      have hx : ix (x :: a) ((0 : Nat) : Int) = x := rfl
      have hy : ix (y :: b) ((0 : Nat) : Int) = y := rfl
      rw [hx, hy]
      by_cases h : x < y
      · simp [h]
      · simp [h]; omega
theorem z5oG (a b : List Int) (ha : (a.length : Int) ≤ 9223372036854775807) (hb : (b.length : Int) ≤ 9223372036854775807) : PC zr8d [iL a, iL b] = some (.int (lexC a b)) := by
  refine zx72 (ztvg rfl ?_)
  have hle := z8Dm a b
  have hc := z4k3 a b ha hb
  have hx := zOah a b
  generalize comN a b = n at *
  by_cases h1 : n = a.length
  · by_cases h2 : n = b.length
    · rw [if_pos h1, if_pos h2] at hx
      simp [hc, hx, show (n : Int) = a.length by omega, show (n : Int) = b.length by omega, show (a.length : Int) = b.length by omega]
    · rw [if_pos h1, if_neg h2] at hx
      simp [hc, hx, show (n : Int) = a.length by omega, show ¬ (a.length : Int) = b.length by omega]
  · rw [if_neg h1] at hx
    by_cases h2 : n < b.length ∧ ix a (n : Int) < ix b (n : Int)
    · rw [if_pos h2] at hx
      simp [hc, hx, show ¬ (n : Int) = a.length by omega, h2.1, h2.2, show n < a.length by omega]
    · rw [if_neg h2] at hx
      by_cases h3 : n < b.length
      · simp [hc, hx, show ¬ (n : Int) = a.length by omega, h3, show n < a.length by omega, show ¬ ix a (n : Int) < ix b (n : Int) from fun h => h2 ⟨h3, h⟩]
      · simp [hc, hx, show ¬ (n : Int) = a.length by omega, h3, show n < a.length by omega]
theorem z6sk (a b : List Int) (ha : (a.length : Int) ≤ 9223372036854775807) (hb : (b.length : Int) ≤ 9223372036854775807) : PC zIk1 [iL a, iL b] = some (.int (slxC a b)) := by
  refine zx72 (zuY7 rfl ?_)
  have e := z5oG a b ha hb
  unfold slxC
  by_cases h1 : a.length < b.length
  · simp [h1]
  · by_cases h2 : b.length < a.length
    · simp [h1, h2]
    · simp [h1, h2, e]
end Ab
namespace Ab
def Nst.cs (n : Nst) : List AV := [.int n.calls, .int n.inns, .int n.rets, .int n.stack, .int n.start, bL n.accept, iLL n.call, iLL n.push, iLL n.inner, iLLL n.pop]
def dav (a b : Nst) : AV := .agg [.int a.calls, .int a.inns, .int a.rets, .int a.stack, .int a.start, bL a.accept, iLL a.call, iLL a.push, iLL a.inner, iLLL a.pop, .int b.calls, .int b.inns, .int b.rets, .int b.stack, .int b.start, bL b.accept, iLL b.call, iLL b.push, iLL b.inner, iLLL b.pop]
section
variable {a b : Nst}
theorem zgdv (h : PrOk a b) : PC zmNm [dav a b] = some (.int ((prd a b).mch.size : Int)) := by
  refine zx72 (z5d0 rfl ?_)
  have hn : (prd a b).mch.size = a.accept.length * b.accept.length := by show (prd a b).accept.length = _; exact z1TS
  have e1 := z6bl a
  have e2 := z6bl b
  have h1 := h.n
  have hm : ((a.accept.length : Int) * (b.accept.length : Int)) = ((a.accept.length * b.accept.length : Nat) : Int) := by rw [Int.natCast_mul]
  rw [hn]
  simp [-zJRc, dav, e1, e2]
  rw [hm]
  omega
theorem zwjG (h : PrOk a b) {s : Nat} (hs : s < prN a b) : PC z6RY [dav a b, .int s] = some (.tup [.int ((s / prK b : Nat) : Int), .int ((s % prK b : Nat) : Int)]) := by
  refine zx72 (zBQG rfl ?_)
  have e2 := z6bl b
  have hk := h.k
  have hn : ¬ b.accept = [] := fun e => by rw [e] at hk; simp at hk
  have hq : ((s / prK b : Nat) : Int) = (s : Int) / (b.accept.length : Int) := by unfold prK; exact Int.natCast_ediv _ _
  have hr : ((s % prK b : Nat) : Int) = (s : Int).tmod (b.accept.length : Int) := rfl
  have hle : s / prK b ≤ s := Nat.div_le_self _ _
  have h1 := h.n
  have hs2 : s < a.accept.length * b.accept.length := hs
  generalize s / prK b = x at *
  generalize s % prK b = y at *
  have hbd : -9223372036854775808 ≤ (x : Int) ∧ (x : Int) ≤ 9223372036854775807 := by omega
  simp [-zJRc, dav, e2, hn, hbd, ← hq, ← hr]
theorem zJCg (h : PrOk a b) {s : Nat} (hs : s < prN a b) {c : Int} (c0 : 0 ≤ c) (c1 : c < a.calls) : PC zZvM [dav a b, .int s, .int c] = some (.tup [.int ((prd a b).mch.call s c).1, .int ((prd a b).mch.call s c).2]) := by
  refine zx72 (zovR rfl ?_)
  have e2 := z6bl b
  have hsp := zwjG h hs
  have hp := zPo6 h (s := (s : Int)) (c := c) (by omega) (by omega) c0 c1
  obtain ⟨hx, hy⟩ := h.xy (s := (s : Int)) (by omega) (by omega)
  rw [Int.toNat_natCast] at hp hx hy
  generalize s / prK b = x at *
  generalize s % prK b = y at *
  have ra := h.oa.row (x : Int) (by omega) hx
  have rb := h.ob.row (y : Int) (by omega) hy
  have la := h.oa.lens
  have lb := h.ob.lens
  have hcb := h.c
  have k1 := ztAv a x c (by omega) (by omega) (by omega) c0 (by omega) (by omega)
  have k2 := ztAv b y c (by omega) (by omega) (by omega) c0 (by omega) (by omega)
  have ca := h.oa.call (x : Int) c (by omega) hx c0 c1
  have cb := h.ob.call (y : Int) c (by omega) hy c0 (by omega)
  have pa := h.oa.push (x : Int) c (by omega) hx c0 c1
  have pb := h.ob.push (y : Int) c (by omega) hy c0 (by omega)
  have b1 := zAqx ca cb
  have b2 := zAqx pa pb
  have b3 := Int.mul_nonneg ca.1 (show 0 ≤ (b.accept.length : Int) by omega)
  have b4 := Int.mul_nonneg pa.1 (show 0 ≤ b.stack by have := h.ob.stack; omega)
  have h1 := h.n
  have h2 := h.g
  have hm : ((a.accept.length : Int) * (b.accept.length : Int)) = ((a.accept.length * b.accept.length : Nat) : Int) := by rw [Int.natCast_mul]
  rw [hm] at b1
  have hK : (prK b : Int) = (b.accept.length : Int) := rfl
  rw [hp, hK]
  unfold dav at hsp ⊢
  simp [-zJRc, hsp, k1, k2, e2]
  generalize ix (ix a.call (x : Int)) c * (b.accept.length : Int) = z1 at *
  generalize ix (ix a.push (x : Int)) c * b.stack = z2 at *
  omega
theorem z45k (h : PrOk a b) {s : Nat} (hs : s < prN a b) {c : Int} (c0 : 0 ≤ c) (c1 : c < a.inns) : PC zdOj [dav a b, .int s, .int c] = some (.int ((prd a b).mch.inner s c)) := by
  refine zx72 (z276 rfl ?_)
  have e2 := z6bl b
  have hsp := zwjG h hs
  have hp := z3OJ h (s := (s : Int)) (c := c) (by omega) (by omega) c0 c1
  obtain ⟨hx, hy⟩ := h.xy (s := (s : Int)) (by omega) (by omega)
  rw [Int.toNat_natCast] at hp hx hy
  generalize s / prK b = x at *
  generalize s % prK b = y at *
  have ra := h.oa.row (x : Int) (by omega) hx
  have rb := h.ob.row (y : Int) (by omega) hy
  have la := h.oa.lens
  have lb := h.ob.lens
  have hcb := h.i
  have k1 := zhu3 a x c (by omega) (by omega) c0 (by omega)
  have k2 := zhu3 b y c (by omega) (by omega) c0 (by omega)
  have ca := h.oa.inner (x : Int) c (by omega) hx c0 c1
  have cb := h.ob.inner (y : Int) c (by omega) hy c0 (by omega)
  have b1 := zAqx ca cb
  have b3 := Int.mul_nonneg ca.1 (show 0 ≤ (b.accept.length : Int) by omega)
  have h1 := h.n
  have hm : ((a.accept.length : Int) * (b.accept.length : Int)) = ((a.accept.length * b.accept.length : Nat) : Int) := by rw [Int.natCast_mul]
  rw [hm] at b1
  have hK : (prK b : Int) = (b.accept.length : Int) := rfl
  rw [hp, hK]
  unfold dav at hsp ⊢
  simp [-zJRc, hsp, k1, k2, e2]
  generalize ix (ix a.inner (x : Int)) c * (b.accept.length : Int) = z1 at *
  omega
theorem zKrr (h : PrOk a b) {s : Nat} (hs : s < prN a b) {g : Nat} (hg : (g : Int) < a.stack * b.stack) {r : Int} (r0 : 0 ≤ r) (r1 : r < a.rets) : PC zWl5 [dav a b, .int s, .int g, .int r] = some (.int ((prd a b).mch.pop s g r)) := by
  refine zx72 (zlgd rfl ?_)
  have e2 := z6bl b
  have hsp := zwjG h hs
  have hp := zEkT h (s := (s : Int)) (g := (g : Int)) (r := r) (by omega) (by omega) (by omega) hg r0 r1
  obtain ⟨hx, hy⟩ := h.xy (s := (s : Int)) (by omega) (by omega)
  obtain ⟨hg1, hg2⟩ := h.gh (g := (g : Int)) (by omega) hg
  have hgb := h.ob.stack
  obtain ⟨k, hk⟩ := Int.eq_ofNat_of_zero_le (show 0 ≤ b.stack by omega)
  simp only [Int.toNat_natCast] at hp hx hy hg1 hg2
  have hq : ((g / b.stack.toNat : Nat) : Int) = (g : Int) / b.stack := by rw [hk]; exact Int.natCast_ediv _ _
  have hr : ((g % b.stack.toNat : Nat) : Int) = (g : Int).tmod b.stack := by rw [hk]; rfl
  have hle : g / b.stack.toNat ≤ g := Nat.div_le_self _ _
  generalize s / prK b = x at *
  generalize s % prK b = y at *
  generalize g / b.stack.toNat = u at *
  generalize g % b.stack.toNat = v at *
  have ra := h.oa.row (x : Int) (by omega) hx
  have rb := h.ob.row (y : Int) (by omega) hy
  have la := h.oa.lens
  have lb := h.ob.lens
  have qa := h.oa.popl (x : Int) (u : Int) (by omega) hx (by omega) hg1
  have qb := h.ob.popl (y : Int) (v : Int) (by omega) hy (by omega) hg2
  have hcb := h.r
  have k1 := zwvy a x u r (by omega) (by omega) (by omega) (by omega) r0 (by omega)
  have k2 := zwvy b y v r (by omega) (by omega) (by omega) (by omega) r0 (by omega)
  have ca := h.oa.pop (x : Int) (u : Int) r (by omega) hx (by omega) hg1 r0 r1
  have cb := h.ob.pop (y : Int) (v : Int) r (by omega) hy (by omega) hg2 r0 (by omega)
  have b1 := zAqx ca cb
  have b3 := Int.mul_nonneg ca.1 (show 0 ≤ (b.accept.length : Int) by omega)
  have h1 := h.n
  have h2 := h.g
  have hm : ((a.accept.length : Int) * (b.accept.length : Int)) = ((a.accept.length * b.accept.length : Nat) : Int) := by rw [Int.natCast_mul]
  rw [hm] at b1
  have hK : (prK b : Int) = (b.accept.length : Int) := rfl
  rw [hp, hK]
  have hb0 : ¬ b.stack = 0 := by omega
  have hbd : -9223372036854775808 ≤ (u : Int) ∧ (u : Int) ≤ 9223372036854775807 := by omega
  unfold dav at hsp ⊢
  simp [-zJRc, hsp, k1, k2, e2, ← hq, ← hr, hb0, hbd]
  generalize ix (ix (ix a.pop (x : Int)) (u : Int)) r * (b.accept.length : Int) = z1 at *
  omega
theorem zNTn (h : PrOk a b) : MOk zZPs (dav a b) (prd a b).mch := by
  have hN : (((prd a b).mch.size : Nat) : Int) = ((prN a b : Nat) : Int) := by show (((prd a b).accept.length : Nat) : Int) = _; rw [z1TS]; rfl
  refine ⟨by simp [dav], by simp [dav], ⟨zmNm, rfl, zgdv h⟩, ⟨zZvM, rfl, fun s c s0 s1 c0 c1 => ?_⟩, ⟨zdOj, rfl, fun s c s0 s1 c0 c1 => ?_⟩, ⟨zWl5, rfl, fun s c u r s0 s1 c0 c1 u0 u1 r0 r1 => ?_⟩⟩
  · obtain ⟨s, rfl⟩ := Int.eq_ofNat_of_zero_le s0
    exact zJCg h (by omega) c0 c1
  · obtain ⟨s, rfl⟩ := Int.eq_ofNat_of_zero_le s0
    exact z45k h (by omega) c0 c1
  · have hg := (zBaE h).push s c s0 s1 c0 c1
    have hg : 0 ≤ ((prd a b).mch.call s c).2 ∧ ((prd a b).mch.call s c).2 < a.stack * b.stack := hg
    generalize ((prd a b).mch.call s c).2 = g at *
    obtain ⟨u, rfl⟩ := Int.eq_ofNat_of_zero_le u0
    obtain ⟨g, rfl⟩ := Int.eq_ofNat_of_zero_le hg.1
    exact zKrr h (by omega) hg.2 r0 r1
end
end Ab
namespace Ab
theorem chunkB : ∀ {xs : List Bool}, chunk none xs.length (xs.map AV.bool) = xs.map .bool
  | [] => rfl
  | x :: xs => by
    have e := chunkB (xs := xs)
    simp only [List.length_cons, List.map_cons, chunk, e]
theorem zwGZ {vars : List AV} {fl : Option (Nat × AV)} {ws : List Bool} {k : Nat} {Q : Ex → St → Prop} (hn : nth vars k = .sl 0 ws.length 0 ws.length) (h : Q .nor ⟨setN vars k (.imm true (ws.map .bool)), fl, [⟨none, ws.map .bool, .dead⟩]⟩) : W L (.frz k) ⟨vars, fl, [⟨none, ws.map .bool, .live⟩]⟩ Q := by
  have hri : ∀ (l : List Bool) (σ : List Blk) (acc : List Nat), (l.map AV.bool).foldl (fun acc y => reach σ 11 y acc) acc = acc := fun l => by
    induction l with
    | nil => intro _ _; rfl
    | cons x l ih => intro σ acc; simp only [List.map_cons, List.foldl_cons]; exact ih σ acc
  have hr : reach [⟨none, ws.map .bool, .live⟩] vd (.sl 0 ws.length 0 ws.length) [] = [0] := by
    show reach [⟨none, ws.map .bool, .live⟩] (11 + 1) (.sl 0 ws.length 0 ws.length) [] = [0]
    unfold reach
    simp only [List.contains_nil, Bool.false_eq_true, if_false, blk]
    exact hri ws _ [0]
  have hu : upto [⟨none, ws.map .bool, .live⟩] 0 ws.length = some ⟨none, ws.map .bool, .live⟩ := by
    unfold upto
    simp [blk]
  have hv : view [⟨none, ws.map .bool, .live⟩] false vd (.sl 0 ws.length 0 ws.length) = some (bL ws) := by
    show view _ false (11 + 1) _ = _
    unfold view
    simp only [hu]
    simp only [kst, List.drop_zero, Nat.zero_add, Nat.mul_one]
    have e : ∀ τ, mapO (view τ false 11) (ws.map AV.bool) = some (ws.map AV.bool) := fun τ => zwdp (f := AV.bool) (g := AV.bool) fun _ _ => rfl
    rw [if_pos (by simp), chunkB, e]
  have hs : surely [⟨none, ws.map .bool, .live⟩] (.sl 0 ws.length 0 ws.length) = true := by
    simp only [surely, hu]
  refine ⟨0, .nor, _, ?_, h⟩
  simp only [exec, hn, hr]
  have hd : dieIf (fun b => !([0] : List Nat).contains b) 0 [⟨none, ws.map .bool, .live⟩] = [⟨none, ws.map .bool, .live⟩] := by simp [dieIf]
  rw [hd, hv]
  simp only [hs]
  simp [dieIf]
def dgl (a b : Nst) (i : Nat) : List Bool := (List.range (prN a b)).map fun k => decide (k < i) && prAcc a b k
theorem z3BJ {a b : Nst} {i : Nat} : (dgl a b i).length = prN a b := by simp [dgl]
theorem dgl_0 {a b : Nst} : (dgl a b 0).map AV.bool = List.replicate (prN a b) (.bool false) := by
  rw [← zsAV]
  simp [dgl]
theorem dgl_n {a b : Nst} : dgl a b (prN a b) = (prd a b).accept := by
  show _ = (List.range (prN a b)).map (prAcc a b)
  refine List.map_congr_left fun k hk => ?_
  rw [decide_eq_true (List.mem_range.1 hk)]; rfl
theorem dgl_s {a b : Nst} {i : Nat} (hi : i < prN a b) : (dgl a b i).set i (prAcc a b i) = dgl a b (i + 1) := by
  apply List.ext_getElem
  · simp [dgl]
  · intro j h1 h2
    rw [List.getElem_set]
    simp only [dgl, List.getElem_map, List.getElem_range]
    by_cases e : i = j
    · subst e; simp
    · rw [if_neg e]
      congr 1
      rw [decide_eq_decide]; omega
def errA (e : Int) : AV := .tup [.imm false [], .bool false, .int e]
noncomputable def dfA (a b : Nst) : AV := if a.validE ≠ 0 then errA a.validE else if b.validE ≠ 0 then errA b.validE else if a.calls ≠ b.calls ∨ a.inns ≠ b.inns ∨ a.rets ≠ b.rets then errA 15 else fAns ((prd a b).mch.f1 (prd a b).start (ix (prd a b).accept)) ((prd a b).mch.f1E (prd a b).start (ix (prd a b).accept))
theorem zpY5 {a b : Nst} (ha : a.Ok) (hb : b.Ok) (sa : a.small = true) (sb : b.small = true) (hc : a.calls = b.calls) (hi : a.inns = b.inns) (hr : a.rets = b.rets) : PrOk a b := by
  simp only [Nst.small, Bool.and_eq_true, decide_eq_true_eq] at sa sb
  have h1 : a.accept.length * b.accept.length ≤ 5 * 5 := Nat.mul_le_mul (by omega) (by omega)
  have h2 : a.stack * b.stack ≤ 6 * 6 := Int.mul_le_mul (by omega) (by omega) (by have := hb.stack; omega) (by omega)
  exact ⟨ha, hb, hc.symm, hi.symm, hr.symm, by omega, by omega⟩
theorem zgGa (a b : Nst) (h : a.fits) (h' : b.fits) (sa : a.small = true) (sb : b.small = true) : PC znwB [a.av, b.av] = some (dfA a b) := by
  refine zx72 (zJMk rfl ?_)
  have e1 := zYdA a h
  have e2 := zYdA b h'
  unfold dfA
  by_cases hv : a.validE = 0
  case neg => simp [-zJRc, e1, hv, errA]
  by_cases hw : b.validE = 0
  case neg => simp [-zJRc, e1, e2, hv, hw, errA]
  by_cases hx : a.calls ≠ b.calls ∨ a.inns ≠ b.inns ∨ a.rets ≠ b.rets
  · rw [if_neg (by simpa using hv), if_neg (by simpa using hw), if_pos hx]
    have key : ∀ p q r : Prop, (p → q → r → False) → (p = True ∧ q = True ∧ r = False) ∨ (p = True ∧ q = False) ∨ p = False := fun p q r h => by
      by_cases hp : p <;> by_cases hq : q <;> by_cases hr : r <;> simp [hp, hq, hr]
      exact absurd (h hp hq hr) id
    rcases key (a.calls = b.calls) (a.inns = b.inns) (a.rets = b.rets) (fun c1 c2 c3 => by rcases hx with hx | hx | hx; exact hx c1; exact hx c2; exact hx c3) with ⟨c1, c2, c3⟩ | ⟨c1, c2⟩ | c1
    · simp [-zJRc, e1, e2, hv, hw, c1, c2, c3, errA]
    · simp [-zJRc, e1, e2, hv, hw, c1, c2, errA]
    · simp [-zJRc, e1, e2, hv, hw, c1, errA]
  rw [if_neg (by simpa using hv), if_neg (by simpa using hw), if_neg hx]
  have c1 : a.calls = b.calls := Classical.byContradiction fun h => hx (.inl h)
  have c2 : a.inns = b.inns := Classical.byContradiction fun h => hx (.inr (.inl h))
  have c3 : a.rets = b.rets := Classical.byContradiction fun h => hx (.inr (.inr h))
  have oa := zdZr hv
  have ob := zdZr hw
  have hp := zpY5 oa ob sa sb c1 c2 c3
  have hsz := zgdv hp
  have hn := hp.n
  have hg := hp.g
  have hm : ((a.accept.length : Int) * (b.accept.length : Int)) = ((a.accept.length * b.accept.length : Nat) : Int) := by rw [Int.natCast_mul]
  have l1 : ¬ (144 : Int) < (a.accept.length : Int) * (b.accept.length : Int) := by omega
  have l2 : ¬ (1024 : Int) < a.stack * b.stack := by omega
  have l3 : -9223372036854775808 ≤ (a.accept.length : Int) * (b.accept.length : Int) ∧ (a.accept.length : Int) * (b.accept.length : Int) ≤ 9223372036854775807 := by omega
  have gp := Int.mul_nonneg (show 0 ≤ a.stack by have := oa.stack; omega) (show 0 ≤ b.stack by have := ob.stack; omega)
  have l4 : -9223372036854775808 ≤ a.stack * b.stack ∧ a.stack * b.stack ≤ 9223372036854775807 := by omega
  have hN : (((prd a b).mch.size : Nat) : Int) = ((prN a b : Nat) : Int) := by show (((prd a b).accept.length : Nat) : Int) = _; rw [z1TS]; rfl
  rw [hN] at hsz
  unfold dav at hsz
  have d1 := eq_true c1
  have d2 := eq_true c2
  have d3 := eq_true c3
  clear hx
  simp [-zJRc, e1, e2, hv, hw, d1, d2, d3, l1, l2, l3, l4, hsz]
  refine ⟨by unfold prN; omega, ?_⟩
  refine zv8C (fun i : Nat => [(8, .int i)]) (fun i => [⟨none, (dgl a b i).map .bool, .live⟩]) (fun i => i ≤ prN a b) (fun i => prN a b - i) 0 (by rw [dgl_0]; rfl) (by simp) ?_
  intro i i1
  by_cases hi : i < prN a b
  · have hsp := zwjG hp hi
    unfold dav at hsp
    obtain ⟨hx, hy⟩ := hp.xy (s := (i : Int)) (by omega) (by omega)
    rw [Int.toNat_natCast] at hx hy
    have hst := dgl_s hi
    have hlen := z3BJ (a := a) (b := b) (i := i)
    have hpa : prAcc a b i = (ix a.accept ((i / prK b : Nat) : Int) != ix b.accept ((i % prK b : Nat) : Int)) := rfl
    generalize i / prK b = x at *
    generalize i % prK b = y at *
    have hx' := eq_true hx
    have hy' := eq_true hy
    have hi' := eq_true hi
    rw [hpa] at hst
    simp [-zJRc, hi, hsp, hx', hy', hlen]
    exact ⟨by unfold prN at *; omega, zGkM (i + 1) (by simp) (by rw [← hst, List.map_set]; rfl) (by omega) (by omega)⟩
  · have : i = prN a b := by omega
    subst this
    have okp := zBaE hp
    have hpn : (prd a b).accept.length = prN a b := z1TS
    have hss := okp.states
    have hst := okp.start
    obtain ⟨s, hs⟩ := Int.eq_ofNat_of_zero_le hst.1
    have hf := zkpq (zcLc okp) (by show 1 ≤ (prd a b).accept.length; omega) (by show (prd a b).accept.length ≤ 1000; omega) (zNTn hp) (nn := a) rfl rfl rfl (s := s) (by show s < (prd a b).accept.length; omega) (gs := (prd a b).accept) rfl (q := false)
    rw [← hs] at hf
    have hst2 : (prd a b).start = a.start * (b.accept.length : Int) + b.start := rfl
    have e3 := z6bl b
    have b3 := Int.mul_nonneg oa.start.1 (show 0 ≤ (b.accept.length : Int) by omega)
    have bb := ob.start
    have bd1 : -9223372036854775808 ≤ a.start * (b.accept.length : Int) ∧ a.start * (b.accept.length : Int) ≤ 9223372036854775807 := by omega
    have bd2 : -9223372036854775808 ≤ a.start * (b.accept.length : Int) + b.start ∧ a.start * (b.accept.length : Int) + b.start ≤ 9223372036854775807 := by omega
    simp [-zJRc]
    refine zwGZ (by simp [z3BJ]) ?_
    rw [dgl_n]
    unfold dav at hf
    cases hm : (prd a b).mch.f1 (prd a b).start (ix (prd a b).accept) with
    | none => rw [hm] at hf; rw [hst2] at hf ⊢; simp [-zJRc, hf, e3, bd1, bd2, fAns]
    | some w => rw [hm] at hf; rw [hst2] at hf ⊢; simp [-zJRc, hf, e3, bd1, bd2, fAns]
end Ab
namespace Ab
section
variable {a b : Nst}
theorem zTP5 (a b : Nst) (sa : a.small = true) (sb : b.small = true) : (∃ e : Int, e ≠ 0 ∧ dfA a b = .tup [.imm false [], .bool false, .int e]) ∨ (PrOk a b ∧ a.validE = 0 ∧ b.validE = 0 ∧ (((prd a b).mch.f1 (prd a b).start (ix (prd a b).accept) = none ∧ (prd a b).mch.f1E (prd a b).start (ix (prd a b).accept) = 0 ∧ dfA a b = .tup [.imm false [], .bool false, .int 0]) ∨ ∃ w, (prd a b).mch.f1 (prd a b).start (ix (prd a b).accept) = some w ∧ dfA a b = .tup [iL w, .bool true, .int 0])) := by
  unfold dfA
  by_cases hv : a.validE = 0
  case neg => rw [if_pos hv]; exact .inl ⟨_, hv, rfl⟩
  by_cases hw : b.validE = 0
  case neg => rw [if_neg (by simpa using hv), if_pos hw]; exact .inl ⟨_, hw, rfl⟩
  by_cases hx : a.calls ≠ b.calls ∨ a.inns ≠ b.inns ∨ a.rets ≠ b.rets
  · rw [if_neg (by simpa using hv), if_neg (by simpa using hw), if_pos hx]
    exact .inl ⟨15, by simp, rfl⟩
  rw [if_neg (by simpa using hv), if_neg (by simpa using hw), if_neg hx]
  have c1 : a.calls = b.calls := Classical.byContradiction fun h => hx (.inl h)
  have c2 : a.inns = b.inns := Classical.byContradiction fun h => hx (.inr (.inl h))
  have c3 : a.rets = b.rets := Classical.byContradiction fun h => hx (.inr (.inr h))
  have hp := zpY5 (zdZr hv) (zdZr hw) sa sb c1 c2 c3
  cases hf : (prd a b).mch.f1 (prd a b).start (ix (prd a b).accept) with
  | none =>
    by_cases he : (prd a b).mch.f1E (prd a b).start (ix (prd a b).accept) = 0
    · exact .inr ⟨hp, hv, hw, .inl ⟨rfl, he, by rw [he]; rfl⟩⟩
    · exact .inl ⟨_, he, rfl⟩
  | some w => exact .inr ⟨hp, hv, hw, .inr ⟨w, rfl, rfl⟩⟩
end
end Ab
