/- Whether a machine is too great. The reachable states. separate.Charset. separate.Identifiers. wordset.Has, and what the identifiers hold. slices.Concat of lists of words; wordset.Union. Condition: none. -/
import Derived.Test.YtlgfempnnijfnaaGreatGbf
import Derived.Test.YtlgfempnnijfnaaGreatMutB
import Derived.Test.YtlgfempnnijfnaaGreatSepA
import Derived.Test.YtlgfempnnijfnaaGreatSepE
import Derived.Test.YtlgfempnnijfnaaGreatHomV
import Derived.Test.YtlgfempnnijfnaaGreatMnlT
import Derived.Test.YtlgfempnnijfnaaGreatSepT
set_option linter.all false
set_option maxRecDepth 100000
set_option maxHeartbeats 4000000
namespace Ab
def Mly.great (m : Mly) : Bool := decide (12 < (m.next.length : Int)) || decide (12 < (m.out.length : Int)) || decide (6 < m.inputs) || (m.next.any fun r => decide (12 < (r.length : Int))) || (m.out.any fun r => decide (12 < (r.length : Int)))
theorem zMHv (m : Mly) (h : m.fits) : PC zBoU [m.av] = some (.bool m.great) := by
  refine zx72 (zmfd rfl ?_)
  have hn := h.next.1
  have ho := h.out.1
  have g1 : 12 < (m.next.length : Int) ∨ 12 < (m.out.length : Int) ∨ 6 < m.inputs → m.great = true := by
    intro h; unfold Mly.great; simp only [Bool.or_eq_true, decide_eq_true_eq]; omega
  have g2 : ∀ i, 0 ≤ i → i < (m.next.length : Int) → 12 < ((ix m.next i).length : Int) → m.great = true := fun i h0 h1 h2 => by
    have := zNJm (p := fun r => decide (12 < (r.length : Int))) h0 h1 (by simpa using h2)
    unfold Mly.great; rw [this]; simp
  have g3 : ∀ i, 0 ≤ i → i < (m.out.length : Int) → 12 < ((ix m.out i).length : Int) → m.great = true := fun i h0 h1 h2 => by
    have := zNJm (p := fun r => decide (12 < (r.length : Int))) h0 h1 (by simpa using h2)
    unfold Mly.great; rw [this]; simp
  simp
  refine ⟨fun h => (g1 (.inl h)), fun a1 => ⟨fun h => (g1 (.inr (.inl h))), fun a2 => ⟨fun h => (g1 (.inr (.inr h))), fun a3 => ?_⟩⟩⟩
  refine zv8C (fun i : Int => [(2, .int i)]) (fun _ => []) (fun i => 0 ≤ i ∧ i ≤ m.next.length ∧ ∀ j, 0 ≤ j → j < i → ((ix m.next j).length : Int) ≤ 12) (fun i => (m.next.length - i).toNat) 0 rfl ⟨by omega, by omega, zguy⟩ fun i ⟨i0, i1, i2⟩ => ?_
  by_cases hi : i < m.next.length
  · simp [-zJRc, hi, i0]
    refine ⟨fun h => (g2 i i0 hi h), fun h => ⟨by omega, zGkM (i + 1) rfl rfl ⟨by omega, by omega, zvtS (by omega) i2⟩ (by omega)⟩⟩
  · simp [hi]
    refine zv8C (fun i : Int => [(5, .int i)]) (fun _ => []) (fun i => 0 ≤ i ∧ i ≤ m.out.length ∧ ∀ j, 0 ≤ j → j < i → ((ix m.out j).length : Int) ≤ 12) (fun i => (m.out.length - i).toNat) 0 rfl ⟨by omega, by omega, zguy⟩ fun k ⟨k0, k1, k2⟩ => ?_
    by_cases hk : k < m.out.length
    · simp [-zJRc, hk, k0]
      refine ⟨fun h => (g3 k k0 hk h), fun h => ⟨by omega, zGkM (k + 1) rfl rfl ⟨by omega, by omega, zvtS (by omega) k2⟩ (by omega)⟩⟩
    · simp [hk]
      have e1 := ztwy (p := fun r : List Int => decide (12 < (r.length : Int))) (xs := m.next) fun j a b => by simpa using i2 j a (by omega)
      have e2 := ztwy (p := fun r : List Int => decide (12 < (r.length : Int))) (xs := m.out) fun j a b => by simpa using k2 j a (by omega)
      unfold Mly.great
      rw [e1, e2]
      simp
      omega
end Ab
namespace Ab
theorem zEZS {f : Nat} {args : List AV} {b : Bool} (h : PC f args = some (.bool b)) : ∃ τ, L f args [] = some (.bool b, τ) := by
  simp only [PC, PCx] at h
  split at h
  · rename_i v τ h1
    rw [ztrE h] at h1
    exact ⟨τ, h1⟩
  · simp at h
end Ab
namespace Ab
theorem swl_w {m : Mly} (hM : Mnl m) (h8 : m.next.length ≤ 8) {ws : List (List Int)} (h : Swl m ws) : ∀ w ∈ ws, w.length ≤ 64 ∧ ∀ x ∈ w, 0 ≤ x ∧ x < m.inputs := fun w hw => by
  obtain ⟨x, y, hx, hy, hne, rfl⟩ := h.of w hw
  obtain ⟨_, h1, _, h2⟩ := sw_ok hM h8 hx hy hne
  exact ⟨h2, h1⟩
theorem swS_s {m : Mly} (h : m.fits) (hM : Mnl m) (hv : m.validE = 0) (h8 : m.next.length ≤ 8) {s t : Int} (hs : 0 ≤ s ∧ s < (m.next.length : Int)) (ht : 0 ≤ t ∧ t < (m.next.length : Int)) (hne : s ≠ t) : PC zbRp [m.av, .int s, .int t] = some (.tup [iL (m.sw s t), .bool true, .int 0]) := by
  have := zv5c m h hv s t hs ht
  obtain ⟨e, _⟩ := sw_ok hM h8 hs ht hne
  rw [this, e]; rfl
noncomputable def Mly.chA (m : Mly) : List (List Int) := if m.mchk m.mnlb = 0 then sortU (m.chs m.next.length) else []
theorem z7Ia (m : Mly) (h : m.fits) (hn8 : m.validE = 0 → m.next.length ≤ 8) : PC zxGI [m.av] = some (.tup [iLL m.chA, .int (m.mchk m.mnlb)]) := by
  refine zx72 (zm5m rfl ?_)
  have hc := zeP2 m h
  by_cases h0 : m.mchk m.mnlb = 0
  case neg =>
    have e : m.chA = [] := if_neg h0
    rw [e]
    simp [hc, h0]
  obtain ⟨hv, hM⟩ := zwBY h0
  have h8 := hn8 hv
  have hm := hM.ok
  have hst := hm.states
  have e : m.chA = sortU (m.chs m.next.length) := if_pos h0
  rw [e]
  rw [h0] at hc ⊢
  simp [-zJRc, hc]
  refine zv8C (fun i : Nat => [(3, .int i), (7, .sl 0 (m.chs i).length 0 (m.chs i).length)]) (fun i => [loutL (m.chs i)]) (fun i => i ≤ m.next.length) (fun i => m.next.length - i) 0 (by simp [sets, Mly.chs]) (by omega) ?_
  intro i hi1
  have hX := zSAn hM h8 i hi1
  by_cases hi : i < m.next.length
  · simp [-zJRc, hi]
    refine ⟨by omega, ?_⟩
    have hR := fun j => Chi.row hM h8 hX j
    have hcs : m.chs (i + 1) = m.chr i (m.chs i) (m.next.length - (i + 1)) := rfl
    generalize m.chs i = set at *
    refine zv8C (fun j : Nat => [(6, .int ((i + 1 + j : Nat) : Int)), (7, .sl 0 (m.chr i set j).length 0 (m.chr i set j).length)]) (fun j => [loutL (m.chr i set j)]) (fun j => i + 1 + j ≤ m.next.length) (fun j => m.next.length - j) 0 (by simp [sets, Mly.chr]) (by omega) ?_
    intro j hj1
    have hY := hR j hj1
    have hE : m.chr i set (j + 1) = m.chp (i : Int) ((i + 1 + j : Nat) : Int) (m.chr i set j) := rfl
    generalize hws : m.chr i set j = ws at *
    by_cases hj : i + 1 + j < m.next.length
    · have hw := swl_w hM h8 hY.ok
      have hlen := hY.ok.len
      have hs := zDqu m hm ws (i : Int) ((i + 1 + j : Nat) : Int) ⟨by omega, by omega⟩ ⟨by omega, by omega⟩ (by omega) (fun w hx => by have := (hw w hx).1; omega) (fun w hx => (hw w hx).2)
      have hvw := zzaI (σ := [loutL ws]) (b := 0) (out := ws) rfl
      have hS := swS_s h hM hv h8 (s := (i : Int)) (t := ((i + 1 + j : Nat) : Int)) ⟨by omega, by omega⟩ ⟨by omega, by omega⟩ (by omega)
      unfold Mly.chp at hE
      have hjc : (((i + 1 + j : Nat) : Int) < (m.next.length : Int)) = True := eq_true (by omega)
      have hjc' : ((i : Int) + 1 + (j : Int) < (m.next.length : Int)) = True := eq_true (by omega)
      generalize hT : ((i + 1 + j : Nat) : Int) = T at *
      cases hb : m.sep (i : Int) T ws with
      | true =>
        rw [hb] at hs hE
        rw [if_pos rfl] at hE
        obtain ⟨τ, hz⟩ := zEZS hs
        have hz : L z5pz [.agg [.int m.inputs, .int m.start, .imm false (m.next.map iL), .imm false (m.out.map iL)], iLL ws, .int (i : Int), .int T] [] = some (.bool true, τ) := hz
        simp [-zJRc, hjc, hjc', hvw, hz]
        exact ⟨by omega, zGkM (j + 1) (by simp [hE]; omega) (by rw [hE]) (by omega) (by omega)⟩
      | false =>
        rw [hb] at hs hE
        rw [if_neg (by simp)] at hE
        obtain ⟨τ, hz⟩ := zEZS hs
        have hz : L z5pz [.agg [.int m.inputs, .int m.start, .imm false (m.next.map iL), .imm false (m.out.map iL)], iLL ws, .int (i : Int), .int T] [] = some (.bool false, τ) := hz
        simp [-zJRc, hjc, hjc', hvw, hz, hS]
        exact ⟨by split <;> simp, by omega, by omega, zGkM (j + 1) (by simp [hE]; omega) (by rw [hE]; simp [loutL]) (by omega) (by omega)⟩
    · have hjc : ((i : Int) + 1 + (j : Int) < (m.next.length : Int)) = False := eq_false (by omega)
      have ej : j = m.next.length - (i + 1) := by omega
      subst ej
      simp [-zJRc, hjc]
      exact ⟨by omega, zGkM (i + 1) (by simp [hcs, hws]) (by rw [hcs, hws]) (by omega) (by omega)⟩
  · have ei : i = m.next.length := by omega
    subst ei
    have hw := swl_w hM h8 hX.ok
    have hlen := hX.ok.len
    have hsrt := zGle (m.chs m.next.length) (by omega) fun w hx => by have := (hw w hx).1; omega
    simp
    refine zNE6 rfl ?_
    simp [hsrt]
end Ab
namespace Ab
def idf (K : Nat) (R : Nat → List (List Int)) (r : Nat) : AV := if r < K then .sl (1 + r) (R r).length 0 (R r).length else .snil
def idc (n K : Nat) (R : Nat → List (List Int)) : List AV := (List.range n).map (idf K R)
def idb (l : List (List Int)) : Blk := ⟨none, l.map iL, .live⟩
def idm (n K : Nat) (R : Nat → List (List Int)) : List Blk := ⟨none, idc n K R, .live⟩ :: (List.range K).map fun r => idb (R r)
section
variable {n K r : Nat} {R R' : Nat → List (List Int)} {w : List Int} {B : Blk}
theorem zzM7 : (idc n K R).length = n := by simp [idc]
theorem zwch : (idm n K R).length = K + 1 := by simp [idm]
theorem idm_0 : blk (idm n K R) 0 = some ⟨none, idc n K R, .live⟩ := rfl
theorem zcK2 (h : r < n) : elm (idc n K R) r = some (idf K R r) := by rw [znyW]; simp [idc, h]
theorem zpLc (h : r < K) : blk (idm n K R) (1 + r) = some (idb (R r)) := by
  rw [blkS, idm, show 1 + r = r + 1 by omega, List.getElem?_cons_succ]
  simp [h]
theorem zvCQ (hK : K ≤ n) (h : ∀ r < K, R r = R' r) : idm n K R = idm n K R' := by
  unfold idm idc
  congr 1
  · congr 1
    refine List.map_congr_left fun r _ => ?_
    unfold idf
    by_cases hr : r < K
    · rw [if_pos hr, if_pos hr, h r hr]
    · rw [if_neg hr, if_neg hr]
  · exact List.map_congr_left fun r hr => by rw [h r (by simpa using hr)]
theorem zqm6 (hK : K ≤ n) (h : r < K) : setB (setB (idm n K R) (1 + r) ⟨none, (R r).map iL ++ [iL w], .live⟩) 0 ⟨none, (idc n K R).set r (.sl (1 + r) ((R r).length + 1) 0 ((R r).length + 1)), .live⟩ = idm n K fun x => if x = r then R r ++ [w] else R x := by
  rw [setBS, setBS, idm, idm, show 1 + r = r + 1 by omega, List.set_cons_succ, List.set_cons_zero]
  congr 1
  · congr 1
    apply List.ext_getElem
    · simp [idc]
    · intro i h1 h2
      simp only [idc, List.getElem_set, List.getElem_map, List.getElem_range, idf]
      by_cases e : r = i
      · subst e; rw [if_pos rfl, if_pos h, if_pos rfl]; simp; omega
      · have e' : ¬ i = r := fun h => e h.symm
        rw [if_neg e]; simp only [if_neg e']
  · apply List.ext_getElem
    · simp
    · intro i h1 h2
      simp only [List.getElem_set, List.getElem_map, List.getElem_range, idb]
      by_cases e : r = i
      · subst e; rw [if_pos rfl, if_pos rfl]; simp
      · have e' : ¬ i = r := fun h => e h.symm
        rw [if_neg e]; simp only [if_neg e']
theorem zPiP (h : K < n) : setB (idm n K R ++ [⟨none, [iL w], .live⟩]) 0 ⟨none, (idc n K R).set K (.sl (K + 1) 1 0 1), .live⟩ = idm n (K + 1) fun x => if x = K then [w] else R x := by
  rw [setBS, idm, idm, List.cons_append, List.set_cons_zero]
  congr 1
  · congr 1
    apply List.ext_getElem
    · simp [idc]
    · intro i h1 h2
      simp only [idc, List.getElem_set, List.getElem_map, List.getElem_range, idf]
      by_cases e : K = i
      · subst e; rw [if_pos rfl, if_pos (by omega), if_pos rfl]; simp; omega
      · rw [if_neg e]
        by_cases e2 : i < K
        · rw [if_pos e2, if_pos (by omega), if_neg (fun h => e h.symm)]
        · rw [if_neg e2, if_neg (by omega)]
  · rw [List.range_succ, List.map_append]
    congr 1
    · exact List.map_congr_left fun r hr => by
        have : r < K := by simpa using hr
        rw [if_neg (by omega)]
    · simp [idb]
theorem zDev : idm n 0 R = [⟨none, List.replicate n .snil, .live⟩] := by
  unfold idm idc
  simp only [List.range_zero, List.map_nil]
  congr 2
  apply List.ext_getElem
  · simp
  · intro i h1 h2; simp [idf]
end
theorem zQJU {σ : List Blk} {b : Nat} : ∀ (f : Nat) (x : AV) (acc : List Nat), b ∈ acc → b ∈ reach σ f x acc
  | 0, _, _, h => h
  | f + 1, x, acc, h => by
    have hf : ∀ (l : List AV) (acc : List Nat), b ∈ acc → b ∈ l.foldl (fun acc y => reach σ f y acc) acc := by
      intro l
      induction l with
      | nil => exact fun _ h => h
      | cons y l ih => exact fun acc h => ih _ (zQJU f y acc h)
    unfold reach
    split
    · split
      · exact h
      · split
        · exact hf _ _ (List.mem_cons_of_mem _ h)
        · exact h
    · split
      · exact h
      · split
        · exact hf _ _ (List.mem_cons_of_mem _ h)
        · exact h
    · exact hf _ _ h
    · exact hf _ _ h
    · exact hf _ _ h
    · exact zQJU f _ _ h
    · exact h
theorem zRx8 {σ : List Blk} {f b : Nat} : ∀ (l : List AV) (acc : List Nat), b ∈ acc → b ∈ l.foldl (fun acc y => reach σ f y acc) acc
  | [], _, h => h
  | y :: l, acc, h => zRx8 l _ (zQJU f y acc h)
theorem zz4q {σ : List Blk} {f b : Nat} {y : AV} (hy : ∀ acc, b ∈ reach σ f y acc) : ∀ (l : List AV) (acc : List Nat), (b ∈ acc ∨ y ∈ l) → b ∈ l.foldl (fun acc y => reach σ f y acc) acc
  | [], _, h => by simpa using h
  | x :: l, acc, h => by
    rw [List.foldl_cons]
    refine zz4q hy l _ ?_
    rcases h with h | h
    · exact .inl (zQJU f x acc h)
    · rcases List.mem_cons.1 h with rfl | h
      · exact .inl (hy acc)
      · exact .inr h
theorem z8HP {σ : List Blk} {f b u o k : Nat} {B : Blk} (hb : blk σ b = some B) (acc : List Nat) : b ∈ reach σ (f + 1) (.sl b u o k) acc := by
  unfold reach
  by_cases h : acc.contains b
  · simp only [h, if_true]; simpa using h
  · simp only [hb]
    rw [if_neg h]
    have hf : ∀ (l : List AV) (acc : List Nat), b ∈ acc → b ∈ l.foldl (fun acc y => reach σ f y acc) acc := by
      intro l
      induction l with
      | nil => exact fun _ h => h
      | cons y l ih => exact fun acc h => ih _ (zQJU f y acc h)
    exact hf _ _ (by simp)
theorem zSHn {p : Nat → Bool} : ∀ {σ : List Blk} {i : Nat}, (∀ j, i ≤ j → j < i + σ.length → p j = false) → dieIf p i σ = σ
  | [], _, _ => rfl
  | B :: r, i, h => by
    unfold dieIf
    rw [h i (Nat.le_refl _) (by simp), zSHn fun j h1 h2 => h j (by omega) (by simp; omega)]
    rfl
theorem zWOU {p : Nat → Bool} : ∀ {σ : List Blk} {i : Nat}, (dieIf p i σ).length = σ.length
  | [], _ => rfl
  | B :: r, i => by unfold dieIf; simp [zWOU]
theorem zhZi {vars : List AV} {fl : Option (Nat × AV)} {n K k : Nat} {R : Nat → List (List Int)} {Q : Ex → St → Prop} (hK : K ≤ n) (hR : ∀ r, r < n → K ≤ r → R r = []) (hn : nth vars k = .sl 0 n 0 n) (h : ∀ σ : List Blk, σ.length = K + 1 → Q .nor ⟨setN vars k (.imm true ((List.range n).map fun r => iLL (R r))), fl, σ⟩) : W L (.frz k) ⟨vars, fl, idm n K R⟩ Q := by
  have hall : ∀ b, b < K + 1 → b ∈ reach (idm n K R) vd (.sl 0 n 0 n) [] := by
    intro b hb
    show b ∈ reach (idm n K R) (11 + 1) (.sl 0 n 0 n) []
    unfold reach
    simp only [idm_0]
    rw [if_neg (by simp)]
    cases b with
    | zero => exact zRx8 _ _ (by simp)
    | succ r =>
      have hr : r < K := by omega
      refine zz4q (y := .sl (1 + r) (R r).length 0 (R r).length) (fun acc => ?_) _ _ (.inr ?_)
      · have := z8HP (σ := idm n K R) (f := 10) (u := (R r).length) (o := 0) (k := (R r).length) (zpLc hr) acc
        rwa [show 1 + r = r + 1 by omega] at this ⊢
      · unfold idc
        exact List.mem_map.2 ⟨r, by simp; omega, if_pos hr⟩
  have hlen := zwch (n := n) (K := K) (R := R)
  have hd : dieIf (fun b => !(reach (idm n K R) vd (.sl 0 n 0 n) []).contains b) 0 (idm n K R) = idm n K R := zSHn fun j _ hj => by
    have := hall j (by omega)
    simpa using this
  have hv : view (idm n K R) false vd (.sl 0 n 0 n) = some (.imm false ((List.range n).map fun r => iLL (R r))) := by
    refine zxF7 (k := 11) (f := idf K R) (g := fun r => iLL (R r)) idm_0 rfl (by simp) fun r hr => ?_
    have hr : r < n := by simpa using hr
    unfold idf
    by_cases h : r < K
    · rw [if_pos h]
      exact zxF7 (k := 10) (f := iL) (g := iL) (zpLc h) rfl rfl fun _ _ => rfl
    · rw [if_neg h, hR r hr (by omega)]
      exact zTci
  have hu : upto (idm n K R) 0 n = some ⟨none, idc n K R, .live⟩ := by
    unfold upto
    rw [idm_0]
    simp [zzM7]
  have hs : surely (idm n K R) (.sl 0 n 0 n) = true := by
    simp only [surely, hu]
  refine ⟨0, .nor, _, ?_, h (dieIf (fun b => (reach (idm n K R) vd (.sl 0 n 0 n) []).contains b) 0 (idm n K R)) (by rw [zWOU, hlen])⟩
  simp only [exec, hn, hd, hv, hs]
  rfl
section
variable {n K r : Nat} {R : Nat → List (List Int)} {w : List Int}
theorem zllU (hK : K ≤ n) (h : r < K) : elm (idc n K R) r = some (.sl (1 + r) (R r).length 0 (R r).length) := by rw [zcK2 (by omega), idf, if_pos h]
theorem zDxP (h : K < n) : elm (idc n K R) K = some .snil := by rw [zcK2 h, idf, if_neg (by omega)]
theorem zxyf (h : r < K) : blk (idm n K R) (1 + r) = some ⟨none, (R r).map iL, .live⟩ := zpLc h
theorem zmCF {B : Blk} : blk (setB (idm n K R) (1 + r) B) 0 = some ⟨none, idc n K R, .live⟩ := by
  rw [blkS, setBS, idm, show 1 + r = r + 1 by omega, List.set_cons_succ]; rfl
theorem zFmO (hK : K ≤ n) (h : r < K) : setB (setB (idm n K R) (1 + r) ⟨none, (R r).map iL ++ [iL w], .live⟩) 0 ⟨none, putR (idc n K R) r (AV.sl (1 + r) ((R r).length + 1) 0 ((R r).length + 1)).cells, .live⟩ = idm n K fun x => if x = r then R r ++ [w] else R x := by
  rw [show (AV.sl (1 + r) ((R r).length + 1) 0 ((R r).length + 1)).cells = [AV.sl (1 + r) ((R r).length + 1) 0 ((R r).length + 1)] from rfl, zmRP, zqm6 hK h]
theorem zAbI (h : K < n) : setB (idm n K R ++ [⟨none, [iL w], .live⟩]) 0 ⟨none, putR (idc n K R) K (AV.sl (K + 1) 1 0 1).cells, .live⟩ = idm n (K + 1) fun x => if x = K then [w] else R x := by
  rw [show (AV.sl (K + 1) 1 0 1).cells = [AV.sl (K + 1) 1 0 1] from rfl, zmRP, zPiP h]
theorem zz9K {B : Blk} : blk (idm n K R ++ [B]) 0 = some ⟨none, idc n K R, .live⟩ := rfl
end
def rwI (m : Mly) (s j r : Nat) : List (List Int) := m.idn r (if r < s then m.next.length else if r = s then s + 1 + j else if r < s + 1 + j then s + 1 else s)
def kI (n s j : Nat) : Nat := if s = 0 then (if j = 0 then 0 else j + 1) else if n = 1 then 0 else n
theorem z8Rv {m : Mly} {s j r : Nat} : rwI m s (j + 1) r = if r = s + 1 + j then rwI m s j r ++ [m.sw ((s + 1 + j : Nat) : Int) (s : Int)] else if r = s then rwI m s j r ++ [m.sw (s : Int) ((s + 1 + j : Nat) : Int)] else rwI m s j r := by
  unfold rwI
  by_cases h1 : r = s + 1 + j
  · subst h1
    rw [if_pos rfl, if_neg (by omega), if_neg (by omega), if_pos (by omega), if_neg (by omega), if_neg (by omega), if_neg (by omega), zhvs, if_neg (by omega)]
  · rw [if_neg h1]
    by_cases h2 : r = s
    · subst h2
      rw [if_pos rfl, if_neg (by omega), if_pos rfl, if_neg (by omega), if_pos rfl, show r + 1 + (j + 1) = r + 1 + j + 1 by omega, zhvs, if_neg (by omega)]
    · rw [if_neg h2]
      rw [if_neg h2]
      by_cases h3 : r < s
      · rw [if_pos h3, if_pos h3]
      · rw [if_neg h3, if_neg h3, if_neg h2]
        by_cases h4 : r < s + 1 + j
        · rw [if_pos h4, if_pos (by omega)]
        · rw [if_neg h4, if_neg (by omega)]
theorem zDpl {m : Mly} {s j r : Nat} (hj : s + 1 + j = m.next.length) (hr : r < m.next.length) : rwI m s j r = rwI m (s + 1) 0 r := by
  unfold rwI
  by_cases h1 : r < s
  · rw [if_pos h1, if_pos (by omega)]
  · rw [if_neg h1]
    by_cases h2 : r = s
    · rw [if_pos h2, if_pos (by omega), hj]
    · rw [if_neg h2, if_pos (by omega), if_neg (by omega)]
      by_cases h3 : r = s + 1
      · subst h3
        rw [if_pos rfl, zhvs (b := s + 1), if_pos rfl, List.append_nil]
      · rw [if_neg h3, if_neg (by omega)]
theorem zMKL {m : Mly} {s j r : Nat} (hs : s + 1 + j ≤ m.next.length) (hr : r < m.next.length) (h : kI m.next.length s j ≤ r) : rwI m s j r = [] := by
  unfold kI at h
  unfold rwI
  by_cases h0 : s = 0
  · subst h0
    rw [if_pos rfl] at h
    rw [if_neg (by omega)]
    by_cases hj : j = 0
    · subst hj
      by_cases hr0 : r = 0
      · subst hr0; rw [if_pos rfl]; rfl
      · rw [if_neg hr0, if_neg (by omega)]; rfl
    · rw [if_neg hj] at h
      rw [if_neg (by omega), if_neg (by omega)]; rfl
  · rw [if_neg h0] at h
    split at h
    · omega
    · omega
def idD (m : Mly) (i : Nat) : List AV := (List.range i).map fun r => iLL (sortU (m.idn r m.next.length))
def Mly.idl (m : Mly) : List (List (List Int)) := (List.range m.next.length).map fun r => sortU (m.idn r m.next.length)
noncomputable def Mly.idA (m : Mly) : List (List (List Int)) := if m.mchk m.mnlb = 0 then m.idl else []
theorem ztIQ (m : Mly) (h : m.fits) (hn8 : m.validE = 0 → m.next.length ≤ 8) : PC zEdJ [m.av] = some (.tup [.imm false (m.idA.map iLL), .int (m.mchk m.mnlb)]) := by
  refine zx72 (z8NF rfl ?_)
  have hc := zeP2 m h
  by_cases h0 : m.mchk m.mnlb = 0
  case neg =>
    have e : m.idA = [] := if_neg h0
    rw [e]
    simp [hc, h0]
  obtain ⟨hv, hM⟩ := zwBY h0
  have h8 := hn8 hv
  have hm := hM.ok
  have hst := hm.states
  have e : m.idA = m.idl := if_pos h0
  rw [e]
  rw [h0] at hc ⊢
  simp [-zJRc, -List.map_replicate, hc]
  refine ⟨by omega, ?_⟩
  refine zv8C (fun i : Nat => [(3, .int i)]) (fun i => idm m.next.length (kI m.next.length i 0) (rwI m i 0)) (fun i => i ≤ m.next.length) (fun i => m.next.length - i) 0 (by rw [show kI m.next.length 0 0 = 0 from rfl, zDev]; simp [sets]) (by omega) ?_
  intro i hi1
  by_cases hi : i < m.next.length
  · simp [-zJRc, hi]
    refine ⟨by omega, ?_⟩
    refine zv8C (fun j : Nat => [(6, .int ((i + 1 + j : Nat) : Int))]) (fun j => idm m.next.length (kI m.next.length i j) (rwI m i j)) (fun j => i + 1 + j ≤ m.next.length) (fun j => m.next.length - j) 0 (by simp [sets]) (by omega) ?_
    intro j hj1
    have hRs := fun r => z8Rv (m := m) (s := i) (j := j) (r := r)
    by_cases hj : i + 1 + j < m.next.length
    · have hS := swS_s h hM hv h8 (s := (i : Int)) (t := ((i + 1 + j : Nat) : Int)) ⟨by omega, by omega⟩ ⟨by omega, by omega⟩ (by omega)
      have hsc := zjpS hm (s := (i : Int)) (t := ((i + 1 + j : Nat) : Int)) ⟨by omega, by omega⟩ ⟨by omega, by omega⟩
      rw [← hsc] at hRs
      generalize m.sw (i : Int) ((i + 1 + j : Nat) : Int) = w at *
      have hjc : (((i + 1 + j : Nat) : Int) < (m.next.length : Int)) = True := eq_true (by omega)
      generalize hT : i + 1 + j = T at *
      have hjc' : (T < m.next.length) = True := eq_true (by omega)
      have hlen0 := zzM7 (n := m.next.length) (K := kI m.next.length i j) (R := rwI m i j)
      have hrl : ∀ x, (rwI m i j x).length ≤ 100 := fun x => by
        unfold rwI
        rw [zZDR]
        split <;> split <;> (try split) <;> (try split) <;> omega
      have hk : kI m.next.length i (j + 1) ≤ m.next.length := by unfold kI; split <;> (try split) <;> omega
      by_cases hi0 : i = 0
      · by_cases hj0 : j = 0
        · have hk1 : kI m.next.length i j = i := by unfold kI; rw [if_pos hi0, if_pos hj0, hi0]
          have hk2 : kI m.next.length i (j + 1) = T + 1 := by unfold kI; rw [if_pos hi0, if_neg (by omega)]; omega
          rw [hk1]
          have hR0 : rwI m i j i = [] := zMKL (by omega) (by omega) (by rw [hk1]; exact Nat.le_refl _)
          have hR1 : rwI m i j T = [] := zMKL (by omega) (by omega) (by rw [hk1]; omega)
          generalize rwI m i j = R at *
          have A1 := zDxP (R := R) (show i < m.next.length by omega)
          have A3 := zAbI (R := R) (w := w) (show i < m.next.length by omega)
          have eT : i + 1 = T := by omega
          have B1 := zDxP (R := fun x => if x = i then [w] else R x) (show T < m.next.length by omega)
          have B3 := zAbI (R := fun x => if x = i then [w] else R x) (w := w) (show T < m.next.length by omega)
          have C3 := eq_true (show i + 1 ≤ m.next.length by omega)
          have C4 := eq_true (show T + 1 ≤ m.next.length by omega)
          rw [eT] at A3 C3
          simp [-zJRc, hjc, hjc', hS, idm_0, zzM7, zwch, hi, A1, zz9K, eT, A3, B1, B3, C3, C4]
          refine ⟨by omega, zGkM (j + 1) (by simp; omega) ?_ (by omega) (by omega)⟩
          rw [hk2]
          refine zvCQ (by omega) fun r hr => ?_
          rw [hRs]
          by_cases e1 : r = T
          · rw [if_pos e1, if_pos e1, e1, hR1]; rfl
          · rw [if_neg e1, if_neg e1]
            by_cases e2 : r = i
            · rw [if_pos e2, if_pos e2, e2, hR0]; rfl
            · rw [if_neg e2, if_neg e2]
        · have hk1 : kI m.next.length i j = T := by unfold kI; rw [if_pos hi0, if_neg hj0]; omega
          have hk2 : kI m.next.length i (j + 1) = T + 1 := by unfold kI; rw [if_pos hi0, if_neg (by omega)]; omega
          rw [hk1]
          have hR1 : rwI m i j T = [] := zMKL (by omega) (by omega) (by rw [hk1]; exact Nat.le_refl _)
          generalize rwI m i j = R at *
          have A1 := zllU (R := R) (n := m.next.length) (K := T) (r := i) (by omega) (by omega)
          have A2 := zxyf (n := m.next.length) (R := R) (show i < T by omega)
          have A3 := zFmO (R := R) (w := w) (show T ≤ m.next.length by omega) (show i < T by omega)
          have B1 := zDxP (R := fun x => if x = i then R i ++ [w] else R x) (show T < m.next.length by omega)
          have B3 := zAbI (R := fun x => if x = i then R i ++ [w] else R x) (w := w) (show T < m.next.length by omega)
          have C1 := hrl i
          have C1' := eq_true (show (R i).length ≤ 1073741823 by omega)
          have C3 := eq_true (show i + 1 ≤ m.next.length by omega)
          have C4 := eq_true (show T + 1 ≤ m.next.length by omega)
          simp [-zJRc, hjc, hjc', hS, idm_0, zzM7, zwch, hi, A1, A2, zmCF, zz9K, A3, B1, B3, C1', C3, C4]
          refine ⟨by omega, zGkM (j + 1) (by simp; omega) ?_ (by omega) (by omega)⟩
          rw [hk2]
          refine zvCQ (by omega) fun r hr => ?_
          rw [hRs]
          by_cases e1 : r = T
          · rw [if_pos e1, if_pos e1, e1, hR1]; rfl
          · rw [if_neg e1, if_neg e1]
            by_cases e2 : r = i
            · rw [if_pos e2, if_pos e2, e2]
            · rw [if_neg e2, if_neg e2]
      · have hk1 : kI m.next.length i j = m.next.length := by unfold kI; rw [if_neg hi0, if_neg (by omega)]
        have hk2 : kI m.next.length i (j + 1) = m.next.length := by unfold kI; rw [if_neg hi0, if_neg (by omega)]
        rw [hk1]
        generalize rwI m i j = R at *
        have A1 := zllU (R := R) (Nat.le_refl m.next.length) hi
        have A2 := zxyf (n := m.next.length) (R := R) hi
        have A3 := zFmO (R := R) (w := w) (Nat.le_refl m.next.length) hi
        have B1 := zllU (R := fun x => if x = i then R i ++ [w] else R x) (Nat.le_refl m.next.length) (show T < m.next.length by omega)
        have B2 := zxyf (n := m.next.length) (R := fun x => if x = i then R i ++ [w] else R x) (show T < m.next.length by omega)
        have B3 := zFmO (R := fun x => if x = i then R i ++ [w] else R x) (w := w) (Nat.le_refl m.next.length) (show T < m.next.length by omega)
        rw [if_neg (show ¬ T = i by omega)] at B1 B2 B3
        have C1 := hrl i
        have C2 := hrl T
        have C1' := eq_true (show (R i).length ≤ 1073741823 by omega)
        have C2' := eq_true (show (R T).length ≤ 1073741823 by omega)
        have C3 := eq_true (show i + 1 ≤ m.next.length by omega)
        have C4 := eq_true (show T + 1 ≤ m.next.length by omega)
        simp [-zJRc, hjc, hjc', hS, idm_0, zzM7, hi, A1, A2, zmCF, A3, B1, B2, B3, C1', C2', C3, C4]
        refine ⟨by omega, zGkM (j + 1) (by simp; omega) ?_ (by omega) (by omega)⟩
        rw [hk2]
        refine zvCQ (Nat.le_refl _) fun r hr => ?_
        rw [hRs]
        by_cases e1 : r = T
        · rw [if_pos e1, if_pos e1, e1]
        · rw [if_neg e1, if_neg e1]
          by_cases e2 : r = i
          · rw [if_pos e2, if_pos e2, e2]
          · rw [if_neg e2, if_neg e2]
    · have ej : i + 1 + j = m.next.length := by omega
      have hjc : ((i : Int) + 1 + (j : Int) < (m.next.length : Int)) = False := eq_false (by omega)
      simp [-zJRc, hjc]
      refine ⟨by omega, zGkM (i + 1) (by simp) ?_ (by omega) (by omega)⟩
      have hk : kI m.next.length i j = kI m.next.length (i + 1) 0 := by
        unfold kI
        rw [if_neg (show ¬ i + 1 = 0 by omega)]
        by_cases h1 : i = 0
        · rw [if_pos h1]
          by_cases h2 : j = 0
          · rw [if_pos h2, if_pos (by omega)]
          · rw [if_neg h2, if_neg (by omega)]; omega
        · rw [if_neg h1]
      have hle : kI m.next.length (i + 1) 0 ≤ m.next.length := by
        unfold kI
        rw [if_neg (show ¬ i + 1 = 0 by omega)]
        split <;> omega
      rw [hk]
      exact zvCQ hle fun r hr => zDpl ej (by omega)
  · have ei : i = m.next.length := by omega
    subst ei
    have hst0 : ¬ m.next.length = 0 := by omega
    have hK : kI m.next.length m.next.length 0 ≤ m.next.length := by
      unfold kI
      rw [if_neg hst0]
      split <;> omega
    have hrw : ∀ r, r < m.next.length → rwI m m.next.length 0 r = m.idn r m.next.length := fun r hr => by unfold rwI; rw [if_pos hr]
    simp
    refine zhZi hK (fun r hr hk => ?_) rfl fun σ hσ => ?_
    · rw [hrw r hr]
      unfold kI at hk
      rw [if_neg hst0] at hk
      split at hk
      · rename_i h1
        have : r = 0 := by omega
        subst this
        rw [h1, zhvs, if_pos rfl]; rfl
      · omega
    · have hmp : (List.range m.next.length).map (fun r => iLL (rwI m m.next.length 0 r)) = (List.range m.next.length).map fun r => iLL (m.idn r m.next.length) := List.map_congr_left fun r hr => by rw [hrw r (by simpa using hr)]
      rw [hmp]
      simp [-List.map_replicate]
      refine ⟨by omega, ?_⟩
      have hb : ∀ B, blk (σ ++ [B]) σ.length = some B := fun B => by rw [blkS]; simp
      have hsb : ∀ B B', setB (σ ++ [B]) σ.length B' = σ ++ [B'] := fun B B' => by rw [setBS]; simp
      refine zv8C (fun i : Nat => [(10, .int i), (13, .sl σ.length m.next.length 0 i)]) (fun i => σ ++ [⟨none, idD m i ++ List.replicate (m.next.length - i) .snil, .live⟩]) (fun i => i ≤ m.next.length) (fun i => m.next.length - i) 0 (by simp [sets, idD]) (by omega) ?_
      intro i hi1
      by_cases hi : i < m.next.length
      · have hel : elm ((List.range m.next.length).map fun r => iLL (m.idn r m.next.length)) i = some (iLL (m.idn i m.next.length)) := by rw [znyW]; simp [hi]
        have hdl : (idD m i).length = i := by simp [idD]
        have hil := zZDR (m := m) (s := i) (b := m.next.length)
        have hsrt := zGle (m.idn i m.next.length) (by rw [hil]; split <;> omega) fun w hw => by
          obtain ⟨t, h1, h2, rfl⟩ := z2DI.1 hw
          have := (sw_ok hM h8 (s := (i : Int)) (t := (t : Int)) ⟨by omega, by omega⟩ ⟨by omega, by omega⟩ (by omega)).2.2.2
          omega
        have hput := zrRV (a := idD m i) (n := m.next.length - (i + 1)) (z := .snil) (x := iLL (sortU (m.idn i m.next.length)))
        rw [hdl, show m.next.length - (i + 1) + 1 = m.next.length - i by omega] at hput
        have hds : idD m (i + 1) = idD m i ++ [iLL (sortU (m.idn i m.next.length))] := by simp [idD, List.range_succ]
        have hcl : (idD m i ++ List.replicate (m.next.length - i) AV.snil).length = m.next.length := by simp [hdl]; omega
        generalize hX : idD m i ++ List.replicate (m.next.length - i) AV.snil = X at *
        have hiw : (m.next.length = i) = False := eq_false (by omega)
        have hiw' : (i = m.next.length) = False := eq_false (by omega)
        have hrg : ix (List.range m.next.length) (i : Int) = i := by rw [zrZW (by simpa using hi)]; simp
        have hsrt : PC ze0X [.imm false ((m.idn i m.next.length).map iL)] = some (iLL (sortU (m.idn i m.next.length))) := hsrt
        simp [-zJRc, -List.map_replicate, hi, hrg, hsrt, hb, hsb, hcl, hiw, hiw']
        refine ⟨by omega, by omega, by omega, zGkM (i + 1) (by simp) ?_ (by omega) (by omega)⟩
        rw [hput, hds]
      · have ei : i = m.next.length := by omega
        subst ei
        have hv := zxF7 (σ := σ ++ [⟨none, idD m m.next.length, .live⟩]) (fr := false) (b := σ.length) (k := 11) (n := m.next.length) (f := fun r => iLL (sortU (m.idn r m.next.length))) (g := fun r => iLL (sortU (m.idn r m.next.length))) (xs := List.range m.next.length) (hb _) rfl (by simp) fun _ _ => rfl
        have hv' : view (σ ++ [⟨none, idD m m.next.length, .live⟩]) false vd (.sl σ.length m.next.length 0 m.next.length) = some (.imm false (m.idl.map iLL)) := by
          rw [show vd = 11 + 1 from rfl, hv]; simp [Mly.idl]
        simp [-zJRc, -List.map_replicate, hv']
end Ab
namespace Ab
theorem z0Jg (G : List (List Int)) (f : Nat) (caps : List AV) (p : List Int → Bool) (hl : (G.length : Int) ≤ 1000000) (hc : noLocs caps = true)
    (hp : ∀ g ∈ G, PC f (iL g :: caps.map wk) = some (.bool (p g))) : PC z35E [iLL G, .func f caps] = some (.int (idx p G)) := by
  refine zx72 (znz5 rfl ?_)
  simp
  refine zv8C (fun i : Int => [(2, .int i)]) (fun _ => []) (fun i => 0 ≤ i ∧ i ≤ G.length ∧ ∀ j, 0 ≤ j → j < i → p (ix G j) = false) (fun i => (G.length - i).toNat) 0 rfl (by simp; omega) fun i ⟨h0, h1, h2⟩ => ?_
  by_cases hi : i < G.length
  · have hq := hp _ (zmAQ h0 hi)
    simp only [iL] at hq
    simp [hi, h0, hc, hq]
    exact ⟨fun h => (znoA h0 hi h h2).symm, fun h => ⟨by omega, ⟨by omega, by omega, zvtS h h2⟩, by omega⟩⟩
  · simp [hi]
    rw [z9nJ fun j a b => h2 j a (by omega)]
theorem z3MC (a b : List Int) (h1 : (a.length : Int) ≤ 1000000) (h2 : (b.length : Int) ≤ 1000000) : PC z60t [iL a, .pimm (iL b)] = some (.bool (decide (a = b))) := by
  refine zx72 (zVeB rfl ?_)
  have := SEq_s a b (by omega) (by omega)
  simp [this]
theorem zNtu (l : List (List Int)) (w : List Int) (hl : (l.length : Int) ≤ 1000000) (hw : ∀ x ∈ l, (x.length : Int) ≤ 1000000) (hx : (w.length : Int) ≤ 1000000) : PC zCZ1 [iLL l, iL w] = some (.bool (decide (w ∈ l))) := by
  refine zx72 (zDTj rfl ?_)
  have h1 := z0Jg l z60t [.pimm (iL w)] (fun v => decide (v = w)) hl rfl fun g hg => z3MC g w (hw g hg) hx
  have h2 : PC zIRT [iLL l, .func z60t [.pimm (iL w)]] = some (.bool (l.any fun v => decide (v = w))) := by
    refine zx72 (zwYd rfl ?_)
    simp [h1]
    exact zwD6
  have e : (l.any fun v => decide (v = w)) = decide (w ∈ l) := by
    rw [Bool.eq_iff_iff, List.any_eq_true]
    simp
  rw [e] at h2
  simp [h2]
theorem zb7t {m : Mly} : m.idl.length = m.next.length := by simp [Mly.idl]
theorem zlHE {m : Mly} {s : Nat} (hs : s < m.next.length) : ix m.idl (s : Int) = sortU (m.idn s m.next.length) := by
  rw [zrZW (by rw [zb7t]; exact hs)]
  simp [Mly.idl]
end Ab
namespace Ab
theorem zAGy {k n : Nat} : shL k (List.replicate n .snil) = List.replicate n .snil := by
  induction n with
  | zero => rfl
  | succ n ih => simp only [List.replicate_succ, shL, shV, ih]
theorem ztoG (n : Nat) (h : 0 < n) (hb : (n : Int) ≤ 1073741824) : L zHcv [.snil, .int n] [] = some (.sl 0 n 0 0, [⟨none, List.replicate n .snil, .live⟩]) := by
  refine zvmz (N := 0) ?_
  simp only [pGrowS]
  rw [if_neg (by simp; omega), if_pos ⟨by omega, by rw [show (big : Int) = 1073741824 from rfl]; exact hb⟩]
  simp
theorem zWPI : L zHcv [.snil, .int 0] [] = some (.snil, []) := zvmz (N := 0) rfl
def flW (ps : List (List (List Int))) : List (List Int) := ps.flatten
theorem zIAW {ps : List (List (List Int))} {i : Nat} (h : i < ps.length) : (flW (ps.take (i + 1))) = (flW (ps.take i)) ++ ix ps (i : Int) := by
  unfold flW
  rw [List.take_add_one, List.getElem?_eq_getElem h, List.flatten_append, zrZW h]
  simp
theorem zvXt {ps : List (List (List Int))} (i : Nat) : (flW (ps.take i)).length ≤ (flW ps).length := by
  have : (flW ps) = (flW (ps.take i)) ++ (flW (ps.drop i)) := by unfold flW; rw [← List.flatten_append, List.take_append_drop]
  rw [this]; simp
theorem zzt6 {a b : List (List Int)} {n : Nat} (h : a.length + b.length ≤ n) : putAt (a.map iL ++ List.replicate (n - a.length) .snil) a.length (b.map iL) = (a ++ b).map iL ++ List.replicate (n - (a.length + b.length)) .snil := by
  unfold putAt
  rw [List.take_left' (by simp), List.drop_append, List.drop_of_length_le (by simp)]
  simp
  omega
theorem zqQu (ps : List (List (List Int))) (hp : (ps.length : Int) ≤ 1000000) (h : ((flW ps).length : Int) ≤ 1000000) : PC zNW4 [.imm false (ps.map iLL)] = some (iLL (flW ps)) := by
  refine zx72 (zCj2 rfl ?_)
  simp
  refine zv8C (fun i : Nat => [(1, .int i), (4, .int ((flW (ps.take i)).length : Int))]) (fun _ => []) (fun i => i ≤ ps.length) (fun i => ps.length - i) 0 (by simp [sets, flW]) (by omega) fun i i1 => ?_
  by_cases hi : i < ps.length
  · have e := zIAW hi
    have l1 := zvXt (ps := ps) i
    have l2 := zvXt (ps := ps) (i + 1)
    rw [e, List.length_append] at l2
    have e2 : ((flW (ps.take (i + 1))).length : Int) = ((flW (ps.take i)).length : Int) + ((ix ps (i : Int)).length : Int) := by rw [e, List.length_append]; omega
    generalize (flW (ps.take i)).length = A at *
    simp [-zJRc, -List.map_take, hi]
    refine ⟨by omega, by omega, fun _ => ⟨by omega, zGkM (i + 1) (by simp [-List.map_take, e2]) rfl (by omega) (by omega)⟩⟩
  · have hit : ps.take i = ps := List.take_of_length_le (by omega)
    rw [hit]
    by_cases hz : (flW ps).length = 0
    · have hc : (flW ps) = [] := List.eq_nil_of_length_eq_zero hz
      have hall : ∀ j : Nat, j < ps.length → ix ps (j : Int) = [] := fun j hj => by
        have := zIAW hj
        have l2 := zvXt (ps := ps) (j + 1)
        rw [this, List.length_append] at l2
        exact List.eq_nil_of_length_eq_zero (by omega)
      rw [hc]
      simp [-zJRc, hi, zWPI, shV]
      refine zv8C (fun i : Nat => [(6, .int i)]) (fun _ => []) (fun i => i ≤ ps.length) (fun i => ps.length - i) 0 (by simp [sets]) (by omega) fun j j1 => ?_
      by_cases hj : j < ps.length
      · have h1 := hall j hj
        simp [-zJRc, hj, h1]
        refine ⟨by omega, zGkM (j + 1) (by simp) rfl (by omega) (by omega)⟩
      · simp [hj]
    · have hg := ztoG (flW ps).length (by omega) (by omega)
      have hi' : (ps.length ≤ i) = True := eq_true (by omega)
      generalize hF : (flW ps) = F at *
      simp [-zJRc, -List.map_replicate, hi, hg, shV, shB, zAGy]
      refine zv8C (fun i : Nat => [(6, .int i), (9, .sl 0 F.length 0 (flW (ps.take i)).length)]) (fun i => [⟨none, (flW (ps.take i)).map iL ++ List.replicate (F.length - (flW (ps.take i)).length) .snil, .live⟩]) (fun i => i ≤ ps.length) (fun i => ps.length - i) 0 (by simp [sets, flW]) (by omega) fun j j1 => ?_
      by_cases hj : j < ps.length
      · have e := zIAW hj
        have l1 := zvXt (ps := ps) j
        have l2 := zvXt (ps := ps) (j + 1)
        rw [e, List.length_append] at l2
        rw [hF] at l1 l2
        generalize (flW (ps.take j)) = A at *
        have hpt := zzt6 (a := A) (b := ix ps (j : Int)) (n := F.length) l2
        by_cases hn : ix ps (j : Int) = []
        · have hdn : (flW (ps.take (j + 1))) = A := by rw [e, hn]; simp
          simp [-zJRc, -List.map_replicate, -List.map_take, hj, hn]
          refine ⟨by omega, by omega, by omega, zGkM (j + 1) (by simp [hdn]) (by simp only [hdn]) (by omega) (by omega)⟩
        · have hnl : 0 < (ix ps (j : Int)).length := List.length_pos_iff.2 hn
          simp [-zJRc, -List.map_replicate, -List.map_take, hj, hn]
          refine ⟨by omega, by omega, fun hc => by omega, fun _ => ⟨by omega, by omega, zGkM (j + 1) (by simp [e]) (by simp only [e, List.length_append]; rw [← hpt]) (by omega) (by omega)⟩⟩
      · have hjt : ps.take j = ps := List.take_of_length_le (by omega)
        rw [hjt, hF]
        have hv := vd_LL (σ := [⟨none, F.map iL, .live⟩]) (fr := false) (b := 0) (xs := F) (n := F.length) (st := .live) rfl (by simp) rfl
        simp [hj, hv]
theorem zbi1 (ps : List (List (List Int))) (hp : (ps.length : Int) ≤ 1000000) (h : ((flW ps).length : Int) ≤ 1000000) (hw : fitW (flW ps)) : PC zA3e [.imm false (ps.map iLL)] = some (iLL (sortU (flW ps))) := by
  refine zx72 (zlN3 rfl ?_)
  have h1 := zqQu ps hp h
  have h2 := zGle (flW ps) (by omega) hw
  simp [h1, h2]
end Ab
