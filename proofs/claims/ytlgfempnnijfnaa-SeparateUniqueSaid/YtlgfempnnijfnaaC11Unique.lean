/- The situations of the document. Uio of the document. The law on Uio. The law on unique input-output words. Condition: none. -/
import Derived.Test.YtlgfempnnijfnaaSepE
import Derived.Test.YtlgfempnnijfnaaC11Splits
import Derived.Test.YtlgfempnnijfnaaC11Shortest
set_option linter.all false
set_option maxRecDepth 100000
set_option maxHeartbeats 1000000
namespace Ab
def rbf (n : Nat) (p : Int → Bool) : List Bool := (List.range n).map fun (t : Nat) => p (t : Int)
theorem zDq8 {n : Nat} {p : Int → Bool} : (rbf n p).length = n := by simp [rbf]
theorem zmMc {n : Nat} {p : Int → Bool} {t : Int} (h0 : 0 ≤ t) (h1 : t < (n : Int)) : ix (rbf n p) t = p t := by
  obtain ⟨k, rfl⟩ := Int.eq_ofNat_of_zero_le h0
  rw [zrZW (by rw [zDq8]; omega)]
  simp [rbf]
theorem zpQa {n : Nat} {p q : Int → Bool} (h : ∀ t : Int, 0 ≤ t → t < (n : Int) → p t = q t) : rbf n p = rbf n q := by
  unfold rbf
  rw [List.map_inj_left]
  intro t ht
  exact h t (by omega) (by have := List.mem_range.1 ht; omega)
theorem zrmJ {n : Nat} {p : Int → Bool} {v : Int} {b : Bool} (h0 : 0 ≤ v) (h1 : v < (n : Int)) : (rbf n p).set v.toNat b = rbf n fun t => if t = v then b else p t := by
  apply List.ext_getElem
  · simp [rbf]
  · intro i h2 h3
    simp only [rbf, List.getElem_set, List.getElem_map, List.getElem_range]
    by_cases e : v.toNat = i
    · rw [if_pos e, if_pos (by omega)]
    · rw [if_neg e, if_neg (by omega)]
def rb (n : Nat) (l : List Int) : List Bool := rbf n fun t => decide (t ∈ l)
theorem zgcd {n : Nat} {l : List Int} : (rb n l).length = n := zDq8
theorem rb_ix {n : Nat} {l : List Int} {t : Int} (h0 : 0 ≤ t) (h1 : t < (n : Int)) : ix (rb n l) t = decide (t ∈ l) := zmMc h0 h1
theorem z66Z (s : Int) (n : Nat) (l w : List Int) (hn : n ≤ 1000) (hl : ∀ t ∈ l, 0 ≤ t ∧ t < (n : Int)) : PC zsnC [.agg [.int s, bL (rb n l), iL w]] = some (.bool (decide (l = []))) := by
  refine zx72 (zivr rfl ?_)
  have hlen := zgcd (n := n) (l := l)
  simp [-zJRc]
  refine zv8C (fun i : Nat => [(1, .int i)]) (fun _ => []) (fun i => i ≤ n ∧ ∀ j : Nat, j < i → (j : Int) ∉ l) (fun i => n - i) 0 (by simp [sets]) ⟨by omega, fun j hj => by omega⟩ ?_
  rintro i ⟨hi1, hi2⟩
  by_cases hi : i < n
  · have hx := rb_ix (n := n) (l := l) (t := (i : Int)) (by omega) (by omega)
    by_cases he : (i : Int) ∈ l
    · have hx' : ix (rb n l) (i : Int) = true := by rw [hx]; simpa using he
      have hne : l ≠ [] := List.ne_nil_of_mem he
      simp [-zJRc, hlen, hi, hx', hne]
    · have hx' : ix (rb n l) (i : Int) = false := by rw [hx]; simpa using he
      simp [-zJRc, hlen, hi, hx']
      refine ⟨by omega, zGkM (i + 1) (by simp) rfl ⟨by omega, fun j hj => ?_⟩ (by omega)⟩
      by_cases e : j = i
      · subst e; exact he
      · exact hi2 j (by omega)
  · have : l = [] := List.eq_nil_iff_forall_not_mem.2 fun t ht => by
      have h1 := hl t ht
      have := hi2 t.toNat (by omega)
      rw [show ((t.toNat : Nat) : Int) = t by omega] at this
      exact this ht
    subst this
    simp [-zJRc, hlen, hi]
theorem zXF0 (s s' : Int) (n : Nat) (l l' w w' : List Int) (hn : n ≤ 1000) (hl : ∀ t ∈ l, 0 ≤ t ∧ t < (n : Int)) (hl' : ∀ t ∈ l', 0 ≤ t ∧ t < (n : Int)) (hu : up l) (hu' : up l') : PC zjIu [.agg [.int s, bL (rb n l), iL w], .agg [.int s', bL (rb n l'), iL w']] = some (.bool (decide ((s, l) = (s', l')))) := by
  refine zx72 (zM7V rfl ?_)
  have hlen := zgcd (n := n) (l := l)
  have hlen' := zgcd (n := n) (l := l')
  simp [-zJRc, -Prod.mk.injEq]
  refine zv8C (fun i : Nat => [(2, .int i)]) (fun _ => []) (fun i => i ≤ n ∧ ∀ j : Nat, j < i → ((j : Int) ∈ l ↔ (j : Int) ∈ l')) (fun i => n - i) 0 (by simp [sets]) ⟨by omega, fun j hj => by omega⟩ ?_
  rintro i ⟨hi1, hi2⟩
  by_cases hi : i < n
  · have hx := rb_ix (n := n) (l := l) (t := (i : Int)) (by omega) (by omega)
    have hx' := rb_ix (n := n) (l := l') (t := (i : Int)) (by omega) (by omega)
    by_cases he : (i : Int) ∈ l ↔ (i : Int) ∈ l'
    · have hd : decide ((i : Int) ∈ l) = decide ((i : Int) ∈ l') := decide_eq_decide.2 he
      rw [hd] at hx
      generalize decide ((i : Int) ∈ l') = B at *
      simp [-zJRc, -Prod.mk.injEq, hlen, hlen', hi, hx, hx']
      refine ⟨by omega, zGkM (i + 1) (by simp) rfl ⟨by omega, fun j hj => ?_⟩ (by omega)⟩
      by_cases e : j = i
      · subst e; exact he
      · exact hi2 j (by omega)
    · have hne : decide ((s, l) = (s', l')) = false := by
        rw [decide_eq_false_iff_not, Prod.mk.injEq]
        rintro ⟨_, rfl⟩
        exact he Iff.rfl
      rw [hne]
      by_cases h1 : (i : Int) ∈ l
      · have h2 : (i : Int) ∉ l' := fun h => he ⟨fun _ => h, fun _ => h1⟩
        have hx : ix (rb n l) (i : Int) = true := by rw [hx]; simpa using h1
        have hx' : ix (rb n l') (i : Int) = false := by rw [hx']; simpa using h2
        simp [-zJRc, hlen, hlen', hi, hx, hx']
      · have h2 : (i : Int) ∈ l' := Classical.byContradiction fun h => he ⟨fun a => absurd a h1, fun a => absurd a h⟩
        have hx : ix (rb n l) (i : Int) = false := by rw [hx]; simpa using h1
        have hx' : ix (rb n l') (i : Int) = true := by rw [hx']; simpa using h2
        simp [-zJRc, hlen, hlen', hi, hx, hx']
  · have : l = l' := up_eq hu hu' fun t => by
      constructor
      · intro ht
        have h1 := hl t ht
        have := hi2 t.toNat (by omega)
        rw [show ((t.toNat : Nat) : Int) = t by omega] at this
        exact this.1 ht
      · intro ht
        have h1 := hl' t ht
        have := hi2 t.toNat (by omega)
        rw [show ((t.toNat : Nat) : Int) = t by omega] at this
        exact this.2 ht
    subst this
    simp [-zJRc, hlen, hi]
def rfP (m : Mly) (s : Int) (l : List Int) (a : Int) (i : Nat) (x : Int) : Bool := (List.range i).any fun (u : Nat) => decide ((u : Int) ∈ l) && (decide (ix (ix m.out (u : Int)) a = ix (ix m.out s) a) && decide (ix (ix m.next (u : Int)) a = x))
theorem zUEm {m : Mly} {s : Int} {l : List Int} {a : Int} {i : Nat} {x : Int} : rfP m s l a (i + 1) x = (rfP m s l a i x || (decide ((i : Int) ∈ l) && (decide (ix (ix m.out (i : Int)) a = ix (ix m.out s) a) && decide (ix (ix m.next (i : Int)) a = x)))) := by
  unfold rfP
  rw [List.range_succ, List.any_append]
  simp
theorem zchR {m : Mly} {s : Int} {l : List Int} {a : Int} (hl : ∀ t ∈ l, 0 ≤ t ∧ t < (m.next.length : Int)) : rbf m.next.length (rfP m s l a m.next.length) = rb m.next.length (m.oth s l a) := by
  refine zpQa fun t t0 t1 => ?_
  rw [Bool.eq_iff_iff, decide_eq_true_eq, zneN]
  unfold rfP
  simp only [List.any_eq_true, List.mem_range, Bool.and_eq_true, decide_eq_true_eq]
  constructor
  · rintro ⟨u, h1, h2, h3, h4⟩
    exact ⟨⟨t0, t1⟩, u, h2, h3, h4⟩
  · rintro ⟨_, u, h2, h3, h4⟩
    have := hl u h2
    have e : ((u.toNat : Nat) : Int) = u := by omega
    exact ⟨u.toNat, by omega, by rw [e]; exact h2, by rw [e]; exact h3, by rw [e]; exact h4⟩
theorem zpjh {σ : List Blk} {b k n : Nat} {l : List Bool} (h : blk σ b = some ⟨none, l.map .bool, .live⟩) (hn : n = l.length) : view σ false (k + 2) (.sl b n 0 n) = some (bL l) := by
  subst hn
  have hu : upto σ b l.length = some ⟨none, l.map .bool, .live⟩ := by
    unfold upto
    rw [h]
    simp
  unfold view
  simp only [hu, kst, List.drop_zero, Nat.zero_add, Nat.mul_one]
  have e : mapO (view σ false (k + 1)) (l.map AV.bool) = some (l.map AV.bool) := zwdp (f := AV.bool) (g := AV.bool) fun _ _ => rfl
  rw [if_pos (by simp), zeyr (by simp), e]
theorem zBK9 (m : Mly) (hm : m.Ok) (s : Int) (hs : 0 ≤ s ∧ s < (m.next.length : Int)) (l : List Int) (hl : ∀ t ∈ l, 0 ≤ t ∧ t < (m.next.length : Int)) (w : List Int) (hw : w.length ≤ 100000) (a : Int) (ha : 0 ≤ a ∧ a < m.inputs) : PC z2jc [.agg [.int s, bL (rb m.next.length l), iL w], m.av, .int a] = some (.agg [.int (ix (ix m.next s) a), bL (rb m.next.length (m.oth s l a)), iL (w ++ [a])]) := by
  refine zx72 (zds0 rfl ?_)
  have hrs := hm.row s hs.1 hs.2
  have hml := hm.len
  have hst := hm.states
  have hso : s < (m.out.length : Int) := by omega
  have hE := Ext_s w a (by omega)
  have hlen := zgcd (n := m.next.length) (l := l)
  have hz : List.replicate m.next.length false = rbf m.next.length (rfP m s l a 0) := by
    apply List.ext_getElem
    · simp [rbf]
    · intro i h1 h2
      simp [rbf, rfP]
  simp [-zJRc, -List.map_replicate, hs.1, hs.2, ha.1, ha.2, hrs.1, hE, hlen]
  refine ⟨by omega, ?_⟩
  refine zv8C (fun i : Nat => [(5, .int i)]) (fun i => [⟨some 3, [.int 0, .snil, .snil], .live⟩, ⟨none, (rbf m.next.length (rfP m s l a i)).map .bool, .live⟩, ⟨some 3, [.int (ix (ix m.next s) a), .sl 1 m.next.length 0 m.next.length, iL (w ++ [a])], .live⟩]) (fun i => i ≤ m.next.length) (fun i => m.next.length - i) 0 (by rw [← hz]; simp [sets]) (by omega) ?_
  intro i hi1
  have hrl := zDq8 (n := m.next.length) (p := rfP m s l a i)
  by_cases hi : i < m.next.length
  · have hrx := hm.row (i : Int) (by omega) (by omega)
    have hio : i < m.out.length := by omega
    have hnx := hm.nx (i : Int) a (by omega) (by omega) ha.1 ha.2
    have hx := rb_ix (n := m.next.length) (l := l) (t := (i : Int)) (by omega) (by omega)
    have hsu := fun x => zUEm (m := m) (s := s) (l := l) (a := a) (i := i) (x := x)
    by_cases h1 : (i : Int) ∈ l
    · have hx : ix (rb m.next.length l) (i : Int) = true := by rw [hx]; simpa using h1
      by_cases h2 : ix (ix m.out (i : Int)) a = ix (ix m.out s) a
      · have h2' := eq_true h2
        have hset : (rbf m.next.length (rfP m s l a i)).set (ix (ix m.next (i : Int)) a).toNat true = rbf m.next.length (rfP m s l a (i + 1)) := by
          rw [zrmJ hnx.1 hnx.2]
          refine zpQa fun t t0 t1 => ?_
          rw [hsu]
          by_cases e : t = ix (ix m.next (i : Int)) a
          · rw [if_pos e, e]; simp [h1, h2]
          · have e' : ix (ix m.next (i : Int)) a ≠ t := fun h => e h.symm
            rw [if_neg e]; simp [e']
        simp [-zJRc, -List.map_set, hlen, hi, hx, ha.1, ha.2, hs.1, hs.2, hrs.2, hrx.1, hrx.2, hio, hso, h2', hnx.1, hnx.2, hrl]
        exact ⟨by omega, zGkM (i + 1) (by simp) (by rw [hset]) (by omega) (by omega)⟩
      · have h2' := eq_false h2
        have hset : rbf m.next.length (rfP m s l a i) = rbf m.next.length (rfP m s l a (i + 1)) := by
          refine zpQa fun t t0 t1 => ?_
          rw [hsu]; simp [h2]
        simp [-zJRc, -List.map_set, hlen, hi, hx, ha.1, ha.2, hs.1, hs.2, hrs.2, hrx.1, hrx.2, hio, hso, h2', hnx.1, hnx.2, hrl]
        exact ⟨by omega, zGkM (i + 1) (by simp) (by rw [hset]) (by omega) (by omega)⟩
    · have hx : ix (rb m.next.length l) (i : Int) = false := by rw [hx]; simpa using h1
      have hset : rbf m.next.length (rfP m s l a i) = rbf m.next.length (rfP m s l a (i + 1)) := by
        refine zpQa fun t t0 t1 => ?_
        rw [hsu]; simp [h1]
      simp [-zJRc, hlen, hi, hx, ha.1, ha.2]
      exact ⟨by omega, zGkM (i + 1) (by simp) (by rw [hset]) (by omega) (by omega)⟩
  · have ei : i = m.next.length := by omega
    subst ei
    rw [zchR hl]
    have hrl := zgcd (n := m.next.length) (l := m.oth s l a)
    have hv := zpjh (σ := [⟨some 3, [.int (ix (ix m.next s) a), .sl 1 m.next.length 0 m.next.length, .imm false (w.map AV.int ++ [.int a])], .live⟩, ⟨none, (rb m.next.length (m.oth s l a)).map .bool, .live⟩, ⟨some 3, [.int (ix (ix m.next s) a), .sl 1 m.next.length 0 m.next.length, iL (w ++ [a])], .live⟩]) (b := 1) (k := 9) (n := m.next.length) (l := rb m.next.length (m.oth s l a)) rfl hrl.symm
    simp [-zJRc, hlen, zHzW, hv]
end Ab
namespace Ab
theorem zzyf {σ : List Blk} {f : Nat} : ∀ (l : List Bool) (acc : List Nat), (l.map AV.bool).foldl (fun acc y => reach σ f y acc) acc = acc
  | [], _ => rfl
  | x :: l, acc => by
    have e : reach σ f (.bool x) acc = acc := by cases f <;> rfl
    simp only [List.map_cons, List.foldl_cons, e]
    exact zzyf l acc
theorem zHwP {vars : List AV} {fl : Option (Nat × AV)} {k : Nat} {s : Int} {n : Nat} {l : List Bool} {Q : Ex → St → Prop} (hl : n = l.length) (hn : nth vars k = .ptr 1 (kst (some 3)) 0) (h : Q .nor ⟨setN vars k (.pimm (.agg [.int s, bL l, .imm false []])), fl, [⟨none, l.map .bool, .dead⟩, ⟨some 3, [.int s, .sl 0 n 0 n, .snil], .dead⟩]⟩) : W L (.frz k) ⟨vars, fl, [⟨none, l.map .bool, .live⟩, ⟨some 3, [.int s, .sl 0 n 0 n, .snil], .live⟩]⟩ Q := by
  have hr : reach [⟨none, l.map .bool, .live⟩, ⟨some 3, [.int s, .sl 0 n 0 n, .snil], .live⟩] vd (.ptr 1 (kst (some 3)) 0) [] = [0, 1] := by
    generalize hσ : ([⟨none, l.map .bool, .live⟩, ⟨some 3, [.int s, .sl 0 n 0 n, .snil], .live⟩] : List Blk) = σ
    have h0 : blk σ 0 = some ⟨none, l.map .bool, .live⟩ := by subst hσ; rfl
    have h1 : blk σ 1 = some ⟨some 3, [.int s, .sl 0 n 0 n, .snil], .live⟩ := by subst hσ; rfl
    show reach σ (11 + 1) (.ptr 1 (kst (some 3)) 0) [] = [0, 1]
    have e1 : reach σ 11 (.sl 0 n 0 n) [1] = [0, 1] := by
      show reach σ (10 + 1) (.sl 0 n 0 n) [1] = [0, 1]
      unfold reach
      simp only [h0]
      rw [if_neg (by decide)]
      exact zzyf l _
    have e0 : reach σ 11 (.int s) [1] = [1] := by unfold reach; rfl
    have e2 : reach σ 11 .snil [0, 1] = [0, 1] := by unfold reach; rfl
    unfold reach
    simp only [h1]
    rw [if_neg (by decide)]
    simp only [List.foldl_cons, List.foldl_nil, e0, e1, e2]
  have hd : dieIf (fun b => !([0, 1] : List Nat).contains b) 0 [⟨none, l.map .bool, .live⟩, ⟨some 3, [.int s, .sl 0 n 0 n, .snil], .live⟩] = [⟨none, l.map .bool, .live⟩, ⟨some 3, [.int s, .sl 0 n 0 n, .snil], .live⟩] := by simp [dieIf]
  have hz := zpjh (σ := [⟨none, l.map .bool, .live⟩, ⟨some 3, [.int s, .sl 0 n 0 n, .snil], .live⟩]) (b := 0) (k := 8) (n := n) (l := l) rfl hl
  have hv := zDnM (σ := [⟨none, l.map .bool, .live⟩, ⟨some 3, [.int s, .sl 0 n 0 n, .snil], .live⟩]) (b := 1) (f := 9) (s := s) rfl hz zTci
  refine zCAR (ds := [0, 1]) (x := .agg [.int s, bL l, .imm false []]) (by rw [hn]; exact hr) (by rw [hn]; rfl) (by rw [hn, hd]; exact hv) h
def sr (n : Nat) (q : List PS) : List AV := q.flatMap fun p => [.int p.1.1, bL (rb n p.1.2), iL p.2]
theorem zFoZ {n : Nat} : ∀ {q : List PS}, (sr n q).length = 3 * q.length
  | [] => rfl
  | p :: q => by
    have := zFoZ (n := n) (q := q)
    simp only [sr, List.flatMap_cons, List.length_append, List.length_cons, List.length_nil] at this ⊢; omega
theorem zkKR {n : Nat} {q r : List PS} : sr n (q ++ r) = sr n q ++ sr n r := by simp [sr]
theorem zzJD {n : Nat} {p : PS} : sr n [p] = [.int p.1.1, bL (rb n p.1.2), iL p.2] := by simp [sr]
theorem zS76 {n : Nat} : ∀ {q : List PS} {k : Nat}, k < q.length → (sr n q).drop (k * 3) = .int (ix q (k : Int)).1.1 :: bL (rb n (ix q (k : Int)).1.2) :: iL (ix q (k : Int)).2 :: (sr n q).drop (k * 3 + 3)
  | p :: q, 0, _ => rfl
  | p :: q, k + 1, h => by
    have := zS76 (n := n) (q := q) (k := k) (by simpa using h)
    have e : ix (p :: q) ((k + 1 : Nat) : Int) = ix q (k : Int) := by simp [ix]
    rw [e, show (k + 1) * 3 = k * 3 + 1 + 1 + 1 by omega]
    exact this
section
variable {n : Nat} {q : List PS} {i : Int} {K : AV → Prop} {t : Tk K}
theorem zShI (h0 : 0 ≤ i) (h1 : i < q.length) : elm (sr n q) (i.toNat * 3 + 2) = some (iL (ix q i).2) := by
  have := zS76 (n := n) (q := q) (k := i.toNat) (by omega)
  rw [show ((i.toNat : Nat) : Int) = i by omega] at this
  rw [znyW]
  have g : ∀ j, (sr n q)[i.toNat * 3 + j]? = ((sr n q).drop (i.toNat * 3))[j]? := fun j => by rw [List.getElem?_drop]
  rw [g 2, this]; rfl
theorem zoNR (h0 : 0 ≤ i) (h1 : i < q.length) : pT (sr n q) (0 + i.toNat * 3) (some 3) K t = K (.agg [.int (ix q i).1.1, bL (rb n (ix q i).1.2), iL (ix q i).2]) := by
  have := zS76 (n := n) (q := q) (k := i.toNat) (by omega)
  rw [show ((i.toNat : Nat) : Int) = i by omega] at this
  unfold pT part
  rw [Nat.zero_add]
  simp only
  rw [if_pos (by rw [zFoZ]; omega), this]
  rfl
end
def uiF (s : Int) (i : Nat) (t : Int) : Bool := decide (t < (i : Int)) && decide (t ≠ s)
theorem ztxl {n : Nat} {s : Int} {i : Nat} (hi : i < n) : (rbf n (uiF s i)).set i (decide ((i : Int) ≠ s)) = rbf n (uiF s (i + 1)) := by
  have h := zrmJ (n := n) (p := uiF s i) (v := (i : Int)) (b := decide ((i : Int) ≠ s)) (by omega) (by omega)
  rw [show ((i : Int)).toNat = i by omega] at h
  rw [h]
  refine zpQa fun t t0 t1 => ?_
  unfold uiF
  by_cases e : t = (i : Int)
  · subst e; simp; omega
  · rw [if_neg e]
    congr 1
    exact decide_eq_decide.2 (by omega)
theorem z269 {m : Mly} {s : Int} : rbf m.next.length (uiF s m.next.length) = rb m.next.length (m.othW s []) := by
  rw [← zpIt]
  refine zpQa fun t t0 t1 => ?_
  rw [Bool.eq_iff_iff]
  unfold uiF uiL
  rw [decide_eq_true_eq, zm9g]
  simp only [Bool.and_eq_true, decide_eq_true_eq]
  rw [show ((t.toNat : Nat) : Int) = t by omega]
  exact ⟨fun h => ⟨⟨t0, t1⟩, h.2⟩, fun h => ⟨h.1.2, h.2⟩⟩
theorem zpzO {q : List PS} {x : Sit} {k : Nat} (h : k < q.length) : hasG (q.take (k + 1)) x = (hasG (q.take k) x || decide ((ix q (k : Int)).1 = x)) := by
  unfold hasG
  rw [List.take_add_one, List.getElem?_eq_getElem h, zrZW h, List.any_append]
  simp
theorem z0Oo (m : Mly) (hm : m.Ok) (h8 : m.next.length ≤ 8) (s : Int) (hs : 0 ≤ s ∧ s < (m.next.length : Int)) (n : Int) (hn : 0 ≤ n ∧ n ≤ 128) (D0 D1 : Blk) : W L (.loop zADB) ⟨[.und, .und, .int n, (AV.agg [.int m.inputs, .int m.start, iLL m.next, iLL m.out]).pimm, .und, .und, .und, .int 0, .sl 2 3 0 1, .und, .und, .und, .und, .und, .und, .und], none, [D0, D1, ⟨some 3, catR [.agg [.int s, bL (rb m.next.length (m.othW s [])), .imm false []]], .live⟩]⟩ (Out 2 (Thn L ((IC.reg zKqE).seq IC.ret) (EndsK zF6s fun v σ' => optK (viewT σ' false v) fun x => x = uioRA (m.uio s n, 0)))) := by
  have hG := ugr hm h8
  have hin := hm.inputs
  have hst := hm.states
  refine zv8C (fun p : Int × List PS => [(7, .int p.1), (8, .sl 2 (3 * p.2.length) 0 p.2.length)]) (fun p => [D0, D1, ⟨some 3, sr m.next.length p.2, .live⟩])
    (fun p => p.1 ≤ p.2.length ∧ Usr m s n p.1 p.2) (fun p => (2049 - p.1).toNat) (0, [((s, m.othW s []), [])]) (by simp [sets, zzJD, catR]) ⟨by simp, .inl ⟨Gst.init hG (zA9u hm hs (w := []) (by simp)), Nof.init⟩⟩ ?_
  rintro ⟨i, q⟩ ⟨i1, hU⟩
  dsimp only at i1 hU ⊢
  have i0 : 0 ≤ i := by
    rcases hU with ⟨h, _⟩ | ⟨_, _, _, h⟩
    · exact h.i0
    · exact h
  have hql : q.length ≤ 2048 := by
    rcases hU with ⟨h, _⟩ | ⟨_, _, h, _⟩
    · exact h.gi.gq.le hG
    · exact h
  by_cases hi : i < q.length
  · have gel := zShI (n := m.next.length) i0 hi
    by_cases hl : n ≤ ((ix q i).2.length : Int)
    · have hl' := eq_true hl
      have hl'' := eq_false (show ¬ ((ix q i).2.length : Int) < n by omega)
      have hD : m.uio s n = none := by
        rcases hU with ⟨h, hn⟩ | ⟨h, _⟩
        · exact z4UF hm h8 hs h hn hi hl
        · exact h
      have hlate : ∀ j, i + 1 ≤ j → j < (q.length : Int) → n ≤ ((ix q j).2.length : Int) := by
        rcases hU with ⟨h, _⟩ | ⟨_, h, _, _⟩
        · intro j j0 j1
          have := h.gi.asc i j i0 (by omega) j1
          have : (ix q i).2.length ≤ (ix q j).2.length := by
            refine Classical.byContradiction fun hc => ?_
            unfold slxC at this
            rw [if_neg (by omega), if_pos (by omega)] at this
            omega
          omega
        · exact fun j j0 j1 => h j (by omega) j1
      have hin' := eq_true (show 0 < m.inputs by omega)
      simp [-zJRc, hi, i0, zFoZ]
      refine zv8C (fun _ : Unit => []) (fun _ => [D0, D1, ⟨some 3, sr m.next.length q, .live⟩]) (fun _ => True) (fun _ => 0) () (by simp [sets]) trivial ?_
      rintro ⟨⟩ _
      simp [-zJRc, hi, i0, zFoZ, gel, hl'', hin']
      refine ⟨by omega, zGkM (i + 1, q) (by simp) rfl ⟨by dsimp only; omega, .inr ⟨hD, hlate, hql, by omega⟩⟩ (by dsimp only; omega)⟩
    · have hl' := eq_true (show ((ix q i).2.length : Int) < n by omega)
      obtain ⟨hq, hno⟩ : Gst m.unx m.inputs (Uok m) 2048 (m.situ s []) i 0 q ∧ Nof m.unx m.inputs i 0 q := by
        rcases hU with h | ⟨_, h, _, _⟩
        · exact h
        · exact absurd (h i (by omega) hi) hl
      have hp := hq.gi.gq.rng _ (zmAQ i0 hi)
      simp [-zJRc, hi, i0, zFoZ]
      refine zv8C (fun p : Int × List PS => [(8, .sl 2 (3 * p.2.length) 0 p.2.length), (9, .int p.1)]) (fun p => [D0, D1, ⟨some 3, sr m.next.length p.2, .live⟩])
        (fun p => (0 ≤ p.1 ∧ p.1 ≤ m.inputs) ∧ (i < p.2.length ∧ ix p.2 i = ix q i) ∧ Gst m.unx m.inputs (Uok m) 2048 (m.situ s []) i p.1 p.2 ∧ Nof m.unx m.inputs i p.1 p.2)
        (fun p => (m.inputs - p.1).toNat) (0, q) (by simp [sets]) ⟨by dsimp only; omega, ⟨hi, rfl⟩, hq, hno⟩ ?_
      rintro ⟨a, q'⟩ ⟨⟨a0, a1⟩, ⟨hiq, gx⟩, gq, gn⟩
      dsimp only at a0 a1 hiq gx gq gn ⊢
      have gql := gq.gi.gq.le hG
      by_cases ha : a < m.inputs
      · have hwl := gq.gi.gq.len i i0 hiq
        rw [gx] at hwl
        have gel' := zShI (n := m.next.length) i0 hiq
        rw [gx] at gel'
        have p3 := fun (K : AV → Prop) (t : Tk K) => zoNR (n := m.next.length) (q := q') (K := K) (t := t) i0 hiq
        simp only [gx] at p3
        have hA := zBK9 m hm (ix q i).1.1 hp.at' (ix q i).1.2 hp.rng (ix q i).2 (by omega) a ⟨a0, ha⟩
        have hok : Uok m (m.aft (ix q i).1 a) := ⟨hm.nx _ _ hp.at'.1 hp.at'.2 a0 ha, zdBc, fun t ht => (zneN.1 ht).1⟩
        have hx : m.unx (ix q i).1 a = if (m.aft (ix q i).1 a).2 = [] then none else if (m.aft (ix q i).1 a).1 ∈ (m.aft (ix q i).1 a).2 then some (ix q i).1 else some (m.aft (ix q i).1 a) := rfl
        have hAf : m.aft (ix q i).1 a = (ix (ix m.next (ix q i).1.1) a, m.oth (ix q i).1.1 (ix q i).1.2 a) := rfl
        rw [hAf] at hx hok
        dsimp only at hx
        generalize m.oth (ix q i).1.1 (ix q i).1.2 a = Z at *
        generalize hu : ix (ix m.next (ix q i).1.1) a = u at *
        have hN : PC zsnC [.agg [.int u, .imm false ((rb m.next.length Z).map .bool), .imm false ((ix q i).2.map .int ++ [.int a])]] = some (.bool (decide (Z = []))) := by
          have := z66Z u m.next.length Z ((ix q i).2 ++ [a]) (by omega) hok.rng
          rw [← this, iL, bL, List.map_append]; rfl
        by_cases hz : Z = []
        · subst hz
          rw [if_pos rfl] at hx
          have hg := z2RY hG gq gn hiq a0 ha (by rw [gx]; exact hx)
          rw [gx] at hg
          have hD : m.uio s n = some ((ix q i).2 ++ [a]) := by
            unfold Mly.uio
            rw [hg]
            exact if_pos (by simp; omega)
          rw [hD]
          rw [decide_eq_true rfl] at hN
          simp [-zJRc, ha, a0, i0, hiq, zFoZ, ↓p3, hA, gel', hl', hN]
          simp [uioRA]
        · have hz' : decide (Z = []) = false := by simpa using hz
          rw [hz'] at hN
          have hur := hok.at'
          dsimp only at hur
          have hrl := zgcd (n := m.next.length) (l := Z)
          have hrx := rb_ix (n := m.next.length) (l := Z) hur.1 hur.2
          simp [-zJRc, ha, a0, i0, hiq, zFoZ, ↓p3, hA, gel', hl', hN, hur.1, hur.2, hrl, hrx]
          have huz : (u ∈ Z) = (decide (u ∈ Z) = true) := by simp
          refine zv8C (fun k : Nat => [(11, .int k), (12, .bool (decide (u ∈ Z) || hasG (q'.take k) (u, Z)))]) (fun _ => [D0, D1, ⟨some 3, sr m.next.length q', .live⟩]) (fun k => k ≤ q'.length) (fun k => q'.length - k) 0 (by simp [sets, hasG]) (by omega) ?_
          intro k hk
          by_cases hkq : k < q'.length
          · have hsu := zpzO (x := (u, Z)) hkq
            have hr := gq.gi.gq.rng _ (zmAQ (l := q') (n := (k : Int)) (by omega) (by omega))
            have p4 := fun (K : AV → Prop) (t : Tk K) => zoNR (n := m.next.length) (q := q') (K := K) (t := t) (i := (k : Int)) (by omega) (by omega)
            have hsa : PC zjIu [.agg [.int (ix q' (k : Int)).1.1, .imm false ((rb m.next.length (ix q' (k : Int)).1.2).map .bool), .imm false ((ix q' (k : Int)).2.map .int)], .agg [.int u, .imm false ((rb m.next.length Z).map .bool), .imm false ((ix q i).2.map .int ++ [.int a])]] = some (.bool (decide ((ix q' (k : Int)).1 = (u, Z)))) := by
              have := zXF0 (ix q' (k : Int)).1.1 u m.next.length (ix q' (k : Int)).1.2 Z (ix q' (k : Int)).2 ((ix q i).2 ++ [a]) (by omega) hr.rng hok.rng hr.up hok.up
              rw [← this, iL, bL, iL, bL, List.map_append]; rfl
            cases hb : (decide (u ∈ Z) || hasG (q'.take k) (u, Z)) with
            | true =>
              have hb' : (decide (u ∈ Z) || hasG (q'.take (k + 1)) (u, Z)) = true := by rw [hsu, ← Bool.or_assoc, hb]; rfl
              simp [-zJRc, hkq]
              exact ⟨by omega, zGkM (k + 1) (by simp [hb']) rfl (by omega) (by omega)⟩
            | false =>
              have hb' : (decide (u ∈ Z) || hasG (q'.take (k + 1)) (u, Z)) = decide ((ix q' (k : Int)).1 = (u, Z)) := by rw [hsu, ← Bool.or_assoc, hb]; rfl
              generalize decide ((ix q' (k : Int)).1 = (u, Z)) = B at *
              simp [-zJRc, hkq, zFoZ, ↓p4, hsa]
              exact ⟨by omega, zGkM (k + 1) (by simp [hb']) rfl (by omega) (by omega)⟩
          · have ek : k = q'.length := by omega
            subst ek
            rw [List.take_length]
            rw [if_neg hz] at hx
            by_cases hin : u ∈ Z
            · rw [if_pos hin] at hx
              have hin' : decide (u ∈ Z) = true := by simpa using hin
              rw [hin']
              have hstay : Gst m.unx m.inputs (Uok m) 2048 (m.situ s []) i (a + 1) q' := gq.stay hG hiq a0 ha (by
                refine zoo4 (by rw [gx]; exact hx) ?_
                rw [z6uL, ← gx]
                exact List.mem_map.2 ⟨_, zmAQ i0 hiq, rfl⟩)
              have hnof : Nof m.unx m.inputs i (a + 1) q' := gn.step (by rw [gx, hx]; simp)
              simp [-zJRc]
              refine ⟨by omega, zGkM (a + 1, q') (by simp) rfl ⟨by dsimp only; omega, ⟨hiq, gx⟩, hstay, hnof⟩ (by dsimp only; omega)⟩
            · rw [if_neg hin] at hx
              have hin' : decide (u ∈ Z) = false := by simpa using hin
              rw [hin']
              have hnof : Nof m.unx m.inputs i (a + 1) q' := gn.step (by rw [gx, hx]; simp)
              cases hh : hasG q' (u, Z) with
              | true =>
                have hstay : Gst m.unx m.inputs (Uok m) 2048 (m.situ s []) i (a + 1) q' := gq.stay hG hiq a0 ha (zoo4 (by rw [gx]; exact hx) hh)
                simp [-zJRc]
                refine ⟨by omega, zGkM (a + 1, q') (by simp) rfl ⟨by dsimp only; omega, ⟨hiq, gx⟩, hstay, hnof⟩ (by dsimp only; omega)⟩
              | false =>
                have hnew : Gst m.unx m.inputs (Uok m) 2048 (m.situ s []) i (a + 1) (q' ++ [((u, Z), (ix q i).2 ++ [a])]) := by
                  have := gq.step hG hiq a0 ha
                  rw [z18f (by rw [gx]; exact hx) hh, gx] at this
                  exact this
                have hk3 : (3 * q'.length = q'.length * kst (some 3)) = True := eq_true (by simp [kst]; omega)
                have h4 : ((q'.length : Int) = 4096) = False := eq_false (by omega)
                have h4' : (q'.length = 4096) = False := eq_false (by omega)
                simp [-zJRc, zFoZ, hk3, h4, h4']
                refine ⟨by omega, by omega, zGkM (a + 1, q' ++ [((u, Z), (ix q i).2 ++ [a])]) (by simp [Nat.mul_add]) (by simp [zkKR, zzJD, iL, bL]) ⟨by dsimp only; omega, ⟨by simp; omega, by dsimp only; rw [zT8e i0 hiq, gx]⟩, hnew, hnof.app i0 hiq⟩ (by dsimp only; omega)⟩
      · have hxi : a = m.inputs := by omega
        subst hxi
        simp [-zJRc]
        refine ⟨by omega, zGkM (i + 1, q') (by simp) rfl ⟨by dsimp only; omega, .inl ⟨gq.next hG hiq, gn.next⟩⟩ (by dsimp only; omega)⟩
  · have hD : m.uio s n = none := by
      rcases hU with ⟨h, hn⟩ | ⟨h, _⟩
      · unfold Mly.uio; rw [zjxQ h hn hi]
      · exact h
    rw [hD]
    simp [hi]
    rfl
theorem z7oA (m : Mly) (h : m.fits) (hn8 : m.validE = 0 → m.next.length ≤ 8) (s n : Int) : PC zbgF [m.av, .int s, .int n] = some (uioRA (m.uioR s n)) := by
  refine zx72 (zp4Q rfl ?_)
  have hc := zGPu m h
  by_cases h0 : m.mchk m.mnlb = 0
  case neg =>
    have e : m.uioR s n = (none, m.mchk m.mnlb) := by unfold Mly.uioR; rw [if_pos h0]
    rw [e]
    simp [hc, h0, uioRA]
  obtain ⟨hv, hM⟩ := zwBY h0
  have h8 := hn8 hv
  have hm := hM.ok
  have hst := hm.states
  rw [h0] at hc
  by_cases h1 : s < 0 ∨ (m.next.length : Int) ≤ s ∨ n < 0 ∨ 128 < n
  · have e : m.uioR s n = (none, 2) := by unfold Mly.uioR; rw [if_neg (by simpa using h0), if_pos h1]
    rw [e]
    by_cases a1 : s < 0
    · simp [hc, a1, uioRA]
    by_cases a2 : (m.next.length : Int) ≤ s
    · simp [hc, a1, a2, uioRA]
    by_cases a3 : n < 0
    · simp [hc, a1, a2, a3, uioRA]
    have a4 : 128 < n := by omega
    simp [hc, a1, a2, a3, a4, uioRA]
  have a1 := eq_false (show ¬ s < 0 by omega)
  have a2 := eq_false (show ¬ (m.next.length : Int) ≤ s by omega)
  have a3 := eq_false (show ¬ n < 0 by omega)
  have a4 := eq_false (show ¬ 128 < n by omega)
  have hz : List.replicate m.next.length false = rbf m.next.length (uiF s 0) := by
    apply List.ext_getElem
    · simp [rbf]
    · intro i h1 h2
      simp [rbf, uiF]
      intro h; omega
  simp [-zJRc, -List.map_replicate, hc, a1, a2, a3, a4]
  refine ⟨by omega, ?_⟩
  refine zv8C (fun i : Nat => [(5, .int i)]) (fun i => [⟨none, (rbf m.next.length (uiF s i)).map .bool, .live⟩, ⟨some 3, [.int s, .sl 0 m.next.length 0 m.next.length, .snil], .live⟩]) (fun i => i ≤ m.next.length) (fun i => m.next.length - i) 0 (by rw [← hz]; simp [sets]) (by omega) ?_
  intro i hi1
  by_cases hi : i < m.next.length
  · have hset := ztxl (s := s) hi
    have hrl := zDq8 (n := m.next.length) (p := uiF s i)
    simp [-zJRc, -List.map_set, hi, hrl]
    exact ⟨by omega, zGkM (i + 1) (by simp) (by rw [← hset]; simp) (by omega) (by omega)⟩
  · have ei : i = m.next.length := by omega
    subst ei
    have hS : m.uioR s n = if m.othW s [] = [] then (some [], 0) else (m.uio s n, 0) := by unfold Mly.uioR; rw [if_neg (by simpa using h0), if_neg h1]
    rw [hS, z269]
    have hs : 0 ≤ s ∧ s < (m.next.length : Int) := by omega
    have hsk := zA9u hm hs (w := []) (by simp)
    have hno := z66Z s m.next.length (m.othW s []) [] (by omega) hsk.rng
    have hno' : PC zsnC [.agg [.int s, bL (rb m.next.length (m.othW s [])), .imm false []]] = some (.bool (decide (m.othW s [] = []))) := hno
    simp [-zJRc]
    refine zHwP zgcd.symm rfl ?_
    by_cases hl : m.othW s [] = []
    · rw [if_pos hl]
      have hd : decide (m.othW s [] = []) = true := by simpa using hl
      rw [hd] at hno'
      simp [-zJRc, hno', uioRA]
    · rw [if_neg hl]
      have hd : decide (m.othW s [] = []) = false := by simpa using hl
      rw [hd] at hno'
      simp [-zJRc, hno']
      exact z0Oo m hm h8 s hs n ⟨by omega, by omega⟩ _ _
end Ab
namespace Ab
theorem zlo7 {m : Mly} (h8 : m.next.length ≤ 8) {s n : Int} {w : List Int} (h : (m.uioR s n).1 = some w) : (w.length : Int) ≤ 1000000 := by
  unfold Mly.uioR at h
  split at h
  · simp at h
  · split at h
    · simp at h
    · rename_i h2
      split at h
      · simp at h; subst h; simp
      · dsimp only at h
        unfold Mly.uio at h
        split at h
        · split at h
          · injection h with h; subst h; omega
          · simp at h
        · simp at h
theorem zutH (aw : PC zXAh [] = some (.bool true)) (m : Mly) (h : m.fits) (s n : Int) : PC zdZz [m.av, .int s, .int n] = some (.bool true) := by
  refine zx72 (z7Tl rfl ?_)
  have hs := zL6e m h
  cases hsm : m.small with
  | false => rw [hsm] at hs; simp [hs, aw]
  | true =>
    rw [hsm] at hs
    have h8 := (zrnz hsm).1
    have a1 := Uio_s m h (fun _ => h8) s n
    have a2 := z7oA m h (fun _ => h8) s n
    have hl : (((m.uioR s n).1.getD []).length : Int) ≤ 1000000 := by
      cases hu : (m.uioR s n).1 with
      | none => simp
      | some w => exact zlo7 h8 hu
    have a3 := EqI_s ((m.uioR s n).1.getD []) ((m.uioR s n).1.getD []) hl hl
    unfold uioRA at a1 a2
    simp [hs, a1, a2, a3, aw]
end Ab
namespace Ab
attribute [local simp ↓] zX5D
def Mly.uniqb (m : Mly) (s : Int) (w : List Int) : Bool := (List.range m.next.length).all fun (t : Nat) => decide ((t : Int) = s) || decide (m.outs s w ≠ m.outs (t : Int) w)
theorem zlIU {m : Mly} {s : Int} {w : List Int} : m.uniqb s w = true ↔ m.uniq s w := by
  unfold Mly.uniqb Mly.uniq
  simp only [List.all_eq_true, List.mem_range, Bool.or_eq_true, decide_eq_true_eq]
  constructor
  · intro h t t0 t1 hne
    rcases h t.toNat (by omega) with e | e
    · exact absurd (by omega) hne
    · rwa [show ((t.toNat : Nat) : Int) = t by omega] at e
  · intro h t ht
    by_cases e : (t : Int) = s
    · exact .inl e
    · exact .inr (h t (by omega) (by omega) e)
theorem zsUk (m : Mly) (h : m.fits) (hv : m.validE = 0) (s : Int) (hs : 0 ≤ s ∧ s < (m.next.length : Int)) (w : List Int) (hw : wordE w m.inputs = 0) : PC zkNX [m.av, .int s, iL w] = some (.bool (m.uniqb s w)) := by
  refine zx72 (zIdz rfl ?_)
  have hl := (zFUS hw).1
  have hst := (zaDP hv).states
  have hF := fun (t : Int) (ht : 0 ≤ t ∧ t < (m.next.length : Int)) => (zuwl hv ht (w := w)) ▸ z0GH m h t w (by omega)
  have hF' : ∀ t : Int, 0 ≤ t ∧ t < (m.next.length : Int) → PC zrcD [m.av, .int t, iL w] = some (.tup [iL (m.outs t w), .int (m.run t w), .int 0]) := fun t ht => by
    have := hF t ht
    rwa [if_neg (by simpa using hw)] at this
  have h1 := hF' s hs
  simp [-zJRc, h1]
  refine zv8C (fun i : Nat => [(4, .int i)]) (fun _ => []) (fun i => i ≤ m.next.length ∧ ∀ t : Nat, t < i → (t : Int) = s ∨ m.outs s w ≠ m.outs (t : Int) w) (fun i => m.next.length - i) 0 (by simp [sets]) ⟨by omega, fun t ht => by omega⟩ ?_
  rintro i ⟨hi1, hi2⟩
  by_cases hi : i < m.next.length
  · have h2 := hF' (i : Int) ⟨by omega, by omega⟩
    have h3 := EqI_s (m.outs s w) (m.outs (i : Int) w) (by rw [zj8m]; omega) (by rw [zj8m]; omega)
    have step : ((i : Int) = s ∨ m.outs s w ≠ m.outs (i : Int) w) → ∀ t : Nat, t < i + 1 → (t : Int) = s ∨ m.outs s w ≠ m.outs (t : Int) w := fun hx t ht => by
      by_cases e : t = i
      · subst e; exact hx
      · exact hi2 t (by omega)
    by_cases he : (i : Int) = s
    · have he' := eq_true he
      simp [-zJRc, hi, h2, he']
      refine ⟨by omega, zGkM (i + 1) (by simp) rfl ⟨by omega, step (.inl he)⟩ (by omega)⟩
    · have he' := eq_false he
      by_cases ho : m.outs s w = m.outs (i : Int) w
      · have hb : m.uniqb s w = false := by
          rw [Bool.eq_false_iff]
          intro hc
          exact zlIU.1 hc (i : Int) (by omega) (by omega) he ho
        rw [decide_eq_true ho] at h3
        simp [-zJRc, hi, h2, he', h3, hb]
      · rw [decide_eq_false ho] at h3
        simp [-zJRc, hi, h2, he', h3]
        refine ⟨by omega, zGkM (i + 1) (by simp) rfl ⟨by omega, step (.inr ho)⟩ (by omega)⟩
  · have hb : m.uniqb s w = true := zlIU.2 fun t t0 t1 hne => by
      have := hi2 t.toNat (by omega)
      rw [show ((t.toNat : Nat) : Int) = t by omega] at this
      exact this.resolve_left hne
    simp [-zJRc, hi, hb]
theorem z7Ld {m : Mly} (hM : Mnl m) (h0 : m.mchk m.mnlb = 0) (h8 : m.next.length ≤ 8) {s : Int} (hs : 0 ≤ s ∧ s < (m.next.length : Int)) : (m.uioR s 8).2 = 0 ∧ ((m.uioR s 8).1 = none → ∀ w, wordE w m.inputs = 0 → w.length ≤ 8 → ¬ m.uniq s w) ∧ ∀ v, (m.uioR s 8).1 = some v → wordE v m.inputs = 0 ∧ v.length ≤ 8 ∧ m.uniq s v ∧ ∀ w, wordE w m.inputs = 0 → w.length ≤ 8 → m.uniq s w → slxC v w ≤ 0 := by
  have hm := hM.ok
  have hin := hm.inputs
  have e : m.uioR s 8 = if m.othW s [] = [] then (some [], 0) else (m.uio s 8, 0) := by unfold Mly.uioR; rw [if_neg (by simpa using h0), if_neg (by omega)]
  rw [e]
  by_cases ho : m.othW s [] = []
  · rw [if_pos ho]
    refine ⟨rfl, by simp, fun v hv => ?_⟩
    simp at hv
    subst hv
    refine ⟨zuoY ⟨by omega, by omega⟩ (by simp) (by simp), by simp, (zv12 hm (by simp)).2 ho, fun w _ _ _ => ?_⟩
    exact zo5K (u := []) (v := w)
  · rw [if_neg ho]
    have hn : ¬ m.uniq s [] := fun h => ho ((zv12 hm (by simp)).1 h)
    refine ⟨rfl, fun h w hw hl hu => ?_, fun v hv => ?_⟩
    · obtain ⟨v, hv, _⟩ := zQgJ hm h8 hs (n := 8) (zFUS hw).2 (by omega) hu hn
      dsimp only at h
      rw [h] at hv; simp at hv
    · dsimp only at hv
      obtain ⟨h1, h2, h3⟩ := zhjv hm h8 hs hv
      refine ⟨zuoY ⟨by omega, by omega⟩ (by omega) h1, by omega, h3, fun w hw hl hu => ?_⟩
      obtain ⟨v', hv', h4⟩ := zQgJ hm h8 hs (n := 8) (zFUS hw).2 (by omega) hu hn
      rw [hv] at hv'
      injection hv' with hv'
      subst hv'
      exact h4
theorem zpI1 (aw : PC zXAh [] = some (.bool true)) (m : Mly) (h : m.fits) (q : Nat) (a : Int) (a0 : 0 ≤ a ∧ a ≤ 65535) (w : List Int) (hl : (w.length : Int) ≤ 9223372036854775807) : PC zkMk [m.av, .ik q a, iL w] = some (.bool true) := by
  refine zx72 (zM4D rfl ?_)
  have hs := zL6e m h
  have hck := zGPu m h
  cases hsm : m.small with
  | false => rw [hsm] at hs; simp [hs, aw]
  | true =>
    rw [hsm] at hs
    have h8 := (zrnz hsm).1
    by_cases h0 : m.mchk m.mnlb = 0
    case neg => simp [hs, hck, h0, aw]
    by_cases h1 : 100 < (w.length : Int)
    · simp [hs, hck, h0, h1, aw]
    obtain ⟨hv, hM⟩ := zwBY h0
    have hm := hM.ok
    have hst := hm.states
    obtain ⟨s, es, s1⟩ := tmodN (n := m.next.length) a0.1 (by omega)
    have hs01 : 0 ≤ (s : Int) ∧ (s : Int) < (m.next.length : Int) := ⟨by omega, by omega⟩
    have hU := Uio_s m h (fun _ => h8) (s : Int) 8
    obtain ⟨u1, u2, u3⟩ := z7Ld hM h0 h8 hs01
    unfold uioRA at hU
    rw [u1] at hU
    have hz : m.next ≠ [] := by intro e; rw [e] at hst; simp at hst
    have hr1 := eq_true (show (-9223372036854775808 ≤ a ∧ a ≤ 9223372036854775807) by omega)
    have hC := zJ4o w m.inputs hl
    rw [h0] at hck
    cases hR : (m.uioR (s : Int) 8).1 with
    | none =>
      rw [hR] at hU
      have hU : PC zvA6 [.agg [.int m.inputs, .int m.start, .imm false (m.next.map iL), .imm false (m.out.map iL)], .int (s : Int), .int 8] = some (.tup [.imm false [], .bool false, .int 0]) := hU
      by_cases hw : wordE w m.inputs = 0
      · by_cases h8w : w.length ≤ 8
        · have hn := u2 hR w hw h8w
          have hq := zsUk m h hv (s : Int) hs01 w hw
          have hb : m.uniqb (s : Int) w = false := by
            rw [Bool.eq_false_iff]
            exact fun hc => hn (zlIU.1 hc)
          rw [hb] at hq
          have h8' : ((w.length : Int) ≤ 8) = True := eq_true (by omega)
          simp [hs, hck, h1, hU, es, hz, hr1, hC, hw, h8', hq, aw]
        · have h8' : ((w.length : Int) ≤ 8) = False := eq_false (by omega)
          simp [hs, hck, h1, hU, es, hz, hr1, hC, hw, h8', aw]
      · simp [hs, hck, h1, hU, es, hz, hr1, hC, hw, aw]
    | some v =>
      obtain ⟨v1, v2, v3, v4⟩ := u3 v hR
      rw [hR] at hU
      have hU : PC zvA6 [.agg [.int m.inputs, .int m.start, .imm false (m.next.map iL), .imm false (m.out.map iL)], .int (s : Int), .int 8] = some (.tup [.imm false (v.map .int), .bool true, .int 0]) := hU
      have hq := zsUk m h hv (s : Int) hs01 v v1
      rw [zlIU.2 v3] at hq
      have hv8 : ((v.length : Int) ≤ 8) = True := eq_true (by omega)
      have hcm := zXl5 w v (by omega) (by omega)
      by_cases hw : wordE w m.inputs = 0
      · by_cases h8w : w.length ≤ 8
        · have h8' : ((w.length : Int) ≤ 8) = True := eq_true (by omega)
          have hq2 := zsUk m h hv (s : Int) hs01 w hw
          by_cases hc : 0 ≤ slxC w v
          · simp [hs, hck, h1, hU, es, hz, hr1, hC, hw, h8', hv8, hq, hcm, hc, aw]
          · have hb : m.uniqb (s : Int) w = false := by
              rw [Bool.eq_false_iff]
              intro hx
              have := v4 w hw h8w (zlIU.1 hx)
              have := zvz8.anti v w
              omega
            rw [hb] at hq2
            simp [hs, hck, h1, hU, es, hz, hr1, hC, hw, h8', hv8, hq, hcm, hc, hq2, aw]
        · have h8' : ((w.length : Int) ≤ 8) = False := eq_false (by omega)
          simp [hs, hck, h1, hU, es, hz, hr1, hC, hw, h8', hv8, hq, aw]
      · simp [hs, hck, h1, hU, es, hz, hr1, hC, hw, hv8, hq, aw]
end Ab
