/- A valid machine has no error and fits. minimize.Min. Classes of states, by the document. When a machine is minimal, by the program. Classes of states, by the document: all rounds. The minimal machine, by the document: how many states it has. Condition: none. -/
import Derived.Test.YtlgfempnnijfnaaGreatBfs
import Derived.Test.YtlgfempnnijfnaaGreatTrimW
import Derived.Test.YtlgfempnnijfnaaGreatMnlT
set_option linter.all false
set_option maxRecDepth 100000
set_option maxHeartbeats 4000000
namespace Ab
theorem zhQG {m : Mly} (h : m.Ok) : m.validE = 0 := by
  have h1 := h.inputs
  have h2 := h.states
  have h3 := h.start
  have h4 := h.len
  have hne : m.next ≠ [] := by intro e; rw [e] at h2; simp at h2
  have hs : m.sizeE = 0 := by
    unfold Mly.sizeE
    rw [if_neg (by omega), if_neg (by omega), if_neg hne, if_neg (by omega), if_neg (by omega), if_neg (by omega), if_neg (by omega)]
  unfold Mly.validE
  rw [if_neg (by simpa using hs)]
  refine zs2N fun s s0 s1 => ?_
  obtain ⟨r1, r2⟩ := h.row s s0 s1
  have b1 : bad (ix m.next s) m.next.length = false := z1UL.2 fun j j0 j1 => h.nx s j s0 s1 j0 (by omega)
  have b2 : bad (ix m.out s) 1048577 = false := z1UL.2 fun j j0 j1 => by have := h.ot s j s0 s1 j0 (by omega); omega
  unfold Mly.rowE
  rw [if_neg (by omega), if_neg (by simp [b1, b2])]
theorem zg29 {m : Mly} (hm : m.Ok) : m.fits := by
  have hin := hm.inputs
  have hst := hm.states
  have hml := hm.len
  have hsr := hm.start
  refine ⟨zwIQ.2 (by omega), zwIQ.2 (by omega), ⟨by omega, fun r hr => ?_⟩, ⟨by omega, fun r hr => ?_⟩⟩
  · obtain ⟨i, hi, rfl⟩ := List.mem_iff_getElem.1 hr
    have hro := (hm.row i (by omega) (by omega)).1
    rw [zrZW hi] at hro
    refine ⟨by omega, fun x hx => ?_⟩
    obtain ⟨j, hj, rfl⟩ := List.mem_iff_getElem.1 hx
    have := hm.nx i j (by omega) (by omega) (by omega) (by omega)
    rw [zrZW hi, zrZW hj] at this
    exact zwIQ.2 (by omega)
  · obtain ⟨i, hi, rfl⟩ := List.mem_iff_getElem.1 hr
    have hro := (hm.row i (by omega) (by omega)).2
    rw [zrZW hi] at hro
    refine ⟨by omega, fun x hx => ?_⟩
    obtain ⟨j, hj, rfl⟩ := List.mem_iff_getElem.1 hx
    have := hm.ot i j (by omega) (by omega) (by omega) (by omega)
    rw [zrZW hi, zrZW hj] at this
    exact zwIQ.2 (by omega)
end Ab
namespace Ab
def mN (j : Nat) : Nat := if j = 0 then 2 else 2 * j + 4
def mO (j : Nat) : Nat := if j = 0 then 4 else 2 * j + 5
def mtw (A O : List (List Int)) : List Blk := (List.zip A O).flatMap fun p => [Zb p.1, Zb p.2]
theorem zQuR : ∀ {A O : List (List Int)}, A.length = O.length → (mtw A O).length = 2 * A.length
  | [], [], _ => rfl
  | a :: A, o :: O, h => by
    have := zQuR (A := A) (O := O) (by simpa using h)
    simp [mtw] at this ⊢; omega
theorem zRvG {A O : List (List Int)} {a o : List Int} (h : A.length = O.length) : mtw (A ++ [a]) (O ++ [o]) = mtw A O ++ [Zb a, Zb o] := by
  unfold mtw
  rw [List.zip_append h]; simp
theorem mtw_N : ∀ {A O : List (List Int)} {j : Nat}, A.length = O.length → j < A.length → blk (mtw A O) (2 * j) = some (Zb (ix A (j : Int))) ∧ blk (mtw A O) (2 * j + 1) = some (Zb (ix O (j : Int)))
  | a :: A, o :: O, 0, h, _ => ⟨rfl, rfl⟩
  | a :: A, o :: O, j + 1, h, hj => by
    have := mtw_N (A := A) (O := O) (j := j) (by simpa using h) (by simpa using hj)
    have e1 : ix (a :: A) ((j + 1 : Nat) : Int) = ix A (j : Int) := by simp [ix]
    have e2 : ix (o :: O) ((j + 1 : Nat) : Int) = ix O (j : Int) := by simp [ix]
    rw [e1, e2]
    exact this
def mnS (inp : Int) (K : Nat) (N O : List (List Int)) : List Blk := match N, O with
  | a :: A, o :: O => ⟨some 4, [.int 0, .int 0, .snil, .snil], .live⟩ :: ⟨some 4, [.int inp, .int 0, .sl 3 (A.length + 1) 0 (A.length + 1), .sl 5 (A.length + 1) 0 (A.length + 1)], .live⟩ :: Zb a :: ⟨none, rws 0 mN (A.length + 1) K, .live⟩ :: Zb o :: ⟨none, rws 0 mO (A.length + 1) K, .live⟩ :: mtw A O
  | _, _ => [⟨some 4, [.int 0, .int 0, .snil, .snil], .live⟩, ⟨some 4, [.int inp, .int 0, .snil, .snil], .live⟩]
theorem zpdA {inp : Int} {K : Nat} {a o : List Int} {A O : List (List Int)} : mnS inp K (a :: A) (o :: O) = ⟨some 4, [.int 0, .int 0, .snil, .snil], .live⟩ :: ⟨some 4, [.int inp, .int 0, .sl 3 (A.length + 1) 0 (A.length + 1), .sl 5 (A.length + 1) 0 (A.length + 1)], .live⟩ :: Zb a :: ⟨none, rws 0 mN (A.length + 1) K, .live⟩ :: Zb o :: ⟨none, rws 0 mO (A.length + 1) K, .live⟩ :: mtw A O := rfl
theorem zDSp {inp : Int} {K : Nat} : mnS inp K [] [] = [⟨some 4, [.int 0, .int 0, .snil, .snil], .live⟩, ⟨some 4, [.int inp, .int 0, .snil, .snil], .live⟩] := rfl
theorem z5uT {B0 B1 : Blk} {K : Nat} {a o : List Int} {A O : List (List Int)} (hAO : A.length = O.length) (hA : ∀ x ∈ a :: A, x.length = K) (hO : ∀ x ∈ o :: O, x.length = K) : RowsAt (B0 :: B1 :: Zb a :: ⟨none, rws 0 mN (A.length + 1) K, .live⟩ :: Zb o :: ⟨none, rws 0 mO (A.length + 1) K, .live⟩ :: mtw A O) 3 mN (a :: A) ∧ RowsAt (B0 :: B1 :: Zb a :: ⟨none, rws 0 mN (A.length + 1) K, .live⟩ :: Zb o :: ⟨none, rws 0 mO (A.length + 1) K, .live⟩ :: mtw A O) 5 mO (o :: O) := by
  refine ⟨⟨?_, fun j hj => ?_⟩, ⟨?_, fun j hj => ?_⟩⟩
  · show some (Blk.mk none (rws 0 mN (A.length + 1) K) .live) = _
    unfold rws
    congr 2
    refine List.map_congr_left fun j hj => ?_
    have := hA _ (zmAQ (l := a :: A) (n := (j : Int)) (by omega) (by simp at hj ⊢; omega))
    rw [this]; rfl
  · cases j with
    | zero => rfl
    | succ j =>
      have e : mN (j + 1) = 2 * j + 6 := by unfold mN; rw [if_neg (by omega)]; omega
      rw [e]
      show blk (mtw A O) (2 * j) = _
      rw [(mtw_N hAO (by simpa using hj)).1]
      simp [ix]
  · show some (Blk.mk none (rws 0 mO (A.length + 1) K) .live) = _
    unfold rws
    rw [hAO]
    congr 2
    refine List.map_congr_left fun j hj => ?_
    have := hO _ (zmAQ (l := o :: O) (n := (j : Int)) (by omega) (by simp at hj ⊢; omega))
    rw [this]; rfl
  · cases j with
    | zero => rfl
    | succ j =>
      have e : mO (j + 1) = 2 * j + 7 := by unfold mO; rw [if_neg (by omega)]; omega
      rw [e]
      show blk (mtw A O) (2 * j + 1) = _
      rw [(mtw_N hAO (by simp at hj; omega)).2]
      simp [ix]
abbrev rwB (l : List Int) : Blk := ⟨none, l.map .int, if l = [] then .nul else .live⟩
def minA (m : Mly) : Mly × Int := if m.validE ≠ 0 then (⟨0, 0, [], []⟩, m.validE) else (m.minm, 0)
theorem zNH8 {t : Mly} {c : List Int} : ∀ {s : Nat}, (mrows t c s).1.length = (mrows t c s).2.length
  | 0 => rfl
  | s + 1 => by
    unfold mrows
    split
    · exact zNH8
    · simp [zNH8]
theorem zkC0 {t : Mly} {c : List Int} : ∀ {s : Nat}, (mrows t c s).1.length ≤ s
  | 0 => Nat.le_refl 0
  | s + 1 => by
    have := zkC0 (t := t) (c := c) (s := s)
    unfold mrows
    split
    · omega
    · simp; omega
def rwP (c l : List Int) (x : Nat) : List Int := (l.take x).map fun n => ix c n
theorem z1sG {c l : List Int} {x : Nat} (h : x ≤ l.length) : (rwP c l x).length = x := by simp [rwP]; omega
theorem ziif {c l : List Int} {x : Nat} (h : x < l.length) : rwP c l (x + 1) = rwP c l x ++ [ix c (ix l (x : Int))] := by
  unfold rwP
  rw [List.take_add_one, List.getElem?_eq_getElem h, List.map_append, zrZW h]; rfl
theorem zFZA {c l : List Int} {x : Nat} (h : x = l.length) : rwP c l x = l.map fun n => ix c n := by
  unfold rwP; rw [List.take_of_length_le (by omega)]
theorem z0j4 {c l : List Int} : rwP c l 0 = [] := rfl
theorem z87u {t : Mly} (ht : t.Ok) {c : List Int} (hc : c.length = t.next.length) : ∀ {s : Nat}, s ≤ c.length → (∀ x ∈ (mrows t c s).1, x.length = t.inputs.toNat) ∧ ∀ x ∈ (mrows t c s).2, x.length = t.inputs.toNat
  | 0, _ => ⟨fun x hx => by simp [mrows] at hx, fun x hx => by simp [mrows] at hx⟩
  | s + 1, h => by
    have ih := z87u ht hc (s := s) (by omega)
    have hrow := ht.row (s : Int) (by omega) (by omega)
    unfold mrows
    split
    · exact ih
    · refine ⟨fun x hx => ?_, fun x hx => ?_⟩
      · rcases List.mem_append.1 hx with hx | hx
        · exact ih.1 x hx
        · simp at hx; subst hx; simp; omega
      · rcases List.mem_append.1 hx with hx | hx
        · exact ih.2 x hx
        · simp at hx; subst hx; omega
theorem Min_s (m : Mly) (h : m.fits) : PC zZIi [m.av] = some (.tup [(minA m).1.av, .int (minA m).2]) := by
  refine zx72 (zgn9 rfl ?_)
  have hT := zeTE m h
  by_cases h0 : m.validE = 0
  case neg =>
    have e : minA m = (⟨0, 0, [], []⟩, m.validE) := by unfold minA; rw [if_pos h0]
    have e' : trmA m = (⟨0, 0, [], []⟩, m.validE) := by unfold trmA; rw [if_pos h0]
    rw [e]
    rw [e'] at hT
    simp [hT, h0, zhi1]
  have e : minA m = (m.minm, 0) := by unfold minA; rw [if_neg (by omega)]
  have e' : trmA m = (m.trim, 0) := by unfold trmA; rw [if_neg (by omega)]
  rw [e]
  rw [e'] at hT
  have hm := zaDP h0
  have ht := ziLN hm
  have hin := ht.inputs
  have hst := ht.states
  have hml := ht.len
  have hC := zISF m.trim (zg29 ht)
  have hp : prtA m.trim 128 = ((mref m.trim 128).1, 0) := by unfold prtA; rw [if_neg (by have := zhQG ht; omega)]
  rw [hp] at hC
  obtain ⟨k, hk⟩ := z6WG hm
  have hcl := hk.len
  have hM : m.minm = m.trim.quo (mref m.trim 128).1 := rfl
  have hMa : m.minm.av = .agg [.int m.trim.inputs, .int 0, iLL (mrows m.trim (mref m.trim 128).1 (mref m.trim 128).1.length).1, iLL (mrows m.trim (mref m.trim 128).1 (mref m.trim 128).1.length).2] := rfl
  rw [hMa]
  generalize (mref m.trim 128).1 = c at *
  generalize m.trim = t at *
  have hrg : ∀ s : Int, 0 ≤ s → s < t.next.length → 0 ≤ ix c s ∧ ix c s < k := fun s s0 s1 => zyUx hk s0 s1
  simp [-zJRc, hT, hC]
  refine zv8C (fun s : Nat => [(6, .int s)]) (fun s => mnS t.inputs t.inputs.toNat (mrows t c s).1 (mrows t c s).2) (fun s => s ≤ c.length) (fun s => c.length - s) 0 (by simp [sets, mrows, mnS]) (by omega) ?_
  intro s s1
  have hlen := zNH8 (t := t) (c := c) (s := s)
  have hmK := z87u ht hcl (s := s) s1
  by_cases hs : s < c.length
  · have hcs := hrg (s : Int) (by omega) (by omega)
    have hrow := ht.row (s : Int) (by omega) (by omega)
    have hsn : (s : Int) < (t.next.length : Int) := by omega
    have hso : (s : Int) < (t.out.length : Int) := by omega
    have hns : ∀ x : Nat, (x : Int) < t.inputs → 0 ≤ ix (ix t.next (s : Int)) (x : Int) ∧ ix (ix t.next (s : Int)) (x : Int) < (c.length : Int) := fun x hx => by
      have := ht.nx (s : Int) (x : Int) (by omega) (by omega) (by omega) hx
      omega
    have hst' : mrows t c (s + 1) = if ix c (s : Int) < ((mrows t c s).1.length : Int) then mrows t c s else ((mrows t c s).1 ++ [(ix t.next (s : Int)).map fun n => ix c n], (mrows t c s).2 ++ [ix t.out (s : Int)]) := rfl
    have hml1 := zkC0 (t := t) (c := c) (s := s)
    generalize mrows t c s = R at *
    obtain ⟨A, O⟩ := R
    dsimp only at hlen hmK hst' hml1 ⊢
    rcases A with _ | ⟨a, A⟩
    · have : O = [] := List.eq_nil_of_length_eq_zero (by simpa using hlen.symm)
      subst this
      rw [zDSp]
      have hlt : (ix c (s : Int) < 0) = False := eq_false (by omega)
      rw [if_neg (by simp; omega)] at hst'
      simp [-zJRc, hs, hlt]
      refine ⟨by omega, ?_⟩
      refine zv8C (fun x : Nat => [(12, .int x), (15, .sl (2) x 0 x)]) (fun x => [⟨some 4, [.int 0, .int 0, .snil, .snil], .live⟩, ⟨some 4, [.int t.inputs, .int 0, .snil, .snil], .live⟩, rwB (rwP c (ix t.next (s : Int)) x)]) (fun x => x ≤ t.inputs.toNat) (fun x => t.inputs.toNat - x) 0 (by simp [sets, z0j4]) (by omega) ?_
      intro x x1
      have hXl := z1sG (c := c) (l := ix t.next (s : Int)) (x := x) (by omega)
      by_cases hx : x < t.inputs.toNat
      · have hn := hns x (by omega)
        have hxi : ((x : Int) < t.inputs) = True := eq_true (by omega)
        have hsu := ziif (c := c) (l := ix t.next (s : Int)) (x := x) (by omega)
        have hxb : (x : Int) ≤ 64 := by omega
        rcases x with _ | y
        · have hn1 : 0 ≤ ix (ix t.next (s : Int)) 0 := hn.1
          have hn2 : ix (ix t.next (s : Int)) 0 < (c.length : Int) := hn.2
          have hxi' : (0 < t.inputs) = True := hxi
          simp [-zJRc, -List.map_append, hrow.1, hxi', hn1, hn2, z0j4]
          refine zGkM 1 (by simp) ?_ (by omega) (by omega)
          rw [hsu, z0j4]
          simp
        · generalize rwP c (ix t.next (s : Int)) (y + 1) = X at *
          have hXn : (X = []) = False := eq_false (by intro e; rw [e] at hXl; simp at hXl)
          have hn1 : 0 ≤ ix (ix t.next (s : Int)) ((y : Int) + 1) := hn.1
          have hn2 : ix (ix t.next (s : Int)) ((y : Int) + 1) < (c.length : Int) := hn.2
          have hxi' : ((y : Int) + 1 < t.inputs) = True := hxi
          simp [-zJRc, -List.map_append, hrow.1, hxi', hn1, hn2, hXl, hXn]
          refine ⟨by omega, by omega, by omega, zGkM (y + 2) (by simp; omega) ?_ (by omega) (by omega)⟩
          rw [hsu]
          simp
      · have : x = t.inputs.toNat := by omega
        subst this
        have hxi : (((t.inputs.toNat : Nat) : Int) < t.inputs) = False := eq_false (by omega)
        have hXn : (rwP c (ix t.next (s : Int)) t.inputs.toNat = []) = False := eq_false (by intro e; rw [e] at hXl; simp at hXl; omega)
        have hXa := zFZA (c := c) (l := ix t.next (s : Int)) (x := t.inputs.toNat) (by omega)
        have hno : (ix t.out (s : Int) = []) = False := eq_false (by intro e; rw [e] at hrow; simp at hrow; omega)
        have hol : (ix t.out (s : Int)).length = t.inputs.toNat := by omega
        have hi0 : (t.inputs ≤ 0) = False := eq_false (by omega)
        have hi1 : (0 < t.inputs) = True := eq_true (by omega)
        simp [-zJRc, -Int.ofNat_toNat, hi0, hi1, hrow.1, hrow.2, hxi, hsn, hso, hXl, hXn, hno, hol]
        refine ⟨by omega, by omega, zGkM (s + 1) (by simp) ?_ (by omega) (by omega)⟩
        rw [hst', ← hXa]
        rfl
    · rcases O with _ | ⟨o, O⟩
      · simp at hlen
      have hAO : A.length = O.length := by simpa using hlen
      rw [zpdA]
      have hT := zQuR hAO
      have hT2 := zRvG (a := (ix t.next (s : Int)).map fun n => ix c n) (o := ix t.out (s : Int)) hAO
      have hal : A.length + 1 ≤ s := by simpa using hml1
      by_cases hlt : ix c (s : Int) < ((a :: A).length : Int)
      · rw [if_pos hlt] at hst'
        have hlt' : (ix c (s : Int) < (A.length : Int) + 1) = True := eq_true (by simpa using hlt)
        simp [-zJRc, hs, hlt']
        refine ⟨by omega, zGkM (s + 1) (by simp) ?_ (by omega) (by omega)⟩
        rw [hst', zpdA]
      have hlt' : (ix c (s : Int) < (A.length : Int) + 1) = False := eq_false (by simpa using hlt)
      rw [if_neg hlt] at hst'
      generalize mtw A O = T at *
      simp [-zJRc, hs, hlt']
      refine ⟨by omega, ?_⟩
      refine zv8C (fun x : Nat => [(12, .int x), (15, .sl (T.length + 1 + 1 + 1 + 1 + 1 + 1) x 0 x)]) (fun x => ⟨some 4, [.int 0, .int 0, .snil, .snil], .live⟩ :: ⟨some 4, [.int t.inputs, .int 0, .sl 3 (A.length + 1) 0 (A.length + 1), .sl 5 (A.length + 1) 0 (A.length + 1)], .live⟩ :: Zb a :: ⟨none, rws 0 mN (A.length + 1) t.inputs.toNat, .live⟩ :: Zb o :: ⟨none, rws 0 mO (A.length + 1) t.inputs.toNat, .live⟩ :: (T ++ [rwB (rwP c (ix t.next (s : Int)) x)])) (fun x => x ≤ t.inputs.toNat) (fun x => t.inputs.toNat - x) 0 (by simp [sets, z0j4]) (by omega) ?_
      intro x x1
      have hXl := z1sG (c := c) (l := ix t.next (s : Int)) (x := x) (by omega)
      by_cases hx : x < t.inputs.toNat
      · have hn := hns x (by omega)
        have hxi : ((x : Int) < t.inputs) = True := eq_true (by omega)
        have hsu := ziif (c := c) (l := ix t.next (s : Int)) (x := x) (by omega)
        have hxb : (x : Int) ≤ 64 := by omega
        rcases x with _ | y
        · have hn1 : 0 ≤ ix (ix t.next (s : Int)) 0 := hn.1
          have hn2 : ix (ix t.next (s : Int)) 0 < (c.length : Int) := hn.2
          have hxi' : (0 < t.inputs) = True := hxi
          simp [-zJRc, -List.map_append, hrow.1, hxi', hn1, hn2, z0j4, ↓znKw, ↓zsbM, z4HF]
          refine zGkM 1 (by simp) ?_ (by omega) (by omega)
          rw [hsu, z0j4]
          simp
        · generalize rwP c (ix t.next (s : Int)) (y + 1) = X at *
          have hXn : (X = []) = False := eq_false (by intro e; rw [e] at hXl; simp at hXl)
          have hn1 : 0 ≤ ix (ix t.next (s : Int)) ((y : Int) + 1) := hn.1
          have hn2 : ix (ix t.next (s : Int)) ((y : Int) + 1) < (c.length : Int) := hn.2
          have hxi' : ((y : Int) + 1 < t.inputs) = True := hxi
          simp [-zJRc, -List.map_append, hrow.1, hxi', hn1, hn2, hXl, hXn, ↓znKw, ↓zsbM, z4HF]
          refine ⟨by omega, by omega, by omega, zGkM (y + 2) (by simp; omega) ?_ (by omega) (by omega)⟩
          rw [hsu]
          simp
      · have : x = t.inputs.toNat := by omega
        subst this
        have hxi : (((t.inputs.toNat : Nat) : Int) < t.inputs) = False := eq_false (by omega)
        have hXn : (rwP c (ix t.next (s : Int)) t.inputs.toNat = []) = False := eq_false (by intro e; rw [e] at hXl; simp at hXl; omega)
        have hXa := zFZA (c := c) (l := ix t.next (s : Int)) (x := t.inputs.toNat) (by omega)
        have hno : (ix t.out (s : Int) = []) = False := eq_false (by intro e; rw [e] at hrow; simp at hrow; omega)
        have hol : (ix t.out (s : Int)).length = t.inputs.toNat := by omega
        have hi0 : (t.inputs ≤ 0) = False := eq_false (by omega)
        have hi1 : (0 < t.inputs) = True := eq_true (by omega)
        simp [-zJRc, -Int.ofNat_toNat, hi0, hi1, hrow.1, hrow.2, hxi, hsn, hso, hXl, hXn, hno, hol, ↓znKw, ↓zsbM, z4HF]
        refine ⟨by omega, by omega, by omega, by omega, zGkM (s + 1) (by simp) ?_ (by omega) (by omega)⟩
        have e1 : mN (A.length + 1) = T.length + 6 := by unfold mN; rw [if_neg (by omega)]; omega
        have e2 : mO (A.length + 1) = T.length + 7 := by unfold mO; rw [if_neg (by omega)]; omega
        rw [hst', ← hXa]
        rw [← hXa] at hT2
        dsimp only
        rw [List.cons_append, List.cons_append, zpdA, hT2, List.length_append, List.length_singleton, zJuI (n := A.length + 1), zJuI (n := A.length + 1), e1, e2]
        have hrb : rwB (rwP c (ix t.next (s : Int)) t.inputs.toNat) = Zb (rwP c (ix t.next (s : Int)) t.inputs.toNat) := by
          show (⟨none, (rwP c (ix t.next (s : Int)) t.inputs.toNat).map .int, if rwP c (ix t.next (s : Int)) t.inputs.toNat = [] then .nul else .live⟩ : Blk) = _
          rw [if_neg (by rw [hXn]; exact id)]
        rw [hrb]
  · have : s = c.length := by omega
    subst this
    have hA0 : 0 < (mrows t c c.length).1.length := by
      have h1 : (mrows t c c.length).1.length = k := (zpkf hk).1
      have h2 := hrg 0 (by omega) (by omega)
      omega
    generalize mrows t c c.length = R at *
    obtain ⟨A, O⟩ := R
    dsimp only at hlen hmK hA0 ⊢
    rcases A with _ | ⟨a, A⟩
    · simp at hA0
    rcases O with _ | ⟨o, O⟩
    · simp at hlen
    have hAO : A.length = O.length := by simpa using hlen
    rw [zpdA]
    have v1 : ∀ B0 B1, view (B0 :: B1 :: Zb a :: ⟨none, rws 0 mN (A.length + 1) t.inputs.toNat, .live⟩ :: Zb o :: ⟨none, rws 0 mO (A.length + 1) t.inputs.toNat, .live⟩ :: mtw A O) false 11 (.sl 3 (A.length + 1) 0 (A.length + 1)) = some (iLL (a :: A)) := fun B0 B1 => zlv3 (k := 8) (z5uT hAO hmK.1 hmK.2).1 rfl
    have v2 : ∀ B0 B1, view (B0 :: B1 :: Zb a :: ⟨none, rws 0 mN (A.length + 1) t.inputs.toNat, .live⟩ :: Zb o :: ⟨none, rws 0 mO (A.length + 1) t.inputs.toNat, .live⟩ :: mtw A O) false 11 (.sl 5 (A.length + 1) 0 (A.length + 1)) = some (iLL (o :: O)) := fun B0 B1 => zlv3 (k := 8) (z5uT hAO hmK.1 hmK.2).2 hlen
    simp [zhi1, v1, v2]
end Ab
namespace Ab
noncomputable def Mly.mnlb (m : Mly) : Bool := @decide (m.validE = 0 ∧ Mnl m) (Classical.propDecidable _)
theorem zVHJ {m : Mly} : m.mnlb = true ↔ m.validE = 0 ∧ Mnl m := by unfold Mly.mnlb; exact @decide_eq_true_iff _ (Classical.propDecidable _)
theorem zWZJ {m : Mly} (h : ¬ (m.validE = 0 ∧ Mnl m)) : m.mnlb = false := by
  cases e : m.mnlb with
  | false => rfl
  | true => exact absurd (zVHJ.1 e) h
theorem zylc (m : Mly) (h : m.fits) : PC zJZP [m.av] = some (.bool m.mnlb) := by
  refine zx72 (zCc5 rfl ?_)
  have hv := zo3u m h
  by_cases h0 : m.validE = 0
  case neg =>
    have e := zWZJ (m := m) fun h => h0 h.1
    rw [e]
    simp [hv, h0]
  have hm := zaDP h0
  have hR := z488 m h h0
  have hM := Min_s m h
  have eM : minA m = (m.minm, 0) := by unfold minA; rw [if_neg (by omega)]
  rw [eM] at hM
  rw [h0] at hv
  have hi := ztpQ hm
  by_cases h1 : (m.places m.start).length = m.next.length
  · have h1' : (((m.places m.start).length : Int) = (m.next.length : Int)) = True := eq_true (by omega)
    have h1'' := eq_true h1
    by_cases h2 : m.minm.next.length = m.next.length
    · have h2' : ((m.minm.next.length : Int) = (m.next.length : Int)) = True := eq_true (by omega)
      have h2'' := eq_true h2
      have e := zVHJ.2 ⟨h0, hi.1 ⟨h1, h2⟩⟩
      rw [e]
      simp [-List.map_map, hv, hR, hM, h1', h2', h1'', h2'']
    · have h2' : ((m.minm.next.length : Int) = (m.next.length : Int)) = False := eq_false (by omega)
      have h2'' := eq_false h2
      have e := zWZJ (m := m) fun h => h2 (hi.2 h.2).2
      rw [e]
      simp [-List.map_map, hv, hR, hM, h1', h2', h1'', h2'']
  · have h1' : (((m.places m.start).length : Int) = (m.next.length : Int)) = False := eq_false (by omega)
    have h1'' := eq_false h1
    have e := zWZJ (m := m) fun h => h1 (hi.2 h.2).1
    rw [e]
    simp [-List.map_map, hv, hR, hM, h1', h1'']
theorem z3DV {m : Mly} {c : List Int} {s t : Nat} (ht : t < s) (e : sgn m c (t : Int) = sgn m c (s : Int)) : ∃ n : Nat, sgI (sgn m c (s : Int)) 0 (rnd m c s).1 = some n ∧ ix (rnd m c s).2 (t : Int) = (n : Int) := by
  obtain ⟨_, h2, h3⟩ := zLGm (m := m) (c := c) (s := s)
  obtain ⟨n, e1, e2⟩ := h3 t ht
  rw [e] at e2
  cases hI : sgI (sgn m c (s : Int)) 0 (rnd m c s).1 with
  | none => exact absurd (List.mem_of_getElem? e2) (zgiv hI)
  | some k =>
    obtain ⟨_, _, k3⟩ := ziiJ hI
    rw [Nat.sub_zero] at k3
    obtain ⟨hn, e2⟩ := List.getElem?_eq_some_iff.1 e2
    obtain ⟨hk, k3⟩ := List.getElem?_eq_some_iff.1 k3
    have := (List.getElem_inj h2).1 (e2.trans k3.symm)
    subst this
    exact ⟨n, rfl, e1⟩
theorem zOkl {m : Mly} {c : List Int} {s n : Nat} (h : sgI (sgn m c (s : Int)) 0 (rnd m c s).1 = some n) : ∃ t : Nat, t < s ∧ sgn m c (t : Int) = sgn m c (s : Int) := by
  obtain ⟨h1, h2, h3⟩ := zLGm (m := m) (c := c) (s := s)
  obtain ⟨_, k2, k3⟩ := ziiJ h
  rw [Nat.sub_zero] at k3
  obtain ⟨t, ht, e⟩ := List.mem_iff_getElem.1 (h1.occ (n : Int) (by omega) (by omega))
  have hl := (zE7t (m := m) (c := c) (s := s)).1
  obtain ⟨k, e1, e2⟩ := h3 t (by omega)
  rw [zrZW ht, e] at e1
  have : k = n := by omega
  subst this
  rw [k3] at e2
  exact ⟨t, by omega, (Option.some.inj e2).symm⟩
def fnf (m : Mly) (c : List Int) (s T : Nat) : Int := if ((List.range s).any fun (t : Nat) => decide (T ≤ t) && decide (sgn m c (t : Int) = sgn m c (s : Int))) = true then (((sgI (sgn m c (s : Int)) 0 (rnd m c s).1).getD 0 : Nat) : Int) else -1
theorem z4st {s T : Nat} {p : Nat → Prop} [DecidablePred p] : ((List.range s).any fun (t : Nat) => decide (T ≤ t) && decide (p t)) = true ↔ ∃ t : Nat, t < s ∧ T ≤ t ∧ p t := by simp
theorem z6gh {m : Mly} {c : List Int} {s : Nat} : fnf m c s s = -1 := by
  unfold fnf
  rw [if_neg]
  rw [z4st (p := fun t => sgn m c ((t : Nat) : Int) = sgn m c (s : Int))]
  rintro ⟨t, h1, h2, _⟩; omega
theorem zJfG {m : Mly} {c : List Int} {s T : Nat} (h : T < s) (e : sgn m c (T : Int) = sgn m c (s : Int)) : fnf m c s T = ix (rnd m c s).2 (T : Int) := by
  obtain ⟨n, h1, h2⟩ := z3DV h e
  unfold fnf
  rw [if_pos ((z4st (p := fun t => sgn m c ((t : Nat) : Int) = sgn m c (s : Int))).2 ⟨T, h, Nat.le_refl _, e⟩), h1, h2]; rfl
theorem z0NB {m : Mly} {c : List Int} {s T : Nat} (h : T < s) (e : sgn m c (T : Int) ≠ sgn m c (s : Int)) : fnf m c s T = fnf m c s (T + 1) := by
  unfold fnf
  have : (((List.range s).any fun (t : Nat) => decide (T ≤ t) && decide (sgn m c (t : Int) = sgn m c (s : Int))) = true) ↔ (((List.range s).any fun (t : Nat) => decide (T + 1 ≤ t) && decide (sgn m c (t : Int) = sgn m c (s : Int))) = true) := by
    rw [z4st (p := fun t => sgn m c ((t : Nat) : Int) = sgn m c (s : Int)), z4st (p := fun t => sgn m c ((t : Nat) : Int) = sgn m c (s : Int))]
    constructor
    · rintro ⟨t, h1, h2, h3⟩
      exact ⟨t, h1, by rcases Nat.eq_or_lt_of_le h2 with e' | h'; · subst e'; exact absurd h3 e
                       · exact h', h3⟩
    · rintro ⟨t, h1, h2, h3⟩; exact ⟨t, h1, by omega, h3⟩
  by_cases hc : ((List.range s).any fun (t : Nat) => decide (T ≤ t) && decide (sgn m c (t : Int) = sgn m c (s : Int))) = true
  · rw [if_pos hc, if_pos (this.1 hc)]
  · rw [if_neg hc, if_neg fun h => hc (this.2 h)]
theorem zHbk {m : Mly} {c : List Int} {s : Nat} : (0 ≤ fnf m c s 0 ∧ (rnd m c (s + 1)).2 = (rnd m c s).2 ++ [fnf m c s 0] ∧ (rnd m c (s + 1)).1 = (rnd m c s).1) ∨ (fnf m c s 0 = -1 ∧ (rnd m c (s + 1)).2 = (rnd m c s).2 ++ [((rnd m c s).1.length : Int)] ∧ (rnd m c (s + 1)).1.length = (rnd m c s).1.length + 1) := by
  unfold fnf
  cases hI : sgI (sgn m c (s : Int)) 0 (rnd m c s).1 with
  | some n =>
    left
    obtain ⟨t, h1, h2⟩ := zOkl hI
    rw [if_pos ((z4st (p := fun t => sgn m c ((t : Nat) : Int) = sgn m c (s : Int))).2 ⟨t, h1, by omega, h2⟩)]
    refine ⟨by simp, ?_, ?_⟩
    · show (match sgI (sgn m c (s : Int)) 0 (rnd m c s).1 with | some n => _ | none => _ : List (List Int) × List Int).2 = _
      rw [hI]; rfl
    · show (match sgI (sgn m c (s : Int)) 0 (rnd m c s).1 with | some n => _ | none => _ : List (List Int) × List Int).1 = _
      rw [hI]
  | none =>
    right
    have hno : ¬ ((List.range s).any fun (t : Nat) => decide (0 ≤ t) && decide (sgn m c (t : Int) = sgn m c (s : Int))) = true := fun h => by
      obtain ⟨t, h1, _, h2⟩ := (z4st (p := fun t => sgn m c ((t : Nat) : Int) = sgn m c (s : Int))).1 h
      obtain ⟨n, h3, _⟩ := z3DV h1 h2
      rw [hI] at h3; simp at h3
    rw [if_neg hno]
    refine ⟨rfl, ?_, ?_⟩
    · show (match sgI (sgn m c (s : Int)) 0 (rnd m c s).1 with | some n => _ | none => _ : List (List Int) × List Int).2 = _
      rw [hI]
    · show (match sgI (sgn m c (s : Int)) 0 (rnd m c s).1 with | some n => _ | none => _ : List (List Int) × List Int).1.length = _
      rw [hI]; simp
def Sam (m : Mly) (c : List Int) (s t : Int) (a : Nat) : Prop := ix c s = ix c t ∧ ∀ x : Nat, x < a → ix (ix m.out s) (x : Int) = ix (ix m.out t) (x : Int) ∧ ix c (ix (ix m.next s) (x : Int)) = ix c (ix (ix m.next t) (x : Int))
theorem zCt2 {m : Mly} (hm : m.Ok) {c : List Int} {s t : Nat} (hs : s < m.next.length) (ht : t < m.next.length) (h : Sam m c (s : Int) (t : Int) m.inputs.toNat) : sgn m c (s : Int) = sgn m c (t : Int) := by
  have r1 := hm.row (s : Int) (by omega) (by omega)
  have r2 := hm.row (t : Int) (by omega) (by omega)
  rw [zTGw hm hs ht]
  refine ⟨zSql (by omega) fun x x0 x1 => ?_, zSql (by simp; omega) fun x x0 x1 => ?_⟩
  · obtain ⟨x, rfl⟩ := Int.eq_ofNat_of_zero_le x0
    exact (h.2 x (by omega)).1
  · rw [List.length_map] at x1
    obtain ⟨x, rfl⟩ := Int.eq_ofNat_of_zero_le x0
    rw [zWk8 (by omega) (by omega), zWk8 (by omega) (by omega)]
    exact (h.2 x (by omega)).2
theorem zG8z {m : Mly} (hm : m.Ok) {c : List Int} {s t : Nat} (hs : s < m.next.length) (ht : t < m.next.length) (h : sgn m c (s : Int) = sgn m c (t : Int)) {x : Nat} (hx : (x : Int) < m.inputs) : ix (ix m.out (s : Int)) (x : Int) = ix (ix m.out (t : Int)) (x : Int) ∧ ix c (ix (ix m.next (s : Int)) (x : Int)) = ix c (ix (ix m.next (t : Int)) (x : Int)) := by
  have r1 := hm.row (s : Int) (by omega) (by omega)
  have r2 := hm.row (t : Int) (by omega) (by omega)
  rw [zTGw hm hs ht] at h
  refine ⟨by rw [h.1], ?_⟩
  have e1 : ix ((ix m.next (s : Int)).map fun t => ix c t) (x : Int) = ix c (ix (ix m.next (s : Int)) (x : Int)) := zWk8 (by omega) (by omega)
  have e2 : ix ((ix m.next (t : Int)).map fun t => ix c t) (x : Int) = ix c (ix (ix m.next (t : Int)) (x : Int)) := zWk8 (by omega) (by omega)
  rw [← e1, ← e2, h.2]
structure SamI (m : Mly) (c : List Int) (s t : Nat) (p : Nat × Bool) : Prop where
  le : (p.1 : Int) ≤ m.inputs
  yes : p.2 = true → Sam m c (s : Int) (t : Int) p.1
  no : p.2 = false → sgn m c (t : Int) ≠ sgn m c (s : Int)
theorem z2Zq (m : Mly) (hm : m.Ok) (c : List Int) (hc : c.length = m.next.length) (hr : Rfi m c) : L zZCE [m.av, iL c] [] = some (.sl 0 m.next.length 0 m.next.length, [louI (rnd m c m.next.length).2]) := by
  refine LX_eq (zWSZ rfl ?_)
  have hst := hm.states
  have hin := hm.inputs
  have hml := hm.len
  simp [-zJRc]
  refine zv8C (fun s : Nat => [(2, .int s), (7, .sl 0 s 0 s), (9, .int (rnd m c s).1.length)]) (fun s => [louI (rnd m c s).2]) (fun s => s ≤ m.next.length) (fun s => m.next.length - s) 0 (by simp [sets, rnd]) (by omega) ?_
  intro s s1
  have hrl := zE7t (m := m) (c := c) (s := s)
  by_cases hs : s < m.next.length
  · have hs' : ((s : Int) < (c.length : Int)) = True := eq_true (by omega)
    have hs'' : (s < c.length) = True := eq_true (by omega)
    have hrs := hm.row (s : Int) (by omega) (by omega)
    have hsn : (s : Int) < (m.next.length : Int) := by omega
    have hso : (s : Int) < (m.out.length : Int) := by omega
    have hf0 := zHbk (m := m) (c := c) (s := s)
    simp [-zJRc, hs', hs'']
    refine ⟨by omega, ?_⟩
    refine zv8C (fun T : Nat => [(3, .int ((T : Int) - 1)), (8, .int (fnf m c s T))]) (fun _ => [louI (rnd m c s).2]) (fun T => T ≤ s) (fun T => T) s (by simp [sets, z6gh]) (by omega) ?_
    intro T T1
    by_cases hT : 0 < T
    · obtain ⟨t, rfl⟩ : ∃ t, T = t + 1 := ⟨T - 1, by omega⟩
      have et : (((t + 1 : Nat) : Int) - 1) = (t : Int) := by omega
      have htn : (t : Int) < (m.next.length : Int) := by omega
      have hto : (t : Int) < (m.out.length : Int) := by omega
      have htc : ((t : Int) < (c.length : Int)) = True := eq_true (by omega)
      have htc' : (t < c.length) = True := eq_true (by omega)
      have hrt := hm.row (t : Int) (by omega) (by omega)
      rw [et]
      simp [-zJRc, hs', hs'', htc, htc']
      refine zv8C (fun p : Nat × Bool => [(4, .int p.1), (6, .bool p.2)]) (fun _ => [louI (rnd m c s).2]) (fun p => SamI m c s t p) (fun p => (m.inputs - p.1).toNat) (0, decide (ix c (s : Int) = ix c (t : Int))) (by simp [sets]) ⟨by show (0 : Int) ≤ m.inputs; omega, fun h => ⟨by simpa using h, fun x hx => by omega⟩, fun h e => by have := hr t s (by omega) (by omega) e; simp at h; exact h this.symm⟩ ?_
      rintro ⟨a, b⟩ ⟨a1, a2, a3⟩
      dsimp only at a1 a2 a3 ⊢
      cases b with
      | false =>
        have hne := a3 rfl
        have hfn := z0NB (m := m) (c := c) (s := s) (T := t) (by omega) hne
        by_cases ha : (a : Int) < m.inputs
        · simp [-zJRc, ha]
          refine ⟨by omega, zGkM t ?_ rfl (by omega) (by omega)⟩
          rw [hfn]; simp
        · simp [-zJRc, ha]
          refine ⟨by omega, zGkM t ?_ rfl (by omega) (by omega)⟩
          rw [hfn]; simp
      | true =>
        have hsm := a2 rfl
        by_cases ha : (a : Int) < m.inputs
        · have n1 := hm.nx (s : Int) (a : Int) (by omega) (by omega) (by omega) ha
          have n2 := hm.nx (t : Int) (a : Int) (by omega) (by omega) (by omega) ha
          have n1c : ix (ix m.next (s : Int)) (a : Int) < (c.length : Int) := by omega
          have n2c : ix (ix m.next (t : Int)) (a : Int) < (c.length : Int) := by omega
          have hsn' : s < m.next.length := by omega
          have hto' : t < m.next.length := by omega
          have hso' : s < m.out.length := by omega
          have hto'' : t < m.out.length := by omega
          by_cases e1 : ix (ix m.out (s : Int)) (a : Int) = ix (ix m.out (t : Int)) (a : Int)
          · have e1' := eq_true e1
            by_cases e2 : ix c (ix (ix m.next (s : Int)) (a : Int)) = ix c (ix (ix m.next (t : Int)) (a : Int))
            · have e2' := eq_true e2
              simp [-zJRc, ha, hrs.1, hrs.2, hrt.1, hrt.2, hsn, hso, htn, hto, hsn', hto', hso', hto'', n1.1, n1c, n2.1, n2c, e1', e2']
              refine ⟨by omega, zGkM (a + 1, true) (by simp) rfl ⟨by show ((a + 1 : Nat) : Int) ≤ _; omega, fun _ => ⟨hsm.1, fun x hx => ?_⟩, fun h => by simp at h⟩ (by show _ < _; omega)⟩
              by_cases ex : x = a
              · subst ex; exact ⟨e1, e2⟩
              · exact hsm.2 x (by dsimp only at hx; omega)
            · have e2' := eq_false e2
              simp [-zJRc, ha, hrs.1, hrs.2, hrt.1, hrt.2, hsn, hso, htn, hto, hsn', hto', hso', hto'', n1.1, n1c, n2.1, n2c, e1', e2']
              refine ⟨by omega, zGkM (a + 1, false) (by simp) rfl ⟨by show ((a + 1 : Nat) : Int) ≤ _; omega, fun h => by simp at h, fun _ e => e2 ?_⟩ (by show _ < _; omega)⟩
              exact (zG8z hm (by omega) (by omega) e.symm ha).2
          · have e1' := eq_false e1
            simp [-zJRc, ha, hrs.1, hrs.2, hrt.1, hrt.2, hsn, hso, htn, hto, hsn', hto', hso', hto'', n1.1, n1c, n2.1, n2c, e1']
            refine ⟨by omega, zGkM (a + 1, false) (by simp) rfl ⟨by show ((a + 1 : Nat) : Int) ≤ _; omega, fun h => by simp at h, fun _ e => e1 ?_⟩ (by show _ < _; omega)⟩
            exact (zG8z hm (by omega) (by omega) e.symm ha).1
        · have ea : a = m.inputs.toNat := by omega
          subst ea
          have hse := zCt2 hm (s := s) (t := t) (by omega) (by omega) hsm
          have hfn := zJfG (m := m) (c := c) (s := s) (T := t) (by omega) hse.symm
          have hi' : (((m.inputs.toNat : Nat) : Int) < m.inputs) = False := eq_false (by omega)
          have hrc : (t : Int) < ((rnd m c s).2.length : Int) := by omega
          have hlv : (if (rnd m c s).2 = [] then BSt.nul else BSt.live) = .live := by rw [if_neg]; intro e; rw [e] at hrl; simp at hrl; omega
          have hts : t < s := by omega
          simp [-zJRc, -Int.ofNat_toNat, hi', hrc, hlv, hrl.1, hts]
          refine ⟨by omega, zGkM t ?_ rfl (by omega) (by omega)⟩
          rw [hfn]; simp
    · have : T = 0 := by omega
      subst this
      rcases hf0 with ⟨f1, f2, f3⟩ | ⟨f1, f2, f3⟩
      · have f1' : (fnf m c s 0 < 0) = False := eq_false (by omega)
        simp [-zJRc, f1', hrl.1]
        refine ⟨by split <;> rfl, by omega, by omega, zGkM (s + 1) (by simp [f3]) ?_ (by omega) (by omega)⟩
        rw [f2]
        simp
      · rw [f1]
        simp [-zJRc, hrl.1]
        refine ⟨by omega, by split <;> rfl, by omega, by omega, zGkM (s + 1) (by simp [f3]) ?_ (by omega) (by omega)⟩
        rw [f2]
        simp
  · have : s = m.next.length := by omega
    subst this
    have hs' : ((m.next.length : Int) < (c.length : Int)) = False := eq_false (by omega)
    have hs'' : (m.next.length < c.length) = False := eq_false (by omega)
    simp [hs', hs'']
end Ab
namespace Ab
theorem zOiJ (m : Mly) (h : m.fits) : PC z2RE [m.av] = some (.tup [iL (if m.validE = 0 then rit m m.next.length else []), .int m.validE]) := by
  have hP : PC zeFR [m.av, .int m.next.length] = some (.tup [iL (if m.validE = 0 then rit m m.next.length else []), .int m.validE]) := by
    refine zx72 (zhG2 rfl ?_)
    have hv := zrVN m h
    by_cases h0 : m.validE = 0
    case neg =>
      rw [if_neg h0]
      simp [hv, h0]
    have hm := zaDP h0
    have hst := hm.states
    rw [if_pos h0, h0]
    rw [h0] at hv
    generalize hZ : List.replicate m.next.length (0 : Int) = Z at *
    have hZl : Z.length = m.next.length := by rw [← hZ]; simp
    have hz0 : rit m 0 = Z := hZ
    simp [-zJRc, -List.map_replicate, hv, hZ]
    refine ⟨by omega, ?_⟩
    refine zv8C (fun i : Nat => [(4, .int i), (5, clsV i m.next.length (rit m i))]) (fun _ => [⟨none, Z.map .int, .live⟩]) (fun i => i ≤ m.next.length) (fun i => m.next.length - i) 0 (by simp [sets, clsV, hZl]) (by omega) ?_
    intro i i1
    have hrl := zGb5 (m := m) (i := i)
    have hvw : view [⟨none, Z.map AV.int, .live⟩] false vd (clsV i m.next.length (rit m i)) = some (iL (rit m i)) := by
      cases i with
      | zero =>
        rw [hz0]
        exact vd_iL (σ := [⟨none, Z.map .int, .live⟩]) (fr := false) (b := 0) (xs := Z) (n := m.next.length) (st := .live) rfl (by simp) hZl.symm
      | succ i => rfl
    by_cases hi : i < m.next.length
    · have hF := z2Zq m hm (rit m i) hrl (zigI hm)
      have hsu : rit m (i + 1) = (rnd m (rit m i) m.next.length).2 := rfl
      have hl2 := (zE7t (m := m) (c := rit m i) (s := m.next.length)).1
      have hv2 := vd_iL (σ := [louI (rnd m (rit m i) m.next.length).2]) (fr := true) (b := 0) (xs := (rnd m (rit m i) m.next.length).2) (n := m.next.length) (st := if (rnd m (rit m i) m.next.length).2 = [] then .nul else .live) rfl (by split <;> simp) hl2.symm
      simp [-zJRc, hi, hvw, hF, hv2, mapO]
      refine ⟨by omega, zGkM (i + 1) (by simp [clsV, hsu]) rfl (by omega) (by omega)⟩
    · have : i = m.next.length := by omega
      subst this
      simp [hvw, mapO]
  refine zx72 (zfnL rfl ?_)
  simp [hP]
end Ab
namespace Ab
def qN (j : Nat) : Nat := if j = 0 then 4 else 2 * j + 6
def qO (j : Nat) : Nat := if j = 0 then 5 else 2 * j + 7
def rmR (inp : Int) (K : Nat) (N O : List (List Int)) : List Blk := match N, O with
  | a :: A, o :: O => ⟨some 4, [.int inp, .int 0, .sl 6 (A.length + 1) 0 (A.length + 1), .sl 7 (A.length + 1) 0 (A.length + 1)], .live⟩ :: Zb a :: Zb o :: ⟨none, rws 0 qN (A.length + 1) K, .live⟩ :: ⟨none, rws 0 qO (A.length + 1) K, .live⟩ :: mtw A O
  | _, _ => [⟨some 4, [.int inp, .int 0, .snil, .snil], .live⟩]
theorem ztxK {inp : Int} {K : Nat} {a o : List Int} {A O : List (List Int)} : rmR inp K (a :: A) (o :: O) = ⟨some 4, [.int inp, .int 0, .sl 6 (A.length + 1) 0 (A.length + 1), .sl 7 (A.length + 1) 0 (A.length + 1)], .live⟩ :: Zb a :: Zb o :: ⟨none, rws 0 qN (A.length + 1) K, .live⟩ :: ⟨none, rws 0 qO (A.length + 1) K, .live⟩ :: mtw A O := rfl
theorem zX7V {inp : Int} {K : Nat} : rmR inp K [] [] = [⟨some 4, [.int inp, .int 0, .snil, .snil], .live⟩] := rfl
theorem zsXg {B0 B1 B2 B3 : Blk} {K : Nat} {a o : List Int} {A O : List (List Int)} (hAO : A.length = O.length) (hA : ∀ x ∈ a :: A, x.length = K) (hO : ∀ x ∈ o :: O, x.length = K) : RowsAt (B0 :: B1 :: B2 :: B3 :: Zb a :: Zb o :: ⟨none, rws 0 qN (A.length + 1) K, .live⟩ :: ⟨none, rws 0 qO (A.length + 1) K, .live⟩ :: mtw A O) 6 qN (a :: A) ∧ RowsAt (B0 :: B1 :: B2 :: B3 :: Zb a :: Zb o :: ⟨none, rws 0 qN (A.length + 1) K, .live⟩ :: ⟨none, rws 0 qO (A.length + 1) K, .live⟩ :: mtw A O) 7 qO (o :: O) := by
  refine ⟨⟨?_, fun j hj => ?_⟩, ⟨?_, fun j hj => ?_⟩⟩
  · show some (Blk.mk none (rws 0 qN (A.length + 1) K) .live) = _
    unfold rws
    congr 2
    refine List.map_congr_left fun j hj => ?_
    have := hA _ (zmAQ (l := a :: A) (n := (j : Int)) (by omega) (by simp at hj ⊢; omega))
    rw [this]; rfl
  · cases j with
    | zero => rfl
    | succ j =>
      have e : qN (j + 1) = 2 * j + 8 := by unfold qN; rw [if_neg (by omega)]; omega
      rw [e]
      show blk (mtw A O) (2 * j) = _
      rw [(mtw_N hAO (by simpa using hj)).1]
      simp [ix]
  · show some (Blk.mk none (rws 0 qO (A.length + 1) K) .live) = _
    unfold rws
    rw [hAO]
    congr 2
    refine List.map_congr_left fun j hj => ?_
    have := hO _ (zmAQ (l := o :: O) (n := (j : Int)) (by omega) (by simp at hj ⊢; omega))
    rw [this]; rfl
  · cases j with
    | zero => rfl
    | succ j =>
      have e : qO (j + 1) = 2 * j + 9 := by unfold qO; rw [if_neg (by omega)]; omega
      rw [e]
      show blk (mtw A O) (2 * j + 1) = _
      rw [(mtw_N hAO (by simp at hj; omega)).2]
      simp [ix]
structure Rq (m : Mly) (c : List Int) (i a : Nat) (q nb : List Int) : Prop where
  nd : (q.map fun s => ix c s).Nodup
  rng : ∀ s ∈ q, 0 ≤ s ∧ s < (m.next.length : Int)
  get : ∀ s ∈ q, ∃ w, (∀ x ∈ w, 0 ≤ x ∧ x < m.inputs) ∧ m.run m.start w = s
  fst : ix c m.start ∈ q.map fun s => ix c s
  len : nb.length = m.next.length
  num : ∀ v : Int, 0 ≤ v → v < (m.next.length : Int) → (ix nb v < 0 ↔ v ∉ q.map fun s => ix c s)
  done : ∀ j b : Nat, j < q.length → (j < i ∨ j = i ∧ b < a) → (b : Int) < m.inputs → ix c (ix (ix m.next (ix q (j : Int))) (b : Int)) ∈ q.map fun s => ix c s
theorem Rq.le {m : Mly} {c : List Int} {i a : Nat} {q nb : List Int} (h : Rq m c i a q nb) : q.length ≤ m.next.length := zVv5 m.next.length (z3JU h.nd) h.rng
theorem Rq.cls {m : Mly} {c : List Int} {i : Nat} {q nb : List Int} (h : Rq m c i 0 q nb) (hi : q.length ≤ i) : Rcl m c q := by
  refine ⟨h.nd, h.rng, h.get, h.fst, fun s hs a a0 a1 => ?_⟩
  obtain ⟨j, hj, rfl⟩ := List.mem_iff_getElem.1 hs
  obtain ⟨b, rfl⟩ := Int.eq_ofNat_of_zero_le a0
  have := h.done j b hj (.inl (by omega)) a1
  rwa [zrZW hj] at this
theorem Rq.next {m : Mly} {c : List Int} {i a : Nat} {q nb : List Int} (h : Rq m c i a q nb) (ha : m.inputs ≤ (a : Int)) : Rq m c (i + 1) 0 q nb :=
  ⟨h.nd, h.rng, h.get, h.fst, h.len, h.num, fun j b hj hb hin => h.done j b hj (by omega) hin⟩
theorem Rq.old {m : Mly} {c : List Int} {i a : Nat} {q nb : List Int} (h : Rq m c i a q nb) (hi : i < q.length) {v : Int} (hv : ix c (ix (ix m.next (ix q (i : Int))) (a : Int)) = v) (hr : 0 ≤ v ∧ v < (m.next.length : Int)) (hn : ¬ ix nb v < 0) : Rq m c i (a + 1) q nb := by
  refine ⟨h.nd, h.rng, h.get, h.fst, h.len, h.num, fun j b hj hb hin => ?_⟩
  by_cases e : j = i ∧ b = a
  · obtain ⟨rfl, rfl⟩ := e
    rw [hv]
    exact Classical.not_not.1 fun hc => hn ((h.num v hr.1 hr.2).2 hc)
  · exact h.done j b hj (by omega) hin
theorem Rq.new {m : Mly} (hm : m.Ok) {c : List Int} {i a : Nat} {q nb : List Int} (h : Rq m c i a q nb) (hi : i < q.length) (ha : (a : Int) < m.inputs) {t v : Int} (ht : ix (ix m.next (ix q (i : Int))) (a : Int) = t) (hv : ix c t = v) (hr : 0 ≤ v ∧ v < (m.next.length : Int)) (hn : ix nb v < 0) : Rq m c i (a + 1) (q ++ [t]) (nb.set v.toNat (q.length : Int)) := by
  have hno := (h.num v hr.1 hr.2).1 hn
  have hs := h.rng _ (zmAQ (l := q) (n := (i : Int)) (by omega) (by omega))
  have hnx := hm.nx _ (a : Int) hs.1 hs.2 (by omega) ha
  rw [ht] at hnx
  refine ⟨?_, fun s hs => ?_, fun s hs => ?_, ?_, by simp [h.len], fun u u0 u1 => ?_, fun j b hj hb hin => ?_⟩
  · rw [List.map_append, List.nodup_append]
    exact ⟨h.nd, by simp, fun x hx y hy => by simp at hy; subst hy; rw [hv]; exact fun e => hno (e ▸ hx)⟩
  · rcases List.mem_append.1 hs with hs | hs
    · exact h.rng s hs
    · simp at hs; subst hs; exact hnx
  · rcases List.mem_append.1 hs with hs | hs
    · exact h.get s hs
    · simp at hs; subst hs
      obtain ⟨w, hw, e⟩ := h.get _ (zmAQ (l := q) (n := (i : Int)) (by omega) (by omega))
      refine ⟨w ++ [(a : Int)], fun x hx => ?_, ?_⟩
      · rcases List.mem_append.1 hx with hx | hx
        · exact hw x hx
        · simp at hx; omega
      · rw [zuwq, e]; exact ht
  · rw [List.map_append]; exact List.mem_append_left _ h.fst
  · have hl := h.len
    rw [List.map_append, List.mem_append, not_or]
    by_cases e : u = v
    · subst e
      have : ix (nb.set u.toNat (q.length : Int)) u = (q.length : Int) := by
        obtain ⟨k, rfl⟩ := Int.eq_ofNat_of_zero_le u0
        rw [zrZW (by simp; omega)]; simp
      rw [this]
      constructor
      · intro h'; omega
      · rintro ⟨_, h'⟩; simp [hv] at h'
    · have : ix (nb.set v.toNat (q.length : Int)) u = ix nb u := by
        obtain ⟨k, rfl⟩ := Int.eq_ofNat_of_zero_le u0
        rw [zrZW (by simp; omega), zrZW (by omega), List.getElem_set_ne (by omega)]
      rw [this, h.num u u0 u1]
      constructor
      · intro h'; exact ⟨h', by simp [hv]; exact e⟩
      · exact fun h' => h'.1
  · rw [List.map_append, List.mem_append]
    rw [List.length_append, List.length_singleton] at hj
    by_cases ej : j = q.length
    · subst ej; omega
    · rw [zT8e (by omega) (by omega)]
      by_cases e : j = i ∧ b = a
      · obtain ⟨rfl, rfl⟩ := e
        right; simp [ht]
      · exact .inl (h.done j b (by omega) (by omega) hin)
structure RqI (m : Mly) (c : List Int) (i : Nat) (p : Nat × List Int × List Int × List Int × List Int) : Prop where
  q : Rq m c i p.1 p.2.1 p.2.2.1
  i : i < p.2.1.length
  a : (p.1 : Int) ≤ m.inputs
  l1 : p.2.2.2.1.length = p.1
  l2 : p.2.2.2.2.length = p.1
structure RqO (m : Mly) (c : List Int) (p : Nat × List Int × List Int × List (List Int) × List (List Int)) : Prop where
  q : Rq m c p.1 0 p.2.1 p.2.2.1
  i : p.1 ≤ p.2.1.length
  l1 : p.2.2.2.1.length = p.1
  l2 : p.2.2.2.2.length = p.1
  k1 : ∀ x ∈ p.2.2.2.1, x.length = m.inputs.toNat
  k2 : ∀ x ∈ p.2.2.2.2, x.length = m.inputs.toNat
theorem zt8h (m : Mly) (h : m.fits) (hv : m.validE = 0) : LX L z610 [m.av] [] (fun v σ' => ∃ M : Mly, viewT σ' false v = some (.tup [M.av, .int 0]) ∧ (M.next.length = m.next.length ↔ Mnl m)) := by
  refine zUFH rfl ?_
  have hm := zaDP hv
  have hst := hm.states
  have hin := hm.inputs
  have hml := hm.len
  have hstr := hm.start
  have hC := zOiJ m h
  rw [if_pos hv, hv] at hC
  obtain ⟨k, hk⟩ := zRQQ hm
  have hcl := hk.len
  have hcr : ∀ s : Int, 0 ≤ s → s < (m.next.length : Int) → 0 ≤ ix (rit m m.next.length) s ∧ ix (rit m m.next.length) s < (m.next.length : Int) := fun s s0 s1 => by
    have := zyUx hk s0 s1
    have := hk.can.len
    omega
  generalize rit m m.next.length = c at *
  have hz : ∀ i, i < m.next.length → (List.replicate i (-1 : Int) ++ List.replicate (m.next.length - i) 0).set i (-1) = List.replicate (i + 1) (-1) ++ List.replicate (m.next.length - (i + 1)) 0 := fun i hi => by
    rw [List.set_append, if_neg (by simp), List.length_replicate, Nat.sub_self, show m.next.length - i = (m.next.length - (i + 1)) + 1 by omega, List.replicate_succ, List.set_cons_zero, List.replicate_succ', List.append_assoc]; rfl
  simp [-zJRc, -List.map_replicate, hC]
  refine ⟨by omega, ?_⟩
  refine zv8C (fun i : Nat => [(4, .int i)]) (fun i => [⟨some 4, [.int 0, .int 0, .snil, .snil], .live⟩, Zb [m.start], Zb (List.replicate i (-1) ++ List.replicate (m.next.length - i) 0)]) (fun i => i ≤ m.next.length) (fun i => m.next.length - i) 0 (by simp [-List.map_replicate, sets]) (by omega) ?_
  intro i i1
  have hnl : (List.replicate i (-1 : Int) ++ List.replicate (m.next.length - i) 0).length = m.next.length := by simp; omega
  by_cases hi : i < m.next.length
  · have hzi := hz i hi
    generalize List.replicate i (-1 : Int) ++ List.replicate (m.next.length - i) 0 = X at *
    simp [-zJRc, -List.map_set, hi, hnl]
    refine ⟨by omega, zGkM (i + 1) (by simp) (by rw [hzi]; rfl) (by omega) (by omega)⟩
  have : i = m.next.length := by omega
  subst this
  have hX : List.replicate m.next.length (-1 : Int) ++ List.replicate (m.next.length - m.next.length) 0 = List.replicate m.next.length (-1) := by simp
  have hXi : ∀ v : Int, 0 ≤ v → v < (m.next.length : Int) → ix (List.replicate m.next.length (-1 : Int)) v = -1 := fun v v0 v1 => by
    obtain ⟨v, rfl⟩ := Int.eq_ofNat_of_zero_le v0
    rw [zrZW (by simp; omega)]; simp
  rw [hX] at hnl ⊢
  generalize List.replicate m.next.length (-1 : Int) = X at *
  have hc0 := hcr m.start hstr.1 hstr.2
  have hcs : m.start < (c.length : Int) := by omega
  have hq0 : Rq m c 0 0 [m.start] (X.set (ix c m.start).toNat 0) := by
    refine ⟨by simp, by simpa using hstr, fun s hs => ?_, by simp, by simp [hnl], fun v v0 v1 => ?_, fun j b hj hb => by omega⟩
    · simp at hs; subst hs; exact ⟨[], by simp, rfl⟩
    · obtain ⟨v, rfl⟩ := Int.eq_ofNat_of_zero_le v0
      have hXv := hXi (v : Int) (by omega) v1
      rw [zrZW (by omega)] at hXv
      rw [zrZW (by simp; omega), List.getElem_set]
      by_cases e : (ix c m.start).toNat = v
      · rw [if_pos e]; simp; omega
      · rw [if_neg e, hXv]; simp; omega
  simp [-zJRc, -List.map_set, hnl, hstr.1, hcs, hc0.1, hc0.2]
  refine zv8C (fun p : Nat × List Int × List Int × List (List Int) × List (List Int) => [(7, .int p.1), (8, .sl 1 p.2.1.length 0 p.2.1.length)]) (fun p => ⟨some 4, [.int 0, .int 0, .snil, .snil], .live⟩ :: Zb p.2.1 :: Zb p.2.2.1 :: rmR m.inputs m.inputs.toNat p.2.2.2.1 p.2.2.2.2) (fun p => RqO m c p) (fun p => m.next.length - p.1) (0, [m.start], X.set (ix c m.start).toNat 0, [], []) (by simp [-List.map_set, sets, zX7V]) ⟨hq0, by simp, rfl, rfl, by simp, by simp⟩ ?_
  rintro ⟨i, q, nb, N, O⟩ hI
  have hRq := hI.q
  have hile := hI.i
  have hNl := hI.l1
  have hOl := hI.l2
  have hNk := hI.k1
  have hOk := hI.k2
  have hqle := hI.q.le
  dsimp only at hRq hile hNl hOl hNk hOk hqle ⊢
  clear hI
  by_cases hiq : i < q.length
  · generalize hR : rmR m.inputs m.inputs.toNat N O = R at *
    simp [-zJRc, hiq]
    refine zv8C (fun p : Nat × List Int × List Int × List Int × List Int => [(8, .sl 1 p.2.1.length 0 p.2.1.length), (9, .int p.1), (11, .sl (R.length + 1 + 1 + 1) p.1 0 p.1), (12, .sl (R.length + 1 + 1 + 1 + 1) p.1 0 p.1)]) (fun p => ⟨some 4, [.int 0, .int 0, .snil, .snil], .live⟩ :: Zb p.2.1 :: Zb p.2.2.1 :: (R ++ [louI p.2.2.2.1, louI p.2.2.2.2])) (fun p => RqI m c i p) (fun p => m.inputs.toNat - p.1) (0, q, nb, [], []) (by simp [sets]) ⟨hRq, hiq, by dsimp only; omega, rfl, rfl⟩ ?_
    rintro ⟨a, q, nb, nx, ot⟩ hI
    have hRq := hI.q
    have hiq := hI.i
    have hain := hI.a
    have hnxl := hI.l1
    have hotl := hI.l2
    have hqle := hI.q.le
    dsimp only at hRq hiq hain hnxl hotl hqle ⊢
    clear hI
    have hs := hRq.rng _ (zmAQ (l := q) (n := (i : Int)) (by omega) (by omega))
    have hrow := hm.row _ hs.1 hs.2
    have hso : ix q (i : Int) < (m.out.length : Int) := by omega
    have hnbl := hRq.len
    by_cases ha : (a : Int) < m.inputs
    · have hnx := hm.nx _ (a : Int) hs.1 hs.2 (by omega) ha
      have hcv := hcr _ hnx.1 hnx.2
      have hncl : ix (ix m.next (ix q (i : Int))) (a : Int) < (c.length : Int) := by omega
      generalize ht : ix (ix m.next (ix q (i : Int))) (a : Int) = t at *
      by_cases hneg : ix nb (ix c t) < 0
      · have hneg' := eq_true hneg
        have hnew := hRq.new hm hiq ha ht rfl hcv hneg
        have hqi : ix (q ++ [t]) (i : Int) = ix q (i : Int) := zT8e (by omega) (by omega)
        have hil : (i < q.length + 1) = True := eq_true (by omega)
        simp [-zJRc, -List.map_set, -List.map_append, ha, hiq, hs.1, hs.2, hrow.1, hrow.2, ht, hnx.1, hnx.2, hncl, hcv.1, hcv.2, hnbl, hneg', hso, ↓znKw, ↓zFZS, ↓zsbM, ↓zHO5, hnxl, hotl, hqi, hil]
        refine ⟨by omega, by split <;> rfl, by omega, by omega, by split <;> rfl, by omega, by omega, zGkM (a + 1, q ++ [t], nb.set (ix c t).toNat (q.length : Int), nx ++ [ix (nb.set (ix c t).toNat (q.length : Int)) (ix c t)], ot ++ [ix (ix m.out (ix q (i : Int))) (a : Int)]) (by simp [-List.map_set]) (by simp [-List.map_set]) ⟨hnew, by dsimp only; simp; omega, by dsimp only; omega, by simp [hnxl], by simp [hotl]⟩ (by dsimp only; omega)⟩
      · have hneg' := eq_false hneg
        have hold := hRq.old hiq (v := ix c t) (by rw [ht]) hcv hneg
        simp [-zJRc, ha, hiq, hs.1, hs.2, hrow.1, hrow.2, ht, hnx.1, hnx.2, hncl, hcv.1, hcv.2, hnbl, hneg', hso, ↓znKw, ↓zFZS, ↓zsbM, ↓zHO5, hnxl, hotl]
        refine ⟨by split <;> rfl, by omega, by split <;> rfl, by omega, by omega, zGkM (a + 1, q, nb, nx ++ [ix nb (ix c t)], ot ++ [ix (ix m.out (ix q (i : Int))) (a : Int)]) (by simp) (by simp) ⟨hold, hiq, by dsimp only; omega, by simp [hnxl], by simp [hotl]⟩ (by dsimp only; omega)⟩
    · have ea : a = m.inputs.toNat := by omega
      subst ea
      have hRq' := hRq.next (by omega)
      have hnn : (nx = []) = False := eq_false (by intro e; rw [e] at hnxl; simp at hnxl; omega)
      have hon : (ot = []) = False := eq_false (by intro e; rw [e] at hotl; simp at hotl; omega)
      subst hR
      rcases N with _ | ⟨a0, A⟩
      · have hO : O = [] := List.eq_nil_of_length_eq_zero (by rw [hOl, ← hNl]; rfl)
        subst hO
        have hi0 : i = 0 := by rw [← hNl]; rfl
        rw [zX7V]
        simp [-zJRc, -Int.ofNat_toNat, ha, hnn, hon, hnxl, hotl]
        refine ⟨by omega, zGkM (i + 1, q, nb, [nx], [ot]) (by simp) rfl ⟨hRq', by dsimp only; omega, by simp [hi0], by simp [hi0], by simp [hnxl], by simp [hotl]⟩ (by dsimp only; omega)⟩
      · rcases O with _ | ⟨o0, O⟩
        · rw [← hNl] at hOl; simp at hOl
        have hAO : A.length = O.length := by rw [← hNl] at hOl; simpa using hOl.symm
        have hT := zQuR hAO
        have hT2 := zRvG (a := nx) (o := ot) hAO
        rw [ztxK]
        generalize mtw A O = T at *
        simp [-zJRc, -Int.ofNat_toNat, ha, hnn, hon, hnxl, hotl, z4HF]
        have e1 : qN (A.length + 1) = T.length + 8 := by unfold qN; rw [if_neg (by omega)]; omega
        have e2 : qO (A.length + 1) = T.length + 9 := by unfold qO; rw [if_neg (by omega)]; omega
        have hA1 : A.length + 1 = i := by rw [← hNl]; rfl
        have hO1 : O.length + 1 = i := by rw [← hOl]; rfl
        refine ⟨by omega, by omega, zGkM (i + 1, q, nb, (a0 :: A) ++ [nx], (o0 :: O) ++ [ot]) (by simp) ?_ ⟨hRq', by dsimp only; omega, by dsimp only; simp; omega, by dsimp only; simp; omega, fun x hx => ?_, fun x hx => ?_⟩ (by dsimp only; omega)⟩
        · have hnb' : louI nx = Zb nx := by
            show (⟨none, nx.map .int, if nx = [] then .nul else .live⟩ : Blk) = _
            rw [if_neg (by rw [hnn]; exact id)]
          have hob' : louI ot = Zb ot := by
            show (⟨none, ot.map .int, if ot = [] then .nul else .live⟩ : Blk) = _
            rw [if_neg (by rw [hon]; exact id)]
          dsimp only
          rw [List.cons_append, List.cons_append, ztxK, hT2, List.length_append, List.length_singleton, zJuI (n := A.length + 1), zJuI (n := A.length + 1), e1, e2]
          first | rw [hnb', hob'] | skip
        · rcases List.mem_append.1 hx with hx | hx
          · exact hNk x hx
          · simp at hx; rw [hx, hnxl]
        · rcases List.mem_append.1 hx with hx | hx
          · exact hOk x hx
          · simp at hx; rw [hx, hotl]
  · have hcl := hRq.cls (by omega)
    have hiff := z09q hm hk hcl
    have hiq' : i = q.length := by omega
    subst hiq'
    have hN0 : 0 < N.length := by
      rw [hNl]
      obtain ⟨s, hs, _⟩ := List.mem_map.1 hRq.fst
      exact List.length_pos_iff.2 (List.ne_nil_of_mem hs)
    rcases N with _ | ⟨a0, A⟩
    · simp at hN0
    rcases O with _ | ⟨o0, O⟩
    · rw [← hNl] at hOl; simp at hOl
    have hAO : A.length = O.length := by rw [← hNl] at hOl; simpa using hOl.symm
    rw [ztxK]
    have v1 : ∀ B0 B1 B2 B3, view (B0 :: B1 :: B2 :: B3 :: Zb a0 :: Zb o0 :: ⟨none, rws 0 qN (A.length + 1) m.inputs.toNat, .live⟩ :: ⟨none, rws 0 qO (A.length + 1) m.inputs.toNat, .live⟩ :: mtw A O) false 11 (.sl 6 (A.length + 1) 0 (A.length + 1)) = some (iLL (a0 :: A)) := fun B0 B1 B2 B3 => zlv3 (k := 8) (zsXg hAO hNk hOk).1 rfl
    have v2 : ∀ B0 B1 B2 B3, view (B0 :: B1 :: B2 :: B3 :: Zb a0 :: Zb o0 :: ⟨none, rws 0 qN (A.length + 1) m.inputs.toNat, .live⟩ :: ⟨none, rws 0 qO (A.length + 1) m.inputs.toNat, .live⟩ :: mtw A O) false 11 (.sl 7 (A.length + 1) 0 (A.length + 1)) = some (iLL (o0 :: O)) := fun B0 B1 B2 B3 => zlv3 (k := 8) (zsXg hAO hNk hOk).2 (by simp [hAO])
    simp [zhi1, v1, v2]
    refine ⟨⟨m.inputs, 0, a0 :: A, o0 :: O⟩, ⟨rfl, rfl, rfl, rfl⟩, ?_⟩
    show (a0 :: A).length = m.next.length ↔ _
    rw [hNl]
    exact hiff
theorem zD5J (m : Mly) (h : m.fits) : PC zpHJ [m.av] = some (.bool m.mnlb) := by
  refine zx72 (zYvQ rfl ?_)
  by_cases h0 : m.validE = 0
  · obtain ⟨v, σ', h1, M, h2, h3⟩ := LX_s (zt8h m h h0)
    have hM : PC z610 [m.av] = some (.tup [M.av, .int 0]) := by simp only [PC, PCx, h1]; exact h2
    by_cases hn : M.next.length = m.next.length
    · have e := zVHJ.2 ⟨h0, h3.1 hn⟩
      have hn' : ((M.next.length : Int) = (m.next.length : Int)) = True := eq_true (by omega)
      rw [e]
      simp [hM, hn, hn']
    · have e := zWZJ (m := m) fun h => hn (h3.2 h.2)
      have hn' : ((M.next.length : Int) = (m.next.length : Int)) = False := eq_false (by omega)
      have hn'' := eq_false hn
      rw [e]
      simp [hM, hn', hn'']
  · have hM : PC z610 [m.av] = some (.tup [Mly.av ⟨0, 0, [], []⟩, .int m.validE]) := by
      refine zx72 (zUFH rfl ?_)
      have hC := zOiJ m h
      rw [if_neg h0] at hC
      simp [hC, h0, zhi1]
    have e := zWZJ (m := m) fun h => h0 h.1
    rw [e]
    simp [hM, h0]
def Mly.mchk (m : Mly) (b : Bool) : Int := if m.validE ≠ 0 then m.validE else if b = true then 0 else 1
theorem zGPu (m : Mly) (h : m.fits) : PC zWBS [m.av] = some (.int (m.mchk m.mnlb)) := by
  refine zx72 (zzQ3 rfl ?_)
  have hv := zrVN m h
  have hm := zD5J m h
  by_cases h0 : m.validE = 0
  · rw [h0] at hv
    cases hb : m.mnlb with
    | true => rw [hb] at hm; simp [hv, hm, Mly.mchk, h0]
    | false => rw [hb] at hm; simp [hv, hm, Mly.mchk, h0]
  · simp [hv, h0, Mly.mchk]
end Ab
