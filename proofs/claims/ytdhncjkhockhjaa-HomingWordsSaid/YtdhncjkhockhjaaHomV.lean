/- A valid machine has no error and fits. minimize.Min. Classes of states, by the document. When a machine is minimal, by the program. homing.Word, by the program. Condition: none. -/
import Derived.Test.YtdhncjkhockhjaaBfs
import Derived.Test.YtdhncjkhockhjaaTrimW
import Derived.Test.YtdhncjkhockhjaaMnlT
import Derived.Test.YtdhncjkhockhjaaHomP
import Derived.Test.YtdhncjkhockhjaaHomW
set_option linter.all false
set_option maxRecDepth 100000
set_option maxHeartbeats 4000000
namespace Ab
theorem mok_valid {m : Mly} (h : m.Ok) : m.validE = 0 := by
  have h1 := h.inputs
  have h2 := h.states
  have h3 := h.start
  have h4 := h.len
  have hne : m.next ≠ [] := by intro e; rw [e] at h2; simp at h2
  have hs : m.sizeE = 0 := by
    unfold Mly.sizeE
    rw [if_neg (by omega), if_neg (by omega), if_neg hne, if_neg (by omega), if_neg (by omega), if_neg (by omega), if_neg (by omega)]
  unfold Mly.validE
  rw [if_neg (by simpa using hs)]
  refine firstN_none fun s s0 s1 => ?_
  obtain ⟨r1, r2⟩ := h.row s s0 s1
  have b1 : bad (ix m.next s) m.next.length = false := bad_fi.2 fun j j0 j1 => h.nx s j s0 s1 j0 (by omega)
  have b2 : bad (ix m.out s) 1048577 = false := bad_fi.2 fun j j0 j1 => by have := h.ot s j s0 s1 j0 (by omega); omega
  unfold Mly.rowE
  rw [if_neg (by omega), if_neg (by simp [b1, b2])]
/-- A valid machine is one in memory. -/
theorem mok_fits {m : Mly} (hm : m.Ok) : m.fits := by
  have hin := hm.inputs
  have hst := hm.states
  have hml := hm.len
  have hsr := hm.start
  refine ⟨inR_iff.2 (by omega), inR_iff.2 (by omega), ⟨by omega, fun r hr => ?_⟩, ⟨by omega, fun r hr => ?_⟩⟩
  · obtain ⟨i, hi, rfl⟩ := List.mem_iff_getElem.1 hr
    have hro := (hm.row i (by omega) (by omega)).1
    rw [ix_nat hi] at hro
    refine ⟨by omega, fun x hx => ?_⟩
    obtain ⟨j, hj, rfl⟩ := List.mem_iff_getElem.1 hx
    have := hm.nx i j (by omega) (by omega) (by omega) (by omega)
    rw [ix_nat hi, ix_nat hj] at this
    exact inR_iff.2 (by omega)
  · obtain ⟨i, hi, rfl⟩ := List.mem_iff_getElem.1 hr
    have hro := (hm.row i (by omega) (by omega)).2
    rw [ix_nat hi] at hro
    refine ⟨by omega, fun x hx => ?_⟩
    obtain ⟨j, hj, rfl⟩ := List.mem_iff_getElem.1 hx
    have := hm.ot i j (by omega) (by omega) (by omega) (by omega)
    rw [ix_nat hi, ix_nat hj] at this
    exact inR_iff.2 (by omega)
end Ab
namespace Ab
/-- Where the rows of the minimal machine lie. -/
def mN (j : Nat) : Nat := if j = 0 then 2 else 2 * j + 4
def mO (j : Nat) : Nat := if j = 0 then 4 else 2 * j + 5
def mtw (A O : List (List Int)) : List Blk := (List.zip A O).flatMap fun p => [Zb p.1, Zb p.2]
theorem mtw_len : ∀ {A O : List (List Int)}, A.length = O.length → (mtw A O).length = 2 * A.length
  | [], [], _ => rfl
  | a :: A, o :: O, h => by
    have := mtw_len (A := A) (O := O) (by simpa using h)
    simp [mtw] at this ⊢; omega
theorem mtw_snoc {A O : List (List Int)} {a o : List Int} (h : A.length = O.length) : mtw (A ++ [a]) (O ++ [o]) = mtw A O ++ [Zb a, Zb o] := by
  unfold mtw
  rw [List.zip_append h]; simp
theorem mtw_N : ∀ {A O : List (List Int)} {j : Nat}, A.length = O.length → j < A.length → blk (mtw A O) (2 * j) = some (Zb (ix A (j : Int))) ∧ blk (mtw A O) (2 * j + 1) = some (Zb (ix O (j : Int)))
  | a :: A, o :: O, 0, h, _ => ⟨rfl, rfl⟩
  | a :: A, o :: O, j + 1, h, hj => by
    have := mtw_N (A := A) (O := O) (j := j) (by simpa using h) (by simpa using hj)
    have e1 : ix (a :: A) ((j + 1 : Nat) : Int) = ix A (j : Int) := by simp [ix]
    have e2 : ix (o :: O) ((j + 1 : Nat) : Int) = ix O (j : Int) := by simp [ix]
    rw [e1, e2]
    exact this
/-- The store while the minimal machine is made. -/
def mnS (inp : Int) (K : Nat) (N O : List (List Int)) : List Blk := match N, O with
  | a :: A, o :: O => ⟨some 4, [.int 0, .int 0, .snil, .snil], .live⟩ :: ⟨some 4, [.int inp, .int 0, .sl 3 (A.length + 1) 0 (A.length + 1), .sl 5 (A.length + 1) 0 (A.length + 1)], .live⟩ :: Zb a :: ⟨none, rws 0 mN (A.length + 1) K, .live⟩ :: Zb o :: ⟨none, rws 0 mO (A.length + 1) K, .live⟩ :: mtw A O
  | _, _ => [⟨some 4, [.int 0, .int 0, .snil, .snil], .live⟩, ⟨some 4, [.int inp, .int 0, .snil, .snil], .live⟩]
theorem mnS_cons {inp : Int} {K : Nat} {a o : List Int} {A O : List (List Int)} : mnS inp K (a :: A) (o :: O) = ⟨some 4, [.int 0, .int 0, .snil, .snil], .live⟩ :: ⟨some 4, [.int inp, .int 0, .sl 3 (A.length + 1) 0 (A.length + 1), .sl 5 (A.length + 1) 0 (A.length + 1)], .live⟩ :: Zb a :: ⟨none, rws 0 mN (A.length + 1) K, .live⟩ :: Zb o :: ⟨none, rws 0 mO (A.length + 1) K, .live⟩ :: mtw A O := rfl
theorem mnS_nil {inp : Int} {K : Nat} : mnS inp K [] [] = [⟨some 4, [.int 0, .int 0, .snil, .snil], .live⟩, ⟨some 4, [.int inp, .int 0, .snil, .snil], .live⟩] := rfl
theorem mnS_rows {B0 B1 : Blk} {K : Nat} {a o : List Int} {A O : List (List Int)} (hAO : A.length = O.length) (hA : ∀ x ∈ a :: A, x.length = K) (hO : ∀ x ∈ o :: O, x.length = K) : RowsAt (B0 :: B1 :: Zb a :: ⟨none, rws 0 mN (A.length + 1) K, .live⟩ :: Zb o :: ⟨none, rws 0 mO (A.length + 1) K, .live⟩ :: mtw A O) 3 mN (a :: A) ∧ RowsAt (B0 :: B1 :: Zb a :: ⟨none, rws 0 mN (A.length + 1) K, .live⟩ :: Zb o :: ⟨none, rws 0 mO (A.length + 1) K, .live⟩ :: mtw A O) 5 mO (o :: O) := by
  refine ⟨⟨?_, fun j hj => ?_⟩, ⟨?_, fun j hj => ?_⟩⟩
  · show some (Blk.mk none (rws 0 mN (A.length + 1) K) .live) = _
    unfold rws
    congr 2
    refine List.map_congr_left fun j hj => ?_
    have := hA _ (ix_mem (l := a :: A) (n := (j : Int)) (by omega) (by simp at hj ⊢; omega))
    rw [this]; rfl
  · cases j with
    | zero => rfl
    | succ j =>
      have e : mN (j + 1) = 2 * j + 6 := by unfold mN; rw [if_neg (by omega)]; omega
      rw [e]
      show blk (mtw A O) (2 * j) = _
      rw [(mtw_N hAO (by simpa using hj)).1]
      simp [ix]
  · show some (Blk.mk none (rws 0 mO (A.length + 1) K) .live) = _
    unfold rws
    rw [hAO]
    congr 2
    refine List.map_congr_left fun j hj => ?_
    have := hO _ (ix_mem (l := o :: O) (n := (j : Int)) (by omega) (by simp at hj ⊢; omega))
    rw [this]; rfl
  · cases j with
    | zero => rfl
    | succ j =>
      have e : mO (j + 1) = 2 * j + 7 := by unfold mO; rw [if_neg (by omega)]; omega
      rw [e]
      show blk (mtw A O) (2 * j + 1) = _
      rw [(mtw_N hAO (by simp at hj; omega)).2]
      simp [ix]
/-- The row that grows. -/
abbrev rwB (l : List Int) : Blk := ⟨none, l.map .int, if l = [] then .nul else .live⟩
def minA (m : Mly) : Mly × Int := if m.validE ≠ 0 then (⟨0, 0, [], []⟩, m.validE) else (m.minm, 0)
theorem mrows_len {t : Mly} {c : List Int} : ∀ {s : Nat}, (mrows t c s).1.length = (mrows t c s).2.length
  | 0 => rfl
  | s + 1 => by
    unfold mrows
    split
    · exact mrows_len
    · simp [mrows_len]
theorem mrows_le {t : Mly} {c : List Int} : ∀ {s : Nat}, (mrows t c s).1.length ≤ s
  | 0 => Nat.le_refl 0
  | s + 1 => by
    have := mrows_le (t := t) (c := c) (s := s)
    unfold mrows
    split
    · omega
    · simp; omega
/-- The row of a class, as far as it is made. -/
def rwP (c l : List Int) (x : Nat) : List Int := (l.take x).map fun n => ix c n
theorem rwP_len {c l : List Int} {x : Nat} (h : x ≤ l.length) : (rwP c l x).length = x := by simp [rwP]; omega
theorem rwP_succ {c l : List Int} {x : Nat} (h : x < l.length) : rwP c l (x + 1) = rwP c l x ++ [ix c (ix l (x : Int))] := by
  unfold rwP
  rw [List.take_add_one, List.getElem?_eq_getElem h, List.map_append, ix_nat h]; rfl
theorem rwP_all {c l : List Int} {x : Nat} (h : x = l.length) : rwP c l x = l.map fun n => ix c n := by
  unfold rwP; rw [List.take_of_length_le (by omega)]
theorem rwP_zero {c l : List Int} : rwP c l 0 = [] := rfl
theorem mrows_K {t : Mly} (ht : t.Ok) {c : List Int} (hc : c.length = t.next.length) : ∀ {s : Nat}, s ≤ c.length → (∀ x ∈ (mrows t c s).1, x.length = t.inputs.toNat) ∧ ∀ x ∈ (mrows t c s).2, x.length = t.inputs.toNat
  | 0, _ => ⟨fun x hx => by simp [mrows] at hx, fun x hx => by simp [mrows] at hx⟩
  | s + 1, h => by
    have ih := mrows_K ht hc (s := s) (by omega)
    have hrow := ht.row (s : Int) (by omega) (by omega)
    unfold mrows
    split
    · exact ih
    · refine ⟨fun x hx => ?_, fun x hx => ?_⟩
      · rcases List.mem_append.1 hx with hx | hx
        · exact ih.1 x hx
        · simp at hx; subst hx; simp; omega
      · rcases List.mem_append.1 hx with hx | hx
        · exact ih.2 x hx
        · simp at hx; subst hx; omega
theorem Min_s (m : Mly) (h : m.fits) : PC F_minimize_Min [m.av] = some (.tup [(minA m).1.av, .int (minA m).2]) := by
  refine PCx_of (go_minimize_Min rfl ?_)
  have hT := Trim_s m h
  by_cases h0 : m.validE = 0
  case neg =>
    have e : minA m = (⟨0, 0, [], []⟩, m.validE) := by unfold minA; rw [if_pos h0]
    have e' : trmA m = (⟨0, 0, [], []⟩, m.validE) := by unfold trmA; rw [if_pos h0]
    rw [e]
    rw [e'] at hT
    simp [hT, h0, res_box4]
  have e : minA m = (m.minm, 0) := by unfold minA; rw [if_neg (by omega)]
  have e' : trmA m = (m.trim, 0) := by unfold trmA; rw [if_neg (by omega)]
  rw [e]
  rw [e'] at hT
  have hm := mvalidE_ok h0
  have ht := trim_ok hm
  have hin := ht.inputs
  have hst := ht.states
  have hml := ht.len
  have hC := Classes_s m.trim (mok_fits ht)
  have hp : prtA m.trim 128 = ((mref m.trim 128).1, 0) := by unfold prtA; rw [if_neg (by have := mok_valid ht; omega)]
  rw [hp] at hC
  obtain ⟨k, hk⟩ := minm_cls hm
  have hcl := hk.len
  have hM : m.minm = m.trim.quo (mref m.trim 128).1 := rfl
  have hMa : m.minm.av = .agg [.int m.trim.inputs, .int 0, iLL (mrows m.trim (mref m.trim 128).1 (mref m.trim 128).1.length).1, iLL (mrows m.trim (mref m.trim 128).1 (mref m.trim 128).1.length).2] := rfl
  rw [hMa]
  generalize (mref m.trim 128).1 = c at *
  generalize m.trim = t at *
  have hrg : ∀ s : Int, 0 ≤ s → s < t.next.length → 0 ≤ ix c s ∧ ix c s < k := fun s s0 s1 => cls_rng hk s0 s1
  simp [-More_nor, hT, hC]
  refine W_iter (fun s : Nat => [(6, .int s)]) (fun s => mnS t.inputs t.inputs.toNat (mrows t c s).1 (mrows t c s).2) (fun s => s ≤ c.length) (fun s => c.length - s) 0 (by simp [sets, mrows, mnS]) (by omega) ?_
  intro s s1
  have hlen := mrows_len (t := t) (c := c) (s := s)
  have hmK := mrows_K ht hcl (s := s) s1
  by_cases hs : s < c.length
  · have hcs := hrg (s : Int) (by omega) (by omega)
    have hrow := ht.row (s : Int) (by omega) (by omega)
    have hsn : (s : Int) < (t.next.length : Int) := by omega
    have hso : (s : Int) < (t.out.length : Int) := by omega
    have hns : ∀ x : Nat, (x : Int) < t.inputs → 0 ≤ ix (ix t.next (s : Int)) (x : Int) ∧ ix (ix t.next (s : Int)) (x : Int) < (c.length : Int) := fun x hx => by
      have := ht.nx (s : Int) (x : Int) (by omega) (by omega) (by omega) hx
      omega
    have hst' : mrows t c (s + 1) = if ix c (s : Int) < ((mrows t c s).1.length : Int) then mrows t c s else ((mrows t c s).1 ++ [(ix t.next (s : Int)).map fun n => ix c n], (mrows t c s).2 ++ [ix t.out (s : Int)]) := rfl
    have hml1 := mrows_le (t := t) (c := c) (s := s)
    generalize mrows t c s = R at *
    obtain ⟨A, O⟩ := R
    dsimp only at hlen hmK hst' hml1 ⊢
    rcases A with _ | ⟨a, A⟩
    · have : O = [] := List.eq_nil_of_length_eq_zero (by simpa using hlen.symm)
      subst this
      rw [mnS_nil]
      have hlt : (ix c (s : Int) < 0) = False := eq_false (by omega)
      rw [if_neg (by simp; omega)] at hst'
      simp [-More_nor, hs, hlt]
      refine ⟨by omega, ?_⟩
      refine W_iter (fun x : Nat => [(12, .int x), (15, .sl (2) x 0 x)]) (fun x => [⟨some 4, [.int 0, .int 0, .snil, .snil], .live⟩, ⟨some 4, [.int t.inputs, .int 0, .snil, .snil], .live⟩, rwB (rwP c (ix t.next (s : Int)) x)]) (fun x => x ≤ t.inputs.toNat) (fun x => t.inputs.toNat - x) 0 (by simp [sets, rwP_zero]) (by omega) ?_
      intro x x1
      have hXl := rwP_len (c := c) (l := ix t.next (s : Int)) (x := x) (by omega)
      by_cases hx : x < t.inputs.toNat
      · have hn := hns x (by omega)
        have hxi : ((x : Int) < t.inputs) = True := eq_true (by omega)
        have hsu := rwP_succ (c := c) (l := ix t.next (s : Int)) (x := x) (by omega)
        have hxb : (x : Int) ≤ 64 := by omega
        rcases x with _ | y
        · have hn1 : 0 ≤ ix (ix t.next (s : Int)) 0 := hn.1
          have hn2 : ix (ix t.next (s : Int)) 0 < (c.length : Int) := hn.2
          have hxi' : (0 < t.inputs) = True := hxi
          simp [-More_nor, -List.map_append, hrow.1, hxi', hn1, hn2, rwP_zero]
          refine More_of 1 (by simp) ?_ (by omega) (by omega)
          rw [hsu, rwP_zero]
          simp
        · generalize rwP c (ix t.next (s : Int)) (y + 1) = X at *
          have hXn : (X = []) = False := eq_false (by intro e; rw [e] at hXl; simp at hXl)
          have hn1 : 0 ≤ ix (ix t.next (s : Int)) ((y : Int) + 1) := hn.1
          have hn2 : ix (ix t.next (s : Int)) ((y : Int) + 1) < (c.length : Int) := hn.2
          have hxi' : ((y : Int) + 1 < t.inputs) = True := hxi
          simp [-More_nor, -List.map_append, hrow.1, hxi', hn1, hn2, hXl, hXn]
          refine ⟨by omega, by omega, by omega, More_of (y + 2) (by simp; omega) ?_ (by omega) (by omega)⟩
          rw [hsu]
          simp
      · have : x = t.inputs.toNat := by omega
        subst this
        have hxi : (((t.inputs.toNat : Nat) : Int) < t.inputs) = False := eq_false (by omega)
        have hXn : (rwP c (ix t.next (s : Int)) t.inputs.toNat = []) = False := eq_false (by intro e; rw [e] at hXl; simp at hXl; omega)
        have hXa := rwP_all (c := c) (l := ix t.next (s : Int)) (x := t.inputs.toNat) (by omega)
        have hno : (ix t.out (s : Int) = []) = False := eq_false (by intro e; rw [e] at hrow; simp at hrow; omega)
        have hol : (ix t.out (s : Int)).length = t.inputs.toNat := by omega
        have hi0 : (t.inputs ≤ 0) = False := eq_false (by omega)
        have hi1 : (0 < t.inputs) = True := eq_true (by omega)
        simp [-More_nor, -Int.ofNat_toNat, hi0, hi1, hrow.1, hrow.2, hxi, hsn, hso, hXl, hXn, hno, hol]
        refine ⟨by omega, by omega, More_of (s + 1) (by simp) ?_ (by omega) (by omega)⟩
        rw [hst', ← hXa]
        rfl
    · rcases O with _ | ⟨o, O⟩
      · simp at hlen
      have hAO : A.length = O.length := by simpa using hlen
      rw [mnS_cons]
      have hT := mtw_len hAO
      have hT2 := mtw_snoc (a := (ix t.next (s : Int)).map fun n => ix c n) (o := ix t.out (s : Int)) hAO
      have hal : A.length + 1 ≤ s := by simpa using hml1
      by_cases hlt : ix c (s : Int) < ((a :: A).length : Int)
      · rw [if_pos hlt] at hst'
        have hlt' : (ix c (s : Int) < (A.length : Int) + 1) = True := eq_true (by simpa using hlt)
        simp [-More_nor, hs, hlt']
        refine ⟨by omega, More_of (s + 1) (by simp) ?_ (by omega) (by omega)⟩
        rw [hst', mnS_cons]
      have hlt' : (ix c (s : Int) < (A.length : Int) + 1) = False := eq_false (by simpa using hlt)
      rw [if_neg hlt] at hst'
      generalize mtw A O = T at *
      simp [-More_nor, hs, hlt']
      refine ⟨by omega, ?_⟩
      refine W_iter (fun x : Nat => [(12, .int x), (15, .sl (T.length + 1 + 1 + 1 + 1 + 1 + 1) x 0 x)]) (fun x => ⟨some 4, [.int 0, .int 0, .snil, .snil], .live⟩ :: ⟨some 4, [.int t.inputs, .int 0, .sl 3 (A.length + 1) 0 (A.length + 1), .sl 5 (A.length + 1) 0 (A.length + 1)], .live⟩ :: Zb a :: ⟨none, rws 0 mN (A.length + 1) t.inputs.toNat, .live⟩ :: Zb o :: ⟨none, rws 0 mO (A.length + 1) t.inputs.toNat, .live⟩ :: (T ++ [rwB (rwP c (ix t.next (s : Int)) x)])) (fun x => x ≤ t.inputs.toNat) (fun x => t.inputs.toNat - x) 0 (by simp [sets, rwP_zero]) (by omega) ?_
      intro x x1
      have hXl := rwP_len (c := c) (l := ix t.next (s : Int)) (x := x) (by omega)
      by_cases hx : x < t.inputs.toNat
      · have hn := hns x (by omega)
        have hxi : ((x : Int) < t.inputs) = True := eq_true (by omega)
        have hsu := rwP_succ (c := c) (l := ix t.next (s : Int)) (x := x) (by omega)
        have hxb : (x : Int) ≤ 64 := by omega
        rcases x with _ | y
        · have hn1 : 0 ≤ ix (ix t.next (s : Int)) 0 := hn.1
          have hn2 : ix (ix t.next (s : Int)) 0 < (c.length : Int) := hn.2
          have hxi' : (0 < t.inputs) = True := hxi
          simp [-More_nor, -List.map_append, hrow.1, hxi', hn1, hn2, rwP_zero, ↓blk_at, ↓setB_at, rws_len]
          refine More_of 1 (by simp) ?_ (by omega) (by omega)
          rw [hsu, rwP_zero]
          simp
        · generalize rwP c (ix t.next (s : Int)) (y + 1) = X at *
          have hXn : (X = []) = False := eq_false (by intro e; rw [e] at hXl; simp at hXl)
          have hn1 : 0 ≤ ix (ix t.next (s : Int)) ((y : Int) + 1) := hn.1
          have hn2 : ix (ix t.next (s : Int)) ((y : Int) + 1) < (c.length : Int) := hn.2
          have hxi' : ((y : Int) + 1 < t.inputs) = True := hxi
          simp [-More_nor, -List.map_append, hrow.1, hxi', hn1, hn2, hXl, hXn, ↓blk_at, ↓setB_at, rws_len]
          refine ⟨by omega, by omega, by omega, More_of (y + 2) (by simp; omega) ?_ (by omega) (by omega)⟩
          rw [hsu]
          simp
      · have : x = t.inputs.toNat := by omega
        subst this
        have hxi : (((t.inputs.toNat : Nat) : Int) < t.inputs) = False := eq_false (by omega)
        have hXn : (rwP c (ix t.next (s : Int)) t.inputs.toNat = []) = False := eq_false (by intro e; rw [e] at hXl; simp at hXl; omega)
        have hXa := rwP_all (c := c) (l := ix t.next (s : Int)) (x := t.inputs.toNat) (by omega)
        have hno : (ix t.out (s : Int) = []) = False := eq_false (by intro e; rw [e] at hrow; simp at hrow; omega)
        have hol : (ix t.out (s : Int)).length = t.inputs.toNat := by omega
        have hi0 : (t.inputs ≤ 0) = False := eq_false (by omega)
        have hi1 : (0 < t.inputs) = True := eq_true (by omega)
        simp [-More_nor, -Int.ofNat_toNat, hi0, hi1, hrow.1, hrow.2, hxi, hsn, hso, hXl, hXn, hno, hol, ↓blk_at, ↓setB_at, rws_len]
        refine ⟨by omega, by omega, by omega, by omega, More_of (s + 1) (by simp) ?_ (by omega) (by omega)⟩
        have e1 : mN (A.length + 1) = T.length + 6 := by unfold mN; rw [if_neg (by omega)]; omega
        have e2 : mO (A.length + 1) = T.length + 7 := by unfold mO; rw [if_neg (by omega)]; omega
        rw [hst', ← hXa]
        rw [← hXa] at hT2
        dsimp only
        rw [List.cons_append, List.cons_append, mnS_cons, hT2, List.length_append, List.length_singleton, rws_succ (n := A.length + 1), rws_succ (n := A.length + 1), e1, e2]
        have hrb : rwB (rwP c (ix t.next (s : Int)) t.inputs.toNat) = Zb (rwP c (ix t.next (s : Int)) t.inputs.toNat) := by
          show (⟨none, (rwP c (ix t.next (s : Int)) t.inputs.toNat).map .int, if rwP c (ix t.next (s : Int)) t.inputs.toNat = [] then .nul else .live⟩ : Blk) = _
          rw [if_neg (by rw [hXn]; exact id)]
        rw [hrb]
  · have : s = c.length := by omega
    subst this
    have hA0 : 0 < (mrows t c c.length).1.length := by
      have h1 : (mrows t c c.length).1.length = k := (quo_at hk).1
      have h2 := hrg 0 (by omega) (by omega)
      omega
    generalize mrows t c c.length = R at *
    obtain ⟨A, O⟩ := R
    dsimp only at hlen hmK hA0 ⊢
    rcases A with _ | ⟨a, A⟩
    · simp at hA0
    rcases O with _ | ⟨o, O⟩
    · simp at hlen
    have hAO : A.length = O.length := by simpa using hlen
    rw [mnS_cons]
    have v1 : ∀ B0 B1, view (B0 :: B1 :: Zb a :: ⟨none, rws 0 mN (A.length + 1) t.inputs.toNat, .live⟩ :: Zb o :: ⟨none, rws 0 mO (A.length + 1) t.inputs.toNat, .live⟩ :: mtw A O) false 11 (.sl 3 (A.length + 1) 0 (A.length + 1)) = some (iLL (a :: A)) := fun B0 B1 => vd_rowsAt (k := 8) (mnS_rows hAO hmK.1 hmK.2).1 rfl
    have v2 : ∀ B0 B1, view (B0 :: B1 :: Zb a :: ⟨none, rws 0 mN (A.length + 1) t.inputs.toNat, .live⟩ :: Zb o :: ⟨none, rws 0 mO (A.length + 1) t.inputs.toNat, .live⟩ :: mtw A O) false 11 (.sl 5 (A.length + 1) 0 (A.length + 1)) = some (iLL (o :: O)) := fun B0 B1 => vd_rowsAt (k := 8) (mnS_rows hAO hmK.1 hmK.2).2 hlen
    simp [res_box4, v1, v2]
end Ab
namespace Ab
/-- Whether a machine is valid and minimal. -/
noncomputable def Mly.mnlb (m : Mly) : Bool := @decide (m.validE = 0 ∧ Mnl m) (Classical.propDecidable _)
theorem mnlb_t {m : Mly} : m.mnlb = true ↔ m.validE = 0 ∧ Mnl m := by unfold Mly.mnlb; exact @decide_eq_true_iff _ (Classical.propDecidable _)
theorem mnlb_f {m : Mly} (h : ¬ (m.validE = 0 ∧ Mnl m)) : m.mnlb = false := by
  cases e : m.mnlb with
  | false => rfl
  | true => exact absurd (mnlb_t.1 e) h
theorem Minimal_s (m : Mly) (h : m.fits) : PC F_minimize_Minimal [m.av] = some (.bool m.mnlb) := by
  refine PCx_of (go_minimize_Minimal rfl ?_)
  have hv := mValid_s m h
  by_cases h0 : m.validE = 0
  case neg =>
    have e := mnlb_f (m := m) fun h => h0 h.1
    rw [e]
    simp [hv, h0]
  have hm := mvalidE_ok h0
  have hR := Reach_s m h h0
  have hM := Min_s m h
  have eM : minA m = (m.minm, 0) := by unfold minA; rw [if_neg (by omega)]
  rw [eM] at hM
  rw [h0] at hv
  have hi := mini_iff hm
  by_cases h1 : (m.places m.start).length = m.next.length
  · have h1' : (((m.places m.start).length : Int) = (m.next.length : Int)) = True := eq_true (by omega)
    have h1'' := eq_true h1
    by_cases h2 : m.minm.next.length = m.next.length
    · have h2' : ((m.minm.next.length : Int) = (m.next.length : Int)) = True := eq_true (by omega)
      have h2'' := eq_true h2
      have e := mnlb_t.2 ⟨h0, hi.1 ⟨h1, h2⟩⟩
      rw [e]
      simp [-List.map_map, hv, hR, hM, h1', h2', h1'', h2'']
    · have h2' : ((m.minm.next.length : Int) = (m.next.length : Int)) = False := eq_false (by omega)
      have h2'' := eq_false h2
      have e := mnlb_f (m := m) fun h => h2 (hi.2 h.2).2
      rw [e]
      simp [-List.map_map, hv, hR, hM, h1', h2', h1'', h2'']
  · have h1' : (((m.places m.start).length : Int) = (m.next.length : Int)) = False := eq_false (by omega)
    have h1'' := eq_false h1
    have e := mnlb_f (m := m) fun h => h1 (hi.2 h.2).1
    rw [e]
    simp [-List.map_map, hv, hR, hM, h1', h1'']
/-- Where an earlier state of the same class stands. -/
theorem rnd_hit {m : Mly} {c : List Int} {s t : Nat} (ht : t < s) (e : sgn m c (t : Int) = sgn m c (s : Int)) : ∃ n : Nat, sgI (sgn m c (s : Int)) 0 (rnd m c s).1 = some n ∧ ix (rnd m c s).2 (t : Int) = (n : Int) := by
  obtain ⟨_, h2, h3⟩ := rnd_can (m := m) (c := c) (s := s)
  obtain ⟨n, e1, e2⟩ := h3 t ht
  rw [e] at e2
  cases hI : sgI (sgn m c (s : Int)) 0 (rnd m c s).1 with
  | none => exact absurd (List.mem_of_getElem? e2) (sgI_none hI)
  | some k =>
    obtain ⟨_, _, k3⟩ := sgI_some hI
    rw [Nat.sub_zero] at k3
    obtain ⟨hn, e2⟩ := List.getElem?_eq_some_iff.1 e2
    obtain ⟨hk, k3⟩ := List.getElem?_eq_some_iff.1 k3
    have := (List.getElem_inj h2).1 (e2.trans k3.symm)
    subst this
    exact ⟨n, rfl, e1⟩
theorem rnd_old {m : Mly} {c : List Int} {s n : Nat} (h : sgI (sgn m c (s : Int)) 0 (rnd m c s).1 = some n) : ∃ t : Nat, t < s ∧ sgn m c (t : Int) = sgn m c (s : Int) := by
  obtain ⟨h1, h2, h3⟩ := rnd_can (m := m) (c := c) (s := s)
  obtain ⟨_, k2, k3⟩ := sgI_some h
  rw [Nat.sub_zero] at k3
  obtain ⟨t, ht, e⟩ := List.mem_iff_getElem.1 (h1.occ (n : Int) (by omega) (by omega))
  have hl := (rnd_len (m := m) (c := c) (s := s)).1
  obtain ⟨k, e1, e2⟩ := h3 t (by omega)
  rw [ix_nat ht, e] at e1
  have : k = n := by omega
  subst this
  rw [k3] at e2
  exact ⟨t, by omega, (Option.some.inj e2).symm⟩
/-- What is found from state T on. -/
def fnf (m : Mly) (c : List Int) (s T : Nat) : Int := if ((List.range s).any fun (t : Nat) => decide (T ≤ t) && decide (sgn m c (t : Int) = sgn m c (s : Int))) = true then (((sgI (sgn m c (s : Int)) 0 (rnd m c s).1).getD 0 : Nat) : Int) else -1
theorem fnf_any {s T : Nat} {p : Nat → Prop} [DecidablePred p] : ((List.range s).any fun (t : Nat) => decide (T ≤ t) && decide (p t)) = true ↔ ∃ t : Nat, t < s ∧ T ≤ t ∧ p t := by simp
theorem fnf_top {m : Mly} {c : List Int} {s : Nat} : fnf m c s s = -1 := by
  unfold fnf
  rw [if_neg]
  rw [fnf_any (p := fun t => sgn m c ((t : Nat) : Int) = sgn m c (s : Int))]
  rintro ⟨t, h1, h2, _⟩; omega
theorem fnf_yes {m : Mly} {c : List Int} {s T : Nat} (h : T < s) (e : sgn m c (T : Int) = sgn m c (s : Int)) : fnf m c s T = ix (rnd m c s).2 (T : Int) := by
  obtain ⟨n, h1, h2⟩ := rnd_hit h e
  unfold fnf
  rw [if_pos ((fnf_any (p := fun t => sgn m c ((t : Nat) : Int) = sgn m c (s : Int))).2 ⟨T, h, Nat.le_refl _, e⟩), h1, h2]; rfl
theorem fnf_no {m : Mly} {c : List Int} {s T : Nat} (h : T < s) (e : sgn m c (T : Int) ≠ sgn m c (s : Int)) : fnf m c s T = fnf m c s (T + 1) := by
  unfold fnf
  have : (((List.range s).any fun (t : Nat) => decide (T ≤ t) && decide (sgn m c (t : Int) = sgn m c (s : Int))) = true) ↔ (((List.range s).any fun (t : Nat) => decide (T + 1 ≤ t) && decide (sgn m c (t : Int) = sgn m c (s : Int))) = true) := by
    rw [fnf_any (p := fun t => sgn m c ((t : Nat) : Int) = sgn m c (s : Int)), fnf_any (p := fun t => sgn m c ((t : Nat) : Int) = sgn m c (s : Int))]
    constructor
    · rintro ⟨t, h1, h2, h3⟩
      exact ⟨t, h1, by rcases Nat.eq_or_lt_of_le h2 with e' | h'; · subst e'; exact absurd h3 e
                       · exact h', h3⟩
    · rintro ⟨t, h1, h2, h3⟩; exact ⟨t, h1, by omega, h3⟩
  by_cases hc : ((List.range s).any fun (t : Nat) => decide (T ≤ t) && decide (sgn m c (t : Int) = sgn m c (s : Int))) = true
  · rw [if_pos hc, if_pos (this.1 hc)]
  · rw [if_neg hc, if_neg fun h => hc (this.2 h)]
theorem fnf_rnd {m : Mly} {c : List Int} {s : Nat} : (0 ≤ fnf m c s 0 ∧ (rnd m c (s + 1)).2 = (rnd m c s).2 ++ [fnf m c s 0] ∧ (rnd m c (s + 1)).1 = (rnd m c s).1) ∨ (fnf m c s 0 = -1 ∧ (rnd m c (s + 1)).2 = (rnd m c s).2 ++ [((rnd m c s).1.length : Int)] ∧ (rnd m c (s + 1)).1.length = (rnd m c s).1.length + 1) := by
  unfold fnf
  cases hI : sgI (sgn m c (s : Int)) 0 (rnd m c s).1 with
  | some n =>
    left
    obtain ⟨t, h1, h2⟩ := rnd_old hI
    rw [if_pos ((fnf_any (p := fun t => sgn m c ((t : Nat) : Int) = sgn m c (s : Int))).2 ⟨t, h1, by omega, h2⟩)]
    refine ⟨by simp, ?_, ?_⟩
    · show (match sgI (sgn m c (s : Int)) 0 (rnd m c s).1 with | some n => _ | none => _ : List (List Int) × List Int).2 = _
      rw [hI]; rfl
    · show (match sgI (sgn m c (s : Int)) 0 (rnd m c s).1 with | some n => _ | none => _ : List (List Int) × List Int).1 = _
      rw [hI]
  | none =>
    right
    have hno : ¬ ((List.range s).any fun (t : Nat) => decide (0 ≤ t) && decide (sgn m c (t : Int) = sgn m c (s : Int))) = true := fun h => by
      obtain ⟨t, h1, _, h2⟩ := (fnf_any (p := fun t => sgn m c ((t : Nat) : Int) = sgn m c (s : Int))).1 h
      obtain ⟨n, h3, _⟩ := rnd_hit h1 h2
      rw [hI] at h3; simp at h3
    rw [if_neg hno]
    refine ⟨rfl, ?_, ?_⟩
    · show (match sgI (sgn m c (s : Int)) 0 (rnd m c s).1 with | some n => _ | none => _ : List (List Int) × List Int).2 = _
      rw [hI]
    · show (match sgI (sgn m c (s : Int)) 0 (rnd m c s).1 with | some n => _ | none => _ : List (List Int) × List Int).1.length = _
      rw [hI]; simp
/-- The first a inputs tell nothing. -/
def Sam (m : Mly) (c : List Int) (s t : Int) (a : Nat) : Prop := ix c s = ix c t ∧ ∀ x : Nat, x < a → ix (ix m.out s) (x : Int) = ix (ix m.out t) (x : Int) ∧ ix c (ix (ix m.next s) (x : Int)) = ix c (ix (ix m.next t) (x : Int))
theorem sam_sgn {m : Mly} (hm : m.Ok) {c : List Int} {s t : Nat} (hs : s < m.next.length) (ht : t < m.next.length) (h : Sam m c (s : Int) (t : Int) m.inputs.toNat) : sgn m c (s : Int) = sgn m c (t : Int) := by
  have r1 := hm.row (s : Int) (by omega) (by omega)
  have r2 := hm.row (t : Int) (by omega) (by omega)
  rw [sgn_iff hm hs ht]
  refine ⟨ix_ext (by omega) fun x x0 x1 => ?_, ix_ext (by simp; omega) fun x x0 x1 => ?_⟩
  · obtain ⟨x, rfl⟩ := Int.eq_ofNat_of_zero_le x0
    exact (h.2 x (by omega)).1
  · rw [List.length_map] at x1
    obtain ⟨x, rfl⟩ := Int.eq_ofNat_of_zero_le x0
    rw [ix_map (by omega) (by omega), ix_map (by omega) (by omega)]
    exact (h.2 x (by omega)).2
theorem sgn_sam {m : Mly} (hm : m.Ok) {c : List Int} {s t : Nat} (hs : s < m.next.length) (ht : t < m.next.length) (h : sgn m c (s : Int) = sgn m c (t : Int)) {x : Nat} (hx : (x : Int) < m.inputs) : ix (ix m.out (s : Int)) (x : Int) = ix (ix m.out (t : Int)) (x : Int) ∧ ix c (ix (ix m.next (s : Int)) (x : Int)) = ix c (ix (ix m.next (t : Int)) (x : Int)) := by
  have r1 := hm.row (s : Int) (by omega) (by omega)
  have r2 := hm.row (t : Int) (by omega) (by omega)
  rw [sgn_iff hm hs ht] at h
  refine ⟨by rw [h.1], ?_⟩
  have e1 : ix ((ix m.next (s : Int)).map fun t => ix c t) (x : Int) = ix c (ix (ix m.next (s : Int)) (x : Int)) := ix_map (by omega) (by omega)
  have e2 : ix ((ix m.next (t : Int)).map fun t => ix c t) (x : Int) = ix c (ix (ix m.next (t : Int)) (x : Int)) := ix_map (by omega) (by omega)
  rw [← e1, ← e2, h.2]
structure SamI (m : Mly) (c : List Int) (s t : Nat) (p : Nat × Bool) : Prop where
  le : (p.1 : Int) ≤ m.inputs
  yes : p.2 = true → Sam m c (s : Int) (t : Int) p.1
  no : p.2 = false → sgn m c (t : Int) ≠ sgn m c (s : Int)
theorem finer_l (m : Mly) (hm : m.Ok) (c : List Int) (hc : c.length = m.next.length) (hr : Rfi m c) : L F_ref08_finer [m.av, iL c] [] = some (.sl 0 m.next.length 0 m.next.length, [louI (rnd m c m.next.length).2]) := by
  refine LX_eq (go_ref08_finer rfl ?_)
  have hst := hm.states
  have hin := hm.inputs
  have hml := hm.len
  simp [-More_nor]
  refine W_iter (fun s : Nat => [(2, .int s), (7, .sl 0 s 0 s), (9, .int (rnd m c s).1.length)]) (fun s => [louI (rnd m c s).2]) (fun s => s ≤ m.next.length) (fun s => m.next.length - s) 0 (by simp [sets, rnd]) (by omega) ?_
  intro s s1
  have hrl := rnd_len (m := m) (c := c) (s := s)
  by_cases hs : s < m.next.length
  · have hs' : ((s : Int) < (c.length : Int)) = True := eq_true (by omega)
    have hs'' : (s < c.length) = True := eq_true (by omega)
    have hrs := hm.row (s : Int) (by omega) (by omega)
    have hsn : (s : Int) < (m.next.length : Int) := by omega
    have hso : (s : Int) < (m.out.length : Int) := by omega
    have hf0 := fnf_rnd (m := m) (c := c) (s := s)
    simp [-More_nor, hs', hs'']
    refine ⟨by omega, ?_⟩
    refine W_iter (fun T : Nat => [(3, .int ((T : Int) - 1)), (8, .int (fnf m c s T))]) (fun _ => [louI (rnd m c s).2]) (fun T => T ≤ s) (fun T => T) s (by simp [sets, fnf_top]) (by omega) ?_
    intro T T1
    by_cases hT : 0 < T
    · obtain ⟨t, rfl⟩ : ∃ t, T = t + 1 := ⟨T - 1, by omega⟩
      have et : (((t + 1 : Nat) : Int) - 1) = (t : Int) := by omega
      have htn : (t : Int) < (m.next.length : Int) := by omega
      have hto : (t : Int) < (m.out.length : Int) := by omega
      have htc : ((t : Int) < (c.length : Int)) = True := eq_true (by omega)
      have htc' : (t < c.length) = True := eq_true (by omega)
      have hrt := hm.row (t : Int) (by omega) (by omega)
      rw [et]
      simp [-More_nor, hs', hs'', htc, htc']
      refine W_iter (fun p : Nat × Bool => [(4, .int p.1), (6, .bool p.2)]) (fun _ => [louI (rnd m c s).2]) (fun p => SamI m c s t p) (fun p => (m.inputs - p.1).toNat) (0, decide (ix c (s : Int) = ix c (t : Int))) (by simp [sets]) ⟨by show (0 : Int) ≤ m.inputs; omega, fun h => ⟨by simpa using h, fun x hx => by omega⟩, fun h e => by have := hr t s (by omega) (by omega) e; simp at h; exact h this.symm⟩ ?_
      rintro ⟨a, b⟩ ⟨a1, a2, a3⟩
      dsimp only at a1 a2 a3 ⊢
      cases b with
      | false =>
        have hne := a3 rfl
        have hfn := fnf_no (m := m) (c := c) (s := s) (T := t) (by omega) hne
        by_cases ha : (a : Int) < m.inputs
        · simp [-More_nor, ha]
          refine ⟨by omega, More_of t ?_ rfl (by omega) (by omega)⟩
          rw [hfn]; simp
        · simp [-More_nor, ha]
          refine ⟨by omega, More_of t ?_ rfl (by omega) (by omega)⟩
          rw [hfn]; simp
      | true =>
        have hsm := a2 rfl
        by_cases ha : (a : Int) < m.inputs
        · have n1 := hm.nx (s : Int) (a : Int) (by omega) (by omega) (by omega) ha
          have n2 := hm.nx (t : Int) (a : Int) (by omega) (by omega) (by omega) ha
          have n1c : ix (ix m.next (s : Int)) (a : Int) < (c.length : Int) := by omega
          have n2c : ix (ix m.next (t : Int)) (a : Int) < (c.length : Int) := by omega
          have hsn' : s < m.next.length := by omega
          have hto' : t < m.next.length := by omega
          have hso' : s < m.out.length := by omega
          have hto'' : t < m.out.length := by omega
          by_cases e1 : ix (ix m.out (s : Int)) (a : Int) = ix (ix m.out (t : Int)) (a : Int)
          · have e1' := eq_true e1
            by_cases e2 : ix c (ix (ix m.next (s : Int)) (a : Int)) = ix c (ix (ix m.next (t : Int)) (a : Int))
            · have e2' := eq_true e2
              simp [-More_nor, ha, hrs.1, hrs.2, hrt.1, hrt.2, hsn, hso, htn, hto, hsn', hto', hso', hto'', n1.1, n1c, n2.1, n2c, e1', e2']
              refine ⟨by omega, More_of (a + 1, true) (by simp) rfl ⟨by show ((a + 1 : Nat) : Int) ≤ _; omega, fun _ => ⟨hsm.1, fun x hx => ?_⟩, fun h => by simp at h⟩ (by show _ < _; omega)⟩
              by_cases ex : x = a
              · subst ex; exact ⟨e1, e2⟩
              · exact hsm.2 x (by dsimp only at hx; omega)
            · have e2' := eq_false e2
              simp [-More_nor, ha, hrs.1, hrs.2, hrt.1, hrt.2, hsn, hso, htn, hto, hsn', hto', hso', hto'', n1.1, n1c, n2.1, n2c, e1', e2']
              refine ⟨by omega, More_of (a + 1, false) (by simp) rfl ⟨by show ((a + 1 : Nat) : Int) ≤ _; omega, fun h => by simp at h, fun _ e => e2 ?_⟩ (by show _ < _; omega)⟩
              exact (sgn_sam hm (by omega) (by omega) e.symm ha).2
          · have e1' := eq_false e1
            simp [-More_nor, ha, hrs.1, hrs.2, hrt.1, hrt.2, hsn, hso, htn, hto, hsn', hto', hso', hto'', n1.1, n1c, n2.1, n2c, e1']
            refine ⟨by omega, More_of (a + 1, false) (by simp) rfl ⟨by show ((a + 1 : Nat) : Int) ≤ _; omega, fun h => by simp at h, fun _ e => e1 ?_⟩ (by show _ < _; omega)⟩
            exact (sgn_sam hm (by omega) (by omega) e.symm ha).1
        · have ea : a = m.inputs.toNat := by omega
          subst ea
          have hse := sam_sgn hm (s := s) (t := t) (by omega) (by omega) hsm
          have hfn := fnf_yes (m := m) (c := c) (s := s) (T := t) (by omega) hse.symm
          have hi' : (((m.inputs.toNat : Nat) : Int) < m.inputs) = False := eq_false (by omega)
          have hrc : (t : Int) < ((rnd m c s).2.length : Int) := by omega
          have hlv : (if (rnd m c s).2 = [] then BSt.nul else BSt.live) = .live := by rw [if_neg]; intro e; rw [e] at hrl; simp at hrl; omega
          have hts : t < s := by omega
          simp [-More_nor, -Int.ofNat_toNat, hi', hrc, hlv, hrl.1, hts]
          refine ⟨by omega, More_of t ?_ rfl (by omega) (by omega)⟩
          rw [hfn]; simp
    · have : T = 0 := by omega
      subst this
      rcases hf0 with ⟨f1, f2, f3⟩ | ⟨f1, f2, f3⟩
      · have f1' : (fnf m c s 0 < 0) = False := eq_false (by omega)
        simp [-More_nor, f1', hrl.1]
        refine ⟨by split <;> rfl, by omega, by omega, More_of (s + 1) (by simp [f3]) ?_ (by omega) (by omega)⟩
        rw [f2]
        simp
      · rw [f1]
        simp [-More_nor, hrl.1]
        refine ⟨by omega, by split <;> rfl, by omega, by omega, More_of (s + 1) (by simp [f3]) ?_ (by omega) (by omega)⟩
        rw [f2]
        simp
  · have : s = m.next.length := by omega
    subst this
    have hs' : ((m.next.length : Int) < (c.length : Int)) = False := eq_false (by omega)
    have hs'' : (m.next.length < c.length) = False := eq_false (by omega)
    simp [hs', hs'']
end Ab
namespace Ab
theorem States_s (m : Mly) (h : m.fits) (hv : m.validE = 0) (s t : Int) (hs : 0 ≤ s ∧ s < (m.next.length : Int)) (ht : 0 ≤ t ∧ t < (m.next.length : Int)) : PC F_equiv_States [m.av, .int s, .int t] = some (.tup [iL ((dist m m s t).getD []), .bool (dist m m s t).isSome, .int 0]) := by
  refine PCx_of (go_equiv_States rfl ?_)
  have hV := mValid_s m h
  rw [hv] at hV
  have hm := mvalidE_ok hv
  have hS := search_s m m hm hm rfl s t hs ht
  have h1 : (s < 0) = False := eq_false (by omega)
  have h2 : (t < 0) = False := eq_false (by omega)
  have h3 : ((m.next.length : Int) ≤ s) = False := eq_false (by omega)
  have h4 : ((m.next.length : Int) ≤ t) = False := eq_false (by omega)
  simp [hV, hS, h1, h2, h3, h4]
theorem wordE_nul {w : List Int} {k : Int} (h1 : 1 ≤ k ∧ k ≤ 1024) (h2 : (w.length : Int) ≤ 1024) (h3 : ∀ x ∈ w, 0 ≤ x ∧ x < k) : wordE w k = 0 := by
  unfold wordE
  rw [if_neg (by omega), if_neg (by omega), if_neg (by rw [bad_f.2 h3]; simp)]
noncomputable def hwA (m : Mly) : List Int × Int := if m.validE ≠ 0 then ([], m.validE) else if m.mnlb = true then (m.hwd m.next.length [], 0) else ([], 1)
/-- What holds while the word grows. -/
structure HwI (m : Mly) (R : List Int) (p : Nat × List Int) : Prop where
  eq : m.hwd (m.next.length - p.1) p.2 = R
  cnt : p.1 + 1 ≤ m.cnt p.2
  sym : ∀ x ∈ p.2, 0 ≤ x ∧ x < m.inputs
  len : p.2.length ≤ 64 * p.1
theorem HwI.init {m : Mly} (hm : m.Ok) : HwI m (m.hwd m.next.length []) (0, []) := by
  have := hm.states
  exact ⟨rfl, cnt_pos (by omega), by simp, by simp⟩
theorem HwI.step {m : Mly} (hm : Mnl m) (hn : m.next.length ≤ 8) {R : List Int} {i : Nat} {w : List Int} (h : HwI m R (i, w)) (ho : m.hop w ≠ []) : ∃ v, dist m m (ix (m.hop w) 0) (ix (m.hop w) 1) = some v ∧ HwI m R (i + 1, w ++ v) ∧ i + 2 ≤ m.next.length ∧ w.length + v.length ≤ 1024 ∧ v ≠ [] := by
  have hsym : ∀ x ∈ w, 0 ≤ x ∧ x < m.inputs := h.sym
  obtain ⟨v, h1, h2, h3, h4⟩ := hom_step hm hsym ho
  have hc := h.cnt
  have hle := cnt_le (m := m) (w := w ++ v)
  have hl := h.len
  have h64 : m.next.length * m.next.length ≤ 64 := Nat.mul_le_mul hn hn
  dsimp only at hc hl
  have e := h.eq
  dsimp only at e
  obtain ⟨j, hj⟩ : ∃ j, m.next.length - i = j + 1 := ⟨m.next.length - i - 1, by omega⟩
  rw [hj] at e
  unfold Mly.hwd at e
  rw [if_neg ho, h1, Option.getD_some] at e
  refine ⟨v, h1, ⟨?_, by dsimp only; omega, h2, by dsimp only; rw [List.length_append]; omega⟩, by omega, by omega, fun e => by rw [e, List.append_nil] at h4; omega⟩
  dsimp only
  rw [show m.next.length - (i + 1) = j by omega]
  exact e
theorem HwI.stop {m : Mly} {R : List Int} {i : Nat} {w : List Int} (h : HwI m R (i, w)) (ho : m.hop w = []) : w = R := by
  have e := h.eq
  dsimp only at e
  rw [← e]
  cases m.next.length - i with
  | zero => rfl
  | succ f => unfold Mly.hwd; rw [if_pos ho]
theorem Word_s (m : Mly) (h : m.fits) (hn : m.validE = 0 → m.next.length ≤ 8) : PC F_homing_Word [m.av] = some (.tup [iL (hwA m).1, .int (hwA m).2]) := by
  refine PCx_of (go_homing_Word rfl ?_)
  have hv := mValid_s m h
  by_cases h0 : m.validE = 0
  case neg =>
    have e : hwA m = ([], m.validE) := by unfold hwA; rw [if_pos h0]
    rw [e]
    simp [hv, h0]
  rw [h0] at hv
  have hmi := Minimal_s m h
  cases hb : m.mnlb with
  | false =>
    have e : hwA m = ([], 1) := by unfold hwA; rw [if_neg (by simpa using h0), if_neg (by rw [hb]; simp)]
    rw [e]
    rw [hb] at hmi
    simp [hv, hmi]
  | true =>
    have e : hwA m = (m.hwd m.next.length [], 0) := by unfold hwA; rw [if_neg (by simpa using h0), if_pos hb]
    rw [e]
    rw [hb] at hmi
    have hM := (mnlb_t.1 hb).2
    have hm := hM.ok
    have hin := hm.inputs
    have hst := hm.states
    have hn' := hn h0
    simp [-More_nor, hv, hmi]
    refine W_iter (fun p : Nat × List Int => [(3, wB (true, p.2))]) (fun _ => []) (fun p => HwI m (m.hwd m.next.length []) p) (fun p => m.next.length - p.1) (0, []) (by simp [sets, wB]) (HwI.init hm) ?_
    rintro ⟨i, w⟩ hI
    have hwl := hI.len
    have hsym : ∀ x ∈ w, 0 ≤ x ∧ x < m.inputs := hI.sym
    dsimp only at hwl ⊢
    have hile : i ≤ 8 := by have := hI.cnt; have h1 : i + 1 ≤ m.cnt w := hI.cnt; have := cnt_le (m := m) (w := w); omega
    have hwe : wordE w m.inputs = 0 := wordE_nul ⟨by omega, by omega⟩ (by omega) hsym
    have hg := groups_s m h h0 w hwe
    have ho := open_s m (by omega) w
    have hwk : wk (wB (true, w)) = iL w := by
      rcases wB_cases (true, w) with ⟨e1, e2⟩ | e1
      · rw [e1]; have : w = [] := e2; subst this; rfl
      · rw [e1]; rfl
    have hvw : ∀ σ, view σ false vd (wB (true, w)) = some (iL w) := fun σ => by
      rcases wB_cases (true, w) with ⟨e1, e2⟩ | e1
      · rw [e1]; have : w = [] := e2; subst this; rfl
      · rw [e1]; rfl
    rcases opi_hop m w with ⟨h1, h2⟩ | ⟨k, k1, k2, k3, k4⟩
    · have hR := hI.stop h2
      rw [h1] at ho
      rw [← hR]
      simp [-List.map_map, -More_nor, hwk, hg, ho, hvw, noLoc_wB]
    · obtain ⟨v, v1, v2, v3, v4, v5⟩ := hI.step hM hn' k4
      obtain ⟨⟨t1, t2, t3⟩, t4, t5, _⟩ := hop_two hm hsym k4
      have hS := States_s m h h0 _ _ t1 t2
      rw [v1] at hS
      rw [k3] at hS t4
      rw [k2] at ho
      generalize m.grps w = G at *
      have hk0 : ((k : Int) < 0) = False := eq_false (by omega)
      have hl0 : 0 < (ix G (k : Int)).2.length := by omega
      have hl1 : (1 : Int) < ((ix G (k : Int)).2.length : Int) := by omega
      have hj := Join_s [(true, w), (false, v)] (by simp) (by simp [cat]; omega)
      have hj' : PC F_word_Join [.imm false [wB (true, w), iL v]] = some (iL (w ++ v)) := by
        have e1 : [(true, w), (false, v)].map wB = [wB (true, w), iL v] := by simp [wB]
        have e2 : cat [(true, w), (false, v)] = w ++ v := by simp [cat]
        rwa [e1, e2] at hj
      have hlen : ((1024 : Int) < ((w ++ v).length : Int)) = False := eq_false (by rw [List.length_append]; omega)
      have hwn : w ++ v ≠ [] := fun e => v5 (List.append_eq_nil_iff.1 e).2
      generalize hWV : w ++ v = WV at *
      have hwb : wB (true, WV) = iL WV := by unfold wB; rw [if_neg (by simpa using hwn)]
      simp [-List.map_map, -More_nor, hwk, hg, ho, gav, k1, hk0, hl0, hl1, hS, noLoc_wB, hj', hlen]
      refine ⟨⟨by rw [cells_wB]; rfl, notUnd_wB _⟩, More_of (i + 1, WV) (by simp [hwb]) rfl v2 (by dsimp only; omega)⟩
end Ab
