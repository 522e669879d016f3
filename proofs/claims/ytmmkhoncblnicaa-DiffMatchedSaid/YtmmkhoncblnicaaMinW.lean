/- minimize.Min. Condition: none. -/
import Derived.Test.YtmmkhoncblnicaaTrimW
import Derived.Test.YtmmkhoncblnicaaMinE
set_option linter.all false
set_option maxRecDepth 100000
set_option maxHeartbeats 400000
namespace Ab
/-- Where the rows of the minimal machine lie. -/
def mN (j : Nat) : Nat := if j = 0 then 2 else 2 * j + 4
def mO (j : Nat) : Nat := if j = 0 then 4 else 2 * j + 5
def mtw (A O : List (List Int)) : List Blk := (List.zip A O).flatMap fun p => [Zb p.1, Zb p.2]
theorem mtw_len : ∀ {A O : List (List Int)}, A.length = O.length → (mtw A O).length = 2 * A.length
  | [], [], _ => rfl
  | a :: A, o :: O, h => by
    have := mtw_len (A := A) (O := O) (by simpa using h)
    simp [mtw] at this ⊢; omega
theorem mtw_snoc {A O : List (List Int)} {a o : List Int} (h : A.length = O.length) : mtw (A ++ [a]) (O ++ [o]) = mtw A O ++ [Zb a, Zb o] := by
  unfold mtw
  rw [List.zip_append h]; simp
theorem mtw_N : ∀ {A O : List (List Int)} {j : Nat}, A.length = O.length → j < A.length → blk (mtw A O) (2 * j) = some (Zb (ix A (j : Int))) ∧ blk (mtw A O) (2 * j + 1) = some (Zb (ix O (j : Int)))
  | a :: A, o :: O, 0, h, _ => ⟨rfl, rfl⟩
  | a :: A, o :: O, j + 1, h, hj => by
    have := mtw_N (A := A) (O := O) (j := j) (by simpa using h) (by simpa using hj)
    have e1 : ix (a :: A) ((j + 1 : Nat) : Int) = ix A (j : Int) := by simp [ix]
    have e2 : ix (o :: O) ((j + 1 : Nat) : Int) = ix O (j : Int) := by simp [ix]
    rw [e1, e2]
    exact this
/-- The store while the minimal machine is made. -/
def mnS (inp : Int) (K : Nat) (N O : List (List Int)) : List Blk := match N, O with
  | a :: A, o :: O => ⟨some 4, [.int 0, .int 0, .snil, .snil], .live⟩ :: ⟨some 4, [.int inp, .int 0, .sl 3 (A.length + 1) 0 (A.length + 1), .sl 5 (A.length + 1) 0 (A.length + 1)], .live⟩ :: Zb a :: ⟨none, rws 0 mN (A.length + 1) K, .live⟩ :: Zb o :: ⟨none, rws 0 mO (A.length + 1) K, .live⟩ :: mtw A O
  | _, _ => [⟨some 4, [.int 0, .int 0, .snil, .snil], .live⟩, ⟨some 4, [.int inp, .int 0, .snil, .snil], .live⟩]
theorem mnS_cons {inp : Int} {K : Nat} {a o : List Int} {A O : List (List Int)} : mnS inp K (a :: A) (o :: O) = ⟨some 4, [.int 0, .int 0, .snil, .snil], .live⟩ :: ⟨some 4, [.int inp, .int 0, .sl 3 (A.length + 1) 0 (A.length + 1), .sl 5 (A.length + 1) 0 (A.length + 1)], .live⟩ :: Zb a :: ⟨none, rws 0 mN (A.length + 1) K, .live⟩ :: Zb o :: ⟨none, rws 0 mO (A.length + 1) K, .live⟩ :: mtw A O := rfl
theorem mnS_nil {inp : Int} {K : Nat} : mnS inp K [] [] = [⟨some 4, [.int 0, .int 0, .snil, .snil], .live⟩, ⟨some 4, [.int inp, .int 0, .snil, .snil], .live⟩] := rfl
theorem mnS_rows {B0 B1 : Blk} {K : Nat} {a o : List Int} {A O : List (List Int)} (hAO : A.length = O.length) (hA : ∀ x ∈ a :: A, x.length = K) (hO : ∀ x ∈ o :: O, x.length = K) : RowsAt (B0 :: B1 :: Zb a :: ⟨none, rws 0 mN (A.length + 1) K, .live⟩ :: Zb o :: ⟨none, rws 0 mO (A.length + 1) K, .live⟩ :: mtw A O) 3 mN (a :: A) ∧ RowsAt (B0 :: B1 :: Zb a :: ⟨none, rws 0 mN (A.length + 1) K, .live⟩ :: Zb o :: ⟨none, rws 0 mO (A.length + 1) K, .live⟩ :: mtw A O) 5 mO (o :: O) := by
  refine ⟨⟨?_, fun j hj => ?_⟩, ⟨?_, fun j hj => ?_⟩⟩
  · show some (Blk.mk none (rws 0 mN (A.length + 1) K) .live) = _
    unfold rws
    congr 2
    refine List.map_congr_left fun j hj => ?_
    have := hA _ (ix_mem (l := a :: A) (n := (j : Int)) (by omega) (by simp at hj ⊢; omega))
    rw [this]; rfl
  · cases j with
    | zero => rfl
    | succ j =>
      have e : mN (j + 1) = 2 * j + 6 := by unfold mN; rw [if_neg (by omega)]; omega
      rw [e]
      show blk (mtw A O) (2 * j) = _
      rw [(mtw_N hAO (by simpa using hj)).1]
      simp [ix]
  · show some (Blk.mk none (rws 0 mO (A.length + 1) K) .live) = _
    unfold rws
    rw [hAO]
    congr 2
    refine List.map_congr_left fun j hj => ?_
    have := hO _ (ix_mem (l := o :: O) (n := (j : Int)) (by omega) (by simp at hj ⊢; omega))
    rw [this]; rfl
  · cases j with
    | zero => rfl
    | succ j =>
      have e : mO (j + 1) = 2 * j + 7 := by unfold mO; rw [if_neg (by omega)]; omega
      rw [e]
      show blk (mtw A O) (2 * j + 1) = _
      rw [(mtw_N hAO (by simp at hj; omega)).2]
      simp [ix]
/-- The row that grows. -/
abbrev rwB (l : List Int) : Blk := ⟨none, l.map .int, if l = [] then .nul else .live⟩
def minA (m : Mly) : Mly × Int := if m.validE ≠ 0 then (⟨0, 0, [], []⟩, m.validE) else (m.minm, 0)
theorem mrows_len {t : Mly} {c : List Int} : ∀ {s : Nat}, (mrows t c s).1.length = (mrows t c s).2.length
  | 0 => rfl
  | s + 1 => by
    unfold mrows
    split
    · exact mrows_len
    · simp [mrows_len]
theorem mrows_le {t : Mly} {c : List Int} : ∀ {s : Nat}, (mrows t c s).1.length ≤ s
  | 0 => Nat.le_refl 0
  | s + 1 => by
    have := mrows_le (t := t) (c := c) (s := s)
    unfold mrows
    split
    · omega
    · simp; omega
/-- The row of a class, as far as it is made. -/
def rwP (c l : List Int) (x : Nat) : List Int := (l.take x).map fun n => ix c n
theorem rwP_len {c l : List Int} {x : Nat} (h : x ≤ l.length) : (rwP c l x).length = x := by simp [rwP]; omega
theorem rwP_succ {c l : List Int} {x : Nat} (h : x < l.length) : rwP c l (x + 1) = rwP c l x ++ [ix c (ix l (x : Int))] := by
  unfold rwP
  rw [List.take_add_one, List.getElem?_eq_getElem h, List.map_append, ix_nat h]; rfl
theorem rwP_all {c l : List Int} {x : Nat} (h : x = l.length) : rwP c l x = l.map fun n => ix c n := by
  unfold rwP; rw [List.take_of_length_le (by omega)]
theorem rwP_zero {c l : List Int} : rwP c l 0 = [] := rfl
theorem mrows_K {t : Mly} (ht : t.Ok) {c : List Int} (hc : c.length = t.next.length) : ∀ {s : Nat}, s ≤ c.length → (∀ x ∈ (mrows t c s).1, x.length = t.inputs.toNat) ∧ ∀ x ∈ (mrows t c s).2, x.length = t.inputs.toNat
  | 0, _ => ⟨fun x hx => by simp [mrows] at hx, fun x hx => by simp [mrows] at hx⟩
  | s + 1, h => by
    have ih := mrows_K ht hc (s := s) (by omega)
    have hrow := ht.row (s : Int) (by omega) (by omega)
    unfold mrows
    split
    · exact ih
    · refine ⟨fun x hx => ?_, fun x hx => ?_⟩
      · rcases List.mem_append.1 hx with hx | hx
        · exact ih.1 x hx
        · simp at hx; subst hx; simp; omega
      · rcases List.mem_append.1 hx with hx | hx
        · exact ih.2 x hx
        · simp at hx; subst hx; omega
theorem Min_s (m : Mly) (h : m.fits) : PC F_minimize_Min [m.av] = some (.tup [(minA m).1.av, .int (minA m).2]) := by
  refine PCx_of (go_minimize_Min rfl ?_)
  have hT := Trim_s m h
  by_cases h0 : m.validE = 0
  case neg =>
    have e : minA m = (⟨0, 0, [], []⟩, m.validE) := by unfold minA; rw [if_pos h0]
    have e' : trmA m = (⟨0, 0, [], []⟩, m.validE) := by unfold trmA; rw [if_pos h0]
    rw [e]
    rw [e'] at hT
    simp [hT, h0, res_box4]
  have e : minA m = (m.minm, 0) := by unfold minA; rw [if_neg (by omega)]
  have e' : trmA m = (m.trim, 0) := by unfold trmA; rw [if_neg (by omega)]
  rw [e]
  rw [e'] at hT
  have hm := mvalidE_ok h0
  have ht := trim_ok hm
  have hin := ht.inputs
  have hst := ht.states
  have hml := ht.len
  have hC := Classes_s m.trim (mok_fits ht)
  have hp : prtA m.trim 128 = ((mref m.trim 128).1, 0) := by unfold prtA; rw [if_neg (by have := mok_valid ht; omega)]
  rw [hp] at hC
  obtain ⟨k, hk⟩ := minm_cls hm
  have hcl := hk.len
  have hM : m.minm = m.trim.quo (mref m.trim 128).1 := rfl
  have hMa : m.minm.av = .agg [.int m.trim.inputs, .int 0, iLL (mrows m.trim (mref m.trim 128).1 (mref m.trim 128).1.length).1, iLL (mrows m.trim (mref m.trim 128).1 (mref m.trim 128).1.length).2] := rfl
  rw [hMa]
  generalize (mref m.trim 128).1 = c at *
  generalize m.trim = t at *
  have hrg : ∀ s : Int, 0 ≤ s → s < t.next.length → 0 ≤ ix c s ∧ ix c s < k := fun s s0 s1 => cls_rng hk s0 s1
  simp [-More_nor, hT, hC]
  refine W_iter (fun s : Nat => [(6, .int s)]) (fun s => mnS t.inputs t.inputs.toNat (mrows t c s).1 (mrows t c s).2) (fun s => s ≤ c.length) (fun s => c.length - s) 0 (by simp [sets, mrows, mnS]) (by omega) ?_
  intro s s1
  have hlen := mrows_len (t := t) (c := c) (s := s)
  have hmK := mrows_K ht hcl (s := s) s1
  by_cases hs : s < c.length
  · have hcs := hrg (s : Int) (by omega) (by omega)
    have hrow := ht.row (s : Int) (by omega) (by omega)
    have hsn : (s : Int) < (t.next.length : Int) := by omega
    have hso : (s : Int) < (t.out.length : Int) := by omega
    have hns : ∀ x : Nat, (x : Int) < t.inputs → 0 ≤ ix (ix t.next (s : Int)) (x : Int) ∧ ix (ix t.next (s : Int)) (x : Int) < (c.length : Int) := fun x hx => by
      have := ht.nx (s : Int) (x : Int) (by omega) (by omega) (by omega) hx
      omega
    have hst' : mrows t c (s + 1) = if ix c (s : Int) < ((mrows t c s).1.length : Int) then mrows t c s else ((mrows t c s).1 ++ [(ix t.next (s : Int)).map fun n => ix c n], (mrows t c s).2 ++ [ix t.out (s : Int)]) := rfl
    have hml1 := mrows_le (t := t) (c := c) (s := s)
    generalize mrows t c s = R at *
    obtain ⟨A, O⟩ := R
    dsimp only at hlen hmK hst' hml1 ⊢
    rcases A with _ | ⟨a, A⟩
    · have : O = [] := List.eq_nil_of_length_eq_zero (by simpa using hlen.symm)
      subst this
      rw [mnS_nil]
      have hlt : (ix c (s : Int) < 0) = False := eq_false (by omega)
      rw [if_neg (by simp; omega)] at hst'
      simp [-More_nor, hs, hlt]
      refine ⟨by omega, ?_⟩
      refine W_iter (fun x : Nat => [(12, .int x), (15, .sl (2) x 0 x)]) (fun x => [⟨some 4, [.int 0, .int 0, .snil, .snil], .live⟩, ⟨some 4, [.int t.inputs, .int 0, .snil, .snil], .live⟩, rwB (rwP c (ix t.next (s : Int)) x)]) (fun x => x ≤ t.inputs.toNat) (fun x => t.inputs.toNat - x) 0 (by simp [sets, rwP_zero]) (by omega) ?_
      intro x x1
      have hXl := rwP_len (c := c) (l := ix t.next (s : Int)) (x := x) (by omega)
      by_cases hx : x < t.inputs.toNat
      · have hn := hns x (by omega)
        have hxi : ((x : Int) < t.inputs) = True := eq_true (by omega)
        have hsu := rwP_succ (c := c) (l := ix t.next (s : Int)) (x := x) (by omega)
        have hxb : (x : Int) ≤ 64 := by omega
        rcases x with _ | y
        · have hn1 : 0 ≤ ix (ix t.next (s : Int)) 0 := hn.1
          have hn2 : ix (ix t.next (s : Int)) 0 < (c.length : Int) := hn.2
          have hxi' : (0 < t.inputs) = True := hxi
          simp [-More_nor, -List.map_append, hrow.1, hxi', hn1, hn2, rwP_zero]
          refine More_of 1 (by simp) ?_ (by omega) (by omega)
          rw [hsu, rwP_zero]
          simp
        · generalize rwP c (ix t.next (s : Int)) (y + 1) = X at *
          have hXn : (X = []) = False := eq_false (by intro e; rw [e] at hXl; simp at hXl)
          have hn1 : 0 ≤ ix (ix t.next (s : Int)) ((y : Int) + 1) := hn.1
          have hn2 : ix (ix t.next (s : Int)) ((y : Int) + 1) < (c.length : Int) := hn.2
          have hxi' : ((y : Int) + 1 < t.inputs) = True := hxi
          simp [-More_nor, -List.map_append, hrow.1, hxi', hn1, hn2, hXl, hXn]
          refine ⟨by omega, by omega, by omega, More_of (y + 2) (by simp; omega) ?_ (by omega) (by omega)⟩
          rw [hsu]
          simp
      · have : x = t.inputs.toNat := by omega
        subst this
        have hxi : (((t.inputs.toNat : Nat) : Int) < t.inputs) = False := eq_false (by omega)
        have hXn : (rwP c (ix t.next (s : Int)) t.inputs.toNat = []) = False := eq_false (by intro e; rw [e] at hXl; simp at hXl; omega)
        have hXa := rwP_all (c := c) (l := ix t.next (s : Int)) (x := t.inputs.toNat) (by omega)
        have hno : (ix t.out (s : Int) = []) = False := eq_false (by intro e; rw [e] at hrow; simp at hrow; omega)
        have hol : (ix t.out (s : Int)).length = t.inputs.toNat := by omega
        have hi0 : (t.inputs ≤ 0) = False := eq_false (by omega)
        have hi1 : (0 < t.inputs) = True := eq_true (by omega)
        simp [-More_nor, -Int.ofNat_toNat, hi0, hi1, hrow.1, hrow.2, hxi, hsn, hso, hXl, hXn, hno, hol]
        refine ⟨by omega, by omega, More_of (s + 1) (by simp) ?_ (by omega) (by omega)⟩
        rw [hst', ← hXa]
        rfl
    · rcases O with _ | ⟨o, O⟩
      · simp at hlen
      have hAO : A.length = O.length := by simpa using hlen
      rw [mnS_cons]
      have hT := mtw_len hAO
      have hT2 := mtw_snoc (a := (ix t.next (s : Int)).map fun n => ix c n) (o := ix t.out (s : Int)) hAO
      have hal : A.length + 1 ≤ s := by simpa using hml1
      by_cases hlt : ix c (s : Int) < ((a :: A).length : Int)
      · rw [if_pos hlt] at hst'
        have hlt' : (ix c (s : Int) < (A.length : Int) + 1) = True := eq_true (by simpa using hlt)
        simp [-More_nor, hs, hlt']
        refine ⟨by omega, More_of (s + 1) (by simp) ?_ (by omega) (by omega)⟩
        rw [hst', mnS_cons]
      have hlt' : (ix c (s : Int) < (A.length : Int) + 1) = False := eq_false (by simpa using hlt)
      rw [if_neg hlt] at hst'
      generalize mtw A O = T at *
      simp [-More_nor, hs, hlt']
      refine ⟨by omega, ?_⟩
      refine W_iter (fun x : Nat => [(12, .int x), (15, .sl (T.length + 1 + 1 + 1 + 1 + 1 + 1) x 0 x)]) (fun x => ⟨some 4, [.int 0, .int 0, .snil, .snil], .live⟩ :: ⟨some 4, [.int t.inputs, .int 0, .sl 3 (A.length + 1) 0 (A.length + 1), .sl 5 (A.length + 1) 0 (A.length + 1)], .live⟩ :: Zb a :: ⟨none, rws 0 mN (A.length + 1) t.inputs.toNat, .live⟩ :: Zb o :: ⟨none, rws 0 mO (A.length + 1) t.inputs.toNat, .live⟩ :: (T ++ [rwB (rwP c (ix t.next (s : Int)) x)])) (fun x => x ≤ t.inputs.toNat) (fun x => t.inputs.toNat - x) 0 (by simp [sets, rwP_zero]) (by omega) ?_
      intro x x1
      have hXl := rwP_len (c := c) (l := ix t.next (s : Int)) (x := x) (by omega)
      by_cases hx : x < t.inputs.toNat
      · have hn := hns x (by omega)
        have hxi : ((x : Int) < t.inputs) = True := eq_true (by omega)
        have hsu := rwP_succ (c := c) (l := ix t.next (s : Int)) (x := x) (by omega)
        have hxb : (x : Int) ≤ 64 := by omega
        rcases x with _ | y
        · have hn1 : 0 ≤ ix (ix t.next (s : Int)) 0 := hn.1
          have hn2 : ix (ix t.next (s : Int)) 0 < (c.length : Int) := hn.2
          have hxi' : (0 < t.inputs) = True := hxi
          simp [-More_nor, -List.map_append, hrow.1, hxi', hn1, hn2, rwP_zero, ↓blk_at, ↓setB_at, rws_len]
          refine More_of 1 (by simp) ?_ (by omega) (by omega)
          rw [hsu, rwP_zero]
          simp
        · generalize rwP c (ix t.next (s : Int)) (y + 1) = X at *
          have hXn : (X = []) = False := eq_false (by intro e; rw [e] at hXl; simp at hXl)
          have hn1 : 0 ≤ ix (ix t.next (s : Int)) ((y : Int) + 1) := hn.1
          have hn2 : ix (ix t.next (s : Int)) ((y : Int) + 1) < (c.length : Int) := hn.2
          have hxi' : ((y : Int) + 1 < t.inputs) = True := hxi
          simp [-More_nor, -List.map_append, hrow.1, hxi', hn1, hn2, hXl, hXn, ↓blk_at, ↓setB_at, rws_len]
          refine ⟨by omega, by omega, by omega, More_of (y + 2) (by simp; omega) ?_ (by omega) (by omega)⟩
          rw [hsu]
          simp
      · have : x = t.inputs.toNat := by omega
        subst this
        have hxi : (((t.inputs.toNat : Nat) : Int) < t.inputs) = False := eq_false (by omega)
        have hXn : (rwP c (ix t.next (s : Int)) t.inputs.toNat = []) = False := eq_false (by intro e; rw [e] at hXl; simp at hXl; omega)
        have hXa := rwP_all (c := c) (l := ix t.next (s : Int)) (x := t.inputs.toNat) (by omega)
        have hno : (ix t.out (s : Int) = []) = False := eq_false (by intro e; rw [e] at hrow; simp at hrow; omega)
        have hol : (ix t.out (s : Int)).length = t.inputs.toNat := by omega
        have hi0 : (t.inputs ≤ 0) = False := eq_false (by omega)
        have hi1 : (0 < t.inputs) = True := eq_true (by omega)
        simp [-More_nor, -Int.ofNat_toNat, hi0, hi1, hrow.1, hrow.2, hxi, hsn, hso, hXl, hXn, hno, hol, ↓blk_at, ↓setB_at, rws_len]
        refine ⟨by omega, by omega, by omega, by omega, More_of (s + 1) (by simp) ?_ (by omega) (by omega)⟩
        have e1 : mN (A.length + 1) = T.length + 6 := by unfold mN; rw [if_neg (by omega)]; omega
        have e2 : mO (A.length + 1) = T.length + 7 := by unfold mO; rw [if_neg (by omega)]; omega
        rw [hst', ← hXa]
        rw [← hXa] at hT2
        dsimp only
        rw [List.cons_append, List.cons_append, mnS_cons, hT2, List.length_append, List.length_singleton, rws_succ (n := A.length + 1), rws_succ (n := A.length + 1), e1, e2]
        have hrb : rwB (rwP c (ix t.next (s : Int)) t.inputs.toNat) = Zb (rwP c (ix t.next (s : Int)) t.inputs.toNat) := by
          show (⟨none, (rwP c (ix t.next (s : Int)) t.inputs.toNat).map .int, if rwP c (ix t.next (s : Int)) t.inputs.toNat = [] then .nul else .live⟩ : Blk) = _
          rw [if_neg (by rw [hXn]; exact id)]
        rw [hrb]
  · have : s = c.length := by omega
    subst this
    have hA0 : 0 < (mrows t c c.length).1.length := by
      have h1 : (mrows t c c.length).1.length = k := (quo_at hk).1
      have h2 := hrg 0 (by omega) (by omega)
      omega
    generalize mrows t c c.length = R at *
    obtain ⟨A, O⟩ := R
    dsimp only at hlen hmK hA0 ⊢
    rcases A with _ | ⟨a, A⟩
    · simp at hA0
    rcases O with _ | ⟨o, O⟩
    · simp at hlen
    have hAO : A.length = O.length := by simpa using hlen
    rw [mnS_cons]
    have v1 : ∀ B0 B1, view (B0 :: B1 :: Zb a :: ⟨none, rws 0 mN (A.length + 1) t.inputs.toNat, .live⟩ :: Zb o :: ⟨none, rws 0 mO (A.length + 1) t.inputs.toNat, .live⟩ :: mtw A O) false 11 (.sl 3 (A.length + 1) 0 (A.length + 1)) = some (iLL (a :: A)) := fun B0 B1 => vd_rowsAt (k := 8) (mnS_rows hAO hmK.1 hmK.2).1 rfl
    have v2 : ∀ B0 B1, view (B0 :: B1 :: Zb a :: ⟨none, rws 0 mN (A.length + 1) t.inputs.toNat, .live⟩ :: Zb o :: ⟨none, rws 0 mO (A.length + 1) t.inputs.toNat, .live⟩ :: mtw A O) false 11 (.sl 5 (A.length + 1) 0 (A.length + 1)) = some (iLL (o :: O)) := fun B0 B1 => vd_rowsAt (k := 8) (mnS_rows hAO hmK.1 hmK.2).2 hlen
    simp [res_box4, v1, v2]
end Ab
