/- A copy of a machine. Condition: none. -/
import Derived.Test.YtchamabaodnjkaaMutB
set_option linter.all false
set_option maxRecDepth 100000
set_option maxHeartbeats 4000000
namespace Ab
theorem bE : ∀ (σ : List Blk) (i : Nat), blk σ i = σ[i]?
  | [], i => by simp [blk]
  | x :: r, 0 => rfl
  | x :: r, i + 1 => by simp [blk, bE r i]
theorem sE : ∀ (σ : List Blk) (i : Nat) (B : Blk), setB σ i B = σ.set i B
  | [], i, B => by simp [setB]
  | x :: r, 0, B => rfl
  | x :: r, i + 1, B => by simp [setB, sE r i B]
theorem ClI_s (l : List Int) (h : l ≠ []) (hl : (l.length : Int) ≤ 1000000) : L F_slices_Clone_Sint_int [iL l] [] = some (.sl 0 l.length 0 l.length, [Zb l]) := by
  have h1 : LX L F_slices_Clone_Sint_int [iL l] [] (fun v σ' => v = .sl 0 l.length 0 l.length ∧ σ' = [Zb l]) := by
    refine go_slices_Clone_Sint_int rfl ?_
    have hh : (l.length = 0) = False := eq_false (by simpa using h)
    have hb : ∀ (K : Bool → Prop), bn1 [] (AV.imm false (l.map .int)) K = K false := fun K => by
      cases l with
      | nil => exact absurd rfl h
      | cons x r => exact bn1_cons
    simp [hh, hb]
    omega
  unfold LX at h1
  generalize L F_slices_Clone_Sint_int [iL l] [] = o at *
  cases o with
  | none => exact absurd h1 (by simp [optK])
  | some p => obtain ⟨e1, e2⟩ := h1; rw [← e1, ← e2]
theorem shL_ints {n : Nat} : ∀ l : List Int, shL n (l.map .int) = l.map .int
  | [] => rfl
  | x :: l => by simp only [List.map_cons, shL, shV, shL_ints l]
/-- Where the rows of a copy lie. -/
def pN (j : Nat) : Nat := if j = 0 then 0 else 2 * j + 2
def pO (j : Nat) : Nat := if j = 0 then 2 else 2 * j + 3
def rws (e : Nat) (p : Nat → Nat) (n K : Nat) : List AV := (List.range n).map fun j => .sl (p j + e) K 0 K
theorem rws_succ {e n K : Nat} {p : Nat → Nat} : rws e p (n + 1) K = rws e p n K ++ [.sl (p n + e) K 0 K] := by simp [rws, List.range_succ]
theorem rws_len {e n K : Nat} {p : Nat → Nat} : (rws e p n K).length = n := by simp [rws]
def two (A O : List (List Int)) : List Blk := (List.zip A O).flatMap fun p => [Zb p.1, Zb p.2]
theorem two_len : ∀ {A O : List (List Int)}, A.length = O.length → (two A O).length = 2 * A.length
  | [], [], _ => rfl
  | a :: A, o :: O, h => by
    have := two_len (A := A) (O := O) (by simpa using h)
    simp [two] at this ⊢; omega
abbrev bxM (inp st : Int) (n e : Nat) : Blk := ⟨some 4, [.int inp, .int st, .sl (e + 1) n 0 n, .sl (e + 3) n 0 n], .live⟩
/-- The store while a copy is made. -/
def clS (inp st : Int) (N O : List (List Int)) (K : Nat) : List Blk := match N, O with
  | a :: A, o :: O => ⟨some 4, [.int 0, .int 0, .snil, .snil], .live⟩ :: bxM inp st (A.length + 1) 2 :: Zb a :: ⟨none, rws 2 pN (A.length + 1) K, .live⟩ :: Zb o :: ⟨none, rws 2 pO (A.length + 1) K, .live⟩ :: two A O
  | _, _ => [⟨some 4, [.int 0, .int 0, .snil, .snil], .live⟩, ⟨some 4, [.int inp, .int st, .snil, .snil], .live⟩]
theorem clS_cons {inp st : Int} {a o : List Int} {A O : List (List Int)} {K : Nat} : clS inp st (a :: A) (o :: O) K = ⟨some 4, [.int 0, .int 0, .snil, .snil], .live⟩ :: bxM inp st (A.length + 1) 2 :: Zb a :: ⟨none, rws 2 pN (A.length + 1) K, .live⟩ :: Zb o :: ⟨none, rws 2 pO (A.length + 1) K, .live⟩ :: two A O := rfl
theorem clS_nil {inp st : Int} {K : Nat} : clS inp st [] [] K = [⟨some 4, [.int 0, .int 0, .snil, .snil], .live⟩, ⟨some 4, [.int inp, .int st, .snil, .snil], .live⟩] := rfl
theorem res_box4 {ce : CE} {a b c d : AV} {r : List Blk} : ev ce (⟨some 4, [a, b, c, d], .live⟩ :: r) 0 [] (fun _ => .ptr 0 (kst (some 4)) 0) (.ld (.v 0) (some 4)) = some (.agg [a, b, c, d], none) := (rfl)
theorem two_snoc {A O : List (List Int)} {a o : List Int} (h : A.length = O.length) : two (A ++ [a]) (O ++ [o]) = two A O ++ [Zb a, Zb o] := by
  unfold two
  rw [List.zip_append h]; simp
theorem clone_x (m : Mly) (hm : m.Ok) : LX L F_mutant_clone [m.av] [] (fun v σ' => v = .agg [.int m.inputs, .int m.start, .sl 3 m.next.length 0 m.next.length, .sl 5 m.next.length 0 m.next.length] ∧ ∃ B, σ' = B :: (clS m.inputs m.start m.next m.out m.inputs.toNat).drop 1) := by
  refine go_mutant_clone rfl ?_
  have hin := hm.inputs
  have hst := hm.states
  have hml := hm.len
  have hrow := hm.row
  have hc : ∀ j : Nat, j < m.next.length → L F_slices_Clone_Sint_int [iL (ix m.next (j : Int))] [] = some (.sl 0 m.inputs.toNat 0 m.inputs.toNat, [Zb (ix m.next (j : Int))]) ∧ L F_slices_Clone_Sint_int [iL (ix m.out (j : Int))] [] = some (.sl 0 m.inputs.toNat 0 m.inputs.toNat, [Zb (ix m.out (j : Int))]) := fun j hj => by
    obtain ⟨r1, r2⟩ := hrow j (by omega) (by omega)
    have k1 : (ix m.next (j : Int)).length = m.inputs.toNat := by omega
    have k2 : (ix m.out (j : Int)).length = m.inputs.toNat := by omega
    have h1 := ClI_s (ix m.next (j : Int)) (List.length_pos_iff.1 (by omega)) (by omega)
    have h2 := ClI_s (ix m.out (j : Int)) (List.length_pos_iff.1 (by omega)) (by omega)
    rw [k1] at h1
    rw [k2] at h2
    exact ⟨h1, h2⟩
  obtain ⟨inp, st, N, O⟩ := m
  dsimp only at hin hst hml hc ⊢
  match N, O, hst, hml with
  | a :: A, [], _, h => exact absurd h (by simp; omega)
  | [], _, h, _ => exact absurd h (by simp)
  | a :: A, o :: O, hst, hml =>
  have hAO : A.length = O.length := by simp at hml; omega
  have h01 := hc 0 (by simp)
  rw [show ((0 : Nat) : Int) = 0 from rfl] at h01
  simp
  refine W_iter (fun i : Nat => [(2, .int i)]) (fun i => clS inp st ((a :: A).take i) ((o :: O).take i) inp.toNat) (fun i => i ≤ (a :: A).length) (fun i => (a :: A).length - i) 0 (by simp [sets, clS]) (by simp) ?_
  intro i i0
  match i, i0 with
  | 0, _ =>
    rw [show (a :: A).take 0 = [] from rfl, show (o :: O).take 0 = [] from rfl, clS_nil]
    simp [-More_nor, h01, shV, shB, shL_ints]
    refine More_of 1 (by simp) (by simp [clS_cons, rws, two, pN, pO]; exact ⟨rfl, rfl⟩) (by simp) (by simp)
  | j + 1, i0 =>
    have ht : (A.take j).length = j := by rw [List.length_take, Nat.min_eq_left (by simp at i0; omega)]
    rw [show (a :: A).take (j + 1) = a :: A.take j from rfl, show (o :: O).take (j + 1) = o :: O.take j from rfl, clS_cons, ht]
    by_cases hj : j < A.length
    · obtain ⟨c1, c2⟩ := hc (j + 1) (by simp; omega)
      have e1 : A.take (j + 1) = A.take j ++ [ix (a :: A) ((j + 1 : Nat) : Int)] := by rw [List.take_add_one, List.getElem?_eq_getElem hj, ix_nat (by simp; omega)]; rfl
      have e2 : O.take (j + 1) = O.take j ++ [ix (o :: O) ((j + 1 : Nat) : Int)] := by rw [List.take_add_one, List.getElem?_eq_getElem (by omega), ix_nat (by simp; omega)]; rfl
      have hs2 := two_snoc (A := A.take j) (O := O.take j) (a := ix (a :: A) ((j + 1 : Nat) : Int)) (o := ix (o :: O) ((j + 1 : Nat) : Int)) (by simp; omega)
      rw [← e1, ← e2] at hs2
      rw [show ((j + 1 : Nat) : Int) = (j : Int) + 1 from rfl] at c1 c2 hs2
      have hT := two_len (A := A.take j) (O := O.take j) (by simp; omega)
      rw [ht] at hT
      generalize two (A.take j) (O.take j) = T at *
      have hA' : (A.take (j + 1)).length = j + 1 := by simp; omega
      have hO' : j < O.length := by omega
      have p1 : pN (j + 1) = 2 * j + 4 := by unfold pN; rw [if_neg (by omega)]; omega
      have p2 : pO (j + 1) = 2 * j + 5 := by unfold pO; rw [if_neg (by omega)]; omega
      simp [-More_nor, hj, hO', c1, c2, shV, shB, shL_ints, hT, rws_len]
      refine ⟨by omega, by omega, by omega, by omega, by omega, More_of (j + 2) (by simp; omega) ?_ (by simp; omega) (by omega)⟩
      rw [show (a :: A).take (j + 2) = a :: A.take (j + 1) from rfl, show (o :: O).take (j + 2) = o :: O.take (j + 1) from rfl, clS_cons, hA', hs2, rws_succ (p := pN) (n := j + 1), rws_succ (p := pO) (n := j + 1), p1, p2]
    · have ej : j = A.length := by simp at i0; omega
      subst ej
      rw [List.take_length, hAO, List.take_length, ← hAO]
      simp [res_box4]
      rfl
/-- A copied store, as seen by the caller. -/
structure Cpy (Q : List Blk) (N O : List (List Int)) (K : Nat) : Prop where
  len : Q.length = 2 * N.length + 4
  nl : blk Q 3 = some ⟨none, rws 3 pN N.length K, .live⟩
  ol : blk Q 5 = some ⟨none, rws 3 pO N.length K, .live⟩
  nr : ∀ j : Nat, j < N.length → blk Q (pN j + 2) = some (Zb (ix N (j : Int)))
  or : ∀ j : Nat, j < N.length → blk Q (pO j + 2) = some (Zb (ix O (j : Int)))
theorem two_N : ∀ {A O : List (List Int)} {j : Nat}, A.length = O.length → j < A.length → blk (two A O) (2 * j) = some (Zb (ix A (j : Int))) ∧ blk (two A O) (2 * j + 1) = some (Zb (ix O (j : Int)))
  | a :: A, o :: O, 0, h, _ => ⟨rfl, rfl⟩
  | a :: A, o :: O, j + 1, h, hj => by
    have := two_N (A := A) (O := O) (j := j) (by simpa using h) (by simpa using hj)
    have e1 : ix (a :: A) ((j + 1 : Nat) : Int) = ix A (j : Int) := by simp [ix]
    have e2 : ix (o :: O) ((j + 1 : Nat) : Int) = ix O (j : Int) := by simp [ix]
    rw [e1, e2]
    exact this
theorem shL_rws {e k n K : Nat} {p : Nat → Nat} : shL k (rws e p n K) = rws (e + k) p n K := by
  have : ∀ l : List Nat, shL k (l.map fun i => AV.sl (p i + e) K 0 K) = l.map fun i => AV.sl (p i + (e + k)) K 0 K := by
    intro l
    induction l with
    | nil => rfl
    | cons a l ih => simp only [List.map_cons, shL, shV, ih]; congr 2; omega
  exact this _
theorem shB_two {k : Nat} : ∀ {A O : List (List Int)}, (two A O).map (shB k) = two A O
  | [], _ => by simp [two]
  | _ :: _, [] => by simp [two]
  | a :: A, o :: O => by
    have := shB_two (k := k) (A := A) (O := O)
    unfold two at this ⊢
    rw [List.zip_cons_cons, List.flatMap_cons, List.map_append, this]
    simp [shB, shL_ints]
theorem clone_l (m : Mly) (hm : m.Ok) : ∃ R, L F_mutant_clone [m.av] [] = some (.agg [.int m.inputs, .int m.start, .sl 3 m.next.length 0 m.next.length, .sl 5 m.next.length 0 m.next.length], R) ∧ Cpy (R.map (shB 1)) m.next m.out m.inputs.toNat := by
  have h1 := clone_x m hm
  have hst := hm.states
  have hml := hm.len
  unfold LX at h1
  generalize L F_mutant_clone [m.av] [] = o at *
  cases o with
  | none => exact absurd h1 (by simp [optK])
  | some p =>
    obtain ⟨e1, B, e2⟩ := h1
    refine ⟨p.2, by rw [← e1], ?_⟩
    rw [e2]
    clear e1 e2
    obtain ⟨inp, st, N, O⟩ := m
    dsimp only at hst hml ⊢
    match N, O, hst, hml with
    | a :: A, [], _, h => exact absurd h (by simp; omega)
    | [], _, h, _ => exact absurd h (by simp)
    | a :: A, o :: O, hst, hml =>
      have hAO : A.length = O.length := by simp at hml; omega
      have hT := two_len (A := A) (O := O) hAO
      rw [clS_cons]
      simp only [List.drop_succ_cons, List.drop_zero, List.map_cons, shB_two, shB, shL_rws, shL_ints]
      refine ⟨by simp; omega, rfl, rfl, fun j hj => ?_, fun j hj => ?_⟩
      · match j, hj with
        | 0, _ => rfl
        | j + 1, hj =>
          have := (two_N (j := j) hAO (by simpa using hj)).1
          have e : ix (a :: A) ((j + 1 : Nat) : Int) = ix A (j : Int) := by simp [ix]
          rw [e, ← this, show pN (j + 1) + 2 = 2 * j + 6 by unfold pN; rw [if_neg (by omega)]; omega]
      · match j, hj with
        | 0, _ => rfl
        | j + 1, hj =>
          have := (two_N (j := j) hAO (by simpa using hj)).2
          have e : ix (o :: O) ((j + 1 : Nat) : Int) = ix O (j : Int) := by simp [ix]
          rw [e, ← this, show pO (j + 1) + 2 = (2 * j + 1) + 6 by unfold pO; rw [if_neg (by omega)]; omega]
end Ab
