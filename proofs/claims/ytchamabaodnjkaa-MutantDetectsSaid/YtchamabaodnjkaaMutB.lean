/- The mutations of a transition. Condition: none. -/
import Derived.Test.YtchamabaodnjkaaMutA
set_option linter.all false
set_option maxRecDepth 100000
set_option maxHeartbeats 4000000
namespace Ab
/-- A mutation. -/
structure Mut where
  kind : Int
  st : Int
  inp : Int
  val : Int
  val2 : Int
  deriving Inhabited, DecidableEq
abbrev Mut.av (x : Mut) : AV := .agg [.int x.kind, .int x.st, .int x.inp, .int x.val, .int x.val2]
def uc (x : Mut) : List AV := [.int x.kind, .int x.st, .int x.inp, .int x.val, .int x.val2]
def ucs (xs : List Mut) : List AV := xs.flatMap uc
theorem ucs_len : ∀ {xs : List Mut}, (ucs xs).length = 5 * xs.length
  | [] => rfl
  | x :: xs => by
    have := ucs_len (xs := xs)
    show (uc x ++ ucs xs).length = _
    rw [List.length_append, this]
    show 5 + _ = _
    simp; omega
theorem ucs_app {xs ys : List Mut} : ucs (xs ++ ys) = ucs xs ++ ucs ys := by simp [ucs]
theorem ucs_one {x : Mut} : ucs [x] = uc x := by simp [ucs]
theorem chunk_uc : ∀ {xs : List Mut}, chunk (some 5) xs.length (ucs xs) = xs.map Mut.av
  | [] => rfl
  | x :: xs => by
    have e := chunk_uc (xs := xs)
    rw [List.map_cons, ← e]; rfl
abbrev uB (xs : List Mut) : Blk := ⟨some 5, ucs xs, if xs = [] then .nul else .live⟩
abbrev uS (b : Nat) (xs : List Mut) : AV := .sl b (5 * xs.length) 0 xs.length
abbrev muL (xs : List Mut) : AV := .imm false (xs.map Mut.av)
theorem view_uc {σ : List Blk} {fr : Bool} {b : Nat} {xs : List Mut} (h : blk σ b = some (uB xs)) : view σ fr vd (uS b xs) = some (muL xs) := by
  have hu : upto σ b (5 * xs.length) = some (uB xs) := by
    unfold upto
    rw [h]
    by_cases hx : xs = []
    · subst hx; rfl
    · simp [hx, ucs_len]
  show view σ fr (11 + 1) _ = _
  unfold view
  simp only [hu, kst, ucs_len, List.drop_zero]
  rw [if_pos (by omega), chunk_uc, mapO_mp (f := Mut.av) (g := Mut.av) (v := view σ fr 11)]
  intro x _
  rfl
/-- Values other than one. -/
def pick (k s a b x : Int) (outs : List Int) : List Mut := (outs.filter fun o => decide (o ≠ x)).map fun o => ⟨k, s, a, o, b⟩
theorem pick_take {k s a b x : Int} {outs : List Int} {i : Nat} (h : i < outs.length) : pick k s a b x (outs.take (i + 1)) = pick k s a b x (outs.take i) ++ (if ix outs (i : Int) = x then [] else [⟨k, s, a, ix outs (i : Int), b⟩]) := by
  unfold pick
  rw [List.take_add_one, List.getElem?_eq_getElem h, ix_nat h, List.filter_append, List.map_append]
  by_cases e : outs[i] = x <;> simp [List.filter_cons, e]
theorem pick_len {k s a b x : Int} {outs : List Int} : (pick k s a b x outs).length ≤ outs.length := by
  unfold pick; rw [List.length_map]; exact List.length_filter_le _ _
def nexts (s a t : Int) (n : Nat) : List Mut := ((List.range n).filter fun u => decide (((u : Nat) : Int) ≠ t)).map fun u => ⟨2, s, a, (u : Nat), 0⟩
theorem nexts_succ {s a t : Int} {n : Nat} : nexts s a t (n + 1) = nexts s a t n ++ (if (n : Int) = t then [] else [⟨2, s, a, n, 0⟩]) := by
  unfold nexts
  rw [List.range_succ, List.filter_append, List.map_append]
  by_cases e : (n : Int) = t <;> simp [List.filter_cons, e]
theorem nexts_len {s a t : Int} {n : Nat} : (nexts s a t n).length ≤ n := by
  unfold nexts; rw [List.length_map]
  have := List.length_filter_le (fun u => decide (((u : Nat) : Int) ≠ t)) (List.range n)
  simpa using this
def copies (s a : Int) (row : List Int) (outs : List Int) : Nat → List Mut
  | 0 => []
  | b + 1 => copies s a row outs b ++ pick 3 s a b (ix row (b : Int)) outs
theorem copies_len {s a : Int} {row outs : List Int} : ∀ {n : Nat}, (copies s a row outs n).length ≤ n * outs.length
  | 0 => by simp [copies]
  | n + 1 => by
    have h1 := copies_len (s := s) (a := a) (row := row) (outs := outs) (n := n)
    have h2 := pick_len (k := 3) (s := s) (a := a) (b := n) (x := ix row (n : Int)) (outs := outs)
    simp only [copies, List.length_append, Nat.add_mul]
    omega
/-- The mutations of a transition. -/
def Mly.muts (m : Mly) (s a : Int) (outs : List Int) : List Mut :=
  (pick 1 s a 0 (ix (ix m.out s) a) outs ++ nexts s a (ix (ix m.next s) a) m.next.length) ++ (if 128 ≤ (m.next.length : Int) then [] else copies s a (ix m.out (ix (ix m.next s) a)) outs m.inputs.toNat)
theorem trans_s (m : Mly) (hm : m.Ok) (s a : Int) (hs : 0 ≤ s ∧ s < (m.next.length : Int)) (ha : 0 ≤ a ∧ a < m.inputs) (outs : List Int) (ho : outs.length ≤ 8192) : PC F_mutant_transition [m.av, .int s, .int a, iL outs] = some (muL (m.muts s a outs)) := by
  refine PCx_of (go_mutant_transition rfl ?_)
  have hml := hm.len
  have hst := hm.states
  have hin := hm.inputs
  have hrow := hm.row s hs.1 hs.2
  have hso : s < (m.out.length : Int) := by omega
  have ht := hm.nx s a hs.1 hs.2 ha.1 ha.2
  have hrt := hm.row _ ht.1 ht.2
  generalize hM : m.muts s a outs = M
  unfold Mly.muts at hM
  simp [hs.1, hs.2, ha.1, ha.2, hrow.1]
  refine W_iter (fun i : Nat => [(5, .int i), (9, uS 0 (pick 1 s a 0 (ix (ix m.out s) a) (outs.take i)))]) (fun i => [uB (pick 1 s a 0 (ix (ix m.out s) a) (outs.take i))]) (fun i => i ≤ outs.length) (fun i => outs.length - i) 0 (by simp [sets, pick, ucs]) (by omega) ?_
  intro i i0
  have pl := pick_len (k := 1) (s := s) (a := a) (b := 0) (x := ix (ix m.out s) a) (outs := outs.take i)
  rw [List.length_take] at pl
  by_cases hi : i < outs.length
  · have pt := pick_take (k := 1) (s := s) (a := a) (b := 0) (x := ix (ix m.out s) a) hi
    generalize pick 1 s a 0 (ix (ix m.out s) a) (outs.take i) = F at *
    have hk5 : (5 * F.length = F.length * kst (some 5)) = True := eq_true (by simp [kst]; omega)
    by_cases he : ix outs (i : Int) = ix (ix m.out s) a
    · rw [if_pos he, List.append_nil] at pt
      have he' : (ix outs (i : Int) = ix (ix m.out s) a) = True := eq_true he
      simp [-More_nor, hi, hs.1, hso, ha.1, ha.2, hrow.2, he']
      exact ⟨by omega, More_of (i + 1) (by simp [pt]) (by simp [pt]) (by omega) (by omega)⟩
    · rw [if_neg he] at pt
      simp [-More_nor, hi, hs.1, hso, ha.1, ha.2, hrow.2, he, hk5, ucs_len]
      refine ⟨by split <;> simp, by omega, by omega, More_of (i + 1) (by simp [pt, Nat.mul_add]) (by simp [pt, ucs_app, ucs_one, uc]) (by omega) (by omega)⟩
  · have ei : i = outs.length := by omega
    subst ei
    rw [List.take_length] at pl ⊢
    have hmu : M = (pick 1 s a 0 (ix (ix m.out s) a) outs ++ nexts s a (ix (ix m.next s) a) m.next.length) ++ (if 128 ≤ (m.next.length : Int) then [] else copies s a (ix m.out (ix (ix m.next s) a)) outs m.inputs.toNat) := hM.symm
    generalize hP : pick 1 s a 0 (ix (ix m.out s) a) outs = P at *
    simp [-More_nor, hi]
    refine W_iter (fun i : Nat => [(10, .int i), (9, uS 0 (P ++ nexts s a (ix (ix m.next s) a) i))]) (fun i => [uB (P ++ nexts s a (ix (ix m.next s) a) i)]) (fun i => i ≤ m.next.length) (fun i => m.next.length - i) 0 (by simp [sets, nexts]) (by omega) ?_
    intro i i0
    have nl := nexts_len (s := s) (a := a) (t := ix (ix m.next s) a) (n := i)
    by_cases hi : i < m.next.length
    · have ns := nexts_succ (s := s) (a := a) (t := ix (ix m.next s) a) (n := i)
      generalize nexts s a (ix (ix m.next s) a) i = N at *
      have hk5 : (5 * (P ++ N).length = (P ++ N).length * kst (some 5)) = True := eq_true (by simp [kst]; omega)
      have hlP : (P ++ N).length = P.length + N.length := by simp
      have hul := ucs_len (xs := P ++ N)
      by_cases he : (i : Int) = ix (ix m.next s) a
      · rw [if_pos he, List.append_nil] at ns
        have he' : ((i : Int) = ix (ix m.next s) a) = True := eq_true he
        simp [-More_nor, -List.length_append, hi, he']
        exact ⟨by omega, More_of (i + 1) (by simp [ns]) (by simp [ns]) (by omega) (by omega)⟩
      · rw [if_neg he] at ns
        simp [-More_nor, -List.length_append, -List.append_eq_nil_iff, hi, he, hk5, ucs_len]
        refine ⟨by split <;> simp, by omega, by omega, More_of (i + 1) (by simp [ns, Nat.mul_add]; omega) (by simp [ns, ucs_app, ucs_one, uc]) (by omega) (by omega)⟩
    · have ei : i = m.next.length := by omega
      subst ei
      generalize hN : P ++ nexts s a (ix (ix m.next s) a) m.next.length = B at *
      have hBl : B.length ≤ 8192 + 128 := by rw [← hN, List.length_append]; omega
      by_cases h128 : 128 ≤ (m.next.length : Int)
      · have hv := view_uc (fr := false) (σ := [uB B]) (b := 0) (xs := B) rfl
        have hMB : M = B := by rw [hmu, if_pos h128, List.append_nil]
        rw [hMB]
        simp [-List.length_append, h128, hv]
      · have hd2 : ∀ b : Nat, (b : Int) ≤ m.inputs → (copies s a (ix m.out (ix (ix m.next s) a)) outs b).length ≤ 524288 := fun b hb => by
          have h1 := copies_len (s := s) (a := a) (row := ix m.out (ix (ix m.next s) a)) (outs := outs) (n := b)
          have h2 : b * outs.length ≤ 64 * 8192 := Nat.mul_le_mul (by omega) ho
          omega
        simp [-More_nor, -List.length_append, h128]
        refine W_iter (fun b : Nat => [(14, .int b), (9, uS 0 (B ++ copies s a (ix m.out (ix (ix m.next s) a)) outs b))]) (fun b => [uB (B ++ copies s a (ix m.out (ix (ix m.next s) a)) outs b)]) (fun b => (b : Int) ≤ m.inputs) (fun b => m.inputs.toNat - b) 0 (by simp [sets, copies]) (by omega) ?_
        intro b b0
        have hbl := hd2 b b0
        by_cases hb : (b : Int) < m.inputs
        · have hbr : b < (ix m.out (ix (ix m.next s) a)).length := by omega
          have hcs : copies s a (ix m.out (ix (ix m.next s) a)) outs (b + 1) = copies s a (ix m.out (ix (ix m.next s) a)) outs b ++ pick 3 s a b (ix (ix m.out (ix (ix m.next s) a)) (b : Int)) outs := rfl
          generalize copies s a (ix m.out (ix (ix m.next s) a)) outs b = C at *
          simp [-More_nor, -List.length_append, hb]
          (repeat' apply And.intro) <;> try omega
          refine W_iter (fun i : Nat => [(16, .int i), (9, uS 0 ((B ++ C) ++ pick 3 s a b (ix (ix m.out (ix (ix m.next s) a)) (b : Int)) (outs.take i)))]) (fun i => [uB ((B ++ C) ++ pick 3 s a b (ix (ix m.out (ix (ix m.next s) a)) (b : Int)) (outs.take i))]) (fun i => i ≤ outs.length) (fun i => outs.length - i) 0 (by simp [sets, pick]) (by omega) ?_
          intro i i0
          have pl3 := pick_len (k := 3) (s := s) (a := a) (b := b) (x := ix (ix m.out (ix (ix m.next s) a)) (b : Int)) (outs := outs.take i)
          rw [List.length_take] at pl3
          by_cases hi : i < outs.length
          · have pt := pick_take (k := 3) (s := s) (a := a) (b := b) (x := ix (ix m.out (ix (ix m.next s) a)) (b : Int)) hi
            generalize pick 3 s a b (ix (ix m.out (ix (ix m.next s) a)) (b : Int)) (outs.take i) = F at *
            have hlP : ((B ++ C) ++ F).length = B.length + C.length + F.length := by simp; omega
            generalize hBC : B ++ C = D at *
            have hk5 : (5 * (D ++ F).length = (D ++ F).length * kst (some 5)) = True := eq_true (by simp [kst]; omega)
            have hul := ucs_len (xs := D ++ F)
            have hlD : (D ++ F).length = D.length + F.length := by simp
            by_cases he : ix outs (i : Int) = ix (ix m.out (ix (ix m.next s) a)) (b : Int)
            · rw [if_pos he, List.append_nil] at pt
              have he' : (ix outs (i : Int) = ix (ix m.out (ix (ix m.next s) a)) (b : Int)) = True := eq_true he
              simp [-More_nor, -List.length_append, hi, ht.1, show ix (ix m.next s) a < (m.out.length : Int) by omega, hbr, he']
              exact ⟨by omega, More_of (i + 1) (by simp [pt]) (by simp [pt]) (by omega) (by omega)⟩
            · rw [if_neg he] at pt
              simp [-More_nor, -List.length_append, -List.append_eq_nil_iff, hi, ht.1, show ix (ix m.next s) a < (m.out.length : Int) by omega, hbr, he, hk5, ucs_len]
              refine ⟨by split <;> simp, by omega, by omega, More_of (i + 1) (by simp [pt, Nat.mul_add]; omega) (by simp [pt, ucs_app, ucs_one, uc]) (by omega) (by omega)⟩
          · have ei : i = outs.length := by omega
            subst ei
            rw [List.take_length]
            simp [-More_nor, -List.length_append, hi]
            exact ⟨by omega, More_of (b + 1) (by simp [hcs]) (by simp [hcs]) (by omega) (by omega)⟩
        · have eb : m.inputs.toNat = b := by omega
          rw [if_neg h128, eb] at hmu
          generalize hD : B ++ copies s a (ix m.out (ix (ix m.next s) a)) outs b = D at *
          rw [hmu]
          have hv := view_uc (fr := false) (σ := [uB D]) (b := 0) (xs := D) rfl
          simp [-List.length_append, hb, h128, hv]
theorem single_s (m : Mly) (hm : m.Ok) (s a : Int) (hs : 0 ≤ s ∧ s < (m.next.length : Int)) (ha : 0 ≤ a ∧ a < m.inputs) (outs : List Int) (ho : outs.length ≤ 8192) : PC F_ref33_single [m.av, .int s, .int a, iL outs] = some (muL (m.muts s a outs)) := by
  refine PCx_of (go_ref33_single rfl ?_)
  have hml := hm.len
  have hst := hm.states
  have hin := hm.inputs
  have hrow := hm.row s hs.1 hs.2
  have hso : s < (m.out.length : Int) := by omega
  have ht := hm.nx s a hs.1 hs.2 ha.1 ha.2
  have hrt := hm.row _ ht.1 ht.2
  generalize hM : m.muts s a outs = M
  unfold Mly.muts at hM
  simp
  refine W_iter (fun i : Nat => [(4, .int i), (6, uS 0 (pick 1 s a 0 (ix (ix m.out s) a) (outs.take i)))]) (fun i => [uB (pick 1 s a 0 (ix (ix m.out s) a) (outs.take i))]) (fun i => i ≤ outs.length) (fun i => outs.length - i) 0 (by simp [sets, pick, ucs]) (by omega) ?_
  intro i i0
  have pl := pick_len (k := 1) (s := s) (a := a) (b := 0) (x := ix (ix m.out s) a) (outs := outs.take i)
  rw [List.length_take] at pl
  by_cases hi : i < outs.length
  · have pt := pick_take (k := 1) (s := s) (a := a) (b := 0) (x := ix (ix m.out s) a) hi
    generalize pick 1 s a 0 (ix (ix m.out s) a) (outs.take i) = F at *
    have hk5 : (5 * F.length = F.length * kst (some 5)) = True := eq_true (by simp [kst]; omega)
    by_cases he : ix outs (i : Int) = ix (ix m.out s) a
    · rw [if_pos he, List.append_nil] at pt
      have he' : (ix outs (i : Int) = ix (ix m.out s) a) = True := eq_true he
      simp [-More_nor, hi, hs.1, hso, ha.1, ha.2, hrow.2, he']
      exact ⟨by omega, More_of (i + 1) (by simp [pt]) (by simp [pt]) (by omega) (by omega)⟩
    · rw [if_neg he] at pt
      simp [-More_nor, hi, hs.1, hso, ha.1, ha.2, hrow.2, he, hk5, ucs_len]
      refine ⟨by split <;> simp, by omega, by omega, More_of (i + 1) (by simp [pt, Nat.mul_add]) (by simp [pt, ucs_app, ucs_one, uc]) (by omega) (by omega)⟩
  · have ei : i = outs.length := by omega
    subst ei
    rw [List.take_length] at pl ⊢
    have hmu : M = (pick 1 s a 0 (ix (ix m.out s) a) outs ++ nexts s a (ix (ix m.next s) a) m.next.length) ++ (if 128 ≤ (m.next.length : Int) then [] else copies s a (ix m.out (ix (ix m.next s) a)) outs m.inputs.toNat) := hM.symm
    generalize hP : pick 1 s a 0 (ix (ix m.out s) a) outs = P at *
    simp [-More_nor, hi, hs.1, hs.2, ha.1, ha.2, hrow.1]
    refine W_iter (fun i : Nat => [(7, .int i), (6, uS 0 (P ++ nexts s a (ix (ix m.next s) a) i))]) (fun i => [uB (P ++ nexts s a (ix (ix m.next s) a) i)]) (fun i => i ≤ m.next.length) (fun i => m.next.length - i) 0 (by simp [sets, nexts]) (by omega) ?_
    intro i i0
    have nl := nexts_len (s := s) (a := a) (t := ix (ix m.next s) a) (n := i)
    by_cases hi : i < m.next.length
    · have ns := nexts_succ (s := s) (a := a) (t := ix (ix m.next s) a) (n := i)
      generalize nexts s a (ix (ix m.next s) a) i = N at *
      have hk5 : (5 * (P ++ N).length = (P ++ N).length * kst (some 5)) = True := eq_true (by simp [kst]; omega)
      have hlP : (P ++ N).length = P.length + N.length := by simp
      have hul := ucs_len (xs := P ++ N)
      by_cases he : (i : Int) = ix (ix m.next s) a
      · rw [if_pos he, List.append_nil] at ns
        have he' : ((i : Int) = ix (ix m.next s) a) = True := eq_true he
        simp [-More_nor, -List.length_append, hi, he']
        exact ⟨by omega, More_of (i + 1) (by simp [ns]) (by simp [ns]) (by omega) (by omega)⟩
      · rw [if_neg he] at ns
        simp [-More_nor, -List.length_append, -List.append_eq_nil_iff, hi, he, hk5, ucs_len]
        refine ⟨by split <;> simp, by omega, by omega, More_of (i + 1) (by simp [ns, Nat.mul_add]; omega) (by simp [ns, ucs_app, ucs_one, uc]) (by omega) (by omega)⟩
    · have ei : i = m.next.length := by omega
      subst ei
      generalize hN : P ++ nexts s a (ix (ix m.next s) a) m.next.length = B at *
      have hBl : B.length ≤ 8192 + 128 := by rw [← hN, List.length_append]; omega
      by_cases h128 : 128 ≤ (m.next.length : Int)
      · have hv := view_uc (fr := false) (σ := [uB B]) (b := 0) (xs := B) rfl
        have hMB : M = B := by rw [hmu, if_pos h128, List.append_nil]
        rw [hMB]
        simp [-More_nor, -List.length_append]
        refine W_iter (fun _ : Unit => []) (fun _ => [uB B]) (fun _ => True) (fun _ => 0) () (by simp [sets]) trivial ?_
        intro _ _
        simp [-List.length_append, hin, show ¬ (m.next.length : Int) < 128 by omega, h128, hv]
        try omega
      · have hd2 : ∀ b : Nat, (b : Int) ≤ m.inputs → (copies s a (ix m.out (ix (ix m.next s) a)) outs b).length ≤ 524288 := fun b hb => by
          have h1 := copies_len (s := s) (a := a) (row := ix m.out (ix (ix m.next s) a)) (outs := outs) (n := b)
          have h2 : b * outs.length ≤ 64 * 8192 := Nat.mul_le_mul (by omega) ho
          omega
        simp [-More_nor, -List.length_append]
        refine W_iter (fun b : Nat => [(9, .int b), (6, uS 0 (B ++ copies s a (ix m.out (ix (ix m.next s) a)) outs b))]) (fun b => [uB (B ++ copies s a (ix m.out (ix (ix m.next s) a)) outs b)]) (fun b => (b : Int) ≤ m.inputs) (fun b => m.inputs.toNat - b) 0 (by simp [sets, copies]) (by omega) ?_
        intro b b0
        have hbl := hd2 b b0
        by_cases hb : (b : Int) < m.inputs
        · have hbr : b < (ix m.out (ix (ix m.next s) a)).length := by omega
          have hcs : copies s a (ix m.out (ix (ix m.next s) a)) outs (b + 1) = copies s a (ix m.out (ix (ix m.next s) a)) outs b ++ pick 3 s a b (ix (ix m.out (ix (ix m.next s) a)) (b : Int)) outs := rfl
          generalize copies s a (ix m.out (ix (ix m.next s) a)) outs b = C at *
          simp [-More_nor, -List.length_append, hb, show (m.next.length : Int) < 128 by omega]
          (repeat' apply And.intro) <;> try omega
          refine W_iter (fun i : Nat => [(10, .int i), (6, uS 0 ((B ++ C) ++ pick 3 s a b (ix (ix m.out (ix (ix m.next s) a)) (b : Int)) (outs.take i)))]) (fun i => [uB ((B ++ C) ++ pick 3 s a b (ix (ix m.out (ix (ix m.next s) a)) (b : Int)) (outs.take i))]) (fun i => i ≤ outs.length) (fun i => outs.length - i) 0 (by simp [sets, pick]) (by omega) ?_
          intro i i0
          have pl3 := pick_len (k := 3) (s := s) (a := a) (b := b) (x := ix (ix m.out (ix (ix m.next s) a)) (b : Int)) (outs := outs.take i)
          rw [List.length_take] at pl3
          by_cases hi : i < outs.length
          · have pt := pick_take (k := 3) (s := s) (a := a) (b := b) (x := ix (ix m.out (ix (ix m.next s) a)) (b : Int)) hi
            generalize pick 3 s a b (ix (ix m.out (ix (ix m.next s) a)) (b : Int)) (outs.take i) = F at *
            have hlP : ((B ++ C) ++ F).length = B.length + C.length + F.length := by simp; omega
            generalize hBC : B ++ C = D at *
            have hk5 : (5 * (D ++ F).length = (D ++ F).length * kst (some 5)) = True := eq_true (by simp [kst]; omega)
            have hul := ucs_len (xs := D ++ F)
            have hlD : (D ++ F).length = D.length + F.length := by simp
            by_cases he : ix outs (i : Int) = ix (ix m.out (ix (ix m.next s) a)) (b : Int)
            · rw [if_pos he, List.append_nil] at pt
              have he' : (ix outs (i : Int) = ix (ix m.out (ix (ix m.next s) a)) (b : Int)) = True := eq_true he
              simp [-More_nor, -List.length_append, hi, ht.1, show ix (ix m.next s) a < (m.out.length : Int) by omega, hbr, he']
              exact ⟨by omega, More_of (i + 1) (by simp [pt]) (by simp [pt]) (by omega) (by omega)⟩
            · rw [if_neg he] at pt
              simp [-More_nor, -List.length_append, -List.append_eq_nil_iff, hi, ht.1, show ix (ix m.next s) a < (m.out.length : Int) by omega, hbr, he, hk5, ucs_len]
              refine ⟨by split <;> simp, by omega, by omega, More_of (i + 1) (by simp [pt, Nat.mul_add]; omega) (by simp [pt, ucs_app, ucs_one, uc]) (by omega) (by omega)⟩
          · have ei : i = outs.length := by omega
            subst ei
            rw [List.take_length]
            simp [-More_nor, -List.length_append, hi]
            exact ⟨by omega, More_of (b + 1) (by simp [hcs]) (by simp [hcs]) (by omega) (by omega)⟩
        · have eb : m.inputs.toNat = b := by omega
          rw [if_neg h128, eb] at hmu
          generalize hD : B ++ copies s a (ix m.out (ix (ix m.next s) a)) outs b = D at *
          rw [hmu]
          have hv := view_uc (fr := false) (σ := [uB D]) (b := 0) (xs := D) rfl
          simp [-List.length_append, hb, h128, hv]
end Ab
