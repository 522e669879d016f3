/- Changed machines: the program and the document. Condition: none. -/
import Derived.Test.YtchamabaodnjkaaMutF
import Derived.Test.YtchamabaodnjkaaFrom
set_option linter.all false
set_option maxRecDepth 100000
set_option maxHeartbeats 4000000
namespace Ab
instance (x : Mut) (m : Mly) : Decidable (x.Fits m) :=
  if h : (0 ≤ x.st ∧ x.st < (m.next.length : Int)) ∧ (0 ≤ x.inp ∧ x.inp < m.inputs) ∧ ((x.kind = 1 ∧ 0 ≤ x.val ∧ x.val ≤ 1048576 ∧ x.val2 = 0) ∨ (x.kind = 2 ∧ 0 ≤ x.val ∧ x.val < (m.next.length : Int) ∧ x.val2 = 0) ∨ (x.kind = 3 ∧ 0 ≤ x.val ∧ x.val ≤ 1048576 ∧ 0 ≤ x.val2 ∧ x.val2 < m.inputs)) then isTrue ⟨h.1, h.2.1, h.2.2⟩ else isFalse fun ⟨a, b, c⟩ => h ⟨a, b, c⟩
theorem mfits_s (m : Mly) (x : Mut) : PC F_mutant_fits [m.av, x.av] = some (.bool (decide (x.Fits m))) := by
  refine PCx_of (go_mutant_fits rfl ?_)
  by_cases h : x.Fits m
  · obtain ⟨h1, h2, h3⟩ := h
    have e : x.Fits m := ⟨h1, h2, h3⟩
    simp [e]
    omega
  · have e : ¬ ((0 ≤ x.st ∧ x.st < (m.next.length : Int)) ∧ (0 ≤ x.inp ∧ x.inp < m.inputs) ∧ ((x.kind = 1 ∧ 0 ≤ x.val ∧ x.val ≤ 1048576 ∧ x.val2 = 0) ∨ (x.kind = 2 ∧ 0 ≤ x.val ∧ x.val < (m.next.length : Int) ∧ x.val2 = 0) ∨ (x.kind = 3 ∧ 0 ≤ x.val ∧ x.val ≤ 1048576 ∧ 0 ≤ x.val2 ∧ x.val2 < m.inputs))) := fun ⟨a, b, c⟩ => h ⟨a, b, c⟩
    simp [h]
    omega
theorem rmfits_s (m : Mly) (x : Mut) : PC F_ref33_fits [m.av, x.av] = some (.bool (decide (x.Fits m))) := by
  refine PCx_of (go_ref33_fits rfl ?_)
  by_cases h : x.Fits m
  · obtain ⟨h1, h2, h3⟩ := h
    have e : x.Fits m := ⟨h1, h2, h3⟩
    simp [e]
    omega
  · have e : ¬ ((0 ≤ x.st ∧ x.st < (m.next.length : Int)) ∧ (0 ≤ x.inp ∧ x.inp < m.inputs) ∧ ((x.kind = 1 ∧ 0 ≤ x.val ∧ x.val ≤ 1048576 ∧ x.val2 = 0) ∨ (x.kind = 2 ∧ 0 ≤ x.val ∧ x.val < (m.next.length : Int) ∧ x.val2 = 0) ∨ (x.kind = 3 ∧ 0 ≤ x.val ∧ x.val ≤ 1048576 ∧ 0 ≤ x.val2 ∧ x.val2 < m.inputs))) := fun ⟨a, b, c⟩ => h ⟨a, b, c⟩
    simp [h]
    omega
/-- What Apply answers. -/
def Mly.apply (m : Mly) (x : Mut) : Mly × Int :=
  if m.validE ≠ 0 then (⟨0, 0, [], []⟩, m.validE) else if ¬ x.Fits m then (⟨0, 0, [], []⟩, 1) else if x.kind = 3 ∧ 128 ≤ (m.next.length : Int) then (⟨0, 0, [], []⟩, 11) else (m.chg x, 0)
theorem Apply_s (m : Mly) (h : m.fits) (x : Mut) : PC F_mutant_Apply [m.av, x.av] = some (.tup [(m.apply x).1.av, .int (m.apply x).2]) := by
  refine PCx_of (go_mutant_Apply rfl ?_)
  unfold Mly.apply
  by_cases hv : m.validE = 0
  · have hm := mvalidE_ok hv
    by_cases hf : x.Fits m
    · have hc := changed_s m hm x hf
      have hst := hm.states
      by_cases hk : x.kind = 3
      · have hk' : (x.kind = 3) = True := eq_true hk
        by_cases h8 : 128 ≤ (m.next.length : Int)
        · simp [mValid_s m h, hv, mfits_s, hf, hk', h8, res_box4]
        · simp [mValid_s m h, hv, mfits_s, hf, hk', h8, hc, res_box4]
      · simp [mValid_s m h, hv, mfits_s, hf, hk, hc, res_box4]
    · simp [mValid_s m h, hv, mfits_s, hf, res_box4]
  · simp [mValid_s m h, hv, res_box4]
theorem rchanged_s (l : List Int) (a v : Int) (ha : 0 ≤ a) (hl : (l.length : Int) ≤ 1000000) : PC F_ref33_changed [iL l, .int a, .int v] = some (iL (l.set a.toNat v)) := by
  refine PCx_of (go_ref33_changed rfl ?_)
  simp
  refine W_iter (fun i : Nat => [(3, .int i), (4, .sl 0 i 0 i)]) (fun i => [louI ((l.set a.toNat v).take i)]) (fun i => i ≤ l.length) (fun i => l.length - i) 0 (by simp [sets]) (by omega) ?_
  intro i hi1
  by_cases hi : i < l.length
  · have tk := take_snoc (w := l.set a.toNat v) (k := i) (by simpa using hi)
    have hx : ix (l.set a.toNat v) (i : Int) = if (i : Int) = a then v else ix l (i : Int) := by
      rw [ixs_set (by omega) (by omega), show ((a.toNat : Nat) : Int) = a by omega]
    have ho : ((l.set a.toNat v).take i).length = i := by rw [List.length_take, List.length_set, Nat.min_eq_left (by omega)]
    generalize (l.set a.toNat v).take i = O at *
    by_cases e : (i : Int) = a
    · rw [if_pos e] at hx
      have e' : ((i : Int) = a) = True := eq_true e
      simp [-More_nor, hi, e', ho]
      refine ⟨by split <;> simp, by omega, by omega, More_of (i + 1) (by simp) (by rw [tk, hx]; simp) (by omega) (by omega)⟩
    · rw [if_neg e] at hx
      simp [-More_nor, hi, e, ho]
      refine ⟨by split <;> simp, by omega, by omega, More_of (i + 1) (by simp) (by rw [tk, hx]; simp) (by omega) (by omega)⟩
  · have ei : i = l.length := by omega
    subst ei
    have hv7 := vd_louI (σ := [louI (l.set a.toNat v)]) (b := 0) (out := l.set a.toNat v) rfl
    rw [List.length_set] at hv7
    have tt : (l.set a.toNat v).take l.length = l.set a.toNat v := List.take_of_length_le (by simp)
    simp [tt, hv7]
/-- The rows of a changed machine, before the copied one. -/
def Mly.chgN (m : Mly) (x : Mut) : List (List Int) := if x.kind = 1 then m.next else setLL m.next x.st x.inp (if x.kind = 2 then x.val else m.next.length)
def Mly.chgO (m : Mly) (x : Mut) : List (List Int) := if x.kind = 1 then setLL m.out x.st x.inp x.val else m.out
/-- The store of the document's Apply. -/
def raS (inp st : Int) (N O : List (List Int)) : Nat → List Blk
  | 0 => [⟨some 4, [.int 0, .int 0, .snil, .snil], .live⟩, ⟨some 4, [.int inp, .int st, .snil, .snil], .live⟩]
  | i + 1 => [⟨some 4, [.int 0, .int 0, .snil, .snil], .live⟩, ⟨some 4, [.int inp, .int st, .sl 2 (i + 1) 0 (i + 1), .sl 3 (i + 1) 0 (i + 1)], .live⟩, ⟨none, (N.take (i + 1)).map iL, .live⟩, ⟨none, (O.take (i + 1)).map iL, .live⟩]
theorem RApply_s (m : Mly) (h : m.fits) (x : Mut) : PC F_ref33_Apply [m.av, x.av] = some (.tup [(m.apply x).1.av, .int (m.apply x).2]) := by
  refine PCx_of (go_ref33_Apply rfl ?_)
  unfold Mly.apply
  by_cases hv : m.validE = 0
  · have hm := mvalidE_ok hv
    by_cases hf : x.Fits m
    · have hst := hm.states
      have hin := hm.inputs
      have hml := hm.len
      have hrow := hm.row
      have hs := hf.st
      have ha := hf.inp
      by_cases hk8 : x.kind = 3 ∧ (m.next.length : Int) = 128
      · have hk' : (x.kind = 3) = True := eq_true hk8.1
        simp [rmValid_s m h, hv, rmfits_s, hf, hk', hk8.2, res_box4]
      · have hN : (m.chgN x).length = m.next.length := by unfold Mly.chgN setLL; split <;> simp
        have hO : (m.chgO x).length = m.next.length := by unfold Mly.chgO setLL; split <;> (try simp) <;> omega
        have hchg : m.chg x = ⟨m.inputs, m.start, m.chgN x ++ (if x.kind = 3 then [ix m.next (ix (ix m.next x.st) x.inp)] else []), m.chgO x ++ (if x.kind = 3 then [(ix m.out (ix (ix m.next x.st) x.inp)).set x.val2.toNat x.val] else [])⟩ := by
          unfold Mly.chg Mly.chgN Mly.chgO
          rcases hf.val with ⟨hk, _⟩ | ⟨hk, _⟩ | ⟨hk, _⟩ <;> simp [hk]
        have hstep : ∀ i : Nat, i < m.next.length → ix (m.chgN x) (i : Int) = (if (i : Int) = x.st ∧ x.kind ≠ 1 then (ix m.next (i : Int)).set x.inp.toNat (if x.kind = 2 then x.val else m.next.length) else ix m.next (i : Int)) ∧ ix (m.chgO x) (i : Int) = (if (i : Int) = x.st ∧ x.kind = 1 then (ix m.out (i : Int)).set x.inp.toNat x.val else ix m.out (i : Int)) := fun i hi => by
          have g : ∀ (l : List (List Int)) r, i < l.length → ix (l.set x.st.toNat r) (i : Int) = if (i : Int) = x.st then r else ix l (i : Int) := fun l r hl => by
            rw [ixs_set (by omega) (by omega), show ((x.st.toNat : Nat) : Int) = x.st by omega]
          have g1 := fun r => g m.next r hi
          have g2 := fun r => g m.out r (by omega)
          unfold Mly.chgN Mly.chgO setLL
          by_cases e : (i : Int) = x.st
          · have e' : ((i : Int) = x.st) = True := eq_true e
            rcases hf.val with ⟨hk, _⟩ | ⟨hk, _⟩ | ⟨hk, _⟩ <;> simp [hk, g1, g2, e'] <;> rw [e]
          · rcases hf.val with ⟨hk, _⟩ | ⟨hk, _⟩ | ⟨hk, _⟩ <;> simp [hk, g1, g2, e]
        have hk8' : ¬ (x.kind = 3 ∧ 128 ≤ (m.next.length : Int)) := by omega
        rw [hchg]
        generalize hNN : m.chgN x = N at *
        generalize hOO : m.chgO x = O at *
        have hcase : ∀ i : Nat, i < m.next.length → ((x.kind = 1 ∧ (i : Int) = x.st) ∧ ix N (i : Int) = ix m.next (i : Int) ∧ ix O (i : Int) = (ix m.out (i : Int)).set x.inp.toNat x.val) ∨ ((x.kind = 2 ∧ (i : Int) = x.st) ∧ ix N (i : Int) = (ix m.next (i : Int)).set x.inp.toNat x.val ∧ ix O (i : Int) = ix m.out (i : Int)) ∨ ((x.kind = 3 ∧ (i : Int) = x.st) ∧ ix N (i : Int) = (ix m.next (i : Int)).set x.inp.toNat m.next.length ∧ ix O (i : Int) = ix m.out (i : Int)) ∨ ((¬ (i : Int) = x.st) ∧ ix N (i : Int) = ix m.next (i : Int) ∧ ix O (i : Int) = ix m.out (i : Int)) := fun i hi => by
          have hq := hstep i hi
          by_cases e : (i : Int) = x.st
          · rcases hf.val with ⟨hk, _⟩ | ⟨hk, _⟩ | ⟨hk, _⟩
            · simp [e, hk] at hq ⊢; exact hq
            · simp [e, hk] at hq ⊢; exact hq
            · simp [e, hk] at hq ⊢; exact hq
          · simp [e] at hq ⊢; exact hq
        have hcal : ∀ i : Nat, i < m.next.length → PC F_ref33_changed [iL (ix m.next (i : Int)), .int x.inp, .int x.val] = some (iL ((ix m.next (i : Int)).set x.inp.toNat x.val)) ∧ PC F_ref33_changed [iL (ix m.out (i : Int)), .int x.inp, .int x.val] = some (iL ((ix m.out (i : Int)).set x.inp.toNat x.val)) ∧ PC F_ref33_changed [iL (ix m.next (i : Int)), .int x.inp, .int m.next.length] = some (iL ((ix m.next (i : Int)).set x.inp.toNat m.next.length)) := fun i hi => by
          have := hrow i (by omega) (by omega)
          exact ⟨rchanged_s _ _ _ ha.1 (by omega), rchanged_s _ _ _ ha.1 (by omega), rchanged_s _ _ _ ha.1 (by omega)⟩
        have hlp : ∀ Q : Ex → St → Prop, Q (.exit 0) ⟨[.und, .und, .pimm m.av, .und, .ptr 0 (kst (some 4)) 0, .pimm x.av, .int m.next.length, .und, .und, .ptr 1 (kst (some 4)) 0, .und, .und], none, raS m.inputs m.start N O m.next.length⟩ → W L b_ref33_Apply_0.loop ⟨[.und, .und, .pimm m.av, .und, .ptr 0 (kst (some 4)) 0, .pimm x.av, .int 0, .und, .und, .ptr 1 (kst (some 4)) 0, .und, .und], none, raS m.inputs m.start N O 0⟩ Q := by
          intro Q hQ
          refine W_iter (fun i : Nat => [(6, .int i)]) (fun i => raS m.inputs m.start N O i) (fun i => i ≤ m.next.length) (fun i => m.next.length - i) 0 rfl (by omega) ?_
          intro i i1
          by_cases hi : i < m.next.length
          · obtain ⟨c1, c2, c3⟩ := hcal i hi
            have hio : i < m.out.length := by omega
            have tN : N.take (i + 1) = N.take i ++ [ix N (i : Int)] := by rw [List.take_add_one, List.getElem?_eq_getElem (by omega), ix_nat (by omega)]; rfl
            have tO : O.take (i + 1) = O.take i ++ [ix O (i : Int)] := by rw [List.take_add_one, List.getElem?_eq_getElem (by omega), ix_nat (by omega)]; rfl
            have hr1 : raS m.inputs m.start N O (i + 1) = [⟨some 4, [.int 0, .int 0, .snil, .snil], .live⟩, ⟨some 4, [.int m.inputs, .int m.start, .sl 2 (i + 1) 0 (i + 1), .sl 3 (i + 1) 0 (i + 1)], .live⟩, ⟨none, (N.take i ++ [ix N (i : Int)]).map iL, .live⟩, ⟨none, (O.take i ++ [ix O (i : Int)]).map iL, .live⟩] := by rw [← tN, ← tO]; rfl
            have lN : (N.take i).length = i := by rw [List.length_take, Nat.min_eq_left (by omega)]
            have lO : (O.take i).length = i := by rw [List.length_take, Nat.min_eq_left (by omega)]
            rcases hcase i hi with ⟨⟨k, e⟩, eN, eO⟩ | ⟨⟨k, e⟩, eN, eO⟩ | ⟨⟨k, e⟩, eN, eO⟩ | ⟨e, eN, eO⟩
            · rw [eN, eO] at hr1
              have k1 : (x.kind = 1) = True := eq_true k
              have e' : ((i : Int) = x.st) = True := eq_true e
              have n2 : (x.kind = 2) = False := eq_false (by omega)
              have n3 : (x.kind = 3) = False := eq_false (by omega)
              by_cases z : i = 0
              · have hr : raS m.inputs m.start N O i = [⟨some 4, [.int 0, .int 0, .snil, .snil], .live⟩, ⟨some 4, [.int m.inputs, .int m.start, .snil, .snil], .live⟩] := by subst z; rfl
                rw [hr]
                simp [-More_nor, hi, hio, k1, e', c2, n2, n3]
                (repeat' apply And.intro) <;> try omega
                exact More_of (i + 1) (by simp) (by rw [hr1]; subst z; simp) (by omega) (by omega)
              · have hr : raS m.inputs m.start N O i = [⟨some 4, [.int 0, .int 0, .snil, .snil], .live⟩, ⟨some 4, [.int m.inputs, .int m.start, .sl 2 i 0 i, .sl 3 i 0 i], .live⟩, ⟨none, (N.take i).map iL, .live⟩, ⟨none, (O.take i).map iL, .live⟩] := by
                  cases i with
                  | zero => exact absurd rfl z
                  | succ i => rfl
                rw [hr]
                generalize N.take i = N' at *
                generalize O.take i = O' at *
                simp [-More_nor, hi, hio, lN, lO, k1, e', c2, n2, n3]
                (repeat' apply And.intro) <;> try omega
                exact More_of (i + 1) (by simp) (by rw [hr1]; simp) (by omega) (by omega)
            · rw [eN, eO] at hr1
              have k1 : (x.kind = 2) = True := eq_true k
              have e' : ((i : Int) = x.st) = True := eq_true e
              have n1 : (x.kind = 1) = False := eq_false (by omega)
              have n3 : (x.kind = 3) = False := eq_false (by omega)
              by_cases z : i = 0
              · have hr : raS m.inputs m.start N O i = [⟨some 4, [.int 0, .int 0, .snil, .snil], .live⟩, ⟨some 4, [.int m.inputs, .int m.start, .snil, .snil], .live⟩] := by subst z; rfl
                rw [hr]
                simp [-More_nor, hi, hio, k1, e', c1, n1, n3]
                (repeat' apply And.intro) <;> try omega
                exact More_of (i + 1) (by simp) (by rw [hr1]; subst z; simp) (by omega) (by omega)
              · have hr : raS m.inputs m.start N O i = [⟨some 4, [.int 0, .int 0, .snil, .snil], .live⟩, ⟨some 4, [.int m.inputs, .int m.start, .sl 2 i 0 i, .sl 3 i 0 i], .live⟩, ⟨none, (N.take i).map iL, .live⟩, ⟨none, (O.take i).map iL, .live⟩] := by
                  cases i with
                  | zero => exact absurd rfl z
                  | succ i => rfl
                rw [hr]
                generalize N.take i = N' at *
                generalize O.take i = O' at *
                simp [-More_nor, hi, hio, lN, lO, k1, e', c1, n1, n3]
                (repeat' apply And.intro) <;> try omega
                exact More_of (i + 1) (by simp) (by rw [hr1]; simp) (by omega) (by omega)
            · rw [eN, eO] at hr1
              have k1 : (x.kind = 3) = True := eq_true k
              have e' : ((i : Int) = x.st) = True := eq_true e
              have n1 : (x.kind = 1) = False := eq_false (by omega)
              have n2 : (x.kind = 2) = False := eq_false (by omega)
              by_cases z : i = 0
              · have hr : raS m.inputs m.start N O i = [⟨some 4, [.int 0, .int 0, .snil, .snil], .live⟩, ⟨some 4, [.int m.inputs, .int m.start, .snil, .snil], .live⟩] := by subst z; rfl
                rw [hr]
                simp [-More_nor, hi, hio, k1, e', c3, n1, n2]
                (repeat' apply And.intro) <;> try omega
                exact More_of (i + 1) (by simp) (by rw [hr1]; subst z; simp) (by omega) (by omega)
              · have hr : raS m.inputs m.start N O i = [⟨some 4, [.int 0, .int 0, .snil, .snil], .live⟩, ⟨some 4, [.int m.inputs, .int m.start, .sl 2 i 0 i, .sl 3 i 0 i], .live⟩, ⟨none, (N.take i).map iL, .live⟩, ⟨none, (O.take i).map iL, .live⟩] := by
                  cases i with
                  | zero => exact absurd rfl z
                  | succ i => rfl
                rw [hr]
                generalize N.take i = N' at *
                generalize O.take i = O' at *
                simp [-More_nor, hi, hio, lN, lO, k1, e', c3, n1, n2]
                (repeat' apply And.intro) <;> try omega
                exact More_of (i + 1) (by simp) (by rw [hr1]; simp) (by omega) (by omega)
            · rw [eN, eO] at hr1
              by_cases z : i = 0
              · have hr : raS m.inputs m.start N O i = [⟨some 4, [.int 0, .int 0, .snil, .snil], .live⟩, ⟨some 4, [.int m.inputs, .int m.start, .snil, .snil], .live⟩] := by subst z; rfl
                rw [hr]
                simp [-More_nor, hi, hio, e]
                (repeat' apply And.intro) <;> try omega
                exact More_of (i + 1) (by simp) (by rw [hr1]; subst z; simp) (by omega) (by omega)
              · have hr : raS m.inputs m.start N O i = [⟨some 4, [.int 0, .int 0, .snil, .snil], .live⟩, ⟨some 4, [.int m.inputs, .int m.start, .sl 2 i 0 i, .sl 3 i 0 i], .live⟩, ⟨none, (N.take i).map iL, .live⟩, ⟨none, (O.take i).map iL, .live⟩] := by
                  cases i with
                  | zero => exact absurd rfl z
                  | succ i => rfl
                rw [hr]
                generalize N.take i = N' at *
                generalize O.take i = O' at *
                simp [-More_nor, hi, hio, lN, lO, e]
                (repeat' apply And.intro) <;> try omega
                exact More_of (i + 1) (by simp) (by rw [hr1]; simp) (by omega) (by omega)
          · have ei : i = m.next.length := by omega
            subst ei
            simp [-More_nor, hQ]
        have hlast : raS m.inputs m.start N O m.next.length = [⟨some 4, [.int 0, .int 0, .snil, .snil], .live⟩, ⟨some 4, [.int m.inputs, .int m.start, .sl 2 m.next.length 0 m.next.length, .sl 3 m.next.length 0 m.next.length], .live⟩, ⟨none, N.map iL, .live⟩, ⟨none, O.map iL, .live⟩] := by
          have h1 : N.take m.next.length = N := List.take_of_length_le (by omega)
          have h2 : O.take m.next.length = O := List.take_of_length_le (by omega)
          match hn : m.next.length, hst with
          | 0, h => omega
          | k + 1, _ => rw [hn] at h1 h2; simp only [raS, h1, h2]
        by_cases k3 : x.kind = 3
        · have k3' : (x.kind = 3) = True := eq_true k3
          have hn8 : ¬ (m.next.length : Int) = 128 := fun hh => hk8 ⟨k3, hh⟩
          have ht := hm.nx x.st x.inp hs.1 hs.2 ha.1 ha.2
          generalize htt : ix (ix m.next x.st) x.inp = t at *
          have hto := (hrow t ht.1 ht.2)
          have hc4 := rchanged_s (ix m.out t) x.val2 x.val (by rcases hf.val with h | h | h <;> omega) (by omega)
          have v1 := fun r r1 => view_sm (k := 10) (f := iL) (g := iL) (σ := [⟨some 4, r, .live⟩, ⟨some 4, r1, .live⟩, ⟨none, (N ++ [ix m.next t]).map iL, .live⟩, ⟨none, (O ++ [(ix m.out t).set x.val2.toNat x.val]).map iL, .live⟩]) (fr := false) (b := 2) (xs := N ++ [ix m.next t]) (n := m.next.length + 1) (st := .live) rfl (by simp) (by simp [hN]) fun _ _ => rfl
          have v2 := fun r r1 => view_sm (k := 10) (f := iL) (g := iL) (σ := [⟨some 4, r, .live⟩, ⟨some 4, r1, .live⟩, ⟨none, (N ++ [ix m.next t]).map iL, .live⟩, ⟨none, (O ++ [(ix m.out t).set x.val2.toNat x.val]).map iL, .live⟩]) (fr := false) (b := 3) (xs := O ++ [(ix m.out t).set x.val2.toNat x.val]) (n := m.next.length + 1) (st := .live) rfl (by simp) (by simp [hO]) fun _ _ => rfl
          simp only [List.map_append, List.map_cons, List.map_nil] at v1 v2
          simp [-More_nor, rmValid_s m h, hv, rmfits_s, hf, k3', hn8]
          refine hlp _ ?_
          rw [hlast]
          have hrs := hrow x.st hs.1 hs.2
          simp [k3', hs.1, hs.2, ha.1, ha.2, hrs.1, htt, ht.1, ht.2, hc4, hN, hO, res_box4, v1, v2]
          rw [if_neg (by omega)]
          simp
          omega
        · have k3' : (x.kind = 3) = False := eq_false k3
          have v1 := fun r r1 => view_sm (k := 10) (f := iL) (g := iL) (σ := [⟨some 4, r, .live⟩, ⟨some 4, r1, .live⟩, ⟨none, N.map iL, .live⟩, ⟨none, O.map iL, .live⟩]) (fr := false) (b := 2) (xs := N) (n := m.next.length) (st := .live) rfl (by simp) (by simp [hN]) fun _ _ => rfl
          have v2 := fun r r1 => view_sm (k := 10) (f := iL) (g := iL) (σ := [⟨some 4, r, .live⟩, ⟨some 4, r1, .live⟩, ⟨none, N.map iL, .live⟩, ⟨none, O.map iL, .live⟩]) (fr := false) (b := 3) (xs := O) (n := m.next.length) (st := .live) rfl (by simp) (by simp [hO]) fun _ _ => rfl
          simp [-More_nor, rmValid_s m h, hv, rmfits_s, hf, k3']
          refine hlp _ ?_
          rw [hlast]
          simp [k3', res_box4, v1, v2]
    · simp [rmValid_s m h, hv, rmfits_s, hf, res_box4]
  · simp [rmValid_s m h, hv, res_box4]
end Ab
