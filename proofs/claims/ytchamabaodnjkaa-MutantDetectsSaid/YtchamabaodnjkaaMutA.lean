/- The outputs of a machine, each once. Condition: none. -/
import Derived.Test.YtchamabaodnjkaaCompI
set_option linter.all false
set_option maxRecDepth 100000
set_option maxHeartbeats 4000000
namespace Ab
theorem zsort_l {σ : List Blk} {b n : Nat} {zs : List Int} (hu : blk σ b = some (Zb zs)) (hn : n = zs.length) (h0 : zs ≠ []) (hl : (zs.length : Int) ≤ 1000000) : L F_slices_Sort_Sint_int [.sl b n 0 n] σ = some (.tup [], setB σ b (Zb (sortI zs))) := by
  subst hn
  refine go_slices_Sort_Sint_int (N := 0) ?_
  have hu' : upto σ b zs.length = some (Zb zs) := by
    unfold upto
    rw [hu]
    simp
  have hp : 0 < zs.length := List.length_pos_iff.2 h0
  simp only [pSortI, hu']
  have hb : zs.length ≤ big := by show zs.length ≤ 1073741824; omega
  rw [if_pos (by simp [BSt.isLive, kindNone, hp]; omega)]
  have ht : (((zs.map AV.int).drop 0).take zs.length) = zs.map .int := by rw [List.drop_zero, List.take_of_length_le (by simp)]
  rw [ht, intsOf_map]
  have hs : (sortI zs).length = zs.length := (sortI_perm zs).length_eq
  have hput : putAt (zs.map AV.int) 0 ((sortI zs).map .int) = (sortI zs).map .int := by
    unfold putAt
    rw [List.take_zero, List.nil_append, List.drop_of_length_le (by simp [hs])]; simp
  simp only [hput]
theorem zchunk {rest : List AV} : ∀ {xs : List Int}, chunk none xs.length (xs.map AV.int ++ rest) = xs.map .int
  | [] => rfl
  | x :: xs => by
    have e := zchunk (rest := rest) (xs := xs)
    simp only [List.length_cons, List.map_cons, List.cons_append, chunk, e]
theorem vd_ZB {σ : List Blk} {b u r : Nat} {xs : List Int} (h : blk σ b = some (ZB xs r)) (hu : u = xs.length + r) : view σ false vd (.sl b u 0 xs.length) = some (iL xs) := by
  subst hu
  have hu : upto σ b (xs.length + r) = some (ZB xs r) := by
    unfold upto
    rw [h]
    simp
  show view σ false (11 + 1) _ = _
  unfold view
  simp only [hu, kst, List.drop_zero, Nat.zero_add, Nat.mul_one]
  rw [if_pos (by simp), zchunk, mapO_mp (f := AV.int) (g := AV.int) (v := view σ false 11) fun _ _ => rfl]
theorem compZ_len (l : List Int) : (compZ l).length ≤ l.length := zmpN_len l _
/-- The outputs, ascending, each once. -/
def Mly.outz (m : Mly) : List Int := compZ (sortI m.out.flatten)
theorem outz_mem {m : Mly} {x : Int} : x ∈ m.outz ↔ x ∈ m.out.flatten := by
  unfold Mly.outz; rw [compZ_mem, (sortI_perm _).mem_iff]
theorem outz_asc {m : Mly} : m.outz.Pairwise (· < ·) := zmpN_asc (sortI_sorted _) (Nat.le_refl _)
theorem flat_bd {k : Nat} : ∀ {ls : List (List Int)}, (∀ r ∈ ls, r.length ≤ k) → ls.flatten.length ≤ ls.length * k
  | [], _ => by simp
  | r :: ls, h => by
    have h1 := flat_bd (k := k) (ls := ls) fun x hx => h x (by simp [hx])
    have h2 := h r (by simp)
    simp [Nat.add_mul] at h1 ⊢; omega
theorem Ok.outlen {m : Mly} (hm : m.Ok) : ∀ r ∈ m.out, r.length ≤ 64 := fun r hr => by
  obtain ⟨j, hj, e⟩ := List.mem_iff_getElem.1 hr
  have hml := hm.len
  have := (hm.row j (by omega) (by omega)).2
  rw [ix_nat hj, e] at this
  have := hm.inputs
  omega
theorem Ok.outflat {m : Mly} (hm : m.Ok) : m.out.flatten.length ≤ 8192 ∧ m.out.flatten ≠ [] := by
  have h1 := flat_bd (Ok.outlen hm)
  have hml := hm.len
  have hs := hm.states
  refine ⟨by have : m.out.length * 64 ≤ 128 * 64 := Nat.mul_le_mul_right _ (by omega); omega, fun e => ?_⟩
  have hr := (hm.row 0 (by omega) (by omega)).2
  have hin := hm.inputs
  have hp : 0 < m.out.length := by omega
  have hx := ix_mem (l := m.out) (n := 0) (by omega) (by omega)
  have : (ix m.out 0).length = 0 := by
    have := List.flatten_eq_nil_iff.1 e _ hx
    rw [this]; rfl
  omega
theorem Outputs_s (m : Mly) (h : m.fits) (hv : m.validE = 0) : PC F_mealy_Outputs [m.av] = some (iL m.outz) := by
  refine PCx_of (go_mealy_Outputs rfl ?_)
  have hm := mvalidE_ok hv
  obtain ⟨hf1, hf2⟩ := Ok.outflat hm
  have hml := hm.len
  have hs := hm.states
  have hle : ∀ i : Nat, (m.out.take i).flatten.length ≤ m.out.flatten.length := fun i => by
    have e : (m.out.take i).flatten ++ (m.out.drop i).flatten = m.out.flatten := by rw [← List.flatten_append, List.take_append_drop]
    rw [← e]; simp
  simp [mValid_s m h, hv]
  refine W_iter (fun i : Nat => [(2, .int i), (5, .sl 0 ((m.out.take i).flatten).length 0 ((m.out.take i).flatten).length)]) (fun i => [louI (m.out.take i).flatten]) (fun i => i ≤ m.out.length) (fun i => m.out.length - i) 0 (by simp [sets]) (by omega) ?_
  intro i i0
  by_cases hi : i < m.out.length
  · have t1 : (m.out.take (i + 1)).flatten = (m.out.take i).flatten ++ ix m.out (i : Int) := by
      rw [List.take_add_one, List.getElem?_eq_getElem hi, ix_nat hi, List.flatten_append]; simp
    have hb := hle (i + 1)
    rw [t1] at hb
    have hrow := (hm.row i (by omega) (by omega)).2
    have hin := hm.inputs
    have hn : ¬ ix m.out (i : Int) = [] := fun e => by rw [e] at hrow; simp at hrow; omega
    generalize (m.out.take i).flatten = F at *
    rw [List.length_append] at hb
    simp [-More_nor, -List.length_flatten, hi, hn]
    refine ⟨by split <;> simp, by omega, by omega, More_of (i + 1) (by rw [t1]; simp [-List.length_flatten]) (by rw [t1]; simp [-List.length_flatten, hn]) (by omega) (by omega)⟩
  · have ei : i = m.out.length := by omega
    subst ei
    rw [List.take_length]
    have hst : louI m.out.flatten = Zb m.out.flatten := by unfold louI; rw [if_neg hf2]
    have h1 := zsort_l (σ := [Zb m.out.flatten]) (b := 0) (n := m.out.flatten.length) (zs := m.out.flatten) rfl rfl hf2 (by omega)
    have h1 : L F_slices_Sort_Sint_int [.sl 0 m.out.flatten.length 0 m.out.flatten.length] [Zb m.out.flatten] = some (.tup [], [Zb (sortI m.out.flatten)]) := h1
    have hsl : (sortI m.out.flatten).length = m.out.flatten.length := (sortI_perm _).length_eq
    have hs0 : sortI m.out.flatten ≠ [] := fun e => hf2 (List.eq_nil_of_length_eq_zero (by rw [← hsl, e]; rfl))
    obtain ⟨v, τ, h2, rfl, rfl⟩ := LX_s (zcompact_l (sortI m.out.flatten) hs0 (by omega))
    rw [hsl] at h2
    have hcl := compZ_len (sortI m.out.flatten)
    have hvw := vd_ZB (σ := [ZB (compZ (sortI m.out.flatten)) (m.out.flatten.length - (compZ (sortI m.out.flatten)).length)]) (b := 0) (u := m.out.flatten.length) rfl (by omega)
    rw [hst]
    simp [-List.length_flatten, -List.map_replicate, h1, h2, hvw]
    rfl
theorem zhas_s (l : List Int) (n : Int) (hl : (l.length : Int) ≤ 1000000) : PC F_ref06_has [iL l, .int n] = some (.bool (l.any fun x => x == n)) := by
  refine PCx_of (go_ref06_has rfl ?_)
  simp
  refine W_iter (fun i : Int => [(2, .int i)]) (fun _ => []) (fun i => 0 ≤ i ∧ i ≤ l.length ∧ ∀ j, 0 ≤ j → j < i → ¬ ix l j = n) (fun i => (l.length - i).toNat) 0 rfl ⟨by omega, by omega, upto_zero⟩ fun i ⟨i0, i1, i2⟩ => ?_
  by_cases hi : i < l.length
  · simp [-More_nor, hi, i0]
    refine ⟨fun h => h ▸ ix_mem i0 hi, fun h => ⟨by omega, More_of (i + 1) rfl rfl ⟨by omega, by omega, upto_succ h i2⟩ (by omega)⟩⟩
  · have e := any_no (p := fun x => x == n) (xs := l) fun j a b => by simpa using i2 j a (by omega)
    simp [hi, e]
/-- A number put into an ascending list. -/
theorem insert_x (l : List Int) (n : Int) (hl : (l.length : Int) ≤ 100000) (ha : l.Pairwise (· < ·)) : LX L F_ref06_insert [iL l, .int n] [] (fun v σ' => ∃ l', viewT σ' false v = some (iL l') ∧ l'.Pairwise (· < ·) ∧ (∀ x, x ∈ l' ↔ x ∈ l ∨ x = n) ∧ l'.length ≤ l.length + 1) := by
  refine go_ref06_insert rfl ?_
  have hh := zhas_s l n (by omega)
  by_cases hc : n ∈ l
  · have e : (l.any fun x => x == n) = true := List.any_eq_true.2 ⟨n, hc, by simp⟩
    rw [e] at hh
    simp [hh]
    exact ⟨l, rfl, ha, fun x => ⟨.inl, fun h => h.elim id fun e => e ▸ hc⟩, by omega⟩
  · have e : (l.any fun x => x == n) = false := List.any_eq_false.2 fun x hx => by simp; intro e; exact hc (e ▸ hx)
    rw [e] at hh
    simp [hh]
    refine W_iter (fun p : Nat × Bool × List Int => [(2, .int p.1), (3, .bool p.2.1), (4, .sl 0 p.2.2.length 0 p.2.2.length)]) (fun p => [louI p.2.2]) (fun p => p.1 ≤ l.length ∧ p.2.2.Pairwise (· < ·) ∧ (∀ x, x ∈ p.2.2 ↔ x ∈ l.take p.1 ∨ (p.2.1 = true ∧ x = n)) ∧ p.2.2.length ≤ p.1 + 1 ∧ (p.2.1 = false → p.2.2.length ≤ p.1 ∧ ∀ j : Nat, j < p.1 → ix l (j : Int) < n) ∧ (p.2.1 = true → ∀ j : Nat, p.1 ≤ j → j < l.length → n < ix l (j : Int))) (fun p => l.length - p.1) (0, false, []) (by simp [sets]) ⟨by simp, by simp, by simp, by simp, fun _ => ⟨by simp, fun j h => by dsimp only at h; omega⟩, by simp⟩ ?_
    rintro ⟨i, d, F⟩ ⟨i0, i1, i2, i3, i4, i5⟩
    dsimp only at i0 i1 i2 i3 i4 i5 ⊢
    by_cases hi : i < l.length
    · have tk : l.take (i + 1) = l.take i ++ [ix l (i : Int)] := by
        rw [List.take_add_one, List.getElem?_eq_getElem hi, ix_nat hi]; rfl
      have lt : ∀ j k : Nat, j < k → k < l.length → ix l (j : Int) < ix l (k : Int) := fun j k h1 h2 => by
        rw [ix_nat (by omega), ix_nat h2]
        exact List.pairwise_iff_getElem.1 ha j k (by omega) h2 h1
      have below : ∀ x ∈ l.take i, x < ix l (i : Int) := fun x hx => by
        obtain ⟨j, hj, e⟩ := List.mem_iff_getElem.1 hx
        have hj' : j < min i l.length := by simpa using hj
        have := lt j i (by omega) hi
        rw [ix_nat (by omega)] at this
        rw [← e]; simpa using this
      have hne : ix l (i : Int) ≠ n := fun e => hc (e ▸ ix_mem (by omega) (by omega))
      cases d with
      | true =>
        have hlt := i5 rfl i (Nat.le_refl _) hi
        simp [-More_nor, hi]
        refine ⟨by split <;> simp, by omega, by omega, More_of (i + 1, true, F ++ [ix l (i : Int)]) (by simp) (by simp) ⟨by dsimp only; omega, ?_, fun x => ?_, by simp; omega, by simp, fun _ j h1 h2 => i5 rfl j (by dsimp only at h1; omega) h2⟩ (by dsimp only; omega)⟩
        · rw [List.pairwise_append]
          refine ⟨i1, by simp, fun a ha' b hb => ?_⟩
          simp at hb; subst hb
          rcases (i2 a).1 ha' with h | ⟨_, h⟩
          · exact below a h
          · omega
        · rw [List.mem_append, i2, tk, List.mem_append]
          simp
          constructor
          · rintro ((h | h) | h)
            · exact .inl (.inl h)
            · exact .inr h
            · exact .inl (.inr h)
          · rintro ((h | h) | h)
            · exact .inl (.inl h)
            · exact .inr h
            · exact .inl (.inr h)
      | false =>
        obtain ⟨i6, i7⟩ := i4 rfl
        have hF : ∀ a ∈ F, a < n := fun a ha' => by
          rcases (i2 a).1 ha' with h | ⟨h, _⟩
          · obtain ⟨j, hj, e⟩ := List.mem_iff_getElem.1 h
            have hj' : j < min i l.length := by simpa using hj
            have := i7 j (by omega)
            rw [ix_nat (by omega)] at this
            rw [← e]; simpa using this
          · simp at h
        have hF2 : ∀ a ∈ F, a < ix l (i : Int) := fun a ha' => by
          rcases (i2 a).1 ha' with h | ⟨h, _⟩
          · exact below a h
          · simp at h
        by_cases hlt : n < ix l (i : Int)
        · simp [-More_nor, hi, hlt]
          refine ⟨by split <;> simp, by omega, by omega, by omega, More_of (i + 1, true, F ++ [n, ix l (i : Int)]) (by simp) (by simp) ⟨by dsimp only; omega, ?_, fun x => ?_, by simp; omega, by simp, fun _ j h1 h2 => ?_⟩ (by dsimp only; omega)⟩
          · rw [List.pairwise_append]
            refine ⟨i1, by simp [hlt], fun a ha' b hb => ?_⟩
            simp at hb
            rcases hb with rfl | rfl
            · exact hF a ha'
            · exact hF2 a ha'
          · rw [List.mem_append, i2, tk, List.mem_append]
            simp
            constructor
            · rintro (h | h | h)
              · exact .inl (.inl h)
              · exact .inr h
              · exact .inl (.inr h)
            · rintro ((h | h) | h)
              · exact .inl h
              · exact .inr (.inr h)
              · exact .inr (.inl h)
          · dsimp only at h1
            rcases Nat.lt_or_eq_of_le h1 with h | h
            · have := lt i j (by omega) h2; omega
            · have := lt i j (by omega) h2; omega
        · simp [-More_nor, hi, hlt]
          refine ⟨by split <;> simp, by omega, by omega, More_of (i + 1, false, F ++ [ix l (i : Int)]) (by simp) (by simp) ⟨by dsimp only; omega, ?_, fun x => ?_, by simp; omega, fun _ => ⟨by simp; omega, fun j hj => ?_⟩, by simp⟩ (by dsimp only; omega)⟩
          · rw [List.pairwise_append]
            refine ⟨i1, by simp, fun a ha' b hb => ?_⟩
            simp at hb; subst hb; exact hF2 a ha'
          · rw [List.mem_append, i2, tk, List.mem_append]; simp
          · by_cases e : j = i
            · subst e; omega
            · exact i7 j (by dsimp only at hj; omega)
    · have ei : i = l.length := by omega
      subst ei
      rw [List.take_length] at i2
      cases d with
      | true =>
        have hv := vd_louI (σ := [louI F]) (b := 0) rfl
        simp [hv]
        exact ⟨F, rfl, i1, fun x => by rw [i2]; simp, by omega⟩
      | false =>
        obtain ⟨i6, i7⟩ := i4 rfl
        have hF : ∀ a ∈ F, a < n := fun a ha' => by
          rcases (i2 a).1 ha' with h | ⟨h, _⟩
          · obtain ⟨j, hj, e⟩ := List.mem_iff_getElem.1 h
            have := i7 j hj
            rwa [ix_nat hj, e] at this
          · simp at h
        have hv := vd_louI (σ := [louI (F ++ [n])]) (b := 0) (out := F ++ [n]) rfl
        have hv' : view [⟨none, F.map .int ++ [.int n], .live⟩] false vd (.sl 0 (F.length + 1) 0 (F.length + 1)) = some (iL (F ++ [n])) := by
          have e : louI (F ++ [n]) = ⟨none, F.map .int ++ [.int n], .live⟩ := by simp [louI]
          rw [e] at hv
          simpa using hv
        simp [hv']
        refine ⟨by split <;> simp, by omega, F ++ [n], by simp, ?_, fun x => ?_, by simp; omega⟩
        · rw [List.pairwise_append]
          refine ⟨i1, by simp, fun a ha' b hb => ?_⟩
          simp at hb; subst hb; exact hF a ha'
        · rw [List.mem_append, i2]; simp
theorem insert_s (l : List Int) (n : Int) (hl : (l.length : Int) ≤ 100000) (ha : l.Pairwise (· < ·)) : ∃ l', PC F_ref06_insert [iL l, .int n] = some (iL l') ∧ l'.Pairwise (· < ·) ∧ (∀ x, x ∈ l' ↔ x ∈ l ∨ x = n) ∧ l'.length ≤ l.length + 1 := by
  obtain ⟨v, σ', h, l', h1, h2⟩ := LX_s (insert_x l n hl ha)
  exact ⟨l', by simp only [PC, PCx, h]; exact h1, h2⟩
theorem ROutputs_s (m : Mly) (h : m.fits) (hv : m.validE = 0) : PC F_ref06_Outputs [m.av] = some (iL m.outz) := by
  have hm := mvalidE_ok hv
  obtain ⟨hf1, hf2⟩ := Ok.outflat hm
  have hml := hm.len
  have hs := hm.states
  have hin := hm.inputs
  have key : LX L F_ref06_Outputs [m.av] [] (fun v σ' => ∃ l, viewT σ' false v = some (iL l) ∧ l.Pairwise (· < ·) ∧ ∀ x, x ∈ l ↔ x ∈ m.out.flatten) := by
    refine go_ref06_Outputs rfl ?_
    simp [-List.mem_flatten, rmValid_s m h, hv]
    refine W_iter (fun p : Nat × Bool × List Int => [(2, .int p.1), (4, if p.2.1 = true then iL p.2.2 else .snil)]) (fun _ => []) (fun p => p.1 ≤ m.out.length ∧ p.2.2.Pairwise (· < ·) ∧ (∀ x, x ∈ p.2.2 ↔ x ∈ (m.out.take p.1).flatten) ∧ p.2.2.length ≤ p.1 * 64 ∧ (p.2.1 = false → p.2.2 = [])) (fun p => m.out.length - p.1) (0, false, []) (by simp [sets]) ⟨by simp, by simp, by simp, by simp, by simp⟩ ?_
    rintro ⟨i, b, l⟩ ⟨i0, i1, i2, i3, i4⟩
    dsimp only at i0 i1 i2 i3 i4 ⊢
    by_cases hi : i < m.out.length
    · have hrow := (hm.row i (by omega) (by omega)).2
      have t1 : (m.out.take (i + 1)).flatten = (m.out.take i).flatten ++ ix m.out (i : Int) := by
        rw [List.take_add_one, List.getElem?_eq_getElem hi, ix_nat hi, List.flatten_append]; simp
      simp [-More_nor, -List.mem_flatten, hi]
      refine W_iter (fun p : Nat × Bool × List Int => [(3, .int p.1), (4, if p.2.1 = true then iL p.2.2 else .snil)]) (fun _ => []) (fun p => (p.1 : Int) ≤ m.inputs ∧ p.2.2.Pairwise (· < ·) ∧ (∀ x, x ∈ p.2.2 ↔ x ∈ (m.out.take i).flatten ∨ x ∈ (ix m.out (i : Int)).take p.1) ∧ p.2.2.length ≤ i * 64 + p.1 ∧ (p.2.1 = false → p.2.2 = [])) (fun p => m.inputs.toNat - p.1) (0, b, l) (by simp [sets]) ⟨by dsimp only; omega, i1, by simpa using i2, by simpa using i3, i4⟩ ?_
      rintro ⟨a, c, k⟩ ⟨a0, a1, a2, a3, a4⟩
      dsimp only at a0 a1 a2 a3 a4 ⊢
      by_cases ha : (a : Int) < m.inputs
      · have har : a < (ix m.out (i : Int)).length := by omega
        have hi64 : i * 64 ≤ 128 * 64 := Nat.mul_le_mul_right _ (by omega)
        obtain ⟨k', g1, g2, g3, g4⟩ := insert_s k (ix (ix m.out (i : Int)) (a : Int)) (by omega) a1
        have ta : (ix m.out (i : Int)).take (a + 1) = (ix m.out (i : Int)).take a ++ [ix (ix m.out (i : Int)) (a : Int)] := by
          rw [List.take_add_one, List.getElem?_eq_getElem har, ix_nat har]; rfl
        have fin : ∀ x, x ∈ k' ↔ x ∈ (m.out.take i).flatten ∨ x ∈ (ix m.out (i : Int)).take (a + 1) := fun x => by
          rw [g3, a2, ta, List.mem_append, List.mem_singleton, or_assoc]
        cases c with
        | true =>
          simp [-More_nor, -List.mem_flatten, hi, ha, har, g1]
          exact ⟨by omega, More_of (a + 1, true, k') (by simp) rfl ⟨by dsimp only; omega, g2, fin, by dsimp only; omega, by simp⟩ (by dsimp only; omega)⟩
        | false =>
          have hk := a4 rfl
          subst hk
          have g1' : PC F_ref06_insert [.imm false [], .int (ix (ix m.out (i : Int)) (a : Int))] = some (iL k') := g1
          simp [-More_nor, -List.mem_flatten, hi, ha, har, g1']
          exact ⟨by omega, More_of (a + 1, true, k') (by simp) rfl ⟨by dsimp only; omega, g2, fin, by dsimp only; omega, by simp⟩ (by dsimp only; omega)⟩
      · have ea : a = (ix m.out (i : Int)).length := by omega
        subst ea
        rw [List.take_length] at a2
        simp [-More_nor, -List.mem_flatten, ha]
        exact ⟨by omega, More_of (i + 1, c, k) (by simp) rfl ⟨by dsimp only; omega, a1, fun x => by dsimp only; rw [t1, List.mem_append]; exact a2 x, by dsimp only; omega, a4⟩ (by dsimp only; omega)⟩
    · have ei : i = m.out.length := by omega
      subst ei
      rw [List.take_length] at i2
      cases b with
      | true =>
        simp [-List.mem_flatten, hi]
        exact ⟨l, rfl, i1, i2⟩
      | false =>
        exfalso
        have := i4 rfl
        subst this
        obtain ⟨x, hx⟩ := List.exists_mem_of_ne_nil _ hf2
        have := (i2 x).2 hx
        simp at this
  obtain ⟨v, σ', h1, l, h2, h3, h4⟩ := LX_s key
  have e : l = m.outz := zasc_eq h3 outz_asc fun x => by rw [h4, outz_mem]
  subst e
  simp only [PC, PCx, h1]; exact h2
end Ab
