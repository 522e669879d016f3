/- Observations that grow. Condition: none. -/
import Derived.Test.YtkedjdfangojmaaChainL
set_option linter.all false
set_option maxRecDepth 100000
set_option maxHeartbeats 4000000
namespace Ab
theorem res_box2 {ce : CE} {a c : AV} {r : List Blk} : ev ce (⟨some 2, [a, c], .live⟩ :: r) 0 [] (fun _ => .ptr 0 (kst (some 2)) 0) (.ld (.v 0) (some 2)) = some (.agg [a, c], none) := (rfl)
theorem copied_s (t : Tr) (h1 : (t.inp.length : Int) ≤ 1000000) (h2 : (t.out.length : Int) ≤ 1000000) : PC F_ref16_copied [t.av] = some t.av := by
  refine PCx_of (go_ref16_copied rfl ?_)
  have e1 : PC F_ref01_Join [.imm false [iL t.inp]] = some (iL t.inp) := by
    have := RJoin_s [t.inp] (by simp) (by simpa using h1)
    rwa [show [t.inp].flatten = t.inp by simp] at this
  have e2 : PC F_ref01_Join [.imm false [iL t.out]] = some (iL t.out) := by
    have := RJoin_s [t.out] (by simp) (by simpa using h2)
    rwa [show [t.out].flatten = t.out by simp] at this
  simp [e1, e2, res_box2]
/-- Traces as cells. -/
def tc (t : Tr) : List AV := [iL t.inp, iL t.out]
def tcs (ts : List Tr) : List AV := ts.flatMap tc
theorem tcs_len : ∀ {ts : List Tr}, (tcs ts).length = 2 * ts.length
  | [] => rfl
  | x :: ts => by
    have := tcs_len (ts := ts)
    show (tc x ++ tcs ts).length = _
    rw [List.length_append, this]
    show 2 + _ = _
    simp; omega
theorem tcs_app {xs ys : List Tr} : tcs (xs ++ ys) = tcs xs ++ tcs ys := by simp [tcs]
theorem tcs_one {x : Tr} : tcs [x] = tc x := by simp [tcs]
theorem chunk_tc : ∀ {xs : List Tr}, chunk (some 2) xs.length (tcs xs) = xs.map fun x => .agg (tc x)
  | [] => rfl
  | x :: xs => by
    have e := chunk_tc (xs := xs)
    rw [List.map_cons, ← e]; rfl
theorem view_tc {σ : List Blk} {k b u n : Nat} {xs : List Tr} {st : BSt} (h : blk σ b = some ⟨some 2, tcs xs, st⟩) (hs : st ≠ .dead) (hn : n = xs.length) (hu : u = 2 * n) : view σ false (k + 3) (.sl b u 0 n) = some (.imm false (xs.map Tr.av)) := by
  subst hu hn
  have hu : upto σ b (2 * xs.length) = some ⟨some 2, tcs xs, st⟩ := by
    unfold upto
    rw [h]
    cases st <;> simp [tcs_len] at hs ⊢
  show view σ false ((k + 2) + 1) _ = _
  unfold view
  simp only [hu, kst, tcs_len, List.drop_zero]
  rw [if_pos (by omega), chunk_tc, mapO_mp (g := Tr.av)]
  intro x hx
  rfl
/-- Some trace begins with the word. -/
def Obs.cov (o : Obs) (q : List Int) : Prop := ∃ t ∈ o.traces, q <+: t.inp
def keepT (t x : Tr) : Prop := ¬ x.inp <+: t.inp ∨ t.inp.length = x.inp.length
/-- The list of traces in memory. -/
def tsl (ts : List Tr) : AV := if ts = [] then .snil else .sl 2 (2 * ts.length) 0 ts.length
def tsb (k : Int) (ts : List Tr) : List Blk := ⟨some 2, [.int 0, .snil], .live⟩ :: ⟨some 2, [.int k, tsl ts], .live⟩ :: (if ts = [] then [] else [⟨some 2, tcs ts, .live⟩])
theorem view_tsb {B0 B1 : Blk} {k : Int} {ts : List Tr} : view (B0 :: B1 :: (if ts = [] then [] else [⟨some 2, tcs ts, .live⟩])) false vd (.agg [.int k, tsl ts]) = some (Obs.av ⟨k, ts⟩) := by
  by_cases h : ts = []
  · subst h; rfl
  · rw [if_neg h]
    have hb : blk (B0 :: B1 :: [⟨some 2, tcs ts, .live⟩]) 2 = some ⟨some 2, tcs ts, .live⟩ := rfl
    have hv := view_tc (k := 8) hb (by simp) rfl rfl
    have e : mapO (view (B0 :: B1 :: [⟨some 2, tcs ts, .live⟩]) false 11) [.int k, tsl ts] = some [.int k, .imm false (ts.map Tr.av)] := by
      simp only [Ab.mapO, tsl, if_neg h, hv]
      rfl
    show (match mapO (view (B0 :: B1 :: [⟨some 2, tcs ts, .live⟩]) false 11) [.int k, tsl ts] with | none => none | some l => some (AV.agg l)) = _
    rw [e]
theorem tsb_nil {k : Int} : tsb k [] = [⟨some 2, [.int 0, .snil], .live⟩, ⟨some 2, [.int k, .snil], .live⟩] := by simp [tsb, tsl]
theorem tsb_ne {k : Int} {ts : List Tr} (h : ts ≠ []) : tsb k ts = [⟨some 2, [.int 0, .snil], .live⟩, ⟨some 2, [.int k, .sl 2 (2 * ts.length) 0 ts.length], .live⟩, ⟨some 2, tcs ts, .live⟩] := by simp [tsb, tsl, h]
/-- What holds while traces are added. -/
def AddI (o : Obs) (t : Tr) (i : Nat) (d : Bool) (ts : List Tr) : Prop := (∀ y ∈ ts, y = t ∨ y ∈ o.traces) ∧ (∀ j : Nat, j < i → keepT t (ix o.traces (j : Int)) → ix o.traces (j : Int) ∈ ts) ∧ (d = true → t ∈ ts ∨ t.inp = [] ∨ ∃ x ∈ o.traces, t.inp <+: x.inp) ∧ ts.length ≤ i + 1 ∧ (d = false → ts.length ≤ i)
theorem AddI.step {o : Obs} {t : Tr} {i : Nat} {d : Bool} {ts : List Tr} (h : AddI o t i d ts) (hx : i < o.traces.length) (d' : Bool) (ts' : List Tr) (A K : Bool) (hK : K = true ↔ keepT t (ix o.traces (i : Int))) (hA : A = true → d = false)
    (h1 : ts' = ts ++ (if A = true then [t] else []) ++ (if K = true then [ix o.traces (i : Int)] else [])) (h2 : d' = (d || A)) : AddI o t (i + 1) d' ts' := by
  obtain ⟨a1, a2, a3, a4, a5⟩ := h
  subst h1 h2
  refine ⟨fun y hy => ?_, fun j hj hk => ?_, fun hd => ?_, ?_, fun hd => ?_⟩
  · rcases List.mem_append.1 hy with hy | hy
    · rcases List.mem_append.1 hy with hy | hy
      · exact a1 y hy
      · cases A <;> simp at hy; exact .inl hy
    · cases K <;> simp at hy; right; rw [hy]; exact ix_get hx
  · by_cases e : j = i
    · subst e
      rw [if_pos (hK.2 hk)]; simp
    · have := a2 j (by omega) hk
      simp [this]
  · cases hA' : A with
    | true => left; simp
    | false =>
      rw [hA'] at hd
      simp at hd
      rcases a3 hd with h | h
      · left; simp [h]
      · exact .inr h
  · cases hA' : A with
    | true => have := a5 (hA hA'); cases K <;> simp <;> omega
    | false => cases K <;> simp <;> omega
  · simp at hd
    have := a5 hd.1
    rw [hd.2]
    cases K <;> simp <;> omega
theorem AddI.fin {o : Obs} {t : Tr} {ts : List Tr} (h : AddI o t o.traces.length true ts) : (∀ y ∈ ts, y = t ∨ y ∈ o.traces) ∧ (∀ x ∈ o.traces, keepT t x → x ∈ ts) ∧ (t ∈ ts ∨ t.inp = [] ∨ ∃ x ∈ o.traces, t.inp <+: x.inp) ∧ ts.length ≤ o.traces.length + 1 := by
  obtain ⟨h1, h2, h3, h4, _⟩ := h
  refine ⟨h1, fun x hx hk => ?_, h3 rfl, h4⟩
  obtain ⟨j, hj, e⟩ := List.mem_iff_getElem.1 hx
  have e' : ix o.traces (j : Int) = x := by rw [ix_nat hj, e]
  have := h2 j hj (by rw [e']; exact hk)
  rwa [e'] at this
theorem AddI.last {o : Obs} {t : Tr} {ts : List Tr} (h : AddI o t o.traces.length false ts) : (∀ y ∈ ts ++ [t], y = t ∨ y ∈ o.traces) ∧ (∀ x ∈ o.traces, keepT t x → x ∈ ts ++ [t]) ∧ (t ∈ ts ++ [t] ∨ t.inp = [] ∨ ∃ x ∈ o.traces, t.inp <+: x.inp) ∧ (ts ++ [t]).length ≤ o.traces.length + 1 := by
  obtain ⟨h1, h2, h3, h4, h5⟩ := h
  have h5 := h5 rfl
  refine ⟨fun y hy => ?_, fun x hx hk => ?_, .inl (by simp), by simp; omega⟩
  · rcases List.mem_append.1 hy with hy | hy
    · exact h1 y hy
    · simp at hy; exact .inl hy
  · obtain ⟨j, hj, e⟩ := List.mem_iff_getElem.1 hx
    have e' : ix o.traces (j : Int) = x := by rw [ix_nat hj, e]
    have := h2 j hj (by rw [e']; exact hk)
    rw [e'] at this
    simp [this]
theorem add_x (o : Obs) (t : Tr) (hl : (o.traces.length : Int) ≤ 100000) (hi : ∀ x ∈ o.traces, (x.inp.length : Int) ≤ 1000000 ∧ (x.out.length : Int) ≤ 1000000) (ht : (t.inp.length : Int) ≤ 1000000 ∧ (t.out.length : Int) ≤ 1000000) :
    LX L F_ref16_add [o.av, t.av] [] (fun v σ' => ∃ ts, v = .agg [.int o.inputs, tsl ts] ∧ (∀ y ∈ ts, y = t ∨ y ∈ o.traces) ∧ (∀ x ∈ o.traces, keepT t x → x ∈ ts) ∧ (t ∈ ts ∨ t.inp = [] ∨ ∃ x ∈ o.traces, t.inp <+: x.inp) ∧ ts.length ≤ o.traces.length + 1 ∧ view σ' false vd v = some (Obs.av ⟨o.inputs, ts⟩)) := by
  refine go_ref16_add rfl ?_
  simp
  refine W_iter (fun p : Nat × Bool => [(4, .int p.1), (5, .bool p.2)]) (fun _ => tsb o.inputs []) (fun p => p.1 ≤ o.traces.length ∧ (p.2 = true ↔ t.inp = [] ∨ ∃ j : Nat, j < p.1 ∧ t.inp <+: (ix o.traces (j : Int)).inp)) (fun p => o.traces.length - p.1) (0, decide (t.inp = [])) (by simp [sets, tsb, tsl]) (by simp) ?_
  rintro ⟨i, b⟩ ⟨i0, i1⟩
  dsimp only at i0 i1 ⊢
  by_cases hx : i < o.traces.length
  · have hm := hi _ (ix_get (l := o.traces) hx)
    have hp := rhasPre_s (ix o.traces (i : Int)).inp t.inp (by omega) (by omega)
    have next : ∀ b' : Bool, (b' = true ↔ b = true ∨ t.inp <+: (ix o.traces (i : Int)).inp) → (b' = true ↔ t.inp = [] ∨ ∃ j : Nat, j < i + 1 ∧ t.inp <+: (ix o.traces (j : Int)).inp) := fun b' h => by
      rw [h, i1]
      constructor
      · rintro ((h | ⟨j, h1, h2⟩) | h)
        · exact .inl h
        · exact .inr ⟨j, by omega, h2⟩
        · exact .inr ⟨i, by omega, h⟩
      · rintro (h | ⟨j, h1, h2⟩)
        · exact .inl (.inl h)
        · by_cases e : j = i
          · subst e; exact .inr h2
          · exact .inl (.inr ⟨j, by omega, h2⟩)
    cases b with
    | true =>
      simp [-More_nor, hx]
      (repeat' apply And.intro) <;> try omega
      exact More_of (i + 1, true) (by simp) (by simp [tsb, tsl]) ⟨by dsimp only; omega, next true (by simp)⟩ (by dsimp only; omega)
    | false =>
      simp [-More_nor, hx, hp]
      (repeat' apply And.intro) <;> try omega
      exact More_of (i + 1, decide (t.inp <+: (ix o.traces (i : Int)).inp)) (by simp) (by simp [tsb, tsl]) ⟨by dsimp only; omega, next _ (by simp)⟩ (by dsimp only; omega)
  · have ei : i = o.traces.length := by omega
    subst ei
    simp [-More_nor]
    refine W_iter (fun p : Nat × Bool × List Tr => [(6, .int p.1), (5, .bool p.2.1)]) (fun p => tsb o.inputs p.2.2) (fun p => p.1 ≤ o.traces.length ∧ AddI o t p.1 p.2.1 p.2.2) (fun p => o.traces.length - p.1) (0, b, []) (by simp [sets]) ⟨by dsimp only; omega, ?_⟩ ?_
    · refine ⟨by simp, by intro j h; omega, fun hb => ?_, by simp, by simp⟩
      rcases i1.1 hb with h | ⟨j, h1, h2⟩
      · exact .inr (.inl h)
      · exact .inr (.inr ⟨_, ix_get h1, h2⟩)
    rintro ⟨i, d, ts⟩ ⟨i0, iv⟩
    dsimp only at i0 iv ⊢
    have hct := copied_s t ht.1 ht.2
    by_cases hx : i < o.traces.length
    · have hm := hi _ (ix_get (l := o.traces) hx)
      have hcx := copied_s (ix o.traces (i : Int)) hm.1 hm.2
      have hpr := rhasPre_s t.inp (ix o.traces (i : Int)).inp (by omega) (by omega)
      have hcm := rcmp_s t.inp (ix o.traces (i : Int)).inp (by omega) (by omega)
      have hlt := iv.2.2.2.1
      by_cases hnil : ts = []
      · subst hnil
        have hk2 := hl
        have hk4 := hl
        cases d with
        | true =>
          by_cases hp : (ix o.traces (i : Int)).inp <+: t.inp
          · rw [decide_eq_true hp] at hpr
            by_cases hl2 : (t.inp.length : Int) = (ix o.traces (i : Int)).inp.length
            · have hK : (true = true) ↔ keepT t (ix o.traces (i : Int)) := ⟨fun _ => .inr (by omega), fun _ => rfl⟩
              have hlk : ((t.inp.length : Int) = (ix o.traces (i : Int)).inp.length) = True := eq_true hl2
              rw [tsb_nil]
              simp [-More_nor, hx, hcx, hct, hpr, hlk, hk2, hk4, tcs_len]
              (repeat' apply And.intro) <;> try omega
              exact More_of (i + 1, true, [ix o.traces (i : Int)]) (by simp) (by rw [tsb_ne (by simp)]; simp [tcs_app, tcs_one, tcs, tc, Nat.mul_add]) ⟨by dsimp only; omega, iv.step hx true ([ix o.traces (i : Int)]) false true hK (fun h => by cases h) (by simp) rfl⟩ (by dsimp only; omega)
            · have hK : (false = true) ↔ keepT t (ix o.traces (i : Int)) := ⟨(fun h => by cases h), fun h => by
                rcases h with h | h
                · exact absurd hp h
                · omega⟩
              have hlk : ((t.inp.length : Int) = (ix o.traces (i : Int)).inp.length) = False := eq_false hl2
              rw [tsb_nil]
              simp [-More_nor, hx, hcx, hct, hpr, hlk, hk2, hk4, tcs_len]
              (repeat' apply And.intro) <;> try omega
              exact More_of (i + 1, true, []) (by simp) (by rw [tsb_nil]) ⟨by dsimp only; omega, iv.step hx true ([]) false false hK (fun h => by cases h) (by simp) rfl⟩ (by dsimp only; omega)
          · rw [decide_eq_false hp] at hpr
            have hK : (true = true) ↔ keepT t (ix o.traces (i : Int)) := ⟨fun _ => .inl hp, fun _ => rfl⟩
            have hlk := hl
            rw [tsb_nil]
            simp [-More_nor, hx, hcx, hct, hpr, hlk, hk2, hk4, tcs_len]
            (repeat' apply And.intro) <;> try omega
            exact More_of (i + 1, true, [ix o.traces (i : Int)]) (by simp) (by rw [tsb_ne (by simp)]; simp [tcs_app, tcs_one, tcs, tc, Nat.mul_add]) ⟨by dsimp only; omega, iv.step hx true ([ix o.traces (i : Int)]) false true hK (fun h => by cases h) (by simp) rfl⟩ (by dsimp only; omega)
        | false =>
          by_cases hA : slxC t.inp (ix o.traces (i : Int)).inp < 0
          · have hlt2 := iv.2.2.2.2 rfl
            by_cases hp : (ix o.traces (i : Int)).inp <+: t.inp
            · rw [decide_eq_true hp] at hpr
              by_cases hl2 : (t.inp.length : Int) = (ix o.traces (i : Int)).inp.length
              · have hK : (true = true) ↔ keepT t (ix o.traces (i : Int)) := ⟨fun _ => .inr (by omega), fun _ => rfl⟩
                have hlk : ((t.inp.length : Int) = (ix o.traces (i : Int)).inp.length) = True := eq_true hl2
                rw [tsb_nil]
                simp [-More_nor, hx, hcx, hct, hpr, hlk, hk2, hk4, tcs_len, hcm, hA]
                (repeat' apply And.intro) <;> try omega
                exact More_of (i + 1, true, [t, ix o.traces (i : Int)]) (by simp) (by rw [tsb_ne (by simp)]; simp [tcs_app, tcs_one, tcs, tc, Nat.mul_add]) ⟨by dsimp only; omega, iv.step hx true ([t, ix o.traces (i : Int)]) true true hK (fun _ => rfl) (by simp) rfl⟩ (by dsimp only; omega)
              · have hK : (false = true) ↔ keepT t (ix o.traces (i : Int)) := ⟨(fun h => by cases h), fun h => by
                  rcases h with h | h
                  · exact absurd hp h
                  · omega⟩
                have hlk : ((t.inp.length : Int) = (ix o.traces (i : Int)).inp.length) = False := eq_false hl2
                rw [tsb_nil]
                simp [-More_nor, hx, hcx, hct, hpr, hlk, hk2, hk4, tcs_len, hcm, hA]
                (repeat' apply And.intro) <;> try omega
                exact More_of (i + 1, true, [t]) (by simp) (by rw [tsb_ne (by simp)]; simp [tcs_app, tcs_one, tcs, tc, Nat.mul_add]) ⟨by dsimp only; omega, iv.step hx true ([t]) true false hK (fun _ => rfl) (by simp) rfl⟩ (by dsimp only; omega)
            · rw [decide_eq_false hp] at hpr
              have hK : (true = true) ↔ keepT t (ix o.traces (i : Int)) := ⟨fun _ => .inl hp, fun _ => rfl⟩
              have hlk := hl
              rw [tsb_nil]
              simp [-More_nor, hx, hcx, hct, hpr, hlk, hk2, hk4, tcs_len, hcm, hA]
              (repeat' apply And.intro) <;> try omega
              exact More_of (i + 1, true, [t, ix o.traces (i : Int)]) (by simp) (by rw [tsb_ne (by simp)]; simp [tcs_app, tcs_one, tcs, tc, Nat.mul_add]) ⟨by dsimp only; omega, iv.step hx true ([t, ix o.traces (i : Int)]) true true hK (fun _ => rfl) (by simp) rfl⟩ (by dsimp only; omega)
          · have hlt2 := iv.2.2.2.2 rfl
            by_cases hp : (ix o.traces (i : Int)).inp <+: t.inp
            · rw [decide_eq_true hp] at hpr
              by_cases hl2 : (t.inp.length : Int) = (ix o.traces (i : Int)).inp.length
              · have hK : (true = true) ↔ keepT t (ix o.traces (i : Int)) := ⟨fun _ => .inr (by omega), fun _ => rfl⟩
                have hlk : ((t.inp.length : Int) = (ix o.traces (i : Int)).inp.length) = True := eq_true hl2
                rw [tsb_nil]
                simp [-More_nor, hx, hcx, hct, hpr, hlk, hk2, hk4, tcs_len, hcm, hA]
                (repeat' apply And.intro) <;> try omega
                exact More_of (i + 1, false, [ix o.traces (i : Int)]) (by simp) (by rw [tsb_ne (by simp)]; simp [tcs_app, tcs_one, tcs, tc, Nat.mul_add]) ⟨by dsimp only; omega, iv.step hx false ([ix o.traces (i : Int)]) false true hK (fun h => by cases h) (by simp) rfl⟩ (by dsimp only; omega)
              · have hK : (false = true) ↔ keepT t (ix o.traces (i : Int)) := ⟨(fun h => by cases h), fun h => by
                  rcases h with h | h
                  · exact absurd hp h
                  · omega⟩
                have hlk : ((t.inp.length : Int) = (ix o.traces (i : Int)).inp.length) = False := eq_false hl2
                rw [tsb_nil]
                simp [-More_nor, hx, hcx, hct, hpr, hlk, hk2, hk4, tcs_len, hcm, hA]
                (repeat' apply And.intro) <;> try omega
                exact More_of (i + 1, false, []) (by simp) (by rw [tsb_nil]) ⟨by dsimp only; omega, iv.step hx false ([]) false false hK (fun h => by cases h) (by simp) rfl⟩ (by dsimp only; omega)
            · rw [decide_eq_false hp] at hpr
              have hK : (true = true) ↔ keepT t (ix o.traces (i : Int)) := ⟨fun _ => .inl hp, fun _ => rfl⟩
              have hlk := hl
              rw [tsb_nil]
              simp [-More_nor, hx, hcx, hct, hpr, hlk, hk2, hk4, tcs_len, hcm, hA]
              (repeat' apply And.intro) <;> try omega
              exact More_of (i + 1, false, [ix o.traces (i : Int)]) (by simp) (by rw [tsb_ne (by simp)]; simp [tcs_app, tcs_one, tcs, tc, Nat.mul_add]) ⟨by dsimp only; omega, iv.step hx false ([ix o.traces (i : Int)]) false true hK (fun h => by cases h) (by simp) rfl⟩ (by dsimp only; omega)
      · have hk2 : (2 * ts.length = ts.length * kst (some 2)) = True := eq_true (by simp [kst]; omega)
        have hk4 : (2 * ts.length + 2 = (ts.length + 1) * kst (some 2)) = True := eq_true (by simp [kst]; omega)
        cases d with
        | true =>
          by_cases hp : (ix o.traces (i : Int)).inp <+: t.inp
          · rw [decide_eq_true hp] at hpr
            by_cases hl2 : (t.inp.length : Int) = (ix o.traces (i : Int)).inp.length
            · have hK : (true = true) ↔ keepT t (ix o.traces (i : Int)) := ⟨fun _ => .inr (by omega), fun _ => rfl⟩
              have hlk : ((t.inp.length : Int) = (ix o.traces (i : Int)).inp.length) = True := eq_true hl2
              rw [tsb_ne hnil]
              simp [-More_nor, hx, hcx, hct, hpr, hlk, hk2, hk4, tcs_len]
              (repeat' apply And.intro) <;> try omega
              exact More_of (i + 1, true, ts ++ [ix o.traces (i : Int)]) (by simp) (by rw [tsb_ne (by simp)]; simp [tcs_app, tcs_one, tcs, tc, Nat.mul_add]) ⟨by dsimp only; omega, iv.step hx true (ts ++ [ix o.traces (i : Int)]) false true hK (fun h => by cases h) (by simp) rfl⟩ (by dsimp only; omega)
            · have hK : (false = true) ↔ keepT t (ix o.traces (i : Int)) := ⟨(fun h => by cases h), fun h => by
                rcases h with h | h
                · exact absurd hp h
                · omega⟩
              have hlk : ((t.inp.length : Int) = (ix o.traces (i : Int)).inp.length) = False := eq_false hl2
              rw [tsb_ne hnil]
              simp [-More_nor, hx, hcx, hct, hpr, hlk, hk2, hk4, tcs_len]
              (repeat' apply And.intro) <;> try omega
              exact More_of (i + 1, true, ts) (by simp) (by rw [tsb_ne hnil]) ⟨by dsimp only; omega, iv.step hx true (ts) false false hK (fun h => by cases h) (by simp) rfl⟩ (by dsimp only; omega)
          · rw [decide_eq_false hp] at hpr
            have hK : (true = true) ↔ keepT t (ix o.traces (i : Int)) := ⟨fun _ => .inl hp, fun _ => rfl⟩
            have hlk := hl
            rw [tsb_ne hnil]
            simp [-More_nor, hx, hcx, hct, hpr, hlk, hk2, hk4, tcs_len]
            (repeat' apply And.intro) <;> try omega
            exact More_of (i + 1, true, ts ++ [ix o.traces (i : Int)]) (by simp) (by rw [tsb_ne (by simp)]; simp [tcs_app, tcs_one, tcs, tc, Nat.mul_add]) ⟨by dsimp only; omega, iv.step hx true (ts ++ [ix o.traces (i : Int)]) false true hK (fun h => by cases h) (by simp) rfl⟩ (by dsimp only; omega)
        | false =>
          by_cases hA : slxC t.inp (ix o.traces (i : Int)).inp < 0
          · have hlt2 := iv.2.2.2.2 rfl
            by_cases hp : (ix o.traces (i : Int)).inp <+: t.inp
            · rw [decide_eq_true hp] at hpr
              by_cases hl2 : (t.inp.length : Int) = (ix o.traces (i : Int)).inp.length
              · have hK : (true = true) ↔ keepT t (ix o.traces (i : Int)) := ⟨fun _ => .inr (by omega), fun _ => rfl⟩
                have hlk : ((t.inp.length : Int) = (ix o.traces (i : Int)).inp.length) = True := eq_true hl2
                rw [tsb_ne hnil]
                simp [-More_nor, hx, hcx, hct, hpr, hlk, hk2, hk4, tcs_len, hcm, hA]
                (repeat' apply And.intro) <;> try omega
                exact More_of (i + 1, true, ts ++ [t, ix o.traces (i : Int)]) (by simp) (by rw [tsb_ne (by simp)]; simp [tcs_app, tcs_one, tcs, tc, Nat.mul_add]) ⟨by dsimp only; omega, iv.step hx true (ts ++ [t, ix o.traces (i : Int)]) true true hK (fun _ => rfl) (by simp) rfl⟩ (by dsimp only; omega)
              · have hK : (false = true) ↔ keepT t (ix o.traces (i : Int)) := ⟨(fun h => by cases h), fun h => by
                  rcases h with h | h
                  · exact absurd hp h
                  · omega⟩
                have hlk : ((t.inp.length : Int) = (ix o.traces (i : Int)).inp.length) = False := eq_false hl2
                rw [tsb_ne hnil]
                simp [-More_nor, hx, hcx, hct, hpr, hlk, hk2, hk4, tcs_len, hcm, hA]
                (repeat' apply And.intro) <;> try omega
                exact More_of (i + 1, true, ts ++ [t]) (by simp) (by rw [tsb_ne (by simp)]; simp [tcs_app, tcs_one, tcs, tc, Nat.mul_add]) ⟨by dsimp only; omega, iv.step hx true (ts ++ [t]) true false hK (fun _ => rfl) (by simp) rfl⟩ (by dsimp only; omega)
            · rw [decide_eq_false hp] at hpr
              have hK : (true = true) ↔ keepT t (ix o.traces (i : Int)) := ⟨fun _ => .inl hp, fun _ => rfl⟩
              have hlk := hl
              rw [tsb_ne hnil]
              simp [-More_nor, hx, hcx, hct, hpr, hlk, hk2, hk4, tcs_len, hcm, hA]
              (repeat' apply And.intro) <;> try omega
              exact More_of (i + 1, true, ts ++ [t, ix o.traces (i : Int)]) (by simp) (by rw [tsb_ne (by simp)]; simp [tcs_app, tcs_one, tcs, tc, Nat.mul_add]) ⟨by dsimp only; omega, iv.step hx true (ts ++ [t, ix o.traces (i : Int)]) true true hK (fun _ => rfl) (by simp) rfl⟩ (by dsimp only; omega)
          · have hlt2 := iv.2.2.2.2 rfl
            by_cases hp : (ix o.traces (i : Int)).inp <+: t.inp
            · rw [decide_eq_true hp] at hpr
              by_cases hl2 : (t.inp.length : Int) = (ix o.traces (i : Int)).inp.length
              · have hK : (true = true) ↔ keepT t (ix o.traces (i : Int)) := ⟨fun _ => .inr (by omega), fun _ => rfl⟩
                have hlk : ((t.inp.length : Int) = (ix o.traces (i : Int)).inp.length) = True := eq_true hl2
                rw [tsb_ne hnil]
                simp [-More_nor, hx, hcx, hct, hpr, hlk, hk2, hk4, tcs_len, hcm, hA]
                (repeat' apply And.intro) <;> try omega
                exact More_of (i + 1, false, ts ++ [ix o.traces (i : Int)]) (by simp) (by rw [tsb_ne (by simp)]; simp [tcs_app, tcs_one, tcs, tc, Nat.mul_add]) ⟨by dsimp only; omega, iv.step hx false (ts ++ [ix o.traces (i : Int)]) false true hK (fun h => by cases h) (by simp) rfl⟩ (by dsimp only; omega)
              · have hK : (false = true) ↔ keepT t (ix o.traces (i : Int)) := ⟨(fun h => by cases h), fun h => by
                  rcases h with h | h
                  · exact absurd hp h
                  · omega⟩
                have hlk : ((t.inp.length : Int) = (ix o.traces (i : Int)).inp.length) = False := eq_false hl2
                rw [tsb_ne hnil]
                simp [-More_nor, hx, hcx, hct, hpr, hlk, hk2, hk4, tcs_len, hcm, hA]
                (repeat' apply And.intro) <;> try omega
                exact More_of (i + 1, false, ts) (by simp) (by rw [tsb_ne hnil]) ⟨by dsimp only; omega, iv.step hx false (ts) false false hK (fun h => by cases h) (by simp) rfl⟩ (by dsimp only; omega)
            · rw [decide_eq_false hp] at hpr
              have hK : (true = true) ↔ keepT t (ix o.traces (i : Int)) := ⟨fun _ => .inl hp, fun _ => rfl⟩
              have hlk := hl
              rw [tsb_ne hnil]
              simp [-More_nor, hx, hcx, hct, hpr, hlk, hk2, hk4, tcs_len, hcm, hA]
              (repeat' apply And.intro) <;> try omega
              exact More_of (i + 1, false, ts ++ [ix o.traces (i : Int)]) (by simp) (by rw [tsb_ne (by simp)]; simp [tcs_app, tcs_one, tcs, tc, Nat.mul_add]) ⟨by dsimp only; omega, iv.step hx false (ts ++ [ix o.traces (i : Int)]) false true hK (fun h => by cases h) (by simp) rfl⟩ (by dsimp only; omega)
    · have ei : i = o.traces.length := by omega
      subst ei
      by_cases hnil : ts = []
      · subst hnil
        have hk2 := hl
        cases d with
        | true =>
          rw [tsb_nil]
          have hf := iv.fin
          simp [hct, hk2, tcs_len, res_box2]
          exact ⟨[], by simp [tsl], hf.1, hf.2.1, hf.2.2.1, hf.2.2.2, rfl⟩
        | false =>
          rw [tsb_nil]
          have hf := iv.last
          have hv : view [⟨some 2, [.int o.inputs, .sl 2 2 0 1], .live⟩, ⟨some 2, [.int o.inputs, .sl 2 2 0 1], .live⟩, ⟨some 2, [.imm false (t.inp.map .int), .imm false (t.out.map .int)], .live⟩] false 11 (.sl 2 2 0 1) = some (.imm false ([t].map Tr.av)) := view_tc (k := 8) (xs := [t]) (st := .live) rfl (by simp) rfl rfl
          simp [hct, hk2, tcs_len, res_box2, hv]
          exact ⟨[t], by simp [tsl], hf.1, hf.2.1, hf.2.2.1, hf.2.2.2, rfl⟩
      · have hk2 : (2 * ts.length = ts.length * kst (some 2)) = True := eq_true (by simp [kst]; omega)
        cases d with
        | true =>
          rw [tsb_ne hnil]
          have hf := iv.fin
          have hv : view [⟨some 2, [.int o.inputs, .sl 2 (2 * ts.length) 0 ts.length], .live⟩, ⟨some 2, [.int o.inputs, .sl 2 (2 * ts.length) 0 ts.length], .live⟩, ⟨some 2, tcs ts, .live⟩] false 11 (.sl 2 (2 * ts.length) 0 ts.length) = some (.imm false (ts.map Tr.av)) := view_tc (k := 8) (xs := ts) (st := .live) rfl (by simp) rfl rfl
          simp [hct, hk2, tcs_len, res_box2, hv]
          exact ⟨ts, by simp [tsl, hnil], hf.1, hf.2.1, hf.2.2.1, hf.2.2.2, rfl⟩
        | false =>
          rw [tsb_ne hnil]
          have hf := iv.last
          have hv : view [⟨some 2, [.int o.inputs, .sl 2 (2 * ts.length + 2) 0 (ts.length + 1)], .live⟩, ⟨some 2, [.int o.inputs, .sl 2 (2 * ts.length + 2) 0 (ts.length + 1)], .live⟩, ⟨some 2, tcs ts ++ [.imm false (t.inp.map .int), .imm false (t.out.map .int)], .live⟩] false 11 (.sl 2 (2 * ts.length + 2) 0 (ts.length + 1)) = some (.imm false ((ts ++ [t]).map Tr.av)) := view_tc (k := 8) (xs := ts ++ [t]) (st := .live) (by rw [tcs_app, tcs_one]; rfl) (by simp) (by simp) (by simp [Nat.mul_add])
          simp [hct, hk2, tcs_len, res_box2, hv, -List.map_append]
          have hq := hf.2.2.2
          rw [List.length_append, List.length_singleton] at hq
          refine ⟨by omega, ts ++ [t], by simp [tsl, Nat.mul_add], hf.1, hf.2.1, hf.2.2.1, hf.2.2.2, rfl⟩
theorem add_s (o : Obs) (t : Tr) (hl : (o.traces.length : Int) ≤ 100000) (hi : ∀ x ∈ o.traces, (x.inp.length : Int) ≤ 1000000 ∧ (x.out.length : Int) ≤ 1000000) (ht : (t.inp.length : Int) ≤ 1000000 ∧ (t.out.length : Int) ≤ 1000000) :
    ∃ ts, PC F_ref16_add [o.av, t.av] = some (Obs.av ⟨o.inputs, ts⟩) ∧ (∀ y ∈ ts, y = t ∨ y ∈ o.traces) ∧ (∀ x ∈ o.traces, keepT t x → x ∈ ts) ∧ (t ∈ ts ∨ t.inp = [] ∨ ∃ x ∈ o.traces, t.inp <+: x.inp) ∧ ts.length ≤ o.traces.length + 1 := by
  obtain ⟨v, σ', h, ts, rfl, h1, h2, h3, h4, h5⟩ := LX_s (add_x o t hl hi ht)
  exact ⟨ts, by simp only [PC, PCx, h]; exact h5, h1, h2, h3, h4⟩
/-- What the added trace covers. -/
theorem add_cov {o : Obs} {t : Tr} {ts : List Tr} (h2 : ∀ x ∈ o.traces, keepT t x → x ∈ ts) (h3 : t ∈ ts ∨ t.inp = [] ∨ ∃ x ∈ o.traces, t.inp <+: x.inp) (hne : t.inp ≠ []) : Obs.cov ⟨o.inputs, ts⟩ t.inp := by
  rcases h3 with h | h | ⟨x, hx, hp⟩
  · exact ⟨t, h, List.prefix_refl _⟩
  · exact absurd h hne
  · refine ⟨x, h2 x hx ?_, hp⟩
    by_cases hl : t.inp.length = x.inp.length
    · exact .inr hl
    · refine .inl fun hq => hl ?_
      have := hp.length_le
      have := hq.length_le
      omega
theorem add_old {o : Obs} {t : Tr} {ts : List Tr} (h2 : ∀ x ∈ o.traces, keepT t x → x ∈ ts) (h3 : t ∈ ts ∨ t.inp = [] ∨ ∃ x ∈ o.traces, t.inp <+: x.inp) {q : List Int} (hq : o.cov q) : Obs.cov ⟨o.inputs, ts⟩ q := by
  obtain ⟨x, hx, hp⟩ := hq
  by_cases hk : keepT t x
  · exact ⟨x, h2 x hx hk, hp⟩
  · have hk' : x.inp <+: t.inp ∧ ¬ t.inp.length = x.inp.length := by
      unfold keepT at hk
      rw [not_or] at hk
      exact ⟨Classical.byContradiction fun h => hk.1 h, hk.2⟩
    have hne : t.inp ≠ [] := fun e => by
      have := hk'.1.length_le
      rw [e] at this
      have h3 := hk'.2
      rw [e] at h3
      simp only [List.length_nil] at this h3
      omega
    obtain ⟨y, hy, hp2⟩ := add_cov h2 h3 hne
    exact ⟨y, hy, hp.trans (hk'.1.trans hp2)⟩
end Ab
