/- A word that distinguishes a mutant removes it. Condition: none. -/
import Derived.Test.YtchamabaodnjkaaMutJ
set_option linter.all false
set_option maxRecDepth 100000
set_option maxHeartbeats 4000000
namespace Ab
theorem gfails_asc_all {a b : Mly} (ha : a.Ok) (hb : b.Ok) (hi : a.inputs = b.inputs) {s t : Int} (hs : 0 ≤ s ∧ s < (a.next.length : Int)) (ht : 0 ≤ t ∧ t < (b.next.length : Int)) {w : List Int} (h : dist a b s t = some w) : (∀ x ∈ w, 0 ≤ x ∧ x < a.inputs) ∧ w ≠ [] ∧ (w.length : Int) ≤ a.next.length * b.next.length ∧ a.outs s w ≠ b.outs t w := by
  have hG := pgr ha hb hi
  have ok0 : pok a b (s, t) := ⟨hs, ht⟩
  obtain ⟨⟨u, x, p, e, hw, hr, hn⟩, _⟩ := gfirst_some hG ok0 h
  refine ⟨hw, by rw [e]; simp, ?_, ?_⟩
  · unfold dist gfirst at h
    obtain ⟨y, hy, hyw⟩ := Option.map_eq_some_iff.1 h
    obtain ⟨pl, hp, _, _, _, h4⟩ := gfails_mem.1 (List.mem_of_head? hy)
    have hf := gplaces_gf hG ok0
    obtain ⟨j, hj, rfl⟩ := List.mem_iff_getElem.1 hp
    have hl := hf.gq.len j (by omega) (by omega)
    rw [ix_nat hj] at hl
    have hle := hf.gq.le hG
    rw [← hyw, h4]
    simp only [List.length_append, List.length_cons, List.length_nil]
    have : ((a.next.length * b.next.length : Nat) : Int) = (a.next.length : Int) * b.next.length := Int.natCast_mul _ _
    omega
  · rw [e] at hw ⊢
    rw [prun] at hr
    split at hr
    · rename_i he
      injection hr with hr
      subst hr
      unfold pnx at hn
      split at hn
      · simp at hn
      · rename_i hne
        rw [outs_app, outs_app, he]
        intro hc
        have hc := List.append_cancel_left hc
        simp only [Mly.outs, List.cons.injEq, and_true] at hc
        exact hne hc
    · simp at hr
theorem pass_app {m n : Mly} {ws : List (List Int)} {w : List Int} : pass m n (ws ++ [w]) = (pass m n ws && decide ((m.from m.start w).1 = (n.from n.start w).1)) := by
  unfold pass; simp
theorem wordsE_app {ws : List (List Int)} {w : List Int} {k : Int} (h1 : wordsE ws k = 0) (h2 : wordE w k = 0) : wordsE (ws ++ [w]) k = 0 := by
  have h1 := firstN_eq.1 h1
  refine firstN_none fun j j0 j1 => ?_
  by_cases e : j < (ws.length : Int)
  · rw [ixa_app j0 e]; exact h1 j j0 e
  · simp at j1
    rw [show j = (ws.length : Int) by omega, ixa_last]; exact h2
theorem sub_eqInts (x y : Mut) : eqInts [.int x.kind, .int x.st, .int x.inp, .int x.val, .int x.val2] [.int y.kind, .int y.st, .int y.inp, .int y.val, .int y.val2] = some (decide (x.kind = y.kind) && (decide (x.st = y.st) && (decide (x.inp = y.inp) && (decide (x.val = y.val) && (decide (x.val2 = y.val2) && true))))) := rfl

theorem Mut.eqI {x y : Mut} : (x.kind = y.kind ∧ x.st = y.st ∧ x.inp = y.inp ∧ x.val = y.val ∧ x.val2 = y.val2) ↔ x = y := by
  cases x; cases y; simp
theorem filter_at {p : Mut → Bool} {l : List Mut} {i : Nat} (h : i < l.length) (hp : p (ix l (i : Int)) = true) : ((l.take i).filter p).length < (l.filter p).length ∧ ix (l.filter p) (((l.take i).filter p).length : Int) = ix l (i : Int) := by
  have e : l.filter p = (l.take i).filter p ++ (ix l (i : Int) :: (l.drop (i + 1)).filter p) := by
    conv => lhs; rw [← List.take_append_drop i l]
    rw [List.filter_append]
    congr 1
    have := drop_ix (l := l) (i := (i : Int)) (by omega) (by omega)
    rw [show ((i : Int) + 1).toNat = i + 1 by omega, Int.toNat_natCast] at this
    rw [this, List.filter_cons, if_pos hp]
  refine ⟨by rw [e]; simp, ?_⟩
  rw [e]
  generalize ix l (i : Int) = y
  unfold ix
  rw [List.getD_eq_getElem?_getD, Int.toNat_natCast, List.getElem?_append_right (Nat.le_refl _)]
  simp
/-- The survivors of one more word. -/
def pLast (m : Mly) (w : List Int) (x : Mut) : Bool := decide ((m.from m.start w).1 = ((m.chg x).from (m.chg x).start w).1)
theorem surv_app {m : Mly} {ws : List (List Int)} {w : List Int} (h1 : m.survE ws = 0) (h2 : wordE w m.inputs = 0) : m.survE (ws ++ [w]) = 0 ∧ m.survL (ws ++ [w]) = (m.survL ws).filter (pLast m w) := by
  have ha : m.allE = 0 := by
    unfold Mly.survE at h1
    split at h1
    · rename_i h; exact absurd h1 h
    · rename_i h; simpa using h
  have hw : wordsE ws m.inputs = 0 := by
    unfold Mly.survE at h1
    rwa [if_neg (by simpa using ha)] at h1
  have hw2 := wordsE_app hw h2
  refine ⟨by unfold Mly.survE; rw [if_neg (by simpa using ha), hw2], ?_⟩
  unfold Mly.survL
  rw [if_neg (by simp [ha, hw2]), if_neg (by simp [ha, hw]), List.filter_filter]
  congr 1
  funext x
  unfold mlive pLast
  rw [pass_app]
  cases pass m (m.chg x) ws <;> simp
theorem from_run {m : Mly} (hv : m.validE = 0) {w : List Int} (h : wordE w m.inputs = 0) : (m.from m.start w).1 = m.outs m.start w := by
  have hm := mvalidE_ok hv
  have hs := hm.start
  unfold Mly.from
  rw [if_neg (by simpa using hv), if_neg (by omega), if_neg (by simpa using h)]
theorem wordE_zero {w : List Int} {k : Int} (h1 : 1 ≤ k) (h2 : k ≤ 1024) (h3 : (w.length : Int) ≤ 1024) (h4 : ∀ x ∈ w, 0 ≤ x ∧ x < k) : wordE w k = 0 := by
  unfold wordE
  rw [if_neg (by omega), if_neg (by omega), bad_f.2 h4]; rfl
/-- The first survivor falls by the word that tells it. -/
theorem surv_head {m : Mly} (hv : m.validE = 0) (h6 : (m.next.length : Int) ≤ 6) {ws : List (List Int)} {x : Mut} (hx : x ∈ m.survL ws) : ∃ w, dist m (m.chg x) m.start (m.chg x).start = some w ∧ wordE w m.inputs = 0 ∧ pLast m w x = false ∧ x ∈ m.allM := by
  have hm := mvalidE_ok hv
  have hxa : x ∈ m.allL := by
    unfold Mly.survL at hx
    split at hx
    · simp at hx
    · exact (List.mem_filter.1 hx).1
  have hl : mlive m ws x = true := by
    unfold Mly.survL at hx
    split at hx
    · simp at hx
    · exact (List.mem_filter.1 hx).2
  have hxm := allL_sub hxa
  obtain ⟨f1, f2⟩ := allM_fits hm hxm
  have hcok := chg_ok hm f1 f2
  unfold mlive at hl
  rw [Bool.and_eq_true] at hl
  obtain ⟨w, hw⟩ := Option.isSome_iff_exists.1 hl.2
  have hci := chg_inputs (m := m) (x := x)
  have hcl := chg_len (m := m) (x := x)
  have hin := hm.inputs
  have hst := hm.states
  obtain ⟨g1, g2, g3, g4⟩ := gfails_asc_all hm hcok hci.symm hm.start hcok.start hw
  have hml : (m.next.length : Int) * (m.chg x).next.length ≤ 6 * 7 := by
    have h7 : ((m.chg x).next.length : Int) ≤ 7 := by rw [hcl]; split <;> omega
    exact Int.le_trans (Int.mul_le_mul_of_nonneg_right h6 (by omega)) (Int.mul_le_mul_of_nonneg_left h7 (by omega))
  have hwe : wordE w m.inputs = 0 := wordE_zero hin.1 (by omega) (by omega) g1
  refine ⟨w, hw, hwe, ?_, hxm⟩
  unfold pLast
  rw [from_run hv hwe, from_run (ok_valid hcok) (by rw [hci]; exact hwe)]
  simpa using g4
theorem MutantDetects_l (aw : PC F_law33_exampleHolds [] = some (.bool true)) (m : Mly) (h : m.fits) (ws : List (List Int)) (hw : okII ws) : PC F_law33_MutantDetects [m.av, iLL ws] = some (.bool true) := by
  refine PCx_of (go_law33_MutantDetects rfl ?_)
  have hws : ∀ w ∈ ws, (w.length : Int) ≤ 9223372036854775807 := fun w h => (hw.2 w h).1
  have e1 := Survivors_f m h ws hw.1 hws
  have e4 := Small_s m h
  obtain ⟨b, e5, hb⟩ := few_s ws hw.1
  cases hs : m.small with
  | false => simp [e4, hs, aw]
  | true =>
    by_cases h6 : 6 < (m.next.length : Int)
    · simp [e4, hs, aw, h6]
    by_cases h7 : 3 < m.inputs
    · simp [e4, hs, aw, h6, h7]
    cases b with
    | false => simp [e4, hs, aw, h6, h7, e5]
    | true =>
      obtain ⟨hb1, hb2⟩ := hb rfl
      by_cases hv : m.validE = 0
      case neg => simp [e4, hs, aw, h6, h7, e5, rmValid_s m h, hv]
      obtain ⟨v1, σ1, c1, c2⟩ := LX_s e1
      by_cases he : m.survE ws = 0
      case neg =>
        have hz : m.survL ws = [] := by
          unfold Mly.survL
          by_cases ha : m.allE = 0
          · unfold Mly.survE at he
            rw [if_neg (by simpa using ha)] at he
            rw [if_pos (.inr he)]
          · rw [if_pos (.inl ha)]
        rw [hz] at c2
        simp [e4, hs, aw, h6, h7, e5, rmValid_s m h, hv, c1, c2, he]
      by_cases hz : m.survL ws = []
      · rw [hz] at c2
        simp [e4, hs, aw, h6, h7, e5, rmValid_s m h, hv, c1, c2, he]
      · have hlp : 0 < (m.survL ws).length := List.length_pos_iff.2 hz
        have hz' : ((m.survL ws).length = 0) = False := eq_false (by omega)
        obtain ⟨w, d1, d2, d3, d4⟩ := surv_head hv (by omega) (ix_mem (l := m.survL ws) (n := 0) (by omega) (by omega))
        have hm := mvalidE_ok hv
        obtain ⟨f1, f2⟩ := allM_fits hm d4
        have happ := Apply_s m h (ix (m.survL ws) 0)
        have eap : m.apply (ix (m.survL ws) 0) = (m.chg (ix (m.survL ws) 0), 0) := by
          unfold Mly.apply
          rw [if_neg (by simpa using hv), if_neg (by simpa using f1), if_neg (by rintro ⟨h1, h2⟩; have := f2 h1; omega)]
        rw [eap] at happ
        have hcf := ok_fits (chg_ok hm f1 f2)
        have hdis := Distinguish_s m (m.chg (ix (m.survL ws) 0)) h hcf
        have hde : disE m (m.chg (ix (m.survL ws) 0)) = (some w, 0) := by
          unfold disE
          rw [if_neg (by simpa using chg_chk hv d4), d1]
        rw [hde] at hdis
        have hwl := wordE_ok d2
        have e2 := Survivors_f m h (ws ++ [w]) (by simp; omega) (fun v hv => by
          rcases List.mem_append.1 hv with hv | hv
          · exact hws v hv
          · simp at hv; subst hv; omega)
        obtain ⟨q1, q2⟩ := surv_app he d2
        rw [q1, q2] at e2
        obtain ⟨v2, σ2, c3, c4⟩ := LX_s e2
        generalize m.chg (ix (m.survL ws) 0) = M at *
        generalize hS : m.survL ws = S at *
        rw [he] at c2
        have hlt : (S.filter (pLast m w)).length < S.length := by
          have : (S.filter (pLast m w)).length ≤ (S.drop 1).length := by
            have e := drop_ix (l := S) (i := 0) (by omega) (by omega)
            rw [show (0 : Int).toNat = 0 from rfl, List.drop_zero, show ((0 : Int) + 1).toNat = 1 from rfl] at e
            conv => lhs; rw [e]
            rw [List.filter_cons, if_neg (by simp [d3])]
            exact List.length_filter_le _ _
          simp at this; omega
        have hhead : ¬ (S.filter (pLast m w)).length = 0 → ¬ ix (S.filter (pLast m w)) 0 = ix S 0 := fun hn e => by
          have := (List.mem_filter.1 (ix_mem (l := S.filter (pLast m w)) (n := 0) (by omega) (by omega))).2
          rw [e, d3] at this
          simp at this
        have hSl : (S.length : Int) ≤ 10000 := by rw [← hS]; exact survL_len
        have klp : ∀ (σ : List Blk) (Q : Ex → St → Prop), Q (.exit 0) ⟨[.und, .und, .und, .und, .imm false (S.map Mut.av), .und, .und, .und, .und, .und, .und, .imm false ((S.filter (pLast m w)).map Mut.av), .int S.length, .int S.length, .int (S.filter (pLast m w)).length, .und, .und], none, σ⟩ → W L b_law33_MutantDetects_0.loop ⟨[.und, .und, .und, .und, .imm false (S.map Mut.av), .und, .und, .und, .und, .und, .und, .imm false ((S.filter (pLast m w)).map Mut.av), .int 0, .int S.length, .int 0, .und, .und], none, σ⟩ Q := by
          intro σ Q hQ
          refine W_iter (fun i : Nat => [(12, .int i), (14, .int ((S.take i).filter (pLast m w)).length)]) (fun _ => σ) (fun i => i ≤ S.length) (fun i => S.length - i) 0 (by simp [sets]) (by omega) ?_
          intro i hi
          by_cases hi' : i < S.length
          · have ft := filter_take (p := pLast m w) hi'
            have fle : ((S.take i).filter (pLast m w)).length ≤ i := by
              have := List.length_filter_le (pLast m w) (S.take i)
              rw [List.length_take] at this; omega
            cases hp : pLast m w (ix S (i : Int)) with
            | true =>
              obtain ⟨z1, z2⟩ := filter_at hi' hp
              rw [hp, if_pos rfl] at ft
              generalize (S.take i).filter (pLast m w) = A at *
              generalize S.filter (pLast m w) = B at *
              simp [-More_nor, hi', z1, z2]
              exact ⟨by omega, by omega, More_of (i + 1) (by simp [ft]) rfl (by omega) (by omega)⟩
            | false =>
              have hne : ¬ ix (S.filter (pLast m w)) (((S.take i).filter (pLast m w)).length : Int) = ix S (i : Int) ∨ ¬ ((S.take i).filter (pLast m w)).length < (S.filter (pLast m w)).length := by
                by_cases hlt2 : ((S.take i).filter (pLast m w)).length < (S.filter (pLast m w)).length
                · refine .inl fun e => ?_
                  have := (List.mem_filter.1 (ix_mem (l := S.filter (pLast m w)) (n := (((S.take i).filter (pLast m w)).length : Int)) (by omega) (by omega))).2
                  rw [e, hp] at this
                  simp at this
                · exact .inr hlt2
              rw [hp] at ft
              simp only [Bool.false_eq_true, if_false, List.append_nil] at ft
              generalize (S.take i).filter (pLast m w) = A at *
              generalize S.filter (pLast m w) = B at *
              simp [-More_nor, hi']
              have fin : (-9223372036854775808 ≤ (i : Int) + 1 ∧ (i : Int) + 1 ≤ 9223372036854775807) ∧ More (fun i : Nat => [(12, .int i), (14, .int ((S.take i).filter (pLast m w)).length)]) (fun _ => σ) (fun i => i ≤ S.length) (fun i => S.length - i) (S.length - i) [.und, .und, .und, .und, .imm false (S.map Mut.av), .und, .und, .und, .und, .und, .und, .imm false (B.map Mut.av), .int 0, .int S.length, .int 0, .und, .und] Q .nor ⟨[.und, .und, .und, .und, .imm false (S.map Mut.av), .und, .und, .und, .und, .und, .und, .imm false (B.map Mut.av), .int ((i : Int) + 1), .int S.length, .int A.length, .und, .und], none, σ⟩ := ⟨by omega, More_of (i + 1) (by simp [ft]) rfl (by omega) (by omega)⟩
              refine ⟨fun h1 => ⟨h1, fun a1 a2 a3 a4 a5 => ?_, fun _ => fin⟩, fun _ => fin⟩
              rcases hne with hne | hne
              · exact absurd (Mut.eqI.1 ⟨a1, a2, a3, a4, a5⟩).symm hne
              · exact absurd h1 hne
          · have ei : i = S.length := by omega
            subst ei
            rw [List.take_length]
            simp [-More_nor, hQ]
        have hel := elm_muL (l := S) (i := 0) hlp
        generalize S.filter (pLast m w) = F at *
        by_cases hwe : ws = []
        · subst hwe
          have hv0 := vd_LL (σ := [⟨none, [w].map iL, .live⟩]) (fr := false) (b := 0) (xs := [w]) (n := 1) (st := .live) rfl (by simp) (by simp)
          simp only [List.map_cons, List.map_nil, List.nil_append, iLL] at hv0 c3 c1 e5
          simp [-More_nor, e4, hs, aw, h6, h7, e5, rmValid_s m h, hv, c1, c2, hz', happ, hdis, hel, hv0, c3, c4, hlt]
          refine ⟨by omega, ?_⟩
          refine klp _ _ ?_
          by_cases hF : F.length = 0
          · have hF' : (F.length = 0) = True := eq_true hF
            simp [-List.length_eq_zero_iff, aw, hF']
          · have hF' : (F.length = 0) = False := eq_false hF
            have hFp : 0 < F.length := by omega
            have hh := hhead hF
            simp [-List.length_eq_zero_iff, aw, hF', hFp, hlp]
            exact fun a1 a2 a3 a4 a5 => hh (Mut.eqI.1 ⟨a1, a2, a3, a4, a5⟩)
        · have hv0 := vd_LL (σ := [⟨none, (ws ++ [w]).map iL, .live⟩]) (fr := false) (b := 0) (xs := ws ++ [w]) (n := ws.length + 1) (st := .live) rfl (by simp) (by simp)
          have hwe' : (ws.length = 0) = False := eq_false (by simpa using hwe)
          simp only [List.map_append, List.map_cons, List.map_nil] at hv0 c3
          simp [-More_nor, e4, hs, aw, h6, h7, e5, rmValid_s m h, hv, c1, c2, hz', happ, hdis, hel, hv0, c3, c4, hlt, hwe, hwe']
          refine ⟨by omega, by omega, by omega, ?_⟩
          refine klp _ _ ?_
          by_cases hF : F.length = 0
          · have hF' : (F.length = 0) = True := eq_true hF
            simp [-List.length_eq_zero_iff, aw, hF']
          · have hF' : (F.length = 0) = False := eq_false hF
            have hFp : 0 < F.length := by omega
            have hh := hhead hF
            simp [-List.length_eq_zero_iff, aw, hF', hFp, hlp]
            exact fun a1 a2 a3 a4 a5 => hh (Mut.eqI.1 ⟨a1, a2, a3, a4, a5⟩)
end Ab
