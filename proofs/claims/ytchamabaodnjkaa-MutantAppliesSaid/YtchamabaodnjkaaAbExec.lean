/- The code of a function does what its small text says. Condition: the callees answer as the interpreter says. -/
import Derived.Test.YtchamabaodnjkaaAbFrz
import Derived.Scope
set_option linter.all false
namespace Ab
open Go
variable {P : Program}

def okC (P : Program) (sl : List Nat) (nt : Nat) : IC → Code → Bool
  | .skip, .skip => true
  | .skip, .label _ => true
  | .bad, _ => true
  | .cut b a, .cond (.const (.bool b')) x y => b == b' && okC P sl nt a (if b then x else y)
  | .scp a, .scope x => okC P sl nt a x
  | .reg r, .region _ ops draw => okReg P draw ops.toList sl nt r
  | .seq a b, c => match b with
    | .frz k => decide (k < sl.length) && okC P sl nt a c
    | _ => match c with
      | .seq x y => okC P sl nt a x && okC P sl nt b y
      | _ => false
  | .cond t a b, .cond (.tmp t') x y => t == t' && okC P sl nt a x && okC P sl nt b y
  | .condv k a b, .cond (.tmp t) x y => sl[k]? == some t && okC P sl nt a x && okC P sl nt b y
  | .block id a, .block id' x => id == id' && okC P sl nt a x
  | .loop a, .loop x => okC P sl nt a x
  | .exit id, .exit id' => id == id'
  | .ret, .ret => true
  | .lex a, c => okC P sl nt a c
  | _, _ => false

def exOf : Ex → Exit
  | .nor => .normal
  | .exit id => .exit id
  | .ret => .ret

theorem least {p : Nat → Prop} : ∀ {n : Nat}, p n → ∃ k, p k ∧ ∀ m, m < k → ¬ p m := by
  intro n
  induction n using Nat.strongRecOn with
  | ind n ih =>
    intro h
    by_cases hm : ∃ m, m < n ∧ p m
    · obtain ⟨m, h1, h2⟩ := hm
      exact ih m h1 h2
    · exact ⟨n, h, fun m h1 h2 => hm ⟨m, h1, h2⟩⟩

open Classical in
theorem wp_loop_k {c : Code} {Q : Exit → Act → World → Prop} {a : Act} {w : World} (J : Nat → Act → World → Prop) {k : Nat} (h0 : J k a w) (hz : ∀ a w, ¬ J 0 a w) (round : ∀ k a w, J (k + 1) a w → c.wp P (Exit.then (J k) Q) a w) : (Code.loop c).wp P Q a w := by
  let μ : Act → World → Nat := fun a w => if h : ∃ k, J k a w ∧ ∀ m, m < k → ¬ J m a w then choose h else 0
  have hμ : ∀ a w k, J k a w → J (μ a w) a w ∧ μ a w ≤ k := fun a w k hk => by
    have h := least (p := fun k => J k a w) hk
    have e : μ a w = choose h := dif_pos h
    have hs := choose_spec h
    rw [e]
    exact ⟨hs.1, Nat.le_of_not_lt fun hlt => hs.2 k hlt hk⟩
  refine wp_loop (fun a w => ∃ k, J k a w) μ ⟨k, h0⟩ fun a w ⟨k, hk⟩ => ?_
  obtain ⟨h1, _⟩ := hμ a w k hk
  generalize hm : μ a w = m at h1
  cases m with
  | zero => exact absurd h1 (hz a w)
  | succ m =>
    refine wp_mono (round m a w h1) fun e a' w' he => ?_
    cases e with
    | normal => exact ⟨⟨m, he⟩, Nat.lt_succ_of_le (hμ a' w' m he).2⟩
    | _ => exact he

theorem exec_wp {sl : List Nat} {nt : Nat} {ds : List Deferred} {n : Nat} {ce : CE} (hm : P.follows .mixedOrders = true) (hce : CallOk P ce) (hbd : HasBody P ce) :
    ∀ (ic : IC) (c : Code) (s : St) (e : Ex) (s' : St) (ids : Nat → Nat) (I : Nat → Prop) (a : Act) (w : World) (Q : Exit → Act → World → Prop), okC P sl nt ic c = true → exec n ce ic s = some (e, s') → Rel sl nt ds s (ctxOf s.σ ids I) a w →
      (∀ ids' I' a' w', Rel sl nt ds s' (ctxOf s'.σ ids' I') a' w' → Step (ctxOf s.σ ids I) w (ctxOf s'.σ ids' I') w' → Q (exOf e) a' w') → c.wp P Q a w := by
  intro ic
  induction ic with
  | skip =>
    intro c s e s' ids I a w Q hok he h hQ
    cases c <;> try (simp [okC] at hok; done)
    · simp only [exec, Option.some.injEq, Prod.mk.injEq] at he
      obtain ⟨rfl, rfl⟩ := he
      exact wp_skip (hQ ids I a w h (Step.refl _ _))
    · simp only [exec, Option.some.injEq, Prod.mk.injEq] at he
      obtain ⟨rfl, rfl⟩ := he
      exact wp_label (hQ ids I a w h (Step.refl _ _))
  | bad =>
    intro c s e s' ids I a w Q hok he h hQ
    simp [exec] at he
  | cut b x ih =>
    intro c s e s' ids I a w Q hok he h hQ
    cases c <;> try (simp [okC] at hok; done)
    rename_i c0 x' y'
    cases c0 <;> try (simp [okC] at hok; done)
    rename_i v
    cases v <;> try (simp [okC] at hok; done)
    rename_i b'
    simp only [okC, Bool.and_eq_true, beq_iff_eq] at hok
    obtain ⟨rfl, hok⟩ := hok
    simp only [exec] at he
    refine wp_cond (t := b) rfl ?_
    exact ih _ s e s' ids I a w Q hok he h hQ
  | scp x ih =>
    intro c s e s' ids I a w Q hok he h hQ
    cases c <;> try (simp [okC] at hok; done)
    rename_i c
    simp only [okC] at hok
    simp only [exec] at he
    refine wp_scope_straight ?_
    refine ih c s e s' ids I a w _ hok he h fun ids' I' a' w' h' st' => ?_
    have := hQ ids' I' a' w' h' st'
    cases e <;> exact this
  | reg r =>
    intro c s e s' ids I a w Q hok he h hQ
    cases c <;> try (simp [okC] at hok; done)
    rename_i id ops draw
    simp only [exec] at he
    cases hr : runReg ce r s with
    | none => simp [hr] at he
    | some s1 =>
      simp only [hr, Option.some.injEq, Prod.mk.injEq] at he
      obtain ⟨rfl, rfl⟩ := he
      simp only [okC] at hok
      have := reg_wp (id := id) (Q := Q) hm hok hce hbd hr h hQ
      rwa [Array.toArray_toList] at this
  | seq x y ihx ihy =>
    intro c s e s' ids I a w Q hok he h hQ
    simp only [exec] at he
    cases hx : exec n ce x s with
    | none => simp [hx] at he
    | some es =>
      obtain ⟨e1, s1⟩ := es
      simp only [hx] at he
      by_cases hf : ∃ k, y = .frz k
      · obtain ⟨k, rfl⟩ := hf
        simp only [okC, Bool.and_eq_true, decide_eq_true_eq] at hok
        obtain ⟨hk, hok⟩ := hok
        refine ihx c s e1 s1 ids I a w Q hok hx h fun ids1 I1 a1 w1 h1 st1 => ?_
        cases e1 with
        | nor =>
          simp only [exec] at he
          split at he
          case h_2 => simp at he
          rename_i v hv
          simp only [Option.some.injEq, Prod.mk.injEq] at he
          obtain ⟨rfl, rfl⟩ := he
          have hk' : ∃ t, sl[k]? = some t := ⟨_, List.getElem?_eq_getElem hk⟩
          · obtain ⟨t, ht⟩ := hk'
            obtain ⟨I2, g1, g2, g3⟩ := frz_ok (fun b => (reach s1.σ vd (nth s1.vars k) []).contains b) h1.good hv (h1.vars k t ht)
            refine hQ ids1 I2 a1 w1 ⟨g1, h1.size, h1.defers, fun j t' hj => ?_, fun t' v' hv' => VR.mono g2.ev _ _ (h1.fl t' v' hv')⟩ (st1.trans g2)
            simp only
            rw [nth_setN]
            by_cases e : j = k ∧ k < s1.vars.length
            · rw [if_pos e]
              have : t' = t := by rw [e.1, ht] at hj; simp at hj; exact hj.symm
              subst this
              by_cases hs : surely s1.σ (nth s1.vars k) = true
              · rw [if_pos hs]; exact sure_ok hs (h1.vars k t' ht) g3
              · rw [if_neg hs]; exact g3
            · rw [if_neg e]
              exact VR.mono g2.ev _ _ (h1.vars j t' hj)
        | exit id => simp only [Option.some.injEq, Prod.mk.injEq] at he; obtain ⟨rfl, rfl⟩ := he; exact hQ ids1 I1 a1 w1 h1 st1
        | ret => simp only [Option.some.injEq, Prod.mk.injEq] at he; obtain ⟨rfl, rfl⟩ := he; exact hQ ids1 I1 a1 w1 h1 st1
      · have hok' : ∃ x' y', c = .seq x' y' ∧ okC P sl nt x x' = true ∧ okC P sl nt y y' = true := by
          unfold okC at hok
          split at hok
          · exact absurd ⟨_, rfl⟩ hf
          · split at hok
            · simp only [Bool.and_eq_true] at hok
              exact ⟨_, _, rfl, hok.1, hok.2⟩
            · simp at hok
        obtain ⟨x', y', rfl, ok1, ok2⟩ := hok'
        refine wp_seq (ihx x' s e1 s1 ids I a w _ ok1 hx h fun ids1 I1 a1 w1 h1 st1 => ?_)
        cases e1 with
        | nor => exact ihy y' s1 e s' ids1 I1 a1 w1 Q ok2 he h1 fun ids' I' a' w' h' st' => hQ ids' I' a' w' h' (st1.trans st')
        | exit id => simp only [Option.some.injEq, Prod.mk.injEq] at he; obtain ⟨rfl, rfl⟩ := he; exact hQ ids1 I1 a1 w1 h1 st1
        | ret => simp only [Option.some.injEq, Prod.mk.injEq] at he; obtain ⟨rfl, rfl⟩ := he; exact hQ ids1 I1 a1 w1 h1 st1
  | cond t x y ihx ihy =>
    intro c s e s' ids I a w Q hok he h hQ
    cases c <;> try (simp [okC] at hok; done)
    rename_i c0 x' y'
    cases c0 <;> try (simp [okC] at hok; done)
    rename_i t'
    simp only [okC, Bool.and_eq_true, beq_iff_eq] at hok
    obtain ⟨⟨rfl, ok1⟩, ok2⟩ := hok
    simp only [exec] at he
    split at he
    case h_2 => simp at he
    rename_i t1 b hfl
    by_cases e1 : t1 = t
    · subst e1
      simp only [beq_self_eq_true, if_true] at he
      have hb : a.eval (.tmp t1) = .bool b := h.fl t1 (.bool b) hfl
      have h' : Rel sl nt ds { s with fl := none } (ctxOf s.σ ids I) a w := ⟨h.good, h.size, h.defers, h.vars, fun _ _ q => by simp at q⟩
      refine wp_cond (t := b) hb ?_
      cases b with
      | true => exact ihx x' { s with fl := none } e s' ids I a w Q ok1 he h' hQ
      | false => exact ihy y' { s with fl := none } e s' ids I a w Q ok2 he h' hQ
    · have : (t1 == t) = false := by simpa using e1
      simp [this] at he
  | condv k x y ihx ihy =>
    intro c s e s' ids I a w Q hok he h hQ
    cases c <;> try (simp [okC] at hok; done)
    rename_i c0 x' y'
    cases c0 <;> try (simp [okC] at hok; done)
    rename_i t
    simp only [okC, Bool.and_eq_true, beq_iff_eq] at hok
    obtain ⟨⟨hk, ok1⟩, ok2⟩ := hok
    simp only [exec] at he
    split at he
    case h_2 => simp at he
    rename_i b hv
    have hb : a.eval (.tmp t) = .bool b := by
      have := h.vars k t hk
      rw [hv] at this
      exact this
    refine wp_cond (t := b) hb ?_
    cases b with
    | true => exact ihx x' s e s' ids I a w Q ok1 he h hQ
    | false => exact ihy y' s e s' ids I a w Q ok2 he h hQ
  | block id x ih =>
    intro c s e s' ids I a w Q hok he h hQ
    cases c <;> try (simp [okC] at hok; done)
    rename_i id' c
    simp only [okC, Bool.and_eq_true, beq_iff_eq] at hok
    obtain ⟨rfl, hok⟩ := hok
    simp only [exec] at he
    refine wp_block ?_
    cases hx : exec n ce x s with
    | none => simp [hx] at he
    | some es =>
      obtain ⟨e1, s1⟩ := es
      simp only [hx] at he
      refine ih c s e1 s1 ids I a w _ hok hx h fun ids1 I1 a1 w1 h1 st1 => ?_
      cases e1 with
      | nor => simp only [Option.some.injEq, Prod.mk.injEq] at he; obtain ⟨rfl, rfl⟩ := he; exact hQ ids1 I1 a1 w1 h1 st1
      | exit j =>
        simp only at he
        by_cases hj : j = id
        · subst hj
          simp only [beq_self_eq_true, if_true, Option.some.injEq, Prod.mk.injEq] at he
          obtain ⟨rfl, rfl⟩ := he
          simp only [exOf, Exit.inBlock, if_true]
          exact hQ ids1 I1 a1 w1 h1 st1
        · have : (j == id) = false := by simpa using hj
          simp only [this, Bool.false_eq_true, if_false, Option.some.injEq, Prod.mk.injEq] at he
          obtain ⟨rfl, rfl⟩ := he
          simp only [exOf, Exit.inBlock, hj, if_false]
          exact hQ ids1 I1 a1 w1 h1 st1
      | ret => simp only [Option.some.injEq, Prod.mk.injEq] at he; obtain ⟨rfl, rfl⟩ := he; exact hQ ids1 I1 a1 w1 h1 st1
  | loop x ih =>
    intro c s e s' ids I a w Q hok he h hQ
    cases c <;> try (simp [okC] at hok; done)
    rename_i c
    simp only [okC] at hok
    simp only [exec] at he
    refine wp_loop_k (fun k a1 w1 => ∃ s1 ids1 I1, iter (exec n ce x) k s1 = some (e, s') ∧ Rel sl nt ds s1 (ctxOf s1.σ ids1 I1) a1 w1 ∧ Step (ctxOf s.σ ids I) w (ctxOf s1.σ ids1 I1) w1) (k := n) ⟨s, ids, I, he, h, Step.refl _ _⟩ (fun a1 w1 ⟨s1, _, _, h0, _⟩ => by simp [iter] at h0) ?_
    rintro k a1 w1 ⟨s1, ids1, I1, h1, r1, st1⟩
    simp only [iter] at h1
    cases hx : exec n ce x s1 with
    | none => simp [hx] at h1
    | some es =>
      obtain ⟨e2, s2⟩ := es
      simp only [hx] at h1
      refine ih c s1 e2 s2 ids1 I1 a1 w1 _ hok hx r1 fun ids2 I2 a2 w2 r2 st2 => ?_
      cases e2 with
      | nor => exact ⟨s2, ids2, I2, h1, r2, st1.trans st2⟩
      | exit j => simp only [Option.some.injEq, Prod.mk.injEq] at h1; obtain ⟨rfl, rfl⟩ := h1; exact hQ ids2 I2 a2 w2 r2 (st1.trans st2)
      | ret => simp only [Option.some.injEq, Prod.mk.injEq] at h1; obtain ⟨rfl, rfl⟩ := h1; exact hQ ids2 I2 a2 w2 r2 (st1.trans st2)
  | exit id =>
    intro c s e s' ids I a w Q hok he h hQ
    cases c <;> try (simp [okC] at hok; done)
    simp only [okC, beq_iff_eq] at hok
    subst hok
    simp only [exec, Option.some.injEq, Prod.mk.injEq] at he
    obtain ⟨rfl, rfl⟩ := he
    exact wp_exit (hQ ids I a w h (Step.refl _ _))
  | ret =>
    intro c s e s' ids I a w Q hok he h hQ
    cases c <;> try (simp [okC] at hok; done)
    simp only [exec, Option.some.injEq, Prod.mk.injEq] at he
    obtain ⟨rfl, rfl⟩ := he
    exact wp_ret (hQ ids I a w h (Step.refl _ _))
  | frz k =>
    intro c s e s' ids I a w Q hok he h hQ
    cases c <;> simp [okC] at hok
  | lex x ih =>
    intro c s e s' ids I a w Q hok he h hQ
    simp only [okC] at hok
    simp only [exec] at he
    cases hx : exec n ce x s with
    | none => simp [hx] at he
    | some es =>
      obtain ⟨e1, s1⟩ := es
      simp only [hx] at he
      refine ih c s e1 s1 ids I a w Q hok hx h fun ids1 I1 a1 w1 h1 st1 => ?_
      have go : (if (s1.vars.all (lowv s.σ.length) && lowB s.σ.length s.σ.length s1.σ && (match s1.fl with | some _ => false | none => true)) = true then some (e1, ({ s1 with σ := s1.σ.take s.σ.length } : St)) else none) = some (e, s') → Q (exOf e1) a1 w1 := fun he => by
        by_cases hc : (s1.vars.all (lowv s.σ.length) && lowB s.σ.length s.σ.length s1.σ && (match s1.fl with | some _ => false | none => true)) = true
        case neg => rw [if_neg hc] at he; simp at he
        rw [if_pos hc] at he
        simp only [Bool.and_eq_true] at hc
        obtain ⟨⟨c1, c2⟩, c3⟩ := hc
        simp only [Option.some.injEq, Prod.mk.injEq] at he
        obtain ⟨rfl, rfl⟩ := he
        obtain ⟨g1, g2, g3⟩ := lex_ok h1.good st1 c2
        refine hQ ids1 I1 a1 w1 ⟨g1, h1.size, h1.defers, fun j t hj => ?_, fun t v hv => ?_⟩ g2
        · refine g3 _ _ ?_ (h1.vars j t hj)
          rw [nth_eq]
          cases hq : s1.vars[j]? with
          | none => rfl
          | some q => exact List.all_eq_true.1 c1 q (List.mem_of_getElem? hq)
        · simp only at hv
          rw [hv] at c3; simp at c3
      cases e1 with
      | nor => exact go he
      | exit j => exact go he
      | ret => simp only [Option.some.injEq, Prod.mk.injEq] at he; obtain ⟨rfl, rfl⟩ := he; exact hQ ids1 I1 a1 w1 h1 st1
end Ab
