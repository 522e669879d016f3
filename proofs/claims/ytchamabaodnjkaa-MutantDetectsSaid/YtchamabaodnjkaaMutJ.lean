/- Where a changed machine differs. Condition: none. -/
import Derived.Test.YtchamabaodnjkaaC33Surv
set_option linter.all false
set_option maxRecDepth 100000
set_option maxHeartbeats 4000000
namespace Ab
theorem chg_next {m : Mly} (hm : m.Ok) {x : Mut} (hx : x.Fits m) {s a : Int} (s0 : 0 ≤ s) (s1 : s < (m.next.length : Int)) (a0 : 0 ≤ a) (a1 : a < m.inputs) : ix (ix (m.chg x).next s) a = if (s = x.st ∧ a = x.inp) ∧ x.kind ≠ 1 then (if x.kind = 2 then x.val else m.next.length) else ix (ix m.next s) a := by
  obtain ⟨hs, ha, hv⟩ := hx
  have hr := (hm.row s s0 s1).1
  have hset := fun v => setLL_ix (v := v) hs.1 hs.2 ha.1 s0 s1 a0 (by omega)
  unfold Mly.chg
  rcases hv with ⟨k, _⟩ | ⟨k, _⟩ | ⟨k, _⟩
  · rw [if_pos k, if_neg (by simp [k])]
  · rw [if_neg (by omega), if_pos k]
    dsimp only
    rw [hset]
    by_cases e : s = x.st ∧ a = x.inp
    · rw [if_pos e, if_pos ⟨e, by omega⟩, if_pos k]
    · rw [if_neg e, if_neg (fun h => e h.1)]
  · rw [if_neg (by omega), if_neg (by omega)]
    dsimp only
    rw [ixa_app s0 (by rw [setLL_len]; exact s1), hset]
    by_cases e : s = x.st ∧ a = x.inp
    · rw [if_pos e, if_pos ⟨e, by omega⟩, if_neg (by omega)]
    · rw [if_neg e, if_neg (fun h => e h.1)]
theorem chg_out {m : Mly} (hm : m.Ok) {x : Mut} (hx : x.Fits m) {s a : Int} (s0 : 0 ≤ s) (s1 : s < (m.next.length : Int)) (a0 : 0 ≤ a) (a1 : a < m.inputs) : ix (ix (m.chg x).out s) a = if (s = x.st ∧ a = x.inp) ∧ x.kind = 1 then x.val else ix (ix m.out s) a := by
  obtain ⟨hs, ha, hv⟩ := hx
  have hr := (hm.row s s0 s1).2
  have hl := hm.len
  have hset := fun v => setLL_ix (l := m.out) (v := v) hs.1 (by omega) ha.1 s0 (by omega) a0 (by omega)
  unfold Mly.chg
  rcases hv with ⟨k, _⟩ | ⟨k, _⟩ | ⟨k, _⟩
  · rw [if_pos k]
    dsimp only
    rw [hset]
    by_cases e : s = x.st ∧ a = x.inp
    · rw [if_pos e, if_pos ⟨e, k⟩]
    · rw [if_neg e, if_neg (fun h => e h.1)]
  · rw [if_neg (by omega), if_pos k, if_neg (by simp [k])]
  · rw [if_neg (by omega), if_neg (by omega), if_neg (by simp [k])]
    dsimp only
    rw [ixa_app s0 (by omega)]
/-- It differs at the transition. -/
theorem chg_at {m : Mly} (hm : m.Ok) {x : Mut} (h : x ∈ m.allM) : ¬ (ix (ix (m.chg x).next x.st) x.inp = ix (ix m.next x.st) x.inp ∧ ix (ix (m.chg x).out x.st) x.inp = ix (ix m.out x.st) x.inp) := by
  obtain ⟨hf, _⟩ := allM_fits hm h
  obtain ⟨s, hs, a, a0, a1, h⟩ := allM_mem h
  obtain ⟨e1, e2, h⟩ := muts_mem h
  have hst := hf.st
  have hin := hf.inp
  rw [chg_next hm hf hst.1 hst.2 hin.1 hin.2, chg_out hm hf hst.1 hst.2 hin.1 hin.2]
  subst e1 e2
  have ht := hm.nx x.st x.inp hst.1 hst.2 hin.1 hin.2
  rcases h with ⟨k, h1, h2, _⟩ | ⟨k, h1, h2, _⟩ | ⟨k, _⟩
  · rintro ⟨_, h⟩
    rw [if_pos ⟨⟨rfl, rfl⟩, k⟩] at h
    exact h2 h
  · rintro ⟨h, _⟩
    rw [if_pos ⟨⟨rfl, rfl⟩, by omega⟩, if_pos k] at h
    exact h2 h
  · rintro ⟨h, _⟩
    rw [if_pos ⟨⟨rfl, rfl⟩, by omega⟩, if_neg (by omega)] at h
    omega
theorem chg_off {m : Mly} (hm : m.Ok) {x : Mut} (hf : x.Fits m) {s a : Int} (s0 : 0 ≤ s) (s1 : s < (m.next.length : Int)) (a0 : 0 ≤ a) (a1 : a < m.inputs) (h : ¬ (s = x.st ∧ a = x.inp)) : ix (ix (m.chg x).next s) a = ix (ix m.next s) a ∧ ix (ix (m.chg x).out s) a = ix (ix m.out s) a := by
  rw [chg_next hm hf s0 s1 a0 a1, chg_out hm hf s0 s1 a0 a1, if_neg (fun k => h k.1), if_neg (fun k => h k.1)]
  exact ⟨rfl, rfl⟩
theorem chg_len {m : Mly} {x : Mut} : ((m.chg x).next.length : Int) = m.next.length + (if x.kind = 3 ∨ (x.kind ≠ 1 ∧ x.kind ≠ 2) then 1 else 0) := by
  unfold Mly.chg
  split
  · rename_i h; rw [if_neg (by omega)]; simp
  split
  · rename_i h1 h2; rw [if_neg (by omega)]; simp [setLL_len]
  · rename_i h1 h2; rw [if_pos (by omega)]; simp [setLL_len]
theorem chg_start {m : Mly} {x : Mut} : (m.chg x).start = m.start := by unfold Mly.chg; split; rfl; split <;> rfl
/-- No mutation: one state, one output. -/
theorem allM_nil {m : Mly} (hm : m.Ok) (h : m.allM = []) : (m.next.length : Int) = 1 ∧ (m.outz.length : Int) = 1 := by
  have hst := hm.states
  have hin := hm.inputs
  have hs := hm.start
  have hmem : m.start ∈ m.rz := rz_mem.2 (hasS_iff.2 (by
    have hq := places_ok m hm m.start hm.start
    have := hq.pos
    refine List.mem_map.2 ⟨ix (m.places m.start) 0, ix_mem (by omega) (by omega), ?_⟩
    rw [hq.head]))
  have hnone : ∀ y, y ∉ m.muts m.start 0 m.outz := fun y hy => by
    have : y ∈ m.allM := by
      unfold Mly.allM mst
      refine List.mem_flatMap.2 ⟨m.start, hmem, ?_⟩
      have go : ∀ n : Nat, 0 < n → y ∈ mrow m m.start m.outz n := by
        intro n
        induction n with
        | zero => intro h; omega
        | succ n ih =>
          intro _
          by_cases e : n = 0
          · subst e; exact List.mem_append.2 (.inr hy)
          · exact List.mem_append.2 (.inl (ih (by omega)))
      exact go _ (by omega)
    rw [h] at this
    simp at this
  have ht := hm.nx m.start 0 hs.1 hs.2 (by omega) (by omega)
  constructor
  · by_cases e : (m.next.length : Int) = 1
    · exact e
    · exfalso
      obtain ⟨u, hu, hne⟩ : ∃ u : Nat, u < m.next.length ∧ (u : Int) ≠ ix (ix m.next m.start) 0 := by
        by_cases e0 : ix (ix m.next m.start) 0 = 0
        · exact ⟨1, by omega, by omega⟩
        · exact ⟨0, by omega, by omega⟩
      exact hnone ⟨2, m.start, 0, u, 0⟩ (by
        unfold Mly.muts
        exact List.mem_append.2 (.inl (List.mem_append.2 (.inr (nexts_mem.2 ⟨u, hu, hne, rfl⟩)))))
  · have hall : ∀ o ∈ m.outz, o = ix (ix m.out m.start) 0 := fun o ho => by
      by_cases e : o = ix (ix m.out m.start) 0
      · exact e
      · exact absurd (by
          unfold Mly.muts
          exact List.mem_append.2 (.inl (List.mem_append.2 (.inl (pick_mem.2 ⟨o, ho, e, rfl⟩))))) (hnone ⟨1, m.start, 0, o, 0⟩)
    have hne : m.outz ≠ [] := fun e => by
      obtain ⟨x, hx⟩ := List.exists_mem_of_ne_nil _ (Ok.outflat hm).2
      have := outz_mem.2 hx
      rw [e] at this
      simp at this
    have hasc := outz_asc (m := m)
    match ho : m.outz, hne with
    | [x], _ => rfl
    | x :: y :: r, _ =>
      exfalso
      rw [ho] at hasc hall
      have h1 := hall x (by simp)
      have h2 := hall y (by simp)
      have := (List.pairwise_cons.1 hasc).1 y (by simp)
      omega
theorem MutantDiffers_l (aw : PC F_law33_exampleHolds [] = some (.bool true)) (m : Mly) (h : m.fits) (q : Nat) (n : Int) (n0 : 0 ≤ n) (n1 : n ≤ 65535) : PC F_law33_MutantDiffers [m.av, .ik q n] = some (.bool true) := by
  refine PCx_of (go_law33_MutantDiffers rfl ?_)
  have e4 := Small_s m h
  cases hs : m.small with
  | false => simp [e4, hs, aw]
  | true =>
    by_cases hv : m.validE = 0
    case neg => simp [e4, hs, aw, rmValid_s m h, hv]
    have hm := mvalidE_ok hv
    have hst := hm.states
    have hin := hm.inputs
    have hml := hm.len
    by_cases ha : m.allE = 0
    case neg =>
      have : m.allE = 11 := by
        unfold Mly.allE at ha ⊢
        rw [if_neg (by simpa using hv)] at ha ⊢
        split at ha
        · rename_i h1; rw [if_pos h1]
        · simp at ha
      simp [e4, hs, aw, rmValid_s m h, hv, All_s m h, this]
    obtain ⟨_, hL, hb⟩ := allE_val ha
    have hbX := hb
    by_cases hz : m.allM = []
    · obtain ⟨z1, z2⟩ := allM_nil hm hz
      simp [e4, hs, aw, rmValid_s m h, hv, All_s m h, ha, hL, hz, z1, z2, Outputs_s m h hv]
    · have hlp : 0 < m.allM.length := List.length_pos_iff.2 hz
      have eA := All_s m h
      unfold allA at eA
      rw [ha, hL] at eA
      have ln : ((m.allM.map Mut.av).length : Int) = m.allM.length := by simp
      have hr0 : 0 ≤ n.tmod ((m.allM.map Mut.av).length : Int) := by rw [ln, Int.tmod_eq_emod_of_nonneg n0]; exact Int.emod_nonneg _ (by omega)
      have hr1 : n.tmod ((m.allM.map Mut.av).length : Int) < m.allM.length := by rw [ln, Int.tmod_eq_emod_of_nonneg n0]; exact Int.emod_lt_of_pos _ (by omega)
      have hz' : ((m.allM.map Mut.av).length = 0) = False := eq_false (by simp; exact hz)
      have hxm : ix m.allM (n.tmod ((m.allM.map Mut.av).length : Int)) ∈ m.allM := ix_mem hr0 hr1
      simp [-More_nor, -List.length_map, -List.length_eq_zero_iff, e4, hs, aw, rmValid_s m h, hv, eA, hz', hr0, hr1]
      generalize ix m.allM (n.tmod ((m.allM.map Mut.av).length : Int)) = x at *
      obtain ⟨f1, f2⟩ := allM_fits hm hxm
      have happ := Apply_s m h x
      have eap : m.apply x = (m.chg x, 0) := by
        unfold Mly.apply
        rw [if_neg (by simpa using hv), if_neg (by simpa using f1), if_neg (by rintro ⟨h1, h2⟩; have := f2 h1; omega)]
      rw [eap] at happ
      have hcok := chg_ok hm f1 f2
      have hcv := ok_valid hcok
      have hcf := ok_fits hcok
      have v1 := mValid_s _ hcf
      have v2 := rmValid_s _ hcf
      rw [hcv] at v1 v2
      have hci := eq_true (chg_inputs (m := m) (x := x))
      have hcs := eq_true (chg_start (m := m) (x := x))
      have hcin := chg_inputs (m := m) (x := x)
      have hcl := chg_len (m := m) (x := x)
      have hat := chg_at hm hxm
      have hoff := fun s a s0 s1 a0 a1 => chg_off hm f1 (s := s) (a := a) s0 s1 a0 a1
      have hcr := hcok.row
      have hcn := hcok.len
      generalize m.chg x = M at *
      have hfs := f1.st
      have hfi := f1.inp
      have key : ∀ Q : Ex → St → Prop, Q (.exit 0) ⟨[.und, .und, .pimm m.av, .und, .und, .pimm x.av, .und, .pimm M.av, .und, .int m.next.length, .int m.next.length, .und, .und, .und, .und, .int 1, .und], none, []⟩ → W L b_law33_MutantDiffers_0.loop ⟨[.und, .und, .pimm m.av, .und, .und, .pimm x.av, .und, .pimm M.av, .und, .int 0, .int m.next.length, .und, .und, .und, .und, .int 0, .und], none, []⟩ Q := by
        intro Q hQ
        have hMn : (m.next.length : Int) ≤ M.next.length := by rw [hcl]; split <;> omega
        refine W_iter (fun s : Int => [(9, .int s), (15, .int (if x.st < s then 1 else 0))]) (fun _ => []) (fun s => 0 ≤ s ∧ s ≤ m.next.length) (fun s => (m.next.length - s).toNat) 0 (by simp [sets]; omega) (by omega) fun s ⟨s0, s1⟩ => ?_
        by_cases hs' : s < (m.next.length : Int)
        · simp [-More_nor, hs']
          refine W_iter (fun a : Int => [(11, .int a), (15, .int (if x.st < s ∨ (x.st = s ∧ x.inp < a) then 1 else 0))]) (fun _ => []) (fun a => 0 ≤ a ∧ a ≤ m.inputs) (fun a => (m.inputs - a).toNat) 0 (by
            have e : (x.st < s ∨ (x.st = s ∧ x.inp < 0)) ↔ x.st < s := by omega
            simp only [e]; rfl) (by omega) fun a ⟨a0, a1⟩ => ?_
          by_cases ha' : a < m.inputs
          · have r1 := hm.row s s0 hs'
            have r2 := hcr s s0 (by omega)
            rw [hcin] at r2
            have hsO : s < (m.out.length : Int) := by omega
            have hsM : s < (M.next.length : Int) := by omega
            have hsMO : s < (M.out.length : Int) := by omega
            by_cases hat' : s = x.st ∧ a = x.inp
            · obtain ⟨g1, g2⟩ := hat'
              have g1' : (s = x.st) = True := eq_true g1
              have g2' : (a = x.inp) = True := eq_true g2
              rw [← g1, ← g2] at hat
              have c1 : ¬ (x.st < s ∨ (x.st = s ∧ x.inp < a)) := by omega
              have c2 : x.st < s ∨ (x.st = s ∧ x.inp < a + 1) := by omega
              by_cases d1 : ix (ix M.next s) a = ix (ix m.next s) a
              · have d1' : (ix (ix M.next s) a = ix (ix m.next s) a) = True := eq_true d1
                have d2 : ¬ ix (ix M.out s) a = ix (ix m.out s) a := fun d2 => hat ⟨d1, d2⟩
                simp [-More_nor, ha', s0, a0, hs', hsO, hsM, hsMO, r1.1, r1.2, r2.1, r2.2, d1', d2, c1, g1', g2']
                exact ⟨by omega, More_of (a + 1) (by simp [c2]) rfl (by omega) (by omega)⟩
              · simp [-More_nor, ha', s0, a0, hs', hsO, hsM, hsMO, r1.1, r1.2, r2.1, r2.2, d1, c1, g1', g2']
                exact ⟨by omega, More_of (a + 1) (by simp [c2]) rfl (by omega) (by omega)⟩
            · obtain ⟨d1, d2⟩ := hoff s a s0 hs' a0 ha' hat'
              have d1' : (ix (ix M.next s) a = ix (ix m.next s) a) = True := eq_true d1
              have d2' : (ix (ix M.out s) a = ix (ix m.out s) a) = True := eq_true d2
              have c3 : (x.st < s ∨ (x.st = s ∧ x.inp < a + 1)) ↔ (x.st < s ∨ (x.st = s ∧ x.inp < a)) := by omega
              simp [-More_nor, ha', s0, a0, hs', hsO, hsM, hsMO, r1.1, r1.2, r2.1, r2.2, d1', d2']
              exact ⟨by omega, More_of (a + 1) (by simp only [c3]; simp) rfl (by omega) (by omega)⟩
          · have c4 : (x.st < s ∨ (x.st = s ∧ x.inp < a)) ↔ x.st < s + 1 := by omega
            simp [-More_nor, ha']
            exact ⟨by omega, More_of (s + 1) (by simp only [c4]; simp) rfl (by omega) (by omega)⟩
        · have es : s = (m.next.length : Int) := by omega
          subst es
          have c5 : x.st < (m.next.length : Int) := hfs.2
          simp [-More_nor, c5, hQ]
      by_cases k3 : x.kind = 3
      · have k3' : (x.kind = 3) = True := eq_true k3
        rw [if_pos (.inl k3)] at hcl
        have hcl' : ((M.next.length : Int) = m.next.length + 1) = True := eq_true hcl
        simp [-More_nor, happ, v1, v2, hci, hcs, k3', hcl']
        refine ⟨by omega, by omega, ?_⟩
        refine key _ ?_
        simp [aw]
      · have k3' : (x.kind = 3) = False := eq_false k3
        have hk12 : x.kind = 1 ∨ x.kind = 2 := by have := f1.val; omega
        rw [if_neg (by omega)] at hcl
        have hcl' : ((M.next.length : Int) = m.next.length) = True := eq_true (by omega)
        simp [-More_nor, happ, v1, v2, hci, hcs, k3', hcl']
        refine ⟨by omega, by omega, ?_⟩
        refine key _ ?_
        simp [aw]
end Ab
