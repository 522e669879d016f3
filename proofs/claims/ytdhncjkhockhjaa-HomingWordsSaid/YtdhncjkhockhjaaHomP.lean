/- Equality of lists, of machines. Runs of a machine by the document; equality of lists. homing.groups. homing.groups: the walk. homing: Resolves, Possible, Final. Condition: none. -/
import Derived.Test.YtdhncjkhockhjaaGbf
import Derived.Test.YtdhncjkhockhjaaMnlT
import Derived.Test.YtdhncjkhockhjaaHomS
import Derived.Test.YtdhncjkhockhjaaWRef
set_option linter.all false
set_option maxRecDepth 100000
set_option maxHeartbeats 4000000
namespace Ab
theorem ext_ix {a b : List Int} (hl : a.length = b.length) (h : ∀ j, 0 ≤ j → j < (a.length : Int) → ix a j = ix b j) : a = b := by
  apply List.ext_getElem hl
  intro i h1 h2
  have := h i (by omega) (by omega)
  rwa [ix_nat h1, ix_nat h2] at this
theorem Ints_s (a b : List Int) (ha : (a.length : Int) ≤ 1000000) (hb : (b.length : Int) ≤ 9223372036854775807) : PC F_ref06_Ints [iL a, iL b] = some (.bool (decide (a = b))) := by
  refine PCx_of (go_ref06_Ints rfl ?_)
  by_cases hl : a.length = b.length
  · simp [hl]
    refine W_iter (fun i : Int => [(2, .int i)]) (fun _ => []) (fun i => 0 ≤ i ∧ i ≤ b.length ∧ ∀ j, 0 ≤ j → j < i → ix a j = ix b j) (fun i => (b.length - i).toNat) 0 rfl ⟨by omega, by omega, upto_zero⟩ fun i ⟨i0, i1, i2⟩ => ?_
    by_cases hi : i < a.length
    · have hib : i < (b.length : Int) := by omega
      simp [-More_nor, hl, hib, i0]
      refine ⟨fun h => ⟨by omega, More_of (i + 1) rfl rfl ⟨by omega, by omega, upto_succ h i2⟩ (by omega)⟩, fun h e => ?_⟩
      subst e; exact h rfl
    · have hib : ¬ i < (b.length : Int) := by omega
      have e := ext_ix hl fun j j0 j1 => i2 j j0 (by omega)
      simp [hl, hib]
      exact e
  · have hl' : ¬ (a.length : Int) = b.length := by omega
    have he : ¬ a = b := fun e => hl (by rw [e])
    simp [hl', he, hl]
/-- The lengths are not great. -/
structure Mly.Lil (m : Mly) : Prop where
  nl : (m.next.length : Int) ≤ 1000000
  ol : (m.out.length : Int) ≤ 1000000
  nr : ∀ r ∈ m.next, (r.length : Int) ≤ 1000000
  or : ∀ r ∈ m.out, (r.length : Int) ≤ 1000000
end Ab
namespace Ab
theorem SEq_s (a b : List Int) (ha : (a.length : Int) ≤ 1000000) (hb : (b.length : Int) ≤ 9223372036854775807) : PC F_slices_Equal_Sint_int [iL a, iL b] = some (.bool (decide (a = b))) := by
  refine PCx_of (go_slices_Equal_Sint_int rfl ?_)
  by_cases hl : a.length = b.length
  · simp [hl]
    refine W_iter (fun i : Int => [(2, .int i)]) (fun _ => []) (fun i => 0 ≤ i ∧ i ≤ b.length ∧ ∀ j, 0 ≤ j → j < i → ix a j = ix b j) (fun i => (b.length - i).toNat) 0 rfl ⟨by omega, by omega, upto_zero⟩ fun i ⟨i0, i1, i2⟩ => ?_
    by_cases hi : i < a.length
    · have hib : i < (b.length : Int) := by omega
      simp [-More_nor, hl, hib, i0]
      refine ⟨fun h => ⟨by omega, More_of (i + 1) rfl rfl ⟨by omega, by omega, upto_succ h i2⟩ (by omega)⟩, fun h e => ?_⟩
      subst e; exact h rfl
    · have hib : ¬ i < (b.length : Int) := by omega
      have e := ext_ix hl fun j j0 j1 => i2 j j0 (by omega)
      simp [hl, hib]
      exact e
  · have hl' : ¬ (a.length : Int) = b.length := by omega
    have he : ¬ a = b := fun e => hl (by rw [e])
    simp [hl', he, hl]
end Ab
namespace Ab
def gav (g : Gr) : AV := .agg [iL g.1, iL g.2]
def gc (g : Gr) : List AV := [iL g.1, iL g.2]
def gcs (G : List Gr) : List AV := G.flatMap gc
theorem gcs_len : ∀ {G : List Gr}, (gcs G).length = 2 * G.length
  | [] => rfl
  | x :: G => by
    have := gcs_len (G := G)
    show (gc x ++ gcs G).length = _
    rw [List.length_append, this]
    show 2 + _ = _
    simp; omega
theorem gcs_app {G H : List Gr} : gcs (G ++ H) = gcs G ++ gcs H := by simp [gcs]
theorem gcs_one {x : Gr} : gcs [x] = gc x := by simp [gcs]
theorem chunk_gc : ∀ {G : List Gr}, chunk (some 2) G.length (gcs G) = G.map gav
  | [] => rfl
  | x :: G => by
    have e := chunk_gc (G := G)
    rw [List.map_cons, ← e]; rfl
theorem view_gc {σ : List Blk} {k b u n : Nat} {G : List Gr} {st : BSt} (h : blk σ b = some ⟨some 2, gcs G, st⟩) (hs : st.isArr = true) (hn : n = G.length) (hu : u = 2 * n) : view σ false (k + 3) (.sl b u 0 n) = some (.imm false (G.map gav)) := by
  subst hu hn
  have hu : upto σ b (2 * G.length) = some ⟨some 2, gcs G, st⟩ := by
    unfold upto
    rw [h]
    cases st <;> simp [gcs_len] at hs ⊢
  show view σ false ((k + 2) + 1) _ = _
  unfold view
  simp only [hu, kst, gcs_len, List.drop_zero]
  rw [if_pos (by omega), chunk_gc, mapO_mp (g := gav)]
  intro x hx
  rfl
theorem gcs_get : ∀ {G : List Gr} {i : Nat}, i < G.length → (gcs G)[2 * i + 1]? = some (iL (ix G (i : Int)).2)
  | [], i, h => by simp at h
  | x :: G, 0, _ => rfl
  | x :: G, i + 1, h => by
    have := gcs_get (G := G) (i := i) (by simpa using h)
    show (iL x.1 :: iL x.2 :: gcs G)[2 * (i + 1) + 1]? = _
    rw [show 2 * (i + 1) + 1 = (2 * i + 1) + 1 + 1 by omega, List.getElem?_cons_succ, List.getElem?_cons_succ, this]
    simp [ix]
theorem gcs_set : ∀ {G : List Gr} {i : Nat} {x : List Int}, i < G.length → gcs (G.set i ((ix G (i : Int)).1, x)) = (gcs G).set (2 * i + 1) (iL x)
  | [], i, x, h => by simp at h
  | g :: G, 0, x, _ => rfl
  | g :: G, i + 1, x, h => by
    have := gcs_set (G := G) (i := i) (x := x) (by simpa using h)
    rw [List.set_cons_succ]
    show gc g ++ gcs _ = (iL g.1 :: iL g.2 :: gcs G).set (2 * (i + 1) + 1) _
    rw [show 2 * (i + 1) + 1 = (2 * i + 1) + 1 + 1 by omega, List.set_cons_succ, List.set_cons_succ, ← this]
    simp [ix, gc]
theorem gput_none {o : List Int} {t : Int} : ∀ {G : List Gr}, (∀ g ∈ G, g.1 ≠ o) → gput o t G = G ++ [(o, [t])]
  | [], _ => rfl
  | g :: G, h => by
    unfold gput
    rw [if_neg (h g (by simp)), gput_none fun k hk => h k (by simp [hk])]; rfl
theorem gput_some {o : List Int} {t : Int} : ∀ {G : List Gr} {i : Nat}, i < G.length → (ix G (i : Int)).1 = o → (∀ j : Nat, j < i → (ix G (j : Int)).1 ≠ o) → gput o t G = G.set i ((ix G (i : Int)).1, iput (ix G (i : Int)).2 t)
  | [], i, h, _, _ => by simp at h
  | g :: G, 0, _, h, _ => by
    unfold gput
    have : g.1 = o := h
    rw [if_pos this]; rfl
  | g :: G, i + 1, hi, h, h2 => by
    unfold gput
    have h0 := h2 0 (by omega)
    have : ¬ g.1 = o := h0
    rw [if_neg this, List.set_cons_succ]
    have e : ix (g :: G) ((i + 1 : Nat) : Int) = ix G (i : Int) := by simp [ix]
    rw [e] at h ⊢
    rw [gput_some (by simpa using hi) h fun j hj => by
      have := h2 (j + 1) (by omega)
      have e' : ix (g :: G) ((j + 1 : Nat) : Int) = ix G (j : Int) := by simp [ix]
      rwa [e'] at this]
theorem noLoc_gav (g : Gr) : noLoc (gav g) = true := by simp [gav, noLoc, noLocs, noLocs_intmap]
theorem IndexFuncG_l (G : List Gr) (f : Nat) (caps : List AV) (p : Gr → Bool) (hl : (G.length : Int) ≤ 1000000) (hc : noLocs caps = true)
    (hp : ∀ g ∈ G, PC f (gav g :: caps.map wk) = some (.bool (p g))) : L F_slices_IndexFunc_Shoming_group_homing_group [.imm false (G.map gav), .func f caps] [] = some (.int (idx p G), []) := by
  refine LX_eq (go_slices_IndexFunc_Shoming_group_homing_group rfl ?_)
  simp
  refine W_iter (fun i : Int => [(2, .int i)]) (fun _ => []) (fun i => 0 ≤ i ∧ i ≤ G.length ∧ ∀ j, 0 ≤ j → j < i → p (ix G j) = false) (fun i => (G.length - i).toNat) 0 rfl (by simp; omega) fun i ⟨h0, h1, h2⟩ => ?_
  by_cases hi : i < G.length
  · have hq := hp _ (ix_mem h0 hi)
    simp only [gav] at hq
    simp [hi, h0, hc, hq, gav]
    exact ⟨fun h => (idx_some h0 hi h h2).symm, fun h => ⟨by omega, ⟨by omega, by omega, upto_succ h h2⟩, by omega⟩⟩
  · simp [hi]
    rw [idx_none fun j a b => h2 j a (by omega)]
theorem IndexFuncG_s (G : List Gr) (f : Nat) (caps : List AV) (p : Gr → Bool) (hl : (G.length : Int) ≤ 1000000) (hc : noLocs caps = true)
    (hp : ∀ g ∈ G, PC f (gav g :: caps.map wk) = some (.bool (p g))) : PC F_slices_IndexFunc_Shoming_group_homing_group [.imm false (G.map gav), .func f caps] = some (.int (idx p G)) := by
  simp only [PC, PCx, IndexFuncG_l G f caps p hl hc hp]
  rfl
theorem gkey_s (g : Gr) (o : List Int) (h1 : (g.1.length : Int) ≤ 1000000) (h2 : (o.length : Int) ≤ 1000000) : PC F_homing_groups_1 [gav g, .pimm (iL o)] = some (.bool (decide (g.1 = o))) := by
  refine PCx_of (go_homing_groups_1 rfl ?_)
  have := SEq_s g.1 o (by omega) (by omega)
  simp [gav, this]
theorem gopen_s (g : Gr) (h : (g.2.length : Int) ≤ 1000000) : PC F_homing_open_1 [gav g] = some (.bool (decide (1 < g.2.length))) := by
  refine PCx_of (go_homing_open_1 rfl ?_)
  simp [gav]
  omega
theorem gcmp_s (a b : Gr) (h1 : (a.1.length : Int) ≤ 1000000) (h2 : (b.1.length : Int) ≤ 1000000) : PC F_homing_groups_2 [gav a, gav b] = some (.int (lexC a.1 b.1)) := by
  refine PCx_of (go_homing_groups_2 rfl ?_)
  have := wlex_s a.1 b.1 (by omega) (by omega)
  simp [gav, this]
end Ab
namespace Ab
theorem kLeP_gav (a b : Gr) : kLeP (gav a) (gav b) = decide (lexC a.1 b.1 ≤ 0) := by
  show kLe lexC (iL a.1) (iL b.1) = _
  unfold kLe
  rw [wordOf_map, wordOf_map]
theorem insP_gav (x : Gr) : ∀ G : List Gr, insP (gav x) (G.map gav) = (insG2 x G).map gav
  | [] => rfl
  | y :: r => by
    simp only [List.map_cons, insP, insG2, kLeP_gav]
    by_cases h : lexC x.1 y.1 ≤ 0
    · rw [if_pos (by simpa using h), if_pos h]; rfl
    · rw [if_neg (by simpa using h), if_neg h, List.map_cons, insP_gav x r]
theorem sortP_gav : ∀ G : List Gr, sortP (G.map gav) = (srtG G).map gav
  | [] => rfl
  | x :: r => by simp only [List.map_cons, sortP, srtG, sortP_gav r, insP_gav]
theorem cells_gav : ∀ G : List Gr, (G.map gav).flatMap AV.cells = gcs G
  | [] => rfl
  | x :: r => by
    rw [List.map_cons, List.flatMap_cons, cells_gav r]; rfl
def gFit (G : List Gr) : Prop := ∀ g ∈ G, (g.1.length : Int) ≤ 1000000
/-- The groups in memory. -/
abbrev gB (G : List Gr) : Blk := ⟨some 2, gcs G, if G = [] then .nul else .live⟩
theorem gsort_l {σ : List Blk} {b n m : Nat} {G : List Gr} (h : blk σ b = some (gB G)) (hn : n = 2 * G.length) (hm : m = G.length) (hl : (G.length : Int) ≤ 1000000) (hw : gFit G) (hd : (G.map (·.1)).Nodup) : L F_slices_SortFunc_Shoming_group_homing_group [.sl b n 0 m, .func F_homing_groups_2 []] σ = some (.tup [], if G = [] then σ else setB σ b (gB (srtG G))) := by
  subst hm hn
  have hu : upto σ b (2 * G.length) = some (gB G) := by
    unfold upto
    rw [h]
    by_cases hG : G = []
    · subst hG; rfl
    · simp [hG, gcs_len]
  have hS := srtG_up hd
  have hp := srtG_perm G
  have hc : ∀ (i j : Nat) x y, ((srtG G).map gav)[i]? = some x → ((srtG G).map gav)[j]? = some y → ∃ c, pcl (lim Ab.G Q) F_homing_groups_2 (x :: y :: []) = some (.int c) ∧ (c < 0 ↔ i < j) := by
    intro i j x y hx hy
    rw [List.getElem?_map] at hx hy
    cases hx' : (srtG G)[i]? with
    | none => rw [hx'] at hx; simp at hx
    | some p =>
      cases hy' : (srtG G)[j]? with
      | none => rw [hy'] at hy; simp at hy
      | some q =>
        rw [hx'] at hx; rw [hy'] at hy
        simp at hx hy; subst hx hy
        refine ⟨lexC p.1 q.1, ?_, ?_⟩
        · have := gcmp_s p q (hw p (hp.mem_iff.1 (List.mem_of_getElem? hx'))) (hw q (hp.mem_iff.1 (List.mem_of_getElem? hy')))
          unfold pcl
          rw [if_pos (by simp [noLocs, noLoc_gav])]
          exact this
        · obtain ⟨hi, hpi⟩ := List.getElem?_eq_some_iff.1 hx'
          obtain ⟨hj, hqj⟩ := List.getElem?_eq_some_iff.1 hy'
          have hpw := List.pairwise_iff_getElem.1 hS
          rcases Nat.lt_trichotomy i j with hij | hij | hij
          · have := hpw i j hi hj hij
            rw [hpi, hqj] at this
            exact ⟨fun _ => hij, fun _ => this⟩
          · subst hij
            rw [hpi] at hqj; subst hqj
            have := lexC_ok.refl p.1
            omega
          · have := hpw j i hj hi hij
            rw [hpi, hqj] at this
            have h2 := lexC_ok.anti p.1 q.1
            omega
  obtain ⟨N, hN⟩ := agreeS_lim Q_mono hc
  refine go_slices_SortFunc_Shoming_group_homing_group (N := N) ?_
  simp only [pSortP, hu]
  by_cases h0 : G = []
  · subst h0; simp
  · have hl0 : ¬ G.length = 0 := fun e => h0 (List.eq_nil_of_length_eq_zero e)
    rw [if_neg (by simpa using hl0), List.drop_zero, chunk_gc, sortP_gav, if_pos, if_neg h0, cells_gav]
    · have hs0 : srtG G ≠ [] := fun e => h0 (by have := hp.length_eq; rw [e] at this; exact List.eq_nil_of_length_eq_zero this.symm)
      have e : putAt (gcs G) 0 (gcs (srtG G)) = gcs (srtG G) := by
        have := putAt_end (p := []) (q := gcs G) (new := gcs (srtG G)) (off := 0) rfl (by rw [gcs_len, gcs_len, hp.length_eq])
        simpa using this
      rw [e, if_neg h0]
      show some (AV.tup [], setB σ b ⟨some 2, gcs (srtG G), .live⟩) = some (AV.tup [], setB σ b ⟨some 2, gcs (srtG G), if srtG G = [] then .nul else .live⟩)
      rw [if_neg hs0]
    · rw [if_neg h0]
      simp only [gcs_len, Bool.and_eq_true, decide_eq_true_eq]
      refine ⟨⟨⟨⟨⟨rfl, rfl⟩, by omega⟩, by omega⟩, ?_⟩, hN⟩
      show 2 * G.length ≤ 1073741824; omega
theorem gtab_len {m : Mly} {w : List Int} : ∀ {n : Nat}, (gtab m w n).length ≤ n
  | 0 => by simp [gtab]
  | n + 1 => by
    have ih := gtab_len (m := m) (w := w) (n := n)
    have h := congrArg List.length (gput_keys (o := m.outs (n : Int) w) (t := m.run (n : Int) w) (l := gtab m w n))
    unfold gtab
    split at h
    · simp at h; omega
    · simp at h; omega
theorem Gok.len {m : Mly} {w : List Int} {n : Nat} {G : List Gr} (h : Gok m w n G) : ∀ g ∈ G, g.1.length = w.length := fun g hg => by
  obtain ⟨s, _, e⟩ := h.ne g hg
  rw [← e, outs_len]
theorem putR_set : ∀ {cs : List AV} {i : Nat} {x : AV}, putR cs i [x] = cs.set i x
  | [], 0, _ => rfl
  | [], _ + 1, _ => rfl
  | c :: cs, 0, x => by cases cs <;> rfl
  | c :: cs, i + 1, x => by
    show c :: putR cs i [x] = _
    rw [putR_set]; rfl
theorem gtab_nl {m : Mly} {w : List Int} : ∀ {n : Nat}, ∀ g ∈ gtab m w n, g.2.length ≤ n
  | 0 => fun g hg => by simp [gtab] at hg
  | n + 1 => fun g hg => by
    have ih := gtab_nl (m := m) (w := w) (n := n)
    unfold gtab at hg
    rcases (gput_mem gtab_ok.nd).1 hg with ⟨h1, _⟩ | ⟨k, h1, _, rfl⟩ | ⟨_, rfl⟩
    · have := ih g h1; omega
    · have := ih k h1
      have := iput_len (l := k.2) (t := m.run (n : Int) w)
      dsimp only; omega
    · simp
theorem first_at {P : Nat → Prop} (n : Nat) : P n → ∃ i, i ≤ n ∧ P i ∧ ∀ j, j < i → ¬ P j := by
  induction n using Nat.strongRecOn with
  | ind n ih =>
    intro h
    by_cases hj : ∃ j, j < n ∧ P j
    · obtain ⟨j, h1, h2⟩ := hj
      obtain ⟨i, k1, k2, k3⟩ := ih j h1 h2
      exact ⟨i, by omega, k2, k3⟩
    · exact ⟨n, Nat.le_refl n, h, fun j h1 h2 => hj ⟨j, h1, h2⟩⟩
theorem groups_s (m : Mly) (h : m.fits) (hv : m.validE = 0) (w : List Int) (hw : wordE w m.inputs = 0) : PC F_homing_groups [m.av, iL w] = some (.imm false ((m.grps w).map gav)) := by
  refine PCx_of (go_homing_groups rfl ?_)
  have hm := mvalidE_ok hv
  have hst := hm.states
  obtain ⟨hwl, hws⟩ := wordE_ok hw
  have hF : ∀ s : Nat, s < m.next.length → PC F_mealy_From [m.av, .int s, iL w] = some (.tup [iL (m.outs (s : Int) w), .int (m.run (s : Int) w), .int 0]) := fun s hs => by
    have h1 := From_s m h (s : Int) w (by omega)
    rw [From_e hv ⟨by omega, by omega⟩, if_neg (by simpa using hw)] at h1
    exact h1
  simp [-More_nor]
  refine W_iter (fun s : Nat => [(3, .int s), (6, .sl 0 (2 * (gtab m w s).length) 0 (gtab m w s).length)]) (fun s => [gB (gtab m w s)]) (fun s => s ≤ m.next.length) (fun s => m.next.length - s) 0 (by simp [sets, gtab, gcs]) (by omega) ?_
  intro s s1
  have hG := gtab_ok (m := m) (w := w) (n := s)
  have hGl := gtab_len (m := m) (w := w) (n := s)
  by_cases hs : s < m.next.length
  · have hFs := hF s hs
    have hsu : gtab m w (s + 1) = gput (m.outs (s : Int) w) (m.run (s : Int) w) (gtab m w s) := rfl
    have hol : (m.outs (s : Int) w).length = w.length := outs_len
    have hln := hG.len
    have hup := hG.up
    have hnl : ∀ g ∈ gtab m w s, g.2.length ≤ s := gtab_nl
    generalize gtab m w s = G at *
    generalize m.outs (s : Int) w = o at *
    generalize m.run (s : Int) w = t at *
    have hv3 : view [gB G] false vd (.func F_homing_groups_1 [.pimm (iL o)]) = some (.func F_homing_groups_1 [.pimm (iL o)]) := rfl
    have hI := IndexFuncG_l G F_homing_groups_1 [.pimm (iL o)] (fun g => decide (g.1 = o)) (by omega) rfl (fun g hg => gkey_s g o (by have := hln g hg; omega) (by omega))
    have hk2 : (2 * G.length = G.length * kst (some 2)) = True := eq_true (by simp [kst]; omega)
    have hbs : (if G = [] then BSt.nul else BSt.live).isArr = true := by split <;> rfl
    have hv2 : view [gB G] false vd (.sl 0 (2 * G.length) 0 G.length) = some (.imm false (G.map gav)) := view_gc (k := 9) (σ := [gB G]) (b := 0) rfl (by split <;> simp) rfl rfl
    by_cases hex : ∃ i : Nat, i < G.length ∧ (ix G (i : Int)).1 = o ∧ ∀ j : Nat, j < i → (ix G (j : Int)).1 ≠ o
    · obtain ⟨i, i1, i2, i3⟩ := hex
      have hidx : idx (fun g : Gr => decide (g.1 = o)) G = (i : Int) := idx_some (by omega) (by omega) (by simpa using i2) (fun j j0 j1 => by
        obtain ⟨j, rfl⟩ := Int.eq_ofNat_of_zero_le j0
        simpa using i3 j (by omega))
      rw [hidx] at hI
      have hGn : (G = []) = False := eq_false (by intro e; rw [e] at i1; simp at i1)
      have hput := put_s (ix G (i : Int)).2 t (by have := hnl _ (ix_mem (l := G) (n := (i : Int)) (by omega) (by omega)); omega) (hup _ (ix_mem (by omega) (by omega)))
      have hget := gcs_get i1
      have hgetE : elm (gcs G) (i * 2 + 1) = some (iL (ix G (i : Int)).2) := by rw [elm_eq, Nat.mul_comm]; exact hget
      have hi0 : ((i : Int) < 0) = False := eq_false (by omega)
      have hset := gcs_set (x := iput (ix G (i : Int)).2 t) i1
      rw [gput_some i1 i2 i3] at hsu
      simp [-More_nor, -List.map_map, hs, hFs, hv2, hv3, hI, hk2, gcs_len, hbs, hput, hGn, i1, hi0, hgetE]
      refine ⟨by omega, by omega, More_of (s + 1) ?_ ?_ (by omega) (by omega)⟩
      · rw [hsu]; simp
      · have hne : ¬ G.set i ((ix G (i : Int)).1, iput (ix G (i : Int)).2 t) = [] := fun e => by
          have := congrArg List.length e
          rw [List.length_set] at this
          simp at this
          rw [this] at i1; simp at i1
        rw [hsu]
        show _ = [(⟨some 2, gcs (G.set i ((ix G (i : Int)).1, iput (ix G (i : Int)).2 t)), if G.set i ((ix G (i : Int)).1, iput (ix G (i : Int)).2 t) = [] then .nul else .live⟩ : Blk)]
        rw [if_neg hne, hset, Nat.mul_comm, ← putR_set]
    · have hno : ∀ g ∈ G, g.1 ≠ o := fun g hg e => by
        obtain ⟨n, hn, rfl⟩ := List.mem_iff_getElem.1 hg
        obtain ⟨i, k1, k2, k3⟩ := first_at (P := fun i : Nat => (ix G (i : Int)).1 = o) n (by rw [ix_nat hn]; exact e)
        exact hex ⟨i, by omega, k2, k3⟩
      have hidx : idx (fun g : Gr => decide (g.1 = o)) G = -1 := idx_none fun j j0 j1 => by
        have := hno _ (ix_mem j0 j1)
        simpa using this
      rw [hidx] at hI
      rw [gput_none hno] at hsu
      simp [-More_nor, -List.map_map, hs, hFs, hv2, hv3, hI, hk2, gcs_len, hbs]
      refine ⟨by omega, by omega, More_of (s + 1) ?_ ?_ (by omega) (by omega)⟩
      · rw [hsu]; simp; omega
      · have hne : G ++ [(o, [t])] ≠ [] := by simp
        rw [hsu]
        show _ = [(⟨some 2, gcs (G ++ [(o, [t])]), if G ++ [(o, [t])] = [] then .nul else .live⟩ : Blk)]
        rw [if_neg hne, gcs_app, gcs_one]; rfl
  · have : s = m.next.length := by omega
    subst this
    have hS := gsort_l (σ := [gB (gtab m w m.next.length)]) (b := 0) (G := gtab m w m.next.length) rfl rfl rfl (by omega) (fun g hg => by have := hG.len g hg; omega) hG.nd
    have hne : ¬ gtab m w m.next.length = [] := fun e => by
      have := hG.all 0 (by omega)
      rw [e] at this; simp at this
    rw [if_neg hne] at hS
    have hsl : (m.grps w).length = (gtab m w m.next.length).length := (srtG_perm _).length_eq
    have hgr : srtG (gtab m w m.next.length) = m.grps w := rfl
    rw [hgr] at hS
    have hv2 : view [gB (m.grps w)] false vd (.sl 0 (2 * (gtab m w m.next.length).length) 0 (gtab m w m.next.length).length) = some (.imm false ((m.grps w).map gav)) := view_gc (k := 9) (σ := [gB (m.grps w)]) (b := 0) rfl (by split <;> simp) hsl.symm rfl
    have hsb : setB [gB (gtab m w m.next.length)] 0 (gB (m.grps w)) = [gB (m.grps w)] := rfl
    rw [hsb] at hS
    simp [-More_nor, -List.map_map, hS, hv2]
end Ab
namespace Ab
theorem grps_len (m : Mly) (w : List Int) : (m.grps w).length ≤ m.next.length := by
  have h1 : (m.grps w).length = (gtab m w m.next.length).length := (srtG_perm _).length_eq
  have h2 := gtab_len (m := m) (w := w) (n := m.next.length)
  omega
theorem grps_now {m : Mly} {w : List Int} : ∀ g ∈ m.grps w, g.2.length ≤ m.next.length := fun g hg => gtab_nl g ((srtG_perm _).mem_iff.1 hg)
/-- The number of the first open group. -/
def Mly.opi (m : Mly) (w : List Int) : Int := idx (fun g : Gr => decide (1 < g.2.length)) (m.grps w)
theorem opi_hop (m : Mly) (w : List Int) : (m.opi w = -1 ∧ m.hop w = []) ∨ (∃ i : Nat, i < (m.grps w).length ∧ m.opi w = (i : Int) ∧ m.hop w = (ix (m.grps w) (i : Int)).2 ∧ m.hop w ≠ []) := by
  by_cases hex : ∃ i : Nat, i < (m.grps w).length ∧ 1 < (ix (m.grps w) (i : Int)).2.length
  · obtain ⟨n, hn, hp⟩ := hex
    obtain ⟨i, i1, i2, i3⟩ := first_at (P := fun i : Nat => 1 < (ix (m.grps w) (i : Int)).2.length) n hp
    right
    refine ⟨i, by omega, idx_some (by omega) (by omega) (by simpa using i2) (fun j j0 j1 => by
      obtain ⟨j, rfl⟩ := Int.eq_ofNat_of_zero_le j0
      simpa using i3 j (by omega)), ?_⟩
    have hf : (m.grps w).find? (fun g => decide (1 < g.2.length)) = some (ix (m.grps w) (i : Int)) := by
      rw [ix_nat (by omega), List.find?_eq_some_iff_getElem]
      refine ⟨by rw [← ix_nat (by omega)]; simpa using i2, i, by omega, rfl, fun j hj => ?_⟩
      have := i3 j hj
      rw [ix_nat (by omega)] at this
      simpa using this
    unfold Mly.hop
    rw [hf]
    refine ⟨rfl, fun e => ?_⟩
    simp only at e
    rw [e] at i2; simp at i2
  · left
    have hno : ∀ g ∈ m.grps w, ¬ 1 < g.2.length := fun g hg h => by
      obtain ⟨n, hn, rfl⟩ := List.mem_iff_getElem.1 hg
      exact hex ⟨n, hn, by rw [ix_nat hn]; exact h⟩
    refine ⟨idx_none fun j j0 j1 => by simpa using hno _ (ix_mem j0 j1), ?_⟩
    unfold Mly.hop
    rw [List.find?_eq_none.2 fun g hg => by simpa using hno g hg]
theorem open_s (m : Mly) (hst : (m.next.length : Int) ≤ 128) (w : List Int) : PC F_homing_open [.imm false ((m.grps w).map gav)] = some (.int (m.opi w)) := by
  refine PCx_of (go_homing_open rfl ?_)
  have hl := grps_len m w
  have h := IndexFuncG_s (m.grps w) F_homing_open_1 [] (fun g => decide (1 < g.2.length)) (by omega) rfl (fun g hg => gopen_s g (by have := grps_now g hg; omega))
  have e : m.opi w = idx (fun g : Gr => decide (1 < g.2.length)) (m.grps w) := rfl
  rw [e]
  generalize m.grps w = G at *
  simp [-List.map_map, h]
def Mly.hchk (m : Mly) (w : List Int) : Int := if m.validE ≠ 0 then m.validE else wordE w m.inputs
theorem hchk_ok {m : Mly} {w : List Int} (h : m.hchk w = 0) : m.validE = 0 ∧ wordE w m.inputs = 0 := by
  unfold Mly.hchk at h
  split at h
  · rename_i a; exact absurd h a
  · rename_i a; exact ⟨by simpa using a, h⟩
theorem hchk_s (m : Mly) (h : m.fits) (w : List Int) (hl : (w.length : Int) ≤ 9223372036854775807) : PC F_homing_check [m.av, iL w] = some (.int (m.hchk w)) := by
  refine PCx_of (go_homing_check rfl ?_)
  have hv := mValid_s m h
  have hc := wCheck_s w m.inputs hl
  by_cases h0 : m.validE = 0
  · have e : m.hchk w = wordE w m.inputs := by unfold Mly.hchk; rw [if_neg (by simpa using h0)]
    rw [h0] at hv
    rw [e]
    simp [hv, hc]
  · have e : m.hchk w = m.validE := by unfold Mly.hchk; rw [if_pos h0]
    rw [e]
    simp [hv, h0]
theorem Resolves_s (m : Mly) (h : m.fits) (w : List Int) (hl : (w.length : Int) ≤ 9223372036854775807) : PC F_homing_Resolves [m.av, iL w] = some (.tup [.bool (decide (m.hchk w = 0 ∧ m.hop w = [])), .int (m.hchk w)]) := by
  refine PCx_of (go_homing_Resolves rfl ?_)
  have hc := hchk_s m h w hl
  by_cases h0 : m.hchk w = 0
  · obtain ⟨hv, hw⟩ := hchk_ok h0
    have hst := (mvalidE_ok hv).states
    have hg := groups_s m h hv w hw
    have ho := open_s m (by omega) w
    rw [h0] at hc ⊢
    rcases opi_hop m w with ⟨h1, h2⟩ | ⟨i, i1, i2, _, i3⟩
    · have h2' := eq_true h2
      rw [h1] at ho
      simp [-List.map_map, hc, hg, ho, h2']
    · have h2' := eq_false i3
      have h3 : ((i : Int) < 0) = False := eq_false (by omega)
      rw [i2] at ho
      simp [-List.map_map, hc, hg, ho, h2', h3]
  · simp [hc, h0]
def Mly.pos (m : Mly) (w o : List Int) : List Int × Int := if m.hchk w ≠ 0 then ([], m.hchk w) else if w.length ≠ o.length then ([], 1) else (m.cur w o, 0)
theorem Possible_s (m : Mly) (h : m.fits) (w o : List Int) (hl : (w.length : Int) ≤ 9223372036854775807) (hl2 : (o.length : Int) ≤ 9223372036854775807) : PC F_homing_Possible [m.av, iL w, iL o] = some (.tup [iL (m.pos w o).1, .int (m.pos w o).2]) := by
  refine PCx_of (go_homing_Possible rfl ?_)
  have hc := hchk_s m h w hl
  by_cases h0 : m.hchk w = 0
  case neg =>
    have e : m.pos w o = ([], m.hchk w) := by unfold Mly.pos; rw [if_pos h0]
    rw [e]
    simp [hc, h0]
  rw [h0] at hc
  by_cases h1 : w.length = o.length
  case neg =>
    have e : m.pos w o = ([], 1) := by unfold Mly.pos; rw [if_neg (by simpa using h0), if_pos h1]
    have h1' := eq_false h1
    have h1'' : ((w.length : Int) = (o.length : Int)) = False := eq_false (by omega)
    rw [e]
    simp [hc, h1', h1'']
  have e : m.pos w o = (m.cur w o, 0) := by unfold Mly.pos; rw [if_neg (by simpa using h0), if_neg (by simpa using h1)]
  rw [e]
  obtain ⟨hv, hw⟩ := hchk_ok h0
  have hm := mvalidE_ok hv
  have hst := hm.states
  obtain ⟨hwl, hws⟩ := wordE_ok hw
  have hg := groups_s m h hv w hw
  have hG := grps_ok m w
  have hGl := grps_len m w
  have hcu : ∀ g ∈ m.grps w, g.2 = m.cur w g.1 := fun g hg => grps_cur hm hws hg
  have hno : o ∉ (m.grps w).map (·.1) → m.cur w o = [] := fun hn => by
    rw [List.eq_nil_iff_forall_not_mem]
    intro t ht
    obtain ⟨s, s1, s2, _⟩ := (cur_mem hm hws).1 ht
    exact hn (s2 ▸ hG.all s s1)
  have hln := hG.len
  generalize m.grps w = G at *
  generalize hC : m.cur w o = C at *
  simp [-List.map_map, -More_nor, hc, h1, hg]
  refine W_iter (fun i : Nat => [(5, .int i)]) (fun _ => []) (fun i => i ≤ G.length ∧ ∀ j : Nat, j < i → (ix G (j : Int)).1 ≠ o) (fun i => G.length - i) 0 (by simp [sets]) ⟨by omega, by omega⟩ ?_
  intro i ⟨i1, i2⟩
  by_cases hi : i < G.length
  · have hmem : ix G (i : Int) ∈ G := ix_mem (by omega) (by omega)
    have hE := SEq_s (ix G (i : Int)).1 o (by have := hln _ hmem; omega) (by omega)
    have hcg := hcu _ hmem
    by_cases he : (ix G (i : Int)).1 = o
    · have he' := eq_true he
      have hcc : (ix G (i : Int)).2 = C := by rw [hcg, he, hC]
      simp [-List.map_map, -More_nor, hi, gav, hE, he', hcc]
    · have he' := eq_false he
      simp [-List.map_map, -More_nor, hi, gav, hE, he']
      refine ⟨by omega, More_of (i + 1) (by simp) rfl ⟨by omega, fun j hj => ?_⟩ (by omega)⟩
      by_cases e : j = i
      · subst e; exact he
      · exact i2 j (by omega)
  · have : i = G.length := by omega
    subst this
    have hC0 : C = [] := hno fun hm => by
      obtain ⟨g, hg, e⟩ := List.mem_map.1 hm
      obtain ⟨n, hn, rfl⟩ := List.mem_iff_getElem.1 hg
      exact i2 n hn (by rw [ix_nat hn]; exact e)
    rw [hC0]
    simp [-List.map_map]
def Mly.fin (m : Mly) (w o : List Int) : Int × Bool × Int := if (m.pos w o).2 ≠ 0 ∨ (m.pos w o).1.length ≠ 1 then (0, false, (m.pos w o).2) else (ix (m.pos w o).1 0, true, 0)
theorem Final_s (m : Mly) (h : m.fits) (w o : List Int) (hl : (w.length : Int) ≤ 9223372036854775807) (hl2 : (o.length : Int) ≤ 9223372036854775807) : PC F_homing_Final [m.av, iL w, iL o] = some (.tup [.int (m.fin w o).1, .bool (m.fin w o).2.1, .int (m.fin w o).2.2]) := by
  refine PCx_of (go_homing_Final rfl ?_)
  have hp := Possible_s m h w o hl hl2
  have hf : m.fin w o = if (m.pos w o).2 ≠ 0 ∨ (m.pos w o).1.length ≠ 1 then (0, false, (m.pos w o).2) else (ix (m.pos w o).1 0, true, 0) := rfl
  generalize m.fin w o = R at *
  generalize m.pos w o = P at *
  obtain ⟨l, e⟩ := P
  dsimp only at hp hf ⊢
  by_cases h0 : e = 0
  · subst h0
    by_cases h1 : l.length = 1
    · rw [if_neg (by simp [h1])] at hf
      subst hf
      simp [hp, h1]
    · have h1' := eq_false h1
      have h1'' : ((l.length : Int) = 1) = False := eq_false (by omega)
      rw [if_pos (.inr h1)] at hf
      subst hf
      simp [hp, h1', h1'']
  · rw [if_pos (.inl h0)] at hf
    subst hf
    simp [hp, h0]
end Ab
