/- Blocks of numbers; stores: blocks behind others, blocks that are put, rows that lie somewhere. homing, the document: the first open group. Condition: none. -/
import Derived.Test.YtdhncjkhockhjaaGbf
import Derived.Test.YtdhncjkhockhjaaHomQ
set_option linter.all false
set_option maxRecDepth 100000
set_option maxHeartbeats 4000000
namespace Ab
abbrev Zb (vs : List Int) : Blk := ⟨none, vs.map .int, .live⟩
theorem bE : ∀ (σ : List Blk) (i : Nat), blk σ i = σ[i]?
  | [], i => by simp [blk]
  | x :: r, 0 => rfl
  | x :: r, i + 1 => by simp [blk, bE r i]
theorem sE : ∀ (σ : List Blk) (i : Nat) (B : Blk), setB σ i B = σ.set i B
  | [], i, B => by simp [setB]
  | x :: r, 0, B => rfl
  | x :: r, i + 1, B => by simp [setB, sE r i B]
theorem shL_ints {n : Nat} : ∀ l : List Int, shL n (l.map .int) = l.map .int
  | [] => rfl
  | x :: l => by simp only [List.map_cons, shL, shV, shL_ints l]
def rws (e : Nat) (p : Nat → Nat) (n K : Nat) : List AV := (List.range n).map fun j => .sl (p j + e) K 0 K
theorem rws_succ {e n K : Nat} {p : Nat → Nat} : rws e p (n + 1) K = rws e p n K ++ [.sl (p n + e) K 0 K] := by simp [rws, List.range_succ]
theorem rws_len {e n K : Nat} {p : Nat → Nat} : (rws e p n K).length = n := by simp [rws]
theorem res_box4 {ce : CE} {a b c d : AV} {r : List Blk} : ev ce (⟨some 4, [a, b, c, d], .live⟩ :: r) 0 [] (fun _ => .ptr 0 (kst (some 4)) 0) (.ld (.v 0) (some 4)) = some (.agg [a, b, c, d], none) := (rfl)
theorem blk_at {Q r : List Blk} {B : Blk} : blk (Q ++ B :: r) Q.length = some B := by rw [bE]; simp
theorem setB_at {Q r : List Blk} {B C : Blk} : setB (Q ++ B :: r) Q.length C = Q ++ C :: r := by rw [sE, List.set_append, if_neg (by omega)]; simp
theorem view_Zb {σ : List Blk} {b k : Nat} {l : List Int} (h : blk σ b = some (Zb l)) : view σ false (k + 2) (.sl b l.length 0 l.length) = some (iL l) := by
  have hu : upto σ b l.length = some (Zb l) := by
    unfold upto
    rw [h]
    simp
  unfold view
  simp only [hu, kst, List.drop_zero, Nat.zero_add, Nat.mul_one]
  have e : mapO (view σ false (k + 1)) (l.map AV.int) = some (l.map AV.int) := mapO_mp (f := AV.int) (g := AV.int) fun _ _ => rfl
  rw [if_pos (by simp), chunk_n (by simp), e]
/-- Rows that lie somewhere. -/
structure RowsAt (σ : List Blk) (b : Nat) (at' : Nat → Nat) (l : List (List Int)) : Prop where
  tab : blk σ b = some ⟨none, (List.range l.length).map fun (j : Nat) => AV.sl (at' j) (ix l (j : Int)).length 0 (ix l (j : Int)).length, .live⟩
  row : ∀ j : Nat, j < l.length → blk σ (at' j) = some (Zb (ix l (j : Int)))
theorem mapO_rng {σ : List Blk} {at' : Nat → Nat} {k : Nat} {l : List (List Int)} (h : ∀ j : Nat, j < l.length → blk σ (at' j) = some (Zb (ix l (j : Int)))) : mapO (view σ false (k + 2)) ((List.range l.length).map fun (j : Nat) => AV.sl (at' j) (ix l (j : Int)).length 0 (ix l (j : Int)).length) = some (l.map iL) := by
  have e : l.map iL = (List.range l.length).map fun (j : Nat) => iL (ix l (j : Int)) := by
    apply List.ext_getElem
    · simp
    · intro i h1 h2
      simp at h1
      simp only [List.getElem_map, List.getElem_range]
      rw [ix_nat h1]
  rw [e, mapO_mp]
  intro j hj
  exact view_Zb (h j (List.mem_range.1 hj))
theorem vd_rowsAt {σ : List Blk} {b k n : Nat} {at' : Nat → Nat} {l : List (List Int)} (h : RowsAt σ b at' l) (hn : n = l.length) : view σ false (k + 3) (.sl b n 0 n) = some (iLL l) := by
  subst hn
  have hu : upto σ b l.length = some ⟨none, (List.range l.length).map fun (j : Nat) => AV.sl (at' j) (ix l (j : Int)).length 0 (ix l (j : Int)).length, .live⟩ := by
    unfold upto
    rw [h.tab]
    simp
  unfold view
  simp only [hu, kst, List.drop_zero, Nat.zero_add, Nat.mul_one]
  rw [if_pos (by simp), chunk_n (by simp), mapO_rng h.row]
end Ab
namespace Ab
/-- The state whose outputs are the best so far. -/
def Mly.hoi (m : Mly) (w : List Int) : Nat → Option Nat
  | 0 => none
  | s + 1 => if 1 < (m.cur w (m.outs (s : Int) w)).length ∧ (∀ i, m.hoi w s = some i → lexC (m.outs (s : Int) w) (m.outs (i : Int) w) < 0) then some s else m.hoi w s
def Mly.hog (m : Mly) (w : List Int) (x : Option Nat) : List Int × List Int := match x with
  | none => ([], [])
  | some i => (m.outs (i : Int) w, m.cur w (m.outs (i : Int) w))
theorem hoi_hob {m : Mly} {w : List Int} : ∀ {n : Nat}, m.hog w (m.hoi w n) = m.hob w n ∧ ∀ i, m.hoi w n = some i → i < n ∧ 1 < (m.cur w (m.outs (i : Int) w)).length
  | 0 => ⟨rfl, fun i h => by simp [Mly.hoi] at h⟩
  | n + 1 => by
    obtain ⟨h1, h2⟩ := hoi_hob (m := m) (w := w) (n := n)
    unfold Mly.hoi Mly.hob
    rw [← h1]
    have e : ((∀ i, m.hoi w n = some i → lexC (m.outs (n : Int) w) (m.outs (i : Int) w) < 0)) ↔ ((m.hog w (m.hoi w n)).2 = [] ∨ lexC (m.outs (n : Int) w) (m.hog w (m.hoi w n)).1 < 0) := by
      cases hx : m.hoi w n with
      | none => simp [Mly.hog]
      | some i =>
        have hne : m.cur w (m.outs (i : Int) w) ≠ [] := fun e => by have := (h2 i hx).2; rw [e] at this; simp at this
        simp [Mly.hog, hne]
    by_cases hc : 1 < (m.cur w (m.outs (n : Int) w)).length ∧ (∀ i, m.hoi w n = some i → lexC (m.outs (n : Int) w) (m.outs (i : Int) w) < 0)
    · rw [if_pos hc, if_pos ⟨hc.1, e.1 hc.2⟩]
      exact ⟨rfl, fun i hi => by simp at hi; subst hi; exact ⟨by omega, hc.1⟩⟩
    · rw [if_neg hc, if_neg fun h => hc ⟨h.1, e.2 h.2⟩]
      exact ⟨rfl, fun i hi => by have := h2 i hi; exact ⟨by omega, this.2⟩⟩
def hoS (m : Mly) (w : List Int) (s : Nat) : List Blk := (List.range s).map fun (i : Nat) => louI (m.cur w (m.outs (i : Int) w))
theorem hoS_len {m : Mly} {w : List Int} {s : Nat} : (hoS m w s).length = s := by simp [hoS]
theorem hoS_succ {m : Mly} {w : List Int} {s : Nat} : hoS m w (s + 1) = hoS m w s ++ [louI (m.cur w (m.outs (s : Int) w))] := by simp [hoS, List.range_succ]
theorem hoS_blk {m : Mly} {w : List Int} {s i : Nat} (h : i < s) : blk (hoS m w s) i = some (louI (m.cur w (m.outs (i : Int) w))) := by
  rw [bE]; simp [hoS, h]
def hoV (m : Mly) (w : List Int) (x : Option Nat) : AV := match x with
  | none => .snil
  | some i => .sl i (m.cur w (m.outs (i : Int) w)).length 0 (m.cur w (m.outs (i : Int) w)).length
def hoB (m : Mly) (w : List Int) (x : Option Nat) : AV := match x with
  | none => .snil
  | some i => iL (m.outs (i : Int) w)
theorem shB_louI {n : Nat} {l : List Int} : shB n (louI l) = louI l := by simp [shB, shL_ints]
theorem ropen_l (m : Mly) (hm : m.Ok) (w : List Int) (hl : (w.length : Int) ≤ 1000000) (hw : ∀ x ∈ w, 0 ≤ x ∧ x < m.inputs) : L F_ref13_open [m.av, iL w] [] = some (hoV m w (m.hoi w m.next.length), hoS m w m.next.length) := by
  refine LX_eq (go_ref13_open rfl ?_)
  have hst := hm.states
  simp [-More_nor]
  refine W_iter (fun s : Nat => [(2, .int s), (6, hoV m w (m.hoi w s)), (7, hoB m w (m.hoi w s))]) (fun s => hoS m w s) (fun s => s ≤ m.next.length) (fun s => m.next.length - s) 0 (by simp [sets, hoV, hoB, hoS, Mly.hoi]) (by omega) ?_
  intro s s1
  by_cases hs : s < m.next.length
  · have hr := hrun_s m hm (s : Int) ⟨by omega, by omega⟩ w hl hw
    have hol : (m.outs (s : Int) w).length = w.length := outs_len
    have hc := current_l m hm w (m.outs (s : Int) w) hl (by omega) hw
    have hsu : m.hoi w (s + 1) = if 1 < (m.cur w (m.outs (s : Int) w)).length ∧ (∀ i, m.hoi w s = some i → lexC (m.outs (s : Int) w) (m.outs (i : Int) w) < 0) then some s else m.hoi w s := rfl
    have hho := (hoi_hob (m := m) (w := w) (n := s)).2
    have hSl := hoS_len (m := m) (w := w) (s := s)
    have hSu := hoS_succ (m := m) (w := w) (s := s)
    have hsh := shB_louI (n := s) (l := m.cur w (m.outs (s : Int) w))
    have hV0 : hoV m w none = .snil := rfl
    have hB0 : hoB m w none = .snil := rfl
    have hVi : ∀ i, hoV m w (some i) = .sl i (m.cur w (m.outs (i : Int) w)).length 0 (m.cur w (m.outs (i : Int) w)).length := fun i => rfl
    have hBi : ∀ i, hoB m w (some i) = iL (m.outs (i : Int) w) := fun i => rfl
    cases hx : m.hoi w s with
    | none =>
      rw [hx] at hsu
      by_cases hlen : 1 < (m.cur w (m.outs (s : Int) w)).length
      · have hlen' : ((1 : Int) < ((m.cur w (m.outs (s : Int) w)).length : Int)) = True := eq_true (by omega)
        rw [if_pos ⟨hlen, fun i h => by simp at h⟩] at hsu
        simp [-More_nor, hs, hr, hc, hSl, hsh, hV0, hB0, shV, hlen']
        refine ⟨by omega, More_of (s + 1) (by rw [hsu, hVi, hBi]; simp) (by rw [hSu]) (by omega) (by omega)⟩
      · have hlen' : ((1 : Int) < ((m.cur w (m.outs (s : Int) w)).length : Int)) = False := eq_false (by omega)
        rw [if_neg fun h => hlen h.1] at hsu
        simp [-More_nor, hs, hr, hc, hSl, hsh, hV0, hB0, shV, hlen']
        refine ⟨by omega, More_of (s + 1) (by rw [hsu, hV0, hB0]; simp) (by rw [hSu]) (by omega) (by omega)⟩
    | some i =>
      rw [hx] at hsu
      obtain ⟨hi1, hi2⟩ := hho i hx
      have hoi : (m.outs (i : Int) w).length = w.length := outs_len
      have hlx := rlex_s (m.outs (s : Int) w) (m.outs (i : Int) w) (by omega) (by omega)
      have hb : blk (hoS m w s ++ [louI (m.cur w (m.outs (s : Int) w))]) i = some ⟨none, (m.cur w (m.outs (i : Int) w)).map .int, .live⟩ := by
        rw [bE, List.getElem?_append_left (by omega), ← bE, hoS_blk hi1]
        show some (Blk.mk none _ (if m.cur w (m.outs (i : Int) w) = [] then .nul else .live)) = _
        rw [if_neg (by intro e; rw [e] at hi2; simp at hi2)]
      by_cases hlen : 1 < (m.cur w (m.outs (s : Int) w)).length
      · have hlen' : ((1 : Int) < ((m.cur w (m.outs (s : Int) w)).length : Int)) = True := eq_true (by omega)
        by_cases hlt : lexC (m.outs (s : Int) w) (m.outs (i : Int) w) < 0
        · have hlt' := eq_true hlt
          rw [if_pos ⟨hlen, fun j h => by simp at h; subst h; exact hlt⟩] at hsu
          simp [-More_nor, hs, hr, hc, hSl, hsh, hVi, hBi, shV, hlen', hb, hlx, hlt']
          refine ⟨by omega, More_of (s + 1) (by rw [hsu, hVi, hBi]; simp) (by rw [hSu]) (by omega) (by omega)⟩
        · have hlt' := eq_false hlt
          rw [if_neg fun h => hlt (h.2 i rfl)] at hsu
          simp [-More_nor, hs, hr, hc, hSl, hsh, hVi, hBi, shV, hlen', hb, hlx, hlt']
          refine ⟨by omega, More_of (s + 1) (by rw [hsu, hVi, hBi]; simp) (by rw [hSu]) (by omega) (by omega)⟩
      · have hlen' : ((1 : Int) < ((m.cur w (m.outs (s : Int) w)).length : Int)) = False := eq_false (by omega)
        rw [if_neg fun h => hlen h.1] at hsu
        simp [-More_nor, hs, hr, hc, hSl, hsh, hVi, hBi, shV, hlen']
        refine ⟨by omega, More_of (s + 1) (by rw [hsu, hVi, hBi]; simp) (by rw [hSu]) (by omega) (by omega)⟩
  · have : s = m.next.length := by omega
    subst this
    simp
theorem hoV_view {m : Mly} (hm : m.Ok) {w : List Int} (hw : ∀ x ∈ w, 0 ≤ x ∧ x < m.inputs) (fr : Bool) : view (hoS m w m.next.length) fr vd (hoV m w (m.hoi w m.next.length)) = some (iL (m.hop w)) := by
  obtain ⟨h1, h2⟩ := hoi_hob (m := m) (w := w) (n := m.next.length)
  have h3 := hob_hop hm hw
  rw [← h1] at h3
  cases hx : m.hoi w m.next.length with
  | none =>
    rw [hx] at h3
    rw [← h3]; rfl
  | some i =>
    rw [hx] at h3
    obtain ⟨i1, i2⟩ := h2 i hx
    have e : (m.hog w (some i)).2 = m.cur w (m.outs (i : Int) w) := rfl
    rw [← h3, e]
    exact vd_iL (hoS_blk i1) (by split <;> simp) rfl
theorem ropen_s (m : Mly) (hm : m.Ok) (w : List Int) (hl : (w.length : Int) ≤ 1000000) (hw : ∀ x ∈ w, 0 ≤ x ∧ x < m.inputs) : PC F_ref13_open [m.av, iL w] = some (iL (m.hop w)) := by
  have h := ropen_l m hm w hl hw
  have hv := hoV_view hm hw false
  simp only [PC, PCx, h]
  have e : viewT (hoS m w m.next.length) false (hoV m w (m.hoi w m.next.length)) = view (hoS m w m.next.length) false vd (hoV m w (m.hoi w m.next.length)) := by
    cases m.hoi w m.next.length <;> rfl
  rw [e, hv]
theorem rhchk_s (m : Mly) (h : m.fits) (w : List Int) (hl : (w.length : Int) ≤ 9223372036854775807) : PC F_ref13_check [m.av, iL w] = some (.int (m.hchk w)) := by
  refine PCx_of (go_ref13_check rfl ?_)
  have hv := rmValid_s m h
  have hc := rCheck_s w m.inputs hl
  by_cases h0 : m.validE = 0
  · have e : m.hchk w = wordE w m.inputs := by unfold Mly.hchk; rw [if_neg (by simpa using h0)]
    rw [h0] at hv
    rw [e]
    simp [hv, hc]
  · have e : m.hchk w = m.validE := by unfold Mly.hchk; rw [if_pos h0]
    rw [e]
    simp [hv, h0]
theorem RResolves_s (m : Mly) (h : m.fits) (w : List Int) (hl : (w.length : Int) ≤ 9223372036854775807) : PC F_ref13_Resolves [m.av, iL w] = some (.tup [.bool (decide (m.hchk w = 0 ∧ m.hop w = [])), .int (m.hchk w)]) := by
  refine PCx_of (go_ref13_Resolves rfl ?_)
  have hc := rhchk_s m h w hl
  by_cases h0 : m.hchk w = 0
  · obtain ⟨hv, hw⟩ := hchk_ok h0
    obtain ⟨hwl, hws⟩ := wordE_ok hw
    have ho := ropen_s m (mvalidE_ok hv) w (by omega) hws
    rw [h0] at hc ⊢
    by_cases h1 : m.hop w = []
    · have h1' := eq_true h1
      rw [h1] at ho ⊢
      simp [hc, ho]
    · have h1' := eq_false h1
      have h2 : ((m.hop w).length = 0) = False := eq_false fun e => h1 (List.eq_nil_of_length_eq_zero e)
      have h3 : (((m.hop w).length : Int) = 0) = False := eq_false fun e => h1 (List.eq_nil_of_length_eq_zero (by omega))
      simp [hc, ho, h1', h2, h3]
  · simp [hc, h0]
theorem RPossible_s (m : Mly) (h : m.fits) (w o : List Int) (hl : (w.length : Int) ≤ 9223372036854775807) (hl2 : (o.length : Int) ≤ 9223372036854775807) : PC F_ref13_Possible [m.av, iL w, iL o] = some (.tup [iL (m.pos w o).1, .int (m.pos w o).2]) := by
  refine PCx_of (go_ref13_Possible rfl ?_)
  have hc := rhchk_s m h w hl
  by_cases h0 : m.hchk w = 0
  case neg =>
    have e : m.pos w o = ([], m.hchk w) := by unfold Mly.pos; rw [if_pos h0]
    rw [e]
    simp [hc, h0]
  rw [h0] at hc
  by_cases h1 : w.length = o.length
  case neg =>
    have e : m.pos w o = ([], 1) := by unfold Mly.pos; rw [if_neg (by simpa using h0), if_pos h1]
    have h1' := eq_false h1
    have h1'' : ((w.length : Int) = (o.length : Int)) = False := eq_false (by omega)
    rw [e]
    simp [hc, h1', h1'']
  have e : m.pos w o = (m.cur w o, 0) := by unfold Mly.pos; rw [if_neg (by simpa using h0), if_neg (by simpa using h1)]
  rw [e]
  obtain ⟨hv, hw⟩ := hchk_ok h0
  obtain ⟨hwl, hws⟩ := wordE_ok hw
  have hcur : PC F_ref13_current [m.av, iL w, iL o] = some (iL (m.cur w o)) := by
    have h := current_l m (mvalidE_ok hv) w o (by omega) (by omega) hws
    have hv := vd_louI (σ := [louI (m.cur w o)]) (b := 0) (out := m.cur w o) rfl
    simp only [PC, PCx, h]
    exact hv
  simp [hc, h1, hcur]
theorem RFinal_s (m : Mly) (h : m.fits) (w o : List Int) (hl : (w.length : Int) ≤ 9223372036854775807) (hl2 : (o.length : Int) ≤ 9223372036854775807) : PC F_ref13_Final [m.av, iL w, iL o] = some (.tup [.int (m.fin w o).1, .bool (m.fin w o).2.1, .int (m.fin w o).2.2]) := by
  refine PCx_of (go_ref13_Final rfl ?_)
  have hp := RPossible_s m h w o hl hl2
  have hf : m.fin w o = if (m.pos w o).2 ≠ 0 ∨ (m.pos w o).1.length ≠ 1 then (0, false, (m.pos w o).2) else (ix (m.pos w o).1 0, true, 0) := rfl
  generalize m.fin w o = R at *
  generalize m.pos w o = P at *
  obtain ⟨l, e⟩ := P
  dsimp only at hp hf ⊢
  by_cases h0 : e = 0
  · subst h0
    by_cases h1 : l.length = 1
    · rw [if_neg (by simp [h1])] at hf
      subst hf
      simp [hp, h1]
    · have h1' := eq_false h1
      have h1'' : ((l.length : Int) = 1) = False := eq_false (by omega)
      rw [if_pos (.inr h1)] at hf
      subst hf
      simp [hp, h1', h1'']
  · rw [if_pos (.inl h0)] at hf
    subst hf
    simp [hp, h0]
end Ab
