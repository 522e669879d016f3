/- The document's first open group is the program's. homing, the document: run, the current states of a group. homing, the document: the first open group. Condition: none. -/
import Derived.Test.YtdhncjkhockhjaaHomS
import Derived.Test.YtdhncjkhockhjaaHomP
import Derived.Test.YtdhncjkhockhjaaStoA
set_option linter.all false
set_option maxRecDepth 100000
set_option maxHeartbeats 1000000
namespace Ab
/-- The best group so far. -/
def Mly.hob (m : Mly) (w : List Int) : Nat → List Int × List Int
  | 0 => ([], [])
  | s + 1 => if 1 < (m.cur w (m.outs (s : Int) w)).length ∧ ((m.hob w s).2 = [] ∨ lexC (m.outs (s : Int) w) (m.hob w s).1 < 0) then (m.outs (s : Int) w, m.cur w (m.outs (s : Int) w)) else m.hob w s
structure Hob (m : Mly) (w : List Int) (n : Nat) (b : List Int × List Int) : Prop where
  no : b.2 = [] → ∀ s : Nat, s < n → ¬ 1 < (m.cur w (m.outs (s : Int) w)).length
  yes : b.2 ≠ [] → b.2 = m.cur w b.1 ∧ 1 < b.2.length ∧ (∃ s : Nat, s < n ∧ m.outs (s : Int) w = b.1) ∧ ∀ s : Nat, s < n → 1 < (m.cur w (m.outs (s : Int) w)).length → lexC b.1 (m.outs (s : Int) w) ≤ 0
theorem hob_ok {m : Mly} {w : List Int} : ∀ {n : Nat}, Hob m w n (m.hob w n)
  | 0 => ⟨fun _ s h => by omega, fun h => absurd rfl h⟩
  | n + 1 => by
    have ih := hob_ok (m := m) (w := w) (n := n)
    unfold Mly.hob
    generalize m.hob w n = b at *
    split
    · rename_i h
      refine ⟨fun e => ?_, fun _ => ⟨rfl, h.1, ⟨n, by omega, rfl⟩, fun s hs hl => ?_⟩⟩
      · dsimp only at e; rw [e] at h; simp at h
      · dsimp only
        by_cases e : s = n
        · subst e; exact Int.le_of_eq (lexC_refl _)
        · rcases h.2 with h2 | h2
          · exact absurd hl (ih.no h2 s (by omega))
          · by_cases hb : b.2 = []
            · exact absurd hl (ih.no hb s (by omega))
            · exact lexC_ok.trans _ _ _ (Int.le_of_lt h2) ((ih.yes hb).2.2.2 s (by omega) hl)
    · rename_i h
      refine ⟨fun e s hs hl => ?_, fun hb => ?_⟩
      · by_cases e' : s = n
        · subst e'; exact h ⟨hl, .inl e⟩
        · exact ih.no e s (by omega) hl
      · obtain ⟨y1, y2, ⟨s, s1, s2⟩, y3⟩ := ih.yes hb
        refine ⟨y1, y2, ⟨s, by omega, s2⟩, fun t ht hl => ?_⟩
        by_cases e' : t = n
        · subst e'
          have : ¬ lexC (m.outs (t : Int) w) b.1 < 0 := fun hlt => h ⟨hl, .inr hlt⟩
          have := lexC_ok.anti (m.outs (t : Int) w) b.1
          omega
        · exact y3 t (by omega) hl
theorem find_first {p : Gr → Bool} : ∀ {l : List Gr} {g : Gr}, l.Pairwise (fun a b => lexC a.1 b.1 < 0) → l.find? p = some g → ∀ k ∈ l, p k = true → lexC g.1 k.1 ≤ 0
  | [], _, _, h => by simp at h
  | a :: l, g, hp, h => by
    have ⟨h1, h2⟩ := List.pairwise_cons.1 hp
    rw [List.find?_cons] at h
    intro k hk hpk
    cases hpa : p a with
    | true =>
      rw [hpa] at h
      simp at h; subst h
      rcases List.mem_cons.1 hk with rfl | hk
      · exact Int.le_of_eq (lexC_refl _)
      · exact Int.le_of_lt (h1 k hk)
    | false =>
      rw [hpa] at h
      rcases List.mem_cons.1 hk with rfl | hk
      · rw [hpa] at hpk; simp at hpk
      · exact find_first h2 h k hk hpk
theorem hob_hop {m : Mly} (hm : m.Ok) {w : List Int} (hw : ∀ x ∈ w, 0 ≤ x ∧ x < m.inputs) : (m.hob w m.next.length).2 = m.hop w := by
  have hH := hob_ok (m := m) (w := w) (n := m.next.length)
  have hG := grps_ok m w
  have hU := grps_up m w
  generalize m.hob w m.next.length = b at *
  unfold Mly.hop
  cases hf : (m.grps w).find? fun g => decide (1 < g.2.length) with
  | none =>
    dsimp only
    refine Classical.byContradiction fun hb => ?_
    obtain ⟨y1, y2, ⟨s, s1, s2⟩, _⟩ := hH.yes hb
    obtain ⟨g, hg, e⟩ := List.mem_map.1 (hG.all s s1)
    have h1 := List.find?_eq_none.1 hf g hg
    simp only [decide_eq_true_eq] at h1
    rw [grps_cur hm hw hg, e, s2, ← y1] at h1
    exact h1 y2
  | some g =>
    dsimp only
    have hg := List.mem_of_find?_eq_some hf
    have h1 := List.find?_some hf
    simp only [decide_eq_true_eq] at h1
    have hc := grps_cur hm hw hg
    obtain ⟨s, s1, s2⟩ := hG.ne g hg
    have hopen : 1 < (m.cur w (m.outs (s : Int) w)).length := by rw [s2, ← hc]; exact h1
    by_cases hb : b.2 = []
    · exact absurd hopen (hH.no hb s s1)
    · obtain ⟨y1, y2, ⟨t, t1, t2⟩, y3⟩ := hH.yes hb
      have l1 := y3 s s1 hopen
      rw [s2] at l1
      obtain ⟨k, hk, e⟩ := List.mem_map.1 (hG.all t t1)
      have hkc := grps_cur hm hw hk
      have l2 := find_first hU hf k hk (by simp only [decide_eq_true_eq]; rw [hkc, e, t2, ← y1]; exact y2)
      rw [e, t2] at l2
      have := lexC_ok.anti b.1 g.1
      have he := lexC_ok.eq b.1 g.1 (by omega)
      rw [y1, hc, he]
end Ab
namespace Ab
theorem hrun_s (m : Mly) (hm : m.Ok) (s : Int) (hs : 0 ≤ s ∧ s < (m.next.length : Int)) (w : List Int) (hl : (w.length : Int) ≤ 1000000) (hw : ∀ x ∈ w, 0 ≤ x ∧ x < m.inputs) : PC F_ref13_run [m.av, .int s, iL w] = some (.tup [iL (m.outs s w), .int (m.run s w)]) := by
  refine PCx_of (go_ref13_run rfl ?_)
  simp
  refine W_iter (fun i : Nat => [(1, .int (m.run s (w.take i))), (3, .int i), (4, .sl 0 i 0 i)]) (fun i => [louI (m.outs s (w.take i))]) (fun i => i ≤ w.length) (fun i => w.length - i) 0 (by simp [sets, Mly.run, Mly.outs]) (by omega) ?_
  intro i hi1
  have hml := hm.len
  by_cases hi : i < w.length
  · have tk := take_snoc hi
    have hxs : ∀ x ∈ w.take i, 0 ≤ x ∧ x < m.inputs := fun x hx => hw x (List.mem_of_mem_take hx)
    have hr := run_rng hm hs hxs
    have ha := hw _ (ix_mem (l := w) (n := (i : Int)) (by omega) (by omega))
    have ho : (m.outs s (w.take i)).length = i := by rw [outs_len, List.length_take, Nat.min_eq_left (by omega)]
    have e1 : m.run s (w.take (i + 1)) = ix (ix m.next (m.run s (w.take i))) (ix w (i : Int)) := by rw [tk, run_app]; rfl
    have e2 : m.outs s (w.take (i + 1)) = m.outs s (w.take i) ++ [ix (ix m.out (m.run s (w.take i))) (ix w (i : Int))] := by rw [tk, outs_app]; rfl
    generalize m.outs s (w.take i) = O at *
    generalize m.run s (w.take i) = R at *
    have hrow := hm.row R hr.1 hr.2
    have hro : R < (m.out.length : Int) := by omega
    simp [-More_nor, hi, hr.1, hr.2, hro, ha.1, ha.2, hrow.1, hrow.2, ho]
    refine ⟨by split <;> simp, by omega, by omega, More_of (i + 1) (by simp [e1]) (by rw [e2]; simp) (by omega) (by omega)⟩
  · have ei : i = w.length := by omega
    subst ei
    have hv7 := vd_louI (σ := [louI (m.outs s w)]) (b := 0) (out := m.outs s w) rfl
    rw [outs_len] at hv7
    simp [hv7]
/-- Some state so far leads there with these outputs. -/
def Mly.fnd (m : Mly) (w o : List Int) (t : Int) (n : Nat) : Bool := (List.range n).any fun (s : Nat) => decide (m.outs (s : Int) w = o) && decide (m.run (s : Int) w = t)
theorem fnd_succ {m : Mly} {w o : List Int} {t : Int} {n : Nat} : m.fnd w o t (n + 1) = (m.fnd w o t n || (decide (m.run (n : Int) w = t) && decide (m.outs (n : Int) w = o))) := by
  unfold Mly.fnd
  rw [List.range_succ, List.any_append, List.any_cons, List.any_nil, Bool.or_false, Bool.and_comm]
def Mly.curN (m : Mly) (w o : List Int) (n : Nat) : List Int := ((List.range n).filter fun (t : Nat) => m.fnd w o (t : Int) m.next.length).map fun (t : Nat) => (t : Int)
theorem curN_succ {m : Mly} {w o : List Int} {n : Nat} : m.curN w o (n + 1) = m.curN w o n ++ (if m.fnd w o (n : Int) m.next.length = true then [(n : Int)] else []) := by
  unfold Mly.curN
  rw [List.range_succ, List.filter_append, List.map_append]
  congr 1
  by_cases h : m.fnd w o (n : Int) m.next.length = true
  · rw [if_pos h, List.filter_cons_of_pos (p := fun (t : Nat) => m.fnd w o (t : Int) m.next.length) h]; rfl
  · rw [if_neg h, List.filter_cons_of_neg (p := fun (t : Nat) => m.fnd w o (t : Int) m.next.length) h]; rfl
theorem curN_len {m : Mly} {w o : List Int} {n : Nat} : (m.curN w o n).length ≤ n := by
  unfold Mly.curN
  rw [List.length_map]
  have := List.length_filter_le (fun (t : Nat) => m.fnd w o (t : Int) m.next.length) (List.range n)
  simpa using this
theorem current_l (m : Mly) (hm : m.Ok) (w o : List Int) (hl : (w.length : Int) ≤ 1000000) (hlo : (o.length : Int) ≤ 1000000) (hw : ∀ x ∈ w, 0 ≤ x ∧ x < m.inputs) : L F_ref13_current [m.av, iL w, iL o] [] = some (.sl 0 (m.cur w o).length 0 (m.cur w o).length, [louI (m.cur w o)]) := by
  refine LX_eq (go_ref13_current rfl ?_)
  have hst := hm.states
  have hcn : m.curN w o m.next.length = m.cur w o := rfl
  simp [-More_nor]
  refine W_iter (fun t : Nat => [(3, .int t), (9, .sl 0 (m.curN w o t).length 0 (m.curN w o t).length)]) (fun t => [louI (m.curN w o t)]) (fun t => t ≤ m.next.length) (fun t => m.next.length - t) 0 (by simp [sets, Mly.curN]) (by omega) ?_
  intro t t1
  by_cases ht : t < m.next.length
  · have hsu := curN_succ (m := m) (w := w) (o := o) (n := t)
    have hln := curN_len (m := m) (w := w) (o := o) (n := t)
    generalize m.curN w o t = C at *
    simp [-More_nor, ht]
    refine W_iter (fun s : Nat => [(5, .int s), (6, .bool (m.fnd w o (t : Int) s))]) (fun _ => [louI C]) (fun s => s ≤ m.next.length) (fun s => m.next.length - s) 0 (by simp [sets, Mly.fnd]) (by omega) ?_
    intro s s1
    by_cases hs : s < m.next.length
    · have hr := hrun_s m hm (s : Int) ⟨by omega, by omega⟩ w hl hw
      have hI := Ints_s (m.outs (s : Int) w) o (by rw [outs_len]; omega) (by omega)
      have hfs := fnd_succ (m := m) (w := w) (o := o) (t := (t : Int)) (n := s)
      generalize m.fnd w o (t : Int) s = F at *
      cases F with
      | true =>
        simp [-More_nor, hs, hr, hI]
        refine ⟨by omega, More_of (s + 1) (by simp [hfs]) rfl (by omega) (by omega)⟩
      | false =>
        by_cases h1 : m.run (s : Int) w = (t : Int)
        · have h1' := eq_true h1
          by_cases h2 : m.outs (s : Int) w = o
          · have h2' := eq_true h2
            simp [-More_nor, hs, hr, hI, h1', h2']
            refine ⟨by omega, More_of (s + 1) (by simp [hfs, h1', h2']) rfl (by omega) (by omega)⟩
          · have h2' := eq_false h2
            simp [-More_nor, hs, hr, hI, h1', h2']
            refine ⟨by omega, More_of (s + 1) (by simp [hfs, h1', h2']) rfl (by omega) (by omega)⟩
        · have h1' := eq_false h1
          simp [-More_nor, hs, hr, hI, h1']
          refine ⟨by omega, More_of (s + 1) (by simp [hfs, h1']) rfl (by omega) (by omega)⟩
    · have : s = m.next.length := by omega
      subst this
      by_cases hF : m.fnd w o (t : Int) m.next.length = true
      · rw [if_pos hF] at hsu
        simp [-More_nor, hF]
        refine ⟨by split <;> rfl, by omega, by omega, More_of (t + 1) (by rw [hsu]; simp) ?_ (by omega) (by omega)⟩
        rw [hsu]
        simp
      · rw [if_neg hF, List.append_nil] at hsu
        simp [-More_nor, hF]
        refine ⟨by omega, More_of (t + 1) (by rw [hsu]; simp) (by rw [hsu]) (by omega) (by omega)⟩
  · have : t = m.next.length := by omega
    subst this
    rw [hcn]
    simp
end Ab
namespace Ab
/-- The state whose outputs are the best so far. -/
def Mly.hoi (m : Mly) (w : List Int) : Nat → Option Nat
  | 0 => none
  | s + 1 => if 1 < (m.cur w (m.outs (s : Int) w)).length ∧ (∀ i, m.hoi w s = some i → lexC (m.outs (s : Int) w) (m.outs (i : Int) w) < 0) then some s else m.hoi w s
def Mly.hog (m : Mly) (w : List Int) (x : Option Nat) : List Int × List Int := match x with
  | none => ([], [])
  | some i => (m.outs (i : Int) w, m.cur w (m.outs (i : Int) w))
theorem hoi_hob {m : Mly} {w : List Int} : ∀ {n : Nat}, m.hog w (m.hoi w n) = m.hob w n ∧ ∀ i, m.hoi w n = some i → i < n ∧ 1 < (m.cur w (m.outs (i : Int) w)).length
  | 0 => ⟨rfl, fun i h => by simp [Mly.hoi] at h⟩
  | n + 1 => by
    obtain ⟨h1, h2⟩ := hoi_hob (m := m) (w := w) (n := n)
    unfold Mly.hoi Mly.hob
    rw [← h1]
    have e : ((∀ i, m.hoi w n = some i → lexC (m.outs (n : Int) w) (m.outs (i : Int) w) < 0)) ↔ ((m.hog w (m.hoi w n)).2 = [] ∨ lexC (m.outs (n : Int) w) (m.hog w (m.hoi w n)).1 < 0) := by
      cases hx : m.hoi w n with
      | none => simp [Mly.hog]
      | some i =>
        have hne : m.cur w (m.outs (i : Int) w) ≠ [] := fun e => by have := (h2 i hx).2; rw [e] at this; simp at this
        simp [Mly.hog, hne]
    by_cases hc : 1 < (m.cur w (m.outs (n : Int) w)).length ∧ (∀ i, m.hoi w n = some i → lexC (m.outs (n : Int) w) (m.outs (i : Int) w) < 0)
    · rw [if_pos hc, if_pos ⟨hc.1, e.1 hc.2⟩]
      exact ⟨rfl, fun i hi => by simp at hi; subst hi; exact ⟨by omega, hc.1⟩⟩
    · rw [if_neg hc, if_neg fun h => hc ⟨h.1, e.2 h.2⟩]
      exact ⟨rfl, fun i hi => by have := h2 i hi; exact ⟨by omega, this.2⟩⟩
def hoS (m : Mly) (w : List Int) (s : Nat) : List Blk := (List.range s).map fun (i : Nat) => louI (m.cur w (m.outs (i : Int) w))
theorem hoS_len {m : Mly} {w : List Int} {s : Nat} : (hoS m w s).length = s := by simp [hoS]
theorem hoS_succ {m : Mly} {w : List Int} {s : Nat} : hoS m w (s + 1) = hoS m w s ++ [louI (m.cur w (m.outs (s : Int) w))] := by simp [hoS, List.range_succ]
theorem hoS_blk {m : Mly} {w : List Int} {s i : Nat} (h : i < s) : blk (hoS m w s) i = some (louI (m.cur w (m.outs (i : Int) w))) := by
  rw [bE]; simp [hoS, h]
def hoV (m : Mly) (w : List Int) (x : Option Nat) : AV := match x with
  | none => .snil
  | some i => .sl i (m.cur w (m.outs (i : Int) w)).length 0 (m.cur w (m.outs (i : Int) w)).length
def hoB (m : Mly) (w : List Int) (x : Option Nat) : AV := match x with
  | none => .snil
  | some i => iL (m.outs (i : Int) w)
theorem shB_louI {n : Nat} {l : List Int} : shB n (louI l) = louI l := by simp [shB, shL_ints]
theorem ropen_l (m : Mly) (hm : m.Ok) (w : List Int) (hl : (w.length : Int) ≤ 1000000) (hw : ∀ x ∈ w, 0 ≤ x ∧ x < m.inputs) : L F_ref13_open [m.av, iL w] [] = some (hoV m w (m.hoi w m.next.length), hoS m w m.next.length) := by
  refine LX_eq (go_ref13_open rfl ?_)
  have hst := hm.states
  simp [-More_nor]
  refine W_iter (fun s : Nat => [(2, .int s), (6, hoV m w (m.hoi w s)), (7, hoB m w (m.hoi w s))]) (fun s => hoS m w s) (fun s => s ≤ m.next.length) (fun s => m.next.length - s) 0 (by simp [sets, hoV, hoB, hoS, Mly.hoi]) (by omega) ?_
  intro s s1
  by_cases hs : s < m.next.length
  · have hr := hrun_s m hm (s : Int) ⟨by omega, by omega⟩ w hl hw
    have hol : (m.outs (s : Int) w).length = w.length := outs_len
    have hc := current_l m hm w (m.outs (s : Int) w) hl (by omega) hw
    have hsu : m.hoi w (s + 1) = if 1 < (m.cur w (m.outs (s : Int) w)).length ∧ (∀ i, m.hoi w s = some i → lexC (m.outs (s : Int) w) (m.outs (i : Int) w) < 0) then some s else m.hoi w s := rfl
    have hho := (hoi_hob (m := m) (w := w) (n := s)).2
    have hSl := hoS_len (m := m) (w := w) (s := s)
    have hSu := hoS_succ (m := m) (w := w) (s := s)
    have hsh := shB_louI (n := s) (l := m.cur w (m.outs (s : Int) w))
    have hV0 : hoV m w none = .snil := rfl
    have hB0 : hoB m w none = .snil := rfl
    have hVi : ∀ i, hoV m w (some i) = .sl i (m.cur w (m.outs (i : Int) w)).length 0 (m.cur w (m.outs (i : Int) w)).length := fun i => rfl
    have hBi : ∀ i, hoB m w (some i) = iL (m.outs (i : Int) w) := fun i => rfl
    cases hx : m.hoi w s with
    | none =>
      rw [hx] at hsu
      by_cases hlen : 1 < (m.cur w (m.outs (s : Int) w)).length
      · have hlen' : ((1 : Int) < ((m.cur w (m.outs (s : Int) w)).length : Int)) = True := eq_true (by omega)
        rw [if_pos ⟨hlen, fun i h => by simp at h⟩] at hsu
        simp [-More_nor, hs, hr, hc, hSl, hsh, hV0, hB0, shV, hlen']
        refine ⟨by omega, More_of (s + 1) (by rw [hsu, hVi, hBi]; simp) (by rw [hSu]) (by omega) (by omega)⟩
      · have hlen' : ((1 : Int) < ((m.cur w (m.outs (s : Int) w)).length : Int)) = False := eq_false (by omega)
        rw [if_neg fun h => hlen h.1] at hsu
        simp [-More_nor, hs, hr, hc, hSl, hsh, hV0, hB0, shV, hlen']
        refine ⟨by omega, More_of (s + 1) (by rw [hsu, hV0, hB0]; simp) (by rw [hSu]) (by omega) (by omega)⟩
    | some i =>
      rw [hx] at hsu
      obtain ⟨hi1, hi2⟩ := hho i hx
      have hoi : (m.outs (i : Int) w).length = w.length := outs_len
      have hlx := rlex_s (m.outs (s : Int) w) (m.outs (i : Int) w) (by omega) (by omega)
      have hb : blk (hoS m w s ++ [louI (m.cur w (m.outs (s : Int) w))]) i = some ⟨none, (m.cur w (m.outs (i : Int) w)).map .int, .live⟩ := by
        rw [bE, List.getElem?_append_left (by omega), ← bE, hoS_blk hi1]
        show some (Blk.mk none _ (if m.cur w (m.outs (i : Int) w) = [] then .nul else .live)) = _
        rw [if_neg (by intro e; rw [e] at hi2; simp at hi2)]
      by_cases hlen : 1 < (m.cur w (m.outs (s : Int) w)).length
      · have hlen' : ((1 : Int) < ((m.cur w (m.outs (s : Int) w)).length : Int)) = True := eq_true (by omega)
        by_cases hlt : lexC (m.outs (s : Int) w) (m.outs (i : Int) w) < 0
        · have hlt' := eq_true hlt
          rw [if_pos ⟨hlen, fun j h => by simp at h; subst h; exact hlt⟩] at hsu
          simp [-More_nor, hs, hr, hc, hSl, hsh, hVi, hBi, shV, hlen', hb, hlx, hlt']
          refine ⟨by omega, More_of (s + 1) (by rw [hsu, hVi, hBi]; simp) (by rw [hSu]) (by omega) (by omega)⟩
        · have hlt' := eq_false hlt
          rw [if_neg fun h => hlt (h.2 i rfl)] at hsu
          simp [-More_nor, hs, hr, hc, hSl, hsh, hVi, hBi, shV, hlen', hb, hlx, hlt']
          refine ⟨by omega, More_of (s + 1) (by rw [hsu, hVi, hBi]; simp) (by rw [hSu]) (by omega) (by omega)⟩
      · have hlen' : ((1 : Int) < ((m.cur w (m.outs (s : Int) w)).length : Int)) = False := eq_false (by omega)
        rw [if_neg fun h => hlen h.1] at hsu
        simp [-More_nor, hs, hr, hc, hSl, hsh, hVi, hBi, shV, hlen']
        refine ⟨by omega, More_of (s + 1) (by rw [hsu, hVi, hBi]; simp) (by rw [hSu]) (by omega) (by omega)⟩
  · have : s = m.next.length := by omega
    subst this
    simp
theorem hoV_view {m : Mly} (hm : m.Ok) {w : List Int} (hw : ∀ x ∈ w, 0 ≤ x ∧ x < m.inputs) (fr : Bool) : view (hoS m w m.next.length) fr vd (hoV m w (m.hoi w m.next.length)) = some (iL (m.hop w)) := by
  obtain ⟨h1, h2⟩ := hoi_hob (m := m) (w := w) (n := m.next.length)
  have h3 := hob_hop hm hw
  rw [← h1] at h3
  cases hx : m.hoi w m.next.length with
  | none =>
    rw [hx] at h3
    rw [← h3]; rfl
  | some i =>
    rw [hx] at h3
    obtain ⟨i1, i2⟩ := h2 i hx
    have e : (m.hog w (some i)).2 = m.cur w (m.outs (i : Int) w) := rfl
    rw [← h3, e]
    exact vd_iL (hoS_blk i1) (by split <;> simp) rfl
end Ab
