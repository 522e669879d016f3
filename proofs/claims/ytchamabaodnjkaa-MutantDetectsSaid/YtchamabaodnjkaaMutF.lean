/- A changed machine. Condition: none. -/
import Derived.Test.YtchamabaodnjkaaSto
set_option linter.all false
set_option maxRecDepth 100000
set_option maxHeartbeats 4000000
namespace Ab
/-- Whether a mutation fits a machine. -/
structure Mut.Fits (x : Mut) (m : Mly) : Prop where
  st : 0 ≤ x.st ∧ x.st < (m.next.length : Int)
  inp : 0 ≤ x.inp ∧ x.inp < m.inputs
  val : (x.kind = 1 ∧ 0 ≤ x.val ∧ x.val ≤ 1048576 ∧ x.val2 = 0) ∨ (x.kind = 2 ∧ 0 ≤ x.val ∧ x.val < (m.next.length : Int) ∧ x.val2 = 0) ∨ (x.kind = 3 ∧ 0 ≤ x.val ∧ x.val ≤ 1048576 ∧ 0 ≤ x.val2 ∧ x.val2 < m.inputs)
/-- The changed machine. -/
def setLL (l : List (List Int)) (i j v : Int) : List (List Int) := l.set i.toNat ((ix l i).set j.toNat v)
def Mly.chg (m : Mly) (x : Mut) : Mly :=
  if x.kind = 1 then ⟨m.inputs, m.start, m.next, setLL m.out x.st x.inp x.val⟩
  else if x.kind = 2 then ⟨m.inputs, m.start, setLL m.next x.st x.inp x.val, m.out⟩
  else ⟨m.inputs, m.start, setLL m.next x.st x.inp m.next.length ++ [ix m.next (ix (ix m.next x.st) x.inp)], m.out ++ [(ix m.out (ix (ix m.next x.st) x.inp)).set x.val2.toNat x.val]⟩
theorem pT_rws {e n K : Nat} {p : Nat → Nat} {s : Int} {l : List AV} {P : AV → Prop} {t : Tk P} (h0 : 0 ≤ s) (h1 : s < n) : pT (rws e p n K ++ l) (0 + s.toNat * 1) none P t = P (.sl (p s.toNat + e) K 0 K) := by
  unfold pT part
  have hl : s.toNat < (rws e p n K).length := by rw [rws_len]; omega
  rw [show 0 + s.toNat * 1 = s.toNat by omega, elm_eq, List.getElem?_append_left hl]
  unfold rws
  rw [List.getElem?_map, List.getElem?_range (by omega)]
  rfl
theorem pT_rwsN {e n K : Nat} {p : Nat → Nat} {s : Int} {P : AV → Prop} {t : Tk P} (h0 : 0 ≤ s) (h1 : s < n) : pT (rws e p n K) (0 + s.toNat * 1) none P t = P (.sl (p s.toNat + e) K 0 K) := by
  have := pT_rws (e := e) (K := K) (p := p) (n := n) (l := []) (P := P) (t := t) h0 h1
  rwa [List.append_nil] at this
theorem elm_rws {e n K : Nat} {p : Nat → Nat} {s : Int} (h0 : 0 ≤ s) (h1 : s < n) : elm (rws e p n K) s.toNat = some (.sl (p s.toNat + e) K 0 K) := by
  have hl : s.toNat < (rws e p n K).length := by rw [rws_len]; omega
  rw [elm_eq]
  unfold rws
  rw [List.getElem?_map, List.getElem?_range (by omega)]
  rfl
theorem pNO (i j : Nat) : pN i ≠ pO j := by unfold pN pO; split <;> split <;> omega
theorem pN_inj {i j : Nat} (h : pN i = pN j) : i = j := by unfold pN at h; split at h <;> split at h <;> omega
theorem pO_inj {i j : Nat} (h : pO i = pO j) : i = j := by unfold pO at h; split at h <;> split at h <;> omega
theorem pN_ne (i : Nat) : pN i + 2 ≠ 3 ∧ pN i + 2 ≠ 5 := by unfold pN; split <;> omega
theorem pO_ne (i : Nat) : pO i + 2 ≠ 3 ∧ pO i + 2 ≠ 5 := by unfold pO; split <;> omega
theorem ix_setn {l : List (List Int)} {s j : Nat} {r : List Int} (hj : j < l.length) : ix (l.set s r) (j : Int) = if j = s then r else ix l (j : Int) := by
  rw [ixs_set (by omega) (by omega)]
  by_cases e : j = s
  · rw [if_pos (by omega), if_pos e]
  · rw [if_neg (by omega), if_neg e]
theorem Cpy.setO {Q : List Blk} {N O : List (List Int)} {K : Nat} (h : Cpy Q N O K) (hl : O.length = N.length) {s : Nat} {r : List Int} : Cpy (setB Q (pO s + 2) (Zb r)) N (O.set s r) K := by
  refine ⟨by rw [setB_len]; exact h.len, ?_, ?_, fun j hj => ?_, fun j hj => ?_⟩
  · rw [blk_ne (pO_ne s).1]; exact h.nl
  · rw [blk_ne (pO_ne s).2]; exact h.ol
  · rw [blk_ne (by have := pNO j s; omega)]; exact h.nr j hj
  · rw [ix_setn (by omega)]
    by_cases e : j = s
    · subst e; rw [if_pos rfl]; exact blk_stt (blk_lt (h.or j hj))
    · rw [if_neg e, blk_ne (fun q => e (pO_inj (by omega)))]; exact h.or j hj
theorem Cpy.setN {Q : List Blk} {N O : List (List Int)} {K : Nat} (h : Cpy Q N O K) (hl : O.length = N.length) {s : Nat} {r : List Int} : Cpy (setB Q (pN s + 2) (Zb r)) (N.set s r) O K := by
  refine ⟨by rw [setB_len, List.length_set]; exact h.len, ?_, ?_, fun j hj => ?_, fun j hj => ?_⟩
  · rw [blk_ne (pN_ne s).1, List.length_set]; exact h.nl
  · rw [blk_ne (pN_ne s).2, List.length_set]; exact h.ol
  · rw [List.length_set] at hj
    rw [ix_setn (by omega)]
    by_cases e : j = s
    · subst e; rw [if_pos rfl]; exact blk_stt (blk_lt (h.nr j hj))
    · rw [if_neg e, blk_ne (fun q => e (pN_inj (by omega)))]; exact h.nr j hj
  · rw [List.length_set] at hj
    rw [blk_ne (by have := pNO s j; omega)]; exact h.or j hj
theorem Cpy.rows {Q r : List Blk} {B : Blk} {N O : List (List Int)} {K : Nat} (h : Cpy Q N O K) (hl : O.length = N.length) (hN : ∀ j : Nat, j < N.length → (ix N (j : Int)).length = K) (hO : ∀ j : Nat, j < N.length → (ix O (j : Int)).length = K) : RowsAt (B :: (Q ++ r)) 4 (fun j => pN j + 3) N ∧ RowsAt (B :: (Q ++ r)) 6 (fun j => pO j + 3) O := by
  refine ⟨⟨?_, fun j hj => blk_pre (h.nr j hj)⟩, ⟨?_, fun j hj => blk_pre (h.or j (by omega))⟩⟩
  · have e : ((List.range N.length).map fun (j : Nat) => AV.sl (pN j + 3) (ix N (j : Int)).length 0 (ix N (j : Int)).length) = rws 3 pN N.length K := List.map_congr_left fun j hj => by rw [hN j (List.mem_range.1 hj)]
    rw [e]; exact blk_pre h.nl
  · have e : ((List.range O.length).map fun (j : Nat) => AV.sl (pO j + 3) (ix O (j : Int)).length 0 (ix O (j : Int)).length) = rws 3 pO N.length K := by
      rw [hl]
      exact List.map_congr_left fun j hj => by rw [hO j (List.mem_range.1 hj)]
    rw [e]; exact blk_pre h.ol
theorem elm_rws' {e n K : Nat} {p : Nat → Nat} {s : Int} {l : List AV} (h0 : 0 ≤ s) (h1 : s < n) : elm (rws e p n K ++ l) s.toNat = some (.sl (p s.toNat + e) K 0 K) := by
  have hl : s.toNat < (rws e p n K).length := by rw [rws_len]; omega
  rw [elm_eq, List.getElem?_append_left hl]
  unfold rws
  rw [List.getElem?_map, List.getElem?_range (by omega)]
  rfl
/-- Rows in a table with one more. -/
theorem rowsAt_snoc {σ : List Blk} {b n K q : Nat} {p : Nat → Nat} {l : List (List Int)} {r : List Int} (hn : n = l.length) (hb : blk σ b = some ⟨none, rws 3 p n K ++ [.sl q K 0 K], .live⟩) (hl : ∀ j : Nat, j < l.length → (ix l (j : Int)).length = K ∧ blk σ (p j + 3) = some (Zb (ix l (j : Int)))) (hr : r.length = K) (hq : blk σ q = some (Zb r)) :
    RowsAt σ b (fun j => if j < n then p j + 3 else q) (l ++ [r]) := by
  subst hn
  have hlast : ix (l ++ [r]) ((l.length : Nat) : Int) = r := ixa_last
  have hpre : ∀ j : Nat, j < l.length → ix (l ++ [r]) (j : Int) = ix l (j : Int) := fun j hj => ixa_app (by omega) (by omega)
  refine ⟨?_, fun j hj => ?_⟩
  · rw [hb]
    congr 2
    rw [show (l ++ [r]).length = l.length + 1 by simp, List.range_succ, List.map_append]
    congr 1
    · unfold rws
      refine List.map_congr_left fun j hj => ?_
      have hj := List.mem_range.1 hj
      rw [if_pos hj, hpre j hj, (hl j hj).1]
    · simp only [List.map_cons, List.map_nil]
      rw [if_neg (by omega), hlast, hr]
  · by_cases h : j < l.length
    · rw [if_pos h, hpre j h]; exact (hl j h).2
    · have : j = l.length := by simp at hj; omega
      subst this
      rw [if_neg h, hlast]; exact hq
theorem changed_s (m : Mly) (hm : m.Ok) (x : Mut) (hx : x.Fits m) : PC F_mutant_changed [m.av, x.av] = some (m.chg x).av := by
  refine PCx_of (go_mutant_changed rfl ?_)
  have hin := hm.inputs
  have hst := hm.states
  have hml := hm.len
  obtain ⟨hs, ha, hv⟩ := hx
  obtain ⟨R, hR, hQ⟩ := clone_l m hm
  generalize hRQ : R.map (shB 1) = Q at *
  have hQl := hQ.len
  have hb : ∀ {r}, blk (Q ++ r) 3 = some ⟨none, rws 3 pN m.next.length m.inputs.toNat, .live⟩ := fun {r} => blk_pre hQ.nl
  have hc : ∀ {r}, blk (Q ++ r) 5 = some ⟨none, rws 3 pO m.next.length m.inputs.toNat, .live⟩ := fun {r} => blk_pre hQ.ol
  have hrN : ∀ j : Nat, j < m.next.length → (ix m.next (j : Int)).length = m.inputs.toNat := fun j hj => by have := (hm.row j (by omega) (by omega)).1; omega
  have hrO : ∀ j : Nat, j < m.next.length → (ix m.out (j : Int)).length = m.inputs.toNat := fun j hj => by have := (hm.row j (by omega) (by omega)).2; omega
  have hl' : m.out.length = m.next.length := by omega
  rcases hv with ⟨hk, hv0, hv1, hv2⟩ | ⟨hk, hv0, hv1, hv2⟩ | ⟨hk, hv0, hv1, hv2, hv3⟩
  · have q3 := hQ.or x.st.toNat (by omega)
    rw [show ((x.st.toNat : Nat) : Int) = x.st by omega] at q3
    have q3' : ∀ {r}, blk (Q ++ r) (pO x.st.toNat + 2) = some (Zb (ix m.out x.st)) := fun {r} => blk_pre q3
    have g1 : ∀ {r B}, setB (Q ++ r) (pO x.st.toNat + 2) B = setB Q (pO x.st.toNat + 2) B ++ r := fun {r B} => setB_pre (blk_lt q3)
    have g2 : ∀ {r B C}, blk (setB Q (pO x.st.toNat + 2) B ++ C :: r) Q.length = some C := fun {r B C} => blk_at' setB_len
    have hC := hQ.setO hl' (s := x.st.toNat) (r := (ix m.out x.st).set x.inp.toNat x.val)
    have hv4 := fun B r => (hC.rows (B := B) (r := r) (by simp; omega) hrN (fun j hj => by rw [ix_setn (by omega)]; split; simp; have := hrO x.st.toNat (by omega); rw [show ((x.st.toNat : Nat) : Int) = x.st by omega] at this; exact this; exact hrO j hj))
    have hv5 := fun B r => vd_rowsAt (k := 8) (n := m.next.length) (hv4 B r).1 rfl
    have hv6 := fun B r => vd_rowsAt (k := 8) (n := m.next.length) (hv4 B r).2 (by simp; omega)
    simp [-List.map_set, res_box4, hv5, hv6, g1, g2, hR, hRQ, hk, shV, shL, blk_c, setB_c, blk_at, setB_at, hb, hc, q3', elm_rws hs.1 hs.2, hs.1, hs.2, rws_len]
    have hro := hrO x.st.toNat (by omega)
    rw [show ((x.st.toNat : Nat) : Int) = x.st by omega] at hro
    have e : m.chg x = ⟨m.inputs, m.start, m.next, setLL m.out x.st x.inp x.val⟩ := by unfold Mly.chg; rw [if_pos hk]
    rw [e]
    exact ⟨by omega, hro, by omega, rfl, rfl, rfl, rfl⟩
  · have q3 := hQ.nr x.st.toNat (by omega)
    rw [show ((x.st.toNat : Nat) : Int) = x.st by omega] at q3
    have q3' : ∀ {r}, blk (Q ++ r) (pN x.st.toNat + 2) = some (Zb (ix m.next x.st)) := fun {r} => blk_pre q3
    have g1 : ∀ {r B}, setB (Q ++ r) (pN x.st.toNat + 2) B = setB Q (pN x.st.toNat + 2) B ++ r := fun {r B} => setB_pre (blk_lt q3)
    have g2 : ∀ {r B C}, blk (setB Q (pN x.st.toNat + 2) B ++ C :: r) Q.length = some C := fun {r B C} => blk_at' setB_len
    have hC := hQ.setN hl' (s := x.st.toNat) (r := (ix m.next x.st).set x.inp.toNat x.val)
    have hrn := hrN x.st.toNat (by omega)
    rw [show ((x.st.toNat : Nat) : Int) = x.st by omega] at hrn
    have hv4 := fun B r => (hC.rows (B := B) (r := r) (by simp; omega) (fun j hj => by rw [ix_setn (by simpa using hj)]; split; simp; exact hrn; exact hrN j (by simpa using hj)) (fun j hj => hrO j (by simpa using hj)))
    have hv5 := fun B r => vd_rowsAt (k := 8) (n := m.next.length) (hv4 B r).1 (by simp)
    have hv6 := fun B r => vd_rowsAt (k := 8) (n := m.next.length) (hv4 B r).2 (by omega)
    simp [-List.map_set, res_box4, hv5, hv6, g1, g2, hR, hRQ, hk, shV, shL, blk_c, setB_c, blk_at, setB_at, hb, hc, q3', elm_rws hs.1 hs.2, hs.1, hs.2, rws_len]
    have e : m.chg x = ⟨m.inputs, m.start, setLL m.next x.st x.inp x.val, m.out⟩ := by unfold Mly.chg; rw [if_neg (by omega), if_pos hk]
    rw [e]
    exact ⟨by omega, hrn, by omega, rfl, rfl, rfl, rfl⟩
  · generalize ht : ix (ix m.next x.st) x.inp = t
    have htr := hm.nx x.st x.inp hs.1 hs.2 ha.1 ha.2
    rw [ht] at htr
    have hrn := hrN x.st.toNat (by omega)
    rw [show ((x.st.toNat : Nat) : Int) = x.st by omega] at hrn
    have htn := hrN t.toNat (by omega)
    rw [show ((t.toNat : Nat) : Int) = t by omega] at htn
    have hto := hrO t.toNat (by omega)
    rw [show ((t.toNat : Nat) : Int) = t by omega] at hto
    have k1 := ClI_s (ix m.next t) (List.length_pos_iff.1 (by omega)) (by omega)
    have k2 := ClI_s (ix m.out t) (List.length_pos_iff.1 (by omega)) (by omega)
    have q3 := hQ.nr x.st.toNat (by omega)
    rw [show ((x.st.toNat : Nat) : Int) = x.st by omega] at q3
    have gA : ∀ {r B}, setB (Q ++ r) 3 B = setB Q 3 B ++ r := fun {r B} => setB_pre (by omega)
    have gB : ∀ {r B C}, setB (setB Q 3 B ++ r) 5 C = setB (setB Q 3 B) 5 C ++ r := fun {r B C} => setB_pre (by rw [setB_len]; omega)
    have gC : ∀ {r B C D}, setB (setB (setB Q 3 B) 5 C ++ r) (pN x.st.toNat + 2) D = setB (setB (setB Q 3 B) 5 C) (pN x.st.toNat + 2) D ++ r := fun {r B C D} => setB_pre (by rw [setB_len, setB_len]; exact blk_lt q3)
    have b1 : ∀ {r B}, blk (setB Q 3 B ++ r) 5 = some ⟨none, rws 3 pO m.next.length m.inputs.toNat, .live⟩ := fun {r B} => blk_pre (by rw [blk_ne (by omega)]; exact hQ.ol)
    have b2 : ∀ {r B C}, blk (setB (setB Q 3 B) 5 C ++ r) 3 = some B := fun {r B C} => blk_pre (by rw [blk_ne (by omega)]; exact blk_stt (by omega))
    have b3 : ∀ {r B C}, blk (setB (setB Q 3 B) 5 C ++ r) (pN x.st.toNat + 2) = some (Zb (ix m.next x.st)) := fun {r B C} => blk_pre (by rw [blk_ne (by have := pN_ne x.st.toNat; omega), blk_ne (by have := pN_ne x.st.toNat; omega)]; exact q3)
    have c1 : ∀ {r B C}, blk (setB Q 3 B ++ C :: r) Q.length = some C := fun {r B C} => blk_at' setB_len
    have c2 : ∀ {r B C D}, blk (setB (setB Q 3 B) 5 D ++ C :: r) Q.length = some C := fun {r B C D} => blk_at' (by rw [setB_len, setB_len])
    have c3 : ∀ {r B C D E}, blk (setB (setB (setB Q 3 B) 5 D) (pN x.st.toNat + 2) E ++ C :: r) Q.length = some C := fun {r B C D E} => blk_at' (by rw [setB_len, setB_len, setB_len])
    have d1 : ∀ {r B C F}, setB (setB Q 3 B ++ C :: r) Q.length F = setB Q 3 B ++ F :: r := fun {r B C F} => setB_at' setB_len
    have d2 : ∀ {r B C D F}, setB (setB (setB Q 3 B) 5 D ++ C :: r) Q.length F = setB (setB Q 3 B) 5 D ++ F :: r := fun {r B C D F} => setB_at' (by rw [setB_len, setB_len])
    have hfin : ∀ {B bx r'}, r'.length = m.inputs.toNat → RowsAt (B :: (setB (setB (setB Q 3 ⟨none, rws 3 pN m.next.length m.inputs.toNat ++ [.sl (Q.length + 2 + 1) m.inputs.toNat 0 m.inputs.toNat], .live⟩) 5 ⟨none, rws 3 pO m.next.length m.inputs.toNat ++ [.sl (Q.length + 1 + 1) m.inputs.toNat 0 m.inputs.toNat], .live⟩) (pN x.st.toNat + 2) (Zb r') ++ [bx, Zb ((ix m.out t).set x.val2.toNat x.val), Zb (ix m.next t)])) 4 (fun j => if j < m.next.length then pN j + 3 else Q.length + 2 + 1) (m.next.set x.st.toNat r' ++ [ix m.next t]) ∧ RowsAt (B :: (setB (setB (setB Q 3 ⟨none, rws 3 pN m.next.length m.inputs.toNat ++ [.sl (Q.length + 2 + 1) m.inputs.toNat 0 m.inputs.toNat], .live⟩) 5 ⟨none, rws 3 pO m.next.length m.inputs.toNat ++ [.sl (Q.length + 1 + 1) m.inputs.toNat 0 m.inputs.toNat], .live⟩) (pN x.st.toNat + 2) (Zb r') ++ [bx, Zb ((ix m.out t).set x.val2.toNat x.val), Zb (ix m.next t)])) 6 (fun j => if j < m.next.length then pO j + 3 else Q.length + 1 + 1) (m.out ++ [(ix m.out t).set x.val2.toNat x.val]) := by
      intro B bx r' hr'
      have hle : ∀ {A C D : Blk}, (setB (setB (setB Q 3 A) 5 C) (pN x.st.toNat + 2) D).length = Q.length := by intros; rw [setB_len, setB_len, setB_len]
      have hlt := blk_lt q3
      have n1 := pN_ne x.st.toNat
      refine ⟨rowsAt_snoc (n := m.next.length) (K := m.inputs.toNat) (by simp) ?_ (fun j hj => ?_) htn ?_, rowsAt_snoc (n := m.next.length) (K := m.inputs.toNat) (by omega) ?_ (fun j hj => ?_) (by simpa using hto) ?_⟩
      · refine blk_pre ?_
        rw [blk_ne n1.1, blk_ne (by omega)]; exact blk_stt (by omega)
      · rw [List.length_set] at hj
        rw [ix_setn (by omega)]
        have n2 := pN_ne j
        by_cases e : j = x.st.toNat
        · subst e
          rw [if_pos rfl]
          exact ⟨hr', blk_pre (blk_stt (by rw [setB_len, setB_len]; exact hlt))⟩
        · rw [if_neg e]
          exact ⟨hrN j hj, blk_pre (by rw [blk_ne (fun q => e (pN_inj (by omega))), blk_ne (by omega), blk_ne (by omega)]; exact hQ.nr j hj)⟩
      · rw [blk_c]
        have := blk_at2 (Q := setB (setB (setB Q 3 ⟨none, rws 3 pN m.next.length m.inputs.toNat ++ [.sl (Q.length + 2 + 1) m.inputs.toNat 0 m.inputs.toNat], .live⟩) 5 ⟨none, rws 3 pO m.next.length m.inputs.toNat ++ [.sl (Q.length + 1 + 1) m.inputs.toNat 0 m.inputs.toNat], .live⟩) (pN x.st.toNat + 2) (Zb r')) (A := bx) (B := Zb ((ix m.out t).set x.val2.toNat x.val)) (C := Zb (ix m.next t)) (r := [])
        rw [hle] at this; exact this
      · refine blk_pre ?_
        rw [blk_ne n1.2]; exact blk_stt (by rw [setB_len]; omega)
      · have n2 := pO_ne j
        have n3 := pNO x.st.toNat j
        exact ⟨hrO j (by omega), blk_pre (by rw [blk_ne (by omega), blk_ne (by omega), blk_ne (by omega)]; exact hQ.or j (by omega))⟩
      · rw [blk_c]
        have := blk_at1 (Q := setB (setB (setB Q 3 ⟨none, rws 3 pN m.next.length m.inputs.toNat ++ [.sl (Q.length + 2 + 1) m.inputs.toNat 0 m.inputs.toNat], .live⟩) 5 ⟨none, rws 3 pO m.next.length m.inputs.toNat ++ [.sl (Q.length + 1 + 1) m.inputs.toNat 0 m.inputs.toNat], .live⟩) (pN x.st.toNat + 2) (Zb r')) (A := bx) (B := Zb ((ix m.out t).set x.val2.toNat x.val)) (r := [Zb (ix m.next t)])
        rw [hle] at this; exact this
    have hw4 := fun B bx => vd_rowsAt (k := 8) (n := m.next.length + 1) (hfin (B := B) (bx := bx) (r' := (ix m.next x.st).set x.inp.toNat m.next.length) (by rw [List.length_set]; exact hrn)).1 (by simp)
    have hw6 := fun B bx => vd_rowsAt (k := 8) (n := m.next.length + 1) (hfin (B := B) (bx := bx) (r' := (ix m.next x.st).set x.inp.toNat m.next.length) (by rw [List.length_set]; exact hrn)).2 (by simp; omega)
    simp [-List.map_set, -List.map_append, -More_nor, hw4, hw6, c3, elm_rws' hs.1 hs.2, res_box4, ht, htr.1, htr.2, k1, k2, gA, gB, gC, b1, b2, b3, c1, c2, c3, d1, d2, hR, hRQ, hk, shV, shL, shB, shL_ints, blk_c, setB_c, blk_at, setB_at, blk_at1, setB_at1, blk_at2, hb, hc, hs.1, hs.2, rws_len, hrn, htn, hto]
    have e : m.chg x = ⟨m.inputs, m.start, setLL m.next x.st x.inp m.next.length ++ [ix m.next (ix (ix m.next x.st) x.inp)], m.out ++ [(ix m.out (ix (ix m.next x.st) x.inp)).set x.val2.toNat x.val]⟩ := by unfold Mly.chg; rw [if_neg (by omega), if_neg (by omega)]
    rw [e, ht]
    exact ⟨by omega, by omega, by omega, by omega, by omega, by omega, by omega, by omega, rfl, rfl, rfl, rfl⟩
end Ab
