/- Access words and transition covers. equiv.Iso. Condition: none. -/
import Derived.Test.YtmmkhoncblnicaaTrimW
import Derived.Test.YtmmkhoncblnicaaSorted
import Derived.Test.YtmmkhoncblnicaaTrimT
import Derived.Test.YtmmkhoncblnicaaEqv
set_option linter.all false
set_option maxRecDepth 100000
set_option maxHeartbeats 4000000
namespace Ab
/-- Access. -/
def Mly.acc (m : Mly) : List Int × List (List Int) × Int := if m.validE ≠ 0 then ([], [], m.validE) else ((m.places m.start).map (·.1), (m.places m.start).map (·.2), 0)
abbrev accA (r : List Int × List (List Int) × Int) : AV := .tup [iL r.1, iLL r.2.1, .int r.2.2]
theorem acc_ok {m : Mly} (hv : m.validE = 0) : m.acc = ((m.places m.start).map (·.1), (m.places m.start).map (·.2), 0) := by unfold Mly.acc; rw [if_neg (by simpa using hv)]
theorem acc_no {m : Mly} (hv : ¬ m.validE = 0) : m.acc = ([], [], m.validE) := by unfold Mly.acc; rw [if_pos hv]
theorem Acc_s (m : Mly) (h : m.fits) : PC F_cover_Access [m.av] = some (accA m.acc) := by
  refine PCx_of (go_cover_Access rfl ?_)
  by_cases hv : m.validE = 0
  · rw [acc_ok hv]
    have hm := mvalidE_ok hv
    obtain ⟨hs1, hs2⟩ := hm.states
    have hp := places_s m hm m.start hm.start
    have hqn := (places_ok m hm m.start hm.start).le
    simp [-List.map_map, mValid_s m h, hv, hp]
    generalize m.places m.start = q at *
    (repeat' apply And.intro) <;> try omega
    refine W_iter (fun i : Nat => [(3, .int i), (6, .sl 0 i 0 i), (8, .sl 1 i 0 i)]) (fun i => [louI ((q.map (·.1)).take i), loutL ((q.map (·.2)).take i)]) (fun i => i ≤ q.length) (fun i => q.length - i) 0 (by simp [sets]) (by omega) ?_
    intro i hi1
    by_cases hi : i < q.length
    · have t1 : (q.map (·.1)).take (i + 1) = (q.map (·.1)).take i ++ [(ix q (i : Int)).1] := by
        rw [List.take_add_one, List.getElem?_map, List.getElem?_eq_getElem hi, ix_nat hi]; rfl
      have t2 : (q.map (·.2)).take (i + 1) = (q.map (·.2)).take i ++ [(ix q (i : Int)).2] := by
        rw [List.take_add_one, List.getElem?_map, List.getElem?_eq_getElem hi, ix_nat hi]; rfl
      have hmin : min i q.length = i := Nat.min_eq_left (by omega)
      simp [-More_nor, -List.map_map, -List.map_take, hi, hmin]
      refine ⟨by split <;> simp, by omega, by split <;> simp, by omega, by omega, More_of (i + 1) (by simp) (by rw [t1, t2]; simp [-List.map_map, -List.map_take]) (by omega) (by omega)⟩
    · have ei : i = q.length := by omega
      subst ei
      have t1 : (q.map (·.1)).take q.length = q.map (·.1) := List.take_of_length_le (by simp)
      have t2 : (q.map (·.2)).take q.length = q.map (·.2) := List.take_of_length_le (by simp)
      rw [t1, t2]
      have v1 := vd_louI (σ := [louI (q.map (·.1)), loutL (q.map (·.2))]) (b := 0) (out := q.map (·.1)) rfl
      have v2 := vd_loutL (σ := [louI (q.map (·.1)), loutL (q.map (·.2))]) (b := 1) (out := q.map (·.2)) rfl
      rw [List.length_map] at v1 v2
      simp [-List.map_map, -List.map_take, v1, v2]
  · rw [acc_no hv]
    simp [mValid_s m h, hv]
end Ab
namespace Ab
/-- States that are reached by the same words, the first n of them. -/
def imt (P Q : List Pl) (O : List Int) : Nat → List Int
  | 0 => O
  | n + 1 => (imt P Q O n).set (ix P (n : Int)).1.toNat (ix Q (n : Int)).1
theorem imt_len {P Q : List Pl} {O : List Int} : ∀ {n : Nat}, (imt P Q O n).length = O.length
  | 0 => rfl
  | n + 1 => by simp [imt, imt_len]
/-- This transition corresponds. -/
def isoT (a b : Mly) (M : List Int) (s x : Int) : Bool := decide (ix (ix a.out s) x = ix (ix b.out (ix M s)) x) && decide (ix M (ix (ix a.next s) x) = ix (ix b.next (ix M s)) x)
def isoR (a b : Mly) (M : List Int) (s : Int) (k : Nat) : Bool := (List.range k).all fun x => isoT a b M s (x : Int)
def isoS (a b : Mly) (M : List Int) (n : Nat) : Bool := (List.range n).all fun s => isoR a b M (s : Int) a.inputs.toNat
def isoM (a b : Mly) : List Int := imt (a.places a.start) (b.places b.start) (List.replicate (a.places a.start).length 0) (a.places a.start).length
def isoA (a b : Mly) : List Int × Bool × Int := if chkE a b ≠ 0 then ([], false, chkE a b) else
  if (a.places a.start).length ≠ a.next.length ∨ (b.places b.start).length ≠ b.next.length ∨ (a.places a.start).length ≠ (b.places b.start).length then ([], false, 0) else
  if isoS a b (isoM a b) a.next.length then (isoM a b, true, 0) else ([], false, 0)
theorem imt_rng {P Q : List Pl} {O : List Int} {B : Int} (hO : ∀ s, 0 ≤ s → s < (O.length : Int) → 0 ≤ ix O s ∧ ix O s < B) (hQ : ∀ q ∈ Q, 0 ≤ q.1 ∧ q.1 < B) : ∀ {n : Nat}, n ≤ Q.length → ∀ s, 0 ≤ s → s < (O.length : Int) → 0 ≤ ix (imt P Q O n) s ∧ ix (imt P Q O n) s < B
  | 0, _, s, s0, s1 => hO s s0 s1
  | n + 1, h, s, s0, s1 => by
    have ih := imt_rng (P := P) hO hQ (n := n) (by omega) s s0 s1
    have hl : (imt P Q O n).length = O.length := imt_len
    have hq := hQ _ (ix_mem (l := Q) (n := (n : Int)) (by omega) (by omega))
    unfold imt
    generalize (ix P (n : Int)).1.toNat = k at *
    generalize (ix Q (n : Int)).1 = v at *
    generalize imt P Q O n = N at *
    by_cases e : k = s.toNat
    · subst e
      have : ix (N.set s.toNat v) s = v := by
        unfold ix
        rw [List.getD_eq_getElem?_getD, List.getElem?_set, if_pos rfl, if_pos (by omega)]; rfl
      rw [this]; exact hq
    · have : ix (N.set k v) s = ix N s := by
        unfold ix
        rw [List.getD_eq_getElem?_getD, List.getD_eq_getElem?_getD, List.getElem?_set, if_neg e]
      rw [this]; exact ih
theorem Iso_s (a b : Mly) (ha : a.fits) (hb : b.fits) : PC F_equiv_Iso [a.av, b.av] = some (.tup [iL (isoA a b).1, .bool (isoA a b).2.1, .int (isoA a b).2.2]) := by
  refine PCx_of (go_equiv_Iso rfl ?_)
  have hc := check_s a b ha hb
  by_cases h0 : chkE a b = 0
  case neg =>
    have e : isoA a b = ([], false, chkE a b) := by unfold isoA; rw [if_pos h0]
    rw [e]
    simp [hc, h0]
  rw [h0] at hc
  obtain ⟨va, vb, hi⟩ := chkE_ok h0
  have hoa := mvalidE_ok va
  have hob := mvalidE_ok vb
  have hin := hoa.inputs
  have hsa := hoa.states
  have hsb := hob.states
  have hla := hoa.len
  have hlb := hob.len
  have rA := Reach_s a ha va
  have rB := Reach_s b hb vb
  have fA := places_bf a hoa a.start hoa.start
  have fB := places_bf b hob b.start hob.start
  have e : isoA a b = if (a.places a.start).length ≠ a.next.length ∨ (b.places b.start).length ≠ b.next.length ∨ (a.places a.start).length ≠ (b.places b.start).length then ([], false, 0) else if isoS a b (isoM a b) a.next.length then (isoM a b, true, 0) else ([], false, 0) := by unfold isoA; rw [if_neg (by omega)]
  have hM : isoM a b = imt (a.places a.start) (b.places b.start) (List.replicate (a.places a.start).length 0) (a.places a.start).length := rfl
  generalize isoM a b = M at *
  generalize a.places a.start = P at *
  generalize b.places b.start = Q at *
  by_cases h1 : P.length = a.next.length
  case neg =>
    rw [if_pos (.inl h1)] at e
    rw [e]
    have h1' : ((P.length : Int) = a.next.length) = False := eq_false (by omega)
    have h1'' : (P.length = a.next.length) = False := eq_false h1
    simp [-List.map_map, hc, rA, rB, h1', h1'']
  by_cases h2 : Q.length = b.next.length
  case neg =>
    rw [if_pos (.inr (.inl h2))] at e
    rw [e]
    have h2' : ((Q.length : Int) = b.next.length) = False := eq_false (by omega)
    have h2'' : (Q.length = b.next.length) = False := eq_false h2
    simp [-List.map_map, hc, rA, rB, h1, h2', h2'']
  by_cases h3 : P.length = Q.length
  case neg =>
    rw [if_pos (.inr (.inr h3))] at e
    rw [e]
    have h3' : ((a.next.length : Int) = b.next.length) = False := eq_false (by omega)
    have h3'' : (a.next.length = b.next.length) = False := eq_false (by omega)
    simp [-List.map_map, hc, rA, rB, h1, h2, h3', h3'']
  rw [if_neg (by omega)] at e
  have h3' : a.next.length = b.next.length := by omega
  rw [h1] at hM
  rw [e]
  simp [-List.map_map, -List.map_replicate, -More_nor, hc, rA, rB, h1, h2, h3']
  refine ⟨by omega, ?_⟩
  rw [h3'] at hM
  generalize hO : List.replicate b.next.length (0 : Int) = O at *
  have hOl : O.length = b.next.length := by rw [← hO]; simp
  have hO0 : ∀ s, 0 ≤ s → s < (O.length : Int) → 0 ≤ ix O s ∧ ix O s < (b.next.length : Int) := fun s s0 s1 => by
    have : ix O s = 0 := by
      rw [← hO]
      obtain ⟨j, rfl⟩ := Int.eq_ofNat_of_zero_le s0
      rw [ix_nat (by simp; omega)]; simp
    rw [this]; omega
  have hQr : ∀ q ∈ Q, 0 ≤ q.1 ∧ q.1 < (b.next.length : Int) := fB.bq.rng
  refine W_iter (fun i : Nat => [(7, .int i)]) (fun i => [⟨none, (imt P Q O i).map .int, .live⟩]) (fun i => i ≤ b.next.length) (fun i => b.next.length - i) 0 (by simp [sets, imt]) (by omega) ?_
  intro i i1
  have hil : (imt P Q O i).length = b.next.length := by rw [imt_len, hOl]
  by_cases hi' : i < b.next.length
  · have g1 : ix (P.map (·.1)) (i : Int) = (ix P (i : Int)).1 := ix_map (by omega) (by omega)
    have g2 : ix (Q.map (·.1)) (i : Int) = (ix Q (i : Int)).1 := ix_map (by omega) (by omega)
    have hpr := fA.bq.rng _ (ix_mem (l := P) (n := (i : Int)) (by omega) (by omega))
    have hp2 : (ix P (i : Int)).1 < (b.next.length : Int) := by omega
    have hnx : imt P Q O (i + 1) = (imt P Q O i).set (ix P (i : Int)).1.toNat (ix Q (i : Int)).1 := rfl
    have hPi : (i : Int) < (P.length : Int) := by omega
    have hQi : (i : Int) < (Q.length : Int) := by omega
    have hPn : i < P.length := by omega
    have hQn : i < Q.length := by omega
    generalize imt P Q O i = N at *
    simp [-List.map_map, -List.map_set, -More_nor, hi', hPi, hQi, hPn, hQn, g1, g2, hpr.1, hp2, hil]
    refine ⟨by omega, More_of (i + 1) (by simp) (by rw [hnx]) (by omega) (by omega)⟩
  · have : i = b.next.length := by omega
    subst this
    have hMr := imt_rng (P := P) hO0 hQr (n := b.next.length) (by omega)
    rw [← hM] at hMr hil ⊢
    simp [-List.map_map, -More_nor]
    refine W_iter (fun s : Nat => [(13, .int s)]) (fun _ => [⟨none, M.map .int, .live⟩]) (fun s => s ≤ b.next.length ∧ isoS a b M s = true) (fun s => b.next.length - s) 0 (by simp [sets]) ⟨by omega, rfl⟩ ?_
    intro s ⟨s1, s2⟩
    by_cases hs : s < b.next.length
    · have hms := hMr (s : Int) (by omega) (by omega)
      have hra := hoa.row (s : Int) (by omega) (by omega)
      have hrb := hob.row (ix M (s : Int)) hms.1 hms.2
      have hsM : (s : Int) < (M.length : Int) := by omega
      simp [-List.map_map, -More_nor, hs, hil]
      refine W_iter (fun x : Nat => [(16, .int x)]) (fun _ => [⟨none, M.map .int, .live⟩]) (fun x => (x : Int) ≤ a.inputs ∧ isoR a b M (s : Int) x = true) (fun x => a.inputs.toNat - x) 0 (by simp [sets]) ⟨by omega, rfl⟩ ?_
      intro x ⟨x1, x2⟩
      by_cases hx : (x : Int) < a.inputs
      · have hna := hoa.nx (s : Int) (x : Int) (by omega) (by omega) (by omega) hx
        have hxb : (x : Int) < b.inputs := by omega
        have hso : (s : Int) < (a.out.length : Int) := by omega
        have hsn : (s : Int) < (a.next.length : Int) := by omega
        have hto : ix M (s : Int) < (b.out.length : Int) := by omega
        have hnM : ix (ix a.next (s : Int)) (x : Int) < (b.next.length : Int) := by omega
        have hbad : isoT a b M (s : Int) (x : Int) = false → isoS a b M b.next.length = false := fun h => by
          unfold isoS
          rw [List.all_eq_false]
          refine ⟨s, by simpa using hs, ?_⟩
          rw [Bool.not_eq_true]
          unfold isoR
          rw [List.all_eq_false]
          exact ⟨x, by simp; omega, by rw [h]; simp⟩
        by_cases ho : ix (ix a.out (s : Int)) (x : Int) = ix (ix b.out (ix M (s : Int))) (x : Int)
        · have ho' := eq_true ho
          by_cases hn : ix M (ix (ix a.next (s : Int)) (x : Int)) = ix (ix b.next (ix M (s : Int))) (x : Int)
          · have hn' := eq_true hn
            have hg : isoR a b M (s : Int) (x + 1) = true := by
              unfold isoR at x2 ⊢
              rw [List.range_succ, List.all_append, x2]
              simp [isoT, ho, hn]
            simp [-List.map_map, -More_nor, hx, hra.1, hra.2, hrb.1, hrb.2, hxb, hso, hsn, hms.1, hms.2, hto, hna.1, hnM, hil, ho', hn']
            refine ⟨by omega, More_of (x + 1) (by simp) rfl ⟨by omega, hg⟩ (by omega)⟩
          · have hn' := eq_false hn
            have hb' := hbad (by simp [isoT, hn])
            simp [-List.map_map, -More_nor, hx, hra.1, hra.2, hrb.1, hrb.2, hxb, hso, hsn, hms.1, hms.2, hto, hna.1, hnM, hil, ho', hn', hb']
        · have ho' := eq_false ho
          have hb' := hbad (by simp [isoT, ho])
          simp [-List.map_map, -More_nor, hx, hra.1, hra.2, hrb.1, hrb.2, hxb, hso, hsn, hms.1, hms.2, hto, hna.1, hnM, hil, ho', hb']
      · have ex : x = a.inputs.toNat := by omega
        have hg : isoS a b M (s + 1) = true := by
          unfold isoS at s2 ⊢
          rw [List.range_succ, List.all_append, s2]
          rw [ex] at x2
          simp [x2]
        simp [-List.map_map, -More_nor, hx]
        refine ⟨by omega, More_of (s + 1) (by simp) rfl ⟨by omega, hg⟩ (by omega)⟩
    · have : s = b.next.length := by omega
      subst this
      have hv := vd_iL (σ := [⟨none, M.map .int, .live⟩]) (fr := false) (b := 0) (xs := M) (n := b.next.length) (st := .live) rfl (by simp) hil.symm
      simp [s2, hv]
end Ab
