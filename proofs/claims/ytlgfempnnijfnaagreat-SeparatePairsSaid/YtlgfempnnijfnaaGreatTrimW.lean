/- Tables in memory, the first transition that was not taken, the order of the reachable states. mealy.Trim. Condition: none. -/
import Derived.Test.YtlgfempnnijfnaaGreatGbf
import Derived.Test.YtlgfempnnijfnaaGreatSepT
import Derived.Test.YtlgfempnnijfnaaGreatMnlT
import Derived.Test.YtlgfempnnijfnaaGreatCompJ
import Derived.Test.YtlgfempnnijfnaaGreatHomB
set_option linter.all false
set_option maxRecDepth 100000
set_option maxHeartbeats 4000000
namespace Ab
theorem z488 (m : Mly) (h : m.fits) (hv : m.validE = 0) : PC z68i [m.av] = some (iL ((m.places m.start).map (·.1))) := by
  have hm := zaDP hv
  obtain ⟨hi1, hi2⟩ := hm.inputs
  obtain ⟨hs1, hs2⟩ := hm.states
  have hs := hm.start
  refine zx72 (zZwU rfl ?_)
  simp [-List.map_replicate, zo3u m h, hv]
  refine ⟨by omega, by omega, by omega, ?_⟩
  refine zv8C (fun p : Int × List Pl × List Bool => [(3, .int p.1), (4, .sl 1 p.2.1.length 0 p.2.1.length)]) (fun p => [⟨none, p.2.2.map .bool, .live⟩, ⟨none, (p.2.1.map (·.1)).map .int, .live⟩])
    (fun p => (0 ≤ p.1 ∧ p.1 ≤ p.2.1.length) ∧ Bq m m.start p.2.1 ∧ Sn m.next.length p.2.2 p.2.1 ∧ ∃ f : Nat, bfs m f p.1 p.2.1 = m.places m.start ∧ (m.next.length : Int) + 1 ≤ f + p.1)
    (fun p => (m.next.length - p.1).toNat) (0, [(m.start, [])], (List.replicate m.next.length false).set m.start.toNat true) (by simp [sets]) ⟨by simp, Bq.init hs, ?_, m.next.length + 1, rfl, by simp⟩ ?_
  · have := Sn.add (N := m.next.length) (b := List.replicate m.next.length false) (q := []) (w := []) ⟨by simp, fun t t0 t1 => by rw [zZfZ t0 t1]; rfl⟩ hs.1 hs.2
    simpa using this
  rintro ⟨i, q, b⟩ ⟨⟨i0, i1⟩, hq, hb, f, hf1, hf2⟩
  dsimp only at i0 i1 hq hb hf1 hf2 ⊢
  have hqn := hq.le
  by_cases hi : i < q.length
  · have hp := hq.rng _ (zmAQ i0 hi)
    have g1 : ix (q.map (·.1)) i = (ix q i).1 := zWk8 i0 hi
    have hp' : 0 ≤ ix (q.map (·.1)) i ∧ ix (q.map (·.1)) i < (m.next.length : Int) := by rw [g1]; exact hp
    have hrow := (hm.row _ hp'.1 hp'.2).1
    simp [-zJRc, -List.map_map, hi, i0, hp'.1, hp'.2, hrow]
    refine zv8C (fun p : Int × List Pl × List Bool => [(4, .sl 1 p.2.1.length 0 p.2.1.length), (5, .int p.1)]) (fun p => [⟨none, p.2.2.map .bool, .live⟩, ⟨none, (p.2.1.map (·.1)).map .int, .live⟩])
      (fun p => (0 ≤ p.1 ∧ p.1 ≤ m.inputs) ∧ Bq m m.start p.2.1 ∧ Sn m.next.length p.2.2 p.2.1 ∧ p.2.1 = brow m (ix q i) q p.1 ∧ q.length ≤ p.2.1.length ∧ ix p.2.1 i = ix q i)
      (fun p => (m.inputs - p.1).toNat) (0, q, b) (by simp [-List.map_map, sets]) ⟨by simp; omega, hq, hb, rfl, by simp, rfl⟩ ?_
    rintro ⟨a, q', b'⟩ ⟨⟨a0, a1⟩, gq, gb, ge, gl, gx⟩
    dsimp only at a0 a1 gq gb ge gl gx ⊢
    have gqn := gq.le
    by_cases ha : a < m.inputs
    · have ht := hm.nx _ a hp.1 hp.2 a0 ha
      have ht' := ht
      rw [← g1] at ht'
      have hbk := gb.ok _ ht.1 ht.2
      rw [← g1] at hbk
      have hbl := gb.len
      have hwl := gq.len i i0 (by omega)
      rw [gx] at hwl
      have es : brow m (ix q i) q (a + 1) = bstep m (ix q i) q' a := by rw [zqI6 a0, ← ge]
      cases hh : hasS q' (ix (ix m.next (ix q i).1) a) with
      | true =>
        rw [← g1] at hh
        simp [-zJRc, -List.map_map, ha, a0, i0, hrow, ht'.1, ht'.2, hbl, hbk, hh]
        rw [g1] at hh
        refine ⟨by omega, zGkM (a + 1, q', b') (by simp) rfl ⟨by dsimp only; omega, gq, gb, by dsimp only; rw [es, zWJS hh], gl, gx⟩ (by dsimp only; omega)⟩
      | false =>
        rw [← g1] at hh
        simp [-zJRc, -List.map_map, ha, a0, i0, hrow, ht'.1, ht'.2, hbl, hbk, hh]
        rw [g1] at hh ⊢
        refine ⟨by omega, by omega, zGkM (a + 1, q' ++ [(ix (ix m.next (ix q i).1) a, (ix q i).2 ++ [a])], b'.set (ix (ix m.next (ix q i).1) a).toNat true) (by simp [sets]) (by simp [-List.map_map]) ⟨by dsimp only; omega, gq.add ht hh (by simp) (by simp; omega), gb.add ht.1 ht.2, by dsimp only; rw [es, z8XM hh], by simp; omega, by dsimp only; rw [zT8e i0 (by omega), gx]⟩ (by dsimp only; omega)⟩
    · have hai : a = m.inputs := by omega
      subst hai
      simp [-zJRc, -List.map_map]
      refine ⟨by omega, zGkM (i + 1, q', b') (by simp) rfl ⟨by dsimp only; omega, gq, gb, ?_⟩ (by dsimp only; omega)⟩
      match f, hf1, hf2 with
      | 0, _, hf2 => omega
      | f + 1, hf1, hf2 => exact ⟨f, by dsimp only; rw [zcUu hi, ← ge] at hf1; exact hf1, by dsimp only; omega⟩
  · have v1 := vd_iL (σ := [⟨none, b.map .bool, .live⟩, ⟨none, (q.map (·.1)).map .int, .live⟩]) (fr := false) (b := 1) (xs := q.map (·.1)) (n := q.length) (st := .live) rfl (by simp) (by simp)
    simp [-List.map_map, hi, v1]
    rw [← hf1, zXiF hi]
end Ab
namespace Ab
end Ab
namespace Ab
def Mly.open1 (m : Mly) (T : List (List Bool)) (p : Pl) : Option Int := ((List.range m.inputs.toNat).find? fun (a : Nat) => !(ix (ix T p.1) (a : Int))).map fun (a : Nat) => (a : Int)
def Mly.fresh (m : Mly) (s : Int) (T : List (List Bool)) : Option (Pl × Int) := (m.places s).findSome? fun p => (m.open1 T p).map fun a => (p, a)
end Ab
namespace Ab
end Ab
namespace Ab
def pR (j : Nat) : Nat := if j = 0 then 3 else 5 + j
def trS (inp : Int) (num : List Int) (K : Nat) (R O : List (List Int)) : List Blk := match R with
  | r :: R => ⟨some 4, [.int 0, .int 0, .snil, .snil], .live⟩ :: Zb num :: ⟨some 4, [.int inp, .int 0, .sl 4 (R.length + 1) 0 (R.length + 1), .sl 5 (R.length + 1) 0 (R.length + 1)], .live⟩ :: Zb r :: ⟨none, rws 0 pR (R.length + 1) K, .live⟩ :: ⟨none, O.map iL, .live⟩ :: R.map Zb
  | [] => [⟨some 4, [.int 0, .int 0, .snil, .snil], .live⟩, Zb num, ⟨some 4, [.int inp, .int 0, .snil, .snil], .live⟩]
theorem zlEM {inp : Int} {num r : List Int} {K : Nat} {R O : List (List Int)} : trS inp num K (r :: R) O = ⟨some 4, [.int 0, .int 0, .snil, .snil], .live⟩ :: Zb num :: ⟨some 4, [.int inp, .int 0, .sl 4 (R.length + 1) 0 (R.length + 1), .sl 5 (R.length + 1) 0 (R.length + 1)], .live⟩ :: Zb r :: ⟨none, rws 0 pR (R.length + 1) K, .live⟩ :: ⟨none, O.map iL, .live⟩ :: R.map Zb := rfl
theorem zSNp {inp : Int} {num : List Int} {K : Nat} {O : List (List Int)} : trS inp num K [] O = [⟨some 4, [.int 0, .int 0, .snil, .snil], .live⟩, Zb num, ⟨some 4, [.int inp, .int 0, .snil, .snil], .live⟩] := rfl
theorem zYpZ {R : List (List Int)} {j : Nat} (h : j < R.length) : blk (R.map Zb) j = some (Zb (ix R (j : Int))) := by
  rw [bE, List.getElem?_map, List.getElem?_eq_getElem h, zrZW h]; rfl
theorem zbfM {B0 B1 B2 B5 : Blk} {K : Nat} {r : List Int} {R : List (List Int)} (h : ∀ x ∈ r :: R, x.length = K) : RowsAt (B0 :: B1 :: B2 :: Zb r :: ⟨none, rws 0 pR (R.length + 1) K, .live⟩ :: B5 :: R.map Zb) 4 pR (r :: R) := by
  refine ⟨?_, fun j hj => ?_⟩
  · show some (Blk.mk none (rws 0 pR (R.length + 1) K) .live) = _
    unfold rws
    congr 2
    refine List.map_congr_left fun j hj => ?_
    have := h _ (zmAQ (l := r :: R) (n := (j : Int)) (by omega) (by simp at hj ⊢; omega))
    rw [this]; rfl
  · cases j with
    | zero => rfl
    | succ j =>
      have e : pR (j + 1) = j + 6 := by unfold pR; rw [if_neg (by omega)]; omega
      rw [e]
      show blk (R.map Zb) j = _
      rw [zYpZ (by simpa using hj)]
      simp [ix]
def trR (num l : List Int) (K x : Nat) : List Int := (l.take x).map (fun t => ix num t) ++ List.replicate (K - x) 0
theorem zFtO {num l : List Int} {K x : Nat} (h : l.length = K) (hx : x ≤ K) : (trR num l K x).length = K := by
  unfold trR; simp; omega
theorem zY1u {num l : List Int} {K : Nat} : trR num l K 0 = List.replicate K 0 := by simp [trR]
theorem zJj6 {num l : List Int} {K x : Nat} (h : l.length = K) (hx : x < K) : trR num l K (x + 1) = (trR num l K x).set x (ix num (ix l (x : Int))) := by
  unfold trR
  rw [List.set_append, if_neg (by simp; omega)]
  have hl : (List.map (fun t => ix num t) (l.take x)).length = x := by simp; omega
  rw [hl, Nat.sub_self]
  obtain ⟨j, hj⟩ : ∃ j, K - x = j + 1 := ⟨K - x - 1, by omega⟩
  rw [hj, List.replicate_succ, List.set_cons_zero, show K - (x + 1) = j by omega, List.take_add_one, List.getElem?_eq_getElem (by omega), zrZW (by omega)]
  simp only [List.map_append, List.append_assoc, Option.toList_some, List.map_cons, List.map_nil, List.singleton_append]
theorem zonr {num l : List Int} {K : Nat} (h : l.length = K) : trR num l K K = l.map fun t => ix num t := by
  unfold trR; rw [List.take_of_length_le (by omega), Nat.sub_self]; simp
def trmA (m : Mly) : Mly × Int := if m.validE ≠ 0 then (⟨0, 0, [], []⟩, m.validE) else (m.trim, 0)
theorem zgaI {m : Mly} (hm : m.Ok) : ∀ x ∈ m.trim.next, x.length = m.inputs.toNat := by
  intro x hx
  obtain ⟨i, hi, rfl⟩ := List.mem_iff_getElem.1 hx
  have := (ziLN hm).row (i : Int) (by omega) (by omega)
  rw [zrZW hi] at this
  have e : m.trim.inputs = m.inputs := rfl
  omega
theorem zeTE (m : Mly) (h : m.fits) : PC zAqS [m.av] = some (.tup [(trmA m).1.av, .int (trmA m).2]) := by
  refine zx72 (zr8h rfl ?_)
  have hv := zo3u m h
  by_cases h0 : m.validE = 0
  case neg =>
    have e : trmA m = (⟨0, 0, [], []⟩, m.validE) := by unfold trmA; rw [if_pos h0]
    rw [e]
    simp [hv, h0, zhi1]
  have e : trmA m = (m.trim, 0) := by unfold trmA; rw [if_neg (by omega)]
  rw [e]
  have hm := zaDP h0
  have hin := hm.inputs
  have hst := hm.states
  have hml := hm.len
  have hR := z488 m h h0
  rw [h0] at hv
  have hf := zJmI m hm m.start hm.start
  have hpos := hf.bq.pos
  have hle := hf.bq.le
  have htl : m.trim.next.length = (m.places m.start).length := zLPq
  have hto : m.trim.out.length = (m.places m.start).length := z4O0
  have hnum : m.num = numP (m.places m.start) m.next.length (m.places m.start).length := rfl
  have hrows := zgaI hm
  have hTn := fun i h0 h1 => zYAR (m := m) (i := i) h0 h1
  have hTo := fun i h0 h1 => zPI0 (m := m) (i := i) h0 h1
  have hTi : m.trim.av = .agg [.int m.inputs, .int 0, iLL m.trim.next, iLL m.trim.out] := rfl
  have hrg : ∀ i : Nat, i < (m.places m.start).length → 0 ≤ (ix (m.places m.start) (i : Int)).1 ∧ (ix (m.places m.start) (i : Int)).1 < (m.next.length : Int) := fun i hi => hf.bq.rng _ (zmAQ (by omega) (by omega))
  rw [hTi]
  generalize m.trim.next = R at *
  generalize m.trim.out = O at *
  have hnl : m.num.length = m.next.length := zyO5
  generalize m.num = N at *
  generalize m.places m.start = P at *
  simp [-List.map_map, -List.map_replicate, -zJRc, hv, hR]
  refine ⟨by omega, ?_⟩
  refine zv8C (fun i : Nat => [(5, .int i)]) (fun i => [⟨some 4, [.int 0, .int 0, .snil, .snil], .live⟩, Zb (numP P m.next.length i)]) (fun i => i ≤ P.length) (fun i => P.length - i) 0 (by simp [sets, numP, fput]) (by omega) ?_
  intro i i1
  have hNl : (numP P m.next.length i).length = m.next.length := by unfold numP; rw [zslG]; simp
  by_cases hi : i < P.length
  · have hp := hrg i hi
    have g1 : ix (P.map (·.1)) (i : Int) = (ix P (i : Int)).1 := zWk8 (by omega) (by omega)
    have hnx : numP P m.next.length (i + 1) = (numP P m.next.length i).set (ix P (i : Int)).1.toNat (i : Int) := rfl
    generalize numP P m.next.length i = Q at *
    simp [-List.map_map, -List.map_set, -zJRc, hi, g1, hp.1, hp.2, hNl]
    refine ⟨by omega, zGkM (i + 1) (by simp) (by rw [hnx]) (by omega) (by omega)⟩
  · have : i = P.length := by omega
    subst this
    rw [← hnum]
    have hK : m.inputs = (m.inputs.toNat : Int) := by omega
    have hK0 : 0 < m.inputs.toNat := by omega
    simp [-List.map_map, -zJRc]
    refine zv8C (fun i : Nat => [(11, .int i)]) (fun i => trS m.inputs N m.inputs.toNat (R.take i) (O.take i)) (fun i => i ≤ P.length) (fun i => P.length - i) 0 (by simp [sets, trS]) (by omega) ?_
    intro i i1
    obtain ⟨r, R, rfl⟩ : ∃ r R', R = r :: R' := by cases R with
      | nil => simp at htl; omega
      | cons r R => exact ⟨r, R, rfl⟩
    by_cases hi : i < P.length
    · have hp := hrg i hi
      have g1 : ix (P.map (·.1)) (i : Int) = (ix P (i : Int)).1 := zWk8 (by omega) (by omega)
      have hl := hm.row _ hp.1 hp.2
      have hlk : (ix m.next (ix P (i : Int)).1).length = m.inputs.toNat := by omega
      have hRi := hTn (i : Int) (by omega) (by omega)
      have hOi := hTo (i : Int) (by omega) (by omega)
      rw [← zonr hlk] at hRi
      have hso : (ix P (i : Int)).1 < (m.out.length : Int) := by omega
      have hP' : (i : Int) < (P.length : Int) := by omega
      have hns : ∀ x : Nat, (x : Int) < m.inputs → 0 ≤ ix (ix m.next (ix P (i : Int)).1) (x : Int) ∧ ix (ix m.next (ix P (i : Int)).1) (x : Int) < (N.length : Int) := fun x hx => by
        have := hm.nx _ (x : Int) hp.1 hp.2 (by omega) hx
        omega
      generalize (ix P (i : Int)).1 = s at *
      have hl1 : ((ix m.next s).length : Int) = m.inputs := hl.1
      have hcl : PC zUHS [iL (ix m.out s)] = some (iL (ix m.out s)) := zEsX _ (by omega)
      have hl2 : (ix m.next s).length = m.inputs.toNat := hlk
      rcases i with _ | j
      · rw [show (r :: R).take 0 = [] from rfl, zSNp]
        have g1' : ix (P.map (·.1)) 0 = s := g1
        have hP0 : (P = []) = False := eq_false (by intro e; rw [e] at hi; simp at hi)
        have hP0' : (0 < P.length) = True := eq_true hi
        simp [-List.map_map, -List.map_replicate, -zJRc, hP0, hP0', g1', hp.1, hp.2]
        refine ⟨by omega, ?_⟩
        refine zv8C (fun x : Nat => [(15, .int x)]) (fun x => [⟨some 4, [.int 0, .int 0, .snil, .snil], .live⟩, Zb N, ⟨some 4, [.int m.inputs, .int 0, .snil, .snil], .live⟩, Zb (trR N (ix m.next s) m.inputs.toNat x)]) (fun x => x ≤ m.inputs.toNat) (fun x => m.inputs.toNat - x) 0 (by simp [-List.map_replicate, sets, zY1u]) (by omega) ?_
        intro x x1
        have hXl := zFtO (num := N) hlk (x := x) x1
        by_cases hx : x < m.inputs.toNat
        · have hn := hns x (by omega)
          have hxi : ((x : Int) < m.inputs) = True := eq_true (by omega)
          have hsu := zJj6 (num := N) hlk hx
          generalize trR N (ix m.next s) m.inputs.toNat x = X at *
          simp [-List.map_map, -List.map_set, -List.map_take, -zJRc, hl1, hxi, hn.1, hn.2, hXl]
          refine ⟨by omega, hnl, by omega, by omega, zGkM (x + 1) (by simp) (by rw [hsu]) (by omega) (by omega)⟩
        · have : x = m.inputs.toNat := by omega
          subst this
          have hxi : (((m.inputs.toNat : Nat) : Int) < m.inputs) = False := eq_false (by omega)
          have hrr : r = trR N (ix m.next s) m.inputs.toNat m.inputs.toNat := hRi
          have hoo : O.take 1 = [ix m.out s] := by
            obtain ⟨o, O, rfl⟩ : ∃ o O', O = o :: O' := by cases O with
              | nil => simp at hto; omega
              | cons o O => exact ⟨o, O, rfl⟩
            rw [← hOi]; rfl
          simp [-List.map_map, -List.map_set, -List.map_take, -zJRc, -Int.ofNat_toNat, hl1, hxi, hp.1, hso, hcl]
          refine zGkM 1 (by simp) ?_ (by omega) (by omega)
          rw [hoo, show (r :: R).take 1 = [r] from rfl, zlEM, ← hrr]
          rfl
      · have hjl : j < R.length + 1 := by simp at htl; omega
        have ht : (R.take j).length = j := by rw [List.length_take, Nat.min_eq_left (by simp at htl; omega)]
        rw [show (r :: R).take (j + 1) = r :: R.take j from rfl, zlEM, ht, List.map_take (f := iL)]
        have hTl : ((R.take j).map Zb).length = j := by rw [List.length_map, ht]
        have hjP' : ((j : Int) + 1 < (P.length : Int)) = True := eq_true (by omega)
        have hjP : (j + 1 < P.length) = True := eq_true hi
        have g1' : ix (P.map (·.1)) ((j : Int) + 1) = s := g1
        have hT2 : (R.take (j + 1)).map Zb = (R.take j).map Zb ++ [Zb (trR N (ix m.next s) m.inputs.toNat m.inputs.toNat)] := by
          have hj : j < R.length := by simp at htl; omega
          rw [List.take_add_one, List.getElem?_eq_getElem hj, ← hRi, List.map_append]
          rw [show ix (r :: R) ((j + 1 : Nat) : Int) = R[j] by rw [zrZW (by simp; omega)]; rfl]
          rfl
        have hO2 : (O.map iL).take (j + 2) = (O.map iL).take (j + 1) ++ [iL (ix m.out s)] := by
          rw [List.take_add_one, List.getElem?_eq_getElem (by simp; omega), ← hOi, zrZW (by omega)]
          simp
        generalize (R.take j).map Zb = T at *
        simp [-List.map_map, -List.map_replicate, -List.map_take, -zJRc, hjP, hjP', g1', hp.1, hp.2]
        refine ⟨by omega, by omega, ?_⟩
        refine zv8C (fun x : Nat => [(15, .int x)]) (fun x => ⟨some 4, [.int 0, .int 0, .snil, .snil], .live⟩ :: Zb N :: ⟨some 4, [.int m.inputs, .int 0, .sl 4 (j + 1) 0 (j + 1), .sl 5 (j + 1) 0 (j + 1)], .live⟩ :: Zb r :: ⟨none, rws 0 pR (j + 1) m.inputs.toNat, .live⟩ :: ⟨none, (O.map iL).take (j + 1), .live⟩ :: (T ++ [Zb (trR N (ix m.next s) m.inputs.toNat x)])) (fun x => x ≤ m.inputs.toNat) (fun x => m.inputs.toNat - x) 0 (by simp [-List.map_replicate, -List.map_take, sets, zY1u]) (by omega) ?_
        intro x x1
        have hXl := zFtO (num := N) hlk (x := x) x1
        have hol : ((O.map iL).take (j + 1)).length = j + 1 := by simp; omega
        by_cases hx : x < m.inputs.toNat
        · have hn := hns x (by omega)
          have hxi : ((x : Int) < m.inputs) = True := eq_true (by omega)
          have hsu := zJj6 (num := N) hlk hx
          generalize trR N (ix m.next s) m.inputs.toNat x = X at *
          simp [-List.map_map, -List.map_set, -List.map_take, -zJRc, hl1, hxi, hn.1, hn.2, hXl, ↓znKw, ↓zsbM]
          refine ⟨by omega, hnl, by omega, by omega, zGkM (x + 1) (by simp) (by rw [hsu]) (by omega) (by omega)⟩
        · have : x = m.inputs.toNat := by omega
          subst this
          have hxi : (((m.inputs.toNat : Nat) : Int) < m.inputs) = False := eq_false (by omega)
          simp [-List.map_map, -List.map_set, -List.map_take, -zJRc, -Int.ofNat_toNat, hl1, hxi, hp.1, hso, hcl, hol, z4HF]
          refine ⟨by omega, by omega, zGkM (j + 2) (by simp; omega) ?_ (by omega) (by omega)⟩
          have ht2 : (R.take (j + 1)).length = j + 1 := by rw [List.length_take, Nat.min_eq_left (by simp at htl; omega)]
          have hp2 : pR (j + 1) = j + 6 := by unfold pR; rw [if_neg (by omega)]; omega
          rw [show (r :: R).take (j + 2) = r :: R.take (j + 1) from rfl, zlEM, ht2, List.map_take (f := iL), hO2, hT2, zJuI (n := j + 1), hp2, hTl]
    · have : i = P.length := by omega
      subst this
      rw [List.take_of_length_le (by omega), List.take_of_length_le (by omega), zlEM]
      have v1 : ∀ B0, view (B0 :: Zb N :: ⟨some 4, [.int m.inputs, .int 0, .sl 4 (R.length + 1) 0 (R.length + 1), .sl 5 (R.length + 1) 0 (R.length + 1)], .live⟩ :: Zb r :: ⟨none, rws 0 pR (R.length + 1) m.inputs.toNat, .live⟩ :: ⟨none, O.map iL, .live⟩ :: R.map Zb) false 11 (.sl 4 (R.length + 1) 0 (R.length + 1)) = some (iLL (r :: R)) := fun B0 => zlv3 (k := 8) (zbfM hrows) rfl
      have v2 : ∀ B0, view (B0 :: Zb N :: ⟨some 4, [.int m.inputs, .int 0, .sl 4 (R.length + 1) 0 (R.length + 1), .sl 5 (R.length + 1) 0 (R.length + 1)], .live⟩ :: Zb r :: ⟨none, rws 0 pR (R.length + 1) m.inputs.toNat, .live⟩ :: ⟨none, O.map iL, .live⟩ :: R.map Zb) false 11 (.sl 5 (R.length + 1) 0 (R.length + 1)) = some (iLL O) := fun B0 => zxF7 (k := 10) (f := iL) (g := iL) (st := .live) (xs := O) rfl (by simp) (by simp at htl; omega) fun _ _ => rfl
      simp [-List.map_map, -List.map_take, zhi1, v1, v2]
      trace_state
end Ab
