/- How many states and transitions words visit. Condition: none. -/
import Derived.Test.YtbpkebkldaifgaaCovC
set_option linter.all false
set_option maxRecDepth 100000
set_option maxHeartbeats 4000000
namespace Ab
/-- The counts so far. -/
structure Cv where
  vis : List Int
  tak : List (List Bool)
  n : Int
  deriving Inhabited
def Cv.visit (c : Cv) (s : Int) : Cv := if c.vis.any (· == s) then c else { c with vis := c.vis ++ [s] }
def Cv.take (c : Cv) (s a : Int) : Cv := if ix (ix c.tak s) a = true then c else { c with tak := mark c.tak s a, n := c.n + 1 }
/-- From a state that was counted. -/
def Mly.goV (m : Mly) : Int → List Int → Cv → Cv
  | _, [], c => c
  | s, a :: w, c => m.goV (ix (ix m.next s) a) w ((c.take s a).visit (ix (ix m.next s) a))
def Mly.cov (m : Mly) (ws : List (List Int)) (c : Cv) : Cv := ws.foldl (fun c w => m.goV m.start w (c.visit m.start)) c
/-- The program's table of visited states. -/
structure Vt (N : Nat) (b : List Bool) (v : List Int) : Prop where
  len : b.length = N
  ok : ∀ t, 0 ≤ t → t < (N : Int) → ix b t = v.any (· == t)
abbrev bB (b : List Bool) : Blk := ⟨none, b.map .bool, .live⟩
abbrev crest (N : Nat) (n : Int) : List Blk := [⟨none, [.sl 0 N 0 N], .live⟩, ⟨none, [.int n], .live⟩]
theorem g1_r0 {box : Blk} {C N : Nat} {T : List (List Bool)} {B : Blk} {rest : List Blk} (h : T.length = N) : blk (grid1 box C N T (B :: rest)) (2 + N) = some B := by
  subst h
  rw [blkS, grid1, show 2 + T.length = T.length + 1 + 1 by omega, List.getElem?_cons_succ, List.getElem?_cons_succ, List.getElem?_append_right (by simp)]
  simp
theorem g1_r1 {box : Blk} {C N : Nat} {T : List (List Bool)} {A B : Blk} (h : T.length = N) : blk (grid1 box C N T [A, B]) (3 + N) = some B := by
  subst h
  rw [blkS, grid1, show 3 + T.length = T.length + 1 + 1 + 1 by omega, List.getElem?_cons_succ, List.getElem?_cons_succ, List.getElem?_append_right (by simp)]
  simp
theorem g1_s1 {box : Blk} {C N : Nat} {T : List (List Bool)} {A B B' : Blk} (h : T.length = N) : setB (grid1 box C N T [A, B]) (3 + N) B' = grid1 box C N T [A, B'] := by
  subst h
  rw [setBS, grid1, grid1, show 3 + T.length = T.length + 1 + 1 + 1 by omega, List.set_cons_succ, List.set_cons_succ, List.set_append, if_neg (by simp)]
  simp
theorem g1_s0 {box B : Blk} {C N : Nat} {T : List (List Bool)} {rest : List Blk} : setB (grid1 box C N T rest) 0 B = grid1 B C N T rest := rfl
theorem visit_l (m : Mly) (hm : m.Ok) (s : Int) (hs : 0 ≤ s ∧ s < (m.next.length : Int)) (b : List Bool) (c : Cv) (C : Nat) (hb : Vt m.next.length b c.vis) (hT : c.tak.length = m.next.length) (hc : (c.vis.length : Int) ≤ 9223372036854775806) :
    LX L F_cover_Covered_1 [.int s, .ptr (2 + m.next.length) 1 0, .ptr (3 + m.next.length) 1 0] (grid1 (bB b) C m.next.length c.tak (crest m.next.length c.vis.length)) (fun v τ => v = .tup [] ∧ ∃ b', τ = grid1 (bB b') C m.next.length (c.visit s).tak (crest m.next.length (c.visit s).vis.length) ∧ Vt m.next.length b' (c.visit s).vis) := by
  refine go_cover_Covered_1 rfl ?_
  have hbl := hb.len
  have hbk := hb.ok s hs.1 hs.2
  have bv := fun b => g1_r0 (box := bB b) (C := C) (N := m.next.length) (T := c.tak) (B := ⟨none, [.sl 0 m.next.length 0 m.next.length], .live⟩) (rest := [⟨none, [.int c.vis.length], .live⟩]) hT
  have bn := fun b => g1_r1 (box := bB b) (C := C) (N := m.next.length) (T := c.tak) (A := ⟨none, [.sl 0 m.next.length 0 m.next.length], .live⟩) (B := ⟨none, [.int c.vis.length], .live⟩) hT
  have sn := fun b B' => g1_s1 (box := bB b) (C := C) (N := m.next.length) (T := c.tak) (A := ⟨none, [.sl 0 m.next.length 0 m.next.length], .live⟩) (B := ⟨none, [.int c.vis.length], .live⟩) (B' := B') hT
  have b0 : ∀ b, blk (grid1 (bB b) C m.next.length c.tak (crest m.next.length c.vis.length)) 0 = some (bB b) := fun _ => g1_box
  cases hv : c.vis.any (· == s) with
  | true =>
    rw [hv] at hbk
    simp [-List.map_set, hbk, hs.1, hs.2, hbl, b0, bv, bn, sn, g1_s0]
    have e : c.visit s = c := if_pos hv
    exact ⟨b, by rw [e], by rw [e]; exact hb⟩
  | false =>
    rw [hv] at hbk
    simp [-List.map_set, hbk, hs.1, hs.2, hbl, b0, bv, bn, sn, g1_s0]
    have e : c.visit s = { c with vis := c.vis ++ [s] } := if_neg (by simp [hv])
    rw [e]
    refine ⟨by omega, b.set s.toNat true, by simp, by simp [hbl], fun t t0 t1 => ?_⟩
    rw [ixs_set t0 (by omega)]
    by_cases h : t = (s.toNat : Int)
    · rw [if_pos h]; simp; right; omega
    · rw [if_neg h, hb.ok t t0 t1, List.any_append]
      simp; omega
theorem grid_shift {C N : Nat} {T : List (List Bool)} {B0 B : Blk} (hN : T.length = N) : (B0 :: ((grid0 C N T []).map (shB 1) ++ [B]) : List Blk) = grid1 B0 C N T [B] := by
  subst hN
  unfold grid0 grid1
  simp only [List.map_cons, List.append_nil, shB_rows, shB, Nat.sub_self, List.replicate_zero, shL_rfs]
  rfl
theorem blk_end {G : List Blk} {B : Blk} : blk (G ++ [B]) G.length = some B := by rw [blkS]; simp
theorem blk_end2 {G : List Blk} {A B : Blk} : blk (G ++ [A, B]) (G.length + 1) = some B := by rw [blkS, List.getElem?_append_right (by omega)]; simp
theorem setB_end {G : List Blk} {B B' : Blk} : setB (G ++ [B]) G.length B' = G ++ [B'] := by rw [setBS, List.set_append, if_neg (by omega)]; simp
theorem setB_end2 {G : List Blk} {A B B' : Blk} : setB (G ++ [A, B]) (G.length + 1) B' = G ++ [A, B'] := by rw [setBS, List.set_append, if_neg (by omega)]; simp
/-- The result. -/
def Mly.cov0 (m : Mly) (ws : List (List Int)) : Cv := m.cov ws ⟨[], m.blank, 0⟩
def Mly.wordsE (m : Mly) (ws : List (List Int)) : Int := firstN (fun i => wordE (ix ws i) m.inputs) ws.length
def Mly.covE (m : Mly) (ws : List (List Int)) : Int × Int × Int :=
  if m.validE ≠ 0 then (0, 0, m.validE) else if m.wordsE ws ≠ 0 then (0, 0, m.wordsE ws) else (((m.cov0 ws).vis.length : Int), (m.cov0 ws).n, 0)
abbrev covA (r : Int × Int × Int) : AV := .tup [.int r.1, .int r.2.1, .int r.2.2]
theorem wordE_len {w : List Int} {k : Int} (h : wordE w k = 0) : (w.length : Int) ≤ 1024 ∧ ∀ j, 0 ≤ j → j < (w.length : Int) → 0 ≤ ix w j ∧ ix w j < k := by
  unfold wordE at h
  split at h
  · simp at h
  split at h
  · simp at h
  split at h
  · simp at h
  rename_i a b c
  exact ⟨by omega, bad_fi.1 (by simpa using c)⟩
theorem visit_tak {c : Cv} {s : Int} : (c.visit s).tak = c.tak := by unfold Cv.visit; split <;> rfl
theorem visit_n {c : Cv} {s : Int} : (c.visit s).n = c.n := by unfold Cv.visit; split <;> rfl
theorem visit_len {c : Cv} {s : Int} : (c.visit s).vis.length ≤ c.vis.length + 1 := by unfold Cv.visit; split <;> simp
theorem take_vis {c : Cv} {s a : Int} : (c.take s a).vis = c.vis := by unfold Cv.take; split <;> rfl
theorem take_t {c : Cv} {s a : Int} (h : ix (ix c.tak s) a = true) : c.take s a = c := if_pos h
theorem take_f {c : Cv} {s a : Int} (h : ix (ix c.tak s) a = false) : c.take s a = { c with tak := mark c.tak s a, n := c.n + 1 } := if_neg (by simp [h])
theorem goV_ix {m : Mly} {s : Int} {w : List Int} {k : Int} {c : Cv} (h0 : 0 ≤ k) (h1 : k < w.length) : m.goV s (w.drop k.toNat) c = m.goV (ix (ix m.next s) (ix w k)) (w.drop (k + 1).toNat) ((c.take s (ix w k)).visit (ix (ix m.next s) (ix w k))) := by
  rw [drop_ix h0 h1]; rfl
theorem cov_ix {m : Mly} {ws : List (List Int)} {i : Int} {c : Cv} (h0 : 0 ≤ i) (h1 : i < ws.length) : m.cov (ws.drop i.toNat) c = m.cov (ws.drop (i + 1).toNat) (m.goV m.start (ix ws i) (c.visit m.start)) := by
  rw [drop_ix h0 h1]; rfl
theorem Covered_s (m : Mly) (h : m.fits) (ws : List (List Int)) (hws : (ws.length : Int) ≤ 1000000) (hwl : ∀ w ∈ ws, (w.length : Int) ≤ 9223372036854775807) : PC F_cover_Covered [m.av, iLL ws] = some (covA (m.covE ws)) := by
  refine PCx_of (go_cover_Covered rfl ?_)
  by_cases hv : m.validE = 0
  · have hm := mvalidE_ok hv
    obtain ⟨hi1, hi2⟩ := hm.inputs
    obtain ⟨hs1, hs2⟩ := hm.states
    simp [-List.map_replicate, mValid_s m h, hv]
    refine W_iter (fun i : Int => [(4, .int i)]) (fun _ => []) (fun i => 0 ≤ i ∧ i ≤ ws.length ∧ ∀ j, 0 ≤ j → j < i → wordE (ix ws j) m.inputs = 0) (fun i => (ws.length - i).toNat) 0 rfl ⟨by omega, by omega, upto_zero⟩ fun i ⟨i0, i1, i2⟩ => ?_
    by_cases hi : i < ws.length
    · have hc := wCheck_s (ix ws i) m.inputs (hwl _ (ix_mem i0 hi))
      simp [-More_nor, hi, i0, hc]
      refine ⟨fun e => ⟨by omega, More_of (i + 1) (by simp) rfl ⟨by omega, by omega, upto_succ e i2⟩ (by omega)⟩, fun e => ?_⟩
      have hE0 : m.wordsE ws = wordE (ix ws i) m.inputs := firstN_some (f := fun i => wordE (ix ws i) m.inputs) i0 hi e i2
      have hE : m.covE ws = (0, 0, m.wordsE ws) := by unfold Mly.covE; rw [if_neg (by simpa using hv), if_pos (by rw [hE0]; exact e)]
      rw [hE, hE0]; simp
    · have hE0 : m.wordsE ws = 0 := firstN_none fun j a b => i2 j a (by omega)
      have hE : m.covE ws = (((m.cov0 ws).vis.length : Int), (m.cov0 ws).n, 0) := by unfold Mly.covE; rw [if_neg (by simpa using hv), if_neg (by simpa using hE0)]
      rw [hE]
      obtain ⟨_, _, hM, rfl, rfl⟩ := LX_s (marks_l m hm)
      obtain ⟨G, hG⟩ : ∃ G, (grid0 m.inputs.toNat m.next.length m.blank []).map (shB 1) = G := ⟨_, rfl⟩
      have hGl : G.length = 1 + m.next.length := by rw [← hG, List.length_map, g0_len]; simp
      have hGg : ∀ B0 A B, (B0 :: (G ++ [A, B]) : List Blk) = grid1 B0 m.inputs.toNat m.next.length m.blank [A, B] := fun B0 A B => by
        rw [show (B0 :: (G ++ [A, B]) : List Blk) = (B0 :: (G ++ [A])) ++ [B] by simp, ← hG, grid_shift (by simp), g1_app]; rfl
      have c1 := fun B => blk_end (G := G) (B := B)
      have c2 := fun A B => blk_end2 (G := G) (A := A) (B := B)
      have d1 := fun B B' => setB_end (G := G) (B := B) (B' := B')
      have d2 := fun A B B' => setB_end2 (G := G) (A := A) (B := B) (B' := B')
      simp [-List.map_replicate, hi, hM, hG, shV, c1, c2, d1, d2]
      rw [hGg, hGl, show 1 + m.next.length + 1 = 2 + m.next.length by omega, show 2 + m.next.length + 1 = 3 + m.next.length by omega]
      refine ⟨by omega, ?_⟩
      have hst := hm.start
      have hwE : ∀ j, 0 ≤ j → j < (ws.length : Int) → wordE (ix ws j) m.inputs = 0 := fun j a b => i2 j a (by omega)
      refine W_iter (fun p : Int × List Bool × Cv => [(11, .int p.1), (22, .int p.2.2.n)]) (fun p => grid1 (bB p.2.1) m.inputs.toNat m.next.length p.2.2.tak (crest m.next.length p.2.2.vis.length))
        (fun p => (0 ≤ p.1 ∧ p.1 ≤ ws.length) ∧ Vt m.next.length p.2.1 p.2.2.vis ∧ Sh m.next.length m.inputs.toNat p.2.2.tak ∧ (0 ≤ p.2.2.n ∧ p.2.2.n ≤ p.1 * 1024) ∧ (p.2.2.vis.length : Int) ≤ p.1 * 1025 ∧ m.cov (ws.drop p.1.toNat) p.2.2 = m.cov0 ws)
        (fun p => (ws.length - p.1).toNat) (0, List.replicate m.next.length false, ⟨[], m.blank, 0⟩) (by simp [-List.map_replicate, sets, bB, crest]) ⟨by simp, ⟨by simp, fun t t0 t1 => by rw [ixs_rep t0 t1]; rfl⟩, ⟨by simp, fun r hr => by rw [List.eq_of_mem_replicate hr]; simp⟩, by simp, by simp, rfl⟩ ?_
      rintro ⟨i, b, c⟩ ⟨⟨i0, i1⟩, hb, hT, hn, hvl, hR⟩
      dsimp only at i0 i1 hb hT hn hvl hR ⊢
      by_cases hi : i < ws.length
      · have hw := wordE_len (hwE i i0 hi)
        obtain ⟨_, _, hV, rfl, b', rfl, hb'⟩ := LX_s (visit_l m hm m.start hst b c m.inputs.toNat hb hT.len (by omega))
        simp [-More_nor, hi, i0, hV]
        refine W_iter (fun p : Int × Int × List Bool × Cv => [(15, .int p.2.1), (17, .int p.1), (22, .int p.2.2.2.n)]) (fun p => grid1 (bB p.2.2.1) m.inputs.toNat m.next.length p.2.2.2.tak (crest m.next.length p.2.2.2.vis.length))
          (fun p => (0 ≤ p.1 ∧ p.1 ≤ (ix ws i).length) ∧ (0 ≤ p.2.1 ∧ p.2.1 < (m.next.length : Int)) ∧ Vt m.next.length p.2.2.1 p.2.2.2.vis ∧ Sh m.next.length m.inputs.toNat p.2.2.2.tak ∧ (0 ≤ p.2.2.2.n ∧ p.2.2.2.n ≤ i * 1024 + p.1) ∧ (p.2.2.2.vis.length : Int) ≤ i * 1025 + 1 + p.1 ∧ m.goV p.2.1 ((ix ws i).drop p.1.toNat) p.2.2.2 = m.goV m.start (ix ws i) (c.visit m.start))
          (fun p => ((ix ws i).length - p.1).toNat) (0, m.start, b', c.visit m.start) (by simp [sets, visit_n]) ⟨by simp, hst, hb', by rw [visit_tak]; exact hT, by rw [visit_n]; dsimp only; omega, by have := visit_len (c := c) (s := m.start); dsimp only; omega, rfl⟩ ?_
        rintro ⟨k, s, b1, c1⟩ ⟨⟨k0, k1⟩, hs, kb, kT, kn, kv, kR⟩
        dsimp only at k0 k1 hs kb kT kn kv kR ⊢
        by_cases hk : k < (ix ws i).length
        · have ha := hw.2 k k0 hk
          have hnx := hm.nx s _ hs.1 hs.2 ha.1 ha.2
          have hrow := (hm.row s hs.1 hs.2).1
          have hrl := kT.ix hs.1 hs.2
          have hmx : max m.inputs 0 = m.inputs := by omega
          have hax : max (ix (ix ws i) k) 0 = ix (ix ws i) k := by omega
          have p1 := fun (K : AV → Prop) (t : Tk K) => pT_rfsN (e := 2) (C := m.inputs.toNat) (k := m.next.length) (K := K) (t := t) hs.1 hs.2
          have q1 := g1_outerN (box := bB b1) (C := m.inputs.toNat) (rest := crest m.next.length c1.vis.length) kT.len
          have q2 := g1_row (box := bB b1) (C := m.inputs.toNat) (N := m.next.length) (rest := crest m.next.length c1.vis.length) (m := c1.tak) hs.1 (by rw [kT.len]; exact hs.2)
          have q3 := fun r => g1_set (box := bB b1) (C := m.inputs.toNat) (N := m.next.length) (rest := crest m.next.length c1.vis.length) (m := c1.tak) (r := r) hs.1 (by rw [kT.len]; exact hs.2)
          have eR := goV_ix (m := m) (s := s) (c := c1) k0 hk
          rw [kR] at eR
          have hT1 : Sh m.next.length m.inputs.toNat (c1.take s (ix (ix ws i) k)).tak := by
            unfold Cv.take; split
            · exact kT
            · exact mark_sh kT hs.1 hs.2
          obtain ⟨_, _, hV2, rfl, b2, rfl, hb2⟩ := LX_s (visit_l m hm _ hnx b1 (c1.take s (ix (ix ws i) k)) m.inputs.toNat (by rw [take_vis]; exact kb) hT1.len (by rw [take_vis]; omega))
          have hvl2 := visit_len (c := c1.take s (ix (ix ws i) k)) (s := ix (ix m.next s) (ix (ix ws i) k))
          rw [take_vis] at hvl2
          cases ht : ix (ix c1.tak s) (ix (ix ws i) k) with
          | true =>
            rw [take_t ht] at *
            simp [-More_nor, -List.map_set, hk, k0, hs.1, hs.2, ha.1, ha.2, hrl, hrow, hmx, hax, ↓p1, q1, q2, ht, hV2]
            refine ⟨by omega, More_of (k + 1, ix (ix m.next s) (ix (ix ws i) k), b2, c1.visit (ix (ix m.next s) (ix (ix ws i) k))) (by simp [visit_n]) rfl ⟨by dsimp only; omega, hnx, hb2, by rw [visit_tak]; exact kT, by rw [visit_n]; dsimp only; omega, by dsimp only; omega, eR.symm⟩ (by dsimp only; omega)⟩
          | false =>
            rw [take_f ht] at *
            have hmk : c1.tak.set s.toNat ((ix c1.tak s).set (ix (ix ws i) k).toNat true) = mark c1.tak s (ix (ix ws i) k) := rfl
            simp [hmk, -More_nor, -List.map_set, hk, k0, hs.1, hs.2, ha.1, ha.2, hrl, hrow, hmx, hax, ↓p1, q1, q2, q3, ht, hV2]
            refine ⟨by omega, by omega, More_of (k + 1, ix (ix m.next s) (ix (ix ws i) k), b2, Cv.visit { c1 with tak := mark c1.tak s (ix (ix ws i) k), n := c1.n + 1 } (ix (ix m.next s) (ix (ix ws i) k))) (by simp [visit_n]) rfl ⟨by dsimp only; omega, hnx, hb2, by rw [visit_tak]; exact hT1, by rw [visit_n]; dsimp only; omega, by dsimp only; omega, eR.symm⟩ (by dsimp only; omega)⟩
        · rw [drop_end (by omega)] at kR
          have kR : c1 = m.goV m.start (ix ws i) (c.visit m.start) := kR
          simp [-More_nor, hk]
          refine ⟨by omega, More_of (i + 1, b1, c1) (by simp) rfl ⟨by dsimp only; omega, kb, kT, by dsimp only; omega, by dsimp only; omega, ?_⟩ (by dsimp only; omega)⟩
          rw [kR, ← hR]; exact (cov_ix i0 hi).symm
      · rw [drop_end (by omega)] at hR
        have hR : c = m.cov0 ws := hR
        rw [← hR]
        have b1 := g1_r1 (box := bB b) (C := m.inputs.toNat) (T := c.tak) (A := ⟨none, [.sl 0 m.next.length 0 m.next.length], .live⟩) (B := ⟨none, [.int c.vis.length], .live⟩) hT.len
        simp [hi, b1]
  · have : m.covE ws = (0, 0, m.validE) := by unfold Mly.covE; rw [if_pos hv]
    rw [this]
    simp [mValid_s m h, hv]
end Ab
namespace Ab
section
variable {C N : Nat} {T : List (List Bool)} {rest : List Blk}
theorem g0_outerN (h : T.length = N) : blk (grid0 C N T rest) 0 = some ⟨none, rfs 1 N C, .live⟩ := by rw [g0_outer, h]; simp
theorem g0_set {s : Int} {r : List Bool} (h0 : 0 ≤ s) (h1 : s < T.length) : setB (grid0 C N T rest) (1 + s.toNat) ⟨none, r.map .bool, .live⟩ = grid0 C N (T.set s.toNat r) rest := by
  rw [setBS, grid0, grid0, show 1 + s.toNat = s.toNat + 1 by omega, List.set_cons_succ, List.set_append, if_pos (by simp; omega)]
  simp [List.map_set]
theorem g0_rest {B : Blk} (h : T.length = N) : blk (grid0 C N T [B]) (1 + N) = some B := by
  subst h
  rw [blkS, grid0, show 1 + T.length = T.length + 1 by omega, List.getElem?_cons_succ, List.getElem?_append_right (by simp)]
  simp
theorem g0_setrest {B B' : Blk} (h : T.length = N) : setB (grid0 C N T [B]) (1 + N) B' = grid0 C N T [B'] := by
  subst h
  rw [setBS, grid0, grid0, show 1 + T.length = T.length + 1 by omega, List.set_cons_succ, List.set_append, if_neg (by simp)]
  simp
theorem g0_zero (h : T.length = N) : (grid0 C N T []).map (shB 0) = grid0 C N T [] := by
  subst h
  unfold grid0
  simp only [List.map_cons, List.append_nil, shB_rows, shB, Nat.sub_self, List.replicate_zero, shL_rfs]
end
theorem RCovered_s (m : Mly) (h : m.fits) (ws : List (List Int)) (hws : (ws.length : Int) ≤ 1000000) (hwl : ∀ w ∈ ws, (w.length : Int) ≤ 9223372036854775807) : PC F_ref10_Covered [m.av, iLL ws] = some (covA (m.covE ws)) := by
  refine PCx_of (go_ref10_Covered rfl ?_)
  by_cases hv : m.validE = 0
  · have hm := mvalidE_ok hv
    obtain ⟨hi1, hi2⟩ := hm.inputs
    obtain ⟨hs1, hs2⟩ := hm.states
    simp [-List.map_replicate, rmValid_s m h, hv]
    refine W_iter (fun i : Int => [(4, .int i)]) (fun _ => []) (fun i => 0 ≤ i ∧ i ≤ ws.length ∧ ∀ j, 0 ≤ j → j < i → wordE (ix ws j) m.inputs = 0) (fun i => (ws.length - i).toNat) 0 rfl ⟨by omega, by omega, upto_zero⟩ fun i ⟨i0, i1, i2⟩ => ?_
    by_cases hi : i < ws.length
    · have hc := rCheck_s (ix ws i) m.inputs (hwl _ (ix_mem i0 hi))
      simp [-More_nor, hi, i0, hc]
      refine ⟨fun e => ⟨by omega, More_of (i + 1) (by simp) rfl ⟨by omega, by omega, upto_succ e i2⟩ (by omega)⟩, fun e => ?_⟩
      have hE0 : m.wordsE ws = wordE (ix ws i) m.inputs := firstN_some (f := fun i => wordE (ix ws i) m.inputs) i0 hi e i2
      have hE : m.covE ws = (0, 0, m.wordsE ws) := by unfold Mly.covE; rw [if_neg (by simpa using hv), if_pos (by rw [hE0]; exact e)]
      rw [hE, hE0]; simp
    · have hE0 : m.wordsE ws = 0 := firstN_none fun j a b => i2 j a (by omega)
      have hE : m.covE ws = (((m.cov0 ws).vis.length : Int), (m.cov0 ws).n, 0) := by unfold Mly.covE; rw [if_neg (by simpa using hv), if_neg (by simpa using hE0)]
      rw [hE]
      obtain ⟨_, _, hM, rfl, rfl⟩ := LX_s (none_l m hm)
      have hz := g0_zero (C := m.inputs.toNat) (N := m.next.length) (T := m.blank) (by simp)
      have hgl : (grid0 m.inputs.toNat m.next.length m.blank []).length = 1 + m.next.length := by rw [g0_len]; simp
      simp [-List.map_replicate, hi, hM, shV, hz, g0_app, hgl]
      have hst := hm.start
      have hwE : ∀ j, 0 ≤ j → j < (ws.length : Int) → wordE (ix ws j) m.inputs = 0 := fun j a b => i2 j a (by omega)
      refine W_iter (fun p : Int × Cv => [(6, .int p.1), (8, .sl (1 + m.next.length) p.2.vis.length 0 p.2.vis.length), (12, .int p.2.n)]) (fun p => grid0 m.inputs.toNat m.next.length p.2.tak [lout p.2.vis])
        (fun p => (0 ≤ p.1 ∧ p.1 ≤ ws.length) ∧ Sh m.next.length m.inputs.toNat p.2.tak ∧ (0 ≤ p.2.n ∧ p.2.n ≤ p.1 * 1024) ∧ (p.2.vis.length : Int) ≤ p.1 * 1025 ∧ m.cov (ws.drop p.1.toNat) p.2 = m.cov0 ws)
        (fun p => (ws.length - p.1).toNat) (0, ⟨[], m.blank, 0⟩) (by simp [-List.map_replicate, sets, lout]) ⟨by simp, ⟨by simp, fun r hr => by rw [List.eq_of_mem_replicate hr]; simp⟩, by simp, by simp, rfl⟩ ?_
      rintro ⟨i, c⟩ ⟨⟨i0, i1⟩, hT, hn, hvl, hR⟩
      dsimp only at i0 i1 hT hn hvl hR ⊢
      by_cases hi : i < ws.length
      · have hw := wordE_len (hwE i i0 hi)
        simp [-More_nor, hi, i0]
        refine W_iter (fun p : Int × Int × Cv => [(7, .int p.1), (8, .sl (1 + m.next.length) p.2.2.vis.length 0 p.2.2.vis.length), (9, .int p.2.1), (12, .int p.2.2.n)]) (fun p => grid0 m.inputs.toNat m.next.length p.2.2.tak [lout p.2.2.vis])
          (fun p => (0 ≤ p.1 ∧ p.1 ≤ (ix ws i).length + 1) ∧ (0 ≤ p.2.1 ∧ p.2.1 < (m.next.length : Int)) ∧ Sh m.next.length m.inputs.toNat p.2.2.tak ∧ (0 ≤ p.2.2.n ∧ p.2.2.n ≤ i * 1024 + min p.1 (ix ws i).length) ∧ (p.2.2.vis.length : Int) ≤ i * 1025 + p.1 ∧ (if p.1 ≤ (ix ws i).length then m.goV p.2.1 ((ix ws i).drop p.1.toNat) (p.2.2.visit p.2.1) else p.2.2) = m.goV m.start (ix ws i) (c.visit m.start))
          (fun p => ((ix ws i).length + 1 - p.1).toNat) (0, m.start, c) (by simp [sets]) ⟨by simp; omega, hst, hT, by dsimp only; omega, by dsimp only; omega, by rw [if_pos (by simp)]; rfl⟩ ?_
        rintro ⟨k, s, c1⟩ ⟨⟨k0, k1⟩, hs, kT, kn, kv, kR⟩
        dsimp only at k0 k1 hs kT kn kv kR ⊢
        by_cases hk : k ≤ (ix ws i).length
        · rw [if_pos hk] at kR
          have hvw := fun (c' : Cv) (h : c'.tak.length = m.next.length) => vd_lout (out := c'.vis) (g0_rest (C := m.inputs.toNat) (B := lout c'.vis) h)
          have hrow := (hm.row s hs.1 hs.2).1
          have hrl := kT.ix hs.1 hs.2
          have hmx : max m.inputs 0 = m.inputs := by omega
          obtain ⟨_, hH⟩ := rhas_s c1.vis s (by omega)
          have b9 := g0_rest (C := m.inputs.toNat) (T := c1.tak) (B := lout c1.vis) kT.len
          have b8 := fun B' => g0_setrest (C := m.inputs.toNat) (T := c1.tak) (B := lout c1.vis) (B' := B') kT.len
          have p1 := fun (K : AV → Prop) (t : Tk K) => pT_rfsN (e := 1) (C := m.inputs.toNat) (k := m.next.length) (K := K) (t := t) hs.1 hs.2
          have hv1 := hvw c1 kT.len
          have q1 := fun B => g0_outerN (C := m.inputs.toNat) (rest := [B]) kT.len
          have q2 := fun B => g0_row (C := m.inputs.toNat) (N := m.next.length) (rest := [B]) (m := c1.tak) hs.1 (by rw [kT.len]; exact hs.2)
          have q3 := fun B r => g0_set (C := m.inputs.toNat) (N := m.next.length) (rest := [B]) (T := c1.tak) (r := r) hs.1 (by rw [kT.len]; exact hs.2)
          have hvl2 := visit_len (c := c1) (s := s)
          by_cases hlt : k < (ix ws i).length
          · have ha := hw.2 k k0 hlt
            have hnx := hm.nx s _ hs.1 hs.2 ha.1 ha.2
            have hax : max (ix (ix ws i) k) 0 = ix (ix ws i) k := by omega
            have eR := goV_ix (m := m) (s := s) (c := c1.visit s) k0 hlt
            rw [kR] at eR
            cases hvis : c1.vis.any (· == s) with
            | true =>
              rw [hvis] at hH
              have ev : c1.visit s = c1 := if_pos hvis
              rw [ev] at eR
              cases ht : ix (ix c1.tak s) (ix (ix ws i) k) with
              | true =>
                simp [-More_nor, -List.map_set, hk, hlt, k0, hi, i0, hv1, hH, hs.1, hs.2, ha.1, ha.2, hrl, hrow, hmx, hax, ↓p1, q1, q2, ht]
                rw [take_t ht] at eR
                refine ⟨by omega, More_of (k + 1, ix (ix m.next s) (ix (ix ws i) k), c1) (by simp) rfl ⟨by dsimp only; omega, hnx, kT, by dsimp only; omega, by dsimp only; omega, by rw [if_pos (by dsimp only; omega)]; exact eR.symm⟩ (by dsimp only; omega)⟩
              | false =>
                simp [-More_nor, -List.map_set, hk, hlt, k0, hi, i0, hv1, hH, hs.1, hs.2, ha.1, ha.2, hrl, hrow, hmx, hax, ↓p1, q1, q2, q3, ht]
                rw [take_f ht] at eR
                refine ⟨by omega, by omega, More_of (k + 1, ix (ix m.next s) (ix (ix ws i) k), { c1 with tak := mark c1.tak s (ix (ix ws i) k), n := c1.n + 1 }) (by simp) rfl ⟨by dsimp only; omega, hnx, mark_sh kT hs.1 hs.2, by dsimp only; omega, by dsimp only; omega, by rw [if_pos (by dsimp only; omega)]; exact eR.symm⟩ (by dsimp only; omega)⟩
            | false =>
              rw [hvis] at hH
              have ev : c1.visit s = { c1 with vis := c1.vis ++ [s] } := if_neg (by simp [hvis])
              rw [ev] at eR
              cases ht : ix (ix c1.tak s) (ix (ix ws i) k) with
              | true =>
                simp [-More_nor, -List.map_set, hk, hlt, k0, hi, i0, hv1, hH, b9, b8, hs.1, hs.2, ha.1, ha.2, hrl, hrow, hmx, hax, ↓p1, q1, q2, ht]
                rw [take_t (c := { c1 with vis := c1.vis ++ [s] }) ht] at eR
                refine ⟨by split <;> simp, by omega, by omega, More_of (k + 1, ix (ix m.next s) (ix (ix ws i) k), { c1 with vis := c1.vis ++ [s] }) (by simp) (by simp [lout]) ⟨by dsimp only; omega, hnx, kT, by dsimp only; omega, by simp; omega, by rw [if_pos (by dsimp only; omega)]; exact eR.symm⟩ (by dsimp only; omega)⟩
              | false =>
                simp [-More_nor, -List.map_set, hk, hlt, k0, hi, i0, hv1, hH, b9, b8, hs.1, hs.2, ha.1, ha.2, hrl, hrow, hmx, hax, ↓p1, q1, q2, q3, ht]
                rw [take_f (c := { c1 with vis := c1.vis ++ [s] }) ht] at eR
                refine ⟨by split <;> simp, by omega, by omega, by omega, More_of (k + 1, ix (ix m.next s) (ix (ix ws i) k), { c1 with vis := c1.vis ++ [s], tak := mark c1.tak s (ix (ix ws i) k), n := c1.n + 1 }) (by simp) (by simp [lout]; rfl) ⟨by dsimp only; omega, hnx, mark_sh kT hs.1 hs.2, by dsimp only; omega, by simp; omega, by rw [if_pos (by dsimp only; omega)]; exact eR.symm⟩ (by dsimp only; omega)⟩
          · have ek : k = (ix ws i).length := by omega
            rw [drop_end (by omega)] at kR
            have kR : c1.visit s = m.goV m.start (ix ws i) (c.visit m.start) := kR
            cases hvis : c1.vis.any (· == s) with
            | true =>
              rw [hvis] at hH
              have ev : c1.visit s = c1 := if_pos hvis
              rw [ev] at kR
              simp [-More_nor, -List.map_set, hk, hlt, k0, hi, i0, hv1, hH]
              refine ⟨by omega, More_of (k + 1, s, c1) (by simp) rfl ⟨by dsimp only; omega, hs, kT, by dsimp only; omega, by dsimp only; omega, by rw [if_neg (by dsimp only; omega)]; exact kR⟩ (by dsimp only; omega)⟩
            | false =>
              rw [hvis] at hH
              have ev : c1.visit s = { c1 with vis := c1.vis ++ [s] } := if_neg (by simp [hvis])
              rw [ev] at kR
              simp [-More_nor, -List.map_set, hk, hlt, k0, hi, i0, hv1, hH, b9, b8]
              refine ⟨by split <;> simp, by omega, by omega, More_of (k + 1, s, { c1 with vis := c1.vis ++ [s] }) (by simp) (by simp [lout]) ⟨by dsimp only; omega, hs, kT, by dsimp only; omega, by simp; omega, by rw [if_neg (by dsimp only; omega)]; exact kR⟩ (by dsimp only; omega)⟩
        · rw [if_neg hk] at kR
          have e : ix (ws.map iL) i = iL (ix ws i) := ix_map i0 hi
          simp [-More_nor, hk, hi, i0]
          refine ⟨by omega, More_of (i + 1, c1) (by simp) rfl ⟨by dsimp only; omega, kT, by dsimp only; omega, by dsimp only; omega, ?_⟩ (by dsimp only; omega)⟩
          dsimp only
          rw [kR, ← hR]; exact (cov_ix i0 hi).symm
      · rw [drop_end (by omega)] at hR
        have hR : c = m.cov0 ws := hR
        rw [← hR]
        simp [hi]
  · have : m.covE ws = (0, 0, m.validE) := by unfold Mly.covE; rw [if_pos hv]
    rw [this]
    simp [rmValid_s m h, hv]
end Ab
