/- Tables of truth values in memory. Two machines side by side: the first word with different outputs, by the program and by the document. Homing words: each round tells more states apart. First separating words, the characterization set and the identifiers, in plain terms. Condition: none. -/
import Derived.Test.YtlgfempnnijfnaaGreatGbf
import Derived.Test.YtlgfempnnijfnaaGreatMnlT
import Derived.Test.YtlgfempnnijfnaaGreatHomB
set_option linter.all false
set_option maxRecDepth 100000
set_option maxHeartbeats 4000000
namespace Ab
abbrev brow' (r : List Bool) : Blk := ⟨none, r.map .bool, .live⟩
def rfs (e k C : Nat) : List AV := (List.range k).map fun i => AV.sl (e + i) C 0 C
theorem z0JW {e k C : Nat} : (rfs e k C).length = k := by simp [rfs]
theorem zMzt {e C : Nat} : rfs e 0 C = [] := rfs.eq_1 e 0 C
theorem zxGn {e C : Nat} : rfs e 1 C = [.sl e C 0 C] := rfs.eq_1 e 1 C
attribute [simp] z0JW zMzt zxGn
def grid0 (C N : Nat) (m : List (List Bool)) (rest : List Blk) : List Blk := ⟨none, rfs 1 m.length C ++ List.replicate (N - m.length) .snil, .live⟩ :: (m.map brow' ++ rest)
theorem blkS : ∀ (σ : List Blk) (i : Nat), blk σ i = σ[i]?
  | [], i => by simp [blk]
  | x :: r, 0 => rfl
  | x :: r, i + 1 => by simp [blk, blkS r i]
theorem setBS : ∀ (σ : List Blk) (i : Nat) (B : Blk), setB σ i B = σ.set i B
  | [], i, B => by simp [setB]
  | x :: r, 0, B => rfl
  | x :: r, i + 1, B => by simp [setB, setBS r i]
section
variable {box : Blk} {C N : Nat} {m : List (List Bool)} {rest : List Blk}
theorem z1mV {s : Int} (h0 : 0 ≤ s) (h1 : s < m.length) : blk (grid0 C N m rest) (1 + s.toNat) = some (brow' (ix m s)) := by
  rw [blkS, grid0, show 1 + s.toNat = s.toNat + 1 by omega, List.getElem?_cons_succ, List.getElem?_append_left (by simp; omega), List.getElem?_map, ix_eq h0 h1]
  rfl
theorem ze42 : blk (grid0 C N m rest) 0 = some ⟨none, rfs 1 m.length C ++ List.replicate (N - m.length) .snil, .live⟩ := rfl
theorem z7wF {B : Blk} : grid0 C N m rest ++ [B] = grid0 C N m (rest ++ [B]) := by simp [grid0]
theorem zVOq : (grid0 C N m rest).length = 1 + m.length + rest.length := by simp [grid0]; omega
theorem zxGa {r : List Bool} (h : m.length < N) : setB (grid0 C N m [brow' r]) 0 ⟨none, (rfs 1 m.length C ++ List.replicate (N - m.length) AV.snil).set m.length (.sl (1 + m.length) C 0 C), .live⟩ = grid0 C N (m ++ [r]) [] := by
  rw [setBS]
  unfold grid0
  simp only [List.set_cons_zero, List.map_append, List.map_cons, List.map_nil, List.append_nil, List.length_append, List.length_cons, List.length_nil, Nat.zero_add]
  congr 2
  rw [List.set_append, if_neg (by simp), show N - m.length = (N - (m.length + 1)) + 1 by omega, List.replicate_succ]
  rw [show rfs 1 (m.length + 1) C = rfs 1 m.length C ++ [AV.sl (1 + m.length) C 0 C] by simp only [rfs, List.range_succ, List.map_append, List.map_cons, List.map_nil], List.append_assoc]
  simp
theorem zaNr {r : List Bool} (h : m.length < N) : setB (grid0 C N m [brow' r]) 0 ⟨none, rfs 1 m.length C ++ (List.replicate (N - m.length) AV.snil).set 0 (.sl (1 + m.length) C 0 C), .live⟩ = grid0 C N (m ++ [r]) [] := by
  have := zxGa (C := C) (r := r) h
  rwa [List.set_append, if_neg (by simp), show m.length - (rfs 1 m.length C).length = 0 by simp] at this
end
theorem znXv {e C k j : Nat} {s : Int} {K : AV → Prop} {t : Tk K} (h0 : 0 ≤ s) (h1 : s < k) : pT (rfs e k C ++ List.replicate j AV.snil) (0 + s.toNat * 1) none K t = K (.sl (e + s.toNat) C 0 C) := by
  unfold pT part
  rw [show 0 + s.toNat * 1 = s.toNat by omega]
  simp only [znyW, List.getElem?_append_left (show s.toNat < (rfs e k C).length by simp; omega)]
  simp only [rfs, List.getElem?_map, List.getElem?_range (show s.toNat < k by omega)]
  rfl
theorem zfx2 {e C k : Nat} {s : Int} {K : AV → Prop} {t : Tk K} (h0 : 0 ≤ s) (h1 : s < k) : pT (rfs e k C) (0 + s.toNat * 1) none K t = K (.sl (e + s.toNat) C 0 C) := by
  have := znXv (e := e) (C := C) (k := k) (j := 0) (K := K) (t := t) h0 h1
  rwa [List.replicate_zero, List.append_nil] at this
structure Sh (N C : Nat) (T : List (List Bool)) : Prop where
  len : T.length = N
  row : ∀ r ∈ T, r.length = C
theorem Sh.ix {N C : Nat} {T : List (List Bool)} (h : Sh N C T) {s : Int} (s0 : 0 ≤ s) (s1 : s < N) : (ix T s).length = C := h.row _ (zmAQ s0 (by have := h.len; omega))
section
variable {C N : Nat} {T : List (List Bool)} {rest : List Blk}
theorem zyIS (h : T.length = N) : blk (grid0 C N T rest) 0 = some ⟨none, rfs 1 N C, .live⟩ := by rw [ze42, h]; simp
theorem zMyx {s : Int} {r : List Bool} (h0 : 0 ≤ s) (h1 : s < T.length) : setB (grid0 C N T rest) (1 + s.toNat) ⟨none, r.map .bool, .live⟩ = grid0 C N (T.set s.toNat r) rest := by
  rw [setBS, grid0, grid0, show 1 + s.toNat = s.toNat + 1 by omega, List.set_cons_succ, List.set_append, if_pos (by simp; omega)]
  simp [List.map_set]
theorem zCnF {B : Blk} (h : T.length = N) : blk (grid0 C N T [B]) (1 + N) = some B := by
  subst h
  rw [blkS, grid0, show 1 + T.length = T.length + 1 by omega, List.getElem?_cons_succ, List.getElem?_append_right (by simp)]
  simp
theorem zQf4 {B B' : Blk} (h : T.length = N) : setB (grid0 C N T [B]) (1 + N) B' = grid0 C N T [B'] := by
  subst h
  rw [setBS, grid0, grid0, show 1 + T.length = T.length + 1 by omega, List.set_cons_succ, List.set_append, if_neg (by simp)]
  simp
end
end Ab
namespace Ab
abbrev P2 := Int × Int
def pnx (a b : Mly) (p : P2) (x : Int) : Option P2 := if ix (ix a.out p.1) x = ix (ix b.out p.2) x then some (ix (ix a.next p.1) x, ix (ix b.next p.2) x) else none
def pok (a b : Mly) (p : P2) : Prop := (0 ≤ p.1 ∧ p.1 < (a.next.length : Int)) ∧ (0 ≤ p.2 ∧ p.2 < (b.next.length : Int))
theorem pfin {n m : Nat} {l : List P2} (hn : l.Nodup) (h : ∀ p ∈ l, (0 ≤ p.1 ∧ p.1 < (n : Int)) ∧ (0 ≤ p.2 ∧ p.2 < (m : Int))) : l.length ≤ n * m := by
  have hd : (l.map fun p : P2 => p.1 * (m : Int) + p.2).Nodup := by
    rw [List.nodup_iff_pairwise_ne, List.pairwise_map]
    refine List.Pairwise.imp_of_mem ?_ hn
    intro a b ha hb hab e
    obtain ⟨_, h3, h4⟩ := h a ha
    obtain ⟨_, h7, h8⟩ := h b hb
    apply hab
    have hm : (0 : Int) < m := by omega
    have e1 : (a.1 * (m : Int) + a.2) / m = a.1 := by rw [Int.add_comm, Int.add_mul_ediv_right _ _ (by omega), Int.ediv_eq_zero_of_lt h3 h4]; omega
    have e2 : (b.1 * (m : Int) + b.2) / m = b.1 := by rw [Int.add_comm, Int.add_mul_ediv_right _ _ (by omega), Int.ediv_eq_zero_of_lt h7 h8]; omega
    have e3 : a.1 = b.1 := by rw [← e1, ← e2, e]
    rw [e3] at e
    exact Prod.ext e3 (by omega)
  have := zVv5 (n * m) hd (fun x hx => by
    obtain ⟨p, hp, rfl⟩ := List.mem_map.1 hx
    obtain ⟨⟨h1, h2⟩, h3, h4⟩ := h p hp
    have hmul : p.1 * (m : Int) ≤ ((n : Int) - 1) * m := Int.mul_le_mul_of_nonneg_right (by omega) (by omega)
    have h0 : 0 ≤ p.1 * (m : Int) := Int.mul_nonneg h1 (by omega)
    have e : ((n * m : Nat) : Int) = (n : Int) * m := Int.natCast_mul n m
    rw [Int.sub_mul, Int.one_mul] at hmul
    rw [e]
    omega)
  simpa using this
theorem pgr {a b : Mly} (ha : a.Ok) (hb : b.Ok) (hi : a.inputs = b.inputs) : GrOk (pnx a b) a.inputs (pok a b) (a.next.length * b.next.length) := by
  have hin := ha.inputs
  refine ⟨by omega, fun p x y hp x0 x1 hy => ?_, fun l hn hl => pfin hn hl⟩
  unfold pnx at hy
  split at hy
  · injection hy with hy
    subst hy
    exact ⟨ha.nx _ _ hp.1.1 hp.1.2 x0 x1, hb.nx _ _ hp.2.1 hp.2.2 x0 (by omega)⟩
  · simp at hy
def dist (a b : Mly) (s t : Int) : Option (List Int) := gfirst (pnx a b) a.inputs (a.next.length * b.next.length) (s, t)
theorem prun {a b : Mly} : ∀ {w : List Int} {s t : Int}, grun (pnx a b) (s, t) w = if a.outs s w = b.outs t w then some (a.run s w, b.run t w) else none
  | [], s, t => by simp [grun, Mly.outs, Mly.run]
  | x :: w, s, t => by
    simp only [grun, Mly.outs, Mly.run, pnx]
    by_cases h : ix (ix a.out s) x = ix (ix b.out t) x
    · rw [if_pos h, Option.bind_some, prun]
      simp [h]
    · rw [if_neg h]
      simp [h]
abbrev P3 := P2 × List Int
def qc (q : List P3) : List AV := q.flatMap fun p => [.int p.1.1, .int p.1.2, wB (true, p.2)]
theorem zJTe : ∀ {q : List P3}, (qc q).length = 3 * q.length
  | [] => rfl
  | p :: q => by
    have := zJTe (q := q)
    simp only [qc, List.flatMap_cons, List.length_append, List.length_cons, List.length_nil] at this ⊢; omega
theorem zk2i {q r : List P3} : qc (q ++ r) = qc q ++ qc r := by simp [qc]
theorem zxzI {p : P3} : qc [p] = [.int p.1.1, .int p.1.2, wB (true, p.2)] := by simp [qc]
theorem zvEQ : ∀ {q : List P3} {n : Nat}, n < q.length → (qc q).drop (n * 3) = .int (ix q (n : Int)).1.1 :: .int (ix q (n : Int)).1.2 :: wB (true, (ix q (n : Int)).2) :: (qc q).drop (n * 3 + 3)
  | p :: q, 0, _ => rfl
  | p :: q, n + 1, h => by
    have := zvEQ (q := q) (n := n) (by simpa using h)
    have e : ix (p :: q) ((n + 1 : Nat) : Int) = ix q (n : Int) := by simp [ix]
    rw [e, show (n + 1) * 3 = n * 3 + 1 + 1 + 1 by omega]
    exact this
section
variable {q : List P3} {n : Int} {K : AV → Prop} {t : Tk K}
theorem zBzL (h0 : 0 ≤ n) (h1 : n < q.length) : elm (qc q) (n.toNat * 3) = some (.int (ix q n).1.1) ∧ elm (qc q) (n.toNat * 3 + 1) = some (.int (ix q n).1.2) ∧ elm (qc q) (n.toNat * 3 + 2) = some (wB (true, (ix q n).2)) := by
  have := zvEQ (q := q) (n := n.toNat) (by omega)
  rw [show ((n.toNat : Nat) : Int) = n by omega] at this
  rw [znyW, znyW, znyW]
  have g : ∀ j, (qc q)[n.toNat * 3 + j]? = ((qc q).drop (n.toNat * 3))[j]? := fun j => by rw [List.getElem?_drop]
  have g0 := g 0
  rw [Nat.add_zero] at g0
  rw [g0, g 1, g 2, this]
  exact ⟨rfl, rfl, rfl⟩
theorem zcG6 (h0 : 0 ≤ n) (h1 : n < q.length) : pT (qc q) (0 + n.toNat * 3) (some 2) K t = K (.agg [.int (ix q n).1.1, .int (ix q n).1.2]) := by
  have := zvEQ (q := q) (n := n.toNat) (by omega)
  rw [show ((n.toNat : Nat) : Int) = n by omega] at this
  unfold pT part
  rw [Nat.zero_add]
  simp only
  rw [if_pos (by rw [zJTe]; omega), this]
  rfl
theorem zz0x (h0 : 0 ≤ n) (h1 : n < q.length) : pT (qc q) (0 + n.toNat * 3 + 0) (some 2) K t = K (.agg [.int (ix q n).1.1, .int (ix q n).1.2]) := zcG6 h0 h1
end
structure Sn2 (N C : Nat) (T : List (List Bool)) (q : List P3) : Prop where
  sh : Sh N C T
  ok : ∀ s t, 0 ≤ s → s < (N : Int) → 0 ≤ t → t < (C : Int) → ix (ix T s) t = hasG q (s, t)
theorem Sn2.add {N C : Nat} {T : List (List Bool)} {q : List P3} (h : Sn2 N C T q) {s t : Int} {w : List Int} (s0 : 0 ≤ s) (s1 : s < N) (t0 : 0 ≤ t) (t1 : t < C) : Sn2 N C (T.set s.toNat ((ix T s).set t.toNat true)) (q ++ [((s, t), w)]) := by
  have hl := h.sh.len
  refine ⟨⟨by rw [List.length_set]; exact hl, fun r hr => ?_⟩, fun u v u0 u1 v0 v1 => ?_⟩
  · rcases List.mem_or_eq_of_mem_set hr with hr | hr
    · exact h.sh.row r hr
    · rw [hr, List.length_set]; exact h.sh.ix s0 s1
  · have hg : hasG (q ++ [((s, t), w)]) (u, v) = (hasG q (u, v) || decide (s = u ∧ t = v)) := by
      unfold hasG
      rw [List.any_append]
      simp
    rw [zf2p u0 (by omega), hg, ← h.ok u v u0 u1 v0 v1]
    by_cases e : u = s
    · subst e
      have hr := h.sh.ix u0 u1
      rw [if_pos (by omega), zf2p v0 (by omega)]
      by_cases e2 : v = t
      · subst e2; rw [if_pos (by omega)]; simp
      · rw [if_neg (by omega)]
        simp
        intro e3; exact absurd e3.symm e2
    · rw [if_neg (by omega)]
      simp
      intro e2; exact absurd e2.symm e
theorem zRCS (p : Bool × List Int) : notUnd (wB p) = true := by
  rcases zzLk p with h | h
  · rw [h.1]; rfl
  · rw [h]; rfl
theorem zLXx {q : List P3} {i : Int} {t : P2} (i0 : 0 ≤ i) (i1 : i < q.length) (h : (ix q i).1 = t) : hasG q t = true := z6uL.2 (List.mem_map.2 ⟨_, zmAQ i0 i1, h⟩)
theorem zAqi (w : List Int) (a : Int) (h : w.length ≤ 100000) : PCx L zOq9 [.imm false [wB (true, w), .imm false [.int a]]] = some (iL (w ++ [a])) := by
  have := zy9E [(true, w), (false, [a])] (by simp) (by simp [cat]; omega)
  simp [cat] at this
  rw [← this]
  rfl
theorem zhE4 (w : List Int) (a : Int) (hl : (w.length : Int) ≤ 1000000) : PCx L zioN [wk (wB (true, w)), .int a] = some (iL (w ++ [a])) := by
  have e : wk (wB (true, w)) = iL w := by
    rcases zzLk (true, w) with ⟨h1, h2⟩ | h1
    · simp at h2; subst h2; rfl
    · rw [h1]; rfl
  rw [e]
  refine zx72 (zw18 rfl ?_)
  simp
  refine ⟨by omega, fun h => ?_, fun h => ⟨by omega, ?_⟩⟩
  · subst h; rfl
  · have := vd_iL (σ := [⟨none, (w ++ [a]).map .int, .live⟩]) (fr := false) (b := 0) (xs := w ++ [a]) (n := w.length + 1) (st := .live) rfl (by simp) (by simp)
    simp at this
    simp [this]
theorem zZ14 {q : List P3} {t : P2} {k : Nat} (h : k < q.length) : hasG (q.take (k + 1)) t = (hasG (q.take k) t || decide ((ix q (k : Int)).1 = t)) := by
  unfold hasG
  rw [List.take_add_one, List.getElem?_eq_getElem h, zrZW h, List.any_append]
  simp
theorem zkpq (a b : Mly) (ha : a.Ok) (hb : b.Ok) (hi : a.inputs = b.inputs) (s t : Int) (hs : 0 ≤ s ∧ s < (a.next.length : Int)) (ht : 0 ≤ t ∧ t < (b.next.length : Int)) : PC zgNs [a.av, b.av, .int s, .int t] = some (.tup [iL ((dist a b s t).getD []), .bool (dist a b s t).isSome]) := by
  refine zx72 (zzRm rfl ?_)
  have hG := pgr ha hb hi
  have hin := ha.inputs
  have hsa := ha.states
  have hsb := hb.states
  have hla := ha.len
  have hlb := hb.len
  have hD : gfirst (pnx a b) a.inputs (a.next.length * b.next.length) (s, t) = dist a b s t := rfl
  generalize dist a b s t = D at *
  have hNb : a.next.length * b.next.length ≤ 128 * 128 := Nat.mul_le_mul (by omega) (by omega)
  generalize a.next.length * b.next.length = N at *
  simp
  have ok0 : pok a b (s, t) := ⟨hs, ht⟩
  refine zv8C (fun p : Int × List P3 => [(4, .int p.1), (5, .sl 0 (3 * p.2.length) 0 p.2.length)]) (fun p => [⟨some 3, qc p.2, .live⟩])
    (fun p => p.1 ≤ p.2.length ∧ Gst (pnx a b) a.inputs (pok a b) N (s, t) p.1 0 p.2 ∧ Nof (pnx a b) a.inputs p.1 0 p.2)
    (fun p => (N + 1 - p.1).toNat) (0, [((s, t), [])]) (by simp [sets, zxzI, wB, catR]) ⟨by simp, Gst.init hG ok0, Nof.init⟩ ?_
  rintro ⟨i, q⟩ ⟨i1, hq, hn⟩
  dsimp only at i1 hq hn ⊢
  have i0 := hq.i0
  have hql := hq.gi.gq.le hG
  by_cases hi' : i < q.length
  · have hp := hq.gi.gq.rng _ (zmAQ i0 hi')
    simp [-zJRc, hi', i0]
    refine zv8C (fun p : Int × List P3 => [(5, .sl 0 (3 * p.2.length) 0 p.2.length), (6, .int p.1)]) (fun p => [⟨some 3, qc p.2, .live⟩])
      (fun p => (0 ≤ p.1 ∧ p.1 ≤ a.inputs) ∧ (i < p.2.length ∧ ix p.2 i = ix q i) ∧ Gst (pnx a b) a.inputs (pok a b) N (s, t) i p.1 p.2 ∧ Nof (pnx a b) a.inputs i p.1 p.2)
      (fun p => (a.inputs - p.1).toNat) (0, q) (by simp [sets]) ⟨by dsimp only; omega, ⟨hi', rfl⟩, hq, hn⟩ ?_
    rintro ⟨x, q'⟩ ⟨⟨x0, x1⟩, ⟨hiq, gx⟩, gq, gn⟩
    dsimp only at x0 x1 hiq gx gq gn ⊢
    have gql := gq.gi.gq.le hG
    by_cases hx : x < a.inputs
    · obtain ⟨⟨q1, q2⟩, q3, q4⟩ := hp
      have hra := ha.row _ q1 q2
      have hrb := hb.row _ q3 q4
      have hna := ha.nx _ x q1 q2 x0 hx
      have hnb := hb.nx _ x q3 q4 x0 (by omega)
      have hwl := gq.gi.gq.len i i0 hiq
      rw [gx] at hwl
      have hj := zhE4 (ix q i).2 x (by omega)
      have gel := zBzL i0 hiq
      rw [gx] at gel
      have hp1o : (ix q i).1.1 < (a.out.length : Int) := by omega
      have hp2o : (ix q i).1.2 < (b.out.length : Int) := by omega
      have hxb : x < b.inputs := by omega
      by_cases ho : ix (ix a.out (ix q i).1.1) x = ix (ix b.out (ix q i).1.2) x
      · have hx1 : pnx a b (ix q i).1 x = some (ix (ix a.next (ix q i).1.1) x, ix (ix b.next (ix q i).1.2) x) := by unfold pnx; rw [if_pos ho]
        have ho' : (ix (ix a.out (ix q i).1.1) x = ix (ix b.out (ix q i).1.2) x) = True := eq_true ho
        generalize hu : ix (ix a.next (ix q i).1.1) x = u at *
        generalize hv : ix (ix b.next (ix q i).1.2) x = v at *
        have hnof : Nof (pnx a b) a.inputs i (x + 1) q' := gn.step (by rw [gx, hx1]; simp)
        simp [-zJRc, hx, x0, q1, q2, q3, q4, hp1o, hp2o, hra.1, hra.2, hrb.1, hrb.2, hxb, ho', hu, hv, zJTe, gel, hiq, i0, zfYk, zZUT, hj]
        refine zv8C (fun k : Nat => [(10, .int k), (11, .bool (hasG (q'.take k) (u, v)))]) (fun _ => [⟨some 3, qc q', .live⟩]) (fun k => k ≤ q'.length) (fun k => q'.length - k) 0 (by simp [sets, hasG]) (by omega) ?_
        intro k hk
        by_cases hk' : k < q'.length
        · have ht := zZ14 (t := (u, v)) hk'
          have gk := zBzL (q := q') (n := (k : Int)) (by omega) (by omega)
          rw [Int.toNat_natCast] at gk
          generalize hasG (q'.take k) (u, v) = B at *
          cases B with
          | true =>
            simp [-zJRc, hk', zJTe, gk]
            exact ⟨by omega, zGkM (k + 1) (by simp [ht]) rfl (by omega) (by omega)⟩
          | false =>
            rw [Bool.false_or] at ht
            simp [-zJRc, hk', zJTe, gk]
            refine ⟨fun h1 => ⟨by omega, zGkM (k + 1) (by
              rw [ht]
              have e : (decide ((ix q' (k : Int)).1 = (u, v)) : Bool) = decide ((ix q' (k : Int)).1.2 = v) := by
                rw [decide_eq_decide, Prod.ext_iff]; simp [h1]
              simp [e]) rfl (by omega) (by omega)⟩, fun h1 => ⟨by omega, zGkM (k + 1) (by
              rw [ht]
              have e : (decide ((ix q' (k : Int)).1 = (u, v)) : Bool) = false := by
                rw [decide_eq_false_iff_not, Prod.ext_iff]; simp [h1]
              simp [e]) rfl (by omega) (by omega)⟩⟩
        · have ek : k = q'.length := by omega
          subst ek
          rw [List.take_length]
          cases hh : hasG q' (u, v) with
          | true =>
            have hst : Gst (pnx a b) a.inputs (pok a b) N (s, t) i (x + 1) q' := gq.stay hG hiq x0 hx (zoo4 (by rw [gx]; exact hx1) hh)
            simp [-zJRc]
            refine ⟨by omega, zGkM (x + 1, q') (by simp) rfl ⟨by dsimp only; omega, ⟨hiq, gx⟩, hst, hnof⟩ (by dsimp only; omega)⟩
          | false =>
            have hnew : Gst (pnx a b) a.inputs (pok a b) N (s, t) i (x + 1) (q' ++ [((u, v), (ix q i).2 ++ [x])]) := by
              have := gq.step hG hiq x0 hx
              rw [z18f (by rw [gx]; exact hx1) hh, gx] at this
              exact this
            have hk3 : (3 * q'.length = q'.length * kst (some 3)) = True := eq_true (by simp [kst]; omega)
            simp [-zJRc, zJTe, hk3]
            refine ⟨by omega, by omega, zGkM (x + 1, q' ++ [((u, v), (ix q i).2 ++ [x])]) (by simp [Nat.mul_add]) (by simp [zk2i, zxzI, wB, iL]) ⟨by dsimp only; omega, ⟨by simp; omega, by dsimp only; rw [zT8e i0 hiq, gx]⟩, hnew, hnof.app i0 hiq⟩ (by dsimp only; omega)⟩
      · have hx1 : pnx a b (ix q i).1 x = none := by unfold pnx; rw [if_neg ho]
        have hres := z2RY hG gq gn hiq x0 hx (by rw [gx]; exact hx1)
        rw [hD, gx] at hres
        subst hres
        simp [-zJRc, hx, x0, q1, q2, q3, q4, hp1o, hp2o, hra.1, hra.2, hrb.1, hrb.2, hxb, ho, zJTe, gel, hiq, i0, zfYk, zZUT, hj]
    · have hxi : x = a.inputs := by omega
      subst hxi
      simp [-zJRc, hx]
      refine ⟨by omega, zGkM (i + 1, q') (by simp) rfl ⟨by dsimp only; omega, gq.next hG hiq, gn.next⟩ (by dsimp only; omega)⟩
  · have hres := zjxQ hq hn hi'
    rw [hD] at hres
    subst hres
    simp [hi']
theorem zlpn (a b : Mly) (ha : a.Ok) (hb : b.Ok) (hi : a.inputs = b.inputs) (s t : Int) (hs : 0 ≤ s ∧ s < (a.next.length : Int)) (ht : 0 ≤ t ∧ t < (b.next.length : Int)) : PC zgfl [a.av, b.av, .agg [.int s, .int t]] = some (.tup [iL ((dist a b s t).getD []), .bool (dist a b s t).isSome]) := by
  refine zx72 (zFe0 rfl ?_)
  have hG := pgr ha hb hi
  have hin := ha.inputs
  have hsa := ha.states
  have hsb := hb.states
  have hla := ha.len
  have hlb := hb.len
  have hD : gfirst (pnx a b) a.inputs (a.next.length * b.next.length) (s, t) = dist a b s t := rfl
  generalize dist a b s t = D at *
  have hNb : a.next.length * b.next.length ≤ 128 * 128 := Nat.mul_le_mul (by omega) (by omega)
  generalize a.next.length * b.next.length = N at *
  simp [-List.map_replicate]
  refine ⟨by omega, ?_⟩
  refine zv8C (fun p : Nat => [(5, .int p)]) (fun p => grid0 b.next.length a.next.length (List.replicate p (List.replicate b.next.length false)) []) (fun p => p ≤ a.next.length) (fun p => a.next.length - p) 0 (by simp [sets, grid0]) (by simp) ?_
  intro k hk
  by_cases h : k < a.next.length
  · have e := zaNr (C := b.next.length) (N := a.next.length) (m := List.replicate k (List.replicate b.next.length false)) (r := List.replicate b.next.length false) (by simpa using h)
    simp [-zJRc, -List.map_replicate, -List.map_append, -List.map_set, h, z7wF, zVOq, ze42, -zD0v, ↓zd72]
    (repeat' apply And.intro) <;> try omega
    simp only [List.length_replicate] at e
    refine zGkM (k + 1) (by simp) (by rw [List.replicate_succ']; exact e) (by omega) (by omega)
  · have e : k = a.next.length := by omega
    subst e
    have hsn : Sn2 a.next.length b.next.length (List.replicate a.next.length (List.replicate b.next.length false)) ([] : List P3) := ⟨⟨by simp, fun r hr => by rw [List.eq_of_mem_replicate hr]; simp⟩, fun u v u0 u1 v0 v1 => by rw [zZfZ u0 u1, zZfZ v0 v1]; rfl⟩
    generalize List.replicate a.next.length (List.replicate b.next.length false) = T0 at *
    have hT0 := hsn.sh
    have hrl := hT0.ix hs.1 hs.2
    have hsn1 := hsn.add (w := []) hs.1 hs.2 ht.1 ht.2
    rw [List.nil_append] at hsn1
    have o1 := zyIS (C := b.next.length) (rest := []) hT0.len
    have r1 := z1mV (C := b.next.length) (N := a.next.length) (rest := []) (m := T0) hs.1 (by rw [hT0.len]; exact hs.2)
    have p1 := fun (K : AV → Prop) (t : Tk K) => zfx2 (e := 1) (C := b.next.length) (k := a.next.length) (K := K) (t := t) hs.1 hs.2
    have s1 := fun r => zMyx (C := b.next.length) (N := a.next.length) (rest := []) (T := T0) (r := r) hs.1 (by rw [hT0.len]; exact hs.2)
    have ln := hT0.len
    have htl : max t 0 < (b.next.length : Int) := by omega
    simp [-zJRc, -List.map_set, h, o1, r1, s1, hs.1, hs.2, ht.1, ht.2, ↓p1, hrl, z7wF, zVOq, ln, htl]
    have ok0 : pok a b (s, t) := ⟨hs, ht⟩
    refine zv8C (fun p : Int × List P3 × List (List Bool) => [(10, .int p.1), (11, .sl (1 + a.next.length) (3 * p.2.1.length) 0 p.2.1.length)]) (fun p => grid0 b.next.length a.next.length p.2.2 [⟨some 3, qc p.2.1, .live⟩])
      (fun p => p.1 ≤ p.2.1.length ∧ Gst (pnx a b) a.inputs (pok a b) N (s, t) p.1 0 p.2.1 ∧ Nof (pnx a b) a.inputs p.1 0 p.2.1 ∧ Sn2 a.next.length b.next.length p.2.2 p.2.1)
      (fun p => (N + 1 - p.1).toNat) (0, [((s, t), [])], T0.set s.toNat ((ix T0 s).set t.toNat true)) (by simp [sets, zxzI, wB, catR]) ⟨by simp, Gst.init hG ok0, Nof.init, hsn1⟩ ?_
    rintro ⟨i, q, T⟩ ⟨i1, hq, hn, hT⟩
    dsimp only at i1 hq hn hT ⊢
    have i0 := hq.i0
    have hql := hq.gi.gq.le hG
    by_cases hi' : i < q.length
    · have hp := hq.gi.gq.rng _ (zmAQ i0 hi')
      have b1 := zyIS (C := b.next.length) (rest := [⟨some 3, qc q, .live⟩]) hT.sh.len
      have b2 := zCnF (C := b.next.length) (B := ⟨some 3, qc q, .live⟩) hT.sh.len
      have p2 := fun (K : AV → Prop) (t : Tk K) => zcG6 (K := K) (t := t) i0 hi'
      have p2' := fun (K : AV → Prop) (t : Tk K) => zz0x (K := K) (t := t) i0 hi'
      simp [-zJRc, hi', i0, b2, zJTe, ↓p2, ↓p2']
      refine zv8C (fun p : Int × List P3 × List (List Bool) => [(11, .sl (1 + a.next.length) (3 * p.2.1.length) 0 p.2.1.length), (12, .int p.1)]) (fun p => grid0 b.next.length a.next.length p.2.2 [⟨some 3, qc p.2.1, .live⟩])
        (fun p => (0 ≤ p.1 ∧ p.1 ≤ a.inputs) ∧ (i < p.2.1.length ∧ ix p.2.1 i = ix q i) ∧ Gst (pnx a b) a.inputs (pok a b) N (s, t) i p.1 p.2.1 ∧ Nof (pnx a b) a.inputs i p.1 p.2.1 ∧ Sn2 a.next.length b.next.length p.2.2 p.2.1)
        (fun p => (a.inputs - p.1).toNat) (0, q, T) (by simp [sets]) ⟨by dsimp only; omega, ⟨hi', rfl⟩, hq, hn, hT⟩ ?_
      rintro ⟨x, q', T'⟩ ⟨⟨x0, x1⟩, ⟨hiq, gx⟩, gq, gn, gT⟩
      dsimp only at x0 x1 hiq gx gq gn gT ⊢
      have gql := gq.gi.gq.le hG
      by_cases hx : x < a.inputs
      · have hra := ha.row _ hp.1.1 hp.1.2
        have hrb := hb.row _ hp.2.1 hp.2.2
        have hna := ha.nx _ x hp.1.1 hp.1.2 x0 hx
        have hnb := hb.nx _ x hp.2.1 hp.2.2 x0 (by omega)
        have hwl := gq.gi.gq.len i i0 hiq
        rw [gx] at hwl
        have hj := zAqi (ix q i).2 x (by omega)
        have b1 := zyIS (C := b.next.length) (rest := [⟨some 3, qc q', .live⟩]) gT.sh.len
        have b2 := zCnF (C := b.next.length) (B := ⟨some 3, qc q', .live⟩) gT.sh.len
        have gel := zBzL i0 hiq
        rw [gx] at gel
        obtain ⟨⟨q1, q2⟩, q3, q4⟩ := hp
        have hp1o : (ix q i).1.1 < (a.out.length : Int) := by omega
        have hp2o : (ix q i).1.2 < (b.out.length : Int) := by omega
        have hxb : x < b.inputs := by omega
        by_cases ho : ix (ix a.out (ix q i).1.1) x = ix (ix b.out (ix q i).1.2) x
        · have hx1 : pnx a b (ix q i).1 x = some (ix (ix a.next (ix q i).1.1) x, ix (ix b.next (ix q i).1.2) x) := by unfold pnx; rw [if_pos ho]
          have ho' : (ix (ix a.out (ix q i).1.1) x = ix (ix b.out (ix q i).1.2) x) = True := eq_true ho
          generalize hu : ix (ix a.next (ix q i).1.1) x = u at *
          generalize hv : ix (ix b.next (ix q i).1.2) x = v at *
          have hstay : hasG q' (u, v) = true → Gst (pnx a b) a.inputs (pok a b) N (s, t) i (x + 1) q' := fun hh => gq.stay hG hiq x0 hx (zoo4 (by rw [gx]; exact hx1) hh)
          have hnof : Nof (pnx a b) a.inputs i (x + 1) q' := gn.step (by rw [gx, hx1]; simp)
          by_cases he : u = (ix q i).1.1 ∧ v = (ix q i).1.2
          · have h1 : (u = (ix q i).1.1) = True := eq_true he.1
            have h2 : (v = (ix q i).1.2) = True := eq_true he.2
            simp [-zJRc, hx, x0, q1, q2, q3, q4, hp1o, hp2o, hra.1, hra.2, hrb.1, hrb.2, hxb, ho', hu, hv, h1, h2]
            refine ⟨by omega, zGkM (x + 1, q', T') (by simp) rfl ⟨by dsimp only; omega, ⟨hiq, gx⟩, hstay (zLXx i0 hiq (by rw [gx]; exact Prod.ext he.1.symm he.2.symm)), hnof, gT⟩ (by dsimp only; omega)⟩
          · have h1 : (¬ u = (ix q i).1.1 ∨ ¬ v = (ix q i).1.2) = True := eq_true (by omega)
            have b3 := z1mV (C := b.next.length) (N := a.next.length) (rest := [⟨some 3, qc q', .live⟩]) (m := T') hna.1 (by rw [gT.sh.len]; exact hna.2)
            have p1 := fun (K : AV → Prop) (t : Tk K) => zfx2 (e := 1) (C := b.next.length) (k := a.next.length) (K := K) (t := t) hna.1 hna.2
            have hrl := gT.sh.ix hna.1 hna.2
            have hsee := gT.ok u v hna.1 hna.2 hnb.1 hnb.2
            have hvm : max v 0 < (b.next.length : Int) := by omega
            cases hh : hasG q' (u, v) with
            | true =>
              rw [hh] at hsee
              simp [-zJRc, hx, x0, q1, q2, q3, q4, hp1o, hp2o, hra.1, hra.2, hrb.1, hrb.2, hxb, ho', hu, hv, h1, hna.1, hna.2, hnb.1, hnb.2, b1, b3, ↓p1, hrl, hsee, hvm]
              refine ⟨⟨by omega, zGkM (x + 1, q', T') (by simp) rfl ⟨by dsimp only; omega, ⟨hiq, gx⟩, hstay hh, hnof, gT⟩ (by dsimp only; omega)⟩, fun e1 e2 => absurd ⟨e1, e2⟩ he⟩
            | false =>
              rw [hh] at hsee
              have hnew : Gst (pnx a b) a.inputs (pok a b) N (s, t) i (x + 1) (q' ++ [((u, v), (ix q i).2 ++ [x])]) := by
                have := gq.step hG hiq x0 hx
                rw [z18f (by rw [gx]; exact hx1) hh, gx] at this
                exact this
              have s1 := fun r => zMyx (C := b.next.length) (N := a.next.length) (rest := [⟨some 3, qc q', .live⟩]) (T := T') (r := r) hna.1 (by rw [gT.sh.len]; exact hna.2)
              have hsn2 := gT.add (w := (ix q i).2 ++ [x]) hna.1 hna.2 hnb.1 hnb.2
              have hsl := hsn2.sh.len
              have b4 := fun r => zCnF (C := b.next.length) (N := a.next.length) (T := T'.set u.toNat r) (B := ⟨some 3, qc q', .live⟩) (by rw [List.length_set]; exact gT.sh.len)
              have s2 := fun r B => zQf4 (C := b.next.length) (N := a.next.length) (T := T'.set u.toNat r) (B := ⟨some 3, qc q', .live⟩) (B' := B) (by rw [List.length_set]; exact gT.sh.len)
              have hk3 : (3 * q'.length = q'.length * kst (some 3)) = True := eq_true (by simp [kst]; omega)
              simp [-zJRc, -List.map_set, hx, x0, q1, q2, q3, q4, hp1o, hp2o, hra.1, hra.2, hrb.1, hrb.2, hxb, ho', hu, hv, h1, hna.1, hna.2, hnb.1, hnb.2, b1, b3, ↓p1, hrl, hsee, hvm, s1, b4, s2, zJTe, hk3, gel, hiq, hj, i0, zfYk, zZUT, zRCS]
              refine ⟨⟨by omega, by omega, zGkM (x + 1, q' ++ [((u, v), (ix q i).2 ++ [x])], T'.set u.toNat ((ix T' u).set v.toNat true)) (by simp [Nat.mul_add]) (by simp [-List.map_set, zk2i, zxzI, wB, iL]) ⟨by dsimp only; omega, ⟨by simp; omega, by dsimp only; rw [zT8e i0 hiq, gx]⟩, hnew, hnof.app i0 hiq, hsn2⟩ (by dsimp only; omega)⟩, fun e1 e2 => absurd ⟨e1, e2⟩ he⟩
        · have hx1 : pnx a b (ix q i).1 x = none := by unfold pnx; rw [if_neg ho]
          have hres := z2RY hG gq gn hiq x0 hx (by rw [gx]; exact hx1)
          rw [hD, gx] at hres
          subst hres
          simp [-zJRc, hx, x0, q1, q2, q3, q4, hp1o, hp2o, hra.1, hra.2, hrb.1, hrb.2, hxb, ho, b2, zJTe, gel, hiq, hj, i0, zfYk, zZUT, zRCS]
      · have hxi : x = a.inputs := by omega
        subst hxi
        simp [-zJRc]
        refine ⟨by omega, zGkM (i + 1, q', T') (by simp) rfl ⟨by dsimp only; omega, gq.next hG hiq, gn.next, gT⟩ (by dsimp only; omega)⟩
    · have hres := zjxQ hq hn hi'
      rw [hD] at hres
      subst hres
      simp [hi']
end Ab
namespace Ab
theorem z857 {α : Type} {p q : α → Bool} : ∀ {l : List α}, (∀ x ∈ l, p x = true → q x = true) → (l.filter p).length ≤ (l.filter q).length
  | [], _ => by simp
  | a :: l, h => by
    have ih := z857 (p := p) (q := q) (l := l) fun x hx => h x (by simp [hx])
    have ha := h a (by simp)
    cases hp : p a <;> cases hq : q a <;> simp [hp, hq] at ha ⊢ <;> omega
theorem zJ23 {α : Type} {p q : α → Bool} : ∀ {l : List α}, (∀ x ∈ l, p x = true → q x = true) → (∃ x ∈ l, p x = false ∧ q x = true) → (l.filter p).length < (l.filter q).length
  | [], _, h => by simp at h
  | a :: l, h, hx => by
    have h' : ∀ x ∈ l, p x = true → q x = true := fun x hx => h x (by simp [hx])
    have hle := z857 h'
    have ha := h a (by simp)
    obtain ⟨x, hx, h1, h2⟩ := hx
    rcases List.mem_cons.1 hx with rfl | hx
    · rw [List.filter_cons_of_neg (by simp [h1]), List.filter_cons_of_pos h2, List.length_cons]; omega
    · have ih := zJ23 h' ⟨x, hx, h1, h2⟩
      cases hp : p a <;> cases hq : q a <;> simp [hp, hq] at ha ⊢ <;> omega
def Mly.fst (m : Mly) (w : List Int) (s : Nat) : Bool := (List.range s).all fun (t : Nat) => decide (m.outs (t : Int) w ≠ m.outs (s : Int) w)
theorem zycA {m : Mly} {w : List Int} {s : Nat} : m.fst w s = true ↔ ∀ t : Nat, t < s → m.outs (t : Int) w ≠ m.outs (s : Int) w := by
  unfold Mly.fst
  simp [List.all_eq_true]
def Mly.cnt (m : Mly) (w : List Int) : Nat := ((List.range m.next.length).filter fun s => m.fst w s).length
theorem zSTg {m : Mly} {w : List Int} : m.cnt w ≤ m.next.length := by
  unfold Mly.cnt
  have := List.length_filter_le (fun s => m.fst w s) (List.range m.next.length)
  simpa using this
theorem zzpl {m : Mly} {w : List Int} (h : 0 < m.next.length) : 1 ≤ m.cnt w := by
  unfold Mly.cnt
  exact List.length_pos_iff.2 (List.ne_nil_of_mem (a := 0) (List.mem_filter.2 ⟨by simpa using h, zycA.2 fun t ht => by omega⟩))
theorem zQUd {m : Mly} {w : List Int} : ∀ {s : Nat}, ∃ f : Nat, f ≤ s ∧ m.fst w f = true ∧ m.outs (f : Int) w = m.outs (s : Int) w := by
  intro s
  induction s using Nat.strongRecOn with
  | ind s ih =>
    by_cases h : m.fst w s = true
    · exact ⟨s, Nat.le_refl s, h, rfl⟩
    · rw [zycA] at h
      obtain ⟨t, ht⟩ := Classical.not_forall.1 h
      obtain ⟨ht, e⟩ := Classical.not_imp.1 ht
      rw [Classical.not_not] at e
      obtain ⟨f, f1, f2, f3⟩ := ih t ht
      exact ⟨f, by omega, f2, by rw [f3, e]⟩
theorem zVtd {m : Mly} {w : List Int} {a b : Nat} (ha : m.fst w a = true) (hb : m.fst w b = true) (e : m.outs (a : Int) w = m.outs (b : Int) w) : a = b := by
  rw [zycA] at ha hb
  rcases Nat.lt_trichotomy a b with h | h | h
  · exact absurd e (hb a h)
  · exact h
  · exact absurd e.symm (ha b h)
theorem zSDW {m : Mly} {w v : List Int} {s t : Int} (h : m.outs s (w ++ v) = m.outs t (w ++ v)) : m.outs s w = m.outs t w := by
  rw [zcni, zcni] at h
  exact (List.append_inj h (by rw [zj8m, zj8m])).1
theorem z3M1 {m : Mly} {w v : List Int} {a b : Nat} (ha : a < m.next.length) (hb : b < m.next.length) (h1 : m.outs (a : Int) w = m.outs (b : Int) w) (h2 : m.outs (a : Int) (w ++ v) ≠ m.outs (b : Int) (w ++ v)) : m.cnt w < m.cnt (w ++ v) := by
  unfold Mly.cnt
  refine zJ23 (fun s _ hs => ?_) ?_
  · rw [zycA] at hs ⊢
    exact fun t ht e => hs t ht (zSDW e)
  · obtain ⟨f, f1, f2, f3⟩ := zQUd (m := m) (w := w) (s := a)
    obtain ⟨s, s1, s2, s3⟩ : ∃ s : Nat, s < m.next.length ∧ m.outs (s : Int) w = m.outs (f : Int) w ∧ m.outs (s : Int) (w ++ v) ≠ m.outs (f : Int) (w ++ v) := by
      by_cases e : m.outs (a : Int) (w ++ v) = m.outs (f : Int) (w ++ v)
      · exact ⟨b, hb, by rw [f3, h1], fun e' => h2 (by rw [e, e'])⟩
      · exact ⟨a, ha, f3.symm, e⟩
    obtain ⟨g, g1, g2, g3⟩ := zQUd (m := m) (w := w ++ v) (s := s)
    refine ⟨g, by simp; omega, ?_, g2⟩
    rw [Bool.eq_false_iff]
    intro hg
    have := zVtd hg f2 (by rw [zSDW g3, s2])
    subst this
    exact s3 g3.symm
theorem zV8B {a b : Mly} (ha : a.Ok) (hb : b.Ok) (hi : a.inputs = b.inputs) {s t : Int} (hs : 0 ≤ s ∧ s < (a.next.length : Int)) (ht : 0 ≤ t ∧ t < (b.next.length : Int)) {v : List Int} (h : dist a b s t = some v) : v.length ≤ a.next.length * b.next.length := by
  have hG := pgr ha hb hi
  have ok0 : pok a b (s, t) := ⟨hs, ht⟩
  have hf := zHpW hG ok0
  have hle := hf.gq.le hG
  unfold dist gfirst at h
  obtain ⟨x, hx, rfl⟩ := Option.map_eq_some_iff.1 h
  obtain ⟨p, hp, _, _, _, e⟩ := zj4u.1 (List.mem_of_mem_head? hx)
  obtain ⟨i, hi, rfl⟩ := List.mem_iff_getElem.1 hp
  have := hf.gq.len (i : Int) (by omega) (by omega)
  rw [zrZW hi] at this
  rw [e]
  simp
  omega
theorem zNv9 {a b : Mly} (ha : a.Ok) (hb : b.Ok) (hi : a.inputs = b.inputs) {s t : Int} (hs : 0 ≤ s ∧ s < (a.next.length : Int)) (ht : 0 ≤ t ∧ t < (b.next.length : Int)) {v : List Int} (h : dist a b s t = some v) : (∀ x ∈ v, 0 ≤ x ∧ x < a.inputs) ∧ a.outs s v ≠ b.outs t v := by
  have hG := pgr ha hb hi
  have ok0 : pok a b (s, t) := ⟨hs, ht⟩
  obtain ⟨⟨u, x, q, rfl, hw, hr, hn⟩, _⟩ := ziy8 hG ok0 h
  refine ⟨hw, fun e => ?_⟩
  have h1 : grun (pnx a b) (s, t) (u ++ [x]) = none := by rw [zURj, hr]; exact hn
  rw [prun, if_pos e] at h1
  simp at h1
theorem zZKv {m : Mly} (hm : Mnl m) {s t : Int} (hs : 0 ≤ s ∧ s < (m.next.length : Int)) (ht : 0 ≤ t ∧ t < (m.next.length : Int)) (hne : s ≠ t) : ∃ v, dist m m s t = some v := by
  have hG := pgr hm.ok hm.ok rfl
  have ok0 : pok m m (s, t) := ⟨hs, ht⟩
  cases h : dist m m s t with
  | some v => exact ⟨v, rfl⟩
  | none =>
    exfalso
    refine hne (hm.dif s t hs.1 hs.2 ht.1 ht.2 fun w hw => ?_)
    have := zwvp hG ok0 h w hw
    rw [prun] at this
    refine Classical.byContradiction fun hc => this ?_
    rw [if_neg hc]
theorem zAXa {m : Mly} (hm : m.Ok) {w : List Int} (hw : ∀ x ∈ w, 0 ≤ x ∧ x < m.inputs) (h : m.hop w ≠ []) : ((0 ≤ ix (m.hop w) 0 ∧ ix (m.hop w) 0 < (m.next.length : Int)) ∧ (0 ≤ ix (m.hop w) 1 ∧ ix (m.hop w) 1 < (m.next.length : Int)) ∧ ix (m.hop w) 0 ≠ ix (m.hop w) 1) ∧ 2 ≤ (m.hop w).length ∧ (m.hop w).length ≤ m.next.length ∧ ∃ a b : Nat, a < m.next.length ∧ b < m.next.length ∧ m.outs (a : Int) w = m.outs (b : Int) w ∧ m.run (a : Int) w = ix (m.hop w) 0 ∧ m.run (b : Int) w = ix (m.hop w) 1 := by
  have hG := zuPd m w
  unfold Mly.hop at h ⊢
  cases hf : (m.grps w).find? fun g => decide (1 < g.2.length) with
  | none => rw [hf] at h; exact absurd rfl h
  | some g =>
    have hg := List.mem_of_find?_eq_some hf
    have h1 := List.find?_some hf
    simp only [decide_eq_true_eq] at h1
    have hu := hG.up g hg
    have hmem := hG.mem g hg
    dsimp only
    have hcur := zhZV hm hw hg
    have hlen : g.2.length ≤ m.next.length := by
      rw [hcur]
      unfold Mly.cur
      rw [List.length_map]
      have := List.length_filter_le (fun (t : Nat) => (List.range m.next.length).any fun (s : Nat) => decide (m.outs (s : Int) w = g.1) && decide (m.run (s : Int) w = (t : Int))) (List.range m.next.length)
      simpa using this
    match hg2 : g.2, h1, hu, hmem, hlen with
    | x :: y :: r, _, hu, hmem, hlen =>
      obtain ⟨a, a1, a2, a3⟩ := (hmem x).1 (by simp)
      obtain ⟨b, b1, b2, b3⟩ := (hmem y).1 (by simp)
      have r1 := zwd6 hm (s := (a : Int)) ⟨by omega, by omega⟩ hw
      have r2 := zwd6 hm (s := (b : Int)) ⟨by omega, by omega⟩ hw
      have hxy := (List.pairwise_cons.1 hu).1 y (by simp)
      have e0 : ix (x :: y :: r) 0 = x := rfl
      have e1 : ix (x :: y :: r) 1 = y := rfl
      rw [e0, e1]
      exact ⟨⟨by omega, by omega, by omega⟩, by simp, hlen, a, b, a1, b1, by rw [a2, b2], a3, b3⟩
    | [_], h1, _, _, _ => simp at h1
    | [], h1, _, _, _ => simp at h1
def Mly.hwd (m : Mly) : Nat → List Int → List Int
  | 0, w => w
  | f + 1, w => if m.hop w = [] then w else m.hwd f (w ++ (dist m m (ix (m.hop w) 0) (ix (m.hop w) 1)).getD [])
theorem zMk5 {m : Mly} (hm : Mnl m) {w : List Int} (hw : ∀ x ∈ w, 0 ≤ x ∧ x < m.inputs) (h : m.hop w ≠ []) : ∃ v, dist m m (ix (m.hop w) 0) (ix (m.hop w) 1) = some v ∧ (∀ x ∈ w ++ v, 0 ≤ x ∧ x < m.inputs) ∧ v.length ≤ m.next.length * m.next.length ∧ m.cnt w < m.cnt (w ++ v) := by
  obtain ⟨⟨h1, h2, h3⟩, _, _, a, b, ha, hb, e1, e2, e3⟩ := zAXa hm.ok hw h
  obtain ⟨v, hv⟩ := zZKv hm h1 h2 h3
  obtain ⟨v1, v2⟩ := zNv9 hm.ok hm.ok rfl h1 h2 hv
  refine ⟨v, hv, fun x hx => ?_, zV8B hm.ok hm.ok rfl h1 h2 hv, z3M1 ha hb e1 fun e => ?_⟩
  · rcases List.mem_append.1 hx with hx | hx
    · exact hw x hx
    · exact v1 x hx
  · rw [zcni, zcni, e1] at e
    have := List.append_cancel_left e
    rw [e2, e3] at this
    exact v2 this
end Ab
namespace Ab
theorem zo5K {u v : List Int} : slxC u (u ++ v) ≤ 0 := by
  cases v with
  | nil => rw [List.append_nil]; exact Int.le_of_eq (zvz8.refl _)
  | cons x v => unfold slxC; rw [if_pos (by simp)]; omega
section
variable {a b : Mly} {s t : Int}
theorem zNOh (ha : a.Ok) (hb : b.Ok) (hi : a.inputs = b.inputs) (hs : 0 ≤ s ∧ s < (a.next.length : Int)) (ht : 0 ≤ t ∧ t < (b.next.length : Int)) {v w : List Int} (h : dist a b s t = some v) (hw : ∀ x ∈ w, 0 ≤ x ∧ x < a.inputs) (hd : a.outs s w ≠ b.outs t w) : slxC v w ≤ 0 := by
  have hG := pgr ha hb hi
  have ok0 : pok a b (s, t) := ⟨hs, ht⟩
  obtain ⟨_, hmin⟩ := ziy8 hG ok0 h
  have h1 : grun (pnx a b) (s, t) w = none := by rw [prun, if_neg hd]
  obtain ⟨u, x, r, p, rfl, h2, h3⟩ := zZpn h1
  have hx := hw x (by simp)
  have h4 := hmin u x p (fun y hy => hw y (by simp [hy])) hx.1 hx.2 h2 h3
  have e : u ++ x :: r = (u ++ [x]) ++ r := by simp
  rw [e]
  exact zvz8.trans _ _ _ h4 zo5K
theorem ztUS (ha : a.Ok) (hb : b.Ok) (hi : a.inputs = b.inputs) (hs : 0 ≤ s ∧ s < (a.next.length : Int)) (ht : 0 ≤ t ∧ t < (b.next.length : Int)) {w : List Int} (hw : ∀ x ∈ w, 0 ≤ x ∧ x < a.inputs) (hd : a.outs s w ≠ b.outs t w) : ∃ v, dist a b s t = some v := by
  have hG := pgr ha hb hi
  have ok0 : pok a b (s, t) := ⟨hs, ht⟩
  cases h : dist a b s t with
  | some v => exact ⟨v, rfl⟩
  | none =>
    have := zwvp hG ok0 h w hw
    rw [prun, if_neg hd] at this
    exact absurd rfl this
end
theorem zmIr {u v : List Int} (h : slxC u v ≤ 0) (k : slxC v u ≤ 0) : u = v := by
  refine zvz8.eq u v ?_
  have := zvz8.anti u v
  omega
theorem zn8Z {m : Mly} (hm : m.Ok) {s t : Int} (hs : 0 ≤ s ∧ s < (m.next.length : Int)) (ht : 0 ≤ t ∧ t < (m.next.length : Int)) : dist m m s t = dist m m t s := by
  cases h1 : dist m m s t with
  | none =>
    cases h2 : dist m m t s with
    | none => rfl
    | some v =>
      obtain ⟨d1, d2⟩ := zNv9 hm hm rfl ht hs h2
      obtain ⟨v', hv'⟩ := ztUS hm hm rfl hs ht d1 (Ne.symm d2)
      rw [h1] at hv'; simp at hv'
  | some v =>
    obtain ⟨d1, d2⟩ := zNv9 hm hm rfl hs ht h1
    obtain ⟨v', hv'⟩ := ztUS hm hm rfl ht hs d1 (Ne.symm d2)
    obtain ⟨e1, e2⟩ := zNv9 hm hm rfl ht hs hv'
    rw [hv', zmIr (zNOh hm hm rfl hs ht h1 e1 (Ne.symm e2)) (zNOh hm hm rfl ht hs hv' d1 (Ne.symm d2))]
def Mly.sw (m : Mly) (s t : Int) : List Int := (dist m m s t).getD []
theorem sw_ok {m : Mly} (hm : Mnl m) (h8 : m.next.length ≤ 8) {s t : Int} (hs : 0 ≤ s ∧ s < (m.next.length : Int)) (ht : 0 ≤ t ∧ t < (m.next.length : Int)) (hne : s ≠ t) : dist m m s t = some (m.sw s t) ∧ (∀ x ∈ m.sw s t, 0 ≤ x ∧ x < m.inputs) ∧ m.outs s (m.sw s t) ≠ m.outs t (m.sw s t) ∧ (m.sw s t).length ≤ 64 := by
  obtain ⟨v, hv⟩ := zZKv hm hs ht hne
  have e : m.sw s t = v := by unfold Mly.sw; rw [hv]; rfl
  obtain ⟨h1, h2⟩ := zNv9 hm.ok hm.ok rfl hs ht hv
  have h3 := zV8B hm.ok hm.ok rfl hs ht hv
  have h64 : m.next.length * m.next.length ≤ 64 := Nat.mul_le_mul h8 h8
  rw [e]
  exact ⟨hv, h1, h2, by omega⟩
theorem zjpS {m : Mly} (hm : m.Ok) {s t : Int} (hs : 0 ≤ s ∧ s < (m.next.length : Int)) (ht : 0 ≤ t ∧ t < (m.next.length : Int)) : m.sw s t = m.sw t s := by unfold Mly.sw; rw [zn8Z hm hs ht]
section
variable {α β : Type} [DecidableEq α] [DecidableEq β]
def fstF (f : Nat → α) (s : Nat) : Bool := (List.range s).all fun t => decide (f t ≠ f s)
theorem zoVB {f : Nat → α} {s : Nat} : fstF f s = true ↔ ∀ t : Nat, t < s → f t ≠ f s := by
  unfold fstF
  simp [List.all_eq_true]
def cntF (f : Nat → α) (n : Nat) : Nat := ((List.range n).filter fun s => fstF f s).length
theorem z38q {f : Nat → α} {n : Nat} : cntF f n ≤ n := by
  unfold cntF
  have := List.length_filter_le (fun s => fstF f s) (List.range n)
  simpa using this
theorem zReH {f : Nat → α} {n : Nat} (h : 0 < n) : 1 ≤ cntF f n := by
  unfold cntF
  exact List.length_pos_iff.2 (List.ne_nil_of_mem (a := 0) (List.mem_filter.2 ⟨by simpa using h, zoVB.2 fun t ht => by omega⟩))
theorem ziFR {f : Nat → α} : ∀ {s : Nat}, ∃ k : Nat, k ≤ s ∧ fstF f k = true ∧ f k = f s := by
  intro s
  induction s using Nat.strongRecOn with
  | ind s ih =>
    by_cases h : fstF f s = true
    · exact ⟨s, Nat.le_refl s, h, rfl⟩
    · rw [zoVB] at h
      obtain ⟨t, ht⟩ := Classical.not_forall.1 h
      obtain ⟨ht, e⟩ := Classical.not_imp.1 ht
      rw [Classical.not_not] at e
      obtain ⟨k, f1, f2, f3⟩ := ih t ht
      exact ⟨k, by omega, f2, by rw [f3, e]⟩
theorem zLlO {f : Nat → α} {a b : Nat} (ha : fstF f a = true) (hb : fstF f b = true) (e : f a = f b) : a = b := by
  rw [zoVB] at ha hb
  rcases Nat.lt_trichotomy a b with h | h | h
  · exact absurd e (hb a h)
  · exact h
  · exact absurd e.symm (ha b h)
theorem ziW4 {f : Nat → α} {g : Nat → β} {n a b : Nat} (hfg : ∀ s t, g s = g t → f s = f t) (ha : a < n) (hb : b < n) (h1 : f a = f b) (h2 : g a ≠ g b) : cntF f n < cntF g n := by
  unfold cntF
  refine zJ23 (fun s _ hs => ?_) ?_
  · rw [zoVB] at hs ⊢
    exact fun t ht e => hs t ht (hfg _ _ e)
  · obtain ⟨k, f1, f2, f3⟩ := ziFR (f := f) (s := a)
    obtain ⟨s, s1, s2, s3⟩ : ∃ s : Nat, s < n ∧ f s = f k ∧ g s ≠ g k := by
      by_cases e : g a = g k
      · exact ⟨b, hb, by rw [f3, h1], fun e' => h2 (by rw [e, e'])⟩
      · exact ⟨a, ha, f3.symm, e⟩
    obtain ⟨j, g1, g2, g3⟩ := ziFR (f := g) (s := s)
    refine ⟨j, by simp; omega, ?_, g2⟩
    rw [Bool.eq_false_iff]
    intro hg
    have := zLlO hg f2 (by rw [hfg _ _ g3, s2])
    subst this
    exact s3 g3.symm
end
def Mly.ows (m : Mly) (ws : List (List Int)) (s : Int) : List (List Int) := ws.map fun w => m.outs s w
def Mly.sep (m : Mly) (s t : Int) (ws : List (List Int)) : Bool := ws.any fun w => decide (m.outs s w ≠ m.outs t w)
theorem sep_t {m : Mly} {s t : Int} {ws : List (List Int)} : m.sep s t ws = true ↔ ∃ w ∈ ws, m.outs s w ≠ m.outs t w := by
  unfold Mly.sep; simp [List.any_eq_true]
theorem sep_f {m : Mly} {s t : Int} {ws : List (List Int)} : m.sep s t ws = false ↔ m.ows ws s = m.ows ws t := by
  unfold Mly.sep Mly.ows
  rw [List.map_inj_left, List.any_eq_false]
  simp
theorem zFrB {m : Mly} {s t : Int} {ws vs : List (List Int)} (h : ∀ w ∈ ws, w ∈ vs) (hs : m.sep s t ws = true) : m.sep s t vs = true := by
  rw [sep_t] at hs ⊢
  obtain ⟨w, h1, h2⟩ := hs
  exact ⟨w, h w h1, h2⟩
def Mly.chp (m : Mly) (s t : Int) (set : List (List Int)) : List (List Int) := if m.sep s t set = true then set else set ++ [m.sw s t]
def Mly.chr (m : Mly) (s : Nat) (set : List (List Int)) : Nat → List (List Int)
  | 0 => set
  | j + 1 => m.chp (s : Int) ((s + 1 + j : Nat) : Int) (m.chr s set j)
def Mly.chs (m : Mly) : Nat → List (List Int)
  | 0 => []
  | s + 1 => m.chr s (m.chs s) (m.next.length - (s + 1))
theorem zYZ8 {m : Mly} {s t : Int} {set : List (List Int)} : ∃ r, m.chp s t set = set ++ r := by
  unfold Mly.chp
  split
  · exact ⟨[], by simp⟩
  · exact ⟨_, rfl⟩
structure Swl (m : Mly) (ws : List (List Int)) : Prop where
  of : ∀ w ∈ ws, ∃ x y : Int, (0 ≤ x ∧ x < (m.next.length : Int)) ∧ (0 ≤ y ∧ y < (m.next.length : Int)) ∧ x ≠ y ∧ w = m.sw x y
  cnt : ws.length + 1 ≤ cntF (fun s : Nat => m.ows ws (s : Int)) m.next.length
theorem Swl.init {m : Mly} (hm : m.Ok) : Swl m [] := by
  have := hm.states
  exact ⟨by simp, zReH (by omega)⟩
theorem Swl.len {m : Mly} {ws : List (List Int)} (h : Swl m ws) : ws.length + 1 ≤ m.next.length := by
  have := h.cnt
  have := z38q (f := fun s : Nat => m.ows ws (s : Int)) (n := m.next.length)
  omega
theorem Swl.step {m : Mly} (hm : Mnl m) (h8 : m.next.length ≤ 8) {ws : List (List Int)} (h : Swl m ws) {s t : Nat} (hs : s < m.next.length) (ht : t < m.next.length) (hne : s ≠ t) : Swl m (m.chp (s : Int) (t : Int) ws) ∧ m.sep (s : Int) (t : Int) (m.chp (s : Int) (t : Int) ws) = true := by
  unfold Mly.chp
  split
  · rename_i hc
    exact ⟨h, hc⟩
  · rename_i hc
    have hf : m.sep (s : Int) (t : Int) ws = false := by simpa using hc
    obtain ⟨h1, h2, h3, h4⟩ := sw_ok hm h8 (s := (s : Int)) (t := (t : Int)) ⟨by omega, by omega⟩ ⟨by omega, by omega⟩ (by omega)
    refine ⟨⟨fun w hw => ?_, ?_⟩, sep_t.2 ⟨_, by simp, h3⟩⟩
    · rcases List.mem_append.1 hw with hw | hw
      · exact h.of w hw
      · simp at hw
        exact ⟨s, t, ⟨by omega, by omega⟩, ⟨by omega, by omega⟩, by omega, hw⟩
    · have hc := h.cnt
      generalize m.sw (s : Int) (t : Int) = v at h3
      have := ziW4 (f := fun x : Nat => m.ows ws (x : Int)) (g := fun x : Nat => m.ows (ws ++ [v]) (x : Int)) (n := m.next.length) (a := s) (b := t) (fun x y e => ?_) hs ht (sep_f.1 hf) (fun e => ?_)
      · rw [List.length_append]
        simp only [List.length_cons, List.length_nil]
        omega
      · dsimp only [Mly.ows] at e ⊢
        rw [List.map_append, List.map_append] at e
        exact (List.append_inj e (by simp)).1
      · dsimp only [Mly.ows] at e
        rw [List.map_append, List.map_append] at e
        have := (List.append_inj e (by simp)).2
        simp only [List.map_cons, List.map_nil, List.cons.injEq, and_true] at this
        exact h3 this
structure Chi (m : Mly) (s j : Nat) (ws : List (List Int)) : Prop where
  ok : Swl m ws
  all : ∀ x y : Nat, x < y → y < m.next.length → (x < s ∨ x = s ∧ y < s + 1 + j) → m.sep (x : Int) (y : Int) ws = true
theorem Chi.step {m : Mly} (hm : Mnl m) (h8 : m.next.length ≤ 8) {s j : Nat} {ws : List (List Int)} (h : Chi m s j ws) (hs : s + 1 + j < m.next.length) : Chi m s (j + 1) (m.chp (s : Int) ((s + 1 + j : Nat) : Int) ws) := by
  obtain ⟨h1, h2⟩ := h.ok.step hm h8 (s := s) (t := s + 1 + j) (by omega) hs (by omega)
  refine ⟨h1, fun x y hxy hy hd => ?_⟩
  by_cases e : x = s ∧ y = s + 1 + j
  · obtain ⟨rfl, rfl⟩ := e; exact h2
  · obtain ⟨r, hr⟩ := zYZ8 (m := m) (s := (s : Int)) (t := ((s + 1 + j : Nat) : Int)) (set := ws)
    rw [hr]
    exact zFrB (fun w hw => by simp [hw]) (h.all x y hxy hy (by omega))
theorem Chi.row {m : Mly} (hm : Mnl m) (h8 : m.next.length ≤ 8) {s : Nat} {ws : List (List Int)} (h : Chi m s 0 ws) : ∀ j : Nat, s + 1 + j ≤ m.next.length → Chi m s j (m.chr s ws j)
  | 0, _ => h
  | j + 1, hj => (Chi.row hm h8 h j (by omega)).step hm h8 (by omega)
theorem Chi.next {m : Mly} {s j : Nat} {ws : List (List Int)} (h : Chi m s j ws) (hj : m.next.length ≤ s + 1 + j) : Chi m (s + 1) 0 ws := ⟨h.ok, fun x y hxy hy hd => h.all x y hxy hy (by omega)⟩
theorem zSAn {m : Mly} (hm : Mnl m) (h8 : m.next.length ≤ 8) : ∀ s : Nat, s ≤ m.next.length → Chi m s 0 (m.chs s)
  | 0, _ => ⟨Swl.init hm.ok, fun x y hxy hy hd => by omega⟩
  | s + 1, hs => (Chi.row hm h8 (zSAn hm h8 s (by omega)) (m.next.length - (s + 1)) (by omega)).next (by omega)
def Mly.idn (m : Mly) (s : Nat) (b : Nat) : List (List Int) := ((List.range b).filter fun t => decide (t ≠ s)).map fun t : Nat => m.sw (s : Int) (t : Int)
theorem zvCe {m : Mly} {s : Nat} : m.idn s 0 = [] := rfl
theorem zhvs {m : Mly} {s b : Nat} : m.idn s (b + 1) = m.idn s b ++ if b = s then [] else [m.sw (s : Int) (b : Int)] := by
  unfold Mly.idn
  rw [List.range_succ, List.filter_append, List.map_append]
  congr 1
  by_cases h : b = s
  · simp [h]
  · simp [h]
theorem z2DI {m : Mly} {s b : Nat} {w : List Int} : w ∈ m.idn s b ↔ ∃ t : Nat, t < b ∧ t ≠ s ∧ w = m.sw (s : Int) (t : Int) := by
  unfold Mly.idn
  simp only [List.mem_map, List.mem_filter, List.mem_range, decide_eq_true_eq]
  constructor
  · rintro ⟨t, ⟨h1, h2⟩, rfl⟩; exact ⟨t, h1, h2, rfl⟩
  · rintro ⟨t, h1, h2, rfl⟩; exact ⟨t, ⟨h1, h2⟩, rfl⟩
theorem zZDR {m : Mly} {s : Nat} : ∀ {b : Nat}, (m.idn s b).length = if s < b then b - 1 else b
  | 0 => rfl
  | b + 1 => by
    rw [zhvs, List.length_append, zZDR]
    by_cases h : b = s
    · subst h; simp
    · rw [if_neg h]
      simp only [List.length_cons, List.length_nil]
      split <;> split <;> omega
theorem zTVQ {l : List (List Int)} : (sortU l).length ≤ l.length := by
  show (compW (sortG slxC l)).length ≤ _
  have := zftd (sortG slxC l)
  rw [zAE3] at this
  exact this
end Ab
