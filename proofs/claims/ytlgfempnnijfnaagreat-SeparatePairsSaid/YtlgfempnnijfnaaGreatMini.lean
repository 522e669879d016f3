/- Blocks of a round are forgotten. Classes of states: what a round of the refinement yields. Condition: none. -/
import Derived.Test.YtlgfempnnijfnaaGreatAbL
import Derived.Test.YtlgfempnnijfnaaGreatGbf
set_option linter.all false
set_option maxRecDepth 100000
set_option maxHeartbeats 4000000
namespace Ab
def Lexd (m : Nat) (Q : Ex → St → Prop) : Ex → St → Prop := fun e s => match e with
  | .ret => Q .ret s
  | e => (s.vars.all (lowv m) = true ∧ lowB m m s.σ = true ∧ (match s.fl with | some _ => false | none => true) = true) ∧ Q e { s with σ := s.σ.take m }
theorem zWAK {L : CE} {c : IC} {vars : List AV} {fl : Option (Nat × AV)} {σ : List Blk} {Q : Ex → St → Prop} {m : Nat} (hm : σ.length = m) (h : WK L c vars fl σ (Lexd m Q)) : WK L (.lex c) vars fl σ Q := by
  subst hm
  rw [z9vZ]
  obtain ⟨n, e, s', h1, h2⟩ := WK_s h
  cases e with
  | ret => exact ⟨n, .ret, s', by simp only [exec, h1], h2⟩
  | nor =>
    obtain ⟨⟨q1, q2, q3⟩, q4⟩ := h2
    refine ⟨n, .nor, _, ?_, q4⟩
    simp only [exec, h1]
    rw [if_pos (by simp only [Bool.and_eq_true]; exact ⟨⟨q1, q2⟩, q3⟩)]
  | exit j =>
    obtain ⟨⟨q1, q2, q3⟩, q4⟩ := h2
    refine ⟨n, .exit j, _, ?_, q4⟩
    simp only [exec, h1]
    rw [if_pos (by simp only [Bool.and_eq_true]; exact ⟨⟨q1, q2⟩, q3⟩)]
variable {m : Nat} {Q : Ex → St → Prop} {vars : List AV} {σ : List Blk}
theorem zr9p {s : St} : Lexd m Q .ret s = Q .ret s := rfl
theorem zVe9 : Lexd m Q .nor ⟨vars, none, σ⟩ = ((vars.all (lowv m) = true ∧ lowB m m σ = true) ∧ Q .nor ⟨vars, none, σ.take m⟩) := by
  simp [Lexd]
theorem zRD6 {j : Nat} : Lexd m Q (.exit j) ⟨vars, none, σ⟩ = ((vars.all (lowv m) = true ∧ lowB m m σ = true) ∧ Q (.exit j) ⟨vars, none, σ.take m⟩) := by
  simp [Lexd]
theorem zWjh {n : Int} : lowv m (.int n) = true := rfl
theorem zxp3 {b : Bool} : lowv m (.bool b) = true := rfl
theorem znQq : lowv m .und = true := rfl
theorem zp0T : lowv m .snil = true := rfl
theorem zVWk {b : Bool} {l : List AV} : lowv m (.imm b l) = true := rfl
theorem za7G {x : AV} : lowv m (.pimm x) = true := rfl
theorem z0dR {b u o n : Nat} : lowv m (.sl b u o n) = decide (b < m) := rfl
theorem zWV0 {b u o : Nat} : lowv m (.ptr b u o) = decide (b < m) := rfl
theorem zLyZ {b : Nat} : lowv m (.mapr b) = decide (b < m) := rfl
theorem zIlZ {n : Nat} {l : List Blk} : lowB n 0 l = true := by unfold lowB; rfl
theorem z8ah {n k : Nat} {B : Blk} {l : List Blk} : lowB n (k + 1) (B :: l) = (B.cells.all (lowv n) && lowB n k l) := rfl
attribute [simp ↓] zr9p zVe9 zRD6
attribute [simp] zWjh zxp3 znQq zp0T zVWk za7G z0dR zWV0 zLyZ zIlZ z8ah
end Ab
namespace Ab
theorem za7X : ∀ {xs ys : List Int}, xs.length = ys.length → eqInts (xs.map .int) (ys.map .int) = some (decide (xs = ys))
  | [], [], _ => rfl
  | x :: xs, y :: ys, h => by
    have ih := za7X (xs := xs) (ys := ys) (by simpa using h)
    simp only [List.map_cons, eqInts, ih, List.cons.injEq]
    by_cases h1 : x = y <;> by_cases h2 : xs = ys <;> simp [h1, h2]
  | [], _ :: _, h => by simp at h
  | _ :: _, [], h => by simp at h
def sgM (i : Nat) : List (List Int) → List (AV × AV)
  | [] => []
  | k :: r => (.agg (k.map .int), .int (i : Int)) :: sgM (i + 1) r
theorem ziqL {k : List Int} : ∀ {es : List (List Int)} {i : Nat}, sgM i (es ++ [k]) = sgM i es ++ [(.agg (k.map .int), .int ((i + es.length : Nat) : Int))]
  | [], i => by simp [sgM]
  | e :: es, i => by
    simp only [List.cons_append, sgM, ziqL (es := es) (i := i + 1), List.length_cons]
    congr 5
    omega
theorem zjT7 : ∀ {es : List (List Int)} {i : Nat}, (sgM i es).length = es.length
  | [], _ => rfl
  | _ :: es, i => by simp [sgM, zjT7]
def sgI (k : List Int) (i : Nat) : List (List Int) → Option Nat
  | [] => none
  | e :: r => if k = e then some i else sgI k (i + 1) r
theorem zV0R {k : List Int} : ∀ {es : List (List Int)} {i : Nat}, (∀ e ∈ es, e.length = k.length) → findM (sgM i es) (.agg (k.map .int)) = some ((sgI k i es).map fun n => .int (n : Int))
  | [], _, _ => rfl
  | e :: es, i, h => by
    have hl := h e (by simp)
    simp only [sgM, findM, keyEq, za7X hl.symm, sgI]
    by_cases he : k = e
    · simp [he]
    · simp only [decide_eq_false he, if_neg he]
      exact zV0R fun e' he' => h e' (by simp [he'])
theorem kf_sg {k : List Int} (h : k.length = 128) : keyFits 130 (.agg (k.map .int)) = true := by
  show ((k.map AV.int).length == 128 && (eqInts (k.map .int) (k.map .int)).isSome) = true
  rw [za7X rfl]
  simp [h]
theorem pT_sg {k : List Int} {K : AV → Prop} {t : Tk K} (h : k.length = 128) : pT (k.map AV.int) 0 (some 128) K t = K (.agg (k.map .int)) := by
  show optK (if 0 + 128 ≤ (k.map AV.int).length then some (AV.agg (((k.map AV.int).drop 0).take 128)) else none) K = _
  rw [if_pos (by simp [h]), z2CC, List.drop_zero, List.take_of_length_le (by simp [h])]
def sgp (m : Mly) (c : List Int) (s : Int) (a : Nat) : List Int := ((ix m.out s).take a ++ List.replicate (64 - a) 0) ++ (((ix m.next s).take a).map (fun t => ix c t) ++ List.replicate (64 - a) 0)
def sgn (m : Mly) (c : List Int) (s : Int) : List Int := sgp m c s m.inputs.toNat
def rnd (m : Mly) (c : List Int) : Nat → List (List Int) × List Int
  | 0 => ([], [])
  | s + 1 => match sgI (sgn m c (s : Int)) 0 (rnd m c s).1 with
    | some n => ((rnd m c s).1, (rnd m c s).2 ++ [(n : Int)])
    | none => ((rnd m c s).1 ++ [sgn m c (s : Int)], (rnd m c s).2 ++ [((rnd m c s).1.length : Int)])
theorem zE7t {m : Mly} {c : List Int} : ∀ {s : Nat}, (rnd m c s).2.length = s ∧ (rnd m c s).1.length ≤ s
  | 0 => ⟨rfl, Nat.le_refl 0⟩
  | s + 1 => by
    have ih := zE7t (m := m) (c := c) (s := s)
    unfold rnd
    split <;> simp [ih.1] <;> omega
theorem zWFr {m : Mly} {c : List Int} {s : Int} {a : Nat} (h1 : (a : Int) ≤ (ix m.out s).length) (h2 : (a : Int) ≤ (ix m.next s).length) (h3 : a ≤ 64) : (sgp m c s a).length = 128 := by
  simp [sgp]; omega
theorem zWgt {m : Mly} {c : List Int} {s : Int} : sgp m c s 0 = List.replicate 128 0 := by
  unfold sgp
  simp only [List.take_zero, List.map_nil, List.nil_append, Nat.sub_zero, List.replicate_append_replicate]
theorem z0VR {m : Mly} {c : List Int} {s : Int} {a : Nat} (h1 : a < (ix m.out s).length) (h2 : a < (ix m.next s).length) (h3 : a < 64) : sgp m c s (a + 1) = ((sgp m c s a).set a (ix (ix m.out s) (a : Int))).set (64 + a) (ix c (ix (ix m.next s) (a : Int))) := by
  have e : ∀ (l : List Int) (v : Int), l.length = a → (l ++ List.replicate (64 - a) 0).set a v = l ++ [v] ++ List.replicate (64 - (a + 1)) 0 := fun l v hl => by
    rw [List.set_append, if_neg (by omega), hl, Nat.sub_self]
    obtain ⟨j, hj⟩ : ∃ j, 64 - a = j + 1 := ⟨63 - a, by omega⟩
    rw [hj, List.replicate_succ, List.set_cons_zero, show 64 - (a + 1) = j by omega]
    simp
  have l1 : ((ix m.out s).take a).length = a := by simp; omega
  have l2 : (((ix m.next s).take a).map fun t => ix c t).length = a := by simp; omega
  unfold sgp
  rw [List.set_append, if_pos (by simp; omega), e _ _ l1, List.set_append, if_neg (by simp; omega)]
  have l3 : ((ix m.out s).take a ++ [ix (ix m.out s) (a : Int)] ++ List.replicate (64 - (a + 1)) 0).length = 64 := by simp; omega
  rw [l3, show 64 + a - 64 = a by omega, e _ _ l2]
  congr 2
  · rw [List.take_add_one, List.getElem?_eq_getElem h1, zrZW h1]; rfl
  · rw [List.take_add_one, List.getElem?_eq_getElem h2, List.map_append, zrZW h2]; rfl
theorem z5aW {m : Mly} {c : List Int} (hm : m.Ok) : ∀ {s : Nat}, s ≤ m.next.length → ∀ e ∈ (rnd m c s).1, e.length = 128
  | 0, _, e, he => by simp [rnd] at he
  | s + 1, h, e, he => by
    have ih := z5aW hm (c := c) (s := s) (by omega)
    have hrow := hm.row (s : Int) (by omega) (by omega)
    have hin := hm.inputs
    have hg : (sgn m c (s : Int)).length = 128 := by unfold sgn; exact zWFr (by omega) (by omega) (by omega)
    unfold rnd at he
    split at he
    · exact ih e he
    · rcases List.mem_append.1 he with h' | h'
      · exact ih e h'
      · simp at h'; rw [h']; exact hg
theorem z2pO (m : Mly) (hm : m.Ok) (c : List Int) (hc : c.length = m.next.length) : L zgwP [m.av, iL c] [] = some (.tup [.sl 1 c.length 0 c.length, .int (rnd m c c.length).1.length], [⟨some 0, [], .map (sgM 0 (rnd m c c.length).1)⟩, ⟨none, (rnd m c c.length).2.map .int, .live⟩]) := by
  refine LX_eq (z6bA rfl ?_)
  have hin := hm.inputs
  have hsa := hm.states
  have hla := hm.len
  simp [-zJRc, -List.map_replicate]
  refine ⟨by omega, ?_⟩
  refine zv8C (fun s : Nat => [(2, .int s)]) (fun s => [⟨some 0, [], .map (sgM 0 (rnd m c s).1)⟩, ⟨none, ((rnd m c s).2 ++ List.replicate (c.length - s) 0).map .int, .live⟩]) (fun s => s ≤ c.length) (fun s => c.length - s) 0 (by simp [-List.map_replicate, sets, rnd, sgM]) (by omega) ?_
  intro s s1
  refine zWAK rfl ?_
  have hrl := zE7t (m := m) (c := c) (s := s)
  have hol : ((rnd m c s).2 ++ List.replicate (c.length - s) 0).length = c.length := by simp [hrl.1]; omega
  by_cases hs : s < c.length
  · have hrow := hm.row (s : Int) (by omega) (by omega)
    generalize hO : (rnd m c s).2 ++ List.replicate (c.length - s) 0 = O at *
    simp [-zJRc, -List.map_append, hs]
    refine zv8C (fun a : Nat => [(5, .int a)]) (fun a => [⟨some 0, [], .map (sgM 0 (rnd m c s).1)⟩, ⟨none, O.map .int, .live⟩, ⟨some 128, (sgp m c s a).map .int, .live⟩]) (fun a => (a : Int) ≤ m.inputs) (fun a => m.inputs.toNat - a) 0 (by rw [zWgt]; rfl) (by omega) ?_
    intro a a1
    refine zWAK rfl ?_
    by_cases ha : (a : Int) < m.inputs
    · have hsl : (sgp m c s a).length = 128 := zWFr (by omega) (by omega) (by omega)
      have hsu := z0VR (m := m) (c := c) (s := (s : Int)) (a := a) (by omega) (by omega) (by omega)
      have hnx := hm.nx (s : Int) (a : Int) (by omega) (by omega) (by omega) ha
      have hsn : (s : Int) < (m.next.length : Int) := by omega
      have hso : (s : Int) < (m.out.length : Int) := by omega
      have hcl : ix (ix m.next (s : Int)) (a : Int) < (c.length : Int) := by omega
      generalize sgp m c s a = X at *
      simp [-zJRc, -List.map_set, ha, hsn, hso, hrow.1, hrow.2, hsl, hnx.1, hcl]
      have e64 : ((64 : Int) + (a : Int)).toNat = 64 + a := by omega
      refine ⟨by omega, by omega, by omega, by omega, by omega, by omega, zGkM (a + 1) (by simp) (by simp [-List.map_set, hsu, e64]) (by omega) (by omega)⟩
    · have ea : a = m.inputs.toNat := by omega
      have hsg : sgp m c s a = sgn m c s := by rw [ea]; rfl
      have hgl : (sgn m c s).length = 128 := by unfold sgn; exact zWFr (by omega) (by omega) (by omega)
      rw [hsg]
      have hfd := zV0R (k := sgn m c (s : Int)) (es := (rnd m c s).1) (i := 0) (fun e he => by rw [hgl]; exact z5aW hm (by omega) e he)
      have hkf := kf_sg hgl
      have hpt := fun (K : AV → Prop) (t : Tk K) => pT_sg (k := sgn m c (s : Int)) (K := K) (t := t) hgl
      have hOl : O.length = c.length := hol
      have hOs : O = (rnd m c s).2 ++ List.replicate (c.length - s) 0 := hO.symm
      have hput : ∀ v : Int, O.set s v = (rnd m c s).2 ++ [v] ++ List.replicate (c.length - (s + 1)) 0 := fun v => by
        rw [hOs, List.set_append, if_neg (by omega), hrl.1, Nat.sub_self]
        obtain ⟨j, hj⟩ : ∃ j, c.length - s = j + 1 := ⟨c.length - s - 1, by omega⟩
        rw [hj, List.replicate_succ, List.set_cons_zero, show c.length - (s + 1) = j by omega]
        simp
      clear hO
      cases hI : sgI (sgn m c (s : Int)) 0 (rnd m c s).1 with
      | some n =>
        rw [hI] at hfd
        have h1 : (rnd m c (s + 1)).1 = (rnd m c s).1 := by show (match sgI (sgn m c (s : Int)) 0 (rnd m c s).1 with | some n => _ | none => _ : List (List Int) × List Int).1 = _; rw [hI]
        have h2 : (rnd m c (s + 1)).2 = (rnd m c s).2 ++ [(n : Int)] := by show (match sgI (sgn m c (s : Int)) 0 (rnd m c s).1 with | some n => _ | none => _ : List (List Int) × List Int).2 = _; rw [hI]
        generalize sgn m c (s : Int) = S at *
        simp [-zJRc, -List.map_set, ha, ↓hpt, hgl, hkf, hfd, hOl, hs]
        refine ⟨by omega, zGkM (s + 1) (by simp) (by simp [-List.map_set, h1, h2, hput, ziqL]) (by omega) (by omega)⟩
      | none =>
        rw [hI] at hfd
        have h1 : (rnd m c (s + 1)).1 = (rnd m c s).1 ++ [sgn m c (s : Int)] := by show (match sgI (sgn m c (s : Int)) 0 (rnd m c s).1 with | some n => _ | none => _ : List (List Int) × List Int).1 = _; rw [hI]
        have h2 : (rnd m c (s + 1)).2 = (rnd m c s).2 ++ [((rnd m c s).1.length : Int)] := by show (match sgI (sgn m c (s : Int)) 0 (rnd m c s).1 with | some n => _ | none => _ : List (List Int) × List Int).2 = _; rw [hI]
        generalize sgn m c (s : Int) = S at *
        simp [-zJRc, -List.map_set, ha, ↓hpt, hgl, hkf, hfd, hOl, hs, zjT7]
        refine ⟨by omega, zGkM (s + 1) (by simp) (by simp [-List.map_set, h1, h2, hput, ziqL]) (by omega) (by omega)⟩
  · have : s = c.length := by omega
    subst this
    have e : (rnd m c c.length).2 ++ List.replicate (c.length - c.length) 0 = (rnd m c c.length).2 := by simp
    rw [e]
    simp [zjT7]
def refn (m : Mly) : Nat → Nat → List Int → Int → List Int × Nat
  | 0, i, c, _ => (c, i)
  | f + 1, i, c, n => if ((rnd m c c.length).1.length : Int) = n then (c, i) else refn m f (i + 1) (rnd m c c.length).2 (rnd m c c.length).1.length
def mref (m : Mly) (k : Int) : List Int × Nat := refn m (min (max k 0) m.next.length).toNat 0 (List.replicate m.next.length 0) 1
def clsV (i n : Nat) (c : List Int) : AV := match i with
  | 0 => .sl 0 n 0 n
  | _ + 1 => iL c
theorem zwtI (m : Mly) (hm : m.Ok) (k : Int) : PC z8xK [m.av, .int k] = some (.tup [iL (mref m k).1, .int (mref m k).2]) := by
  refine zx72 (zbSV rfl ?_)
  have hsa := hm.states
  have hR : mref m k = refn m (min (max k 0) m.next.length).toNat 0 (List.replicate m.next.length 0) 1 := rfl
  have hK : min (max k 0) (m.next.length : Int) = ((min (max k 0) m.next.length).toNat : Nat) := by omega
  have hKn : (min (max k 0) (m.next.length : Int)).toNat ≤ m.next.length := by omega
  generalize mref m k = R at *
  generalize hKK : (min (max k 0) (m.next.length : Int)).toNat = K at *
  simp [-zJRc, -List.map_replicate, hK]
  refine ⟨by omega, ?_⟩
  have hz : List.replicate m.next.length (0 : Int) = List.replicate m.next.length 0 := rfl
  generalize hZ : List.replicate m.next.length (0 : Int) = Z at *
  have hZl : Z.length = m.next.length := by rw [← hZ]; simp
  refine zv8C (fun p : Nat × List Int × Int => [(3, .int p.1), (5, clsV p.1 m.next.length p.2.1), (7, .int p.2.2)]) (fun _ => [⟨none, Z.map .int, .live⟩]) (fun p => (p.1 ≤ K ∧ p.2.1.length = m.next.length ∧ (p.1 = 0 → p.2.1 = Z)) ∧ refn m (K - p.1) p.1 p.2.1 p.2.2 = R) (fun p => K - p.1) (0, Z, 1) (by simp [sets, clsV]) ⟨⟨by omega, hZl, fun _ => rfl⟩, by simpa using hR.symm⟩ ?_
  rintro ⟨i, c, n⟩ ⟨⟨i1, i2, i3⟩, i4⟩
  dsimp only at i1 i2 i3 i4 ⊢
  have hvw : view [⟨none, Z.map AV.int, .live⟩] false vd (clsV i m.next.length c) = some (iL c) := by
    cases i with
    | zero =>
      rw [i3 rfl]
      exact vd_iL (σ := [⟨none, Z.map .int, .live⟩]) (fr := false) (b := 0) (xs := Z) (n := m.next.length) (st := .live) rfl (by simp) hZl.symm
    | succ i => rfl
  by_cases hi : i < K
  · have hN := z2pO m hm c i2
    obtain ⟨j, hj⟩ : ∃ j, K - i = j + 1 := ⟨K - i - 1, by omega⟩
    rw [hj] at i4
    unfold refn at i4
    have hrl := zE7t (m := m) (c := c) (s := c.length)
    have hv2 := vd_iL (σ := [⟨some 0, [], .map (sgM 0 (rnd m c c.length).1)⟩, ⟨none, (rnd m c c.length).2.map .int, .live⟩]) (fr := true) (b := 1) (xs := (rnd m c c.length).2) (n := c.length) (st := .live) rfl (by simp) (by rw [hrl.1])
    by_cases hn : ((rnd m c c.length).1.length : Int) = n
    · rw [if_pos hn] at i4
      have hn' := eq_true hn
      subst i4
      simp [-zJRc, hi, hvw, hN, hv2, hn', mapO]
    · rw [if_neg hn] at i4
      have hn' := eq_false hn
      simp [-zJRc, hi, hvw, hN, hv2, hn', mapO]
      refine ⟨by omega, zGkM (i + 1, (rnd m c c.length).2, ((rnd m c c.length).1.length : Int)) (by simp [clsV]) rfl ⟨⟨by dsimp only; omega, by dsimp only; rw [hrl.1]; exact i2, by simp⟩, by dsimp only; rw [show K - (i + 1) = j by omega]; exact i4⟩ (by dsimp only; omega)⟩
  · have : i = K := by omega
    subst this
    rw [Nat.sub_self] at i4
    unfold refn at i4
    subst i4
    simp [hi, hK, hvw, mapO]
def prtA (m : Mly) (k : Int) : List Int × Int := if m.validE ≠ 0 then ([], m.validE) else ((mref m k).1, 0)
theorem zQKK (m : Mly) (h : m.fits) (k : Int) : PC zLOr [m.av, .int k] = some (.tup [iL (prtA m k).1, .int (prtA m k).2]) := by
  refine zx72 (z6IH rfl ?_)
  have hv := zo3u m h
  by_cases h0 : m.validE = 0
  · have e : prtA m k = ((mref m k).1, 0) := by unfold prtA; rw [if_neg (by simpa using h0)]
    rw [h0] at hv
    have hr := zwtI m (zaDP h0) k
    rw [e]
    simp [hv, hr]
  · have e : prtA m k = ([], m.validE) := by unfold prtA; rw [if_pos h0]
    rw [e]
    simp [hv, h0]
theorem zISF (m : Mly) (h : m.fits) : PC zmq6 [m.av] = some (.tup [iL (prtA m 128).1, .int (prtA m 128).2]) := by
  refine zx72 (zf9S rfl ?_)
  simp [zQKK m h 128]
end Ab
