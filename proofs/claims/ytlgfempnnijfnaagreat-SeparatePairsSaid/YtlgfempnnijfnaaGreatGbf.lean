/- Functions on words that many layers use. Lists in memory, places, tables: what needs no cover. The order of the reachable states: each after those with smaller words; all are there. A search through a graph whose moves may fail: the places, each with its first word. Condition: none. -/
import Derived.Test.YtlgfempnnijfnaaGreatBfs
set_option linter.all false
set_option maxRecDepth 100000
set_option maxHeartbeats 4000000
namespace Ab
def wB (p : Bool × List Int) : AV := if p.1 = true ∧ p.2 = [] then .snil else iL p.2
theorem zzLk (p : Bool × List Int) : wB p = .snil ∧ p.2 = [] ∨ wB p = iL p.2 := by
  unfold wB
  split
  · rename_i h; exact .inl ⟨rfl, h.2⟩
  · exact .inr rfl
theorem zfYk (p : Bool × List Int) : noLoc (wB p) = true := by
  rcases zzLk p with h | h
  · rw [h.1]; rfl
  · rw [h]; rfl
theorem zZUT (p : Bool × List Int) : (wB p).cells = [wB p] := by
  rcases zzLk p with h | h
  · rw [h.1]
  · rw [h]
theorem zbCq {k n : Nat} {z : Int} : shL k (List.replicate n (.int z)) = List.replicate n (.int z) := by
  induction n with
  | zero => rfl
  | succ n ih => simp only [List.replicate_succ, shL, shV, ih]
theorem znr9 (n : Nat) (h : 0 < n) (hb : (n : Int) ≤ 1073741824) : L zpmf [.snil, .int n] [] = some (.sl 0 n 0 0, [⟨none, List.replicate n (.int 0), .live⟩]) := by
  refine z4dP (N := 0) ?_
  simp only [pGrow]
  rw [if_neg (by simp; omega), if_pos ⟨by omega, by rw [show (big : Int) = 1073741824 from rfl]; exact hb⟩]
  simp
theorem z3iJ : L zpmf [.snil, .int 0] [] = some (.snil, []) := z4dP (N := 0) rfl
def cat (ps : List (Bool × List Int)) : List Int := ps.flatMap (·.2)
theorem ziAJ {ps : List (Bool × List Int)} {i : Int} (h0 : 0 ≤ i) (h1 : i < ps.length) : cat (ps.take (i + 1).toNat) = cat (ps.take i.toNat) ++ (ix ps i).2 := by
  have e : ps.take (i + 1).toNat = ps.take i.toNat ++ [ix ps i] := by
    rw [show (i + 1).toNat = i.toNat + 1 by omega, List.take_add_one, ix_eq h0 h1]
    rfl
  rw [e]; simp [cat]
theorem zF2q {ps : List (Bool × List Int)} (i : Nat) : (cat (ps.take i)).length ≤ (cat ps).length := by
  have : cat ps = cat (ps.take i) ++ cat (ps.drop i) := by
    unfold cat; rw [← List.flatMap_append, List.take_append_drop]
  rw [this]; simp
theorem zMHp {a b : List Int} {n : Nat} (h : a.length + b.length ≤ n) : putAt (a.map .int ++ List.replicate (n - a.length) (.int 0)) a.length (b.map .int) = (a ++ b).map .int ++ List.replicate (n - (a.length + b.length)) (.int 0) := by
  unfold putAt
  rw [List.take_left' (by simp), List.drop_append, List.drop_of_length_le (by simp)]
  simp
  omega
theorem zeyr : ∀ {n : Nat} {cs : List AV}, cs.length ≤ n → chunk none n cs = cs
  | 0, cs, h => by
    have : cs = [] := List.eq_nil_of_length_eq_zero (by omega)
    subst this; rfl
  | n + 1, [], h => rfl
  | n + 1, c :: cs, h => by simp only [chunk]; rw [zeyr (by simpa using h)]
theorem zwdp {α : Type} {f g : α → AV} {v : AV → Option AV} : ∀ {xs : List α}, (∀ x ∈ xs, v (f x) = some (g x)) → mapO v (xs.map f) = some (xs.map g)
  | [], _ => rfl
  | x :: xs, h => by
    have e := zwdp (f := f) (g := g) (v := v) (xs := xs) fun y hy => h y (by simp [hy])
    simp only [List.map_cons, mapO, h x (by simp), e]
theorem zxF7 {α : Type} {f g : α → AV} {σ : List Blk} {fr : Bool} {b k n : Nat} {xs : List α} {st : BSt} (h : blk σ b = some ⟨none, xs.map f, st⟩) (hs : st.isArr = true) (hn : n = xs.length) (hf : ∀ x ∈ xs, view σ fr k (f x) = some (g x)) :
    view σ fr (k + 1) (.sl b n 0 n) = some (.imm false (xs.map g)) := by
  subst hn
  have hu : upto σ b xs.length = some ⟨none, xs.map f, st⟩ := by
    unfold upto
    rw [h]
    cases st <;> simp at hs ⊢
  unfold view
  simp only [hu, kst, List.length_map, List.drop_zero, Nat.zero_add, Nat.mul_one, Nat.le_refl, if_true]
  rw [zeyr (by simp), zwdp hf]
theorem vd_iL {σ : List Blk} {fr : Bool} {b n : Nat} {xs : List Int} {st : BSt} (h : blk σ b = some ⟨none, xs.map .int, st⟩) (hs : st.isArr = true) (hn : n = xs.length) : view σ fr vd (.sl b n 0 n) = some (iL xs) := zxF7 (k := 11) h hs hn fun _ _ => rfl
theorem zFqr (ps : List (Bool × List Int)) (hp : (ps.length : Int) ≤ 1000000) (h : ((cat ps).length : Int) ≤ 1000000) : PC zxg8 [.imm false (ps.map wB)] = some (iL (cat ps)) := by
  refine zx72 (zA3Q rfl ?_)
  simp
  refine zv8C (fun i : Int => [(1, .int i), (4, .int ((cat (ps.take i.toNat)).length : Int))]) (fun _ => []) (fun i => 0 ≤ i ∧ i ≤ ps.length) (fun i => (ps.length - i).toNat) 0 rfl (by simp) fun i ⟨i0, i1⟩ => ?_
  by_cases hi : i < ps.length
  · have e := ziAJ i0 hi
    have l1 := zF2q (ps := ps) i.toNat
    have l2 := zF2q (ps := ps) (i + 1).toNat
    rw [e] at l2
    simp at l2
    rcases zzLk (ix ps i) with ⟨h1, h2⟩ | h1
    · simp [-zJRc, hi, i0, h1]
      refine ⟨by omega, by omega, zGkM (i + 1) (by simp [e, h2]) rfl ⟨by omega, by omega⟩ (by omega)⟩
    · simp [-zJRc, hi, i0, h1]
      refine ⟨by omega, by omega, fun _ => ⟨by omega, zGkM (i + 1) (by simp [e]) rfl ⟨by omega, by omega⟩ (by omega)⟩⟩
  · have hit : ps.take i.toNat = ps := List.take_of_length_le (by omega)
    rw [hit]
    by_cases hz : (cat ps).length = 0
    · have hc : cat ps = [] := List.eq_nil_of_length_eq_zero hz
      simp [-zJRc, hi, hc, z3iJ, shV]
      refine zv8C (fun i : Int => [(6, .int i)]) (fun _ => []) (fun i => 0 ≤ i ∧ i ≤ ps.length) (fun i => (ps.length - i).toNat) 0 rfl (by simp) fun j ⟨j0, j1⟩ => ?_
      by_cases hj : j < ps.length
      · have hix : (ix ps j).2 = [] := by
          have := ziAJ j0 hj
          have l2 := zF2q (ps := ps) (j + 1).toNat
          rw [this] at l2
          simp at l2
          exact List.eq_nil_of_length_eq_zero (by omega)
        rcases zzLk (ix ps j) with ⟨h1, h2⟩ | h1
        · simp [hj, j0, h1]; omega
        · rw [hix] at h1
          simp [hj, j0, h1]; omega
      · simp [hj]
    · have hg := znr9 (cat ps).length (by omega) (by omega)
      simp [-zJRc, -List.map_replicate, hi, hg, shV, shB, zbCq]
      refine zv8C (fun i : Int => [(6, .int i), (9, .sl 0 (cat ps).length 0 (cat (ps.take i.toNat)).length)]) (fun i => [⟨none, (cat (ps.take i.toNat)).map .int ++ List.replicate ((cat ps).length - (cat (ps.take i.toNat)).length) (.int 0), .live⟩]) (fun i => 0 ≤ i ∧ i ≤ ps.length) (fun i => (ps.length - i).toNat) 0 (by simp [sets, cat]) (by simp) fun j ⟨j0, j1⟩ => ?_
      by_cases hj : j < ps.length
      · have e := ziAJ j0 hj
        have l1 := zF2q (ps := ps) j.toNat
        have l2 := zF2q (ps := ps) (j + 1).toNat
        rw [e] at l2
        simp at l2
        have hp := zMHp (a := cat (ps.take j.toNat)) (b := (ix ps j).2) (n := (cat ps).length) l2
        have done : (ix ps j).2 = [] → cat (ps.take (j + 1).toNat) = cat (ps.take j.toNat) := fun h => by rw [e, h]; simp
        rcases zzLk (ix ps j) with ⟨h1, h2⟩ | h1
        · simp [-zJRc, -List.map_replicate, hj, j0, h1]
          refine ⟨by omega, by omega, by omega, zGkM (j + 1) (by simp [done h2]) (by simp only [done h2]) ⟨by omega, by omega⟩ (by omega)⟩
        · by_cases hn : (ix ps j).2 = []
          · rw [hn] at h1
            simp [-zJRc, -List.map_replicate, hj, j0, h1]
            refine ⟨by omega, by omega, by omega, zGkM (j + 1) (by simp [done hn]) (by simp only [done hn]) ⟨by omega, by omega⟩ (by omega)⟩
          · have hnl : 0 < (ix ps j).2.length := List.length_pos_iff.2 hn
            simp [-zJRc, -List.map_replicate, hj, j0, h1, hn]
            refine ⟨by omega, by omega, fun hc => by omega, fun _ => ⟨by omega, by omega, zGkM (j + 1) (by simp [e]) (by simp only [e, List.length_append]; rw [← hp]) ⟨by omega, by omega⟩ (by omega)⟩⟩
      · have hjt : ps.take j.toNat = ps := List.take_of_length_le (by omega)
        rw [hjt]
        have hv := vd_iL (σ := [⟨none, (cat ps).map .int, .live⟩]) (fr := false) (b := 0) (xs := cat ps) (st := .live) rfl (by simp) rfl
        simp [hj, hv]
theorem zy9E (ps : List (Bool × List Int)) (hp : (ps.length : Int) ≤ 1000000) (h : ((cat ps).length : Int) ≤ 1000000) : PC zOq9 [.imm false (ps.map wB)] = some (iL (cat ps)) := by
  refine zx72 (z1V4 rfl ?_)
  have e := zFqr ps hp h
  have hl : noLocs (ps.map wB) = true := by
    clear e hp h
    induction ps with
    | nil => rfl
    | cons a r ih => simp only [List.map_cons, noLocs, zfYk, Bool.true_and]; exact ih
  simp [hl, e]
theorem zd72 {cs : List AV} {o : Nat} {x : AV} {K : List AV → Prop} {t : Tk K} : pU cs o [x] K t = (o < cs.length ∧ K (cs.set o x)) := by
  have e := zgTl (f := id) (xs := cs) (o := o) (y := x) (K := K) (t := t)
  simpa using e
end Ab
namespace Ab
theorem zNJm {α : Type} [Inhabited α] {p : α → Bool} {xs : List α} {i : Int} (h0 : 0 ≤ i) (h1 : i < xs.length) (h : p (ix xs i) = true) : xs.any p = true := List.any_eq_true.2 ⟨_, zmAQ h0 h1, h⟩
theorem ztwy {α : Type} [Inhabited α] {p : α → Bool} {xs : List α} (h2 : ∀ j, 0 ≤ j → j < (xs.length : Int) → p (ix xs j) = false) : xs.any p = false := by
  rw [List.any_eq_false]
  intro x hx
  obtain ⟨i, hi, rfl⟩ := List.mem_iff_getElem.1 hx
  rw [← zrZW hi]; simp [h2 i (by omega) (by omega)]
theorem vd_LL {σ : List Blk} {fr : Bool} {b n : Nat} {xs : List (List Int)} {st : BSt} (h : blk σ b = some ⟨none, xs.map iL, st⟩) (hs : st.isArr = true) (hn : n = xs.length) : view σ false vd (.sl b n 0 n) = some (iLL xs) := zxF7 (k := 11) (f := iL) (g := iL) h hs hn fun _ _ => rfl
theorem zWk8 {α β : Type} [Inhabited α] [Inhabited β] {f : α → β} {l : List α} {i : Int} (h0 : 0 ≤ i) (h1 : i < l.length) : ix (l.map f) i = f (ix l i) := by
  unfold ix
  rw [List.getD_eq_getElem?_getD, List.getD_eq_getElem?_getD, List.getElem?_map, List.getElem?_eq_getElem (by omega)]
  simp
abbrev Mly.at (m : Mly) (s : Int) : Mly := ⟨m.inputs, s, m.next, m.out⟩
theorem zf2p {α : Type} [Inhabited α] {l : List α} {n : Nat} {i : Int} {x : α} (h0 : 0 ≤ i) (h1 : i < l.length) : ix (l.set n x) i = if i = n then x else ix l i := by
  unfold ix
  rw [List.getD_eq_getElem?_getD, List.getD_eq_getElem?_getD, List.getElem?_set]
  by_cases e : i = n
  · rw [if_pos (by omega), if_pos (by omega), if_pos e]; rfl
  · rw [if_neg (by omega), if_neg e]
theorem zZfZ {α : Type} [Inhabited α] {n : Nat} {x : α} {i : Int} (h0 : 0 ≤ i) (h1 : i < n) : ix (List.replicate n x) i = x := by
  unfold ix
  rw [List.getD_eq_getElem?_getD, List.getElem?_replicate, if_pos (by omega)]; rfl
structure Sn (N : Nat) (b : List Bool) (q : List Pl) : Prop where
  len : b.length = N
  ok : ∀ t, 0 ≤ t → t < (N : Int) → ix b t = hasS q t
theorem Sn.add {N : Nat} {b : List Bool} {q : List Pl} (h : Sn N b q) {t : Int} {w : List Int} (t0 : 0 ≤ t) (t1 : t < N) : Sn N (b.set t.toNat true) (q ++ [(t, w)]) := by
  refine ⟨by simp [h.len], fun u u0 u1 => ?_⟩
  rw [zf2p u0 (by have := h.len; omega)]
  by_cases e : u = (t.toNat : Int)
  · rw [if_pos e]; simp [hasS]; right; omega
  · rw [if_neg e, h.ok u u0 u1]
    simp [hasS]
    omega
def Mly.way (m : Mly) (s t : Int) : List Int × Bool × Int := match (m.places s).find? fun p => p.1 == t with
  | some p => (p.2, true, 0)
  | none => ([], false, 0)
def Mly.path (m : Mly) (s t : Int) : List Int × Bool × Int :=
  if m.validE ≠ 0 then ([], false, m.validE)
  else if s < 0 ∨ (m.next.length : Int) ≤ s ∨ t < 0 ∨ (m.next.length : Int) ≤ t then ([], false, 2)
  else m.way s t
end Ab
namespace Ab
theorem zEAi : ∀ {u v a b : List Int}, u.length = v.length → lexC (u ++ a) (v ++ b) = if lexC u v = 0 then lexC a b else lexC u v
  | [], [], a, b, _ => by simp [lexC]
  | x :: u, y :: v, a, b, h => by
    have e := zEAi (u := u) (v := v) (a := a) (b := b) (by simpa using h)
    simp only [List.cons_append, lexC, e]
    split
    · simp
    · split
      · simp
      · rfl
theorem zqW6 {u v : List Int} {a b : Int} (h : slxC u v < 0) : slxC (u ++ [a]) (v ++ [b]) < 0 := by
  unfold slxC at h ⊢
  simp only [List.length_append, List.length_cons, List.length_nil]
  by_cases h1 : u.length < v.length
  · rw [if_pos (by omega)]; omega
  · rw [if_neg h1] at h
    by_cases h2 : v.length < u.length
    · rw [if_pos h2] at h; omega
    · rw [if_neg h2] at h
      rw [if_neg (by omega), if_neg (by omega), zEAi (by omega), if_neg (by omega)]
      exact h
theorem zPcj {u : List Int} {a b : Int} (h : a < b) : slxC (u ++ [a]) (u ++ [b]) < 0 := by
  unfold slxC
  rw [if_neg (by simp), if_neg (by simp), zEAi rfl, zdNg, if_pos rfl]
  simp only [lexC, if_pos h]; omega
theorem zJvP {w : List Int} (h : w ≠ []) : slxC [] w < 0 := by
  unfold slxC
  rw [if_pos (by simpa using List.length_pos_iff.2 h)]; omega
theorem zYYc {u v : List Int} {a : Int} (h : slxC u v ≤ 0) : slxC (u ++ [a]) (v ++ [a]) ≤ 0 := by
  by_cases e : slxC u v = 0
  · have := zvz8.eq u v e
    rw [this]
    have := zvz8.refl (v ++ [a]); omega
  · have := zqW6 (a := a) (b := a) (show slxC u v < 0 by omega); omega
structure Bi (m : Mly) (s i a : Int) (q : List Pl) : Prop where
  bq : Bq m s q
  par : ∀ k, 0 < k → k < (q.length : Int) → ∃ j b, 0 ≤ j ∧ (j < i ∨ j = i ∧ b < a) ∧ j < k ∧ (0 ≤ b ∧ b < m.inputs) ∧ ix q k = (ix (ix m.next (ix q j).1) b, (ix q j).2 ++ [b])
  asc : ∀ j k, 0 ≤ j → j < k → k < (q.length : Int) → slxC (ix q j).2 (ix q k).2 < 0
  done : ∀ j b, 0 ≤ j → j < (q.length : Int) → (j < i ∨ j = i ∧ b < a) → 0 ≤ b → b < m.inputs → ∃ k, 0 ≤ k ∧ k < (q.length : Int) ∧ (ix q k).1 = ix (ix m.next (ix q j).1) b ∧ slxC (ix q k).2 ((ix q j).2 ++ [b]) ≤ 0
theorem Bi.lt_new {m : Mly} {s i a : Int} {q : List Pl} (h : Bi m s i a q) (i1 : i < q.length) : ∀ k, 0 ≤ k → k < (q.length : Int) → slxC (ix q k).2 ((ix q i).2 ++ [a]) < 0 := by
  intro k k0 k1
  by_cases e : k = 0
  · subst e
    rw [h.bq.head]
    exact zJvP (by simp)
  · obtain ⟨j, b, j0, j1, j2, b0, e⟩ := h.par k (by omega) k1
    rw [e]
    rcases j1 with j1 | ⟨rfl, j1⟩
    · exact zqW6 (h.asc j i j0 j1 i1)
    · exact zPcj j1
theorem Bi.step {m : Mly} (hm : m.Ok) {s i a : Int} {q : List Pl} (h : Bi m s i a q) (i0 : 0 ≤ i) (i1 : i < q.length) (a0 : 0 ≤ a) (a1 : a < m.inputs) : Bi m s i (a + 1) (bstep m (ix q i) q a) := by
  have hr := h.bq.rng _ (zmAQ i0 i1)
  have hl := h.bq.len i i0 i1
  have hlt := h.lt_new i1
  have hbq := h.bq.step hm hr (by omega) a0 a1
  cases hh : hasS q (ix (ix m.next (ix q i).1) a) with
  | true =>
    rw [zWJS hh] at hbq ⊢
    refine ⟨hbq, fun k k0 k1 => ?_, h.asc, fun j b j0 j1 jb b0 b1 => ?_⟩
    · obtain ⟨j, b, j0, j1, j2, b0, e⟩ := h.par k k0 k1
      exact ⟨j, b, j0, by omega, j2, b0, e⟩
    · by_cases e : j = i ∧ b = a
      · obtain ⟨rfl, rfl⟩ := e
        rw [zOV0] at hh
        obtain ⟨p, hp, e⟩ := List.mem_map.1 hh
        obtain ⟨k, hk, rfl⟩ := List.mem_iff_getElem.1 hp
        rw [← zrZW hk] at e
        exact ⟨(k : Int), by omega, by omega, e, by have := hlt (k : Int) (by omega) (by omega); omega⟩
      · exact h.done j b j0 j1 (by omega) b0 b1
  | false =>
    rw [z8XM hh] at hbq ⊢
    have hlen : ((q ++ [(ix (ix m.next (ix q i).1) a, (ix q i).2 ++ [a])]).length : Int) = q.length + 1 := by simp
    refine ⟨hbq, fun k k0 k1 => ?_, fun j k j0 jk k1 => ?_, fun j b j0 j1 jb b0 b1 => ?_⟩
    · rw [hlen] at k1
      by_cases e : k < (q.length : Int)
      · obtain ⟨j, b, j0, j1, j2, b0, e'⟩ := h.par k k0 e
        exact ⟨j, b, j0, by omega, j2, b0, by rw [zT8e (by omega) e, zT8e j0 (by omega)]; exact e'⟩
      · have : k = (q.length : Int) := by omega
        subst this
        exact ⟨i, a, i0, by omega, i1, ⟨a0, a1⟩, by rw [zD1B, zT8e i0 i1]⟩
    · rw [hlen] at k1
      by_cases e : k < (q.length : Int)
      · rw [zT8e (by omega) e, zT8e j0 (by omega)]
        exact h.asc j k j0 jk e
      · have : k = (q.length : Int) := by omega
        subst this
        rw [zD1B, zT8e j0 jk]
        exact hlt j j0 jk
    · rw [hlen] at j1 ⊢
      have j1' : j < (q.length : Int) := by omega
      rw [zT8e j0 j1']
      by_cases e : j = i ∧ b = a
      · obtain ⟨rfl, rfl⟩ := e
        exact ⟨q.length, by omega, by omega, by rw [zD1B], by rw [zD1B]; exact Int.le_of_eq (zvz8.refl _)⟩
      · obtain ⟨k, k0, k1, e1, e2⟩ := h.done j b j0 j1' (by omega) b0 b1
        exact ⟨k, k0, by omega, by rw [zT8e k0 k1]; exact e1, by rw [zT8e k0 k1]; exact e2⟩
theorem zvzv (m : Mly) (hm : m.Ok) (s : Int) (hs : 0 ≤ s ∧ s < (m.next.length : Int)) : ∃ i, ((m.places s).length : Int) ≤ i ∧ Bi m s i 0 (m.places s) := by
  have hin := hm.inputs
  have row : ∀ (q : List Pl) (i : Int) (k : Nat), 0 ≤ i → i < (q.length : Int) → (k : Int) ≤ m.inputs → Bi m s i 0 q → Bi m s i k (brow m (ix q i) q k) ∧ (∀ j, 0 ≤ j → j < (q.length : Int) → ix (brow m (ix q i) q k) j = ix q j) ∧ q.length ≤ (brow m (ix q i) q k).length := by
    intro q i k i0 i1
    induction k with
    | zero => intro _ h; exact ⟨h, fun _ _ _ => rfl, Nat.le_refl _⟩
    | succ k ih =>
      intro hk h
      obtain ⟨h1, h2, h3⟩ := ih (by omega) h
      rw [show ((k + 1 : Nat) : Int) = (k : Int) + 1 by omega, zqI6 (by omega)]
      have e := h2 i i0 i1
      have st := h1.step hm i0 (by omega) (by omega) (by omega)
      rw [e] at st
      obtain ⟨l, el⟩ := zDcS (m := m) (p := ix q i) (q := brow m (ix q i) q k) (a := k)
      refine ⟨st, fun j j0 j1 => ?_, by rw [el]; simp; omega⟩
      rw [el, zT8e j0 (by omega)]
      exact h2 j j0 j1
  have go : ∀ (f : Nat) (i : Int) (q : List Pl), 0 ≤ i → (m.next.length : Int) + 1 ≤ f + i → Bi m s i 0 q → ∃ i', ((bfs m f i q).length : Int) ≤ i' ∧ Bi m s i' 0 (bfs m f i q) := by
    intro f
    induction f with
    | zero => intro i q _ hf h; exact ⟨i, by have := h.bq.le; show (q.length : Int) ≤ i; omega, h⟩
    | succ f ih =>
      intro i q i0 hf h
      by_cases hi : i < q.length
      · rw [zcUu hi]
        have := (row q i m.inputs.toNat i0 hi (by omega) h).1
        rw [show ((m.inputs.toNat : Nat) : Int) = m.inputs by omega] at this
        refine ih _ _ (by omega) (by omega) ⟨this.bq, fun k k0 k1 => ?_, this.asc, fun j b j0 j1 jb b0 b1 => this.done j b j0 j1 (by omega) b0 b1⟩
        obtain ⟨j, b, j0, j1, r⟩ := this.par k k0 k1
        exact ⟨j, b, j0, by omega, r⟩
      · rw [zXiF hi]; exact ⟨i, by omega, h⟩
  refine go _ 0 _ (by omega) (by omega) ⟨Bq.init hs, fun k k0 k1 => ?_, fun j k j0 jk k1 => ?_, fun j b j0 j1 jb => ?_⟩
  · simp at k1; omega
  · simp at k1; omega
  · omega
def Mly.run (m : Mly) : Int → List Int → Int
  | s, [] => s
  | s, a :: w => m.run (ix (ix m.next s) a) w
theorem zuwq {m : Mly} : ∀ {u v : List Int} {s : Int}, m.run s (u ++ v) = m.run (m.run s u) v
  | [], _, _ => rfl
  | a :: u, v, s => zuwq (u := u)
structure Bf (m : Mly) (s : Int) (q : List Pl) : Prop where
  bq : Bq m s q
  run : ∀ k, 0 ≤ k → k < (q.length : Int) → m.run s (ix q k).2 = (ix q k).1 ∧ ∀ x ∈ (ix q k).2, 0 ≤ x ∧ x < m.inputs
  par : ∀ k, 0 < k → k < (q.length : Int) → ∃ j b, 0 ≤ j ∧ j < k ∧ (0 ≤ b ∧ b < m.inputs) ∧ ix q k = (ix (ix m.next (ix q j).1) b, (ix q j).2 ++ [b])
  pre : ∀ k n, 0 ≤ k → k < (q.length : Int) → n ≤ (ix q k).2.length → ∃ j, 0 ≤ j ∧ j ≤ k ∧ (n < (ix q k).2.length → j < k) ∧ (ix q j).2 = (ix q k).2.take n
  asc : ∀ j k, 0 ≤ j → j < k → k < (q.length : Int) → slxC (ix q j).2 (ix q k).2 < 0
  all : ∀ w, (∀ x ∈ w, 0 ≤ x ∧ x < m.inputs) → ∃ k, 0 ≤ k ∧ k < (q.length : Int) ∧ (ix q k).1 = m.run s w ∧ slxC (ix q k).2 w ≤ 0
theorem zJmI (m : Mly) (hm : m.Ok) (s : Int) (hs : 0 ≤ s ∧ s < (m.next.length : Int)) : Bf m s (m.places s) := by
  obtain ⟨i, hi, h⟩ := zvzv m hm s hs
  have par : ∀ k, 0 < k → k < ((m.places s).length : Int) → ∃ j b, 0 ≤ j ∧ j < k ∧ (0 ≤ b ∧ b < m.inputs) ∧ ix (m.places s) k = (ix (ix m.next (ix (m.places s) j).1) b, (ix (m.places s) j).2 ++ [b]) := fun k k0 k1 => by
    obtain ⟨j, b, j0, _, j2, b0, e⟩ := h.par k k0 k1
    exact ⟨j, b, j0, j2, b0, e⟩
  refine ⟨h.bq, ?_, par, ?_, h.asc, ?_⟩
  · have : ∀ n : Nat, ∀ k : Int, k < n → 0 ≤ k → k < ((m.places s).length : Int) → m.run s (ix (m.places s) k).2 = (ix (m.places s) k).1 ∧ ∀ x ∈ (ix (m.places s) k).2, 0 ≤ x ∧ x < m.inputs := by
      intro n
      induction n with
      | zero => intro k; omega
      | succ n ih =>
        intro k kn k0 k1
        by_cases e : k = 0
        · subst e; rw [h.bq.head]; exact ⟨rfl, by simp⟩
        · obtain ⟨j, b, j0, j2, b0, e⟩ := par k (by omega) k1
          obtain ⟨r1, r2⟩ := ih j (by omega) j0 (by omega)
          rw [e]
          refine ⟨by rw [zuwq, r1]; rfl, fun x hx => ?_⟩
          rcases List.mem_append.1 hx with hx | hx
          · exact r2 x hx
          · simp at hx; subst hx; exact b0
    exact fun k k0 k1 => this (k.toNat + 1) k (by omega) k0 k1
  · have : ∀ n : Nat, ∀ (k : Int) (l : Nat), k < n → 0 ≤ k → k < ((m.places s).length : Int) → l ≤ (ix (m.places s) k).2.length → ∃ j, 0 ≤ j ∧ j ≤ k ∧ (l < (ix (m.places s) k).2.length → j < k) ∧ (ix (m.places s) j).2 = (ix (m.places s) k).2.take l := by
      intro n
      induction n with
      | zero => intro k; omega
      | succ n ih =>
        intro k l kn k0 k1 hl
        by_cases hle : l = (ix (m.places s) k).2.length
        · exact ⟨k, k0, by omega, by omega, by rw [hle, List.take_length]⟩
        · by_cases e : k = 0
          · subst e; rw [h.bq.head] at hl hle; simp at hl hle; omega
          · obtain ⟨j, b, j0, j2, b0, e⟩ := par k (by omega) k1
            rw [e] at hl hle
            simp at hl hle
            obtain ⟨j', a0, a1, _, a2⟩ := ih j l (by omega) j0 (by omega) (by omega)
            exact ⟨j', a0, by omega, fun _ => by omega, by rw [a2, e]; simp only; rw [List.take_append_of_le_length (by omega)]⟩
    exact fun k l k0 k1 hl => this (k.toNat + 1) k l (by omega) k0 k1 hl
  · intro w
    have : ∀ n : Nat, ∀ w : List Int, w.length = n → (∀ x ∈ w, 0 ≤ x ∧ x < m.inputs) → ∃ k, 0 ≤ k ∧ k < ((m.places s).length : Int) ∧ (ix (m.places s) k).1 = m.run s w ∧ slxC (ix (m.places s) k).2 w ≤ 0 := by
      intro n
      induction n with
      | zero =>
        intro w hw _
        have : w = [] := List.eq_nil_of_length_eq_zero hw
        subst this
        exact ⟨0, by omega, by have := h.bq.pos; omega, by rw [h.bq.head]; rfl, by rw [h.bq.head]; exact Int.le_of_eq (zvz8.refl _)⟩
      | succ n ih =>
        intro w hw hx
        have hne : w ≠ [] := by intro e; subst e; simp at hw
        have e : w = w.dropLast ++ [w.getLast hne] := (List.dropLast_concat_getLast hne).symm
        generalize w.dropLast = u at e
        generalize w.getLast hne = a at e
        subst e
        obtain ⟨j, j0, j1, e1, e2⟩ := ih u (by simpa using hw) fun x h => hx x (by simp [h])
        have ha := hx a (by simp)
        obtain ⟨k, k0, k1, e3, e4⟩ := h.done j a j0 j1 (by omega) ha.1 ha.2
        exact ⟨k, k0, k1, by rw [e3, zuwq, e1]; rfl, zvz8.trans _ _ _ e4 (zYYc e2)⟩
    exact this w.length w rfl
end Ab
namespace Ab
section
variable {α : Type} [DecidableEq α] [Inhabited α]
def hasG (q : List (α × List Int)) (t : α) : Bool := q.any fun x => decide (x.1 = t)
theorem z6uL {q : List (α × List Int)} {t : α} : hasG q t = true ↔ t ∈ q.map (·.1) := by
  simp [hasG]
def gstep (nx : α → Int → Option α) (p : α × List Int) (q : List (α × List Int)) (a : Int) : List (α × List Int) :=
  match nx p.1 a with
  | none => q
  | some t => if hasG q t = true then q else q ++ [(t, p.2 ++ [a])]
def grow (nx : α → Int → Option α) (p : α × List Int) (q : List (α × List Int)) (k : Int) : List (α × List Int) := (List.range k.toNat).foldl (fun q a => gstep nx p q (a : Nat)) q
theorem zV0b {nx : α → Int → Option α} {p : α × List Int} {q : List (α × List Int)} : grow nx p q 0 = q := rfl
theorem zIYZ {nx : α → Int → Option α} {p : α × List Int} {q : List (α × List Int)} {a : Int} (h : 0 ≤ a) : grow nx p q (a + 1) = gstep nx p (grow nx p q a) a := by
  unfold grow
  rw [show (a + 1).toNat = a.toNat + 1 by omega, List.range_succ, List.foldl_append]
  simp only [List.foldl_cons, List.foldl_nil]
  rw [show ((a.toNat : Nat) : Int) = a by omega]
def gbfs (nx : α → Int → Option α) (k : Int) : Nat → Int → List (α × List Int) → List (α × List Int)
  | 0, _, q => q
  | f + 1, i, q => if i < q.length then gbfs nx k f (i + 1) (grow nx (ix q i) q k) else q
def gplaces (nx : α → Int → Option α) (k : Int) (N : Nat) (s : α) : List (α × List Int) := gbfs nx k (N + 1) 0 [(s, [])]
theorem zM97 {nx : α → Int → Option α} {k : Int} {f : Nat} {i : Int} {q : List (α × List Int)} (h : ¬ i < (q.length : Int)) : gbfs nx k f i q = q := by
  cases f with
  | zero => rfl
  | succ f => unfold gbfs; rw [if_neg h]
theorem zbVX {nx : α → Int → Option α} {k : Int} {f : Nat} {i : Int} {q : List (α × List Int)} (h : i < (q.length : Int)) : gbfs nx k (f + 1) i q = gbfs nx k f (i + 1) (grow nx (ix q i) q k) := by
  conv => lhs; unfold gbfs
  rw [if_pos h]
theorem zXoD {nx : α → Int → Option α} {p : α × List Int} {q : List (α × List Int)} {a : Int} (h : nx p.1 a = none) : gstep nx p q a = q := by unfold gstep; rw [h]
theorem zoo4 {nx : α → Int → Option α} {p : α × List Int} {q : List (α × List Int)} {a : Int} {t : α} (h : nx p.1 a = some t) (hh : hasG q t = true) : gstep nx p q a = q := by unfold gstep; rw [h]; exact if_pos hh
theorem z18f {nx : α → Int → Option α} {p : α × List Int} {q : List (α × List Int)} {a : Int} {t : α} (h : nx p.1 a = some t) (hh : hasG q t = false) : gstep nx p q a = q ++ [(t, p.2 ++ [a])] := by unfold gstep; rw [h]; exact if_neg (by simp [hh])
theorem zngd {nx : α → Int → Option α} {p : α × List Int} {q : List (α × List Int)} {a : Int} : ∃ l, gstep nx p q a = q ++ l := by
  unfold gstep
  split
  · exact ⟨[], by simp⟩
  · split
    · exact ⟨[], by simp⟩
    · exact ⟨_, rfl⟩
theorem zpgs {nx : α → Int → Option α} {p : α × List Int} {q : List (α × List Int)} : ∀ k : Nat, ∃ l, grow nx p q (k : Int) = q ++ l
  | 0 => ⟨[], by simp [grow]⟩
  | k + 1 => by
    obtain ⟨l, e⟩ := zpgs (nx := nx) (p := p) (q := q) k
    rw [show ((k + 1 : Nat) : Int) = (k : Int) + 1 by omega, zIYZ (by omega), e]
    obtain ⟨m, e2⟩ := zngd (nx := nx) (p := p) (q := q ++ l) (a := k)
    exact ⟨l ++ m, by rw [e2, List.append_assoc]⟩
theorem z6hu {nx : α → Int → Option α} {k : Int} (h : 0 ≤ k) : ∀ {f : Nat} {i : Int} {q : List (α × List Int)}, ∃ l, gbfs nx k f i q = q ++ l
  | 0, i, q => ⟨[], by simp [gbfs]⟩
  | f + 1, i, q => by
    unfold gbfs
    split
    · obtain ⟨l, e⟩ := zpgs (nx := nx) (p := ix q i) (q := q) k.toNat
      rw [show ((k.toNat : Nat) : Int) = k by omega] at e
      obtain ⟨m, e2⟩ := z6hu h (nx := nx) (f := f) (i := i + 1) (q := q ++ l)
      rw [e]
      exact ⟨l ++ m, by rw [e2, List.append_assoc]⟩
    · exact ⟨[], by simp⟩
structure GrOk (nx : α → Int → Option α) (k : Int) (ok : α → Prop) (N : Nat) : Prop where
  k0 : 0 ≤ k
  step : ∀ x a y, ok x → 0 ≤ a → a < k → nx x a = some y → ok y
  fin : ∀ l : List α, l.Nodup → (∀ x ∈ l, ok x) → l.length ≤ N
structure Gq (ok : α → Prop) (s : α) (q : List (α × List Int)) : Prop where
  nd : (q.map (·.1)).Nodup
  rng : ∀ p ∈ q, ok p.1
  pos : 0 < q.length
  head : ix q 0 = (s, [])
  len : ∀ j, 0 ≤ j → j < (q.length : Int) → ((ix q j).2.length : Int) ≤ j
  ne : ∀ j, 0 < j → j < (q.length : Int) → (ix q j).2 ≠ []
variable {nx : α → Int → Option α} {k : Int} {ok : α → Prop} {N : Nat} {s : α}
theorem Gq.le (hG : GrOk nx k ok N) {q : List (α × List Int)} (h : Gq ok s q) : q.length ≤ N := by
  have := hG.fin _ h.nd (fun x hx => by
    obtain ⟨p, hp, rfl⟩ := List.mem_map.1 hx
    exact h.rng p hp)
  simpa using this
theorem Gq.init (h : ok s) : Gq ok s [(s, [])] := by
  refine ⟨by simp, by simpa using h, by simp, rfl, fun j j0 j1 => ?_, fun j j0 j1 => ?_⟩
  · simp at j1
    rw [show j = 0 by omega]; simp [ix]
  · simp at j1; omega
theorem Gq.add {q : List (α × List Int)} (h : Gq ok s q) {t : α} {w : List Int} (ht : ok t) (hn : hasG q t = false) (hw : w ≠ []) (hl : w.length ≤ q.length) : Gq ok s (q ++ [(t, w)]) := by
  have hq := h.pos
  have hn' : t ∉ q.map (·.1) := fun hm => by rw [z6uL.2 hm] at hn; simp at hn
  refine ⟨?_, fun p hp => ?_, by simp, by rw [zT8e (by omega) (by omega)]; exact h.head, fun j j0 j1 => ?_, fun j j0 j1 => ?_⟩
  · rw [List.map_append, List.nodup_append]
    refine ⟨h.nd, by simp, fun a ha b hb => ?_⟩
    simp at hb; subst hb
    exact fun e => hn' (e ▸ ha)
  · rcases List.mem_append.1 hp with hp | hp
    · exact h.rng p hp
    · simp at hp; subst hp; exact ht
  · by_cases hj : j < (q.length : Int)
    · rw [zT8e j0 hj]; exact h.len j j0 hj
    · simp at j1
      rw [show j = (q.length : Int) by omega, zD1B]
      simp; omega
  · by_cases hj : j < (q.length : Int)
    · rw [zT8e (by omega) hj]; exact h.ne j j0 hj
    · simp at j1
      rw [show j = (q.length : Int) by omega, zD1B]
      exact hw
theorem Gq.step (hG : GrOk nx k ok N) {q : List (α × List Int)} (h : Gq ok s q) {p : α × List Int} (hp : ok p.1) (hl : p.2.length < q.length) {a : Int} (a0 : 0 ≤ a) (a1 : a < k) : Gq ok s (gstep nx p q a) := by
  cases ht : nx p.1 a with
  | none => rw [zXoD ht]; exact h
  | some t =>
    cases hh : hasG q t with
    | true => rw [zoo4 ht hh]; exact h
    | false => rw [z18f ht hh]; exact h.add (hG.step _ _ _ hp a0 a1 ht) hh (by simp) (by simp; omega)
structure Gi (nx : α → Int → Option α) (k : Int) (ok : α → Prop) (s : α) (i a : Int) (q : List (α × List Int)) : Prop where
  gq : Gq ok s q
  par : ∀ n, 0 < n → n < (q.length : Int) → ∃ j b, 0 ≤ j ∧ (j < i ∨ j = i ∧ b < a) ∧ j < n ∧ (0 ≤ b ∧ b < k) ∧ nx (ix q j).1 b = some (ix q n).1 ∧ (ix q n).2 = (ix q j).2 ++ [b]
  asc : ∀ j n, 0 ≤ j → j < n → n < (q.length : Int) → slxC (ix q j).2 (ix q n).2 < 0
  done : ∀ j b t, 0 ≤ j → j < (q.length : Int) → (j < i ∨ j = i ∧ b < a) → 0 ≤ b → b < k → nx (ix q j).1 b = some t → ∃ n, 0 ≤ n ∧ n < (q.length : Int) ∧ (ix q n).1 = t ∧ slxC (ix q n).2 ((ix q j).2 ++ [b]) ≤ 0
theorem Gi.lt_new {i a : Int} {q : List (α × List Int)} (h : Gi nx k ok s i a q) (i1 : i < q.length) : ∀ n, 0 ≤ n → n < (q.length : Int) → slxC (ix q n).2 ((ix q i).2 ++ [a]) < 0 := by
  intro n n0 n1
  by_cases e : n = 0
  · subst e
    rw [h.gq.head]
    exact zJvP (by simp)
  · obtain ⟨j, b, j0, j1, j2, b0, _, e⟩ := h.par n (by omega) n1
    rw [e]
    rcases j1 with j1 | ⟨rfl, j1⟩
    · exact zqW6 (h.asc j i j0 j1 i1)
    · exact zPcj j1
theorem Gi.step (hG : GrOk nx k ok N) {i a : Int} {q : List (α × List Int)} (h : Gi nx k ok s i a q) (i0 : 0 ≤ i) (i1 : i < q.length) (a0 : 0 ≤ a) (a1 : a < k) : Gi nx k ok s i (a + 1) (gstep nx (ix q i) q a) := by
  have hr := h.gq.rng _ (zmAQ i0 i1)
  have hl := h.gq.len i i0 i1
  have hlt := h.lt_new i1
  have hgq := h.gq.step hG hr (by omega) a0 a1
  have same : gstep nx (ix q i) q a = q → (∀ t, nx (ix q i).1 a = some t → hasG q t = true) → Gi nx k ok s i (a + 1) (gstep nx (ix q i) q a) := fun e hh => by
    rw [e] at hgq ⊢
    refine ⟨hgq, fun n n0 n1 => ?_, h.asc, fun j b t j0 j1 jb b0 b1 ht => ?_⟩
    · obtain ⟨j, b, j0, j1, j2, b0, e⟩ := h.par n n0 n1
      exact ⟨j, b, j0, by omega, j2, b0, e⟩
    · by_cases e : j = i ∧ b = a
      · obtain ⟨rfl, rfl⟩ := e
        have hh := hh t ht
        rw [z6uL] at hh
        obtain ⟨p, hp, e⟩ := List.mem_map.1 hh
        obtain ⟨n, hn, rfl⟩ := List.mem_iff_getElem.1 hp
        rw [← zrZW hn] at e
        exact ⟨(n : Int), by omega, by omega, e, by have := hlt (n : Int) (by omega) (by omega); omega⟩
      · exact h.done j b t j0 j1 (by omega) b0 b1 ht
  cases hx : nx (ix q i).1 a with
  | none => exact same (zXoD hx) fun t ht => by rw [hx] at ht; simp at ht
  | some t =>
    cases hh : hasG q t with
    | true => exact same (zoo4 hx hh) fun t' ht => by rw [hx] at ht; injection ht with ht; subst ht; exact hh
    | false =>
      rw [z18f hx hh] at hgq ⊢
      have hlen : ((q ++ [(t, (ix q i).2 ++ [a])]).length : Int) = q.length + 1 := by simp
      refine ⟨hgq, fun n n0 n1 => ?_, fun j n j0 jn n1 => ?_, fun j b t' j0 j1 jb b0 b1 ht => ?_⟩
      · rw [hlen] at n1
        by_cases e : n < (q.length : Int)
        · obtain ⟨j, b, j0, j1, j2, b0, e'⟩ := h.par n n0 e
          exact ⟨j, b, j0, by omega, j2, b0, by rw [zT8e (by omega) e, zT8e j0 (by omega)]; exact e'⟩
        · have : n = (q.length : Int) := by omega
          subst this
          exact ⟨i, a, i0, by omega, i1, ⟨a0, a1⟩, by rw [zD1B, zT8e i0 i1]; exact ⟨hx, rfl⟩⟩
      · rw [hlen] at n1
        by_cases e : n < (q.length : Int)
        · rw [zT8e (by omega) e, zT8e j0 (by omega)]
          exact h.asc j n j0 jn e
        · have : n = (q.length : Int) := by omega
          subst this
          rw [zD1B, zT8e j0 jn]
          exact hlt j j0 jn
      · rw [hlen] at j1 ⊢
        by_cases jq : j < (q.length : Int)
        · rw [zT8e j0 jq] at ht ⊢
          by_cases e : j = i ∧ b = a
          · obtain ⟨rfl, rfl⟩ := e
            rw [hx] at ht
            injection ht with ht
            subst ht
            exact ⟨q.length, by omega, by omega, by rw [zD1B], by rw [zD1B]; exact Int.le_of_eq (zvz8.refl _)⟩
          · obtain ⟨n, n0, n1, e1, e2⟩ := h.done j b t' j0 jq (by omega) b0 b1 ht
            exact ⟨n, n0, by omega, by rw [zT8e n0 n1]; exact e1, by rw [zT8e n0 n1]; exact e2⟩
        · omega
theorem Gi.row (hG : GrOk nx k ok N) {i : Int} {q : List (α × List Int)} (i0 : 0 ≤ i) (i1 : i < q.length) : ∀ (n : Nat), (n : Int) ≤ k → Gi nx k ok s i 0 q → Gi nx k ok s i n (grow nx (ix q i) q n) ∧ (∀ j, 0 ≤ j → j < (q.length : Int) → ix (grow nx (ix q i) q n) j = ix q j) ∧ q.length ≤ (grow nx (ix q i) q n).length := by
  intro n
  induction n with
  | zero => intro _ h; exact ⟨h, fun _ _ _ => rfl, Nat.le_refl _⟩
  | succ n ih =>
    intro hk h
    obtain ⟨h1, h2, h3⟩ := ih (by omega) h
    rw [show ((n + 1 : Nat) : Int) = (n : Int) + 1 by omega, zIYZ (by omega)]
    have e := h2 i i0 i1
    have st := h1.step hG i0 (by omega) (by omega) (by omega)
    rw [e] at st
    obtain ⟨l, el⟩ := zngd (nx := nx) (p := ix q i) (q := grow nx (ix q i) q n) (a := n)
    refine ⟨st, fun j j0 j1 => ?_, by rw [el]; simp; omega⟩
    rw [el, zT8e j0 (by omega)]
    exact h2 j j0 j1
theorem zqQl (hG : GrOk nx k ok N) (hs : ok s) : ∃ i, ((gplaces nx k N s).length : Int) ≤ i ∧ Gi nx k ok s i 0 (gplaces nx k N s) := by
  have hk := hG.k0
  have go : ∀ (f : Nat) (i : Int) (q : List (α × List Int)), 0 ≤ i → (N : Int) + 1 ≤ f + i → Gi nx k ok s i 0 q → ∃ i', ((gbfs nx k f i q).length : Int) ≤ i' ∧ Gi nx k ok s i' 0 (gbfs nx k f i q) := by
    intro f
    induction f with
    | zero => intro i q _ hf h; exact ⟨i, by have := h.gq.le hG; show (q.length : Int) ≤ i; omega, h⟩
    | succ f ih =>
      intro i q i0 hf h
      by_cases hi : i < q.length
      · rw [zbVX hi]
        have := (Gi.row hG i0 hi k.toNat (by omega) h).1
        rw [show ((k.toNat : Nat) : Int) = k by omega] at this
        refine ih _ _ (by omega) (by omega) ⟨this.gq, fun n n0 n1 => ?_, this.asc, fun j b t j0 j1 jb b0 b1 => this.done j b t j0 j1 (by omega) b0 b1⟩
        obtain ⟨j, b, j0, j1, r⟩ := this.par n n0 n1
        exact ⟨j, b, j0, by omega, r⟩
      · rw [zM97 hi]; exact ⟨i, by omega, h⟩
  refine go _ 0 _ (by omega) (by omega) ⟨Gq.init hs, fun n n0 n1 => ?_, fun j n j0 jn n1 => ?_, fun j b t j0 j1 jb => ?_⟩
  · simp at n1; omega
  · simp at n1; omega
  · omega
def grun (nx : α → Int → Option α) : α → List Int → Option α
  | s, [] => some s
  | s, a :: w => (nx s a).bind fun t => grun nx t w
theorem zjQ9 : ∀ {u v : List Int} {s : α}, grun nx s (u ++ v) = (grun nx s u).bind fun t => grun nx t v
  | [], _, _ => rfl
  | a :: u, v, s => by
    simp only [List.cons_append, grun]
    cases nx s a with
    | none => rfl
    | some t => exact zjQ9 (u := u)
theorem zURj {u : List Int} {a : Int} {s : α} : grun nx s (u ++ [a]) = (grun nx s u).bind fun t => nx t a := by
  rw [zjQ9]
  cases grun nx s u with
  | none => rfl
  | some t => simp only [Option.bind_some, grun]; cases nx t a <;> rfl
structure Gf (nx : α → Int → Option α) (k : Int) (ok : α → Prop) (s : α) (q : List (α × List Int)) : Prop where
  gq : Gq ok s q
  run : ∀ n, 0 ≤ n → n < (q.length : Int) → grun nx s (ix q n).2 = some (ix q n).1 ∧ ∀ x ∈ (ix q n).2, 0 ≤ x ∧ x < k
  asc : ∀ j n, 0 ≤ j → j < n → n < (q.length : Int) → slxC (ix q j).2 (ix q n).2 < 0
  all : ∀ w t, (∀ x ∈ w, 0 ≤ x ∧ x < k) → grun nx s w = some t → ∃ n, 0 ≤ n ∧ n < (q.length : Int) ∧ (ix q n).1 = t ∧ slxC (ix q n).2 w ≤ 0
theorem zHpW (hG : GrOk nx k ok N) (hs : ok s) : Gf nx k ok s (gplaces nx k N s) := by
  obtain ⟨i, hi, h⟩ := zqQl hG hs
  refine ⟨h.gq, ?_, h.asc, ?_⟩
  · have : ∀ n : Nat, ∀ j : Int, j < n → 0 ≤ j → j < ((gplaces nx k N s).length : Int) → grun nx s (ix (gplaces nx k N s) j).2 = some (ix (gplaces nx k N s) j).1 ∧ ∀ x ∈ (ix (gplaces nx k N s) j).2, 0 ≤ x ∧ x < k := by
      intro n
      induction n with
      | zero => intro j; omega
      | succ n ih =>
        intro n' kn k0 k1
        by_cases e : n' = 0
        · subst e; rw [h.gq.head]; exact ⟨rfl, by simp⟩
        · obtain ⟨j, b, j0, _, j2, b0, e1, e2⟩ := h.par n' (by omega) k1
          obtain ⟨r1, r2⟩ := ih j (by omega) j0 (by omega)
          rw [e2]
          refine ⟨by rw [zURj, r1]; exact e1, fun x hx => ?_⟩
          rcases List.mem_append.1 hx with hx | hx
          · exact r2 x hx
          · simp at hx; subst hx; exact b0
    exact fun n n0 n1 => this (n.toNat + 1) n (by omega) n0 n1
  · intro w
    have : ∀ n : Nat, ∀ (w : List Int) (t : α), w.length = n → (∀ x ∈ w, 0 ≤ x ∧ x < k) → grun nx s w = some t → ∃ n, 0 ≤ n ∧ n < ((gplaces nx k N s).length : Int) ∧ (ix (gplaces nx k N s) n).1 = t ∧ slxC (ix (gplaces nx k N s) n).2 w ≤ 0 := by
      intro n
      induction n with
      | zero =>
        intro w t hw _ hr
        have : w = [] := List.eq_nil_of_length_eq_zero hw
        subst this
        injection hr with hr
        exact ⟨0, by omega, by have := h.gq.pos; omega, by rw [h.gq.head]; exact hr, by rw [h.gq.head]; exact Int.le_of_eq (zvz8.refl _)⟩
      | succ n ih =>
        intro w t hw hx hr
        have hne : w ≠ [] := by intro e; subst e; simp at hw
        have e : w = w.dropLast ++ [w.getLast hne] := (List.dropLast_concat_getLast hne).symm
        generalize w.dropLast = u at e
        generalize w.getLast hne = a at e
        subst e
        rw [zURj] at hr
        obtain ⟨t', hu, hr⟩ := Option.bind_eq_some_iff.1 hr
        obtain ⟨j, j0, j1, e1, e2⟩ := ih u t' (by simpa using hw) (fun x h => hx x (by simp [h])) hu
        have ha := hx a (by simp)
        obtain ⟨n, n0, n1, e3, e4⟩ := h.done j a t j0 j1 (by omega) ha.1 ha.2 (by rw [e1]; exact hr)
        exact ⟨n, n0, n1, e3, zvz8.trans _ _ _ e4 (zYYc e2)⟩
    exact fun t => this w.length w t rfl
def gfails (nx : α → Int → Option α) (k : Int) (q : List (α × List Int)) : List (α × List Int × Int) := q.flatMap fun p => ((List.range k.toNat).filter fun a => decide (nx p.1 (a : Nat) = none)).map fun a => (p.1, p.2 ++ [((a : Nat) : Int)], ((a : Nat) : Int))
theorem zNec {q r : List (α × List Int)} : gfails nx k (q ++ r) = gfails nx k q ++ gfails nx k r := by simp [gfails]
theorem zj4u {q : List (α × List Int)} {x : α × List Int × Int} : x ∈ gfails nx k q ↔ ∃ p ∈ q, (0 ≤ x.2.2 ∧ x.2.2 < k) ∧ nx p.1 x.2.2 = none ∧ x.1 = p.1 ∧ x.2.1 = p.2 ++ [x.2.2] := by
  unfold gfails
  simp only [List.mem_flatMap, List.mem_map, List.mem_filter, List.mem_range, decide_eq_true_eq]
  constructor
  · rintro ⟨p, hp, a, ⟨h1, h2⟩, rfl⟩
    exact ⟨p, hp, by dsimp only; omega, h2, rfl, rfl⟩
  · rintro ⟨p, hp, h1, h2, h3, h4⟩
    obtain ⟨x1, x2, x3⟩ := x
    dsimp only at h1 h2 h3 h4
    refine ⟨p, hp, x3.toNat, ⟨by omega, by rw [show ((x3.toNat : Nat) : Int) = x3 by omega]; exact h2⟩, ?_⟩
    rw [show ((x3.toNat : Nat) : Int) = x3 by omega, h3, h4]
def gfrow (nx : α → Int → Option α) (p : α × List Int) (a : Int) : List (α × List Int × Int) := ((List.range a.toNat).filter fun a => decide (nx p.1 (a : Nat) = none)).map fun a => (p.1, p.2 ++ [((a : Nat) : Int)], ((a : Nat) : Int))
theorem zu0Z {p : α × List Int} {a : Int} (a0 : 0 ≤ a) : gfrow nx p (a + 1) = gfrow nx p a ++ (if nx p.1 a = none then [(p.1, p.2 ++ [a], a)] else []) := by
  unfold gfrow
  rw [show (a + 1).toNat = a.toNat + 1 by omega, List.range_succ, List.filter_append, List.map_append]
  congr 1
  have e : ((a.toNat : Nat) : Int) = a := by omega
  by_cases h : nx p.1 a = none
  · rw [if_pos h]; simp [List.filter_cons, e, h]
  · rw [if_neg h]; simp [List.filter_cons, e, h]
theorem zOVd {p : α × List Int} : gfails nx k [p] = gfrow nx p k := by simp [gfails, gfrow]
theorem zwoe {p : α × List Int} {a : Int} (h : ∀ b, 0 ≤ b → b < a → nx p.1 b ≠ none) : gfrow nx p a = [] := by
  unfold gfrow
  rw [List.map_eq_nil_iff, List.filter_eq_nil_iff]
  intro b hb
  have := List.mem_range.1 hb
  simpa using h b (by omega) (by omega)
theorem zABI {q : List (α × List Int)} (h : ∀ j, 0 ≤ j → j < (q.length : Int) → ∀ b, 0 ≤ b → b < k → nx (ix q j).1 b ≠ none) : gfails nx k q = [] := by
  rw [List.eq_nil_iff_forall_not_mem]
  intro x hx
  obtain ⟨p, hp, h1, h2, _⟩ := zj4u.1 hx
  obtain ⟨n, hn, rfl⟩ := List.mem_iff_getElem.1 hp
  rw [← zrZW hn] at h2
  exact h n (by omega) (by omega) _ h1.1 h1.2 h2
theorem z7Mx {q r : List (α × List Int)} {i a : Int} (i0 : 0 ≤ i) (i1 : i < q.length) (a0 : 0 ≤ a) (a1 : a < k) (h : ∀ j, 0 ≤ j → j < i → ∀ b, 0 ≤ b → b < k → nx (ix q j).1 b ≠ none) (h2 : ∀ b, 0 ≤ b → b < a → nx (ix q i).1 b ≠ none) (h3 : nx (ix q i).1 a = none) : (gfails nx k (q ++ r)).head? = some ((ix q i).1, (ix q i).2 ++ [a], a) := by
  have e : q = q.take i.toNat ++ ix q i :: q.drop (i + 1).toNat := by rw [← zN4X i0 i1, List.take_append_drop]
  have e1 : gfails nx k (q.take i.toNat) = [] := zABI fun j j0 j1 b b0 b1 => by
    simp at j1
    have : ix (q.take i.toNat) j = ix q j := by
      conv => rhs; rw [e]
      rw [zT8e j0 (by simp; omega)]
    rw [this]; exact h j j0 (by omega) b b0 b1
  have e2 : gfails nx k [ix q i] = ((ix q i).1, (ix q i).2 ++ [a], a) :: (gfails nx k [ix q i]).tail := by
    have hd : (gfails nx k [ix q i]).head? = some ((ix q i).1, (ix q i).2 ++ [a], a) := by
      rw [zOVd]
      have : ∀ n : Nat, a + 1 + n ≤ k → (gfrow nx (ix q i) (a + 1 + n)).head? = some ((ix q i).1, (ix q i).2 ++ [a], a) := by
        intro n
        induction n with
        | zero => intro _; rw [show a + 1 + ((0 : Nat) : Int) = a + 1 by omega, zu0Z a0, zwoe h2, if_pos h3]; rfl
        | succ n ih =>
          intro hn
          rw [show a + 1 + ((n + 1 : Nat) : Int) = (a + 1 + n) + 1 by omega, zu0Z (by omega)]
          have := ih (by omega)
          cases hg : gfrow nx (ix q i) (a + 1 + n) with
          | nil => rw [hg] at this; simp at this
          | cons x r => rw [hg] at this; simpa using this
      have := this (k - a - 1).toNat (by omega)
      rwa [show a + 1 + ((k - a - 1).toNat : Int) = k by omega] at this
    cases hg : gfails nx k [ix q i] with
    | nil => rw [hg] at hd; simp at hd
    | cons x r => rw [hg] at hd; simp at hd; rw [hd]; rfl
  rw [e, List.append_assoc, zNec, e1, List.nil_append, List.cons_append, show ix q i :: (q.drop (i + 1).toNat ++ r) = [ix q i] ++ (q.drop (i + 1).toNat ++ r) from rfl, zNec, e2]
  rw [← e]; rfl
theorem zg9w {q : List (α × List Int)} (h : ∀ j n, 0 ≤ j → j < n → n < (q.length : Int) → slxC (ix q j).2 (ix q n).2 < 0) : (gfails nx k q).Pairwise fun x y => slxC x.2.1 y.2.1 < 0 := by
  have hq : q.Pairwise fun x y => slxC x.2 y.2 < 0 := by
    rw [List.pairwise_iff_getElem]
    intro i j hi hj hij
    have := h i j (by omega) (by omega) (by omega)
    rwa [zrZW hi, zrZW hj] at this
  clear h
  induction q with
  | nil => exact List.Pairwise.nil
  | cons p q ih =>
    rw [show p :: q = [p] ++ q from rfl, zNec, List.pairwise_append]
    rw [List.pairwise_cons] at hq
    refine ⟨?_, ih hq.2, fun x hx y hy => ?_⟩
    · rw [zOVd]
      unfold gfrow
      rw [List.pairwise_map]
      refine List.Pairwise.filter _ ?_
      refine List.Pairwise.imp ?_ List.pairwise_lt_range
      intro a b hab
      exact zPcj (by omega)
    · obtain ⟨p1, hp1, _, _, _, e1⟩ := zj4u.1 hx
      obtain ⟨p2, hp2, _, _, _, e2⟩ := zj4u.1 hy
      simp at hp1
      subst hp1
      rw [e1, e2]
      exact zqW6 (hq.1 p2 hp2)
theorem Gf.fail {q : List (α × List Int)} (h : Gf nx k ok s q) {u : List Int} {a : Int} {t : α} (hu : ∀ x ∈ u, 0 ≤ x ∧ x < k) (a0 : 0 ≤ a) (a1 : a < k) (hr : grun nx s u = some t) (hn : nx t a = none) : ∃ x ∈ gfails nx k q, x.1 = t ∧ x.2.2 = a ∧ slxC x.2.1 (u ++ [a]) ≤ 0 := by
  obtain ⟨n, n0, n1, e1, e2⟩ := h.all u t hu hr
  exact ⟨((ix q n).1, (ix q n).2 ++ [a], a), zj4u.2 ⟨ix q n, zmAQ n0 n1, ⟨a0, a1⟩, by rw [e1]; exact hn, rfl, rfl⟩, e1, rfl, zYYc e2⟩
theorem zZpn : ∀ {w : List Int} {s : α}, grun nx s w = none → ∃ u a v t, w = u ++ a :: v ∧ grun nx s u = some t ∧ nx t a = none
  | [], s, h => by simp [grun] at h
  | a :: w, s, h => by
    cases hx : nx s a with
    | none => exact ⟨[], a, w, s, rfl, rfl, hx⟩
    | some t =>
      simp only [grun, hx, Option.bind_some] at h
      obtain ⟨u, b, v, t', e, h1, h2⟩ := zZpn h
      exact ⟨a :: u, b, v, t', by rw [e]; rfl, by simp only [grun, hx, Option.bind_some]; exact h1, h2⟩
structure Gst (nx : α → Int → Option α) (k : Int) (ok : α → Prop) (N : Nat) (s : α) (i a : Int) (q : List (α × List Int)) : Prop where
  i0 : 0 ≤ i
  gi : Gi nx k ok s i a q
  fu : ∃ (f : Nat) (q0 : List (α × List Int)), (N : Int) + 1 ≤ f + i ∧ gbfs nx k f i q0 = gplaces nx k N s ∧ q = grow nx (ix q0 i) q0 a ∧ (0 < a → i < q0.length)
theorem Gst.init (hG : GrOk nx k ok N) (hs : ok s) : Gst nx k ok N s 0 0 [(s, [])] := by
  refine ⟨by omega, ⟨Gq.init hs, fun n n0 n1 => ?_, fun j n j0 jn n1 => ?_, fun j b t j0 j1 jb => ?_⟩, N + 1, [(s, [])], by omega, rfl, rfl, by omega⟩
  · simp at n1; omega
  · simp at n1; omega
  · omega
theorem Gst.step (hG : GrOk nx k ok N) {i a : Int} {q : List (α × List Int)} (h : Gst nx k ok N s i a q) (i1 : i < q.length) (a0 : 0 ≤ a) (a1 : a < k) : Gst nx k ok N s i (a + 1) (gstep nx (ix q i) q a) := by
  obtain ⟨f, q0, h1, h2, h3, h4⟩ := h.fu
  have hq0 : i < q0.length := by
    by_cases e : 0 < a
    · exact h4 e
    · have : a = 0 := by omega
      subst this
      rw [h3, zV0b] at i1; exact i1
  have hix : ix q i = ix q0 i := by
    obtain ⟨l, e⟩ := zpgs (nx := nx) (p := ix q0 i) (q := q0) a.toNat
    rw [show ((a.toNat : Nat) : Int) = a by omega, ← h3] at e
    rw [e, zT8e h.i0 hq0]
  refine ⟨h.i0, h.gi.step hG h.i0 i1 a0 a1, f, q0, h1, h2, ?_, fun _ => hq0⟩
  rw [zIYZ a0, ← h3, hix]
theorem Gst.stay (hG : GrOk nx k ok N) {i a : Int} {q : List (α × List Int)} (h : Gst nx k ok N s i a q) (i1 : i < q.length) (a0 : 0 ≤ a) (a1 : a < k) (e : gstep nx (ix q i) q a = q) : Gst nx k ok N s i (a + 1) q := by
  have := h.step hG i1 a0 a1
  rwa [e] at this
theorem Gst.next (hG : GrOk nx k ok N) {i : Int} {q : List (α × List Int)} (h : Gst nx k ok N s i k q) (i1 : i < q.length) : Gst nx k ok N s (i + 1) 0 q := by
  obtain ⟨f, q0, h1, h2, h3, h4⟩ := h.fu
  have hk := hG.k0
  have hq0 : i < q0.length := by
    by_cases e : 0 < k
    · exact h4 e
    · have : k = 0 := by omega
      subst this
      rw [h3, zV0b] at i1; exact i1
  have hi0 := h.i0
  refine ⟨by omega, ⟨h.gi.gq, fun n n0 n1 => ?_, h.gi.asc, fun j b t j0 j1 jb b0 b1 => h.gi.done j b t j0 j1 (by omega) b0 b1⟩, ?_⟩
  · obtain ⟨j, b, j0, j1, r⟩ := h.gi.par n n0 n1
    exact ⟨j, b, j0, by omega, r⟩
  · cases f with
    | zero =>
      exfalso
      have := h.gi.gq.le hG
      obtain ⟨l, e⟩ := zpgs (nx := nx) (p := ix q0 i) (q := q0) k.toNat
      rw [show ((k.toNat : Nat) : Int) = k by omega, ← h3] at e
      rw [e] at this
      simp at this
      omega
    | succ f =>
      rw [zbVX hq0, ← h3] at h2
      exact ⟨f, q, by omega, h2, zV0b.symm, by omega⟩
theorem Gst.pre (hG : GrOk nx k ok N) {i a : Int} {q : List (α × List Int)} (h : Gst nx k ok N s i a q) (i1 : i < q.length) (a0 : 0 ≤ a) (a1 : a ≤ k) : ∃ r, gplaces nx k N s = q ++ r := by
  have : ∀ n : Nat, ∀ (a : Int) (q : List (α × List Int)), k - a ≤ n → 0 ≤ a → a ≤ k → i < q.length → Gst nx k ok N s i a q → ∃ r, gplaces nx k N s = q ++ r := by
    intro n
    induction n with
    | zero =>
      intro a q hn a0 a1 i1 h
      have : a = k := by omega
      subst this
      obtain ⟨f, q0, h1, h2, h3, _⟩ := (h.next hG i1).fu
      rw [zV0b] at h3
      subst h3
      rw [← h2]
      exact z6hu hG.k0
    | succ n ih =>
      intro a q hn a0 a1 i1 h
      by_cases e : a = k
      · subst e
        obtain ⟨f, q0, h1, h2, h3, _⟩ := (h.next hG i1).fu
        rw [zV0b] at h3
        subst h3
        rw [← h2]
        exact z6hu hG.k0
      · obtain ⟨l, el⟩ := zngd (nx := nx) (p := ix q i) (q := q) (a := a)
        obtain ⟨r, hr⟩ := ih (a + 1) _ (by omega) (by omega) (by omega) (by rw [el]; simp; omega) (h.step hG i1 a0 (by omega))
        rw [el] at hr
        exact ⟨l ++ r, by rw [hr, List.append_assoc]⟩
  exact this (k - a).toNat a q (by omega) a0 a1 i1 h
theorem Gst.fin {i : Int} {q : List (α × List Int)} (h : Gst nx k ok N s i 0 q) (i1 : ¬ i < q.length) : q = gplaces nx k N s := by
  obtain ⟨f, q0, h1, h2, h3, _⟩ := h.fu
  rw [zV0b] at h3
  subst h3
  rw [← h2, zM97 i1]
def Nof (nx : α → Int → Option α) (k : Int) (i a : Int) (q : List (α × List Int)) : Prop := (∀ j, 0 ≤ j → j < i → ∀ b, 0 ≤ b → b < k → nx (ix q j).1 b ≠ none) ∧ ∀ b, 0 ≤ b → b < a → nx (ix q i).1 b ≠ none
theorem Nof.init {q : List (α × List Int)} : Nof nx k 0 0 q := ⟨fun j j0 j1 => by omega, fun b b0 b1 => by omega⟩
theorem Nof.app {i a : Int} {q r : List (α × List Int)} (h : Nof nx k i a q) (i0 : 0 ≤ i) (i1 : i < q.length) : Nof nx k i a (q ++ r) := ⟨fun j j0 j1 => by rw [zT8e j0 (by omega)]; exact h.1 j j0 j1, by rw [zT8e i0 i1]; exact h.2⟩
theorem Nof.step {i a : Int} {q : List (α × List Int)} (h : Nof nx k i a q) (hn : nx (ix q i).1 a ≠ none) : Nof nx k i (a + 1) q := ⟨h.1, fun b b0 b1 => by
  by_cases e : b = a
  · subst e; exact hn
  · exact h.2 b b0 (by omega)⟩
theorem Nof.next {i : Int} {q : List (α × List Int)} (h : Nof nx k i k q) : Nof nx k (i + 1) 0 q := ⟨fun j j0 j1 b b0 b1 => by
  by_cases e : j = i
  · subst e; exact h.2 b b0 b1
  · exact h.1 j j0 (by omega) b b0 b1, fun b b0 b1 => by omega⟩
def gfirst (nx : α → Int → Option α) (k : Int) (N : Nat) (s : α) : Option (List Int) := (gfails nx k (gplaces nx k N s)).head?.map fun x => x.2.1
theorem z2RY (hG : GrOk nx k ok N) {i a : Int} {q : List (α × List Int)} (h : Gst nx k ok N s i a q) (hn : Nof nx k i a q) (i1 : i < q.length) (a0 : 0 ≤ a) (a1 : a < k) (h3 : nx (ix q i).1 a = none) : gfirst nx k N s = some ((ix q i).2 ++ [a]) := by
  obtain ⟨r, hr⟩ := h.pre hG i1 a0 (by omega)
  unfold gfirst
  rw [hr, z7Mx h.i0 i1 a0 a1 hn.1 hn.2 h3]; rfl
theorem zjxQ {i : Int} {q : List (α × List Int)} (h : Gst nx k ok N s i 0 q) (hn : Nof nx k i 0 q) (i1 : ¬ i < q.length) : gfirst nx k N s = none := by
  unfold gfirst
  rw [← h.fin i1, zABI fun j j0 j1 b b0 b1 => hn.1 j j0 (by omega) b b0 b1]; rfl
theorem ziy8 (hG : GrOk nx k ok N) (hs : ok s) {w : List Int} (h : gfirst nx k N s = some w) : (∃ u a t, w = u ++ [a] ∧ (∀ x ∈ w, 0 ≤ x ∧ x < k) ∧ grun nx s u = some t ∧ nx t a = none) ∧ ∀ u a t, (∀ x ∈ u, 0 ≤ x ∧ x < k) → 0 ≤ a → a < k → grun nx s u = some t → nx t a = none → slxC w (u ++ [a]) ≤ 0 := by
  have hf := zHpW hG hs
  unfold gfirst at h
  obtain ⟨x, hx, rfl⟩ := Option.map_eq_some_iff.1 h
  have hm : x ∈ gfails nx k (gplaces nx k N s) := List.mem_of_head? hx
  refine ⟨?_, fun u a t hu a0 a1 hr hn => ?_⟩
  · obtain ⟨p, hp, h1, h2, h3, h4⟩ := zj4u.1 hm
    obtain ⟨n, hn, rfl⟩ := List.mem_iff_getElem.1 hp
    have := hf.run n (by omega) (by omega)
    rw [zrZW hn] at this
    refine ⟨_, _, _, h4, fun y hy => ?_, this.1, h2⟩
    rw [h4] at hy
    rcases List.mem_append.1 hy with hy | hy
    · exact this.2 y hy
    · simp at hy; subst hy; exact h1
  · obtain ⟨y, hy, _, _, h3⟩ := hf.fail hu a0 a1 hr hn
    have ha := zg9w (nx := nx) (k := k) hf.asc
    cases hg : gfails nx k (gplaces nx k N s) with
    | nil => rw [hg] at hx; simp at hx
    | cons z r =>
      rw [hg] at hx hy ha
      simp at hx
      subst hx
      rcases List.mem_cons.1 hy with rfl | hy
      · exact h3
      · have := (List.pairwise_cons.1 ha).1 y hy
        exact zvz8.trans _ _ _ (by omega) h3
theorem zwvp (hG : GrOk nx k ok N) (hs : ok s) (h : gfirst nx k N s = none) : ∀ w, (∀ x ∈ w, 0 ≤ x ∧ x < k) → grun nx s w ≠ none := by
  intro w hw hn
  have hf := zHpW hG hs
  obtain ⟨u, a, v, t, rfl, h1, h2⟩ := zZpn hn
  have ha := hw a (by simp)
  obtain ⟨x, hx, _⟩ := hf.fail (fun y hy => hw y (by simp [hy])) ha.1 ha.2 h1 h2
  unfold gfirst at h
  rw [Option.map_eq_none_iff, List.head?_eq_none_iff] at h
  rw [h] at hx
  simp at hx
end
end Ab
