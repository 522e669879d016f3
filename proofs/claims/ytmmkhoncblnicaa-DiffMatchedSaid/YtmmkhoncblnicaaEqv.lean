/- A search through a graph whose moves may fail: the places, each with its first word. Two machines side by side: the first word with different outputs, by the program and by the document. Condition: none. -/
import Derived.Test.YtmmkhoncblnicaaBfsOrd
import Derived.Test.YtmmkhoncblnicaaTrimW
import Derived.Test.YtmmkhoncblnicaaTrimT
set_option linter.all false
set_option maxRecDepth 100000
set_option maxHeartbeats 4000000
namespace Ab
section
variable {α : Type} [DecidableEq α] [Inhabited α]
/-- A state is there. -/
def hasG (q : List (α × List Int)) (t : α) : Bool := q.any fun x => decide (x.1 = t)
theorem hasG_iff {q : List (α × List Int)} {t : α} : hasG q t = true ↔ t ∈ q.map (·.1) := by
  simp [hasG]
def gstep (nx : α → Int → Option α) (p : α × List Int) (q : List (α × List Int)) (a : Int) : List (α × List Int) :=
  match nx p.1 a with
  | none => q
  | some t => if hasG q t = true then q else q ++ [(t, p.2 ++ [a])]
def grow (nx : α → Int → Option α) (p : α × List Int) (q : List (α × List Int)) (k : Int) : List (α × List Int) := (List.range k.toNat).foldl (fun q a => gstep nx p q (a : Nat)) q
theorem grow_zero {nx : α → Int → Option α} {p : α × List Int} {q : List (α × List Int)} : grow nx p q 0 = q := rfl
theorem grow_succ {nx : α → Int → Option α} {p : α × List Int} {q : List (α × List Int)} {a : Int} (h : 0 ≤ a) : grow nx p q (a + 1) = gstep nx p (grow nx p q a) a := by
  unfold grow
  rw [show (a + 1).toNat = a.toNat + 1 by omega, List.range_succ, List.foldl_append]
  simp only [List.foldl_cons, List.foldl_nil]
  rw [show ((a.toNat : Nat) : Int) = a by omega]
def gbfs (nx : α → Int → Option α) (k : Int) : Nat → Int → List (α × List Int) → List (α × List Int)
  | 0, _, q => q
  | f + 1, i, q => if i < q.length then gbfs nx k f (i + 1) (grow nx (ix q i) q k) else q
def gplaces (nx : α → Int → Option α) (k : Int) (N : Nat) (s : α) : List (α × List Int) := gbfs nx k (N + 1) 0 [(s, [])]
theorem gbfs_end {nx : α → Int → Option α} {k : Int} {f : Nat} {i : Int} {q : List (α × List Int)} (h : ¬ i < (q.length : Int)) : gbfs nx k f i q = q := by
  cases f with
  | zero => rfl
  | succ f => unfold gbfs; rw [if_neg h]
theorem gbfs_go {nx : α → Int → Option α} {k : Int} {f : Nat} {i : Int} {q : List (α × List Int)} (h : i < (q.length : Int)) : gbfs nx k (f + 1) i q = gbfs nx k f (i + 1) (grow nx (ix q i) q k) := by
  conv => lhs; unfold gbfs
  rw [if_pos h]
theorem gstep_none {nx : α → Int → Option α} {p : α × List Int} {q : List (α × List Int)} {a : Int} (h : nx p.1 a = none) : gstep nx p q a = q := by unfold gstep; rw [h]
theorem gstep_has {nx : α → Int → Option α} {p : α × List Int} {q : List (α × List Int)} {a : Int} {t : α} (h : nx p.1 a = some t) (hh : hasG q t = true) : gstep nx p q a = q := by unfold gstep; rw [h]; exact if_pos hh
theorem gstep_new {nx : α → Int → Option α} {p : α × List Int} {q : List (α × List Int)} {a : Int} {t : α} (h : nx p.1 a = some t) (hh : hasG q t = false) : gstep nx p q a = q ++ [(t, p.2 ++ [a])] := by unfold gstep; rw [h]; exact if_neg (by simp [hh])
theorem gstep_pre {nx : α → Int → Option α} {p : α × List Int} {q : List (α × List Int)} {a : Int} : ∃ l, gstep nx p q a = q ++ l := by
  unfold gstep
  split
  · exact ⟨[], by simp⟩
  · split
    · exact ⟨[], by simp⟩
    · exact ⟨_, rfl⟩
theorem grow_pre {nx : α → Int → Option α} {p : α × List Int} {q : List (α × List Int)} : ∀ k : Nat, ∃ l, grow nx p q (k : Int) = q ++ l
  | 0 => ⟨[], by simp [grow]⟩
  | k + 1 => by
    obtain ⟨l, e⟩ := grow_pre (nx := nx) (p := p) (q := q) k
    rw [show ((k + 1 : Nat) : Int) = (k : Int) + 1 by omega, grow_succ (by omega), e]
    obtain ⟨m, e2⟩ := gstep_pre (nx := nx) (p := p) (q := q ++ l) (a := k)
    exact ⟨l ++ m, by rw [e2, List.append_assoc]⟩
theorem gbfs_pre {nx : α → Int → Option α} {k : Int} (h : 0 ≤ k) : ∀ {f : Nat} {i : Int} {q : List (α × List Int)}, ∃ l, gbfs nx k f i q = q ++ l
  | 0, i, q => ⟨[], by simp [gbfs]⟩
  | f + 1, i, q => by
    unfold gbfs
    split
    · obtain ⟨l, e⟩ := grow_pre (nx := nx) (p := ix q i) (q := q) k.toNat
      rw [show ((k.toNat : Nat) : Int) = k by omega] at e
      obtain ⟨m, e2⟩ := gbfs_pre h (nx := nx) (f := f) (i := i + 1) (q := q ++ l)
      rw [e]
      exact ⟨l ++ m, by rw [e2, List.append_assoc]⟩
    · exact ⟨[], by simp⟩
/-- A graph with at most N states. -/
structure GrOk (nx : α → Int → Option α) (k : Int) (ok : α → Prop) (N : Nat) : Prop where
  k0 : 0 ≤ k
  step : ∀ x a y, ok x → 0 ≤ a → a < k → nx x a = some y → ok y
  fin : ∀ l : List α, l.Nodup → (∀ x ∈ l, ok x) → l.length ≤ N
/-- What holds of a queue. -/
structure Gq (ok : α → Prop) (s : α) (q : List (α × List Int)) : Prop where
  nd : (q.map (·.1)).Nodup
  rng : ∀ p ∈ q, ok p.1
  pos : 0 < q.length
  head : ix q 0 = (s, [])
  len : ∀ j, 0 ≤ j → j < (q.length : Int) → ((ix q j).2.length : Int) ≤ j
  ne : ∀ j, 0 < j → j < (q.length : Int) → (ix q j).2 ≠ []
variable {nx : α → Int → Option α} {k : Int} {ok : α → Prop} {N : Nat} {s : α}
theorem Gq.le (hG : GrOk nx k ok N) {q : List (α × List Int)} (h : Gq ok s q) : q.length ≤ N := by
  have := hG.fin _ h.nd (fun x hx => by
    obtain ⟨p, hp, rfl⟩ := List.mem_map.1 hx
    exact h.rng p hp)
  simpa using this
theorem Gq.init (h : ok s) : Gq ok s [(s, [])] := by
  refine ⟨by simp, by simpa using h, by simp, rfl, fun j j0 j1 => ?_, fun j j0 j1 => ?_⟩
  · simp at j1
    rw [show j = 0 by omega]; simp [ix]
  · simp at j1; omega
theorem Gq.add {q : List (α × List Int)} (h : Gq ok s q) {t : α} {w : List Int} (ht : ok t) (hn : hasG q t = false) (hw : w ≠ []) (hl : w.length ≤ q.length) : Gq ok s (q ++ [(t, w)]) := by
  have hq := h.pos
  have hn' : t ∉ q.map (·.1) := fun hm => by rw [hasG_iff.2 hm] at hn; simp at hn
  refine ⟨?_, fun p hp => ?_, by simp, by rw [ixa_app (by omega) (by omega)]; exact h.head, fun j j0 j1 => ?_, fun j j0 j1 => ?_⟩
  · rw [List.map_append, List.nodup_append]
    refine ⟨h.nd, by simp, fun a ha b hb => ?_⟩
    simp at hb; subst hb
    exact fun e => hn' (e ▸ ha)
  · rcases List.mem_append.1 hp with hp | hp
    · exact h.rng p hp
    · simp at hp; subst hp; exact ht
  · by_cases hj : j < (q.length : Int)
    · rw [ixa_app j0 hj]; exact h.len j j0 hj
    · simp at j1
      rw [show j = (q.length : Int) by omega, ixa_last]
      simp; omega
  · by_cases hj : j < (q.length : Int)
    · rw [ixa_app (by omega) hj]; exact h.ne j j0 hj
    · simp at j1
      rw [show j = (q.length : Int) by omega, ixa_last]
      exact hw
theorem Gq.step (hG : GrOk nx k ok N) {q : List (α × List Int)} (h : Gq ok s q) {p : α × List Int} (hp : ok p.1) (hl : p.2.length < q.length) {a : Int} (a0 : 0 ≤ a) (a1 : a < k) : Gq ok s (gstep nx p q a) := by
  cases ht : nx p.1 a with
  | none => rw [gstep_none ht]; exact h
  | some t =>
    cases hh : hasG q t with
    | true => rw [gstep_has ht hh]; exact h
    | false => rw [gstep_new ht hh]; exact h.add (hG.step _ _ _ hp a0 a1 ht) hh (by simp) (by simp; omega)
/-- The queue when input a of place i is next. -/
structure Gi (nx : α → Int → Option α) (k : Int) (ok : α → Prop) (s : α) (i a : Int) (q : List (α × List Int)) : Prop where
  gq : Gq ok s q
  par : ∀ n, 0 < n → n < (q.length : Int) → ∃ j b, 0 ≤ j ∧ (j < i ∨ j = i ∧ b < a) ∧ j < n ∧ (0 ≤ b ∧ b < k) ∧ nx (ix q j).1 b = some (ix q n).1 ∧ (ix q n).2 = (ix q j).2 ++ [b]
  asc : ∀ j n, 0 ≤ j → j < n → n < (q.length : Int) → slxC (ix q j).2 (ix q n).2 < 0
  done : ∀ j b t, 0 ≤ j → j < (q.length : Int) → (j < i ∨ j = i ∧ b < a) → 0 ≤ b → b < k → nx (ix q j).1 b = some t → ∃ n, 0 ≤ n ∧ n < (q.length : Int) ∧ (ix q n).1 = t ∧ slxC (ix q n).2 ((ix q j).2 ++ [b]) ≤ 0
theorem Gi.lt_new {i a : Int} {q : List (α × List Int)} (h : Gi nx k ok s i a q) (i1 : i < q.length) : ∀ n, 0 ≤ n → n < (q.length : Int) → slxC (ix q n).2 ((ix q i).2 ++ [a]) < 0 := by
  intro n n0 n1
  by_cases e : n = 0
  · subst e
    rw [h.gq.head]
    exact slx_nil (by simp)
  · obtain ⟨j, b, j0, j1, j2, b0, _, e⟩ := h.par n (by omega) n1
    rw [e]
    rcases j1 with j1 | ⟨rfl, j1⟩
    · exact slx_app (h.asc j i j0 j1 i1)
    · exact slx_same j1
theorem Gi.step (hG : GrOk nx k ok N) {i a : Int} {q : List (α × List Int)} (h : Gi nx k ok s i a q) (i0 : 0 ≤ i) (i1 : i < q.length) (a0 : 0 ≤ a) (a1 : a < k) : Gi nx k ok s i (a + 1) (gstep nx (ix q i) q a) := by
  have hr := h.gq.rng _ (ix_mem i0 i1)
  have hl := h.gq.len i i0 i1
  have hlt := h.lt_new i1
  have hgq := h.gq.step hG hr (by omega) a0 a1
  have same : gstep nx (ix q i) q a = q → (∀ t, nx (ix q i).1 a = some t → hasG q t = true) → Gi nx k ok s i (a + 1) (gstep nx (ix q i) q a) := fun e hh => by
    rw [e] at hgq ⊢
    refine ⟨hgq, fun n n0 n1 => ?_, h.asc, fun j b t j0 j1 jb b0 b1 ht => ?_⟩
    · obtain ⟨j, b, j0, j1, j2, b0, e⟩ := h.par n n0 n1
      exact ⟨j, b, j0, by omega, j2, b0, e⟩
    · by_cases e : j = i ∧ b = a
      · obtain ⟨rfl, rfl⟩ := e
        have hh := hh t ht
        rw [hasG_iff] at hh
        obtain ⟨p, hp, e⟩ := List.mem_map.1 hh
        obtain ⟨n, hn, rfl⟩ := List.mem_iff_getElem.1 hp
        rw [← ix_nat hn] at e
        exact ⟨(n : Int), by omega, by omega, e, by have := hlt (n : Int) (by omega) (by omega); omega⟩
      · exact h.done j b t j0 j1 (by omega) b0 b1 ht
  cases hx : nx (ix q i).1 a with
  | none => exact same (gstep_none hx) fun t ht => by rw [hx] at ht; simp at ht
  | some t =>
    cases hh : hasG q t with
    | true => exact same (gstep_has hx hh) fun t' ht => by rw [hx] at ht; injection ht with ht; subst ht; exact hh
    | false =>
      rw [gstep_new hx hh] at hgq ⊢
      have hlen : ((q ++ [(t, (ix q i).2 ++ [a])]).length : Int) = q.length + 1 := by simp
      refine ⟨hgq, fun n n0 n1 => ?_, fun j n j0 jn n1 => ?_, fun j b t' j0 j1 jb b0 b1 ht => ?_⟩
      · rw [hlen] at n1
        by_cases e : n < (q.length : Int)
        · obtain ⟨j, b, j0, j1, j2, b0, e'⟩ := h.par n n0 e
          exact ⟨j, b, j0, by omega, j2, b0, by rw [ixa_app (by omega) e, ixa_app j0 (by omega)]; exact e'⟩
        · have : n = (q.length : Int) := by omega
          subst this
          exact ⟨i, a, i0, by omega, i1, ⟨a0, a1⟩, by rw [ixa_last, ixa_app i0 i1]; exact ⟨hx, rfl⟩⟩
      · rw [hlen] at n1
        by_cases e : n < (q.length : Int)
        · rw [ixa_app (by omega) e, ixa_app j0 (by omega)]
          exact h.asc j n j0 jn e
        · have : n = (q.length : Int) := by omega
          subst this
          rw [ixa_last, ixa_app j0 jn]
          exact hlt j j0 jn
      · rw [hlen] at j1 ⊢
        by_cases jq : j < (q.length : Int)
        · rw [ixa_app j0 jq] at ht ⊢
          by_cases e : j = i ∧ b = a
          · obtain ⟨rfl, rfl⟩ := e
            rw [hx] at ht
            injection ht with ht
            subst ht
            exact ⟨q.length, by omega, by omega, by rw [ixa_last], by rw [ixa_last]; exact Int.le_of_eq (slxC_ok.refl _)⟩
          · obtain ⟨n, n0, n1, e1, e2⟩ := h.done j b t' j0 jq (by omega) b0 b1 ht
            exact ⟨n, n0, by omega, by rw [ixa_app n0 n1]; exact e1, by rw [ixa_app n0 n1]; exact e2⟩
        · omega
/-- A row of steps. -/
theorem Gi.row (hG : GrOk nx k ok N) {i : Int} {q : List (α × List Int)} (i0 : 0 ≤ i) (i1 : i < q.length) : ∀ (n : Nat), (n : Int) ≤ k → Gi nx k ok s i 0 q → Gi nx k ok s i n (grow nx (ix q i) q n) ∧ (∀ j, 0 ≤ j → j < (q.length : Int) → ix (grow nx (ix q i) q n) j = ix q j) ∧ q.length ≤ (grow nx (ix q i) q n).length := by
  intro n
  induction n with
  | zero => intro _ h; exact ⟨h, fun _ _ _ => rfl, Nat.le_refl _⟩
  | succ n ih =>
    intro hk h
    obtain ⟨h1, h2, h3⟩ := ih (by omega) h
    rw [show ((n + 1 : Nat) : Int) = (n : Int) + 1 by omega, grow_succ (by omega)]
    have e := h2 i i0 i1
    have st := h1.step hG i0 (by omega) (by omega) (by omega)
    rw [e] at st
    obtain ⟨l, el⟩ := gstep_pre (nx := nx) (p := ix q i) (q := grow nx (ix q i) q n) (a := n)
    refine ⟨st, fun j j0 j1 => ?_, by rw [el]; simp; omega⟩
    rw [el, ixa_app j0 (by omega)]
    exact h2 j j0 j1
theorem gplaces_gi (hG : GrOk nx k ok N) (hs : ok s) : ∃ i, ((gplaces nx k N s).length : Int) ≤ i ∧ Gi nx k ok s i 0 (gplaces nx k N s) := by
  have hk := hG.k0
  have go : ∀ (f : Nat) (i : Int) (q : List (α × List Int)), 0 ≤ i → (N : Int) + 1 ≤ f + i → Gi nx k ok s i 0 q → ∃ i', ((gbfs nx k f i q).length : Int) ≤ i' ∧ Gi nx k ok s i' 0 (gbfs nx k f i q) := by
    intro f
    induction f with
    | zero => intro i q _ hf h; exact ⟨i, by have := h.gq.le hG; show (q.length : Int) ≤ i; omega, h⟩
    | succ f ih =>
      intro i q i0 hf h
      by_cases hi : i < q.length
      · rw [gbfs_go hi]
        have := (Gi.row hG i0 hi k.toNat (by omega) h).1
        rw [show ((k.toNat : Nat) : Int) = k by omega] at this
        refine ih _ _ (by omega) (by omega) ⟨this.gq, fun n n0 n1 => ?_, this.asc, fun j b t j0 j1 jb b0 b1 => this.done j b t j0 j1 (by omega) b0 b1⟩
        obtain ⟨j, b, j0, j1, r⟩ := this.par n n0 n1
        exact ⟨j, b, j0, by omega, r⟩
      · rw [gbfs_end hi]; exact ⟨i, by omega, h⟩
  refine go _ 0 _ (by omega) (by omega) ⟨Gq.init hs, fun n n0 n1 => ?_, fun j n j0 jn n1 => ?_, fun j b t j0 j1 jb => ?_⟩
  · simp at n1; omega
  · simp at n1; omega
  · omega
/-- The state after a word, where all moves are there. -/
def grun (nx : α → Int → Option α) : α → List Int → Option α
  | s, [] => some s
  | s, a :: w => (nx s a).bind fun t => grun nx t w
theorem grun_app : ∀ {u v : List Int} {s : α}, grun nx s (u ++ v) = (grun nx s u).bind fun t => grun nx t v
  | [], _, _ => rfl
  | a :: u, v, s => by
    simp only [List.cons_append, grun]
    cases nx s a with
    | none => rfl
    | some t => exact grun_app (u := u)
theorem grun_snoc {u : List Int} {a : Int} {s : α} : grun nx s (u ++ [a]) = (grun nx s u).bind fun t => nx t a := by
  rw [grun_app]
  cases grun nx s u with
  | none => rfl
  | some t => simp only [Option.bind_some, grun]; cases nx t a <;> rfl
/-- The words of the places. -/
structure Gf (nx : α → Int → Option α) (k : Int) (ok : α → Prop) (s : α) (q : List (α × List Int)) : Prop where
  gq : Gq ok s q
  run : ∀ n, 0 ≤ n → n < (q.length : Int) → grun nx s (ix q n).2 = some (ix q n).1 ∧ ∀ x ∈ (ix q n).2, 0 ≤ x ∧ x < k
  asc : ∀ j n, 0 ≤ j → j < n → n < (q.length : Int) → slxC (ix q j).2 (ix q n).2 < 0
  all : ∀ w t, (∀ x ∈ w, 0 ≤ x ∧ x < k) → grun nx s w = some t → ∃ n, 0 ≤ n ∧ n < (q.length : Int) ∧ (ix q n).1 = t ∧ slxC (ix q n).2 w ≤ 0
theorem gplaces_gf (hG : GrOk nx k ok N) (hs : ok s) : Gf nx k ok s (gplaces nx k N s) := by
  obtain ⟨i, hi, h⟩ := gplaces_gi hG hs
  refine ⟨h.gq, ?_, h.asc, ?_⟩
  · have : ∀ n : Nat, ∀ j : Int, j < n → 0 ≤ j → j < ((gplaces nx k N s).length : Int) → grun nx s (ix (gplaces nx k N s) j).2 = some (ix (gplaces nx k N s) j).1 ∧ ∀ x ∈ (ix (gplaces nx k N s) j).2, 0 ≤ x ∧ x < k := by
      intro n
      induction n with
      | zero => intro j; omega
      | succ n ih =>
        intro n' kn k0 k1
        by_cases e : n' = 0
        · subst e; rw [h.gq.head]; exact ⟨rfl, by simp⟩
        · obtain ⟨j, b, j0, _, j2, b0, e1, e2⟩ := h.par n' (by omega) k1
          obtain ⟨r1, r2⟩ := ih j (by omega) j0 (by omega)
          rw [e2]
          refine ⟨by rw [grun_snoc, r1]; exact e1, fun x hx => ?_⟩
          rcases List.mem_append.1 hx with hx | hx
          · exact r2 x hx
          · simp at hx; subst hx; exact b0
    exact fun n n0 n1 => this (n.toNat + 1) n (by omega) n0 n1
  · intro w
    have : ∀ n : Nat, ∀ (w : List Int) (t : α), w.length = n → (∀ x ∈ w, 0 ≤ x ∧ x < k) → grun nx s w = some t → ∃ n, 0 ≤ n ∧ n < ((gplaces nx k N s).length : Int) ∧ (ix (gplaces nx k N s) n).1 = t ∧ slxC (ix (gplaces nx k N s) n).2 w ≤ 0 := by
      intro n
      induction n with
      | zero =>
        intro w t hw _ hr
        have : w = [] := List.eq_nil_of_length_eq_zero hw
        subst this
        injection hr with hr
        exact ⟨0, by omega, by have := h.gq.pos; omega, by rw [h.gq.head]; exact hr, by rw [h.gq.head]; exact Int.le_of_eq (slxC_ok.refl _)⟩
      | succ n ih =>
        intro w t hw hx hr
        have hne : w ≠ [] := by intro e; subst e; simp at hw
        have e : w = w.dropLast ++ [w.getLast hne] := (List.dropLast_concat_getLast hne).symm
        generalize w.dropLast = u at e
        generalize w.getLast hne = a at e
        subst e
        rw [grun_snoc] at hr
        obtain ⟨t', hu, hr⟩ := Option.bind_eq_some_iff.1 hr
        obtain ⟨j, j0, j1, e1, e2⟩ := ih u t' (by simpa using hw) (fun x h => hx x (by simp [h])) hu
        have ha := hx a (by simp)
        obtain ⟨n, n0, n1, e3, e4⟩ := h.done j a t j0 j1 (by omega) ha.1 ha.2 (by rw [e1]; exact hr)
        exact ⟨n, n0, n1, e3, slxC_ok.trans _ _ _ e4 (slx_leapp e2)⟩
    exact fun t => this w.length w t rfl
/-! ### The moves that fail -/
def gfails (nx : α → Int → Option α) (k : Int) (q : List (α × List Int)) : List (α × List Int × Int) := q.flatMap fun p => ((List.range k.toNat).filter fun a => decide (nx p.1 (a : Nat) = none)).map fun a => (p.1, p.2 ++ [((a : Nat) : Int)], ((a : Nat) : Int))
theorem gfails_app {q r : List (α × List Int)} : gfails nx k (q ++ r) = gfails nx k q ++ gfails nx k r := by simp [gfails]
theorem gfails_mem {q : List (α × List Int)} {x : α × List Int × Int} : x ∈ gfails nx k q ↔ ∃ p ∈ q, (0 ≤ x.2.2 ∧ x.2.2 < k) ∧ nx p.1 x.2.2 = none ∧ x.1 = p.1 ∧ x.2.1 = p.2 ++ [x.2.2] := by
  unfold gfails
  simp only [List.mem_flatMap, List.mem_map, List.mem_filter, List.mem_range, decide_eq_true_eq]
  constructor
  · rintro ⟨p, hp, a, ⟨h1, h2⟩, rfl⟩
    exact ⟨p, hp, by dsimp only; omega, h2, rfl, rfl⟩
  · rintro ⟨p, hp, h1, h2, h3, h4⟩
    obtain ⟨x1, x2, x3⟩ := x
    dsimp only at h1 h2 h3 h4
    refine ⟨p, hp, x3.toNat, ⟨by omega, by rw [show ((x3.toNat : Nat) : Int) = x3 by omega]; exact h2⟩, ?_⟩
    rw [show ((x3.toNat : Nat) : Int) = x3 by omega, h3, h4]
/-- The fails of one place before an input. -/
def gfrow (nx : α → Int → Option α) (p : α × List Int) (a : Int) : List (α × List Int × Int) := ((List.range a.toNat).filter fun a => decide (nx p.1 (a : Nat) = none)).map fun a => (p.1, p.2 ++ [((a : Nat) : Int)], ((a : Nat) : Int))
theorem gfrow_zero {p : α × List Int} : gfrow nx p 0 = [] := rfl
theorem gfrow_succ {p : α × List Int} {a : Int} (a0 : 0 ≤ a) : gfrow nx p (a + 1) = gfrow nx p a ++ (if nx p.1 a = none then [(p.1, p.2 ++ [a], a)] else []) := by
  unfold gfrow
  rw [show (a + 1).toNat = a.toNat + 1 by omega, List.range_succ, List.filter_append, List.map_append]
  congr 1
  have e : ((a.toNat : Nat) : Int) = a := by omega
  by_cases h : nx p.1 a = none
  · rw [if_pos h]; simp [List.filter_cons, e, h]
  · rw [if_neg h]; simp [List.filter_cons, e, h]
theorem gfails_one {p : α × List Int} : gfails nx k [p] = gfrow nx p k := by simp [gfails, gfrow]
theorem gfrow_nil {p : α × List Int} {a : Int} (h : ∀ b, 0 ≤ b → b < a → nx p.1 b ≠ none) : gfrow nx p a = [] := by
  unfold gfrow
  rw [List.map_eq_nil_iff, List.filter_eq_nil_iff]
  intro b hb
  have := List.mem_range.1 hb
  simpa using h b (by omega) (by omega)
theorem gfails_nil {q : List (α × List Int)} (h : ∀ j, 0 ≤ j → j < (q.length : Int) → ∀ b, 0 ≤ b → b < k → nx (ix q j).1 b ≠ none) : gfails nx k q = [] := by
  rw [List.eq_nil_iff_forall_not_mem]
  intro x hx
  obtain ⟨p, hp, h1, h2, _⟩ := gfails_mem.1 hx
  obtain ⟨n, hn, rfl⟩ := List.mem_iff_getElem.1 hp
  rw [← ix_nat hn] at h2
  exact h n (by omega) (by omega) _ h1.1 h1.2 h2
theorem gfails_head {q r : List (α × List Int)} {i a : Int} (i0 : 0 ≤ i) (i1 : i < q.length) (a0 : 0 ≤ a) (a1 : a < k) (h : ∀ j, 0 ≤ j → j < i → ∀ b, 0 ≤ b → b < k → nx (ix q j).1 b ≠ none) (h2 : ∀ b, 0 ≤ b → b < a → nx (ix q i).1 b ≠ none) (h3 : nx (ix q i).1 a = none) : (gfails nx k (q ++ r)).head? = some ((ix q i).1, (ix q i).2 ++ [a], a) := by
  have e : q = q.take i.toNat ++ ix q i :: q.drop (i + 1).toNat := by rw [← drop_ix i0 i1, List.take_append_drop]
  have e1 : gfails nx k (q.take i.toNat) = [] := gfails_nil fun j j0 j1 b b0 b1 => by
    simp at j1
    have : ix (q.take i.toNat) j = ix q j := by
      conv => rhs; rw [e]
      rw [ixa_app j0 (by simp; omega)]
    rw [this]; exact h j j0 (by omega) b b0 b1
  have e2 : gfails nx k [ix q i] = ((ix q i).1, (ix q i).2 ++ [a], a) :: (gfails nx k [ix q i]).tail := by
    have hd : (gfails nx k [ix q i]).head? = some ((ix q i).1, (ix q i).2 ++ [a], a) := by
      rw [gfails_one]
      have : ∀ n : Nat, a + 1 + n ≤ k → (gfrow nx (ix q i) (a + 1 + n)).head? = some ((ix q i).1, (ix q i).2 ++ [a], a) := by
        intro n
        induction n with
        | zero => intro _; rw [show a + 1 + ((0 : Nat) : Int) = a + 1 by omega, gfrow_succ a0, gfrow_nil h2, if_pos h3]; rfl
        | succ n ih =>
          intro hn
          rw [show a + 1 + ((n + 1 : Nat) : Int) = (a + 1 + n) + 1 by omega, gfrow_succ (by omega)]
          have := ih (by omega)
          cases hg : gfrow nx (ix q i) (a + 1 + n) with
          | nil => rw [hg] at this; simp at this
          | cons x r => rw [hg] at this; simpa using this
      have := this (k - a - 1).toNat (by omega)
      rwa [show a + 1 + ((k - a - 1).toNat : Int) = k by omega] at this
    cases hg : gfails nx k [ix q i] with
    | nil => rw [hg] at hd; simp at hd
    | cons x r => rw [hg] at hd; simp at hd; rw [hd]; rfl
  rw [e, List.append_assoc, gfails_app, e1, List.nil_append, List.cons_append, show ix q i :: (q.drop (i + 1).toNat ++ r) = [ix q i] ++ (q.drop (i + 1).toNat ++ r) from rfl, gfails_app, e2]
  rw [← e]; rfl
/-- The words of the fails ascend. -/
theorem gfails_asc {q : List (α × List Int)} (h : ∀ j n, 0 ≤ j → j < n → n < (q.length : Int) → slxC (ix q j).2 (ix q n).2 < 0) : (gfails nx k q).Pairwise fun x y => slxC x.2.1 y.2.1 < 0 := by
  have hq : q.Pairwise fun x y => slxC x.2 y.2 < 0 := by
    rw [List.pairwise_iff_getElem]
    intro i j hi hj hij
    have := h i j (by omega) (by omega) (by omega)
    rwa [ix_nat hi, ix_nat hj] at this
  clear h
  induction q with
  | nil => exact List.Pairwise.nil
  | cons p q ih =>
    rw [show p :: q = [p] ++ q from rfl, gfails_app, List.pairwise_append]
    rw [List.pairwise_cons] at hq
    refine ⟨?_, ih hq.2, fun x hx y hy => ?_⟩
    · rw [gfails_one]
      unfold gfrow
      rw [List.pairwise_map]
      refine List.Pairwise.filter _ ?_
      refine List.Pairwise.imp ?_ List.pairwise_lt_range
      intro a b hab
      exact slx_same (by omega)
    · obtain ⟨p1, hp1, _, _, _, e1⟩ := gfails_mem.1 hx
      obtain ⟨p2, hp2, _, _, _, e2⟩ := gfails_mem.1 hy
      simp at hp1
      subst hp1
      rw [e1, e2]
      exact slx_app (hq.1 p2 hp2)
/-- A word whose last move alone fails comes not before a fail. -/
theorem Gf.fail {q : List (α × List Int)} (h : Gf nx k ok s q) {u : List Int} {a : Int} {t : α} (hu : ∀ x ∈ u, 0 ≤ x ∧ x < k) (a0 : 0 ≤ a) (a1 : a < k) (hr : grun nx s u = some t) (hn : nx t a = none) : ∃ x ∈ gfails nx k q, x.1 = t ∧ x.2.2 = a ∧ slxC x.2.1 (u ++ [a]) ≤ 0 := by
  obtain ⟨n, n0, n1, e1, e2⟩ := h.all u t hu hr
  exact ⟨((ix q n).1, (ix q n).2 ++ [a], a), gfails_mem.2 ⟨ix q n, ix_mem n0 n1, ⟨a0, a1⟩, by rw [e1]; exact hn, rfl, rfl⟩, e1, rfl, slx_leapp e2⟩
theorem grun_none : ∀ {w : List Int} {s : α}, grun nx s w = none → ∃ u a v t, w = u ++ a :: v ∧ grun nx s u = some t ∧ nx t a = none
  | [], s, h => by simp [grun] at h
  | a :: w, s, h => by
    cases hx : nx s a with
    | none => exact ⟨[], a, w, s, rfl, rfl, hx⟩
    | some t =>
      simp only [grun, hx, Option.bind_some] at h
      obtain ⟨u, b, v, t', e, h1, h2⟩ := grun_none h
      exact ⟨a :: u, b, v, t', by rw [e]; rfl, by simp only [grun, hx, Option.bind_some]; exact h1, h2⟩
/-- A search under way: input a of place i is next. -/
structure Gst (nx : α → Int → Option α) (k : Int) (ok : α → Prop) (N : Nat) (s : α) (i a : Int) (q : List (α × List Int)) : Prop where
  i0 : 0 ≤ i
  gi : Gi nx k ok s i a q
  fu : ∃ (f : Nat) (q0 : List (α × List Int)), (N : Int) + 1 ≤ f + i ∧ gbfs nx k f i q0 = gplaces nx k N s ∧ q = grow nx (ix q0 i) q0 a ∧ (0 < a → i < q0.length)
theorem Gst.init (hG : GrOk nx k ok N) (hs : ok s) : Gst nx k ok N s 0 0 [(s, [])] := by
  refine ⟨by omega, ⟨Gq.init hs, fun n n0 n1 => ?_, fun j n j0 jn n1 => ?_, fun j b t j0 j1 jb => ?_⟩, N + 1, [(s, [])], by omega, rfl, rfl, by omega⟩
  · simp at n1; omega
  · simp at n1; omega
  · omega
theorem Gst.step (hG : GrOk nx k ok N) {i a : Int} {q : List (α × List Int)} (h : Gst nx k ok N s i a q) (i1 : i < q.length) (a0 : 0 ≤ a) (a1 : a < k) : Gst nx k ok N s i (a + 1) (gstep nx (ix q i) q a) := by
  obtain ⟨f, q0, h1, h2, h3, h4⟩ := h.fu
  have hq0 : i < q0.length := by
    by_cases e : 0 < a
    · exact h4 e
    · have : a = 0 := by omega
      subst this
      rw [h3, grow_zero] at i1; exact i1
  have hix : ix q i = ix q0 i := by
    obtain ⟨l, e⟩ := grow_pre (nx := nx) (p := ix q0 i) (q := q0) a.toNat
    rw [show ((a.toNat : Nat) : Int) = a by omega, ← h3] at e
    rw [e, ixa_app h.i0 hq0]
  refine ⟨h.i0, h.gi.step hG h.i0 i1 a0 a1, f, q0, h1, h2, ?_, fun _ => hq0⟩
  rw [grow_succ a0, ← h3, hix]
theorem Gst.stay (hG : GrOk nx k ok N) {i a : Int} {q : List (α × List Int)} (h : Gst nx k ok N s i a q) (i1 : i < q.length) (a0 : 0 ≤ a) (a1 : a < k) (e : gstep nx (ix q i) q a = q) : Gst nx k ok N s i (a + 1) q := by
  have := h.step hG i1 a0 a1
  rwa [e] at this
theorem Gst.next (hG : GrOk nx k ok N) {i : Int} {q : List (α × List Int)} (h : Gst nx k ok N s i k q) (i1 : i < q.length) : Gst nx k ok N s (i + 1) 0 q := by
  obtain ⟨f, q0, h1, h2, h3, h4⟩ := h.fu
  have hk := hG.k0
  have hq0 : i < q0.length := by
    by_cases e : 0 < k
    · exact h4 e
    · have : k = 0 := by omega
      subst this
      rw [h3, grow_zero] at i1; exact i1
  have hi0 := h.i0
  refine ⟨by omega, ⟨h.gi.gq, fun n n0 n1 => ?_, h.gi.asc, fun j b t j0 j1 jb b0 b1 => h.gi.done j b t j0 j1 (by omega) b0 b1⟩, ?_⟩
  · obtain ⟨j, b, j0, j1, r⟩ := h.gi.par n n0 n1
    exact ⟨j, b, j0, by omega, r⟩
  · cases f with
    | zero =>
      exfalso
      have := h.gi.gq.le hG
      obtain ⟨l, e⟩ := grow_pre (nx := nx) (p := ix q0 i) (q := q0) k.toNat
      rw [show ((k.toNat : Nat) : Int) = k by omega, ← h3] at e
      rw [e] at this
      simp at this
      omega
    | succ f =>
      rw [gbfs_go hq0, ← h3] at h2
      exact ⟨f, q, by omega, h2, grow_zero.symm, by omega⟩
theorem Gst.pre (hG : GrOk nx k ok N) {i a : Int} {q : List (α × List Int)} (h : Gst nx k ok N s i a q) (i1 : i < q.length) (a0 : 0 ≤ a) (a1 : a ≤ k) : ∃ r, gplaces nx k N s = q ++ r := by
  have : ∀ n : Nat, ∀ (a : Int) (q : List (α × List Int)), k - a ≤ n → 0 ≤ a → a ≤ k → i < q.length → Gst nx k ok N s i a q → ∃ r, gplaces nx k N s = q ++ r := by
    intro n
    induction n with
    | zero =>
      intro a q hn a0 a1 i1 h
      have : a = k := by omega
      subst this
      obtain ⟨f, q0, h1, h2, h3, _⟩ := (h.next hG i1).fu
      rw [grow_zero] at h3
      subst h3
      rw [← h2]
      exact gbfs_pre hG.k0
    | succ n ih =>
      intro a q hn a0 a1 i1 h
      by_cases e : a = k
      · subst e
        obtain ⟨f, q0, h1, h2, h3, _⟩ := (h.next hG i1).fu
        rw [grow_zero] at h3
        subst h3
        rw [← h2]
        exact gbfs_pre hG.k0
      · obtain ⟨l, el⟩ := gstep_pre (nx := nx) (p := ix q i) (q := q) (a := a)
        obtain ⟨r, hr⟩ := ih (a + 1) _ (by omega) (by omega) (by omega) (by rw [el]; simp; omega) (h.step hG i1 a0 (by omega))
        rw [el] at hr
        exact ⟨l ++ r, by rw [hr, List.append_assoc]⟩
  exact this (k - a).toNat a q (by omega) a0 a1 i1 h
theorem Gst.fin {i : Int} {q : List (α × List Int)} (h : Gst nx k ok N s i 0 q) (i1 : ¬ i < q.length) : q = gplaces nx k N s := by
  obtain ⟨f, q0, h1, h2, h3, _⟩ := h.fu
  rw [grow_zero] at h3
  subst h3
  rw [← h2, gbfs_end i1]
/-- Nothing failed so far. -/
def Nof (nx : α → Int → Option α) (k : Int) (i a : Int) (q : List (α × List Int)) : Prop := (∀ j, 0 ≤ j → j < i → ∀ b, 0 ≤ b → b < k → nx (ix q j).1 b ≠ none) ∧ ∀ b, 0 ≤ b → b < a → nx (ix q i).1 b ≠ none
theorem Nof.init {q : List (α × List Int)} : Nof nx k 0 0 q := ⟨fun j j0 j1 => by omega, fun b b0 b1 => by omega⟩
theorem Nof.app {i a : Int} {q r : List (α × List Int)} (h : Nof nx k i a q) (i0 : 0 ≤ i) (i1 : i < q.length) : Nof nx k i a (q ++ r) := ⟨fun j j0 j1 => by rw [ixa_app j0 (by omega)]; exact h.1 j j0 j1, by rw [ixa_app i0 i1]; exact h.2⟩
theorem Nof.step {i a : Int} {q : List (α × List Int)} (h : Nof nx k i a q) (hn : nx (ix q i).1 a ≠ none) : Nof nx k i (a + 1) q := ⟨h.1, fun b b0 b1 => by
  by_cases e : b = a
  · subst e; exact hn
  · exact h.2 b b0 (by omega)⟩
theorem Nof.next {i : Int} {q : List (α × List Int)} (h : Nof nx k i k q) : Nof nx k (i + 1) 0 q := ⟨fun j j0 j1 b b0 b1 => by
  by_cases e : j = i
  · subst e; exact h.2 b b0 b1
  · exact h.1 j j0 (by omega) b b0 b1, fun b b0 b1 => by omega⟩
/-- The first word that fails. -/
def gfirst (nx : α → Int → Option α) (k : Int) (N : Nat) (s : α) : Option (List Int) := (gfails nx k (gplaces nx k N s)).head?.map fun x => x.2.1
theorem gfirst_hit (hG : GrOk nx k ok N) {i a : Int} {q : List (α × List Int)} (h : Gst nx k ok N s i a q) (hn : Nof nx k i a q) (i1 : i < q.length) (a0 : 0 ≤ a) (a1 : a < k) (h3 : nx (ix q i).1 a = none) : gfirst nx k N s = some ((ix q i).2 ++ [a]) := by
  obtain ⟨r, hr⟩ := h.pre hG i1 a0 (by omega)
  unfold gfirst
  rw [hr, gfails_head h.i0 i1 a0 a1 hn.1 hn.2 h3]; rfl
theorem gfirst_no {i : Int} {q : List (α × List Int)} (h : Gst nx k ok N s i 0 q) (hn : Nof nx k i 0 q) (i1 : ¬ i < q.length) : gfirst nx k N s = none := by
  unfold gfirst
  rw [← h.fin i1, gfails_nil fun j j0 j1 b b0 b1 => hn.1 j j0 (by omega) b b0 b1]; rfl
/-- What the first word is. -/
theorem gfirst_some (hG : GrOk nx k ok N) (hs : ok s) {w : List Int} (h : gfirst nx k N s = some w) : (∃ u a t, w = u ++ [a] ∧ (∀ x ∈ w, 0 ≤ x ∧ x < k) ∧ grun nx s u = some t ∧ nx t a = none) ∧ ∀ u a t, (∀ x ∈ u, 0 ≤ x ∧ x < k) → 0 ≤ a → a < k → grun nx s u = some t → nx t a = none → slxC w (u ++ [a]) ≤ 0 := by
  have hf := gplaces_gf hG hs
  unfold gfirst at h
  obtain ⟨x, hx, rfl⟩ := Option.map_eq_some_iff.1 h
  have hm : x ∈ gfails nx k (gplaces nx k N s) := List.mem_of_head? hx
  refine ⟨?_, fun u a t hu a0 a1 hr hn => ?_⟩
  · obtain ⟨p, hp, h1, h2, h3, h4⟩ := gfails_mem.1 hm
    obtain ⟨n, hn, rfl⟩ := List.mem_iff_getElem.1 hp
    have := hf.run n (by omega) (by omega)
    rw [ix_nat hn] at this
    refine ⟨_, _, _, h4, fun y hy => ?_, this.1, h2⟩
    rw [h4] at hy
    rcases List.mem_append.1 hy with hy | hy
    · exact this.2 y hy
    · simp at hy; subst hy; exact h1
  · obtain ⟨y, hy, _, _, h3⟩ := hf.fail hu a0 a1 hr hn
    have ha := gfails_asc (nx := nx) (k := k) hf.asc
    cases hg : gfails nx k (gplaces nx k N s) with
    | nil => rw [hg] at hx; simp at hx
    | cons z r =>
      rw [hg] at hx hy ha
      simp at hx
      subst hx
      rcases List.mem_cons.1 hy with rfl | hy
      · exact h3
      · have := (List.pairwise_cons.1 ha).1 y hy
        exact slxC_ok.trans _ _ _ (by omega) h3
theorem gfirst_none (hG : GrOk nx k ok N) (hs : ok s) (h : gfirst nx k N s = none) : ∀ w, (∀ x ∈ w, 0 ≤ x ∧ x < k) → grun nx s w ≠ none := by
  intro w hw hn
  have hf := gplaces_gf hG hs
  obtain ⟨u, a, v, t, rfl, h1, h2⟩ := grun_none hn
  have ha := hw a (by simp)
  obtain ⟨x, hx, _⟩ := hf.fail (fun y hy => hw y (by simp [hy])) ha.1 ha.2 h1 h2
  unfold gfirst at h
  rw [Option.map_eq_none_iff, List.head?_eq_none_iff] at h
  rw [h] at hx
  simp at hx
end
end Ab
namespace Ab
abbrev P2 := Int × Int
def pnx (a b : Mly) (p : P2) (x : Int) : Option P2 := if ix (ix a.out p.1) x = ix (ix b.out p.2) x then some (ix (ix a.next p.1) x, ix (ix b.next p.2) x) else none
def pok (a b : Mly) (p : P2) : Prop := (0 ≤ p.1 ∧ p.1 < (a.next.length : Int)) ∧ (0 ≤ p.2 ∧ p.2 < (b.next.length : Int))
theorem pfin {n m : Nat} {l : List P2} (hn : l.Nodup) (h : ∀ p ∈ l, (0 ≤ p.1 ∧ p.1 < (n : Int)) ∧ (0 ≤ p.2 ∧ p.2 < (m : Int))) : l.length ≤ n * m := by
  have hd : (l.map fun p : P2 => p.1 * (m : Int) + p.2).Nodup := by
    rw [List.nodup_iff_pairwise_ne, List.pairwise_map]
    refine List.Pairwise.imp_of_mem ?_ hn
    intro a b ha hb hab e
    obtain ⟨_, h3, h4⟩ := h a ha
    obtain ⟨_, h7, h8⟩ := h b hb
    apply hab
    have hm : (0 : Int) < m := by omega
    have e1 : (a.1 * (m : Int) + a.2) / m = a.1 := by rw [Int.add_comm, Int.add_mul_ediv_right _ _ (by omega), Int.ediv_eq_zero_of_lt h3 h4]; omega
    have e2 : (b.1 * (m : Int) + b.2) / m = b.1 := by rw [Int.add_comm, Int.add_mul_ediv_right _ _ (by omega), Int.ediv_eq_zero_of_lt h7 h8]; omega
    have e3 : a.1 = b.1 := by rw [← e1, ← e2, e]
    rw [e3] at e
    exact Prod.ext e3 (by omega)
  have := nodup_len (n * m) hd (fun x hx => by
    obtain ⟨p, hp, rfl⟩ := List.mem_map.1 hx
    obtain ⟨⟨h1, h2⟩, h3, h4⟩ := h p hp
    have hmul : p.1 * (m : Int) ≤ ((n : Int) - 1) * m := Int.mul_le_mul_of_nonneg_right (by omega) (by omega)
    have h0 : 0 ≤ p.1 * (m : Int) := Int.mul_nonneg h1 (by omega)
    have e : ((n * m : Nat) : Int) = (n : Int) * m := Int.natCast_mul n m
    rw [Int.sub_mul, Int.one_mul] at hmul
    rw [e]
    omega)
  simpa using this
theorem pgr {a b : Mly} (ha : a.Ok) (hb : b.Ok) (hi : a.inputs = b.inputs) : GrOk (pnx a b) a.inputs (pok a b) (a.next.length * b.next.length) := by
  have hin := ha.inputs
  refine ⟨by omega, fun p x y hp x0 x1 hy => ?_, fun l hn hl => pfin hn hl⟩
  unfold pnx at hy
  split at hy
  · injection hy with hy
    subst hy
    exact ⟨ha.nx _ _ hp.1.1 hp.1.2 x0 x1, hb.nx _ _ hp.2.1 hp.2.2 x0 (by omega)⟩
  · simp at hy
/-- The first word with different outputs from two states. -/
def dist (a b : Mly) (s t : Int) : Option (List Int) := gfirst (pnx a b) a.inputs (a.next.length * b.next.length) (s, t)
theorem prun {a b : Mly} : ∀ {w : List Int} {s t : Int}, grun (pnx a b) (s, t) w = if a.outs s w = b.outs t w then some (a.run s w, b.run t w) else none
  | [], s, t => by simp [grun, Mly.outs, Mly.run]
  | x :: w, s, t => by
    simp only [grun, Mly.outs, Mly.run, pnx]
    by_cases h : ix (ix a.out s) x = ix (ix b.out t) x
    · rw [if_pos h, Option.bind_some, prun]
      simp [h]
    · rw [if_neg h]
      simp [h]
/-! ### The queue in memory -/
abbrev P3 := P2 × List Int
def qc (q : List P3) : List AV := q.flatMap fun p => [.int p.1.1, .int p.1.2, wB (true, p.2)]
theorem qc_len : ∀ {q : List P3}, (qc q).length = 3 * q.length
  | [] => rfl
  | p :: q => by
    have := qc_len (q := q)
    simp only [qc, List.flatMap_cons, List.length_append, List.length_cons, List.length_nil] at this ⊢; omega
theorem qc_app {q r : List P3} : qc (q ++ r) = qc q ++ qc r := by simp [qc]
theorem qc_one {p : P3} : qc [p] = [.int p.1.1, .int p.1.2, wB (true, p.2)] := by simp [qc]
theorem qc_drop : ∀ {q : List P3} {n : Nat}, n < q.length → (qc q).drop (n * 3) = .int (ix q (n : Int)).1.1 :: .int (ix q (n : Int)).1.2 :: wB (true, (ix q (n : Int)).2) :: (qc q).drop (n * 3 + 3)
  | p :: q, 0, _ => rfl
  | p :: q, n + 1, h => by
    have := qc_drop (q := q) (n := n) (by simpa using h)
    have e : ix (p :: q) ((n + 1 : Nat) : Int) = ix q (n : Int) := by simp [ix]
    rw [e, show (n + 1) * 3 = n * 3 + 1 + 1 + 1 by omega]
    exact this
section
variable {q : List P3} {n : Int} {K : AV → Prop} {t : Tk K}
theorem qc_get (h0 : 0 ≤ n) (h1 : n < q.length) : elm (qc q) (n.toNat * 3) = some (.int (ix q n).1.1) ∧ elm (qc q) (n.toNat * 3 + 1) = some (.int (ix q n).1.2) ∧ elm (qc q) (n.toNat * 3 + 2) = some (wB (true, (ix q n).2)) := by
  have := qc_drop (q := q) (n := n.toNat) (by omega)
  rw [show ((n.toNat : Nat) : Int) = n by omega] at this
  rw [elm_eq, elm_eq, elm_eq]
  have g : ∀ j, (qc q)[n.toNat * 3 + j]? = ((qc q).drop (n.toNat * 3))[j]? := fun j => by rw [List.getElem?_drop]
  have g0 := g 0
  rw [Nat.add_zero] at g0
  rw [g0, g 1, g 2, this]
  exact ⟨rfl, rfl, rfl⟩
theorem pT_qc2 (h0 : 0 ≤ n) (h1 : n < q.length) : pT (qc q) (0 + n.toNat * 3) (some 2) K t = K (.agg [.int (ix q n).1.1, .int (ix q n).1.2]) := by
  have := qc_drop (q := q) (n := n.toNat) (by omega)
  rw [show ((n.toNat : Nat) : Int) = n by omega] at this
  unfold pT part
  rw [Nat.zero_add]
  simp only
  rw [if_pos (by rw [qc_len]; omega), this]
  rfl
theorem pT_qc2' (h0 : 0 ≤ n) (h1 : n < q.length) : pT (qc q) (0 + n.toNat * 3 + 0) (some 2) K t = K (.agg [.int (ix q n).1.1, .int (ix q n).1.2]) := pT_qc2 h0 h1
end
/-- The pairs that were seen. -/
structure Sn2 (N C : Nat) (T : List (List Bool)) (q : List P3) : Prop where
  sh : Sh N C T
  ok : ∀ s t, 0 ≤ s → s < (N : Int) → 0 ≤ t → t < (C : Int) → ix (ix T s) t = hasG q (s, t)
theorem Sn2.add {N C : Nat} {T : List (List Bool)} {q : List P3} (h : Sn2 N C T q) {s t : Int} {w : List Int} (s0 : 0 ≤ s) (s1 : s < N) (t0 : 0 ≤ t) (t1 : t < C) : Sn2 N C (T.set s.toNat ((ix T s).set t.toNat true)) (q ++ [((s, t), w)]) := by
  have hl := h.sh.len
  refine ⟨⟨by rw [List.length_set]; exact hl, fun r hr => ?_⟩, fun u v u0 u1 v0 v1 => ?_⟩
  · rcases List.mem_or_eq_of_mem_set hr with hr | hr
    · exact h.sh.row r hr
    · rw [hr, List.length_set]; exact h.sh.ix s0 s1
  · have hg : hasG (q ++ [((s, t), w)]) (u, v) = (hasG q (u, v) || decide (s = u ∧ t = v)) := by
      unfold hasG
      rw [List.any_append]
      simp
    rw [ixs_set u0 (by omega), hg, ← h.ok u v u0 u1 v0 v1]
    by_cases e : u = s
    · subst e
      have hr := h.sh.ix u0 u1
      rw [if_pos (by omega), ixs_set v0 (by omega)]
      by_cases e2 : v = t
      · subst e2; rw [if_pos (by omega)]; simp
      · rw [if_neg (by omega)]
        simp
        intro e3; exact absurd e3.symm e2
    · rw [if_neg (by omega)]
      simp
      intro e2; exact absurd e2.symm e
theorem notUnd_wB (p : Bool × List Int) : notUnd (wB p) = true := by
  rcases wB_cases p with h | h
  · rw [h.1]; rfl
  · rw [h]; rfl
theorem hasG_at {q : List P3} {i : Int} {t : P2} (i0 : 0 ≤ i) (i1 : i < q.length) (h : (ix q i).1 = t) : hasG q t = true := hasG_iff.2 (List.mem_map.2 ⟨_, ix_mem i0 i1, h⟩)
theorem join_w (w : List Int) (a : Int) (h : w.length ≤ 100000) : PCx L F_word_Join [.imm false [wB (true, w), .imm false [.int a]]] = some (iL (w ++ [a])) := by
  have := Join_s [(true, w), (false, [a])] (by simp) (by simp [cat]; omega)
  simp [cat] at this
  rw [← this]
  rfl
theorem search_s (a b : Mly) (ha : a.Ok) (hb : b.Ok) (hi : a.inputs = b.inputs) (s t : Int) (hs : 0 ≤ s ∧ s < (a.next.length : Int)) (ht : 0 ≤ t ∧ t < (b.next.length : Int)) : PC F_equiv_search [a.av, b.av, .agg [.int s, .int t]] = some (.tup [iL ((dist a b s t).getD []), .bool (dist a b s t).isSome]) := by
  refine PCx_of (go_equiv_search rfl ?_)
  have hG := pgr ha hb hi
  have hin := ha.inputs
  have hsa := ha.states
  have hsb := hb.states
  have hla := ha.len
  have hlb := hb.len
  have hD : gfirst (pnx a b) a.inputs (a.next.length * b.next.length) (s, t) = dist a b s t := rfl
  generalize dist a b s t = D at *
  have hNb : a.next.length * b.next.length ≤ 128 * 128 := Nat.mul_le_mul (by omega) (by omega)
  generalize a.next.length * b.next.length = N at *
  simp [-List.map_replicate]
  refine ⟨by omega, ?_⟩
  refine W_iter (fun p : Nat => [(5, .int p)]) (fun p => grid0 b.next.length a.next.length (List.replicate p (List.replicate b.next.length false)) []) (fun p => p ≤ a.next.length) (fun p => a.next.length - p) 0 (by simp [sets, grid0]) (by simp) ?_
  intro k hk
  by_cases h : k < a.next.length
  · have e := g0_next' (C := b.next.length) (N := a.next.length) (m := List.replicate k (List.replicate b.next.length false)) (r := List.replicate b.next.length false) (by simpa using h)
    simp [-More_nor, -List.map_replicate, -List.map_append, -List.map_set, h, g0_app, g0_len, g0_outer, -pU_lit, ↓pU_sets]
    (repeat' apply And.intro) <;> try omega
    simp only [List.length_replicate] at e
    refine More_of (k + 1) (by simp) (by rw [List.replicate_succ']; exact e) (by omega) (by omega)
  · have e : k = a.next.length := by omega
    subst e
    have hsn : Sn2 a.next.length b.next.length (List.replicate a.next.length (List.replicate b.next.length false)) ([] : List P3) := ⟨⟨by simp, fun r hr => by rw [List.eq_of_mem_replicate hr]; simp⟩, fun u v u0 u1 v0 v1 => by rw [ixs_rep u0 u1, ixs_rep v0 v1]; rfl⟩
    generalize List.replicate a.next.length (List.replicate b.next.length false) = T0 at *
    have hT0 := hsn.sh
    have hrl := hT0.ix hs.1 hs.2
    have hsn1 := hsn.add (w := []) hs.1 hs.2 ht.1 ht.2
    rw [List.nil_append] at hsn1
    have o1 := g0_outerN (C := b.next.length) (rest := []) hT0.len
    have r1 := g0_row (C := b.next.length) (N := a.next.length) (rest := []) (m := T0) hs.1 (by rw [hT0.len]; exact hs.2)
    have p1 := fun (K : AV → Prop) (t : Tk K) => pT_rfsN (e := 1) (C := b.next.length) (k := a.next.length) (K := K) (t := t) hs.1 hs.2
    have s1 := fun r => g0_set (C := b.next.length) (N := a.next.length) (rest := []) (T := T0) (r := r) hs.1 (by rw [hT0.len]; exact hs.2)
    have ln := hT0.len
    have htl : max t 0 < (b.next.length : Int) := by omega
    simp [-More_nor, -List.map_set, h, o1, r1, s1, hs.1, hs.2, ht.1, ht.2, ↓p1, hrl, g0_app, g0_len, ln, htl]
    have ok0 : pok a b (s, t) := ⟨hs, ht⟩
    refine W_iter (fun p : Int × List P3 × List (List Bool) => [(10, .int p.1), (11, .sl (1 + a.next.length) (3 * p.2.1.length) 0 p.2.1.length)]) (fun p => grid0 b.next.length a.next.length p.2.2 [⟨some 3, qc p.2.1, .live⟩])
      (fun p => p.1 ≤ p.2.1.length ∧ Gst (pnx a b) a.inputs (pok a b) N (s, t) p.1 0 p.2.1 ∧ Nof (pnx a b) a.inputs p.1 0 p.2.1 ∧ Sn2 a.next.length b.next.length p.2.2 p.2.1)
      (fun p => (N + 1 - p.1).toNat) (0, [((s, t), [])], T0.set s.toNat ((ix T0 s).set t.toNat true)) (by simp [sets, qc_one, wB, catR]) ⟨by simp, Gst.init hG ok0, Nof.init, hsn1⟩ ?_
    rintro ⟨i, q, T⟩ ⟨i1, hq, hn, hT⟩
    dsimp only at i1 hq hn hT ⊢
    have i0 := hq.i0
    have hql := hq.gi.gq.le hG
    by_cases hi' : i < q.length
    · have hp := hq.gi.gq.rng _ (ix_mem i0 hi')
      have b1 := g0_outerN (C := b.next.length) (rest := [⟨some 3, qc q, .live⟩]) hT.sh.len
      have b2 := g0_rest (C := b.next.length) (B := ⟨some 3, qc q, .live⟩) hT.sh.len
      have p2 := fun (K : AV → Prop) (t : Tk K) => pT_qc2 (K := K) (t := t) i0 hi'
      have p2' := fun (K : AV → Prop) (t : Tk K) => pT_qc2' (K := K) (t := t) i0 hi'
      simp [-More_nor, hi', i0, b2, qc_len, ↓p2, ↓p2']
      refine W_iter (fun p : Int × List P3 × List (List Bool) => [(11, .sl (1 + a.next.length) (3 * p.2.1.length) 0 p.2.1.length), (12, .int p.1)]) (fun p => grid0 b.next.length a.next.length p.2.2 [⟨some 3, qc p.2.1, .live⟩])
        (fun p => (0 ≤ p.1 ∧ p.1 ≤ a.inputs) ∧ (i < p.2.1.length ∧ ix p.2.1 i = ix q i) ∧ Gst (pnx a b) a.inputs (pok a b) N (s, t) i p.1 p.2.1 ∧ Nof (pnx a b) a.inputs i p.1 p.2.1 ∧ Sn2 a.next.length b.next.length p.2.2 p.2.1)
        (fun p => (a.inputs - p.1).toNat) (0, q, T) (by simp [sets]) ⟨by dsimp only; omega, ⟨hi', rfl⟩, hq, hn, hT⟩ ?_
      rintro ⟨x, q', T'⟩ ⟨⟨x0, x1⟩, ⟨hiq, gx⟩, gq, gn, gT⟩
      dsimp only at x0 x1 hiq gx gq gn gT ⊢
      have gql := gq.gi.gq.le hG
      by_cases hx : x < a.inputs
      · have hra := ha.row _ hp.1.1 hp.1.2
        have hrb := hb.row _ hp.2.1 hp.2.2
        have hna := ha.nx _ x hp.1.1 hp.1.2 x0 hx
        have hnb := hb.nx _ x hp.2.1 hp.2.2 x0 (by omega)
        have hwl := gq.gi.gq.len i i0 hiq
        rw [gx] at hwl
        have hj := join_w (ix q i).2 x (by omega)
        have b1 := g0_outerN (C := b.next.length) (rest := [⟨some 3, qc q', .live⟩]) gT.sh.len
        have b2 := g0_rest (C := b.next.length) (B := ⟨some 3, qc q', .live⟩) gT.sh.len
        have gel := qc_get i0 hiq
        rw [gx] at gel
        obtain ⟨⟨q1, q2⟩, q3, q4⟩ := hp
        have hp1o : (ix q i).1.1 < (a.out.length : Int) := by omega
        have hp2o : (ix q i).1.2 < (b.out.length : Int) := by omega
        have hxb : x < b.inputs := by omega
        by_cases ho : ix (ix a.out (ix q i).1.1) x = ix (ix b.out (ix q i).1.2) x
        · have hx1 : pnx a b (ix q i).1 x = some (ix (ix a.next (ix q i).1.1) x, ix (ix b.next (ix q i).1.2) x) := by unfold pnx; rw [if_pos ho]
          have ho' : (ix (ix a.out (ix q i).1.1) x = ix (ix b.out (ix q i).1.2) x) = True := eq_true ho
          generalize hu : ix (ix a.next (ix q i).1.1) x = u at *
          generalize hv : ix (ix b.next (ix q i).1.2) x = v at *
          have hstay : hasG q' (u, v) = true → Gst (pnx a b) a.inputs (pok a b) N (s, t) i (x + 1) q' := fun hh => gq.stay hG hiq x0 hx (gstep_has (by rw [gx]; exact hx1) hh)
          have hnof : Nof (pnx a b) a.inputs i (x + 1) q' := gn.step (by rw [gx, hx1]; simp)
          by_cases he : u = (ix q i).1.1 ∧ v = (ix q i).1.2
          · have h1 : (u = (ix q i).1.1) = True := eq_true he.1
            have h2 : (v = (ix q i).1.2) = True := eq_true he.2
            simp [-More_nor, hx, x0, q1, q2, q3, q4, hp1o, hp2o, hra.1, hra.2, hrb.1, hrb.2, hxb, ho', hu, hv, h1, h2]
            refine ⟨by omega, More_of (x + 1, q', T') (by simp) rfl ⟨by dsimp only; omega, ⟨hiq, gx⟩, hstay (hasG_at i0 hiq (by rw [gx]; exact Prod.ext he.1.symm he.2.symm)), hnof, gT⟩ (by dsimp only; omega)⟩
          · have h1 : (¬ u = (ix q i).1.1 ∨ ¬ v = (ix q i).1.2) = True := eq_true (by omega)
            have b3 := g0_row (C := b.next.length) (N := a.next.length) (rest := [⟨some 3, qc q', .live⟩]) (m := T') hna.1 (by rw [gT.sh.len]; exact hna.2)
            have p1 := fun (K : AV → Prop) (t : Tk K) => pT_rfsN (e := 1) (C := b.next.length) (k := a.next.length) (K := K) (t := t) hna.1 hna.2
            have hrl := gT.sh.ix hna.1 hna.2
            have hsee := gT.ok u v hna.1 hna.2 hnb.1 hnb.2
            have hvm : max v 0 < (b.next.length : Int) := by omega
            cases hh : hasG q' (u, v) with
            | true =>
              rw [hh] at hsee
              simp [-More_nor, hx, x0, q1, q2, q3, q4, hp1o, hp2o, hra.1, hra.2, hrb.1, hrb.2, hxb, ho', hu, hv, h1, hna.1, hna.2, hnb.1, hnb.2, b1, b3, ↓p1, hrl, hsee, hvm]
              refine ⟨⟨by omega, More_of (x + 1, q', T') (by simp) rfl ⟨by dsimp only; omega, ⟨hiq, gx⟩, hstay hh, hnof, gT⟩ (by dsimp only; omega)⟩, fun e1 e2 => absurd ⟨e1, e2⟩ he⟩
            | false =>
              rw [hh] at hsee
              have hnew : Gst (pnx a b) a.inputs (pok a b) N (s, t) i (x + 1) (q' ++ [((u, v), (ix q i).2 ++ [x])]) := by
                have := gq.step hG hiq x0 hx
                rw [gstep_new (by rw [gx]; exact hx1) hh, gx] at this
                exact this
              have s1 := fun r => g0_set (C := b.next.length) (N := a.next.length) (rest := [⟨some 3, qc q', .live⟩]) (T := T') (r := r) hna.1 (by rw [gT.sh.len]; exact hna.2)
              have hsn2 := gT.add (w := (ix q i).2 ++ [x]) hna.1 hna.2 hnb.1 hnb.2
              have hsl := hsn2.sh.len
              have b4 := fun r => g0_rest (C := b.next.length) (N := a.next.length) (T := T'.set u.toNat r) (B := ⟨some 3, qc q', .live⟩) (by rw [List.length_set]; exact gT.sh.len)
              have s2 := fun r B => g0_setrest (C := b.next.length) (N := a.next.length) (T := T'.set u.toNat r) (B := ⟨some 3, qc q', .live⟩) (B' := B) (by rw [List.length_set]; exact gT.sh.len)
              have hk3 : (3 * q'.length = q'.length * kst (some 3)) = True := eq_true (by simp [kst]; omega)
              simp [-More_nor, -List.map_set, hx, x0, q1, q2, q3, q4, hp1o, hp2o, hra.1, hra.2, hrb.1, hrb.2, hxb, ho', hu, hv, h1, hna.1, hna.2, hnb.1, hnb.2, b1, b3, ↓p1, hrl, hsee, hvm, s1, b4, s2, qc_len, hk3, gel, hiq, hj, i0, noLoc_wB, cells_wB, notUnd_wB]
              refine ⟨⟨by omega, by omega, More_of (x + 1, q' ++ [((u, v), (ix q i).2 ++ [x])], T'.set u.toNat ((ix T' u).set v.toNat true)) (by simp [Nat.mul_add]) (by simp [-List.map_set, qc_app, qc_one, wB, iL]) ⟨by dsimp only; omega, ⟨by simp; omega, by dsimp only; rw [ixa_app i0 hiq, gx]⟩, hnew, hnof.app i0 hiq, hsn2⟩ (by dsimp only; omega)⟩, fun e1 e2 => absurd ⟨e1, e2⟩ he⟩
        · have hx1 : pnx a b (ix q i).1 x = none := by unfold pnx; rw [if_neg ho]
          have hres := gfirst_hit hG gq gn hiq x0 hx (by rw [gx]; exact hx1)
          rw [hD, gx] at hres
          subst hres
          simp [-More_nor, hx, x0, q1, q2, q3, q4, hp1o, hp2o, hra.1, hra.2, hrb.1, hrb.2, hxb, ho, b2, qc_len, gel, hiq, hj, i0, noLoc_wB, cells_wB, notUnd_wB]
      · have hxi : x = a.inputs := by omega
        subst hxi
        simp [-More_nor]
        refine ⟨by omega, More_of (i + 1, q', T') (by simp) rfl ⟨by dsimp only; omega, gq.next hG hiq, gn.next, gT⟩ (by dsimp only; omega)⟩
    · have hres := gfirst_no hq hn hi'
      rw [hD] at hres
      subst hres
      simp [hi']
/-- The error of two machines. -/
def chkE (a b : Mly) : Int := if a.validE ≠ 0 then a.validE else if b.validE ≠ 0 then b.validE else if a.inputs ≠ b.inputs then 15 else 0
theorem chkE_ok {a b : Mly} (h : chkE a b = 0) : a.validE = 0 ∧ b.validE = 0 ∧ a.inputs = b.inputs := by
  unfold chkE at h
  split at h
  · rename_i h1; exact absurd h h1
  split at h
  · rename_i h1; exact absurd h h1
  split at h
  · simp at h
  · rename_i h1 h2 h3
    exact ⟨by simpa using h1, by simpa using h2, by simpa using h3⟩
theorem rChk_s (a b : Mly) (ha : a.fits) (hb : b.fits) : PC F_ref09_Check [a.av, b.av] = some (.int (chkE a b)) := by
  refine PCx_of (go_ref09_Check rfl ?_)
  unfold chkE
  by_cases h1 : a.validE = 0
  · by_cases h2 : b.validE = 0
    · by_cases h3 : a.inputs = b.inputs
      · have h3' : (a.inputs = b.inputs) = True := eq_true h3
        simp [rmValid_s a ha, rmValid_s b hb, h1, h2, h3']
      · simp [rmValid_s a ha, rmValid_s b hb, h1, h2, h3]
    · simp [rmValid_s a ha, rmValid_s b hb, h1, h2]
  · simp [rmValid_s a ha, h1]
/-- What Distinguish answers. -/
def disE (a b : Mly) : Option (List Int) × Int := if chkE a b ≠ 0 then (none, chkE a b) else (dist a b a.start b.start, 0)
abbrev disA (r : Option (List Int) × Int) : AV := .tup [iL (r.1.getD []), .bool r.1.isSome, .int r.2]
theorem check_s (a b : Mly) (ha : a.fits) (hb : b.fits) : PC F_equiv_check [a.av, b.av] = some (.int (chkE a b)) := by
  refine PCx_of (go_equiv_check rfl ?_)
  simp
  refine W_iter (fun i : Nat => [(4, .int i)]) (fun _ => []) (fun i => i ≤ 2 ∧ (0 < i → a.validE = 0) ∧ (1 < i → b.validE = 0)) (fun i => 2 - i) 0 (by simp [sets]) (by simp) ?_
  intro i ⟨i1, i2, i3⟩
  have e1 := mValid_s a ha
  have e2 := mValid_s b hb
  match i, i1, i2, i3 with
  | 0, _, _, _ =>
    by_cases h1 : a.validE = 0
    · rw [h1] at e1
      simp [-More_nor, e1]
      exact More_of 1 (by simp) rfl ⟨by omega, fun _ => h1, by omega⟩ (by omega)
    · simp [-More_nor, e1, h1]
      unfold chkE; rw [if_pos h1]
  | 1, _, i2, _ =>
    have h1 := i2 (by omega)
    by_cases h2 : b.validE = 0
    · rw [h2] at e2
      simp [-More_nor, e2]
      exact More_of 2 (by simp) rfl ⟨by omega, fun _ => h1, fun _ => h2⟩ (by omega)
    · simp [-More_nor, e2, h2]
      unfold chkE; rw [if_neg (by omega), if_pos h2]
  | 2, _, i2, i3 =>
    have h1 := i2 (by omega)
    have h2 := i3 (by omega)
    simp [-More_nor]
    unfold chkE; rw [if_neg (by omega), if_neg (by omega)]
    exact ⟨fun h => by simp [h], fun h => by simp [h]⟩
theorem Distinguish_s (a b : Mly) (ha : a.fits) (hb : b.fits) : PC F_equiv_Distinguish [a.av, b.av] = some (disA (disE a b)) := by
  refine PCx_of (go_equiv_Distinguish rfl ?_)
  unfold disE
  by_cases h : chkE a b = 0
  · obtain ⟨h1, h2, h3⟩ := chkE_ok h
    have hma := mvalidE_ok h1
    have hmb := mvalidE_ok h2
    have e := search_s a b hma hmb h3 a.start b.start hma.start hmb.start
    simp [check_s a b ha hb, h, e]
  · simp [check_s a b ha hb, h]
theorem Equal_s (a b : Mly) (ha : a.fits) (hb : b.fits) : PC F_equiv_Equal [a.av, b.av] = some (.tup [.bool (decide (chkE a b = 0) && !(disE a b).1.isSome), .int (chkE a b)]) := by
  refine PCx_of (go_equiv_Equal rfl ?_)
  have e2 : (disE a b).2 = chkE a b := by unfold disE; split <;> simp_all
  by_cases h : chkE a b = 0
  · simp [Distinguish_s a b ha hb, e2, h]
  · simp [Distinguish_s a b ha hb, e2, h]
end Ab
