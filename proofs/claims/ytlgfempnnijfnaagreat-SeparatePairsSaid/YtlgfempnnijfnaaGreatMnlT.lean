/- Lists that grow from nil, and are given away. Runs of a Mealy machine. Classes of states: numbers in the order of first use; the rounds refine them, the last round changes nothing. The machine of the reachable states, the machine of the classes: what they answer. When a machine is minimal: by its classes. Condition: none. -/
import Derived.Test.YtlgfempnnijfnaaGreatGbf
import Derived.Test.YtlgfempnnijfnaaGreatMini
set_option linter.all false
set_option maxRecDepth 100000
set_option maxHeartbeats 4000000
namespace Ab
abbrev loutL (out : List (List Int)) : Blk := ⟨none, out.map iL, if out = [] then .nul else .live⟩
theorem zzaI {σ : List Blk} {b : Nat} {out : List (List Int)} (h : blk σ b = some (loutL out)) : view σ false vd (.sl b out.length 0 out.length) = some (iLL out) := vd_LL (fr := false) h (by split <;> simp) rfl
abbrev louI (out : List Int) : Blk := ⟨none, out.map .int, if out = [] then .nul else .live⟩
theorem zX4P {σ : List Blk} {b : Nat} {out : List Int} (h : blk σ b = some (louI out)) : view σ false vd (.sl b out.length 0 out.length) = some (iL out) := vd_iL h (by split <;> simp) rfl
theorem zT1r {σ : List Blk} : ∀ (ws : List (List Int)) (acc : List Nat), (ws.map iL).foldl (fun acc y => reach σ 11 y acc) acc = acc
  | [], _ => rfl
  | w :: ws, acc => by simp only [List.map_cons, List.foldl_cons]; exact zT1r ws acc
theorem zNE6 {vars : List AV} {fl : Option (Nat × AV)} {ws : List (List Int)} {k : Nat} {Q : Ex → St → Prop} (hn : nth vars k = .sl 0 ws.length 0 ws.length) (h : Q .nor ⟨setN vars k (.imm (decide (ws ≠ [])) (ws.map iL)), fl, [⟨none, ws.map iL, .dead⟩]⟩) : W L (.frz k) ⟨vars, fl, [loutL ws]⟩ Q := by
  have hr : reach [loutL ws] vd (.sl 0 ws.length 0 ws.length) [] = [0] := by
    show reach [loutL ws] (11 + 1) (.sl 0 ws.length 0 ws.length) [] = [0]
    unfold reach
    simp only [List.contains_nil, Bool.false_eq_true, if_false, blk]
    exact zT1r ws [0]
  have hv := zzaI (σ := [loutL ws]) (b := 0) (out := ws) rfl
  have hs : surely [loutL ws] (.sl 0 ws.length 0 ws.length) = decide (ws ≠ []) := by
    have : upto [loutL ws] 0 ws.length = some (loutL ws) := by
      unfold upto
      by_cases h : ws = [] <;> simp [blk, h]
    simp only [surely, this]
    by_cases h : ws = [] <;> simp [h]
  refine ⟨0, .nor, _, ?_, h⟩
  simp only [exec, hn, hr]
  have hd : dieIf (fun b => !([0] : List Nat).contains b) 0 [loutL ws] = [loutL ws] := by simp [dieIf]
  rw [hd, hv]
  simp only [hs]
  by_cases h : ws = []
  · simp [h, dieIf]; rfl
  · simp [h, dieIf]
end Ab
namespace Ab
def Mly.outs (m : Mly) : Int → List Int → List Int
  | _, [] => []
  | s, a :: w => ix (ix m.out s) a :: m.outs (ix (ix m.next s) a) w
theorem zcni {m : Mly} : ∀ {u v : List Int} {s : Int}, m.outs s (u ++ v) = m.outs s u ++ m.outs (m.run s u) v
  | [], _, _ => rfl
  | a :: u, v, s => by simp only [List.cons_append, Mly.outs, Mly.run, zcni (u := u)]
theorem zyXT {w : List Int} {k : Nat} (h : k < w.length) : w.take (k + 1) = w.take k ++ [ix w (k : Int)] := by
  rw [List.take_add_one, List.getElem?_eq_getElem h, zrZW h]; rfl
theorem zwd6 {m : Mly} (hm : m.Ok) : ∀ {w : List Int} {s : Int}, (0 ≤ s ∧ s < (m.next.length : Int)) → (∀ x ∈ w, 0 ≤ x ∧ x < m.inputs) → 0 ≤ m.run s w ∧ m.run s w < (m.next.length : Int)
  | [], _, h, _ => h
  | a :: w, s, h, hw => zwd6 hm (w := w) (hm.nx s a h.1 h.2 (hw a (by simp)).1 (hw a (by simp)).2) fun x hx => hw x (by simp [hx])
theorem zj8m {m : Mly} : ∀ {w : List Int} {s : Int}, (m.outs s w).length = w.length
  | [], _ => rfl
  | a :: w, s => by simp only [Mly.outs, List.length_cons, zj8m (w := w)]
def Mly.from (m : Mly) (s : Int) (w : List Int) : List Int × Int × Int :=
  if m.validE ≠ 0 then ([], 0, m.validE) else if s < 0 ∨ (m.next.length : Int) ≤ s then ([], 0, 2) else if wordE w m.inputs ≠ 0 then ([], 0, wordE w m.inputs) else (m.outs s w, m.run s w, 0)
abbrev fromA (r : List Int × Int × Int) : AV := .tup [iL r.1, .int r.2.1, .int r.2.2]
theorem zFUS {w : List Int} {k : Int} (h : wordE w k = 0) : (w.length : Int) ≤ 1024 ∧ ∀ x ∈ w, 0 ≤ x ∧ x < k := by
  unfold wordE at h
  split at h
  · simp at h
  split at h
  · simp at h
  split at h
  · simp at h
  rename_i a b c
  exact ⟨by omega, bad_f.1 (by simpa using c)⟩
theorem zuwl {m : Mly} (hv : m.validE = 0) {s : Int} (hs : 0 ≤ s ∧ s < (m.next.length : Int)) {w : List Int} : m.from s w = if wordE w m.inputs ≠ 0 then ([], 0, wordE w m.inputs) else (m.outs s w, m.run s w, 0) := by
  unfold Mly.from; rw [if_neg (by simpa using hv), if_neg (by omega)]
end Ab
namespace Ab
theorem zSql {α : Type} [Inhabited α] {l m : List α} (hl : l.length = m.length) (h : ∀ s : Int, 0 ≤ s → s < (l.length : Int) → ix l s = ix m s) : l = m := List.ext_getElem hl fun n h1 h2 => by
  have := h (n : Int) (by omega) (by omega)
  rwa [zrZW h1, zrZW h2] at this
inductive Can : List Int → Nat → Prop where
  | nil : Can [] 0
  | old {c : List Int} {k : Nat} {v : Int} : Can c k → 0 ≤ v → v < (k : Int) → Can (c ++ [v]) k
  | new {c : List Int} {k : Nat} : Can c k → Can (c ++ [(k : Int)]) (k + 1)
theorem Can.rng {c : List Int} {k : Nat} (h : Can c k) : ∀ v ∈ c, 0 ≤ v ∧ v < (k : Int) := by
  induction h with
  | nil => simp
  | old h v0 v1 ih =>
    intro x hx
    rcases List.mem_append.1 hx with hx | hx
    · exact ih x hx
    · simp at hx; omega
  | new h ih =>
    intro x hx
    rcases List.mem_append.1 hx with hx | hx
    · have := ih x hx; omega
    · simp at hx; omega
theorem Can.occ {c : List Int} {k : Nat} (h : Can c k) : ∀ v, 0 ≤ v → v < (k : Int) → v ∈ c := by
  induction h with
  | nil => intro v h0 h1; omega
  | old h v0 v1 ih => intro x h0 h1; exact List.mem_append_left _ (ih x h0 h1)
  | @new c k h ih =>
    intro x h0 h1
    by_cases e : x = (k : Int)
    · subst e; simp
    · exact List.mem_append_left _ (ih x h0 (by omega))
theorem Can.len {c : List Int} {k : Nat} (h : Can c k) : k ≤ c.length := by
  induction h with
  | nil => simp
  | old h v0 v1 ih => simp; omega
  | new h ih => simp; omega
theorem Can.back {c : List Int} {k : Nat} (h : Can c k) : ∀ {d : List Int} {v : Int}, c = d ++ [v] → ∃ j, Can d j ∧ ((0 ≤ v ∧ v < (j : Int) ∧ k = j) ∨ (v = (j : Int) ∧ k = j + 1)) := by
  intro d v e
  cases h with
  | nil => simp at e
  | @old c k v' h v0 v1 =>
    obtain ⟨rfl, e2⟩ := List.append_inj' e rfl
    simp at e2; subst e2
    exact ⟨k, h, .inl ⟨v0, v1, rfl⟩⟩
  | @new c k h =>
    obtain ⟨rfl, e2⟩ := List.append_inj' e rfl
    simp at e2
    exact ⟨k, h, .inr ⟨e2.symm, rfl⟩⟩
theorem Can.zeros : ∀ n : Nat, Can (List.replicate (n + 1) 0) 1
  | 0 => by have := Can.new Can.nil; simpa using this
  | n + 1 => by
    have := Can.old (v := 0) (Can.zeros n) (by omega) (by omega)
    rw [List.replicate_succ']
    exact this
theorem Can.first {c : List Int} {k : Nat} (h : Can c k) : c ≠ [] → ix c 0 = 0 := by
  induction h with
  | nil => intro h; exact absurd rfl h
  | @old c k v h v0 v1 ih =>
    intro _
    by_cases e : c = []
    · subst e; have := h.len; simp at this; omega
    · rw [zT8e (by omega) (by have := List.length_pos_iff.2 e; omega)]; exact ih e
  | @new c k h ih =>
    intro _
    by_cases e : c = []
    · subst e; have := h.len; simp at this; subst this; rfl
    · rw [zT8e (by omega) (by have := List.length_pos_iff.2 e; omega)]; exact ih e
theorem Can.ref {c' : List Int} {k' : Nat} (h' : Can c' k') : ∀ {c : List Int} {k : Nat}, Can c k → c.length = c'.length → (∀ i j : Nat, i < c.length → j < c.length → ix c' i = ix c' j → ix c i = ix c j) → (c' = c ∧ k' = k) ∨ k < k' := by
  induction h' with
  | nil =>
    intro c k h hl _
    have : c = [] := List.eq_nil_of_length_eq_zero (by simpa using hl)
    subst this
    have := h.len
    exact .inl ⟨rfl, by simp at this; omega⟩
  | @old d' k' v' h' v0 v1 ih =>
    intro c k h hl hr
    have hne : c ≠ [] := by intro e; subst e; simp at hl
    obtain ⟨d, v, rfl⟩ : ∃ d v, c = d ++ [v] := ⟨c.dropLast, c.getLast hne, (List.dropLast_concat_getLast hne).symm⟩
    have hdl : d.length = d'.length := by simpa using hl
    obtain ⟨kd, hd, hv⟩ := h.back rfl
    have hrd : ∀ i j : Nat, i < d.length → j < d.length → ix d' i = ix d' j → ix d i = ix d j := fun i j hi hj e => by
      have := hr i j (by simp; omega) (by simp; omega)
      rw [zT8e (by omega) (by omega), zT8e (by omega) (by omega), zT8e (by omega) (by omega), zT8e (by omega) (by omega)] at this
      exact this e
    obtain ⟨j, hj, ej⟩ := List.mem_iff_getElem.1 (h'.occ v' v0 v1)
    have hjv : ix d j = v := by
      have e1 : ix (d' ++ [v']) (j : Int) = v' := by rw [zT8e (by omega) (by omega), zrZW hj, ej]
      have e2 : ix (d' ++ [v']) (d.length : Int) = v' := by rw [hdl, zD1B]
      have := hr j d.length (by simp; omega) (by simp) (e1.trans e2.symm)
      rw [zT8e (by omega) (by omega), zD1B] at this
      exact this
    have hjm : ix d (j : Int) ∈ d := zmAQ (by omega) (by omega)
    have hvr := hd.rng _ hjm
    rcases ih hd hdl hrd with ⟨e1, e2⟩ | hlt
    · subst e1
      rw [zrZW hj, ej] at hjv
      exact .inl ⟨by rw [hjv], by omega⟩
    · right; omega
  | @new d' k' h' ih =>
    intro c k h hl hr
    have hne : c ≠ [] := by intro e; subst e; simp at hl
    obtain ⟨d, v, rfl⟩ : ∃ d v, c = d ++ [v] := ⟨c.dropLast, c.getLast hne, (List.dropLast_concat_getLast hne).symm⟩
    have hdl : d.length = d'.length := by simpa using hl
    obtain ⟨kd, hd, hv⟩ := h.back rfl
    have hrd : ∀ i j : Nat, i < d.length → j < d.length → ix d' i = ix d' j → ix d i = ix d j := fun i j hi hj e => by
      have := hr i j (by simp; omega) (by simp; omega)
      rw [zT8e (by omega) (by omega), zT8e (by omega) (by omega), zT8e (by omega) (by omega), zT8e (by omega) (by omega)] at this
      exact this e
    rcases ih hd hdl hrd with ⟨e1, e2⟩ | hlt
    · subst e1 e2
      rcases hv with ⟨_, _, e⟩ | ⟨e, e'⟩
      · right; omega
      · exact .inl ⟨by rw [e], by omega⟩
    · right; omega
theorem ziiJ {k : List Int} : ∀ {es : List (List Int)} {i n : Nat}, sgI k i es = some n → i ≤ n ∧ n < i + es.length ∧ es[n - i]? = some k
  | [], _, _, h => by simp [sgI] at h
  | e :: es, i, n, h => by
    unfold sgI at h
    by_cases he : k = e
    · rw [if_pos he] at h
      simp at h; subst h he
      simp
    · rw [if_neg he] at h
      obtain ⟨h1, h2, h3⟩ := ziiJ h
      refine ⟨by omega, by simp; omega, ?_⟩
      rw [show n - i = (n - (i + 1)) + 1 by omega, List.getElem?_cons_succ]
      exact h3
theorem zgiv {k : List Int} : ∀ {es : List (List Int)} {i : Nat}, sgI k i es = none → k ∉ es
  | [], _, _ => by simp
  | e :: es, i, h => by
    unfold sgI at h
    by_cases he : k = e
    · rw [if_pos he] at h; simp at h
    · rw [if_neg he] at h
      simp [he, zgiv h]
theorem zLGm {m : Mly} {c : List Int} : ∀ {s : Nat}, Can (rnd m c s).2 (rnd m c s).1.length ∧ (rnd m c s).1.Nodup ∧ ∀ t : Nat, t < s → ∃ n : Nat, ix (rnd m c s).2 (t : Int) = n ∧ (rnd m c s).1[n]? = some (sgn m c (t : Int))
  | 0 => ⟨Can.nil, List.nodup_nil, fun t h => by omega⟩
  | s + 1 => by
    obtain ⟨h1, h2, h3⟩ := zLGm (m := m) (c := c) (s := s)
    have hl := zE7t (m := m) (c := c) (s := s)
    unfold rnd
    split
    · rename_i n hn
      obtain ⟨_, n1, n2⟩ := ziiJ hn
      refine ⟨Can.old (k := (rnd m c s).1.length) h1 (by omega) (by omega), h2, fun t ht => ?_⟩
      by_cases e : t = s
      · subst e
        refine ⟨n, ?_, by simpa using n2⟩
        have : ((t : Nat) : Int) = ((rnd m c t).2.length : Int) := by rw [hl.1]
        rw [this, zD1B]
      · obtain ⟨j, e1, e2⟩ := h3 t (by omega)
        exact ⟨j, by simp only; rw [zT8e (by omega) (by omega)]; exact e1, e2⟩
    · rename_i hn
      have hni := zgiv hn
      refine ⟨by have := Can.new h1; simpa using this, ?_, fun t ht => ?_⟩
      · rw [List.nodup_append]
        refine ⟨h2, by simp, fun a ha b hb => ?_⟩
        simp at hb; subst hb
        exact fun e => hni (e ▸ ha)
      · by_cases e : t = s
        · subst e
          refine ⟨(rnd m c t).1.length, ?_, by simp⟩
          have : ((t : Nat) : Int) = ((rnd m c t).2.length : Int) := by rw [hl.1]
          simp only
          rw [this, zD1B]
        · obtain ⟨j, e1, e2⟩ := h3 t (by omega)
          refine ⟨j, by simp only; rw [zT8e (by omega) (by omega)]; exact e1, ?_⟩
          obtain ⟨hj, e3⟩ := List.getElem?_eq_some_iff.1 e2
          rw [List.getElem?_append_left hj]; exact e2
theorem zdSs {m : Mly} {c : List Int} {s i j : Nat} (hi : i < s) (hj : j < s) : ix (rnd m c s).2 (i : Int) = ix (rnd m c s).2 (j : Int) ↔ sgn m c (i : Int) = sgn m c (j : Int) := by
  obtain ⟨_, h2, h3⟩ := zLGm (m := m) (c := c) (s := s)
  obtain ⟨n, e1, e2⟩ := h3 i hi
  obtain ⟨k, e3, e4⟩ := h3 j hj
  rw [e1, e3]
  constructor
  · intro e
    have : n = k := by omega
    subst this
    rw [e2] at e4
    exact Option.some.inj e4
  · intro e
    rw [e] at e2
    obtain ⟨hn, e2⟩ := List.getElem?_eq_some_iff.1 e2
    obtain ⟨hk, e4⟩ := List.getElem?_eq_some_iff.1 e4
    have := (List.getElem_inj h2).1 (e2.trans e4.symm)
    omega
theorem zTGw {m : Mly} (hm : m.Ok) {c : List Int} {i j : Nat} (hi : i < m.next.length) (hj : j < m.next.length) : sgn m c (i : Int) = sgn m c (j : Int) ↔ ix m.out (i : Int) = ix m.out (j : Int) ∧ (ix m.next (i : Int)).map (fun t => ix c t) = (ix m.next (j : Int)).map (fun t => ix c t) := by
  have hin := hm.inputs
  have r1 := hm.row (i : Int) (by omega) (by omega)
  have r2 := hm.row (j : Int) (by omega) (by omega)
  have e : ∀ s : Nat, s < m.next.length → sgn m c (s : Int) = (ix m.out (s : Int) ++ List.replicate (64 - m.inputs.toNat) 0) ++ ((ix m.next (s : Int)).map (fun t => ix c t) ++ List.replicate (64 - m.inputs.toNat) 0) := fun s hs => by
    have r := hm.row (s : Int) (by omega) (by omega)
    unfold sgn sgp
    rw [List.take_of_length_le (by omega), List.take_of_length_le (by omega)]
  rw [e i hi, e j hj]
  constructor
  · intro h
    obtain ⟨h1, h2⟩ := List.append_inj h (by simp; omega)
    exact ⟨(List.append_inj h1 (by omega)).1, (List.append_inj h2 (by simp; omega)).1⟩
  · rintro ⟨h1, h2⟩
    rw [h1, h2]
def Rfi (m : Mly) (c : List Int) : Prop := ∀ i j : Nat, i < m.next.length → j < m.next.length → sgn m c (i : Int) = sgn m c (j : Int) → ix c (i : Int) = ix c (j : Int)
def Sep (m : Mly) (c : List Int) : Prop := ∀ i j : Int, 0 ≤ i → i < m.next.length → 0 ≤ j → j < m.next.length → ix c i ≠ ix c j → ∃ w, (∀ x ∈ w, 0 ≤ x ∧ x < m.inputs) ∧ m.outs i w ≠ m.outs j w
theorem zmpQ {m : Mly} (hm : m.Ok) {c d : List Int} {i j : Nat} (hi : i < m.next.length) (hj : j < m.next.length) (h : ∀ a b : Int, 0 ≤ a → a < m.next.length → 0 ≤ b → b < m.next.length → ix c a = ix c b → ix d a = ix d b) (e : (ix m.next (i : Int)).map (fun t => ix c t) = (ix m.next (j : Int)).map (fun t => ix c t)) : (ix m.next (i : Int)).map (fun t => ix d t) = (ix m.next (j : Int)).map (fun t => ix d t) := by
  have r1 := hm.row (i : Int) (by omega) (by omega)
  have r2 := hm.row (j : Int) (by omega) (by omega)
  refine List.ext_getElem (by simp; omega) fun n h1 h2 => ?_
  simp only [List.length_map] at h1 h2
  have e' := List.getElem_of_eq e (i := n) (by simpa using h1)
  simp only [List.getElem_map] at e' ⊢
  have n1 := hm.nx (i : Int) (n : Int) (by omega) (by omega) (by omega) (by omega)
  have n2 := hm.nx (j : Int) (n : Int) (by omega) (by omega) (by omega) (by omega)
  rw [zrZW h1] at n1
  rw [zrZW h2] at n2
  exact h _ _ n1.1 n1.2 n2.1 n2.2 e'
theorem Rfi.step {m : Mly} (hm : m.Ok) {c : List Int} (h : Rfi m c) : Rfi m (rnd m c m.next.length).2 := by
  intro i j hi hj e
  rw [zdSs hi hj]
  rw [zTGw hm hi hj] at e ⊢
  refine ⟨e.1, zmpQ hm hi hj (fun a b a0 a1 b0 b1 hab => ?_) e.2⟩
  obtain ⟨a, rfl⟩ := Int.eq_ofNat_of_zero_le a0
  obtain ⟨b, rfl⟩ := Int.eq_ofNat_of_zero_le b0
  exact h a b (by omega) (by omega) ((zdSs (by omega) (by omega)).1 hab)
theorem Sep.step {m : Mly} (hm : m.Ok) {c : List Int} (h : Sep m c) : Sep m (rnd m c m.next.length).2 := by
  intro i j i0 i1 j0 j1 e
  obtain ⟨i, rfl⟩ := Int.eq_ofNat_of_zero_le i0
  obtain ⟨j, rfl⟩ := Int.eq_ofNat_of_zero_le j0
  have r1 := hm.row (i : Int) (by omega) (by omega)
  have r2 := hm.row (j : Int) (by omega) (by omega)
  rw [Ne, zdSs (by omega) (by omega), zTGw hm (by omega) (by omega), Classical.not_and_iff_not_or_not] at e
  rcases e with e | e
  · obtain ⟨n, hn, hne⟩ : ∃ n : Nat, (n : Int) < m.inputs ∧ ix (ix m.out (i : Int)) (n : Int) ≠ ix (ix m.out (j : Int)) (n : Int) := by
      refine Classical.byContradiction fun hc => e (List.ext_getElem (by omega) fun n h1 h2 => ?_)
      refine Classical.byContradiction fun hd => hc ⟨n, by omega, ?_⟩
      rw [zrZW h1, zrZW h2]; exact hd
    refine ⟨[(n : Int)], by simp; omega, ?_⟩
    simp only [Mly.outs, ne_eq, List.cons.injEq, and_true]
    exact hne
  · obtain ⟨n, hn, hne⟩ : ∃ n : Nat, (n : Int) < m.inputs ∧ ix c (ix (ix m.next (i : Int)) (n : Int)) ≠ ix c (ix (ix m.next (j : Int)) (n : Int)) := by
      refine Classical.byContradiction fun hc => e (List.ext_getElem (by simp; omega) fun n h1 h2 => ?_)
      refine Classical.byContradiction fun hd => hc ⟨n, by simp at h1; omega, ?_⟩
      simp only [List.length_map] at h1 h2
      rw [zrZW h1, zrZW h2]
      simpa using hd
    have n1 := hm.nx (i : Int) (n : Int) (by omega) (by omega) (by omega) hn
    have n2 := hm.nx (j : Int) (n : Int) (by omega) (by omega) (by omega) hn
    obtain ⟨w, hw, ho⟩ := h _ _ n1.1 n1.2 n2.1 n2.2 hne
    refine ⟨(n : Int) :: w, fun x hx => ?_, fun e => ho ?_⟩
    · rcases List.mem_cons.1 hx with rfl | hx
      · omega
      · exact hw x hx
    · simp only [Mly.outs, List.cons.injEq] at e
      exact e.2
structure Cls (m : Mly) (c : List Int) (k : Nat) : Prop where
  len : c.length = m.next.length
  can : Can c k
  sep : Sep m c
  fix : ∀ i j : Int, 0 ≤ i → i < m.next.length → 0 ≤ j → j < m.next.length → (ix c i = ix c j ↔ ix m.out i = ix m.out j ∧ (ix m.next i).map (fun t => ix c t) = (ix m.next j).map (fun t => ix c t))
theorem zqTf {m : Mly} (hm : m.Ok) : ∀ {f i : Nat} {c : List Int} {k : Nat}, c.length = m.next.length → Can c k → Sep m c → Rfi m c → m.next.length < f + k → ∃ k', Cls m (refn m f i c k).1 k'
  | 0, i, c, k, hl, hc, _, _, hf => by have := hc.len; omega
  | f + 1, i, c, k, hl, hc, hs, hr, hf => by
    obtain ⟨h1, h2, h3⟩ := zLGm (m := m) (c := c) (s := m.next.length)
    have hrl := zE7t (m := m) (c := c) (s := m.next.length)
    have hcmp := h1.ref hc (by omega) (fun i j hi hj e => hr i j (by omega) (by omega) ((zdSs (by omega) (by omega)).1 e))
    unfold refn
    rw [hl]
    by_cases hk : ((rnd m c m.next.length).1.length : Int) = (k : Int)
    · rw [if_pos hk]
      rcases hcmp with ⟨e, _⟩ | hlt
      · refine ⟨k, hl, hc, hs, fun i j i0 i1 j0 j1 => ?_⟩
        obtain ⟨i, rfl⟩ := Int.eq_ofNat_of_zero_le i0
        obtain ⟨j, rfl⟩ := Int.eq_ofNat_of_zero_le j0
        rw [← zTGw hm (by omega) (by omega), ← zdSs (s := m.next.length) (by omega) (by omega), e]
      · omega
    · rw [if_neg hk]
      rcases hcmp with ⟨_, e⟩ | hlt
      · omega
      · exact zqTf hm (by omega) h1 (hs.step hm) (hr.step hm) (by omega)
theorem z4tk {m : Mly} (hm : m.Ok) {x : Int} (hx : (m.next.length : Int) ≤ x) : ∃ k, Cls m (mref m x).1 k := by
  have hst := hm.states
  unfold mref
  rw [show (min (max x 0) (m.next.length : Int)).toNat = m.next.length by omega]
  have hz : ∀ i : Int, ix (List.replicate m.next.length (0 : Int)) i = 0 := fun i => by
    unfold ix
    rw [List.getD_eq_getElem?_getD, List.getElem?_replicate]
    split <;> rfl
  obtain ⟨n, hn⟩ : ∃ n, m.next.length = n + 1 := ⟨m.next.length - 1, by omega⟩
  have hc : Can (List.replicate m.next.length 0) 1 := by rw [hn]; exact Can.zeros n
  exact zqTf hm (k := 1) (by simp) hc (fun i j _ _ _ _ e => absurd ((hz i).trans (hz j).symm) e) (fun i j _ _ _ => (hz i).trans (hz j).symm) (by omega)
end Ab
namespace Ab
def fput (p : Nat → Nat) (v : Nat → Int) (O : List Int) : Nat → List Int
  | 0 => O
  | n + 1 => (fput p v O n).set (p n) (v n)
theorem zslG {p : Nat → Nat} {v : Nat → Int} {O : List Int} : ∀ {n : Nat}, (fput p v O n).length = O.length
  | 0 => rfl
  | n + 1 => by simp [fput, zslG]
theorem zNgl {p : Nat → Nat} {v : Nat → Int} {O : List Int} : ∀ {n : Nat}, (∀ i j, i < n → j < n → p i = p j → i = j) → (∀ i, i < n → p i < O.length) → ∀ i, i < n → ix (fput p v O n) (p i : Int) = v i
  | 0, _, _, i, h => by omega
  | n + 1, h1, h2, i, h => by
    unfold fput
    by_cases e : i = n
    · subst e
      have hl : p i < ((fput p v O i).set (p i) (v i)).length := by simp [zslG]; exact h2 i h
      rw [zrZW hl, List.getElem_set_self]
    · have ih := zNgl (v := v) (n := n) (fun i j hi hj => h1 i j (by omega) (by omega)) (fun i hi => h2 i (by omega)) i (by omega)
      have hne : p n ≠ p i := fun hp => e (h1 i n h (by omega) hp.symm)
      have hl : p i < (fput p v O n).length := by rw [zslG]; exact h2 i h
      rw [zrZW (by simpa using hl), List.getElem_set_ne hne, ← zrZW hl]
      exact ih
theorem zN68 {m : Mly} {s : Int} {q : List Pl} (h : Bq m s q) {i j : Nat} (i1 : i < q.length) (j1 : j < q.length) (e : (ix q (i : Int)).1 = (ix q (j : Int)).1) : i = j := by
  have hn : (q.map (·.1)).Nodup := h.nd
  rw [zrZW i1, zrZW j1] at e
  exact (List.getElem_inj (h₀ := by simpa using i1) (h₁ := by simpa using j1) hn).1 (by simpa using e)
def numP (P : List Pl) (n k : Nat) : List Int := fput (fun i => (ix P (i : Int)).1.toNat) (fun i => (i : Int)) (List.replicate n 0) k
def Mly.num (m : Mly) : List Int := numP (m.places m.start) m.next.length (m.places m.start).length
def Mly.trim (m : Mly) : Mly := ⟨m.inputs, 0, (m.places m.start).map fun p => (ix m.next p.1).map fun t => ix m.num t, (m.places m.start).map fun p => ix m.out p.1⟩
theorem z2h3 {m : Mly} (hm : m.Ok) {i : Nat} (hi : i < (m.places m.start).length) : ix m.num (ix (m.places m.start) (i : Int)).1 = (i : Int) := by
  have hf := zJmI m hm m.start hm.start
  have hr : ∀ j : Nat, j < (m.places m.start).length → 0 ≤ (ix (m.places m.start) (j : Int)).1 ∧ (ix (m.places m.start) (j : Int)).1 < (m.next.length : Int) := fun j hj => hf.bq.rng _ (zmAQ (by omega) (by omega))
  have h := zNgl (p := fun i => (ix (m.places m.start) (i : Int)).1.toNat) (v := fun i => (i : Int)) (O := List.replicate m.next.length 0) (n := (m.places m.start).length) (fun a b ha hb e => zN68 hf.bq ha hb (by have := hr a ha; have := hr b hb; omega)) (fun a ha => by have := hr a ha; simp; omega) i hi
  have h0 := hr i hi
  rw [show (((ix (m.places m.start) (i : Int)).1.toNat : Nat) : Int) = (ix (m.places m.start) (i : Int)).1 by omega] at h
  exact h
theorem zyO5 {m : Mly} : m.num.length = m.next.length := by unfold Mly.num numP; rw [zslG]; simp
theorem z08a {m : Mly} (hm : m.Ok) {i : Nat} (hi : i < (m.places m.start).length) {a : Int} (ha : 0 ≤ a ∧ a < m.inputs) : ∃ k : Nat, k < (m.places m.start).length ∧ (ix (m.places m.start) (k : Int)).1 = ix (ix m.next (ix (m.places m.start) (i : Int)).1) a := by
  have hf := zJmI m hm m.start hm.start
  obtain ⟨r1, r2⟩ := hf.run (i : Int) (by omega) (by omega)
  obtain ⟨k, k0, k1, e, _⟩ := hf.all ((ix (m.places m.start) (i : Int)).2 ++ [a]) (fun x hx => by
    rcases List.mem_append.1 hx with h | h
    · exact r2 x h
    · simp at h; rw [h]; exact ha)
  rw [zuwq, r1] at e
  exact ⟨k.toNat, by omega, by rw [show ((k.toNat : Nat) : Int) = k by omega]; exact e⟩
theorem zYAR {m : Mly} {i : Int} (h0 : 0 ≤ i) (h1 : i < (m.places m.start).length) : ix m.trim.next i = (ix m.next (ix (m.places m.start) i).1).map fun t => ix m.num t := by
  unfold Mly.trim; exact zWk8 h0 h1
theorem zPI0 {m : Mly} {i : Int} (h0 : 0 ≤ i) (h1 : i < (m.places m.start).length) : ix m.trim.out i = ix m.out (ix (m.places m.start) i).1 := by
  unfold Mly.trim; exact zWk8 h0 h1
theorem zLPq {m : Mly} : m.trim.next.length = (m.places m.start).length := by simp [Mly.trim]
theorem z4O0 {m : Mly} : m.trim.out.length = (m.places m.start).length := by simp [Mly.trim]
theorem zA5z {m : Mly} (hm : m.Ok) {i : Nat} (hi : i < (m.places m.start).length) {a : Int} (ha : 0 ≤ a ∧ a < m.inputs) : ∃ k : Nat, k < (m.places m.start).length ∧ (ix (m.places m.start) (k : Int)).1 = ix (ix m.next (ix (m.places m.start) (i : Int)).1) a ∧ ix (ix m.trim.next (i : Int)) a = (k : Int) := by
  have hf := zJmI m hm m.start hm.start
  have hr := hf.bq.rng _ (zmAQ (l := m.places m.start) (n := (i : Int)) (by omega) (by omega))
  have hrow := hm.row _ hr.1 hr.2
  obtain ⟨k, hk, e⟩ := z08a hm hi ha
  refine ⟨k, hk, e, ?_⟩
  rw [zYAR (by omega) (by omega), zWk8 ha.1 (by omega), ← e]
  exact z2h3 hm hk
theorem ziLN {m : Mly} (hm : m.Ok) : m.trim.Ok := by
  have hf := zJmI m hm m.start hm.start
  have hle := hf.bq.le
  have hpos := hf.bq.pos
  have hst := hm.states
  have hr := fun (s : Int) h0 h1 => hf.bq.rng _ (zmAQ (l := m.places m.start) (n := s) h0 h1)
  refine ⟨hm.inputs, by rw [zLPq]; omega, by rw [zLPq]; show (0 : Int) ≤ 0 ∧ (0 : Int) < _; omega, by rw [zLPq, z4O0], ?_, ?_, ?_⟩
  · intro s h0 h1
    rw [zLPq] at h1
    rw [zYAR h0 h1, zPI0 h0 h1, List.length_map]
    have := hr s h0 h1
    exact hm.row _ this.1 this.2
  · intro s a h0 h1 a0 a1
    rw [zLPq] at h1 ⊢
    obtain ⟨s, rfl⟩ := Int.eq_ofNat_of_zero_le h0
    obtain ⟨k, hk, _, e⟩ := zA5z hm (i := s) (by omega) ⟨a0, a1⟩
    rw [e]; omega
  · intro s a h0 h1 a0 a1
    rw [zLPq] at h1
    rw [zPI0 h0 h1]
    have := hr s h0 h1
    exact hm.ot _ a this.1 this.2 a0 a1
theorem zKRG {m : Mly} (hm : m.Ok) : ∀ {w : List Int} {i : Nat}, i < (m.places m.start).length → (∀ x ∈ w, 0 ≤ x ∧ x < m.inputs) → (∃ k : Nat, k < (m.places m.start).length ∧ (ix (m.places m.start) (k : Int)).1 = m.run (ix (m.places m.start) (i : Int)).1 w ∧ m.trim.run (i : Int) w = (k : Int)) ∧ m.trim.outs (i : Int) w = m.outs (ix (m.places m.start) (i : Int)).1 w
  | [], i, hi, _ => ⟨⟨i, hi, rfl, rfl⟩, rfl⟩
  | a :: w, i, hi, hw => by
    obtain ⟨k, hk, e1, e2⟩ := zA5z hm hi (hw a (by simp))
    obtain ⟨⟨j, hj, e3, e4⟩, e5⟩ := zKRG hm (w := w) hk (fun x hx => hw x (by simp [hx]))
    refine ⟨⟨j, hj, ?_, ?_⟩, ?_⟩
    · rw [e3, e1]; rfl
    · show m.trim.run (ix (ix m.trim.next (i : Int)) a) w = _
      rw [e2, e4]
    · show ix (ix m.trim.out (i : Int)) a :: m.trim.outs (ix (ix m.trim.next (i : Int)) a) w = ix (ix m.out (ix (m.places m.start) (i : Int)).1) a :: m.outs (ix (ix m.next (ix (m.places m.start) (i : Int)).1) a) w
      rw [e2, e5, e1, zPI0 (by omega) (by omega)]
def mrows (t : Mly) (c : List Int) : Nat → List (List Int) × List (List Int)
  | 0 => ([], [])
  | s + 1 => if ix c (s : Int) < ((mrows t c s).1.length : Int) then mrows t c s else ((mrows t c s).1 ++ [(ix t.next (s : Int)).map fun n => ix c n], (mrows t c s).2 ++ [ix t.out (s : Int)])
def Mly.quo (t : Mly) (c : List Int) : Mly := ⟨t.inputs, 0, (mrows t c c.length).1, (mrows t c c.length).2⟩
theorem z1Ut {t : Mly} {C : List Int} (hf : ∀ i j : Nat, i < C.length → j < C.length → ix C (i : Int) = ix C (j : Int) → ix t.out (i : Int) = ix t.out (j : Int) ∧ (ix t.next (i : Int)).map (fun n => ix C n) = (ix t.next (j : Int)).map (fun n => ix C n)) {c : List Int} {k : Nat} (h : Can c k) : ∀ {e : List Int}, C = c ++ e → ((mrows t C c.length).1.length = k ∧ (mrows t C c.length).2.length = k) ∧ ∀ i : Nat, i < c.length → ix (mrows t C c.length).1 (ix C (i : Int)) = (ix t.next (i : Int)).map (fun n => ix C n) ∧ ix (mrows t C c.length).2 (ix C (i : Int)) = ix t.out (i : Int) := by
  induction h with
  | nil => intro e _; exact ⟨⟨rfl, rfl⟩, fun i hi => by simp at hi⟩
  | @old c k v h v0 v1 ih =>
    intro e he
    obtain ⟨⟨l1, l2⟩, hh⟩ := ih (e := [v] ++ e) (by rw [he, List.append_assoc])
    have hv : ix C (c.length : Int) = v := by
      rw [he, zT8e (by omega) (by simp; omega), zD1B]
    have es : mrows t C (c ++ [v]).length = mrows t C c.length := by
      rw [show (c ++ [v]).length = c.length + 1 by simp]
      show (if ix C (c.length : Int) < ((mrows t C c.length).1.length : Int) then _ else _) = _
      rw [if_pos (by rw [hv, l1]; exact v1)]
    rw [es]
    refine ⟨⟨l1, l2⟩, fun i hi => ?_⟩
    by_cases hic : i = c.length
    · subst hic
      obtain ⟨j, hj, ej⟩ := List.mem_iff_getElem.1 (h.occ v v0 v1)
      have hCj : ix C (j : Int) = v := by rw [he, zT8e (by omega) (by simp; omega), zT8e (by omega) (by omega), zrZW hj, ej]
      have hfj := hf j c.length (by rw [he]; simp; omega) (by rw [he]; simp) (by rw [hCj, hv])
      have := hh j hj
      rw [hCj] at this
      rw [hv, ← hfj.1, ← hfj.2]
      exact this
    · exact hh i (by simp at hi; omega)
  | @new c k h ih =>
    intro e he
    obtain ⟨⟨l1, l2⟩, hh⟩ := ih (e := [(k : Int)] ++ e) (by rw [he, List.append_assoc])
    have hv : ix C (c.length : Int) = (k : Int) := by
      rw [he, zT8e (by omega) (by simp; omega), zD1B]
    have es : mrows t C (c ++ [(k : Int)]).length = ((mrows t C c.length).1 ++ [(ix t.next (c.length : Int)).map fun n => ix C n], (mrows t C c.length).2 ++ [ix t.out (c.length : Int)]) := by
      rw [show (c ++ [(k : Int)]).length = c.length + 1 by simp]
      show (if ix C (c.length : Int) < ((mrows t C c.length).1.length : Int) then _ else _) = _
      rw [if_neg (by rw [hv, l1]; omega)]
    rw [es]
    refine ⟨⟨by simp [l1], by simp [l2]⟩, fun i hi => ?_⟩
    by_cases hic : i = c.length
    · subst hic
      rw [hv]
      refine ⟨?_, ?_⟩
      · rw [← l1, zD1B]
      · rw [← l2, zD1B]
    · have hi' : i < c.length := by simp at hi; omega
      have hr := h.rng _ (zmAQ (l := c) (n := (i : Int)) (by omega) (by omega))
      have hCi : ix C (i : Int) = ix c (i : Int) := by rw [he, zT8e (by omega) (by simp; omega), zT8e (by omega) (by omega)]
      have := hh i hi'
      rw [hCi] at this ⊢
      dsimp only
      rw [zT8e hr.1 (by omega), zT8e hr.1 (by omega)]
      exact this
theorem zpkf {t : Mly} {c : List Int} {k : Nat} (h : Cls t c k) : (t.quo c).next.length = k ∧ (t.quo c).out.length = k ∧ ∀ s : Int, 0 ≤ s → s < t.next.length → ix (t.quo c).next (ix c s) = (ix t.next s).map (fun n => ix c n) ∧ ix (t.quo c).out (ix c s) = ix t.out s := by
  have hl := h.len
  obtain ⟨⟨h1, h2⟩, h3⟩ := z1Ut (t := t) (C := c) (fun i j hi hj e => (h.fix (i : Int) (j : Int) (by omega) (by omega) (by omega) (by omega)).1 e) h.can (e := []) (by simp)
  refine ⟨h1, h2, fun s s0 s1 => ?_⟩
  obtain ⟨s, rfl⟩ := Int.eq_ofNat_of_zero_le s0
  exact h3 s (by omega)
theorem zyUx {t : Mly} {c : List Int} {k : Nat} (h : Cls t c k) {s : Int} (s0 : 0 ≤ s) (s1 : s < t.next.length) : 0 ≤ ix c s ∧ ix c s < k := h.can.rng _ (zmAQ s0 (by have := h.len; omega))
structure Mnl (m : Mly) : Prop where
  ok : m.Ok
  all : ∀ s, 0 ≤ s → s < (m.next.length : Int) → ∃ w, (∀ x ∈ w, 0 ≤ x ∧ x < m.inputs) ∧ m.run m.start w = s
  dif : ∀ s t, 0 ≤ s → s < (m.next.length : Int) → 0 ≤ t → t < (m.next.length : Int) → (∀ w, (∀ x ∈ w, 0 ≤ x ∧ x < m.inputs) → m.outs s w = m.outs t w) → s = t
def Mly.minm (m : Mly) : Mly := m.trim.quo (mref m.trim 128).1
theorem z6WG {m : Mly} (hm : m.Ok) : ∃ k, Cls m.trim (mref m.trim 128).1 k := z4tk (ziLN hm) (by have := (ziLN hm).states; omega)
end Ab
namespace Ab
theorem zgR4 {f : Int → Int} {q : List Int} (h : (q.map f).Nodup) {s t : Int} (hs : s ∈ q) (ht : t ∈ q) (e : f s = f t) : s = t := by
  obtain ⟨i, hi, rfl⟩ := List.mem_iff_getElem.1 hs
  obtain ⟨j, hj, rfl⟩ := List.mem_iff_getElem.1 ht
  have := (List.getElem_inj (h₀ := by simpa using hi) (h₁ := by simpa using hj) h).1 (by simpa using e)
  subst this; rfl
theorem z3JU {f : Int → Int} {q : List Int} (h : (q.map f).Nodup) : q.Nodup := by
  rw [List.nodup_iff_pairwise_ne, List.pairwise_map] at h
  rw [List.nodup_iff_pairwise_ne]
  exact h.imp fun h e => h (by rw [e])
theorem zpbS {n : Nat} {q : List Int} (h : q.Nodup) (hr : ∀ x ∈ q, 0 ≤ x ∧ x < (n : Int)) (hl : q.length = n) {s : Int} (s0 : 0 ≤ s) (s1 : s < n) : s ∈ q := by
  refine Classical.byContradiction fun hn => ?_
  have := zVv5 n (l := s :: q) (List.nodup_cons.2 ⟨hn, h⟩) (fun x hx => by
    rcases List.mem_cons.1 hx with rfl | hx
    · exact ⟨s0, s1⟩
    · exact hr x hx)
  simp at this; omega
theorem Can.own {c : List Int} {k : Nat} (h : Can c k) : k = c.length → ∀ i : Nat, i < c.length → ix c (i : Int) = (i : Int) := by
  induction h with
  | nil => intro _ i hi; simp at hi
  | old h v0 v1 ih => intro e; have := h.len; simp at e; omega
  | @new c k h ih =>
    intro e i hi
    simp at e hi
    by_cases e' : i = c.length
    · subst e'; rw [zD1B, e]
    · rw [zT8e (by omega) (by omega)]; exact ih e i (by omega)
theorem Can.full {c : List Int} {k : Nat} (h : Can c k) : (∀ i j : Nat, i < c.length → j < c.length → ix c (i : Int) = ix c (j : Int) → i = j) → k = c.length := by
  induction h with
  | nil => intro _; rfl
  | @old c k v h v0 v1 ih =>
    intro hi
    obtain ⟨j, hj, e⟩ := List.mem_iff_getElem.1 (h.occ v v0 v1)
    have := hi j c.length (by simp; omega) (by simp) (by rw [zT8e (by omega) (by omega), zD1B, zrZW hj, e])
    omega
  | @new c k h ih =>
    intro hi
    have := ih fun i j h1 h2 e => hi i j (by simp; omega) (by simp; omega) (by rw [zT8e (by omega) (by omega), zT8e (by omega) (by omega)]; exact e)
    simp [this]
theorem z2wQ {m : Mly} (hm : m.Ok) {c : List Int} {k : Nat} (h : Cls m c k) {s t : Int} (hs : 0 ≤ s ∧ s < (m.next.length : Int)) (ht : 0 ≤ t ∧ t < (m.next.length : Int)) (e : ix c s = ix c t) {a : Int} (a0 : 0 ≤ a) (a1 : a < m.inputs) : ix (ix m.out s) a = ix (ix m.out t) a ∧ ix c (ix (ix m.next s) a) = ix c (ix (ix m.next t) a) := by
  obtain ⟨h1, h2⟩ := (h.fix s t hs.1 hs.2 ht.1 ht.2).1 e
  have r1 := hm.row s hs.1 hs.2
  have r2 := hm.row t ht.1 ht.2
  refine ⟨by rw [h1], ?_⟩
  have e1 : ix ((ix m.next s).map fun t => ix c t) a = ix c (ix (ix m.next s) a) := zWk8 a0 (by omega)
  have e2 : ix ((ix m.next t).map fun t => ix c t) a = ix c (ix (ix m.next t) a) := zWk8 a0 (by omega)
  rw [← e1, ← e2, h2]
theorem zH41 {m : Mly} (hm : m.Ok) {c : List Int} {k : Nat} (h : Cls m c k) : ∀ {w : List Int} {s t : Int}, (0 ≤ s ∧ s < (m.next.length : Int)) → (0 ≤ t ∧ t < (m.next.length : Int)) → ix c s = ix c t → (∀ x ∈ w, 0 ≤ x ∧ x < m.inputs) → m.outs s w = m.outs t w
  | [], _, _, _, _, _, _ => rfl
  | a :: w, s, t, hs, ht, e, hw => by
    have ha := hw a (by simp)
    obtain ⟨h1, h2⟩ := z2wQ hm h hs ht e ha.1 ha.2
    have n1 := hm.nx s a hs.1 hs.2 ha.1 ha.2
    have n2 := hm.nx t a ht.1 ht.2 ha.1 ha.2
    show ix (ix m.out s) a :: m.outs (ix (ix m.next s) a) w = ix (ix m.out t) a :: m.outs (ix (ix m.next t) a) w
    rw [h1, zH41 hm h n1 n2 h2 fun x hx => hw x (by simp [hx])]
structure Rcl (m : Mly) (c q : List Int) : Prop where
  nd : (q.map fun s => ix c s).Nodup
  rng : ∀ s ∈ q, 0 ≤ s ∧ s < (m.next.length : Int)
  get : ∀ s ∈ q, ∃ w, (∀ x ∈ w, 0 ≤ x ∧ x < m.inputs) ∧ m.run m.start w = s
  fst : ix c m.start ∈ q.map fun s => ix c s
  nxt : ∀ s ∈ q, ∀ a, 0 ≤ a → a < m.inputs → ix c (ix (ix m.next s) a) ∈ q.map fun s => ix c s
theorem z09q {m : Mly} (hm : m.Ok) {c q : List Int} {k : Nat} (h : Cls m c k) (hq : Rcl m c q) : q.length = m.next.length ↔ Mnl m := by
  have hst := hm.states
  have hle : q.length ≤ m.next.length := by
    have := zVv5 m.next.length (z3JU hq.nd) hq.rng
    exact this
  constructor
  · intro hl
    have hin := fun (s : Int) (h0 : 0 ≤ s) (h1 : s < m.next.length) => zpbS (z3JU hq.nd) hq.rng hl h0 h1
    refine ⟨hm, fun s s0 s1 => hq.get s (hin s s0 s1), fun s t s0 s1 t0 t1 hw => ?_⟩
    refine Classical.byContradiction fun hne => ?_
    have hc : ix c s ≠ ix c t := fun e => hne (zgR4 hq.nd (hin s s0 s1) (hin t t0 t1) e)
    obtain ⟨w, h1, h2⟩ := h.sep s t s0 s1 t0 t1 hc
    exact h2 (hw w h1)
  · intro hM
    refine Nat.le_antisymm hle ?_
    have main : ∀ n : Nat, ∀ w : List Int, w.length = n → (∀ x ∈ w, 0 ≤ x ∧ x < m.inputs) → ix c (m.run m.start w) ∈ q.map fun s => ix c s := by
      intro n
      induction n with
      | zero =>
        intro w hw _
        obtain rfl := List.eq_nil_of_length_eq_zero hw
        exact hq.fst
      | succ n ih =>
        intro w hw hx
        have hne : w ≠ [] := by intro e; subst e; simp at hw
        obtain ⟨u, x, rfl⟩ : ∃ u x, w = u ++ [x] := ⟨w.dropLast, w.getLast hne, (List.dropLast_concat_getLast hne).symm⟩
        have hu : ∀ y ∈ u, 0 ≤ y ∧ y < m.inputs := fun y hy => hx y (by simp [hy])
        have hxx := hx x (by simp)
        obtain ⟨s, hs, e⟩ := List.mem_map.1 (ih u (by simpa using hw) hu)
        have h1 := (z2wQ hm h (hq.rng s hs) (zwd6 hm hm.start hu) e hxx.1 hxx.2).2
        rw [zuwq]
        show ix c (ix (ix m.next (m.run m.start u)) x) ∈ _
        rw [← h1]
        exact hq.nxt s hs x hxx.1 hxx.2
    have hin : ∀ s : Int, 0 ≤ s → s < m.next.length → ix c s ∈ q.map fun s => ix c s := fun s s0 s1 => by
      obtain ⟨w, hw, rfl⟩ := hM.all s s0 s1
      exact main _ w rfl hw
    have := zVv5 q.length (l := (List.range m.next.length).map fun (s : Nat) => (((q.map fun s => ix c s).idxOf (ix c (s : Int)) : Nat) : Int)) (by
      rw [List.nodup_iff_pairwise_ne, List.pairwise_map]
      refine List.Pairwise.imp_of_mem (fun {a b} ha hb hne e => ?_) List.nodup_range
      simp only [List.mem_range] at ha hb
      have e' : (q.map fun s => ix c s).idxOf (ix c (a : Int)) = (q.map fun s => ix c s).idxOf (ix c (b : Int)) := by omega
      have l1 := List.idxOf_lt_length_iff.2 (hin (a : Int) (by omega) (by omega))
      have l2 := List.idxOf_lt_length_iff.2 (hin (b : Int) (by omega) (by omega))
      have g1 := List.getElem_idxOf l1
      have g2 := List.getElem_idxOf l2
      have hc : ix c (a : Int) = ix c (b : Int) := by rw [← g1, ← g2]; congr 1
      have := hM.dif (a : Int) (b : Int) (by omega) (by omega) (by omega) (by omega) fun w hw => zH41 hm h ⟨by omega, by omega⟩ ⟨by omega, by omega⟩ hc hw
      exact hne (by omega)) (fun x hx => by
      obtain ⟨s, hs, rfl⟩ := List.mem_map.1 hx
      simp only [List.mem_range] at hs
      have := List.idxOf_lt_length_iff.2 (hin (s : Int) (by omega) (by omega))
      rw [List.length_map] at this
      omega)
    simpa using this
theorem ztpQ {m : Mly} (hm : m.Ok) : ((m.places m.start).length = m.next.length ∧ m.minm.next.length = m.next.length) ↔ Mnl m := by
  have hf := zJmI m hm m.start hm.start
  have ht := ziLN hm
  obtain ⟨k, hk⟩ := z6WG hm
  have hq : m.minm.next.length = k := (zpkf hk).1
  have htl : m.trim.next.length = (m.places m.start).length := zLPq
  have hrg : ∀ p ∈ (m.places m.start).map (·.1), 0 ≤ p ∧ p < (m.next.length : Int) := fun x hx => by
    obtain ⟨p, hp, rfl⟩ := List.mem_map.1 hx
    exact hf.bq.rng p hp
  have htr : ∀ i : Nat, i < (m.places m.start).length → ∀ w, (∀ x ∈ w, 0 ≤ x ∧ x < m.inputs) → m.trim.outs (i : Int) w = m.outs (ix (m.places m.start) (i : Int)).1 w := fun i hi w hw => (zKRG hm hi hw).2
  constructor
  · rintro ⟨h1, h2⟩
    have hin : ∀ s : Int, 0 ≤ s → s < m.next.length → ∃ i : Nat, i < (m.places m.start).length ∧ (ix (m.places m.start) (i : Int)).1 = s := fun s s0 s1 => by
      have := zpbS (q := (m.places m.start).map (·.1)) hf.bq.nd hrg (by simpa using h1) s0 s1
      obtain ⟨p, hp, e⟩ := List.mem_map.1 this
      obtain ⟨i, hi, rfl⟩ := List.mem_iff_getElem.1 hp
      exact ⟨i, hi, by rw [zrZW hi]; exact e⟩
    refine ⟨hm, fun s s0 s1 => ?_, fun s t s0 s1 t0 t1 hw => ?_⟩
    · obtain ⟨i, hi, e⟩ := hin s s0 s1
      obtain ⟨r1, r2⟩ := hf.run (i : Int) (by omega) (by omega)
      exact ⟨_, r2, by rw [r1, e]⟩
    · obtain ⟨i, hi, e⟩ := hin s s0 s1
      obtain ⟨j, hj, e'⟩ := hin t t0 t1
      have hown := hk.can.own (by have := hk.len; omega)
      refine Classical.byContradiction fun hne => ?_
      have hij : i ≠ j := fun he => hne (by rw [← e, ← e', he])
      obtain ⟨w, v1, v2⟩ := hk.sep (i : Int) (j : Int) (by omega) (by omega) (by omega) (by omega) (by rw [hown i (by have := hk.len; omega), hown j (by have := hk.len; omega)]; omega)
      rw [htr i hi w v1, htr j hj w v1, e, e'] at v2
      exact v2 (hw w v1)
  · intro hM
    have hl : (m.places m.start).length = m.next.length := by
      refine Nat.le_antisymm hf.bq.le ?_
      have := zVv5 (m.places m.start).length (l := (List.range m.next.length).map fun (s : Nat) => ix m.num (s : Int)) (by
        rw [List.nodup_iff_pairwise_ne, List.pairwise_map]
        refine List.Pairwise.imp_of_mem (fun {a b} ha hb hne e => ?_) List.nodup_range
        simp only [List.mem_range] at ha hb
        obtain ⟨wa, va, ea⟩ := hM.all (a : Int) (by omega) (by omega)
        obtain ⟨wb, vb, eb⟩ := hM.all (b : Int) (by omega) (by omega)
        obtain ⟨i, i0, i1, f1, _⟩ := hf.all wa va
        obtain ⟨j, j0, j1, f2, _⟩ := hf.all wb vb
        obtain ⟨i, rfl⟩ := Int.eq_ofNat_of_zero_le i0
        obtain ⟨j, rfl⟩ := Int.eq_ofNat_of_zero_le j0
        rw [ea] at f1
        rw [eb] at f2
        rw [← f1, ← f2, z2h3 hm (by omega), z2h3 hm (by omega)] at e
        have : i = j := by omega
        subst this
        rw [f1] at f2
        exact hne (by omega)) (fun x hx => by
        obtain ⟨s, hs, rfl⟩ := List.mem_map.1 hx
        simp only [List.mem_range] at hs
        obtain ⟨wa, va, ea⟩ := hM.all (s : Int) (by omega) (by omega)
        obtain ⟨i, i0, i1, f1, _⟩ := hf.all wa va
        obtain ⟨i, rfl⟩ := Int.eq_ofNat_of_zero_le i0
        rw [ea] at f1
        rw [← f1, z2h3 hm (by omega)]
        omega)
      simpa using this
    refine ⟨hl, ?_⟩
    rw [hq]
    have := hk.can.full fun i j hi hj e => by
      have hi' : i < (m.places m.start).length := by have := hk.len; omega
      have hj' : j < (m.places m.start).length := by have := hk.len; omega
      have r1 := hf.bq.rng _ (zmAQ (l := m.places m.start) (n := (i : Int)) (by omega) (by omega))
      have r2 := hf.bq.rng _ (zmAQ (l := m.places m.start) (n := (j : Int)) (by omega) (by omega))
      have := hM.dif _ _ r1.1 r1.2 r2.1 r2.2 fun w hw => by
        rw [← htr i hi' w hw, ← htr j hj' w hw]
        exact zH41 ht hk ⟨by omega, by omega⟩ ⟨by omega, by omega⟩ e hw
      exact zN68 hf.bq hi' hj' this
    have := hk.len
    omega
def rit (m : Mly) : Nat → List Int
  | 0 => List.replicate m.next.length 0
  | i + 1 => (rnd m (rit m i) m.next.length).2
theorem zGb5 {m : Mly} : ∀ {i : Nat}, (rit m i).length = m.next.length
  | 0 => by simp [rit]
  | i + 1 => by unfold rit; exact zE7t.1
theorem zo5b {m : Mly} {i : Nat} (h : rit m (i + 1) = rit m i) : ∀ j, rit m (i + j) = rit m i
  | 0 => rfl
  | j + 1 => by
    have ih := zo5b h j
    rw [← Nat.add_assoc]
    show (rnd m (rit m (i + j)) m.next.length).2 = _
    rw [ih]
    exact h
theorem zigI {m : Mly} (hm : m.Ok) : ∀ {i : Nat}, Rfi m (rit m i)
  | 0 => fun i j _ _ _ => by
    have hz : ∀ i : Int, ix (List.replicate m.next.length (0 : Int)) i = 0 := fun i => by
      unfold ix
      rw [List.getD_eq_getElem?_getD, List.getElem?_replicate]
      split <;> rfl
    unfold rit
    rw [hz, hz]
  | i + 1 => (zigI hm (i := i)).step hm
theorem z6ln {m : Mly} (hm : m.Ok) : ∀ {f i k : Nat}, Can (rit m i) k → (refn m f i (rit m i) k).1 = rit m (i + f)
  | 0, i, k, _ => rfl
  | f + 1, i, k, hc => by
    obtain ⟨h1, _, _⟩ := zLGm (m := m) (c := rit m i) (s := m.next.length)
    have hrl := zE7t (m := m) (c := rit m i) (s := m.next.length)
    have hl := zGb5 (m := m) (i := i)
    have hcmp := h1.ref hc (by omega) (fun a b ha hb e => zigI hm a b (by omega) (by omega) ((zdSs (by omega) (by omega)).1 e))
    unfold refn
    rw [hl]
    by_cases hk : ((rnd m (rit m i) m.next.length).1.length : Int) = (k : Int)
    · rw [if_pos hk]
      rcases hcmp with ⟨e, _⟩ | hlt
      · exact (zo5b (show rit m (i + 1) = rit m i from e) (f + 1)).symm
      · omega
    · rw [if_neg hk]
      have := z6ln hm (f := f) (i := i + 1) (k := (rnd m (rit m i) m.next.length).1.length) h1
      rw [show i + (f + 1) = i + 1 + f by omega]
      exact this
theorem zRQQ {m : Mly} (hm : m.Ok) : ∃ k, Cls m (rit m m.next.length) k := by
  have hst := hm.states
  obtain ⟨k, hk⟩ := z4tk hm (x := m.next.length) (Int.le_refl _)
  refine ⟨k, ?_⟩
  unfold mref at hk
  rw [show (min (max (m.next.length : Int) 0) (m.next.length : Int)).toNat = m.next.length by omega] at hk
  obtain ⟨n, hn⟩ : ∃ n, m.next.length = n + 1 := ⟨m.next.length - 1, by omega⟩
  have hc : Can (rit m 0) 1 := by show Can (List.replicate m.next.length 0) 1; rw [hn]; exact Can.zeros n
  have e := z6ln hm (f := m.next.length) (i := 0) hc
  rw [Nat.zero_add] at e
  rw [← e]
  exact hk
end Ab
