/- Equality of lists, of machines. The document's better word. The document's table of words: what is read. The document's improved word. The document's table of first words. Condition: none. -/
import Derived.Test.YtkchnhfeebkogaaN43Lv
import Derived.Test.YtkchnhfeebkogaaN43Na
import Derived.Test.YtkchnhfeebkogaaPlan
set_option linter.all false
set_option maxRecDepth 100000
set_option maxHeartbeats 4000000
namespace Ab
theorem zBCK {a b : List Int} (hl : a.length = b.length) (h : ∀ j, 0 ≤ j → j < (a.length : Int) → ix a j = ix b j) : a = b := by
  apply List.ext_getElem hl
  intro i h1 h2
  have := h i (by omega) (by omega)
  rwa [zrZW h1, zrZW h2] at this
theorem z0mX (a b : List Int) (ha : (a.length : Int) ≤ 1000000) (hb : (b.length : Int) ≤ 9223372036854775807) : PC z1aV [iL a, iL b] = some (.bool (decide (a = b))) := by
  refine zx72 (zWJI rfl ?_)
  by_cases hl : a.length = b.length
  · simp [hl]
    refine zv8C (fun i : Int => [(2, .int i)]) (fun _ => []) (fun i => 0 ≤ i ∧ i ≤ b.length ∧ ∀ j, 0 ≤ j → j < i → ix a j = ix b j) (fun i => (b.length - i).toNat) 0 rfl ⟨by omega, by omega, zguy⟩ fun i ⟨i0, i1, i2⟩ => ?_
    by_cases hi : i < a.length
    · have hib : i < (b.length : Int) := by omega
      simp [-zJRc, hl, hib, i0]
      refine ⟨fun h => ⟨by omega, zGkM (i + 1) rfl rfl ⟨by omega, by omega, zvtS h i2⟩ (by omega)⟩, fun h e => ?_⟩
      subst e; exact h rfl
    · have hib : ¬ i < (b.length : Int) := by omega
      have e := zBCK hl fun j j0 j1 => i2 j j0 (by omega)
      simp [hl, hib]
      exact e
  · have hl' : ¬ (a.length : Int) = b.length := by omega
    have he : ¬ a = b := fun e => hl (by rw [e])
    simp [hl', he, hl]
structure Mly.Lil (m : Mly) : Prop where
  nl : (m.next.length : Int) ≤ 1000000
  ol : (m.out.length : Int) ≤ 1000000
  nr : ∀ r ∈ m.next, (r.length : Int) ≤ 1000000
  or : ∀ r ∈ m.out, (r.length : Int) ≤ 1000000
end Ab
namespace Ab
theorem zmWJ {ce : CE} {a c : AV} {r : List Blk} : ev ce (⟨some 2, [a, c], .live⟩ :: r) 0 [] (fun _ => .ptr 0 (kst (some 2)) 0) (.ld (.v 0) (some 2)) = some (.agg [a, c], none) := (rfl)
def bw (o : Option (List Int)) : AV := .agg [.bool o.isSome, iL (o.getD [])]
theorem zbGx (o : Option (List Int)) (w : List Int) (ho : ∀ x, o = some x → (x.length : Int) ≤ 9223372036854775807) (hw : (w.length : Int) ≤ 9223372036854775807) : PC zZwr [bw o, iL w] = some (bw (btr o w)) := by
  refine zx72 (z2S8 rfl ?_)
  by_cases hl : 1024 < w.length
  · have hl' := eq_true (show (1024 : Int) < (w.length : Int) by omega)
    have e : btr o w = o := by unfold btr; rw [if_pos hl]
    rw [e]
    cases o with
    | none => simp [-zJRc, hl', bw, zmWJ]
    | some x => simp [-zJRc, hl', bw, zmWJ]
  · have hl' := eq_false (show ¬ (1024 : Int) < (w.length : Int) by omega)
    cases o with
    | none =>
      have e : btr none w = some w := by unfold btr; rw [if_neg hl]
      rw [e]
      simp [-zJRc, hl', bw, zmWJ]
    | some x =>
      have e : btr (some x) w = if slxC x w ≤ 0 then some x else some w := by unfold btr; rw [if_neg hl]
      rw [e]
      have hc := z6sk x w (ho x rfl) hw
      by_cases h : slxC x w ≤ 0
      · have h' := eq_true h
        rw [if_pos h]
        simp [-zJRc, hl', bw, hc, h', zmWJ]
      · have h' := eq_false h
        rw [if_neg h]
        simp [-zJRc, hl', bw, hc, h', zmWJ]
theorem zhCc (ps : List (Bool × List Int)) (hp : (ps.length : Int) ≤ 1000000) (h : ((ps.map (·.2)).flatten.length : Int) ≤ 1000000) : PC z4HM [.imm false (ps.map wB)] = some (iL (ps.map (·.2)).flatten) := by
  refine zx72 (zdcc rfl ?_)
  have hle : ∀ i : Nat, ((ps.map (·.2)).take i).flatten.length ≤ (ps.map (·.2)).flatten.length := fun i => by
    have e : ((ps.map (·.2)).take i).flatten ++ ((ps.map (·.2)).drop i).flatten = (ps.map (·.2)).flatten := by rw [← List.flatten_append, List.take_append_drop]
    rw [← e]; simp
  have hql : (ps.map (·.2)).length = ps.length := by simp
  have hqi : ∀ i : Nat, i < ps.length → ix (ps.map (·.2)) (i : Int) = (ix ps (i : Int)).2 := fun i hi => by rw [zrZW (by simp; exact hi), zrZW hi]; simp
  generalize ps.map (·.2) = qs at *
  simp
  refine zv8C (fun i : Nat => [(1, .int i), (2, .sl 0 ((qs.take i).flatten).length 0 ((qs.take i).flatten).length)]) (fun i => [louI (qs.take i).flatten]) (fun i => i ≤ ps.length) (fun i => ps.length - i) 0 (by simp [sets]) (by omega) ?_
  intro i i0
  by_cases hi : i < ps.length
  · have t1 : (qs.take (i + 1)).flatten = (qs.take i).flatten ++ (ix ps (i : Int)).2 := by
      rw [List.take_add_one, List.getElem?_eq_getElem (by omega), ← hqi i hi, zrZW (by omega), List.flatten_append]; simp
    have hb := hle (i + 1)
    rw [t1] at hb
    generalize (qs.take i).flatten = F at *
    rw [List.length_append] at hb
    by_cases hn : (ix ps (i : Int)).2 = []
    · have t2 : (qs.take (i + 1)).flatten = F := by rw [t1, hn]; simp
      rcases zzLk (ix ps (i : Int)) with ⟨hw, _⟩ | hw
      · simp [-zJRc, -List.length_flatten, hi, hw]
        refine ⟨by split <;> simp, by omega, by omega, zGkM (i + 1) (by rw [t2]; simp [-List.length_flatten]) (by rw [t2]) (by omega) (by omega)⟩
      · rw [hn] at hw
        simp [-zJRc, -List.length_flatten, hi, hw]
        refine ⟨by split <;> simp, by omega, by omega, zGkM (i + 1) (by rw [t2]; simp [-List.length_flatten]) (by rw [t2]) (by omega) (by omega)⟩
    · have hw : wB (ix ps (i : Int)) = iL (ix ps (i : Int)).2 := (zzLk _).resolve_left fun h => hn h.2
      simp [-zJRc, -List.length_flatten, hi, hn, hw]
      refine ⟨by split <;> simp, by omega, by omega, zGkM (i + 1) (by rw [t1]; simp [-List.length_flatten]) (by rw [t1]; simp [-List.length_flatten, hn]) (by omega) (by omega)⟩
  · have ei : i = ps.length := by omega
    subst ei
    rw [← hql, List.take_length]
    have hv := zX4P (σ := [louI qs.flatten]) (b := 0) rfl
    have hnl : ¬ qs.length < ps.length := by omega
    simp [-List.length_flatten, hv, hnl]
end Ab
namespace Ab
def xw (f : Bool) (o : Option (List Int)) : AV := match o with
  | none => if f = true then .snil else iL []
  | some w => wB (f, w)
def cw2 (f : Bool) (o : Option (List Int)) : List AV := [.bool o.isSome, xw f o]
theorem xw_wk {f : Bool} {o : Option (List Int)} : wk (xw f o) = .imm false ((o.getD []).map .int) := by
  cases o with
  | none => cases f <;> rfl
  | some w =>
    show wk (wB (f, w)) = _
    rcases zzLk (f, w) with ⟨h, e⟩ | h
    · rw [h]; have e : w = [] := e; subst e; rfl
    · rw [h]; rfl
theorem zjp9 (f : Bool) (o : Option (List Int)) : (xw f o = .snil ∧ o.getD [] = []) ∨ xw f o = iL (o.getD []) := by
  cases o with
  | none => cases f <;> simp [xw]
  | some w =>
    show (wB (f, w) = .snil ∧ w = []) ∨ wB (f, w) = iL w
    exact zzLk (f, w)
def trow (N : Nat) (T : TO) (s : Nat) : List AV := (List.range N).flatMap fun (t : Nat) => cw2 true (T (s : Int) (t : Int))
theorem z1ua {α : Type} {f : α → AV} {g : α → AV} : ∀ {l : List α} {i : Nat} (h : i < l.length), (l.flatMap fun x => [f x, g x]).drop (i * 2) = f l[i] :: g l[i] :: (l.flatMap fun x => [f x, g x]).drop (i * 2 + 2)
  | p :: l, 0, _ => rfl
  | p :: l, i + 1, h => by
    have := z1ua (f := f) (g := g) (l := l) (i := i) (by simpa using h)
    rw [show (i + 1) * 2 = i * 2 + 1 + 1 by omega]
    exact this
theorem zLWT {α : Type} {f : α → AV} {g : α → AV} : ∀ {l : List α}, (l.flatMap fun x => [f x, g x]).length = 2 * l.length
  | [] => rfl
  | p :: l => by
    have := zLWT (f := f) (g := g) (l := l)
    simp only [List.flatMap_cons, List.length_append, List.length_cons, List.length_nil] at this ⊢; omega
theorem zs5t {α : Type} {f : α → AV} {g : α → AV} {f' : α → AV} {g' : α → AV} {x y : AV} : ∀ {l : List α} {i : Nat} (h : i < l.length), (∀ j (hj : j < l.length), j ≠ i → f' l[j] = f l[j] ∧ g' l[j] = g l[j]) → f' l[i] = x → g' l[i] = y → putR (l.flatMap fun x => [f x, g x]) (i * 2) [x, y] = l.flatMap fun x => [f' x, g' x]
  | p :: l, 0, h, hne, h1, h2 => by
    have e : l.flatMap (fun x => [f x, g x]) = l.flatMap fun x => [f' x, g' x] := by
      rw [List.flatMap_def, List.flatMap_def]
      congr 1
      apply List.ext_getElem
      · simp
      · intro j k1 k2
        simp only [List.getElem_map]
        simp only [List.length_map] at k1
        obtain ⟨a1, a2⟩ := hne (j + 1) (by simp; omega) (by omega)
        simp only [List.getElem_cons_succ] at a1 a2
        rw [a1, a2]
    simp only [List.getElem_cons_zero] at h1 h2
    show putR (f p :: g p :: l.flatMap _) 0 [x, y] = f' p :: g' p :: l.flatMap _
    rw [e, h1, h2]
    generalize l.flatMap (fun x => [f' x, g' x]) = L
    cases L <;> rfl
  | p :: l, i + 1, h, hne, h1, h2 => by
    have ih := zs5t (f := f) (g := g) (f' := f') (g' := g') (x := x) (y := y) (l := l) (i := i) (by simpa using h) (fun j hj hji => by
      have := hne (j + 1) (by simp; omega) (by omega)
      simpa using this) (by simpa using h1) (by simpa using h2)
    have h0 := hne 0 (by simp) (by omega)
    simp only [List.getElem_cons_zero] at h0
    rw [show (i + 1) * 2 = i * 2 + 1 + 1 by omega]
    show f p :: g p :: putR (l.flatMap _) (i * 2) [x, y] = f' p :: g' p :: l.flatMap _
    rw [ih, h0.1, h0.2]
section
variable {N s t : Nat} {T : TO}
theorem zmBL : (trow N T s).length = 2 * N := by
  unfold trow cw2
  rw [zLWT]; simp
theorem z05Q {K : AV → Prop} {tk : Tk K} (h : t < N) : pT (trow N T s) (0 + t * 2) (some 2) K tk = K (.agg (cw2 true (T (s : Int) (t : Int)))) := by
  have := z1ua (f := fun (t : Nat) => AV.bool (T (s : Int) (t : Int)).isSome) (g := fun (t : Nat) => xw true (T (s : Int) (t : Int))) (l := List.range N) (i := t) (by simpa using h)
  have hl := zmBL (N := N) (T := T) (s := s)
  unfold pT part
  rw [Nat.zero_add]
  simp only
  rw [if_pos (by rw [hl]; omega)]
  unfold trow cw2
  rw [this]
  simp [cw2]
theorem zTAd (h : t < N) : elm (trow N T s) (t * 2) = some (.bool (T (s : Int) (t : Int)).isSome) := by
  have := z1ua (f := fun (t : Nat) => AV.bool (T (s : Int) (t : Int)).isSome) (g := fun (t : Nat) => xw true (T (s : Int) (t : Int))) (l := List.range N) (i := t) (by simpa using h)
  rw [znyW]
  have h0 := congrArg (fun l : List AV => l[0]?) this
  simp only [List.getElem?_drop, Nat.add_zero, List.getElem?_cons_zero, List.getElem_range] at h0
  exact h0
theorem znZv (h : t < N) : elm (trow N T s) (t * 2 + 1) = some (xw true (T (s : Int) (t : Int))) := by
  have := z1ua (f := fun (t : Nat) => AV.bool (T (s : Int) (t : Int)).isSome) (g := fun (t : Nat) => xw true (T (s : Int) (t : Int))) (l := List.range N) (i := t) (by simpa using h)
  rw [znyW]
  have h0 := congrArg (fun l : List AV => l[1]?) this
  simp only [List.getElem?_drop, List.getElem?_cons_succ, List.getElem?_cons_zero, List.getElem_range] at h0
  exact h0
theorem zl0E (h : t < N) {w : List Int} (hw : w ≠ []) : putR (trow N T s) (t * 2) [.bool true, iL w] = trow N (updW T (s : Int) (t : Int) w) s := by
  unfold trow cw2
  refine zs5t (l := List.range N) (i := t) (by simpa using h) (fun j hj hne => ?_) ?_ ?_
  · simp only [List.getElem_range, updW]
    rw [if_neg (by omega)]
    exact ⟨rfl, rfl⟩
  · simp [updW]
  · simp only [List.getElem_range, updW, and_self, if_true]
    show wB (true, w) = _
    exact (zzLk (true, w)).resolve_left fun h => hw h.2
theorem zdC5 {u : Nat} (h : u ≠ s) {w : List Int} : trow N (updW T (s : Int) (t : Int) w) u = trow N T u := by
  unfold trow
  congr 1
  funext j
  unfold updW
  rw [if_neg fun e => h (by omega)]
end
end Ab
namespace Ab
theorem z9Jf {ce : CE} {σ : List Blk} {n : Nat} {a c : AV} (h : blk σ n = some ⟨some 2, [a, c], .live⟩) : ev ce σ 0 [] (fun _ => .ptr n (kst (some 2)) 0) (.ld (.v 0) (some 2)) = some (.agg [a, c], none) := by
  have hu : upto σ n (kst (some 2)) = some ⟨some 2, [a, c], .live⟩ := by unfold upto; rw [h]; rfl
  simp only [ev, hu]
  rfl
theorem bl_1 {σ : List Blk} {a b : Blk} : blk (σ ++ [a, b]) (σ.length + 1) = some b := by
  rw [zzWB, List.getElem?_append_right (by omega), show σ.length + 1 - σ.length = 1 by omega]; rfl
theorem bl_0 {σ : List Blk} {a b : Blk} : blk (σ ++ [a, b]) σ.length = some a := by
  rw [zzWB, List.getElem?_append_right (by omega), show σ.length - σ.length = 0 by omega]; rfl
theorem st_1 {σ : List Blk} {a b B : Blk} : setB (σ ++ [a, b]) (σ.length + 1) B = σ ++ [a, B] := by rw [zVhL]; rfl
theorem st_0 {σ : List Blk} {a b B : Blk} : setB (σ ++ [a, b]) σ.length B = σ ++ [B, b] := zVhL (k := 0)
theorem zquH {f : Bool} {o : Option (List Int)} : wk1 (xw f o) = .imm false ((o.getD []).map .int) := by
  rcases zjp9 f o with ⟨h, e⟩ | h
  · rw [h, e]; rfl
  · rw [h]; rfl
theorem xw_f {o : Option (List Int)} : xw false o = iL (o.getD []) := by
  cases o with
  | none => rfl
  | some w => exact (zzLk (false, w)).elim (fun h => by rw [show wB (false, w) = iL w from rfl] at h; exact absurd h.1 (by simp)) id
theorem zS24 {f : Bool} {o : Option (List Int)} : noLoc (xw f o) = true := by
  rcases zjp9 f o with ⟨h, e⟩ | h
  · rw [h]; rfl
  · rw [h]; rfl
theorem zNSv {f : Bool} {o : Option (List Int)} : (xw f o).cells = [xw f o] := by
  rcases zjp9 f o with ⟨h, e⟩ | h
  · rw [h]
  · rw [h]
theorem zZBW {f : Bool} {o : Option (List Int)} {K : AV → Prop} : li1 (xw f o).pimm none K = K (xw f o) := by
  rcases zjp9 f o with ⟨h, e⟩ | h
  · rw [h]; rfl
  · rw [h]; rfl
theorem zxGU {f : Bool} {o : Option (List Int)} : notUnd (xw f o) = true := by
  rcases zjp9 f o with ⟨h, e⟩ | h
  · rw [h]; rfl
  · rw [h]; rfl
theorem z4wh {f : Bool} {o : Option (List Int)} : notAgg (xw f o) = true := by
  rcases zjp9 f o with ⟨h, e⟩ | h
  · rw [h]; rfl
  · rw [h]; rfl
def refs2 (N : Nat) : List AV := (List.range N).map fun s => .sl (2 + s) (2 * N) 0 N
theorem zdvp {N : Nat} : (refs2 N).length = N := by simp [refs2]
theorem zgCd {N s : Nat} (h : s < N) : elm (refs2 N) s = some (.sl (2 + s) (2 * N) 0 N) := by rw [znyW]; simp [refs2, h]
structure Cds (n : Nst) (T : TO) (s t : Int) (o : Option (List Int)) (ws : List (List Int)) (Q : List Int → Prop) : Prop where
  e : o = btrs (T s t) ws
  c : ∀ w ∈ ws, Cnd n.mch T s t w
  a : ∀ w, Q w → w ∈ ws
theorem Cds.add {n : Nst} {T : TO} {s t : Int} {o : Option (List Int)} {ws : List (List Int)} {Q : List Int → Prop} (h : Cds n T s t o ws Q) {w : List Int} (hw : Cnd n.mch T s t w) {Q' : List Int → Prop} (hq : ∀ v, Q' v → Q v ∨ v = w) : Cds n T s t (btr o w) (ws ++ [w]) Q' := by
  refine ⟨by rw [zHPQ, ← h.e], fun v hv => ?_, fun v hv => ?_⟩
  · rcases List.mem_append.1 hv with hv | hv
    · exact h.c v hv
    · simp at hv; rw [hv]; exact hw
  · rcases hq v hv with hv | hv
    · exact List.mem_append.2 (.inl (h.a v hv))
    · rw [hv]; simp
theorem Cds.imp {n : Nst} {T : TO} {s t : Int} {o : Option (List Int)} {ws : List (List Int)} {Q : List Int → Prop} (h : Cds n T s t o ws Q) {Q' : List Int → Prop} (hq : ∀ v, Q' v → Q v) : Cds n T s t o ws Q' := ⟨h.e, h.c, fun v hv => h.a v (hq v hv)⟩
def Q1 (n : Nst) (T : TO) (s t i : Int) (w : List Int) : Prop := ∃ j x, 0 ≤ j ∧ j < i ∧ T (n.mch.inner s j) t = some x ∧ w = (n.calls + j) :: x
def Q2 (n : Nst) (T : TO) (s t c p r : Int) (w : List Int) : Prop := Q1 n T s t n.inns w ∨ ∃ c' p' r' x y, (0 ≤ c' ∧ c' < n.calls) ∧ (0 ≤ p' ∧ p' < (n.accept.length : Int)) ∧ (0 ≤ r' ∧ r' < n.rets) ∧ (c' < c ∨ c' = c ∧ (p' < p ∨ p' = p ∧ r' < r)) ∧ T (n.mch.call s c').1 p' = some x ∧ T (n.mch.pop p' (n.mch.call s c').2 r') t = some y ∧ w = c' :: (x ++ (n.calls + n.inns + r') :: y)
theorem Cds.len {n : Nst} {T : TO} (hT : TOk n.mch T) {s t : Int} (hs : inS n.mch s) (ht : inS n.mch t) {o : Option (List Int)} {ws : List (List Int)} {Q : List Int → Prop} (h : Cds n T s t o ws Q) {x : List Int} (hx : o = some x) : x.length ≤ 1024 := by
  rw [h.e] at hx
  rcases zqUQ hx with hx | ⟨_, hx⟩
  · exact (hT s t x hs ht hx).2
  · exact hx
def ImpR (n : Nst) (T : TO) (σ : List Blk) (s t : Int) (v : AV) (τ : List Blk) : Prop := ∃ f o ws junk, v = .agg [.bool o.isSome, xw f o] ∧ τ = σ ++ junk ∧ Cds n T s t o ws (Cnd n.mch T s t)
theorem zG1h {n : Nst} (hn : n.Ok) {T : TO} (hT : TOk n.mch T) {σ : List Blk} (h1 : blk σ 1 = some ⟨none, refs2 n.accept.length, .live⟩) (h2 : ∀ u, u < n.accept.length → blk σ (2 + u) = some ⟨some 2, trow n.accept.length T u, .live⟩) {s t : Nat} (hs : s < n.accept.length) (ht : t < n.accept.length) :
    LX L zJ5j [n.av, .sl 1 n.accept.length 0 n.accept.length, .int s, .int t] σ (ImpR n T σ s t) := by
  refine z7Pv rfl ?_
  have r0 := zdvp (N := n.accept.length)
  have r1 := zgCd hs
  have hs' := eq_true hs
  have ht' := eq_true ht
  have b2 := h2 s hs
  have rl := fun u => zmBL (N := n.accept.length) (T := T) (s := u)
  have p2 := fun (K : AV → Prop) (tk : Tk K) => z05Q (K := K) (tk := tk) (s := s) (T := T) ht
  have cw2e : ∀ o, cw2 true o = [.bool o.isSome, xw true o] := fun o => rfl
  have q1 := fun τ => zTJw (τ := τ) h1
  have q2 := fun τ => zTJw (τ := τ) b2
  simp [-zJRc, bl_1, bl_0, st_1, st_0, q1, r0, r1, hs', q2, rl, ht', ↓p2, cw2e, zNSv, zxGU, z4wh]
  have hsi : inS n.mch (s : Int) := ⟨by omega, by show (s : Int) < (n.accept.length : Int); omega⟩
  have hti : inS n.mch (t : Int) := ⟨by omega, by show (t : Int) < (n.accept.length : Int); omega⟩
  have hca := hn.calls
  have hin := hn.inns
  have hre := hn.rets
  have hlens := hn.lens
  have hsts := hn.states
  have hrow := hn.row (s : Int) (by omega) (by omega)
  obtain ⟨nc, hnc⟩ := Int.eq_ofNat_of_zero_le hca.1
  obtain ⟨ni, hni⟩ := Int.eq_ofNat_of_zero_le hin.1
  obtain ⟨nr, hnr⟩ := Int.eq_ofNat_of_zero_le hre.1
  generalize hR0 : (⟨some 2, [.bool false, .snil], .live⟩ : Blk) = R0
  refine zv8C (fun p : Nat × Bool × Option (List Int) × List (List Int) => [(4, .int p.1)]) (fun p => σ ++ [R0, ⟨some 2, [.bool p.2.2.1.isSome, xw p.2.1 p.2.2.1], .live⟩]) (fun p => p.1 ≤ ni ∧ Cds n T s t p.2.2.1 p.2.2.2 (Q1 n T s t p.1)) (fun p => ni - p.1) (0, true, T s t, []) (by simp [sets]) ⟨by simp, rfl, by simp, fun w ⟨j, x, j0, j1, _⟩ => by dsimp only at j1; omega⟩ ?_
  rintro ⟨i, f, o, ws⟩ ⟨i1, i2⟩
  dsimp only at i1 i2 ⊢
  by_cases hi : i < ni
  · have hil := eq_true (show (i : Int) < n.inns by omega)
    have hir := eq_true (show (i : Int) < ((ix n.inner (s : Int)).length : Int) by omega)
    have hsr := eq_true (show (s : Int) < (n.inner.length : Int) by omega)
    have hia := hn.inner (s : Int) (i : Int) (by omega) (by omega) (by omega) (by omega)
    have hmi : n.mch.inner (s : Int) (i : Int) = ix (ix n.inner (s : Int)) (i : Int) := rfl
    obtain ⟨u, hau⟩ := Int.eq_ofNat_of_zero_le hia.1
    rw [hau] at hia hmi
    have hu : u < n.accept.length := by omega
    have hu' := eq_true hu
    have b3 := h2 u hu
    have q3 := fun τ => zTJw (τ := τ) b3
    have r3 := zgCd hu
    have p3 := fun (K : AV → Prop) (tk : Tk K) => z05Q (K := K) (tk := tk) (s := u) (T := T) ht
    cases hv : T (u : Int) (t : Int) with
    | none =>
      rw [hv] at p3
      simp [-zJRc, bl_1, bl_0, st_1, st_0, hil, hir, hsr, hau, q1, r0, r3, hu', q3, rl, ht', ↓p3, cw2e, zNSv, zxGU, z4wh, zS24]
      refine ⟨by omega, zGkM (i + 1, f, o, ws) (by simp) rfl ⟨by dsimp only; omega, i2.imp fun w ⟨j, x, j0, j1, j2, j3⟩ => ⟨j, x, j0, ?_, j2, j3⟩⟩ (by dsimp only; omega)⟩
      by_cases e : j = (i : Int)
      · rw [e, hmi, hv] at j2; simp at j2
      · dsimp only at j1; omega
    | some y =>
      rw [hv] at p3
      have hyl := (hT (u : Int) (t : Int) y ⟨by omega, hia.2⟩ hti hv).2
      have hj : PC z4HM [.imm false [.imm false [.int (n.calls + (i : Int))], xw true (some y)]] = some (.imm false (.int (n.calls + (i : Int)) :: y.map .int)) := by
        have := zhCc [(false, [n.calls + (i : Int)]), (true, y)] (by simp) (by simp; omega)
        have e : ([(false, [n.calls + (i : Int)]), (true, y)].map (·.2)).flatten = (n.calls + (i : Int)) :: y := by simp
        rw [e] at this
        exact this
      have hb := zbGx o ((n.calls + (i : Int)) :: y) (fun x hx => by have := i2.len hT hsi hti hx; omega) (by simp; omega)
      have hcr : -9223372036854775808 ≤ n.calls + (i : Int) ∧ n.calls + (i : Int) ≤ 9223372036854775807 := by omega
      have hb : PC zZwr [.agg [.bool o.isSome, .imm false ((o.getD []).map .int)], .imm false (.int (n.calls + (i : Int)) :: y.map .int)] = some (.agg [.bool (btr o ((n.calls + (i : Int)) :: y)).isSome, xw false (btr o ((n.calls + (i : Int)) :: y))]) := by
        rw [xw_f]; exact hb
      simp [-zJRc, bl_1, bl_0, st_1, st_0, hil, hir, hsr, hau, q1, r0, r3, hu', q3, rl, ht', ↓p3, cw2e, zNSv, zxGU, z4wh, zS24, xw_wk, zquH, zZBW, hj, hb, hcr]
      have hcn : Cnd n.mch T (s : Int) (t : Int) ((n.calls + (i : Int)) :: y) := .inn (i : Int) y (by omega) (by show (i : Int) < n.inns; omega) (by rw [hmi]; exact hv)
      refine ⟨by omega, zGkM (i + 1, false, btr o ((n.calls + (i : Int)) :: y), ws ++ [(n.calls + (i : Int)) :: y]) (by simp) rfl ⟨by dsimp only; omega, i2.add hcn fun w ⟨j, x, j0, j1, j2, j3⟩ => ?_⟩ (by dsimp only; omega)⟩
      by_cases e : j = (i : Int)
      · rw [e, hmi, hv] at j2
        injection j2 with j2
        exact .inr (by rw [j3, e, j2])
      · exact .inl ⟨j, x, j0, by dsimp only at j1; omega, j2, j3⟩
  · have : i = ni := by omega
    subst this
    have hil := eq_false (show ¬ (i : Int) < n.inns by omega)
    simp [-zJRc, hil]
    refine zv8C (fun p : Nat × Bool × Option (List Int) × List (List Int) => [(8, .int p.1)]) (fun p => σ ++ [R0, ⟨some 2, [.bool p.2.2.1.isSome, xw p.2.1 p.2.2.1], .live⟩]) (fun p => p.1 ≤ nc ∧ Cds n T s t p.2.2.1 p.2.2.2 (Q2 n T s t p.1 0 0)) (fun p => nc - p.1) (0, f, o, ws) (by simp [sets]) ⟨by simp, i2.imp fun w hw => ?_⟩ ?_
    · rcases hw with hw | ⟨c', p', r', x, y, ⟨c0, c1⟩, p0, r0', hl, _⟩
      · rw [hni] at hw; exact hw
      · dsimp only at hl; omega
    rintro ⟨c, f, o, ws⟩ ⟨c1, c2⟩
    dsimp only at c1 c2 ⊢
    by_cases hc : c < nc
    · have hcl := eq_true (show (c : Int) < n.calls by omega)
      simp [-zJRc, hcl]
      refine zv8C (fun p : Nat × Bool × Option (List Int) × List (List Int) => [(9, .int p.1)]) (fun p => σ ++ [R0, ⟨some 2, [.bool p.2.2.1.isSome, xw p.2.1 p.2.2.1], .live⟩]) (fun p => p.1 ≤ n.accept.length ∧ Cds n T s t p.2.2.1 p.2.2.2 (Q2 n T s t c p.1 0)) (fun p => n.accept.length - p.1) (0, f, o, ws) (by simp [sets]) ⟨by simp, c2⟩ ?_
      rintro ⟨p, f, o, ws⟩ ⟨p1, p2'⟩
      dsimp only at p1 p2' ⊢
      by_cases hp : p < n.accept.length
      · have hpl := eq_true (show (p : Int) < (n.accept.length : Int) by omega)
        have hcr := eq_true (show (c : Int) < ((ix n.call (s : Int)).length : Int) by omega)
        have hgr := eq_true (show (c : Int) < ((ix n.push (s : Int)).length : Int) by omega)
        have hsc := eq_true (show (s : Int) < (n.call.length : Int) by omega)
        have hsg := eq_true (show (s : Int) < (n.push.length : Int) by omega)
        have hca' := hn.call (s : Int) (c : Int) (by omega) (by omega) (by omega) (by omega)
        have hga := hn.push (s : Int) (c : Int) (by omega) (by omega) (by omega) (by omega)
        have hmc : n.mch.call (s : Int) (c : Int) = (ix (ix n.call (s : Int)) (c : Int), ix (ix n.push (s : Int)) (c : Int)) := rfl
        obtain ⟨u, hau⟩ := Int.eq_ofNat_of_zero_le hca'.1
        obtain ⟨g, hag⟩ := Int.eq_ofNat_of_zero_le hga.1
        rw [hau, hag] at hmc
        rw [hau] at hca'
        rw [hag] at hga
        have hu : u < n.accept.length := by omega
        have hu' := eq_true hu
        have hp' := eq_true hp
        have b3 := h2 u hu
        have q3 := fun τ => zTJw (τ := τ) b3
        have r3 := zgCd hu
        have p3 := fun (K : AV → Prop) (tk : Tk K) => z05Q (K := K) (tk := tk) (s := u) (T := T) hp
        have next : ∀ (o : Option (List Int)) (ws : List (List Int)), Cds n T s t o ws (Q2 n T s t c p nr) ∨ (T (u : Int) (p : Int) = none ∧ Cds n T s t o ws (Q2 n T s t c p 0)) → p + 1 ≤ n.accept.length ∧ Cds n T s t o ws (Q2 n T s t c ((p + 1 : Nat) : Int) 0) := fun o ws h => by
          refine ⟨by omega, ?_⟩
          rcases h with h | ⟨h0, h⟩
          · refine h.imp fun w hw => ?_
            rcases hw with hw | ⟨c', p', r', x, y, k1, k2, k3, hl, k4⟩
            · exact .inl hw
            · exact .inr ⟨c', p', r', x, y, k1, k2, k3, by omega, k4⟩
          · refine h.imp fun w hw => ?_
            rcases hw with hw | ⟨c', p', r', x, y, k1, k2, k3, hl, k4, k5⟩
            · exact .inl hw
            · refine .inr ⟨c', p', r', x, y, k1, k2, k3, ?_, k4, k5⟩
              by_cases e : c' = (c : Int) ∧ p' = (p : Int)
              · rw [e.1, e.2, hmc] at k4
                dsimp only at k4
                rw [h0] at k4; simp at k4
              · by_cases e1 : c' = (c : Int)
                · have : p' ≠ (p : Int) := fun h => e ⟨e1, h⟩
                  omega
                · omega
        cases hv : T (u : Int) (p : Int) with
        | none =>
          rw [hv] at p3
          simp [-zJRc, hpl, bl_1, bl_0, st_1, st_0, hcr, hsc, hau, q1, r0, r3, hu', q3, rl, hp', ↓p3, cw2e, zNSv, zxGU, z4wh, zS24]
          refine zv8C (fun _ : Unit => []) (fun _ => σ ++ [R0, ⟨some 2, [.bool o.isSome, xw f o], .live⟩]) (fun _ => True) (fun _ => 0) () (by simp [sets]) trivial ?_
          rintro ⟨⟩ _
          by_cases hr0 : 0 < n.rets
          · simp [-zJRc, hr0, cw2e]
            obtain ⟨n1, n2⟩ := next o ws (.inr ⟨hv, p2'⟩)
            exact ⟨by omega, zGkM (p + 1, f, o, ws) (by simp) rfl ⟨n1, n2⟩ (by dsimp only; omega)⟩
          · simp [-zJRc, hr0, cw2e]
            obtain ⟨n1, n2⟩ := next o ws (.inr ⟨hv, p2'⟩)
            exact ⟨by omega, zGkM (p + 1, f, o, ws) (by simp) rfl ⟨n1, n2⟩ (by dsimp only; omega)⟩
        | some y1 =>
          rw [hv] at p3
          simp [-zJRc, hpl, bl_1, bl_0, st_1, st_0, hcr, hsc, hau, q1, r0, r3, hu', q3, rl, hp', ↓p3, cw2e, zNSv, zxGU, z4wh, zS24]
          have hy1 := (hT (u : Int) (p : Int) y1 ⟨by omega, hca'.2⟩ ⟨by omega, by show (p : Int) < (n.accept.length : Int); omega⟩ hv).2
          refine zv8C (fun p : Nat × Bool × Option (List Int) × List (List Int) => [(10, .int p.1)]) (fun p => σ ++ [R0, ⟨some 2, [.bool p.2.2.1.isSome, xw p.2.1 p.2.2.1], .live⟩]) (fun q => q.1 ≤ nr ∧ Cds n T s t q.2.2.1 q.2.2.2 (Q2 n T s t c p q.1)) (fun p => nr - p.1) (0, f, o, ws) (by simp [sets]) ⟨by simp, p2'⟩ ?_
          rintro ⟨r, f, o, ws⟩ ⟨r1', r2'⟩
          dsimp only at r1' r2' ⊢
          by_cases hr : r < nr
          · have hrl := eq_true (show (r : Int) < n.rets by omega)
            have rwp := hn.row (p : Int) (by omega) (by omega)
            have hgpl := hn.popl (p : Int) (g : Int) (by omega) (by omega) (by omega) hga.2
            have hpp := eq_true (show (p : Int) < (n.pop.length : Int) by omega)
            have hpg := eq_true (show (g : Int) < ((ix n.pop (p : Int)).length : Int) by omega)
            have hpr := eq_true (show (r : Int) < ((ix (ix n.pop (p : Int)) (g : Int)).length : Int) by omega)
            have hqa := hn.pop (p : Int) (g : Int) (r : Int) (by omega) (by omega) (by omega) hga.2 (by omega) (by omega)
            have hmp : n.mch.pop (p : Int) (n.mch.call (s : Int) (c : Int)).2 (r : Int) = ix (ix (ix n.pop (p : Int)) (g : Int)) (r : Int) := by rw [hmc]; rfl
            obtain ⟨v, hav⟩ := Int.eq_ofNat_of_zero_le hqa.1
            rw [hav] at hqa hmp
            have hv' : v < n.accept.length := by omega
            have hv'' := eq_true hv'
            have b4 := h2 v hv'
            have q4 := fun τ => zTJw (τ := τ) b4
            have r4 := zgCd hv'
            have p4 := fun (K : AV → Prop) (tk : Tk K) => z05Q (K := K) (tk := tk) (s := v) (T := T) ht
            cases hv2 : T (v : Int) (t : Int) with
            | none =>
              rw [hv2] at p4
              simp [-zJRc, hrl, hpp, hpg, hpr, hgr, hsg, hag, hav, bl_1, bl_0, st_1, st_0, q1, r0, r4, hv'', q4, rl, ht', ↓p4, cw2e, zNSv, zxGU, z4wh, zS24]
              refine ⟨by omega, zGkM (r + 1, f, o, ws) (by simp) rfl ⟨by dsimp only; omega, r2'.imp fun w hw => ?_⟩ (by dsimp only; omega)⟩
              rcases hw with hw | ⟨c', p', r', x, y, k1, k2, k3, hl, k4, k5, k6⟩
              · exact .inl hw
              · refine .inr ⟨c', p', r', x, y, k1, k2, k3, ?_, k4, k5, k6⟩
                by_cases e : c' = (c : Int) ∧ p' = (p : Int) ∧ r' = (r : Int)
                · rw [e.1, e.2.1, e.2.2, hmp, hv2] at k5; simp at k5
                · dsimp only at hl
                  rcases hl with hl | ⟨e1, hl | ⟨e2, hl⟩⟩
                  · exact .inl hl
                  · exact .inr ⟨e1, .inl hl⟩
                  · exact .inr ⟨e1, .inr ⟨e2, by
                      have : r' ≠ (r : Int) := fun h => e ⟨e1, e2, h⟩
                      omega⟩⟩
            | some y2 =>
              rw [hv2] at p4
              have hy2 := (hT (v : Int) (t : Int) y2 ⟨by omega, hqa.2⟩ hti hv2).2
              have hj : PC z4HM [.imm false [.imm false [.int (c : Int)], xw true (some y1), .imm false [.int (n.calls + n.inns + (r : Int))], xw true (some y2)]] = some (iL ((c : Int) :: (y1 ++ (n.calls + n.inns + (r : Int)) :: y2))) := by
                have := zhCc [(false, [(c : Int)]), (true, y1), (false, [n.calls + n.inns + (r : Int)]), (true, y2)] (by simp) (by simp; omega)
                have e : ([(false, [(c : Int)]), (true, y1), (false, [n.calls + n.inns + (r : Int)]), (true, y2)].map (·.2)).flatten = (c : Int) :: (y1 ++ (n.calls + n.inns + (r : Int)) :: y2) := by simp
                rw [e] at this
                exact this
              have hcn : Cnd n.mch T (s : Int) (t : Int) ((c : Int) :: (y1 ++ (n.calls + n.inns + (r : Int)) :: y2)) := .call (c : Int) (p : Int) (r : Int) y1 y2 (by omega) (by show (c : Int) < n.calls; omega) (by omega) (by show (p : Int) < (n.accept.length : Int); omega) (by omega) (by show (r : Int) < n.rets; omega) (by rw [hmc]; exact hv) (by rw [hmp]; exact hv2)
              generalize hW : (c : Int) :: (y1 ++ (n.calls + n.inns + (r : Int)) :: y2) = W at *
              have hWl : W.length ≤ 3000 := by rw [← hW]; simp; omega
              have hb := zbGx o W (fun x hx => by have := r2'.len hT hsi hti hx; omega) (by omega)
              have hb : PC zZwr [.agg [.bool o.isSome, .imm false ((o.getD []).map .int)], .imm false (W.map .int)] = some (.agg [.bool (btr o W).isSome, xw false (btr o W)]) := by
                rw [xw_f]; exact hb
              have hcr1 : -9223372036854775808 ≤ n.calls + n.inns ∧ n.calls + n.inns ≤ 9223372036854775807 := by omega
              have hcr2 : -9223372036854775808 ≤ n.calls + n.inns + (r : Int) ∧ n.calls + n.inns + (r : Int) ≤ 9223372036854775807 := by omega
              simp [-zJRc, hrl, hpp, hpg, hpr, hgr, hsg, hag, hav, bl_1, bl_0, st_1, st_0, q1, r0, r4, hv'', q4, rl, ht', ↓p4, cw2e, zNSv, zxGU, z4wh, zS24, xw_wk, zquH, zZBW, hj, hb, hcr1, hcr2]
              refine ⟨by omega, zGkM (r + 1, false, btr o W, ws ++ [W]) (by simp) rfl ⟨by dsimp only; omega, r2'.add hcn fun w hw => ?_⟩ (by dsimp only; omega)⟩
              rcases hw with hw | ⟨c', p', r', x, y, k1, k2, k3, hl, k4, k5, k6⟩
              · exact .inl (.inl hw)
              · by_cases e : c' = (c : Int) ∧ p' = (p : Int) ∧ r' = (r : Int)
                · rw [e.1, e.2.1, hmc] at k4
                  rw [e.1, e.2.1, e.2.2, hmp, hv2] at k5
                  dsimp only at k4
                  rw [hv] at k4
                  injection k4 with k4
                  injection k5 with k5
                  exact .inr (by rw [k6, ← hW, e.1, e.2.2, k4, k5])
                · refine .inl (.inr ⟨c', p', r', x, y, k1, k2, k3, ?_, k4, k5, k6⟩)
                  dsimp only at hl
                  rcases hl with hl | ⟨e1, hl | ⟨e2, hl⟩⟩
                  · exact .inl hl
                  · exact .inr ⟨e1, .inl hl⟩
                  · exact .inr ⟨e1, .inr ⟨e2, by
                      have : r' ≠ (r : Int) := fun h => e ⟨e1, e2, h⟩
                      omega⟩⟩
          · have : r = nr := by omega
            subst this
            have hrl := eq_false (show ¬ (r : Int) < n.rets by omega)
            simp [-zJRc, hrl]
            obtain ⟨n1, n2⟩ := next o ws (.inl r2')
            exact ⟨by omega, zGkM (p + 1, f, o, ws) (by simp) rfl ⟨n1, n2⟩ (by dsimp only; omega)⟩
      · have : p = n.accept.length := by omega
        subst this
        have hpl := eq_false (show ¬ (n.accept.length : Int) < (n.accept.length : Int) by omega)
        simp [-zJRc]
        refine ⟨by omega, zGkM (c + 1, f, o, ws) (by simp) rfl ⟨by dsimp only; omega, p2'.imp fun w hw => ?_⟩ (by dsimp only; omega)⟩
        rcases hw with hw | ⟨c', p', r', x, y, k1, k2, k3, hl, k4⟩
        · exact .inl hw
        · exact .inr ⟨c', p', r', x, y, k1, k2, k3, by dsimp only at hl; omega, k4⟩
    · have : c = nc := by omega
      subst this
      have hcl := eq_false (show ¬ (c : Int) < n.calls by omega)
      subst hR0
      have hres := fun (ce : CE) (a c : AV) (B : Blk) => z9Jf (ce := ce) (bl_0 (σ := σ) (a := ⟨some 2, [a, c], .live⟩) (b := B))
      simp [-zJRc, hcl, bl_1, bl_0, st_1, st_0, zNSv, zxGU, z4wh, zS24, hres]
      refine ⟨f, o, ws, _, rfl, rfl, c2.imp fun w hw => ?_⟩
      cases hw with
      | inn i x i0 i1 hx => exact .inl ⟨i, x, i0, i1, hx, rfl⟩
      | call c' p' r' x y c0 c1' p0 p1 r0' r1' hx hy => exact .inr ⟨c', p', r', x, y, ⟨c0, c1'⟩, ⟨p0, p1⟩, ⟨r0', r1'⟩, .inl (by dsimp only [Nst.mch] at c1'; omega), hx, hy, rfl⟩
end Ab
namespace Ab
def refsK (k N : Nat) : List AV := (List.range k).map fun s => .sl (2 + s) (2 * N) 0 N
def stK (k : Nat) : BSt := if k = 0 then .nul else .live
def tId : TO := fun s t => if s = t then some [] else none
def lm (n : Nst) (T : TO) (k : Nat) (junk : List Blk) : List Blk := ⟨some 10, n.cs, .live⟩ :: ⟨none, refsK k n.accept.length, stK k⟩ :: ((List.range k).map (fun s => (⟨some 2, trow n.accept.length T s, .live⟩ : Blk)) ++ junk)
section
variable {n : Nst} {T : TO} {k : Nat} {junk : List Blk}
theorem lm_0 : blk (lm n T k junk) 0 = some ⟨some 10, [.int n.calls, .int n.inns, .int n.rets, .int n.stack, .int n.start, bL n.accept, iLL n.call, iLL n.push, iLL n.inner, iLLL n.pop], .live⟩ := rfl
theorem lm_1 : blk (lm n T k junk) 1 = some ⟨none, refsK k n.accept.length, stK k⟩ := rfl
theorem lm_r {u : Nat} (h : u < k) : blk (lm n T k junk) (2 + u) = some ⟨some 2, trow n.accept.length T u, .live⟩ := by
  rw [zzWB, show 2 + u = u + 1 + 1 by omega]
  unfold lm
  rw [List.getElem?_cons_succ, List.getElem?_cons_succ, List.getElem?_append_left (by simp; exact h)]
  simp [h]
theorem ziQj : (lm n T k junk).length = 2 + k + junk.length := by simp [lm]; omega
theorem zUMn {N : Nat} : (refsK k N).length = k := by simp [refsK]
end
def lmD (n : Nst) (s : Nat) (D : List AV) : List Blk := ⟨some 10, n.cs, .live⟩ :: ⟨none, refsK (s + 1) n.accept.length, .live⟩ :: ((List.range s).map (fun s => (⟨some 2, trow n.accept.length tId s, .live⟩ : Blk)) ++ [⟨some 2, D, .live⟩])
section
variable {n : Nst} {s : Nat} {D : List AV}
theorem z2wC {N : Nat} {x y : AV} : (dupN N [x, y]).length = 2 * N := by simp [dupN]; omega
theorem zoIY {N : Nat} (h : s < N) : putR (dupN N [.bool false, .snil]) (s * 2) [.bool true, .snil] = trow N tId s := by
  have e : dupN N [AV.bool false, .snil] = (List.range N).flatMap fun _ => [.bool false, .snil] := by
    rw [List.flatMap_def, List.map_const', List.length_range]; rfl
  rw [e]
  unfold trow cw2
  refine zs5t (f := fun _ => AV.bool false) (g := fun _ => AV.snil) (l := List.range N) (i := s) (by simpa using h) (fun j hj hne => ?_) ?_ ?_
  · simp only [List.getElem_range, tId]
    rw [if_neg (by omega)]
    exact ⟨rfl, rfl⟩
  · simp [tId]
  · simp [tId, xw, wB]
theorem lmD_0 : setB (lm n tId s [] ++ [⟨some 2, D, .live⟩]) 1 ⟨none, refsK s n.accept.length ++ [.sl (2 + s) (2 * n.accept.length) 0 n.accept.length], .live⟩ = lmD n s D := by
  unfold lm lmD refsK
  rw [List.range_succ, List.map_append]
  simp [setB]
theorem lmD_1 : blk (lmD n s D) 1 = some ⟨none, refsK (s + 1) n.accept.length, .live⟩ := rfl
theorem lmD_e {N : Nat} : elm (refsK (s + 1) N) s = some (.sl (2 + s) (2 * N) 0 N) := by rw [znyW]; simp [refsK]
theorem lmD_b : blk (lmD n s D) (2 + s) = some ⟨some 2, D, .live⟩ := by
  rw [zzWB, show 2 + s = s + 1 + 1 by omega]
  unfold lmD
  rw [List.getElem?_cons_succ, List.getElem?_cons_succ, List.getElem?_append_right (by simp)]
  simp
theorem lmD_s {D' : List AV} : setB (lmD n s D) (2 + s) ⟨some 2, D', .live⟩ = lmD n s D' := by
  rw [z4Wl, show 2 + s = s + 1 + 1 by omega]
  unfold lmD
  rw [List.set_cons_succ, List.set_cons_succ, List.set_append_right _ _ (by simp)]
  simp
theorem lmD_n : lmD n s (trow n.accept.length tId s) = lm n tId (s + 1) [] := by
  unfold lmD lm stK
  rw [List.range_succ, List.map_append, if_neg (by omega)]
  simp
end
def msE : Nat := 1026
def ms (o : Option (List Int)) : Nat := match o with
  | none => 65 ^ msE
  | some w => rkW w
def S1 (N : Nat) (f : Nat → Nat) : Nat := ((List.range N).map f).sum
theorem S1_s {N : Nat} {f : Nat → Nat} : S1 (N + 1) f = S1 N f + f N := by simp [S1, List.range_succ]
theorem S1_eq {f g : Nat → Nat} : ∀ {N : Nat}, (∀ j, j < N → f j = g j) → S1 N f = S1 N g
  | 0, _ => rfl
  | N + 1, h => by rw [S1_s, S1_s, S1_eq fun j hj => h j (by omega), h N (by omega)]
theorem S1_lt {f g : Nat → Nat} {i : Nat} : ∀ {N : Nat}, i < N → (∀ j, j ≠ i → f j = g j) → f i < g i → S1 N f < S1 N g
  | 0, h, _, _ => by omega
  | N + 1, h, h1, h2 => by
    rw [S1_s, S1_s]
    by_cases e : i = N
    · subst e
      rw [S1_eq fun j hj => h1 j (by omega)]
      omega
    · have := S1_lt (N := N) (by omega) h1 h2
      rw [h1 N fun e2 => e e2.symm]
      omega
def meas (N : Nat) (T : TO) : Nat := S1 N fun s => S1 N fun t => ms (T (s : Int) (t : Int))
theorem zJeM {N : Nat} {T : TO} {s t : Nat} (hs : s < N) (ht : t < N) {w : List Int} (h : rkW w < ms (T (s : Int) (t : Int))) : meas N (updW T (s : Int) (t : Int) w) < meas N T := by
  refine S1_lt hs (fun j hj => S1_eq fun k _ => ?_) (S1_lt ht (fun k hk => ?_) ?_)
  · unfold updW; rw [if_neg (by omega)]
  · unfold updW; rw [if_neg (by omega)]
  · unfold updW; rw [if_pos ⟨rfl, rfl⟩]; exact h
structure TI (n : Nst) (T : TO) : Prop where
  ok : TOk n.mch T
  d : ∀ s, inS n.mch s → T s s = some []
def Fx (n : Nst) (T : TO) (s t : Int) : Prop := ∀ c, Cnd n.mch T s t c → c.length ≤ 1024 → ∃ x, T s t = some x ∧ rkW x ≤ rkW c
structure Gt (n : Nst) (T0 T : TO) (ch : Bool) : Prop where
  ti : TI n T
  no : ch = false → T = T0
  yes : ch = true → meas n.accept.length T < meas n.accept.length T0
theorem zlRo {n : Nst} : TI n tId := ⟨fun s t w _ _ h => by
  unfold tId at h
  split at h
  · rename_i e; subst e; injection h with h; subst h; exact ⟨.nil s, by simp⟩
  · simp at h, fun s _ => by unfold tId; rw [if_pos rfl]⟩
section
variable {n : Nst} {T : TO} {s t : Int} {o : Option (List Int)} {ws : List (List Int)}
theorem Cnd.sy' (hn : n.Ok) (hT : TOk n.mch T) (hs : inS n.mch s) (ht : inS n.mch t) {w : List Int} (h : Cnd n.mch T s t w) : sy w := (h.wd (ztQm hn) hT hs ht).sy (zcLc hn)
theorem TOk.sy (hn : n.Ok) (hT : TOk n.mch T) (hs : inS n.mch s) (ht : inS n.mch t) {w : List Int} (h : T s t = some w) : Ab.sy w := (hT s t w hs ht h).1.sy (zcLc hn)
theorem z2Lz (hn : n.Ok) (hT : TI n T) (hs : inS n.mch s) (ht : inS n.mch t) (h : Cds n T s t o ws (Cnd n.mch T s t)) (e : o = T s t) : Fx n T s t := fun c hc hl => by
  obtain ⟨y, hy, hr⟩ := zGFr (l := T s t) (ws := ws) (fun x hx => TOk.sy hn hT.ok hs ht hx) (fun w hw => (h.c w hw).sy' hn hT.ok hs ht) (h.a c hc) hl
  rw [← h.e, e] at hy
  exact ⟨y, hy, hr⟩
theorem zueO (hn : n.Ok) (hT : TI n T) (hs : inS n.mch s) (ht : inS n.mch t) (h : Cds n T s t o ws (Cnd n.mch T s t)) (e : o ≠ T s t) : ∃ w, o = some w ∧ w ≠ [] ∧ rkW w < ms (T s t) ∧ TI n (updW T s t w) := by
  have hsy : ∀ w, o = some w → sy w ∧ Wd n.mch s t w ∧ w.length ≤ 1024 := fun w hw => by
    rw [h.e] at hw
    rcases zqUQ hw with hw | ⟨hw, hl⟩
    · exact ⟨TOk.sy hn hT.ok hs ht hw, hT.ok s t w hs ht hw⟩
    · exact ⟨(h.c w hw).sy' hn hT.ok hs ht, (h.c w hw).wd (ztQm hn) hT.ok hs ht, hl⟩
  have main : ∃ w, o = some w ∧ rkW w < ms (T s t) := by
    cases hx : T s t with
    | none =>
      cases ho : o with
      | none => rw [ho, hx] at e; exact absurd rfl e
      | some w =>
        obtain ⟨k1, _, k2⟩ := hsy w ho
        have h3 := rk_lt k1
        have h4 : 65 ^ w.length ≤ 65 ^ msE := Nat.pow_le_pow_right (by omega) (show w.length ≤ 1026 by omega)
        exact ⟨w, rfl, Nat.lt_of_lt_of_le h3 h4⟩
    | some x =>
      have hxs := TOk.sy hn hT.ok hs ht hx
      obtain ⟨y, hy, hr⟩ := zApf (l := T s t) (ws := ws) hxs (fun w hw => (h.c w hw).sy' hn hT.ok hs ht) hx
      rw [← h.e] at hy
      refine ⟨y, hy, ?_⟩
      show rkW y < rkW x
      have : rkW y ≠ rkW x := fun h2 => by
        have := z6FH (hsy y hy).1 hxs h2
        rw [this] at hy
        exact e (by rw [hy, hx])
      omega
  obtain ⟨w, ho, hr⟩ := main
  obtain ⟨k1, k2, k3⟩ := hsy w ho
  have hne : w ≠ [] := fun h0 => by
    subst h0
    have hw := ho
    rw [h.e] at hw
    rcases zqUQ hw with hw | ⟨hw, _⟩
    · exact e (by rw [ho, hw])
    · have := h.c _ hw
      cases this
  refine ⟨w, ho, hne, hr, ⟨fun a b x ha hb hx => ?_, fun a ha => ?_⟩⟩
  · unfold updW at hx
    split at hx
    · rename_i e2
      injection hx with hx
      rw [e2.1, e2.2, ← hx]; exact ⟨k2, k3⟩
    · exact hT.ok a b x ha hb hx
  · unfold updW
    split
    · rename_i e2
      have h0 := hT.d s hs
      rw [← e2.1, e2.2] at h0
      have h2 : s = t := by rw [← e2.1, e2.2]
      rw [← h2, hT.d s hs] at hr
      simp [ms, rkW] at hr
    · exact hT.d a ha
end
theorem zYvR {n : Nst} {T : TO} {junk : List Blk} {s t : Nat} (hs : s < n.accept.length) {w : List Int} : setB (lm n T n.accept.length junk) (2 + s) ⟨some 2, trow n.accept.length (updW T (s : Int) (t : Int) w) s, .live⟩ = lm n (updW T (s : Int) (t : Int) w) n.accept.length junk := by
  rw [z4Wl, show 2 + s = s + 1 + 1 by omega]
  unfold lm
  rw [List.set_cons_succ, List.set_cons_succ, List.set_append_left _ _ (by simp; exact hs)]
  congr 3
  apply List.ext_getElem
  · simp
  · intro j h1 h2
    rw [List.getElem_set]
    simp only [List.getElem_map, List.getElem_range]
    by_cases e : s = j
    · subst e; rw [if_pos rfl]
    · rw [if_neg e, zdC5 fun h => e h.symm]
theorem zfcU {n : Nst} {T T' : TO} {junk : List Blk} (h : ∀ s t : Nat, s < n.accept.length → t < n.accept.length → T (s : Int) (t : Int) = T' (s : Int) (t : Int)) : lm n T n.accept.length junk = lm n T' n.accept.length junk := by
  unfold lm
  congr 3
  refine List.map_congr_left fun s hs => ?_
  have hs := List.mem_range.1 hs
  have e : trow n.accept.length T s = trow n.accept.length T' s := by
    unfold trow
    rw [List.flatMap_def, List.flatMap_def]
    congr 1
    exact List.map_congr_left fun t ht => by rw [h s t hs (List.mem_range.1 ht)]
  rw [e]
theorem z3rD {n : Nst} (hn : n.Ok) : LX L ztWO [n.av] [] (fun v τ => ∃ junk, v = .sl 1 n.accept.length 0 n.accept.length ∧ τ = lm n n.mch.lk n.accept.length junk) := by
  refine z01U rfl ?_
  have hst := hn.states
  simp [-zJRc]
  have e0 : [⟨some 10, [.int n.calls, .int n.inns, .int n.rets, .int n.stack, .int n.start, bL n.accept, iLL n.call, iLL n.push, iLL n.inner, iLLL n.pop], .live⟩, ⟨none, [], .nul⟩] = lm n tId 0 [] := rfl
  have e1 : (AV.agg [.int n.calls, .int n.inns, .int n.rets, .int n.stack, .int n.start, bL n.accept, iLL n.call, iLL n.push, iLL n.inner, iLLL n.pop]).cells = [.int n.calls, .int n.inns, .int n.rets, .int n.stack, .int n.start, bL n.accept, iLL n.call, iLL n.push, iLL n.inner, iLLL n.pop] := rfl
  rw [e1, e0]
  refine zv8C (fun s : Nat => [(1, .int s), (3, .sl 1 s 0 s)]) (fun s => lm n tId s []) (fun s => s ≤ n.accept.length) (fun s => n.accept.length - s) 0 (by simp [sets]) (by simp) ?_
  intro s s1
  by_cases hs : s < n.accept.length
  · have hs' := eq_true hs
    have l0 := lm_0 (n := n) (T := tId) (k := s) (junk := [])
    have l1 := lm_1 (n := n) (T := tId) (k := s) (junk := [])
    have q0 := fun τ => zTJw (τ := τ) l0
    have q1 := fun τ => zTJw (τ := τ) l1
    have hlen := ziQj (n := n) (T := tId) (k := s) (junk := [])
    have rk := zUMn (k := s) (N := n.accept.length)
    have dl := z2wC (N := n.accept.length) (x := .bool false) (y := .snil)
    have dp := zoIY hs
    have rk1 := zUMn (k := s + 1) (N := n.accept.length)
    have d0 := fun D => lmD_0 (n := n) (s := s) (D := D)
    have d1 := fun D => lmD_1 (n := n) (s := s) (D := D)
    have d2 := fun D => lmD_b (n := n) (s := s) (D := D)
    have d3 := fun D D' => lmD_s (n := n) (s := s) (D := D) (D' := D')
    have d4 := lmD_n (n := n) (s := s)
    have d5 := lmD_e (s := s) (N := n.accept.length)
    have hsa : (stK s).isArr = true := by unfold stK; split <;> rfl
    have hd2 : s * 2 + 2 ≤ 2 * n.accept.length := by omega
    simp [-zJRc, hs, l0, q0, q1, hlen, rk, rk1, dl, dp, d0, d1, d2, d3, d4, d5, hsa, hd2]
    exact ⟨by omega, by omega, by omega, by omega, zGkM (s + 1) (by simp) rfl (by omega) (by omega)⟩
  · have : s = n.accept.length := by omega
    subst this
    have l0 := lm_0 (n := n) (T := tId) (k := n.accept.length) (junk := [])
    simp [-zJRc, l0]
    have hN : stK n.accept.length = .live := by unfold stK; rw [if_neg (by omega)]
    have hrK : refsK n.accept.length n.accept.length = refs2 n.accept.length := rfl
    have r0 := zdvp (N := n.accept.length)
    refine zv8C (fun p : Bool × TO × List Blk × AV × AV × AV => [(4, .bool p.1), (5, p.2.2.2.1), (6, p.2.2.2.2.1), (7, p.2.2.2.2.2)]) (fun p => lm n p.2.1 n.accept.length p.2.2.1)
      (fun p => TI n p.2.1 ∧ (p.1 = false → ∀ s t : Nat, s < n.accept.length → t < n.accept.length → Fx n p.2.1 s t))
      (fun p => 2 * meas n.accept.length p.2.1 + if p.1 = true then 1 else 0) (true, tId, [], .und, .und, .und) (by simp [sets]) ⟨zlRo, by simp⟩ ?_
    rintro ⟨ch, T, junk, x5, x6, x7⟩ ⟨k1, k2⟩
    dsimp only at k1 k2 ⊢
    cases ch with
    | false =>
      simp [-zJRc]
      refine ⟨junk, zfcU fun s t hs ht => ?_⟩
      exact z0G9 (zcLc hn) k1.ok k1.d (fun a b ha hb => by
        obtain ⟨a, rfl⟩ := Int.eq_ofNat_of_zero_le ha.1
        obtain ⟨b, rfl⟩ := Int.eq_ofNat_of_zero_le hb.1
        have h1 := ha.2
        have h2 := hb.2
        simp only [Nst.mch] at h1 h2
        exact k2 rfl a b (by omega) (by omega)) (s : Int) (t : Int) ⟨by omega, by show (s : Int) < (n.accept.length : Int); omega⟩ ⟨by omega, by show (t : Int) < (n.accept.length : Int); omega⟩
    | true =>
      simp [-zJRc]
      refine zv8C (fun p : Nat × Bool × TO × List Blk × AV × AV => [(5, .int p.1), (4, .bool p.2.1), (6, p.2.2.2.2.1), (7, p.2.2.2.2.2)]) (fun p => lm n p.2.2.1 n.accept.length p.2.2.2.1)
        (fun p => p.1 ≤ n.accept.length ∧ Gt n T p.2.2.1 p.2.1 ∧ (p.2.1 = false → ∀ s t : Nat, s < p.1 → t < n.accept.length → Fx n T s t))
        (fun p => n.accept.length - p.1) (0, false, T, junk, x6, x7) (by simp [sets]) ⟨by simp, ⟨k1, fun _ => rfl, by simp⟩, fun _ s t h => by dsimp only at h; omega⟩ ?_
      rintro ⟨s, c2, T2, j2, y6, y7⟩ ⟨s1, g1, g2⟩
      dsimp only at s1 g1 g2 ⊢
      by_cases hs : s < n.accept.length
      · have l0 := lm_0 (n := n) (T := T2) (k := n.accept.length) (junk := j2)
        simp [-zJRc, hs, l0]
        refine zv8C (fun p : Nat × Bool × TO × List Blk × AV => [(6, .int p.1), (4, .bool p.2.1), (7, p.2.2.2.2)]) (fun p => lm n p.2.2.1 n.accept.length p.2.2.2.1)
          (fun p => p.1 ≤ n.accept.length ∧ Gt n T p.2.2.1 p.2.1 ∧ (p.2.1 = false → c2 = false ∧ ∀ t : Nat, t < p.1 → Fx n T s t))
          (fun p => n.accept.length - p.1) (0, c2, T2, j2, y7) (by simp [sets]) ⟨by simp, g1, fun h => ⟨h, fun t h => by dsimp only at h; omega⟩⟩ ?_
        rintro ⟨t, c3, T3, j3, z7⟩ ⟨t1, m1, m2⟩
        dsimp only at t1 m1 m2 ⊢
        have l0 := lm_0 (n := n) (T := T3) (k := n.accept.length) (junk := j3)
        by_cases ht : t < n.accept.length
        · have l1 := lm_1 (n := n) (T := T3) (k := n.accept.length) (junk := j3)
          rw [hN, hrK] at l1
          obtain ⟨v, τ, hI, f, o, ws, j4, rfl, rfl, hcd⟩ := LX_s (zG1h hn m1.ti.ok (σ := lm n T3 n.accept.length j3) l1 (fun u hu => lm_r hu) hs ht)
          have hj : lm n T3 n.accept.length j3 ++ j4 = lm n T3 n.accept.length (j3 ++ j4) := by simp [lm]
          rw [hj] at hI
          have l0' := lm_0 (n := n) (T := T3) (k := n.accept.length) (junk := j3 ++ j4)
          have l1' := lm_1 (n := n) (T := T3) (k := n.accept.length) (junk := j3 ++ j4)
          rw [hN, hrK] at l1'
          have lr := lm_r (n := n) (T := T3) (k := n.accept.length) (junk := j3 ++ j4) hs
          have r1 := zgCd hs
          have hs' := eq_true hs
          have ht' := eq_true ht
          have rl := zmBL (N := n.accept.length) (T := T3) (s := s)
          have el0 := zTAd (T := T3) (s := s) ht
          have el1 := znZv (T := T3) (s := s) ht
          have hsi : inS n.mch (s : Int) := ⟨by omega, by show (s : Int) < (n.accept.length : Int); omega⟩
          have hti : inS n.mch (t : Int) := ⟨by omega, by show (t : Int) < (n.accept.length : Int); omega⟩
          by_cases ho : o = T3 (s : Int) (t : Int)
          · have fx := z2Lz hn m1.ti hsi hti hcd ho
            subst ho
            have goal : t + 1 ≤ n.accept.length ∧ Gt n T T3 c3 ∧ (c3 = false → c2 = false ∧ ∀ t' : Nat, t' < t + 1 → Fx n T s t') := ⟨by omega, m1, fun h => ⟨(m2 h).1, fun t' ht' => by
              by_cases e : t' = t
              · subst e; rw [← m1.no h]; exact fx
              · exact (m2 h).2 t' (by omega)⟩⟩
            cases hx : T3 (s : Int) (t : Int) with
            | none =>
              rw [hx] at hI el0 el1
              simp [-zJRc, hs, ht, l0, hI, l0', l1', r0, r1, hs', lr, rl, ht', el0, el1, zNSv, zxGU, z4wh, zS24]
              exact ⟨by omega, zGkM (t + 1, c3, T3, j3 ++ j4, .und) (by simp) rfl goal (by dsimp only; omega)⟩
            | some w =>
              rw [hx] at hI el0 el1
              have hwl := (m1.ti.ok _ _ _ hsi hti hx).2
              have hsm := zQbQ w w (by omega) (by omega)
              rw [decide_eq_true rfl] at hsm
              have hsm : PC zA97 [.imm false (w.map .int), .imm false (w.map .int)] = some (.bool true) := hsm
              simp [-zJRc, hs, ht, l0, hI, l0', l1', r0, r1, hs', lr, rl, ht', el0, el1, zNSv, zxGU, z4wh, zS24, zZBW, xw_wk, zquH, hsm]
              exact ⟨by omega, zGkM (t + 1, c3, T3, j3 ++ j4, .und) (by simp) rfl goal (by dsimp only; omega)⟩
          · obtain ⟨w, rfl, hw0, hlt, hti2⟩ := zueO hn m1.ti hsi hti hcd ho
            have hxw : xw f (some w) = .imm false (w.map .int) := (zzLk (f, w)).resolve_left fun h => hw0 h.2
            rw [hxw] at hI
            have hml := zJeM (T := T3) hs ht hlt
            have hput := zl0E (T := T3) (s := s) ht hw0
            have hset := zYvR (n := n) (T := T3) (junk := j3 ++ j4) (t := t) hs (w := w)
            rw [← hput] at hset
            have hd2 : t * 2 + 2 ≤ 2 * n.accept.length := by omega
            have hwl : w.length ≤ 1024 := (hti2.ok (s : Int) (t : Int) w hsi hti (by unfold updW; rw [if_pos ⟨rfl, rfl⟩])).2
            have goal : t + 1 ≤ n.accept.length ∧ Gt n T (updW T3 (s : Int) (t : Int) w) true ∧ (true = false → c2 = false ∧ ∀ t' : Nat, t' < t + 1 → Fx n T s t') := ⟨by omega, ⟨hti2, by simp, fun _ => by
              cases c3 with
              | true => have := m1.yes rfl; omega
              | false => have := m1.no rfl; subst this; exact hml⟩, by simp⟩
            cases hx : T3 (s : Int) (t : Int) with
            | none =>
              rw [hx] at el0 el1
              simp [-zJRc, hs, ht, l0, hI, l0', l1', r0, r1, hs', lr, rl, ht', el0, el1, hset, hd2]
              exact ⟨by omega, zGkM (t + 1, true, updW T3 (s : Int) (t : Int) w, j3 ++ j4, .und) (by simp) rfl goal (by dsimp only; omega)⟩
            | some x =>
              rw [hx] at el0 el1 ho
              have hxl := (m1.ti.ok _ _ _ hsi hti hx).2
              have hsm := zQbQ w x (by omega) (by omega)
              rw [decide_eq_false (fun e => ho (by rw [e]))] at hsm
              have hsm : PC zA97 [.imm false (w.map .int), .imm false (x.map .int)] = some (.bool false) := hsm
              simp [-zJRc, hs, ht, l0, hI, l0', l1', r0, r1, hs', lr, rl, ht', el0, el1, hset, hd2, zNSv, zxGU, z4wh, zS24, zZBW, xw_wk, zquH, hsm]
              exact ⟨by omega, zGkM (t + 1, true, updW T3 (s : Int) (t : Int) w, j3 ++ j4, .und) (by simp) rfl goal (by dsimp only; omega)⟩
        · simp [-zJRc, ht, l0]
          exact ⟨by omega, zGkM (s + 1, c3, T3, j3, .und, z7) (by simp) rfl ⟨by dsimp only; omega, m1, fun h s' t' hs' ht' => by
            dsimp only at h hs'
            obtain ⟨h1, h2⟩ := m2 h
            by_cases e : s' = s
            · subst e; exact h2 t' (by omega)
            · exact g2 h1 s' t' (by omega) ht'⟩ (by dsimp only; omega)⟩
      · have l0 := lm_0 (n := n) (T := T2) (k := n.accept.length) (junk := j2)
        simp [-zJRc, hs, l0]
        refine zGkM (c2, T2, j2, .int s, y6, y7) (by simp) rfl ⟨g1.ti, fun h s' t' hs' ht' => by
          dsimp only at h ⊢
          have := g1.no h
          subst this
          exact g2 h s' t' (by omega) ht'⟩ ?_
        dsimp only
        cases c2 with
        | true => have := g1.yes rfl; simp; omega
        | false => have := g1.no rfl; subst this; simp
end Ab
