/- The time of words. Batches of words: the document's. Sorted words, by the document: a list in one block. The greatest words, by the document. Observations: answers. Observations: which are valid. Which words are asked. Condition: none. -/
import Derived.Test.YtkchnhfeebkogaaN43Na
set_option linter.all false
set_option maxRecDepth 100000
set_option maxHeartbeats 4000000
namespace Ab
structure Lat where
  step : List Int
  rst : Int
  deriving Inhabited
abbrev Lat.av (l : Lat) : AV := .agg [iL l.step, .int l.rst]
structure Lat.fits (l : Lat) : Prop where
  len : (l.step.length : Int) ≤ 9223372036854775807
  st : ∀ x ∈ l.step, -9223372036854775808 ≤ x ∧ x ≤ 9223372036854775807
  rs : -9223372036854775808 ≤ l.rst ∧ l.rst ≤ 9223372036854775807
def outC (x : Int) : Bool := decide (x < 0) || decide (1048576 < x)
def Lat.bad (l : Lat) : Bool := outC l.rst || l.step.any outC
def Lat.steps (l : Lat) (w : List Int) : Int := w.foldl (fun n a => n + ix l.step a) 0
def Lat.cost (l : Lat) (w : List Int) : Int × Int := if (l.step.length : Int) < 1 ∨ 64 < (l.step.length : Int) ∨ l.bad = true then (0, 2) else if wordE w l.step.length ≠ 0 then (0, wordE w l.step.length) else (l.rst + l.steps w, 0)
def Lat.sum (l : Lat) (ws : List (List Int)) : Int := ws.foldl (fun n w => n + (l.cost w).1) 0
end Ab
namespace Ab
inductive F2 {α β : Type} (R : α → β → Prop) : List α → List β → Prop
  | nil : F2 R [] []
  | cons {a b as bs} : R a b → F2 R as bs → F2 R (a :: as) (b :: bs)
theorem F2.imp {α β : Type} {R S : α → β → Prop} (h : ∀ a b, R a b → S a b) {as : List α} {bs : List β} (k : F2 R as bs) : F2 S as bs := by
  induction k with
  | nil => exact .nil
  | cons h1 _ ih => exact .cons (h _ _ h1) ih
theorem F2.len {α β : Type} {R : α → β → Prop} {as : List α} {bs : List β} (k : F2 R as bs) : as.length = bs.length := by
  induction k with
  | nil => rfl
  | cons h1 _ ih => simp [ih]
theorem F2.mapO {α β : Type} {f : α → Option β} {as : List α} {bs : List β} (k : F2 (fun a b => f a = some b) as bs) : Ab.mapO f as = some bs := by
  induction k with
  | nil => rfl
  | cons h1 _ ih => simp only [Ab.mapO, h1, ih]
theorem F2.map {α β γ : Type} {R : α → β → Prop} {f : β → γ} {as : List α} {bs : List β} (k : F2 R as bs) : F2 (fun a c => ∃ b, R a b ∧ c = f b) as (bs.map f) := by
  induction k with
  | nil => exact .nil
  | cons h1 _ ih => exact .cons ⟨_, h1, rfl⟩ ih
def RW (r : List Blk) (X : Nat) (c : AV) (w : List Int) : Prop := (c = .imm true [] ∧ w = []) ∨ (w ≠ [] ∧ ∃ b, b ≠ X ∧ c = .sl (b + 1) w.length 0 w.length ∧ blk r b = some ⟨none, w.map .int, .live⟩)
def RG (r : List Blk) (X : Nat) (c : AV) (g : List (List Int)) : Prop := ∃ b cs, b ≠ X ∧ c = .sl (b + 1) g.length 0 g.length ∧ blk r b = some ⟨none, cs, .live⟩ ∧ F2 (RW r X) cs g
theorem zc3Q {r : List Blk} {b : Nat} {B : Blk} : blk r b = some B → b < r.length := by
  induction r generalizing b with
  | nil => intro h; cases b <;> simp [blk] at h
  | cons x r ih =>
    cases b with
    | zero => intro _; simp
    | succ b => intro h; have := ih h; simp; omega
theorem zc79 {r l : List Blk} {b : Nat} {B : Blk} : blk r b = some B → blk (r ++ l) b = some B := by
  induction r generalizing b with
  | nil => intro h; cases b <;> simp [blk] at h
  | cons x r ih =>
    cases b with
    | zero => exact id
    | succ b => exact ih
theorem RW.mono {r r' : List Blk} {X X' : Nat} {c : AV} {w : List Int} (h : RW r X c w) (hb : ∀ b B, b ≠ X → blk r b = some B → blk r' b = some B) (hx : X' = X ∨ r.length ≤ X') : RW r' X' c w := by
  rcases h with h | ⟨h0, b, h1, h2, h3⟩
  · exact .inl h
  · refine .inr ⟨h0, b, ?_, h2, hb _ _ h1 h3⟩
    rcases hx with rfl | hx
    · exact h1
    · have := zc3Q h3; omega
theorem RG.mono {r r' : List Blk} {X X' : Nat} {c : AV} {g : List (List Int)} (h : RG r X c g) (hb : ∀ b B, b ≠ X → blk r b = some B → blk r' b = some B) (hx : X' = X ∨ r.length ≤ X') : RG r' X' c g := by
  obtain ⟨b, cs, h1, h2, h3, h4⟩ := h
  refine ⟨b, cs, ?_, h2, hb _ _ h1 h3, h4.imp fun a w k => k.mono hb hx⟩
  rcases hx with rfl | hx
  · exact h1
  · have := zc3Q h3; omega
theorem zS5y {σ : List Blk} {fr : Bool} {b k n : Nat} {cs ys : List AV} {st : BSt} (h : blk σ b = some ⟨none, cs, st⟩) (hs : st.isArr = true) (hn : n = cs.length) (hf : F2 (fun c y => view σ fr k c = some y) cs ys) : view σ fr (k + 1) (.sl b n 0 n) = some (.imm false ys) := by
  subst hn
  have hu : upto σ b cs.length = some ⟨none, cs, st⟩ := by
    unfold upto
    rw [h]
    cases st <;> simp at hs ⊢
  unfold view
  simp only [hu, kst, List.drop_zero, Nat.zero_add, Nat.mul_one, Nat.le_refl, if_true]
  rw [zeyr (Nat.le_refl _), hf.mapO]
end Ab
namespace Ab
theorem RW.seen {r : List Blk} {X : Nat} {c : AV} {w : List Int} (h : RW r X c w) (B : Blk) {k : Nat} : view (B :: r) false (k + 2) c = some (iL w) := by
  rcases h with ⟨rfl, rfl⟩ | ⟨h0, b, _, rfl, h1⟩
  · rfl
  · exact zxF7 (k := k + 1) (f := .int) (g := .int) (st := .live) (xs := w) h1 (by simp) rfl fun _ _ => rfl
theorem F2.get {α β : Type} {R : α → β → Prop} {as : List α} {bs : List β} (k : F2 R as bs) : ∀ {i : Nat} {a : α} {b : β}, as[i]? = some a → bs[i]? = some b → R a b := by
  induction k with
  | nil => intro i a b h; simp at h
  | cons h1 _ ih =>
    intro i a b h h'
    cases i with
    | zero => simp at h h'; subst h h'; exact h1
    | succ i => exact ih (by simpa using h) (by simpa using h')
theorem F2.take {α β : Type} {R : α → β → Prop} {as : List α} {bs : List β} (k : F2 R as bs) : ∀ (n : Nat), F2 R (as.take n) (bs.take n) := by
  induction k with
  | nil => intro n; simp; exact .nil
  | cons h1 _ ih =>
    intro n
    cases n with
    | zero => exact .nil
    | succ n => exact .cons h1 (ih n)
theorem F2.drop {α β : Type} {R : α → β → Prop} {as : List α} {bs : List β} (k : F2 R as bs) : ∀ (n : Nat), F2 R (as.drop n) (bs.drop n) := by
  induction k with
  | nil => intro n; simp; exact .nil
  | cons h1 h2 ih =>
    intro n
    cases n with
    | zero => exact .cons h1 h2
    | succ n => exact ih n
theorem F2.app {α β : Type} {R : α → β → Prop} {as cs : List α} {bs ds : List β} (k : F2 R as bs) (h : F2 R cs ds) : F2 R (as ++ cs) (bs ++ ds) := by
  induction k with
  | nil => exact h
  | cons h1 _ ih => exact .cons h1 ih
def SL (r : List Blk) (cells : List AV) (l : List (List Int)) : Prop := F2 (RW r r.length) cells l
theorem SL.seen {r : List Blk} {cells : List AV} {l : List (List Int)} (h : SL r cells l) : view (⟨none, cells, .live⟩ :: r) false vd (.sl 0 cells.length 0 cells.length) = some (iLL l) := by
  refine zS5y (k := 11) (st := .live) rfl (by simp) rfl ?_
  exact h.map.imp fun c y ⟨w, k1, k2⟩ => by subst k2; exact k1.seen _
theorem SL.more {r l2 : List Blk} {cells : List AV} {l : List (List Int)} (h : SL r cells l) : SL (r ++ l2) cells l := F2.imp (fun a b k => k.mono (fun b B _ => zc79) (.inr (by simp))) h
end Ab
namespace Ab
end Ab
namespace Ab
structure Tr where
  inp : List Int
  out : List Int
  deriving Inhabited
abbrev Tr.av (t : Tr) : AV := .agg [iL t.inp, iL t.out]
def okT (t : Tr) : Prop := okI t.inp ∧ okI t.out
structure Obs where
  inputs : Int
  traces : List Tr
  deriving Inhabited
abbrev Obs.av (o : Obs) : AV := .agg [.int o.inputs, .imm false (o.traces.map Tr.av)]
structure Obs.fits (o : Obs) : Prop where
  inputs : inR o.inputs = true
  len : (o.traces.length : Int) ≤ 9223372036854775807
  tr : ∀ t ∈ o.traces, okT t
structure Obs.Ok (o : Obs) : Prop where
  len : (o.traces.length : Int) ≤ 1000000
  inp : ∀ t ∈ o.traces, (t.inp.length : Int) ≤ 1000000
  out : ∀ t ∈ o.traces, t.out.length = t.inp.length
def Obs.at (o : Obs) (w : List Int) : Int := idx (fun t : Tr => decide (w <+: t.inp)) o.traces
def Obs.ans (o : Obs) (w : List Int) : List Int × Bool := if w = [] then ([], true) else if o.at w < 0 then ([], false) else ((ix o.traces (o.at w)).out.take w.length, true)
end Ab
namespace Ab
end Ab
namespace Ab
def Obs.open (o : Obs) (qs : List (List Int)) : List (List Int) := qs.filter fun w => !(o.ans w).2
end Ab
