/- What is to be shown of a run of the interpreter, as a formula that simp can print. Condition: none. -/
import Derived.Test.YtchamabaodnjkaaAbLim
set_option linter.all false
namespace Ab

/-- The element at n, if it is there. -/
def idxK (l : List AV) (n : Int) (K : AV → Prop) : Prop := 0 ≤ n ∧ ∃ y, elm l n.toNat = some y ∧ K y
/-- Integers that fit. -/
def fitK (n : Int) (K : AV → Prop) : Prop := (-9223372036854775808 ≤ n ∧ n ≤ 9223372036854775807) ∧ K (.int n)
def binK (o : Bin) (x y : Int) (K : AV → Prop) : Prop :=
  match o with
  | .add => fitK (x + y) K
  | .sub => fitK (x - y) K
  | .mul => fitK (x * y) K
  | .quo => y ≠ 0 ∧ fitK (x.tdiv y) K
  | .rem => y ≠ 0 ∧ K (.int (x.tmod y))
  | .lss => K (.bool (decide (x < y)))
  | .leq => K (.bool (decide (x ≤ y)))
  | .gtr => K (.bool (decide (y < x)))
  | .geq => K (.bool (decide (y ≤ x)))
  | .eql => K (.bool (decide (x = y)))
  | .neq => K (.bool (!decide (x = y)))
  | .addw => K (.int (wr (x + y)))
/-- What a call answers, looked at by value. -/
def PCx (L : CE) (f : Nat) (args : List AV) : Option AV :=
  match L f args [] with
  | some (v, σ') => viewT σ' false v
  | none => none
def optK {α : Type} (o : Option α) (K : α → Prop) : Prop :=
  match o with
  | some u => K u
  | none => False
theorem optK_s {α : Type} {o : Option α} {K : α → Prop} (h : optK o K) : ∃ u, o = some u ∧ K u := by
  cases o with
  | none => exact h.elim
  | some u => exact ⟨u, rfl, h⟩
theorem optK_some {α : Type} {u : α} {K : α → Prop} : optK (some u) K = K u := (rfl)
theorem optK_of {α : Type} {o : Option α} {u : α} {K : α → Prop} (h : o = some u) (k : K u) : optK o K := by subst h; exact k
/-- A call by value. -/
def pclK (L : CE) (f : Nat) (args : List AV) (K : AV → Prop) : Prop := noLocs args = true ∧ optK (PCx L f (args.map wk)) K
/-- A call that sees the blocks. -/
def LX (L : CE) (f : Nat) (args : List AV) (σ : List Blk) (K : AV → List Blk → Prop) : Prop := optK (L f args σ) fun p => K p.1 p.2
/-- A cell or cells of a block. -/
def partK (cs : List AV) (off : Nat) (k : Option Nat) (K : AV → Prop) : Prop := optK (part cs off k) K
def okIf (c : Prop) (K : Prop) : Prop := c ∧ K

/-- An operation that turns no block. -/
def evK (L : CE) (σ : List Blk) (nl : Nat) (r : Rf → AV) (op : IOp) (K : AV → Option Pend → Prop) : Prop :=
  match op with
  | .bin o x y => match r x, r y with
    | .int a, .int b => binK o a b fun v => K v none
    | _, _ => False
  | .iad x i st => match r x, r i with
    | .imm _ l, .int n => idxK l n fun y => y.cells.length = st ∧ K (.pimm y) none
    | .sl b u off len, .int n => okIf (0 ≤ n ∧ n < len) (K (.ptr b u (off + n.toNat * st)) none)
    | _, _ => False
  | .iada x i n k => match r x, r i with
    | .ptr b u o, .int j => okIf (0 ≤ j ∧ j < n) (K (.ptr b u (o + j.toNat * kst k)) none)
    | .pimm v, .int j => okIf (0 ≤ j ∧ j < n) (optK (part v.cells (j.toNat * kst k) k) fun y => K (.pimm y) none)
    | _, _ => False
  | .cal f args => pclK L f (args.map r) fun v => K v none
  | .cald x args => match r x with
    | .func f caps => pclK L f (args.map r ++ caps) fun v => K v none
    | _ => False
  | .inv x tbl args => match r x with
    | .iface t v => match lookT tbl t with
      | some f => pclK L f (v :: args.map r) fun v => K v none
      | none => False
    | _ => False
  | .ld x k => match r x with
    | .pimm v => match k, v with
      | none, .agg _ => False
      | none, v => K v none
      | some n, .agg l => l.length = n ∧ K (.agg l) none
      | some _, _ => False
    | .ptr b u o => optK (upto σ b u) fun B => B.st.isLive = true ∧ partK B.cells o k fun y => K y none
    | _ => False
  | .cvi x => match r x with
    | .int n => fitK n fun v => K v none
    | _ => False
  | .slc x lo hi st => match loV r lo, hiV r hi with
    | some a, some b => (match r x with
      | .imm nn l => okIf ((0 ≤ a ∧ a ≤ b.getD l.length ∧ b.getD l.length ≤ l.length) ∧ firstIs st l = true) (K (.imm (nn && decide (0 < l.length)) ((l.drop a.toNat).take ((b.getD l.length).toNat - a.toNat))) none)
      | .sl b' u off len => optK (upto σ b' u) fun B => okIf ((0 ≤ a ∧ a ≤ b.getD len ∧ b.getD len ≤ len) ∧ kst B.k = st) (K (.sl b' u (off + a.toNat * st) ((b.getD len).toNat - a.toNat)) none)
      | _ => False)
    | _, _ => False
  | .cab f args => optK (mapO (fun x => view σ false vd (r x)) args) fun vs => LX L f vs [] fun v σ' => optK (viewT σ' true v) fun u => K u none
  | .can f args => okIf (noLocs (args.map r) = true) (LX L f (args.map r) [] fun v σ' => K (shV nl v) (some (.news (σ'.map (shB nl)))))
  | .mks n c z k => match r n, r c with
    | .int n, .int c => okIf (0 ≤ n ∧ n ≤ c ∧ c ≤ big ∧ z.length = kst k) (K (.sl nl (dupN c.toNat z).length 0 n.toNat) (some (.new ⟨k, dupN c.toNat z, .live⟩)))
    | _, _ => False
  | .app s x k => match srcCells σ k (r x) with
    | none => False
    | some (n, cs) => match r s with
      | .sl b u off len => optK (upto σ b u) fun B => okIf (off = 0 ∧ u = len * kst k ∧ len + n ≤ big ∧ eqK B.k k = true) ((n = 0 → K (.sl b u off len) none) ∧ (n ≠ 0 → cs.length ≠ 0 ∧ K (.sl b (u + cs.length) 0 (len + n)) (some (.grow b cs))))
      | .snil => (n = 0 → K .snil none) ∧ (n ≠ 0 → n ≤ big ∧ K (.sl nl cs.length 0 n) (some (.new ⟨k, cs, .live⟩)))
      | .arr l => (n = 0 → K (if noLocs l then .imm true l else .arr l) none) ∧ (n ≠ 0 → (fitAll (kst k) l = true ∧ l.length + n ≤ big) ∧ K (.sl nl (l.flatMap AV.cells ++ cs).length 0 (l.length + n)) (some (.new ⟨k, l.flatMap AV.cells ++ cs, .live⟩)))
      | _ => False
  | op => optK (ev L σ nl [] r op) fun p => K p.1 p.2

theorem inR_iff {n : Int} : inR n = true ↔ -9223372036854775808 ≤ n ∧ n ≤ 9223372036854775807 := by
  simp [inR]
theorem fitK_s {n : Int} {K : AV → Prop} (h : fitK n K) : inR n = true ∧ K (.int n) := ⟨inR_iff.2 h.1, h.2⟩
theorem binK_s {o : Bin} {x y : Int} {K : AV → Prop} (h : binK o x y K) : ∃ v, bin o x y = some v ∧ K v := by
  cases o <;> simp only [binK] at h <;> simp only [bin]
  case add => obtain ⟨h1, h2⟩ := fitK_s h; exact ⟨_, by rw [if_pos h1], h2⟩
  case sub => obtain ⟨h1, h2⟩ := fitK_s h; exact ⟨_, by rw [if_pos h1], h2⟩
  case mul => obtain ⟨h1, h2⟩ := fitK_s h; exact ⟨_, by rw [if_pos h1], h2⟩
  case quo => obtain ⟨h0, h1, h2⟩ := And.intro h.1 (fitK_s h.2); exact ⟨_, by simp [h0, h1], h2⟩
  case rem => exact ⟨_, by simp [h.1], h.2⟩
  case eql => exact ⟨_, rfl, by rwa [show (x == y) = decide (x = y) from rfl]⟩
  case neq => exact ⟨_, rfl, by rwa [show (x == y) = decide (x = y) from rfl]⟩
  all_goals exact ⟨_, rfl, h⟩
theorem pclK_s {L : CE} {f : Nat} {args : List AV} {K : AV → Prop} (h : pclK L f args K) : ∃ v, pcl L f args = some v ∧ K v := by
  obtain ⟨h1, h2⟩ := h
  obtain ⟨u, h3, h4⟩ := optK_s h2
  exact ⟨u, by unfold pcl; rw [if_pos h1]; exact h3, h4⟩
theorem LX_s {L : CE} {f : Nat} {args : List AV} {σ : List Blk} {K : AV → List Blk → Prop} (h : LX L f args σ K) : ∃ v σ', L f args σ = some (v, σ') ∧ K v σ' := by
  obtain ⟨⟨v, σ'⟩, h1, h2⟩ := optK_s h
  exact ⟨v, σ', h1, h2⟩
theorem LX_of {L : CE} {f : Nat} {args : List AV} {σ σ' : List Blk} {v : AV} {K : AV → List Blk → Prop} (h : L f args σ = some (v, σ')) (k : K v σ') : LX L f args σ K := by unfold LX; rw [h]; exact k
theorem PCx_of {L : CE} {f : Nat} {args : List AV} {r : AV} (h : LX L f args [] fun v σ' => optK (viewT σ' false v) (· = r)) : PCx L f args = some r := by
  obtain ⟨v, σ', h1, h2⟩ := LX_s h
  obtain ⟨u, h3, rfl⟩ := optK_s h2
  simp only [PCx, h1, h3]
theorem LX_eq {L : CE} {f : Nat} {args : List AV} {σ σ' : List Blk} {v : AV} (h : LX L f args σ fun v' τ => v' = v ∧ τ = σ') : L f args σ = some (v, σ') := by
  obtain ⟨v', τ, h1, rfl, rfl⟩ := LX_s h
  exact h1
theorem evK_s {L : CE} {σ : List Blk} {nl : Nat} {r : Rf → AV} {op : IOp} {K : AV → Option Pend → Prop} (h : evK L σ nl r op K) : ∃ v p, ev L σ nl [] r op = some (v, p) ∧ K v p := by
  unfold evK at h
  cases op
  case bin o x y =>
    simp only at h
    split at h
    · rename_i a b ha hb
      obtain ⟨v, h1, h2⟩ := binK_s h
      exact ⟨v, none, by simp only [ev, ha, hb, h1]; rfl, h2⟩
    · exact h.elim
  case iad x i st =>
    simp only at h
    split at h
    · rename_i q l n ha hb
      obtain ⟨h0, y, h1, h2, h3⟩ := h
      exact ⟨_, _, by simp [ev, ha, hb, h0, h1, h2], h3⟩
    · rename_i b u off len n ha hb
      obtain ⟨h0, h1⟩ := h
      exact ⟨_, _, by simp only [ev, ha, hb]; rw [if_pos h0], h1⟩
    · exact h.elim
  case iada x i n k =>
    simp only at h
    split at h
    · rename_i b u o j ha hb
      obtain ⟨h0, h1⟩ := h
      exact ⟨_, _, by simp only [ev, ha, hb]; rw [if_pos h0], h1⟩
    · rename_i v j ha hb
      obtain ⟨h0, h1⟩ := h
      obtain ⟨y, h2, h3⟩ := optK_s h1
      exact ⟨_, _, by simp only [ev, ha, hb]; rw [if_pos h0, h2]; rfl, h3⟩
    · exact h.elim
  case cal f args =>
    obtain ⟨v, h1, h2⟩ := pclK_s h
    exact ⟨v, none, by simp [ev, h1], h2⟩
  case cald x args =>
    simp only at h
    split at h
    · rename_i f caps ha
      obtain ⟨v, h1, h2⟩ := pclK_s h
      exact ⟨v, none, by simp only [ev, ha, h1]; rfl, h2⟩
    · exact h.elim
  case inv x tbl args =>
    simp only at h
    split at h
    · rename_i t q ha
      split at h
      · rename_i f hf
        obtain ⟨v, h1, h2⟩ := pclK_s h
        exact ⟨v, none, by simp only [ev, ha, hf, h1]; rfl, h2⟩
      · exact h.elim
    · exact h.elim
  case ld x k =>
    simp only at h
    split at h
    · rename_i v ha
      split at h
      · exact h.elim
      · rename_i v hv; exact ⟨_, none, by simp only [ev, ha], h⟩
      · obtain ⟨h1, h2⟩ := h; exact ⟨_, none, by simp [ev, ha, h1], h2⟩
      · exact h.elim
    · rename_i b u o ha
      obtain ⟨B, hB, h⟩ := optK_s h
      obtain ⟨h1, h⟩ := h
      obtain ⟨y, h2, h3⟩ := optK_s h
      exact ⟨y, none, by simp only [ev, ha, hB]; rw [if_pos h1, h2]; rfl, h3⟩
    · exact h.elim
  case cvi x =>
    simp only at h
    split at h
    · rename_i n ha
      obtain ⟨h1, h2⟩ := fitK_s h
      exact ⟨_, none, by simp only [ev, ha]; rw [if_pos h1], h2⟩
    · exact h.elim
  case slc x lo hi st =>
    simp only at h
    split at h
    · rename_i a b ha hb
      split at h
      · rename_i nn l hx
        obtain ⟨h0, h1⟩ := h
        exact ⟨_, _, by simp only [ev, ha, hb, hx]; rw [if_pos h0], h1⟩
      · rename_i b' u off len hx
        obtain ⟨B, hB, h0, h1⟩ := optK_s h
        exact ⟨_, _, by simp only [ev, ha, hb, hx, hB]; rw [if_pos h0], h1⟩
      · exact h.elim
    · exact h.elim
  case cab f args =>
    obtain ⟨vs, h1, h2⟩ := optK_s h
    obtain ⟨v, σ', h3, h4⟩ := LX_s h2
    obtain ⟨u, h5, h6⟩ := optK_s h4
    exact ⟨u, none, by simp only [ev, h1, h3, h5]; rfl, h6⟩
  case can f args =>
    obtain ⟨h1, h2⟩ := h
    obtain ⟨v, σ', h3, h4⟩ := LX_s h2
    exact ⟨_, _, by simp only [ev]; rw [if_pos h1, h3], h4⟩
  case mks n c z k =>
    simp only at h
    split at h
    · rename_i n c ha hb
      obtain ⟨h0, h1⟩ := h
      exact ⟨_, _, by simp only [ev, ha, hb]; rw [if_pos h0], h1⟩
    · exact h.elim
  case app s x k =>
    simp only at h
    split at h
    · exact h.elim
    · rename_i n cs hx
      split at h
      · rename_i b u off len hs
        obtain ⟨B, hB, ⟨h1, h2, h3, h4⟩, h5, h6⟩ := optK_s h
        by_cases hn : n = 0
        · subst hn
          exact ⟨_, _, by simp only [ev, hx, hs, hB]; rw [if_pos (by simp [h1, h2, h4, grows]; omega)]; simp, h5 rfl⟩
        · obtain ⟨h7, h8⟩ := h6 hn
          exact ⟨_, _, by simp only [ev, hx, hs, hB]; rw [if_pos (by simp [h1, h2, h4, grows]; omega)]; rw [if_neg (by simpa using hn), if_neg (by simpa using h7)], h8⟩
      · rename_i hs
        by_cases hn : n = 0
        · subst hn
          exact ⟨_, _, by simp only [ev, hx, hs]; simp, h.1 rfl⟩
        · obtain ⟨h7, h8⟩ := h.2 hn
          exact ⟨_, _, by simp only [ev, hx, hs]; rw [if_neg (by simpa using hn), if_pos h7], h8⟩
      · rename_i l hs
        by_cases hn : n = 0
        · subst hn
          exact ⟨_, _, by simp only [ev, hx, hs]; simp, h.1 rfl⟩
        · obtain ⟨⟨h7, h9⟩, h8⟩ := h.2 hn
          exact ⟨_, _, by simp only [ev, hx, hs]; rw [if_neg (by simpa using hn), if_pos (by simp [h7, h9])], h8⟩
      · exact h.elim
  all_goals
    obtain ⟨⟨v, p⟩, h1, h2⟩ := optK_s h
    exact ⟨v, p, h1, h2⟩

/-- Cells that are put. -/
def putK (cs : List AV) (o : Nat) (new : List AV) (K : List AV → Prop) : Prop := o + new.length ≤ cs.length ∧ K (putAt cs o new)
/-- An operation that may turn blocks. -/
def evWK (L : CE) (σ : List Blk) (r : Rf → AV) (op : IOp) (K : AV → List Blk → Prop) : Prop :=
  match op with
  | .st p x n => match r p with
    | .ptr b u o => optK (upto σ b u) fun B => ((r x).cells.length = n ∧ B.st.isLive = true ∧ notUnd (r x) = true) ∧ putK B.cells o (r x).cells fun cs => K .und (setB σ b ⟨B.k, cs, B.st⟩)
    | _ => False
  | .appw s x k => match srcCells σ k (r x) with
    | none => False
    | some (n, cs) => match r s with
      | .sl b u off len => optK (upto σ b u) fun B => okIf (off = 0 ∧ len + n ≤ big ∧ eqK B.k k = true ∧ (n ≠ 0 → cs.length ≠ 0)) ((n = 0 → K (.sl b u off len) σ) ∧ (n ≠ 0 → u = len * kst k → K (.sl b (u + cs.length) 0 (len + n)) (setB σ b ⟨B.k, B.cells ++ cs, .live⟩)) ∧ (n ≠ 0 → u ≠ len * kst k → (len + n) * kst k ≤ u ∧ K (.sl b u 0 (len + n)) (setB σ b ⟨B.k, putAt B.cells (len * kst k) cs, B.st⟩)))
      | .snil => (n = 0 → K .snil σ) ∧ (n ≠ 0 → n ≤ big ∧ K (.sl σ.length cs.length 0 n) (σ ++ [⟨k, cs, .live⟩]))
      | .arr l => (n = 0 → K (if noLocs l then .imm true l else .arr l) σ) ∧ (n ≠ 0 → (fitAll (kst k) l = true ∧ l.length + n ≤ big) ∧ K (.sl σ.length (l.flatMap AV.cells ++ cs).length 0 (l.length + n)) (σ ++ [⟨k, l.flatMap AV.cells ++ cs, .live⟩]))
      | _ => False
  | .cam f args => LX L f (args.map r) σ K
  | .camd x args => match r x with
    | .func f caps => LX L f (args.map r ++ caps) σ K
    | _ => False
  | .invm x tbl args => match r x with
    | .iface t v => match lookT tbl t with
      | some f => LX L f (v :: args.map r) σ K
      | none => False
    | _ => False
  | op => optK (evW L σ r op) fun p => K p.1 p.2
theorem evWK_s {L : CE} {σ : List Blk} {r : Rf → AV} {op : IOp} {K : AV → List Blk → Prop} (h : evWK L σ r op K) : ∃ v σ', evW L σ r op = some (v, σ') ∧ K v σ' := by
  unfold evWK at h
  cases op
  case st p x n =>
    simp only at h
    split at h
    · rename_i b u o ha
      obtain ⟨B, hB, ⟨h1, h2, h3⟩, h4, h5⟩ := optK_s h
      exact ⟨.und, _, by simp only [evW, ha, hB]; simp [h1, h2, h3, show o + n ≤ B.cells.length by rw [← h1]; exact h4], h5⟩
    · exact h.elim
  case appw s x k =>
    simp only at h
    split at h
    · exact h.elim
    · rename_i n cs hx
      split at h
      · rename_i b u off len hs
        obtain ⟨B, hB, ⟨h1, h2, h3, h4⟩, h5, h6, h7⟩ := optK_s h
        by_cases hn : n = 0
        · subst hn
          exact ⟨_, _, by simp only [evW, hx, hs, hB]; rw [if_pos (by simp [h1, h3]; omega)]; simp, h5 rfl⟩
        · have hc := h4 hn
          by_cases hu : u = len * kst k
          · exact ⟨_, _, by simp only [evW, hx, hs, hB]; rw [if_pos (by simp [h1, h3]; omega)]; rw [if_neg (by simpa using hn), if_neg (by simpa using hc), if_pos (by simpa using hu)], h6 hn hu⟩
          · obtain ⟨h8, h9⟩ := h7 hn hu
            exact ⟨_, _, by simp only [evW, hx, hs, hB]; rw [if_pos (by simp [h1, h3]; omega)]; rw [if_neg (by simpa using hn), if_neg (by simpa using hc), if_neg (by simpa using hu), if_pos h8], h9⟩
      · rename_i hs
        by_cases hn : n = 0
        · subst hn
          exact ⟨_, _, by simp only [evW, hx, hs]; simp, h.1 rfl⟩
        · obtain ⟨h7, h8⟩ := h.2 hn
          exact ⟨_, _, by simp only [evW, hx, hs]; rw [if_neg (by simpa using hn), if_pos h7], h8⟩
      · rename_i l hs
        by_cases hn : n = 0
        · subst hn
          exact ⟨_, _, by simp only [evW, hx, hs]; simp, h.1 rfl⟩
        · obtain ⟨⟨h7, h9⟩, h8⟩ := h.2 hn
          exact ⟨_, _, by simp only [evW, hx, hs]; rw [if_neg (by simpa using hn), if_pos (by simp [h7, h9])], h8⟩
      · exact h.elim
  case cam f args =>
    obtain ⟨v, σ', h1, h2⟩ := LX_s h
    exact ⟨v, σ', h1, h2⟩
  case camd x args =>
    simp only at h
    split at h
    · rename_i f caps ha
      obtain ⟨v, σ', h1, h2⟩ := LX_s h
      exact ⟨v, σ', by simp only [evW, ha]; exact h1, h2⟩
    · exact h.elim
  case invm x tbl args =>
    simp only at h
    split at h
    · rename_i t q ha
      split at h
      · rename_i f hf
        obtain ⟨v, σ', h1, h2⟩ := LX_s h
        exact ⟨v, σ', by simp only [evW, ha, hf]; exact h1, h2⟩
      · exact h.elim
    · exact h.elim
  all_goals
    obtain ⟨⟨v, p⟩, h1, h2⟩ := optK_s h
    exact ⟨v, p, h1, h2⟩

/-- Behind an operation. -/
def pendK (K : List AV → List Blk → List Blk → Prop) (env : List AV) (σp σ : List Blk) (v : AV) : Option Pend → Prop
  | none => K (v :: env) σp σ
  | some p => K (v :: env) σ (commit σ p)
/-- One line; K: the results so far, the blocks before and now. -/
def lnK (L : CE) (vars : List AV) (op : IOp) (prev : Bool) (env : List AV) (σp σ : List Blk) (K : List AV → List Blk → List Blk → Prop) : Prop :=
  match op.isW, prev, op.isE with
  | true, _, _ => evWK L σ (rv vars env) op fun v σ' => K (v :: env) [] σ'
  | false, true, true => evK L σp σ.length (rv vars env) op (pendK K env σ σ)
  | false, true, false => evK L σp σ.length (rv vars env) op (pendK K env σp σ)
  | false, false, true => evK L σ σ.length (rv vars env) op (pendK K env σ σ)
  | false, false, false => evK L σ σ.length (rv vars env) op (pendK K env σp σ)

/-- By cases. -/
def gK (b : Bool) (A B : Prop) : Prop := (b = true → A) ∧ (b = false → B)
theorem gK_true {A B : Prop} : gK true A B = A := by simp [gK]
theorem gK_false {A B : Prop} : gK false A B = B := by simp [gK]
theorem gK_any {b : Bool} {A B : Prop} : gK b A B = ((b = true → A) ∧ (b = false → B)) := rfl
/-- Lines. -/
def LK (L : CE) (vars : List AV) : List Ln → List AV → List Blk → List Blk → (List AV → List Blk → Prop) → Prop
  | [], env, _, σ, K => K env σ
  | ⟨op, g, prev⟩ :: ls, env, σp, σ, K => match g with
    | none => lnK L vars op prev env σp σ fun env σp σ => LK L vars ls env σp σ K
    | some (.t d, w) => match nth env d with
      | .bool b => match w with
        | true => gK b (lnK L vars op prev (setN env d (.bool true)) σp σ fun env σp σ => LK L vars ls env σp σ K) (LK L vars ls (.tup [] :: setN env d (.bool false)) σp σ K)
        | false => gK b (LK L vars ls (.tup [] :: setN env d (.bool true)) σp σ K) (lnK L vars op prev (setN env d (.bool false)) σp σ fun env σp σ => LK L vars ls env σp σ K)
      | .tup [] => LK L vars ls (.tup [] :: env) σp σ K
      | _ => False
    | some (.v k, w) => match nth vars k with
      | .bool b => match w with
        | true => gK b (lnK L vars op prev env σp σ fun env σp σ => LK L vars ls env σp σ K) (LK L vars ls (.tup [] :: env) σp σ K)
        | false => gK b (LK L vars ls (.tup [] :: env) σp σ K) (lnK L vars op prev env σp σ fun env σp σ => LK L vars ls env σp σ K)
      | .tup [] => LK L vars ls (.tup [] :: env) σp σ K
      | _ => False
    | some (.c _, _) => False

theorem setN_same : ∀ {l : List AV} {d : Nat} {x : AV}, x ≠ .und → nth l d = x → setN l d x = l
  | [], d, x, hx, h => by simp [nth] at h; exact absurd h.symm hx
  | y :: r, 0, x, _, h => by simp [nth] at h; simp [setN, h]
  | y :: r, d + 1, x, hx, h => by simp only [nth] at h; simp [setN, setN_same hx h]

theorem lnK_s {L : CE} {vars : List AV} {op : IOp} {g : Option (Rf × Bool)} {prev : Bool} {env : List AV} {σp σ : List Blk} {K : List AV → List Blk → List Blk → Prop} (hw : want vars env g = some true) (h : lnK L vars op prev env σp σ K) :
    ∃ s, line1 L vars ⟨env, σp, σ⟩ ⟨op, g, prev⟩ = some s ∧ K s.env s.σp s.σ := by
  unfold lnK at h
  unfold line1
  simp only [hw]
  have fin : ∀ σ0 σ1, (if prev = true then σp else σ) = σ0 → (if op.isE = true then σ else σp) = σ1 → op.isW = false → evK L σ0 σ.length (rv vars env) op (pendK K env σ1 σ) →
      ∃ s, (if op.isW = true then match evW L σ (rv vars env) op with
        | some (v, σ') => some (⟨v :: env, [], σ'⟩ : LS)
        | none => none
      else match ev L (if prev = true then σp else σ) σ.length [] (rv vars env) op with
        | some (v, none) => some ⟨v :: env, if op.isE = true then σ else σp, σ⟩
        | some (v, some p) => some ⟨v :: env, σ, commit σ p⟩
        | none => none) = some s ∧ K s.env s.σp s.σ := fun σ0 σ1 e0 e1 hW h => by
    obtain ⟨v, p, h1, h2⟩ := evK_s h
    rw [if_neg (by simp [hW]), e0, e1, h1]
    cases p with
    | none => exact ⟨_, rfl, h2⟩
    | some p => exact ⟨_, rfl, h2⟩
  split at h
  · rename_i hW
    obtain ⟨v, σ', h1, h2⟩ := evWK_s h
    rw [if_pos hW, h1]
    exact ⟨_, rfl, h2⟩
  · rename_i h1 h2; exact fin _ _ (by simp) (by simp [h2]) h1 h
  · rename_i h1 h2; exact fin _ _ (by simp) (by simp [h2]) h1 h
  · rename_i h1 h2; exact fin _ _ (by simp) (by simp [h2]) h1 h
  · rename_i h1 h2; exact fin _ _ (by simp) (by simp [h2]) h1 h

theorem LK_skip {L : CE} {vars : List AV} {op : IOp} {g : Option (Rf × Bool)} {prev : Bool} {ls : List Ln} {env env' : List AV} {σp σ : List Blk} {K : List AV → List Blk → Prop} (e : env' = env) (hw : want vars env' g = some false)
    (h : ∃ q, lines L vars ls ⟨.tup [] :: env', σp, σ⟩ = some q ∧ K q.env q.σ) : ∃ q, lines L vars (⟨op, g, prev⟩ :: ls) ⟨env, σp, σ⟩ = some q ∧ K q.env q.σ := by
  subst e
  obtain ⟨q, h1, h2⟩ := h
  exact ⟨q, by simp only [lines, line1, hw]; exact h1, h2⟩
theorem LK_go {L : CE} {vars : List AV} {op : IOp} {g : Option (Rf × Bool)} {prev : Bool} {ls : List Ln} {env env' : List AV} {σp σ : List Blk} {K : List AV → List Blk → Prop} {J : List AV → List Blk → List Blk → Prop} (e : env' = env) (hw : want vars env' g = some true)
    (h : lnK L vars op prev env' σp σ J) (hJ : ∀ env σp σ, J env σp σ → ∃ q, lines L vars ls ⟨env, σp, σ⟩ = some q ∧ K q.env q.σ) : ∃ q, lines L vars (⟨op, g, prev⟩ :: ls) ⟨env, σp, σ⟩ = some q ∧ K q.env q.σ := by
  subst e
  obtain ⟨s, h1, h2⟩ := lnK_s hw h
  obtain ⟨q, h3, h4⟩ := hJ _ _ _ h2
  exact ⟨q, by simp only [lines, h1]; exact h3, h4⟩
theorem LK_s {L : CE} {vars : List AV} : ∀ {ls : List Ln} {env : List AV} {σp σ : List Blk} {K : List AV → List Blk → Prop}, LK L vars ls env σp σ K → ∃ q, lines L vars ls ⟨env, σp, σ⟩ = some q ∧ K q.env q.σ
  | [], env, σp, σ, K, h => ⟨_, rfl, h⟩
  | ⟨op, g, prev⟩ :: ls, env, σp, σ, K, h => by
    unfold LK at h
    split at h
    · exact LK_go rfl rfl h fun _ _ _ h => LK_s h
    · rename_i d w
      split at h
      · rename_i b hb
        have e : ∀ q, b = q → setN env d (.bool q) = env := fun q hq => setN_same (by simp) (hq ▸ hb)
        cases w with
        | true =>
          simp only [gK] at h
          cases b with
          | true => exact LK_go (e true rfl) (by rw [e true rfl]; simp [want, rv, hb]) (h.1 rfl) fun _ _ _ h => LK_s h
          | false => exact LK_skip (e false rfl) (by rw [e false rfl]; simp [want, rv, hb]) (LK_s (h.2 rfl))
        | false =>
          simp only [gK] at h
          cases b with
          | true => exact LK_skip (e true rfl) (by rw [e true rfl]; simp [want, rv, hb]) (LK_s (h.1 rfl))
          | false => exact LK_go (e false rfl) (by rw [e false rfl]; simp [want, rv, hb]) (h.2 rfl) fun _ _ _ h => LK_s h
      · rename_i hb
        exact LK_skip rfl (by simp [want, rv, hb]) (LK_s h)
      · exact h.elim
    · rename_i k w
      split at h
      · rename_i b hb
        cases w with
        | true =>
          simp only [gK] at h
          cases b with
          | true => exact LK_go rfl (by simp [want, rv, hb]) (h.1 rfl) fun _ _ _ h => LK_s h
          | false => exact LK_skip rfl (by simp [want, rv, hb]) (LK_s (h.2 rfl))
        | false =>
          simp only [gK] at h
          cases b with
          | true => exact LK_skip rfl (by simp [want, rv, hb]) (LK_s (h.1 rfl))
          | false => exact LK_go rfl (by simp [want, rv, hb]) (h.2 rfl) fun _ _ _ h => LK_s h
      · rename_i hb
        exact LK_skip rfl (by simp [want, rv, hb]) (LK_s h)
      · exact h.elim
    · exact h.elim

/-- The variables behind a region. -/
@[reducible] def flOf (env : List AV) : Option (Nat × Nat) → Option (Nat × AV)
  | some (t, d) => some (t, nth env d)
  | none => none
/-- Code: what is to be shown. Loops, and what freezes, stay as they are. -/
def WK (L : CE) : IC → List AV → Option (Nat × AV) → List Blk → (Ex → St → Prop) → Prop
  | .skip, vars, fl, σ, Q => Q .nor ⟨vars, fl, σ⟩
  | .reg r, vars, _, σ, Q => LK L vars r.ls [] σ σ fun env σ => Q .nor ⟨kills r.kills (outs env r.outs vars), flOf env r.fl, σ⟩
  | .seq a b, vars, fl, σ, Q => WK L a vars fl σ fun e s => match e with
    | .nor => WK L b s.vars s.fl s.σ Q
    | e => Q e s
  | .cond t a b, vars, fl, σ, Q => match fl with
    | some (t', .bool c) => t' = t ∧ gK c (WK L a vars none σ Q) (WK L b vars none σ Q)
    | _ => False
  | .condv k a b, vars, fl, σ, Q => match nth vars k with
    | .bool c => gK c (WK L a vars fl σ Q) (WK L b vars fl σ Q)
    | _ => False
  | .block id c, vars, fl, σ, Q => WK L c vars fl σ (Out id Q)
  | .exit id, vars, fl, σ, Q => Q (.exit id) ⟨vars, fl, σ⟩
  | .ret, vars, fl, σ, Q => Q .ret ⟨vars, fl, σ⟩
  | .bad, _, _, _, _ => False
  | .cut _ c, vars, fl, σ, Q => WK L c vars fl σ Q
  | .scp c, vars, fl, σ, Q => WK L c vars fl σ Q
  | c, vars, fl, σ, Q => W L c ⟨vars, fl, σ⟩ Q

/-- Behind an ending: what follows, or the ending itself. -/
def Thn (L : CE) (d : IC) (Q : Ex → St → Prop) : Ex → St → Prop := fun e s => match e with
  | .nor => WK L d s.vars s.fl s.σ Q
  | e => Q e s

theorem WK_s {L : CE} : ∀ {c : IC} {vars : List AV} {fl : Option (Nat × AV)} {σ : List Blk} {Q : Ex → St → Prop}, WK L c vars fl σ Q → W L c ⟨vars, fl, σ⟩ Q
  | .skip, vars, fl, σ, Q, h => W_skip h
  | .reg r, vars, fl, σ, Q, h => by
    unfold WK at h
    obtain ⟨q, h1, h2⟩ := LK_s h
    refine W_reg (s' := ⟨kills r.kills (outs q.env r.outs vars), flOf q.env r.fl, q.σ⟩) ?_ h2
    simp only [runReg, h1]
    rfl
  | .seq a b, vars, fl, σ, Q, h => W_seq ((WK_s (c := a) h).mono fun e s hq => by
    cases e with
    | nor => exact WK_s (c := b) hq
    | exit j => exact hq
    | ret => exact hq)
  | .cond t a b, vars, fl, σ, Q, h => by
    unfold WK at h
    split at h
    · obtain ⟨rfl, h1, h2⟩ := h
      exact W_cond (fun e => WK_s (h1 e)) (fun e => WK_s (h2 e))
    · exact h.elim
  | .condv k a b, vars, fl, σ, Q, h => by
    unfold WK at h
    split at h
    · rename_i c hc
      exact W_condv hc (fun e => WK_s (h.1 e)) (fun e => WK_s (h.2 e))
    · exact h.elim
  | .block id c, vars, fl, σ, Q, h => W_block (WK_s (c := c) h)
  | .exit id, vars, fl, σ, Q, h => W_exit h
  | .ret, vars, fl, σ, Q, h => W_ret h
  | .loop c, vars, fl, σ, Q, h => h
  | .frz k, vars, fl, σ, Q, h => h
  | .lex c, vars, fl, σ, Q, h => h
  | .bad, vars, fl, σ, Q, h => h.elim
  | .cut b c, vars, fl, σ, Q, h => by
    obtain ⟨n, e, s', h1, h2⟩ := WK_s (c := c) h
    exact ⟨n, e, s', by simpa only [exec] using h1, h2⟩
  | .scp c, vars, fl, σ, Q, h => by
    obtain ⟨n, e, s', h1, h2⟩ := WK_s (c := c) h
    exact ⟨n, e, s', by simpa only [exec] using h1, h2⟩

section
variable {L : CE} {vars : List AV} {fl : Option (Nat × AV)} {σ : List Blk} {Q : Ex → St → Prop}
theorem WK_skip : WK L .skip vars fl σ Q = Q .nor ⟨vars, fl, σ⟩ := (rfl)
theorem WK_reg {r : Reg} : WK L (.reg r) vars fl σ Q = LK L vars r.ls [] σ σ fun env σ => Q .nor ⟨kills r.kills (outs env r.outs vars), flOf env r.fl, σ⟩ := (rfl)
theorem WK_seq {a b : IC} : WK L (.seq a b) vars fl σ Q = WK L a vars fl σ (Thn L b Q) := (rfl)
theorem WK_cond {t : Nat} {a b : IC} {c : Bool} : WK L (.cond t a b) vars (some (t, .bool c)) σ Q = gK c (WK L a vars none σ Q) (WK L b vars none σ Q) := by
  apply propext
  exact ⟨fun h => h.2, fun h => ⟨rfl, h⟩⟩
theorem WK_condv {k : Nat} {a b : IC} : WK L (.condv k a b) vars fl σ Q = match nth vars k with
    | .bool c => gK c (WK L a vars fl σ Q) (WK L b vars fl σ Q)
    | _ => False := by conv => lhs; unfold WK
theorem WK_block {id : Nat} {c : IC} : WK L (.block id c) vars fl σ Q = WK L c vars fl σ (Out id Q) := (rfl)
theorem WK_exit {id : Nat} : WK L (.exit id) vars fl σ Q = Q (.exit id) ⟨vars, fl, σ⟩ := (rfl)
theorem WK_ret : WK L .ret vars fl σ Q = Q .ret ⟨vars, fl, σ⟩ := (rfl)
theorem WK_loop {c : IC} : WK L (.loop c) vars fl σ Q = W L (.loop c) ⟨vars, fl, σ⟩ Q := (rfl)
theorem WK_frz {k : Nat} : WK L (.frz k) vars fl σ Q = W L (.frz k) ⟨vars, fl, σ⟩ Q := (rfl)
theorem WK_lex {c : IC} : WK L (.lex c) vars fl σ Q = W L (.lex c) ⟨vars, fl, σ⟩ Q := (rfl)
theorem WK_bad : WK L .bad vars fl σ Q = False := (rfl)
theorem WK_cut {b : Bool} {c : IC} : WK L (.cut b c) vars fl σ Q = WK L c vars fl σ Q := (rfl)
theorem WK_scp {c : IC} : WK L (.scp c) vars fl σ Q = WK L c vars fl σ Q := (rfl)
theorem Thn_nor {d : IC} : Thn L d Q .nor ⟨vars, fl, σ⟩ = WK L d vars fl σ Q := (rfl)
theorem Thn_ret {d : IC} {s : St} : Thn L d Q .ret s = Q .ret s := (rfl)
theorem Thn_exit {d : IC} {s : St} {j : Nat} : Thn L d Q (.exit j) s = Q (.exit j) s := (rfl)
theorem Out_nor {id : Nat} {s : St} : Out id Q .nor s = Q .nor s := (rfl)
theorem Out_ret {id : Nat} {s : St} : Out id Q .ret s = Q .ret s := (rfl)
theorem Out_exit {id j : Nat} {s : St} : Out id Q (.exit j) s = if j = id then Q .nor s else Q (.exit j) s := (rfl)
theorem Again_nor {I : St → Prop} {μ : St → Nat} {m : Nat} {s : St} : Again I μ m Q .nor s = (I s ∧ μ s < m) := (rfl)
theorem Again_ret {I : St → Prop} {μ : St → Nat} {m : Nat} {s : St} : Again I μ m Q .ret s = Q .ret s := (rfl)
theorem Again_exit {I : St → Prop} {μ : St → Nat} {m j : Nat} {s : St} : Again I μ m Q (.exit j) s = Q (.exit j) s := (rfl)
end
/-- What a function's end must be. -/
def EndsK (fn : Fn) (K : AV → List Blk → Prop) : Ex → St → Prop
  | .exit _, _ => False
  | _, s => optK (results fn s) fun v => K v s.σ
/-- A function: what is to be shown. -/
theorem lim_LX {G : Nat → Option Fn} {P : Prims} (hQ : PrimsMono P) {f : Nat} (fn : Fn) {args : List AV} {σ : List Blk} {K : AV → List Blk → Prop} (hq : P f = none) (hg : G f = some fn) (hl : args.length = fn.np)
    (h : WK (lim G P) fn.body (args ++ List.replicate (fn.nv - fn.np) .und) none σ (EndsK fn K)) : LX (lim G P) f args σ K := by
  obtain ⟨n, e, s, h1, h2⟩ := WK_s h
  cases e with
  | exit j => exact h2.elim
  | nor => obtain ⟨v, h3, h4⟩ := optK_s h2; exact LX_of (lim_fn hQ hq hg hl h1 (fun j => by simp) h3) h4
  | ret => obtain ⟨v, h3, h4⟩ := optK_s h2; exact LX_of (lim_fn hQ hq hg hl h1 (fun j => by simp) h3) h4
attribute [simp ↓] binK fitK okIf partK pclK
attribute [irreducible] WK
end Ab
