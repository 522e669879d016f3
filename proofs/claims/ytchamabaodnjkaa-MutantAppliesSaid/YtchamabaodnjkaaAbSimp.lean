/- Rules for simp: how the conditions of a run read. More rules for simp: cells of blocks as lists of numbers. Condition: none. -/
import Derived.Test.YtchamabaodnjkaaAbEqs
set_option linter.all false
namespace Ab

/-- The element at n. -/
def ix {α : Type} [Inhabited α] (l : List α) (n : Int) : α := l.getD n.toNat default
abbrev iL (l : List Int) : AV := .imm false (l.map .int)
abbrev bL (l : List Bool) : AV := .imm false (l.map .bool)
abbrev iLL (l : List (List Int)) : AV := .imm false (l.map iL)
abbrev bLL (l : List (List Bool)) : AV := .imm false (l.map bL)
abbrev iLLL (l : List (List (List Int))) : AV := .imm false (l.map iLL)

theorem elm_eq : ∀ (l : List AV) (i : Nat), elm l i = l[i]?
  | [], i => by simp [elm]
  | x :: r, 0 => rfl
  | x :: r, i + 1 => by simp [elm, elm_eq r i]
section
variable {α : Type} [Inhabited α]
theorem ix_mem {l : List α} {n : Int} (h0 : 0 ≤ n) (h1 : n < l.length) : ix l n ∈ l := by
  unfold ix
  rw [List.getD_eq_getElem?_getD, List.getElem?_eq_getElem (by omega)]
  simp
theorem ix_eq {l : List α} {n : Int} (h0 : 0 ≤ n) (h1 : n < l.length) : l[n.toNat]? = some (ix l n) := by
  unfold ix
  rw [List.getD_eq_getElem?_getD, List.getElem?_eq_getElem (by omega)]
  simp
theorem ix_nat {l : List α} {n : Nat} (h1 : n < l.length) : ix l (n : Int) = l[n] := by
  unfold ix
  rw [List.getD_eq_getElem?_getD, Int.toNat_natCast, List.getElem?_eq_getElem (by omega)]
  simp
theorem idxK_map {f : α → AV} {xs : List α} {n : Int} {K : AV → Prop} : idxK (xs.map f) n K = ((0 ≤ n ∧ n < xs.length) ∧ K (f (ix xs n))) := by
  apply propext
  unfold idxK
  constructor
  · rintro ⟨h0, y, h1, h2⟩
    rw [elm_eq, List.getElem?_map] at h1
    by_cases hn : n < xs.length
    · rw [ix_eq h0 hn] at h1
      simp at h1; subst h1
      exact ⟨⟨h0, hn⟩, h2⟩
    · rw [List.getElem?_eq_none (by omega)] at h1; simp at h1
  · rintro ⟨⟨h0, h1⟩, h2⟩
    exact ⟨h0, _, by rw [elm_eq, List.getElem?_map, ix_eq h0 h1]; rfl, h2⟩
end

theorem EndsK_ret {fn : Fn} {K : AV → List Blk → Prop} {s : St} : EndsK fn K .ret s = oK (results fn s) (fun v => K v s.σ) .k := (rfl)
theorem EndsK_nor {fn : Fn} {K : AV → List Blk → Prop} {s : St} : EndsK fn K .nor s = oK (results fn s) (fun v => K v s.σ) .k := (rfl)
theorem xK_map {α : Type} [Inhabited α] {f : α → AV} {xs : List α} {n : Int} {K : AV → Prop} {t : Tk K} : xK (xs.map f) n K t = ((0 ≤ n ∧ n < xs.length) ∧ K (f (ix xs n))) := idxK_map
theorem drop_ix {α : Type} [Inhabited α] {l : List α} {i : Int} (h0 : 0 ≤ i) (h1 : i < l.length) : l.drop i.toNat = ix l i :: l.drop (i + 1).toNat := by
  have e : (i + 1).toNat = i.toNat + 1 := by omega
  rw [e, List.drop_eq_getElem_cons (by omega), ix, List.getD_eq_getElem?_getD, List.getElem?_eq_getElem (by omega)]
  simp
theorem drop_end {α : Type} {l : List α} {i : Int} (h1 : l.length ≤ i) : l.drop i.toNat = [] := List.drop_of_length_le (by omega)

/-! ### Loops -/
/-- Some variables are set. -/
def sets : List (Nat × AV) → List AV → List AV
  | [], vs => vs
  | (k, x) :: r, vs => sets r (setN vs k x)
/-- Behind a round. -/
def More {α : Type} (f : α → List (Nat × AV)) (g : α → List Blk) (I : α → Prop) (μ : α → Nat) (m : Nat) (vs : List AV) (Q : Ex → St → Prop) : Ex → St → Prop := fun e s => match e with
  | .nor => ∃ a, s = ⟨sets (f a) vs, none, g a⟩ ∧ I a ∧ μ a < m
  | e => Q e s
section
variable {L : CE} {α : Type} {f : α → List (Nat × AV)} {g : α → List Blk} {I : α → Prop} {μ : α → Nat} {m : Nat} {vs : List AV} {Q : Ex → St → Prop}
theorem More_nor {s : St} : More f g I μ m vs Q .nor s = ∃ a, s = ⟨sets (f a) vs, none, g a⟩ ∧ I a ∧ μ a < m := (rfl)
theorem More_ret {s : St} : More f g I μ m vs Q .ret s = Q .ret s := (rfl)
theorem More_exit {s : St} {j : Nat} : More f g I μ m vs Q (.exit j) s = Q (.exit j) s := (rfl)
/-- A loop: the variables and blocks that change, as a function of what goes on; what holds of it; what gets less. -/
theorem W_iter {c : IC} {fl : Option (Nat × AV)} {σ : List Blk} (f : α → List (Nat × AV)) (g : α → List Blk) (I : α → Prop) (μ : α → Nat) (a0 : α) (h0 : (⟨vs, fl, σ⟩ : St) = ⟨sets (f a0) vs, none, g a0⟩) (hI : I a0)
    (hs : ∀ a, I a → WK L c (sets (f a) vs) none (g a) (More f g I μ (μ a) vs Q)) : W L (.loop c) ⟨vs, fl, σ⟩ Q := by
  have go : ∀ (k : Nat) (a : α), μ a < k → I a → W L (.loop c) ⟨sets (f a) vs, none, g a⟩ Q := by
    intro k
    induction k with
    | zero => intro a h; omega
    | succ k ih =>
      intro a hk hI
      obtain ⟨n, e, s', h1, h2⟩ := WK_s (hs a hI)
      cases e with
      | nor =>
        obtain ⟨a', rfl, h3, h4⟩ := h2
        obtain ⟨n', e', s'', h5, h6⟩ := ih a' (by omega) h3
        refine ⟨max n n' + 1, e', s'', ?_, h6⟩
        simp only [exec] at h5 ⊢
        simp only [iter]
        rw [exec_mono (ce_refl L) (show n ≤ max n n' + 1 by omega) _ _ _ h1]
        exact iter_mono (fun s x h => exec_mono (ce_refl L) (show n' ≤ max n n' + 1 by omega) _ _ _ h) (show n' ≤ max n n' by omega) h5
      | exit j => exact ⟨n + 1, .exit j, s', by simp only [exec, iter]; rw [exec_mono (ce_refl L) (Nat.le_succ n) _ _ _ h1], h2⟩
      | ret => exact ⟨n + 1, .ret, s', by simp only [exec, iter]; rw [exec_mono (ce_refl L) (Nat.le_succ n) _ _ _ h1], h2⟩
  rw [h0]
  exact go _ a0 (Nat.lt_succ_self _) hI
end
section
variable {σ : List Blk} {fr : Bool} {k : Nat}
theorem view_int {n : Int} : view σ fr (k + 1) (.int n) = some (.int n) := (rfl)
theorem view_bool {n : Bool} : view σ fr (k + 1) (.bool n) = some (.bool n) := (rfl)
theorem view_str {n : List UInt8} : view σ fr (k + 1) (.str n) = some (.str n) := (rfl)
theorem view_snil : view σ fr (k + 1) .snil = some (.imm false []) := (rfl)
theorem view_inil : view σ fr (k + 1) .inil = some .inil := (rfl)
theorem view_imm {b : Bool} {l : List AV} : view σ false (k + 1) (.imm b l) = some (.imm false l) := (rfl)
theorem view_agg {l : List AV} : view σ fr (k + 1) (.agg l) = match mapO (view σ fr k) l with
  | none => none
  | some l => some (.agg l) := (rfl)
theorem vd_int {n : Int} : view σ fr vd (.int n) = some (.int n) := (rfl)
theorem vd_bool {n : Bool} : view σ fr vd (.bool n) = some (.bool n) := (rfl)
theorem vd_str {n : List UInt8} : view σ fr vd (.str n) = some (.str n) := (rfl)
theorem vd_snil : view σ fr vd .snil = some (.imm false []) := (rfl)
theorem vd_inil : view σ fr vd .inil = some .inil := (rfl)
theorem vd_imm {b : Bool} {l : List AV} : view σ false vd (.imm b l) = some (.imm false l) := (rfl)
theorem vd_agg {l : List AV} : view σ fr vd (.agg l) = match mapO (view σ fr 11) l with
  | none => none
  | some l => some (.agg l) := (rfl)
end
section
variable {σ : List Blk} {fr : Bool}
theorem viewT_int {n : Int} : viewT σ fr (.int n) = some (.int n) := (rfl)
theorem viewT_bool {n : Bool} : viewT σ fr (.bool n) = some (.bool n) := (rfl)
theorem viewT_str {n : List UInt8} : viewT σ fr (.str n) = some (.str n) := (rfl)
theorem viewT_snil : viewT σ fr .snil = some (.imm false []) := (rfl)
theorem viewT_inil : viewT σ fr .inil = some .inil := (rfl)
theorem viewT_imm {b : Bool} {l : List AV} : viewT σ false (.imm b l) = some (.imm false l) := (rfl)
theorem viewT_sl {b u off len : Nat} : viewT σ fr (.sl b u off len) = view σ fr vd (.sl b u off len) := (rfl)
theorem viewT_ptr {b u off : Nat} : viewT σ fr (.ptr b u off) = view σ fr vd (.ptr b u off) := (rfl)
theorem viewT_agg {l : List AV} : viewT σ fr (.agg l) = view σ fr vd (.agg l) := (rfl)
theorem viewT_iface {t : Nat} {l : AV} : viewT σ fr (.iface t l) = view σ fr vd (.iface t l) := (rfl)
theorem viewT_tup {l : List AV} : viewT σ fr (.tup l) = match mapO (view σ fr vd) l with
    | none => none
    | some l => some (.tup l) := (rfl)
end
attribute [simp] viewT_int viewT_bool viewT_str viewT_snil viewT_inil viewT_imm viewT_sl viewT_ptr viewT_agg viewT_iface viewT_tup
attribute [simp] view_int view_bool view_str view_snil view_inil view_imm view_agg vd_int vd_bool vd_str vd_snil vd_inil vd_imm vd_agg sets
attribute [simp ↓] More_nor More_ret More_exit WK_bad WK_cut WK_scp WK_skip WK_seq WK_block WK_exit WK_ret WK_loop WK_frz WK_lex Thn_nor Thn_ret Thn_exit Out_nor Out_ret Out_exit Again_nor Again_ret Again_exit EndsK_ret EndsK_nor xK_map
theorem cells_int' (n : Int) : AV.cells (.int n) = [(.int n)] := (rfl)
theorem notUnd_int (n : Int) : notUnd (.int n) = true := (rfl)
theorem wk_int (n : Int) : wk (.int n) = (.int n) := (rfl)
theorem wk1_int (n : Int) : wk1 (.int n) = (.int n) := (rfl)
theorem cells_ik' (k : Nat) (n : Int) : AV.cells (.ik k n) = [(.ik k n)] := (rfl)
theorem notUnd_ik (k : Nat) (n : Int) : notUnd (.ik k n) = true := (rfl)
theorem wk_ik (k : Nat) (n : Int) : wk (.ik k n) = (.ik k n) := (rfl)
theorem wk1_ik (k : Nat) (n : Int) : wk1 (.ik k n) = (.ik k n) := (rfl)
theorem cells_bool' (b : Bool) : AV.cells (.bool b) = [(.bool b)] := (rfl)
theorem notUnd_bool (b : Bool) : notUnd (.bool b) = true := (rfl)
theorem wk_bool (b : Bool) : wk (.bool b) = (.bool b) := (rfl)
theorem wk1_bool (b : Bool) : wk1 (.bool b) = (.bool b) := (rfl)
theorem cells_str' (l : List UInt8) : AV.cells (.str l) = [(.str l)] := (rfl)
theorem notUnd_str (l : List UInt8) : notUnd (.str l) = true := (rfl)
theorem wk_str (l : List UInt8) : wk (.str l) = (.str l) := (rfl)
theorem wk1_str (l : List UInt8) : wk1 (.str l) = (.str l) := (rfl)
theorem cells_snil'  : AV.cells .snil = [.snil] := (rfl)
theorem notUnd_snil  : notUnd .snil = true := (rfl)
theorem wk_snil  : wk .snil = (.imm false []) := (rfl)
theorem wk1_snil  : wk1 .snil = (.imm false []) := (rfl)
theorem cells_imm' (b : Bool) (l : List AV) : AV.cells (.imm b l) = [(.imm b l)] := (rfl)
theorem notUnd_imm (b : Bool) (l : List AV) : notUnd (.imm b l) = true := (rfl)
theorem wk_imm (b : Bool) (l : List AV) : wk (.imm b l) = (.imm false l) := (rfl)
theorem wk1_imm (b : Bool) (l : List AV) : wk1 (.imm b l) = (.imm false l) := (rfl)
theorem cells_arr' (l : List AV) : AV.cells (.arr l) = [(.arr l)] := (rfl)
theorem notUnd_arr (l : List AV) : notUnd (.arr l) = true := (rfl)
theorem wk_arr (l : List AV) : wk (.arr l) = (.arr l) := (rfl)
theorem wk1_arr (l : List AV) : wk1 (.arr l) = (.arr l) := (rfl)
theorem cells_sl' (b u o n : Nat) : AV.cells (.sl b u o n) = [(.sl b u o n)] := (rfl)
theorem notUnd_sl (b u o n : Nat) : notUnd (.sl b u o n) = true := (rfl)
theorem wk_sl (b u o n : Nat) : wk (.sl b u o n) = (.sl b u o n) := (rfl)
theorem wk1_sl (b u o n : Nat) : wk1 (.sl b u o n) = (.sl b u o n) := (rfl)
theorem cells_pnil'  : AV.cells .pnil = [.pnil] := (rfl)
theorem notUnd_pnil  : notUnd .pnil = true := (rfl)
theorem wk_pnil  : wk .pnil = .pnil := (rfl)
theorem wk1_pnil  : wk1 .pnil = .pnil := (rfl)
theorem cells_pimm' (v : AV) : AV.cells (.pimm v) = [(.pimm v)] := (rfl)
theorem notUnd_pimm (v : AV) : notUnd (.pimm v) = true := (rfl)
theorem wk_pimm (v : AV) : wk (.pimm v) = (.pimm v) := (rfl)
theorem wk1_pimm (v : AV) : wk1 (.pimm v) = (.pimm v) := (rfl)
theorem cells_ptr' (b u o : Nat) : AV.cells (.ptr b u o) = [(.ptr b u o)] := (rfl)
theorem notUnd_ptr (b u o : Nat) : notUnd (.ptr b u o) = true := (rfl)
theorem wk_ptr (b u o : Nat) : wk (.ptr b u o) = (.ptr b u o) := (rfl)
theorem wk1_ptr (b u o : Nat) : wk1 (.ptr b u o) = (.ptr b u o) := (rfl)
theorem cells_fnil'  : AV.cells .fnil = [.fnil] := (rfl)
theorem notUnd_fnil  : notUnd .fnil = true := (rfl)
theorem wk_fnil  : wk .fnil = .fnil := (rfl)
theorem wk1_fnil  : wk1 .fnil = .fnil := (rfl)
theorem cells_func' (f : Nat) (l : List AV) : AV.cells (.func f l) = [(.func f l)] := (rfl)
theorem notUnd_func (f : Nat) (l : List AV) : notUnd (.func f l) = true := (rfl)
theorem wk_func (f : Nat) (l : List AV) : wk (.func f l) = (.func f l) := (rfl)
theorem wk1_func (f : Nat) (l : List AV) : wk1 (.func f l) = (.func f l) := (rfl)
theorem cells_inil'  : AV.cells .inil = [.inil] := (rfl)
theorem notUnd_inil  : notUnd .inil = true := (rfl)
theorem wk_inil  : wk .inil = .inil := (rfl)
theorem wk1_inil  : wk1 .inil = .inil := (rfl)
theorem cells_iface' (t : Nat) (v : AV) : AV.cells (.iface t v) = [(.iface t v)] := (rfl)
theorem notUnd_iface (t : Nat) (v : AV) : notUnd (.iface t v) = true := (rfl)
theorem wk_iface (t : Nat) (v : AV) : wk (.iface t v) = (.iface t v) := (rfl)
theorem wk1_iface (t : Nat) (v : AV) : wk1 (.iface t v) = (.iface t v) := (rfl)
theorem cells_agg' (l : List AV) : AV.cells (.agg l) = l := (rfl)
theorem wk_agg (l : List AV) : wk (.agg l) = .agg (l.map wk1) := (rfl)
theorem wk1_agg (l : List AV) : wk1 (.agg l) = .agg l := (rfl)
def notAgg : AV → Bool
  | .und | .tup _ | .agg _ => false
  | _ => true
theorem notUnd_agg (l : List AV) : notUnd (.agg l) = l.all notAgg := by
  rfl
theorem notAgg_int (n : Int) : notAgg (.int n) = true := (rfl)
theorem notAgg_ik (k : Nat) (n : Int) : notAgg (.ik k n) = true := (rfl)
theorem notAgg_bool (b : Bool) : notAgg (.bool b) = true := (rfl)
theorem notAgg_str (l : List UInt8) : notAgg (.str l) = true := (rfl)
theorem notAgg_snil  : notAgg .snil = true := (rfl)
theorem notAgg_imm (b : Bool) (l : List AV) : notAgg (.imm b l) = true := (rfl)
theorem notAgg_arr (l : List AV) : notAgg (.arr l) = true := (rfl)
theorem notAgg_sl (b u o n : Nat) : notAgg (.sl b u o n) = true := (rfl)
theorem notAgg_pnil  : notAgg .pnil = true := (rfl)
theorem notAgg_pimm (v : AV) : notAgg (.pimm v) = true := (rfl)
theorem notAgg_ptr (b u o : Nat) : notAgg (.ptr b u o) = true := (rfl)
theorem notAgg_fnil  : notAgg .fnil = true := (rfl)
theorem notAgg_func (f : Nat) (l : List AV) : notAgg (.func f l) = true := (rfl)
theorem notAgg_inil  : notAgg .inil = true := (rfl)
theorem notAgg_iface (t : Nat) (v : AV) : notAgg (.iface t v) = true := (rfl)
attribute [simp] cells_int' notUnd_int wk_int wk1_int cells_ik' notUnd_ik wk_ik wk1_ik cells_bool' notUnd_bool wk_bool wk1_bool cells_str' notUnd_str wk_str wk1_str cells_snil' notUnd_snil wk_snil wk1_snil cells_imm' notUnd_imm wk_imm wk1_imm cells_arr' notUnd_arr wk_arr wk1_arr cells_sl' notUnd_sl wk_sl wk1_sl cells_pnil' notUnd_pnil wk_pnil wk1_pnil cells_pimm' notUnd_pimm wk_pimm wk1_pimm cells_ptr' notUnd_ptr wk_ptr wk1_ptr cells_fnil' notUnd_fnil wk_fnil wk1_fnil cells_func' notUnd_func wk_func wk1_func cells_inil' notUnd_inil wk_inil wk1_inil cells_iface' notUnd_iface wk_iface wk1_iface cells_agg' wk_agg wk1_agg notUnd_agg notAgg_int notAgg_ik notAgg_bool notAgg_str notAgg_snil notAgg_imm notAgg_arr notAgg_sl notAgg_pnil notAgg_pimm notAgg_ptr notAgg_fnil notAgg_func notAgg_inil notAgg_iface
attribute [simp] results mapO resOf rv nth setN kills outs flOf part elm noLocs noLoc
theorem fitAll_nil {st : Nat} : fitAll st [] = true := (rfl)
theorem fitAll_cons {st : Nat} {x : AV} {l : List AV} : fitAll st (x :: l) = (x.cells.length == st && notUnd x && fitAll st l) := (rfl)
theorem fitAll_map {α : Type} {f : α → AV} {st : Nat} (h : ∀ x, (f x).cells.length = st ∧ notUnd (f x) = true) : ∀ {l : List α}, fitAll st (l.map f) = true
  | [] => rfl
  | x :: l => by simp only [List.map_cons, fitAll_cons, h x, fitAll_map h (l := l), beq_self_eq_true, Bool.and_self]
theorem fitAll_int {l : List Int} : fitAll 1 (l.map .int) = true := fitAll_map (f := AV.int) fun _ => ⟨rfl, rfl⟩
theorem fitAll_bool {l : List Bool} : fitAll 1 (l.map .bool) = true := fitAll_map (f := AV.bool) fun _ => ⟨rfl, rfl⟩
theorem fitAll_imm {α : Type} {b : Bool} {f : α → List AV} {l : List α} : fitAll 1 (l.map fun x => .imm b (f x)) = true := fitAll_map (f := fun x => AV.imm b (f x)) fun _ => ⟨rfl, rfl⟩
theorem cells_map {α : Type} {f : α → AV} (h : ∀ x, (f x).cells = [f x]) : ∀ {l : List α}, (l.map f).flatMap AV.cells = l.map f
  | [] => rfl
  | x :: l => by simp only [List.map_cons, List.flatMap_cons, h x, cells_map h (l := l)]; rfl
theorem cells_int {l : List Int} : (l.map AV.int).flatMap AV.cells = l.map .int := cells_map (f := AV.int) fun _ => rfl
theorem cells_bool {l : List Bool} : (l.map AV.bool).flatMap AV.cells = l.map .bool := cells_map (f := AV.bool) fun _ => rfl
theorem cells_imm {α : Type} {b : Bool} {f : α → List AV} {l : List α} : (l.map fun x => AV.imm b (f x)).flatMap AV.cells = l.map fun x => .imm b (f x) := cells_map (f := fun x => AV.imm b (f x)) fun _ => rfl
attribute [simp] fitAll_nil fitAll_cons fitAll_int fitAll_bool fitAll_imm cells_int cells_bool cells_imm
end Ab
namespace Ab
theorem isLive_live : BSt.isLive .live = true := (rfl)
theorem isLive_nul : BSt.isLive .nul = false := (rfl)
theorem kst_none : kst none = 1 := (rfl)
theorem kst_some {n : Nat} : kst (some n) = n := (rfl)
theorem eqK_none : eqK none none = true := (rfl)
theorem eqK_some {a b : Nat} : eqK (some a) (some b) = (a == b) := (rfl)
attribute [simp] isLive_live isLive_nul kst_none kst_some eqK_none eqK_some
/-- What is new is laid over the cells. -/
@[reducible] def overR : List AV → List AV → List AV
  | cs, [] => cs
  | [], _ => []
  | _ :: cs, y :: new => y :: overR cs new
@[reducible] def putR : List AV → Nat → List AV → List AV
  | cs, 0, new => overR cs new
  | [], _, _ => []
  | x :: cs, n + 1, new => x :: putR cs n new
theorem over_R : ∀ {cs new : List AV}, new.length ≤ cs.length → overR cs new = new ++ cs.drop new.length
  | cs, [], _ => by cases cs <;> simp [overR]
  | [], y :: new, h => by simp at h
  | c :: cs, y :: new, h => by simp [overR, over_R (cs := cs) (new := new) (by simpa using h)]
theorem put_R : ∀ {cs : List AV} {o : Nat} {new : List AV}, o + new.length ≤ cs.length → putAt cs o new = putR cs o new
  | cs, 0, new, h => by
    have e : putR cs 0 new = overR cs new := by cases cs <;> rfl
    rw [e, over_R (by simpa using h)]; simp [putAt]
  | [], o + 1, new, h => by simp at h
  | c :: cs, o + 1, new, h => by
    have e := put_R (cs := cs) (o := o) (new := new) (by simp at h; omega)
    simp only [putR]
    rw [← e]
    simp only [putAt, List.take_succ_cons, List.cons_append]
    congr 2
    rw [show o + 1 + new.length = (o + new.length) + 1 by omega, List.drop_succ_cons]
section
variable {K : List AV → Prop} {t : Tk K}
theorem pU_lit {cs : List AV} {o : Nat} {new : List AV} : pU cs o new K t = (o + new.length ≤ cs.length ∧ nL (putR cs o new) K .k) := by
  unfold pU putK nL
  by_cases h : o + new.length ≤ cs.length
  · simp only [h, true_and]; rw [put_R h]
  · simp [h]
theorem putAt_map {α : Type} {f : α → AV} {xs : List α} {o : Nat} {y : α} (h : o < xs.length) : putAt (xs.map f) o [f y] = (xs.set o y).map f := by
  unfold putAt
  rw [List.set_eq_take_append_cons_drop, if_pos h]
  simp [List.map_take, List.map_drop]
theorem pU_map {α : Type} {f : α → AV} {xs : List α} {o : Nat} {y : α} : pU (xs.map f) o [f y] K t = (o < xs.length ∧ K ((xs.set o y).map f)) := by
  unfold pU putK
  by_cases h : o < xs.length
  · simp only [List.length_map, List.length_singleton, putAt_map h]
    simp [h]; omega
  · simp [h]
    intro h'; omega
theorem pU_int {xs : List Int} {o : Nat} {y : Int} : pU (xs.map .int) o [AV.int y] K t = (o < xs.length ∧ K ((xs.set o y).map .int)) := pU_map
theorem pU_bool {xs : List Bool} {o : Nat} {y : Bool} : pU (xs.map .bool) o [AV.bool y] K t = (o < xs.length ∧ K ((xs.set o y).map .bool)) := pU_map
theorem pU_iL {xs : List (List Int)} {o : Nat} {y : List Int} : pU (xs.map iL) o [AV.imm false (y.map .int)] K t = (o < xs.length ∧ K ((xs.set o y).map iL)) := pU_map
theorem pU_bL {xs : List (List Bool)} {o : Nat} {y : List Bool} : pU (xs.map bL) o [AV.imm false (y.map .bool)] K t = (o < xs.length ∧ K ((xs.set o y).map bL)) := pU_map
theorem pU_intx {xs : List Int} {n : Int} {y : Int} : pU (xs.map .int) (0 + n.toNat * 1) [AV.int y] K t = (n.toNat < xs.length ∧ K ((xs.set n.toNat y).map .int)) := by
  rw [show 0 + n.toNat * 1 = n.toNat by omega]; exact pU_map
theorem pU_boolx {xs : List Bool} {n : Int} {y : Bool} : pU (xs.map .bool) (0 + n.toNat * 1) [AV.bool y] K t = (n.toNat < xs.length ∧ K ((xs.set n.toNat y).map .bool)) := by
  rw [show 0 + n.toNat * 1 = n.toNat by omega]; exact pU_map
theorem nC_int {xs : List Int} : nC (xs.map .int) K t = K (xs.map .int) := (rfl)
theorem nC_bool {xs : List Bool} : nC (xs.map .bool) K t = K (xs.map .bool) := (rfl)
theorem nC_iL {xs : List (List Int)} : nC (xs.map iL) K t = K (xs.map iL) := (rfl)
theorem nC_app {α : Type} {f : α → AV} {xs : List α} {y : α} : nC (xs.map f ++ [f y]) K t = K ((xs ++ [y]).map f) := by simp [nC]
theorem nC_int1 {xs : List Int} {y : Int} : nC (xs.map .int ++ [.int y]) K t = K ((xs ++ [y]).map .int) := nC_app
theorem nC_bool1 {xs : List Bool} {y : Bool} : nC (xs.map .bool ++ [.bool y]) K t = K ((xs ++ [y]).map .bool) := nC_app
theorem nC_iL1 {xs : List (List Int)} {y : List Int} : nC (xs.map iL ++ [.imm false (y.map .int)]) K t = K ((xs ++ [y]).map iL) := nC_app
theorem nC_bL1 {xs : List (List Bool)} {y : List Bool} : nC (xs.map bL ++ [.imm false (y.map .bool)]) K t = K ((xs ++ [y]).map bL) := nC_app
theorem nC_appm {α : Type} {f : α → AV} {xs ys : List α} : nC (xs.map f ++ ys.map f) K t = K ((xs ++ ys).map f) := by simp [nC]
theorem nC_nil1 {y : AV} : nC ([] ++ [y]) K t = K [y] := (rfl)
theorem nC_nilm {ys : List AV} : nC ([] ++ ys) K t = K ys := (rfl)
theorem nC_lit0 : nC [] K t = K [] := (rfl)
theorem nC_lit1 {x : AV} : nC [x] K t = K [x] := (rfl)
theorem nC_put {xs : List Int} {o : Nat} {y : Int} (h : o < xs.length) : nC (putAt (xs.map .int) o [.int y]) K t = K ((xs.set o y).map .int) := by
  unfold nC; rw [putAt_map h]
theorem nC_dup {n : Nat} {x : AV} : nC (dupN n [x]) K t = K (List.replicate n x) := by
  unfold nC dupN; congr 1; simp
theorem nC_dupb {n : Nat} {b : Bool} : nC (dupN n [.bool b]) K t = K ((List.replicate n b).map .bool) := by rw [nC_dup]; simp
theorem nC_dupi {n : Nat} {b : Int} : nC (dupN n [.int b]) K t = K ((List.replicate n b).map .int) := by rw [nC_dup]; simp
theorem nC_cells {α : Type} {f : α → AV} (h : ∀ x, (f x).cells = [f x]) {xs : List α} : nC ((xs.map f).flatMap AV.cells) K t = K (xs.map f) := by rw [cells_map h]; rfl
theorem nC_cellsi {xs : List Int} : nC ((xs.map AV.int).flatMap AV.cells) K t = K (xs.map .int) := nC_cells fun _ => rfl
theorem nC_cellsb {xs : List Bool} : nC ((xs.map AV.bool).flatMap AV.cells) K t = K (xs.map .bool) := nC_cells fun _ => rfl
theorem nC_cellsl {xs : List (List Int)} : nC ((xs.map iL).flatMap AV.cells) K t = K (xs.map iL) := nC_cells fun _ => rfl
end
section
variable {K : AV → Prop} {t : Tk K}
theorem pT_ix {α : Type} [Inhabited α] {f : α → AV} {xs : List α} {n : Int} : pT (xs.map f) (0 + n.toNat * 1) none K t = (n.toNat < xs.length ∧ K (f (ix xs n))) := by
  unfold pT part
  rw [show 0 + n.toNat * 1 = n.toNat by omega]
  simp only [elm_eq, List.getElem?_map, ix, List.getD_eq_getElem?_getD]
  by_cases h : n.toNat < xs.length
  · rw [List.getElem?_eq_getElem h]; simp [optK, h]
  · rw [List.getElem?_eq_none (by omega)]; simp [optK, h]
theorem pT_map {α : Type} [Inhabited α] {f : α → AV} {xs : List α} {n : Nat} : pT (xs.map f) n none K t = (n < xs.length ∧ K (f (ix xs n))) := by
  have := pT_ix (K := K) (t := t) (f := f) (xs := xs) (n := n)
  simpa using this
end
section
variable {K : AV → Prop} {t : Tk K}
theorem pT_bool {xs : List Bool} {n : Int} : pT (xs.map .bool) (0 + n.toNat * 1) none K t = (n.toNat < xs.length ∧ K (.bool (ix xs n))) := pT_ix
theorem pT_int {xs : List Int} {n : Int} : pT (xs.map .int) (0 + n.toNat * 1) none K t = (n.toNat < xs.length ∧ K (.int (ix xs n))) := pT_ix
end
/-- A call that sees the blocks. -/
theorem lX_oK {L : CE} {f : Nat} {l : List AV} {σ : List Blk} {K : AV → List Blk → Prop} {t : Tk K} : lX L f l σ K t = oK (L f l σ) (fun p => K p.1 p.2) .k := (rfl)
attribute [simp ↓ 20000] pU_int pU_bool pU_iL pU_bL pU_intx pU_boolx pT_ix nC_int nC_bool nC_iL nC_int1 nC_bool1 nC_iL1 nC_bL1 nC_appm nC_nil1 nC_nilm nC_lit0 nC_lit1 nC_put nC_dupb nC_dupi nC_cellsi nC_cellsb nC_cellsl
attribute [simp ↓] pU_lit nC_dup lX_oK
attribute [simp ↓ 10500] pT_map
theorem big_eq : big = 1073741824 := (rfl)
attribute [simp] big_eq
/-- A slice that grows: nothing is there yet, or something. -/
def stOf {α : Type} : List α → BSt
  | [] => .nul
  | _ :: _ => .live
theorem stOf_nil {α : Type} : stOf ([] : List α) = .nul := (rfl)
theorem stOf_cons {α : Type} {x : α} {l : List α} : stOf (x :: l) = .live := (rfl)
theorem stOf_ne {α : Type} {l : List α} : (stOf l = .dead) = False := by cases l <;> simp [stOf]
theorem stOf_app {α : Type} {x : α} {l : List α} : stOf (l ++ [x]) = .live := by cases l <;> rfl
theorem stOf_set {α : Type} {k : Nat} {x : α} {l : List α} : stOf (l.set k x) = stOf l := by cases l <;> cases k <;> rfl
theorem stOf_live {α : Type} {l : List α} : ((stOf l).isLive = true) = (l ≠ []) := by cases l <;> simp [stOf, BSt.isLive]
theorem stOf_map {α β : Type} {f : α → β} {l : List α} : stOf (l.map f) = stOf l := by cases l <;> rfl
attribute [simp] stOf_nil stOf_cons stOf_ne stOf_app stOf_set stOf_live stOf_map
theorem More_of {α : Type} {f : α → List (Nat × AV)} {g : α → List Blk} {I : α → Prop} {μ : α → Nat} {m : Nat} {vs vs' : List AV} {σ : List Blk} {Q : Ex → St → Prop} (a : α) (h : vs' = sets (f a) vs) (hg : σ = g a) (hI : I a) (hm : μ a < m) : More f g I μ m vs Q .nor ⟨vs', none, σ⟩ := ⟨a, by rw [h, hg], hI, hm⟩
theorem fillP_nil {cs : List AV} {K : List AV → Prop} {t : Tk K} : oK (fillP cs []) K t = K cs := (rfl)
theorem fillP_cons {cs : List AV} {o n : Nat} {x : AV} {r : List (Nat × Nat × AV)} {K : List AV → Prop} {t : Tk K} : oK (fillP cs ((o, n, x) :: r)) K t = nx x (fun x => (x.cells.length = n ∧ o + n ≤ cs.length ∧ notUnd x = true) ∧ nL (putR cs o x.cells) (fun cs => oK (fillP cs r) K .k) .k) .k := by
  unfold nx nL oK
  by_cases h : x.cells.length = n ∧ o + n ≤ cs.length ∧ notUnd x = true
  · have e := put_R (cs := cs) (o := o) (new := x.cells) (by rw [h.1]; exact h.2.1)
    simp only [h, and_self, true_and, fillP, ← e]
    simp [h]
  · have e : fillP cs ((o, n, x) :: r) = none := by
      unfold fillP
      rw [if_neg]
      simp only [Bool.and_eq_true, beq_iff_eq, decide_eq_true_eq, and_assoc]
      exact h
    rw [e]
    simp only [h, false_and, optK]
attribute [simp ↓] fillP_nil fillP_cons
end Ab
