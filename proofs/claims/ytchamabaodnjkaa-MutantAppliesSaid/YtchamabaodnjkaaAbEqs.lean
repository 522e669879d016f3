/- How each line of a region reads: one rule a kind of line. Condition: none. -/
import Derived.Test.YtchamabaodnjkaaAbVc
set_option linter.all false
namespace Ab
universe u
/-- A sign that simp leaves a thing alone. -/
inductive Tk {α : Sort u} (a : α) : Type
  | k
def nx (x : AV) (K : AV → Prop) (_ : Tk K) : Prop := K x
def nL (l : List AV) (K : List AV → Prop) (_ : Tk K) : Prop := K l
def nB (l : List Blk) (K : List Blk → Prop) (_ : Tk K) : Prop := K l
def nC (l : List AV) (K : List AV → Prop) (_ : Tk K) : Prop := K l
def oK {α : Type} (o : Option α) (K : α → Prop) (_ : Tk K) : Prop := optK o K
def gT (b : Bool) (A B : Prop) (_ : Tk A) (_ : Tk B) : Prop := gK b A B
def im (p A : Prop) (_ : Tk A) : Prop := p → A
def xK (l : List AV) (n : Int) (K : AV → Prop) (_ : Tk K) : Prop := idxK l n K
def lX (L : CE) (f : Nat) (args : List AV) (σ : List Blk) (K : AV → List Blk → Prop) (_ : Tk K) : Prop := LX L f args σ K
def pT (cs : List AV) (off : Nat) (k : Option Nat) (K : AV → Prop) (_ : Tk K) : Prop := optK (part cs off k) K
def pU (cs : List AV) (o : Nat) (new : List AV) (K : List AV → Prop) (_ : Tk K) : Prop := putK cs o new K
/-- The block that a reference means. -/
def bk (o : Option Blk) (u : Nat) (K : Option Nat → List AV → BSt → Prop) (_ : Tk K) : Prop :=
  match o with
  | some B => (B.cells.length = u ∧ B.st ≠ .dead) ∧ K B.k B.cells B.st
  | none => False
section
variable {K : AV → Prop} {t : Tk K}
theorem nx_int {n : Int} : nx (.int n) K t = K (.int n) := (rfl)
theorem nx_ik {k : Nat} {n : Int} : nx (.ik k n) K t = K (.ik k n) := (rfl)
theorem nx_bool {n : Bool} : nx (.bool n) K t = K (.bool n) := (rfl)
theorem nx_str {n : List UInt8} : nx (.str n) K t = K (.str n) := (rfl)
theorem nx_agg {l : List AV} : nx (.agg l) K t = K (.agg l) := (rfl)
theorem nx_tup {l : List AV} : nx (.tup l) K t = K (.tup l) := (rfl)
theorem nx_snil : nx .snil K t = K .snil := (rfl)
theorem nx_imm {q : Bool} {l : List AV} : nx (.imm q l) K t = K (.imm q l) := (rfl)
theorem nx_arr {l : List AV} : nx (.arr l) K t = K (.arr l) := (rfl)
theorem nx_sl {b u o n : Nat} : nx (.sl b u o n) K t = K (.sl b u o n) := (rfl)
theorem nx_pnil : nx .pnil K t = K .pnil := (rfl)
theorem nx_pimm {v : AV} : nx (.pimm v) K t = K (.pimm v) := (rfl)
theorem nx_ptr {b u o : Nat} : nx (.ptr b u o) K t = K (.ptr b u o) := (rfl)
theorem nx_fnil : nx .fnil K t = K .fnil := (rfl)
theorem nx_func {f : Nat} {l : List AV} : nx (.func f l) K t = K (.func f l) := (rfl)
theorem nx_inil : nx .inil K t = K .inil := (rfl)
theorem nx_iface {n : Nat} {v : AV} : nx (.iface n v) K t = K (.iface n v) := (rfl)
theorem nx_und : nx .und K t = K .und := (rfl)
theorem nx_any {x : AV} : nx x K t = K x := (rfl)
theorem oK_some {α : Type} {u : α} {K : α → Prop} {t : Tk K} : oK (some u) K t = K u := (rfl)
theorem oK_none {α : Type} {K : α → Prop} {t : Tk K} : oK none K t = False := (rfl)
theorem oK_of {α : Type} {o : Option α} {u : α} {K : α → Prop} {t : Tk K} (h : o = some u) (k : K u) : oK o K t := optK_of h k
theorem oK_s {α : Type} {o : Option α} {K : α → Prop} {t : Tk K} (h : oK o K t) : ∃ u, o = some u ∧ K u := optK_s h
end
theorem nL_nil {K : List AV → Prop} {t : Tk K} : nL [] K t = K [] := (rfl)
theorem nL_cons {x : AV} {l : List AV} {K : List AV → Prop} {t : Tk K} : nL (x :: l) K t = nx x (fun y => nL l (fun l => K (y :: l)) .k) .k := (rfl)
theorem nL_any {l : List AV} {K : List AV → Prop} {t : Tk K} : nL l K t = K l := (rfl)
theorem nB_nil {K : List Blk → Prop} {t : Tk K} : nB [] K t = K [] := (rfl)
theorem nB_cons {k : Option Nat} {cs : List AV} {st : BSt} {l : List Blk} {K : List Blk → Prop} {t : Tk K} : nB (⟨k, cs, st⟩ :: l) K t = nB l (fun l => K (⟨k, cs, st⟩ :: l)) .k := (rfl)
theorem nB_any {l : List Blk} {K : List Blk → Prop} {t : Tk K} : nB l K t = K l := (rfl)
theorem nC_any {l : List AV} {K : List AV → Prop} {t : Tk K} : nC l K t = K l := (rfl)
theorem gT_true {A B : Prop} {t : Tk A} {u : Tk B} : gT true A B t u = A := gK_true
theorem gT_false {A B : Prop} {t : Tk A} {u : Tk B} : gT false A B t u = B := gK_false
theorem gT_not {b : Bool} {A B : Prop} {t : Tk A} {u : Tk B} : gT (!b) A B t u = gT b B A u t := by cases b <;> simp [gT, gK]
theorem gT_any {b : Bool} {A B : Prop} {t : Tk A} {u : Tk B} : gT b A B t u = (im (b = true) A .k ∧ im (b = false) B .k) := (rfl)
theorem gT_dec {p : Prop} [Decidable p] {A B : Prop} {t : Tk A} {u : Tk B} : gT (decide p) A B t u = (im p A .k ∧ im (¬ p) B .k) := by
  by_cases h : p <;> simp [gT, gK, im, h]
theorem im_true {A : Prop} {t : Tk A} : im True A t = A := by simp [im]
theorem im_false {A : Prop} {t : Tk A} : im False A t = True := by simp [im]
theorem im_any {p A : Prop} {t : Tk A} : im p A t = (p → A) := (rfl)
theorem bk_live {k : Option Nat} {cs : List AV} {u : Nat} {K : Option Nat → List AV → BSt → Prop} {t : Tk K} : bk (some ⟨k, cs, .live⟩) u K t = (cs.length = u ∧ K k cs .live) := by simp [bk]
theorem bk_some {k : Option Nat} {cs : List AV} {st : BSt} {u : Nat} {K : Option Nat → List AV → BSt → Prop} {t : Tk K} : bk (some ⟨k, cs, st⟩) u K t = ((cs.length = u ∧ st ≠ .dead) ∧ K k cs st) := (rfl)
theorem upto_bk {σ : List Blk} {b u : Nat} {K : Blk → Prop} : optK (upto σ b u) K = bk (blk σ b) u (fun k cs st => K ⟨k, cs, st⟩) .k := by
  unfold upto bk
  cases blk σ b with
  | none => rfl
  | some B =>
    obtain ⟨k, cs, st⟩ := B
    by_cases h : cs.length = u <;> cases st <;> simp [h, optK]
@[reducible] def mapR {α β : Type} (f : α → β) : List α → List β
  | [] => []
  | x :: r => f x :: mapR f r
theorem map_R {α β : Type} (f : α → β) : ∀ l : List α, l.map f = mapR f l
  | [] => rfl
  | x :: r => by simp [mapR, map_R f r]
@[reducible] def appR {α : Type} : List α → List α → List α
  | [], m => m
  | x :: r, m => x :: appR r m
theorem app_R {α : Type} : ∀ l m : List α, l ++ m = appR l m
  | [], m => rfl
  | x :: r, m => by simp [appR, app_R r m]
@[reducible] def takeR : Nat → List AV → List AV
  | 0, _ => []
  | _, [] => []
  | n + 1, x :: r => x :: takeR n r
theorem take_R : ∀ (n : Nat) (l : List AV), l.take n = takeR n l
  | 0, l => by cases l <;> rfl
  | n + 1, [] => rfl
  | n + 1, x :: r => by simp [takeR, take_R n r]
@[reducible] def dropR : Nat → List AV → List AV
  | 0, l => l
  | _, [] => []
  | n + 1, _ :: r => dropR n r
theorem drop_R : ∀ (n : Nat) (l : List AV), l.drop n = dropR n l
  | 0, l => by cases l <;> rfl
  | n + 1, [] => rfl
  | n + 1, x :: r => by simp [dropR, drop_R n r]
theorem pT_none {cs : List AV} {off : Nat} {K : AV → Prop} {t : Tk K} : pT cs off none K t = oK (elm cs off) K .k := (rfl)
theorem pT_some {cs : List AV} {off n : Nat} {K : AV → Prop} {t : Tk K} : pT cs off (some n) K t = (off + n ≤ cs.length ∧ nL (takeR n (dropR off cs)) (fun l => K (.agg l)) .k) := by
  unfold pT part
  rw [← take_R, ← drop_R]
  by_cases h : off + n ≤ cs.length <;> simp [h, optK, nL]
section
variable {L : CE} {vars env : List AV} {σp σ : List Blk} {K : List AV → List Blk → List Blk → Prop}

def ii (x y : AV) (K : Int → Int → Prop) : Prop := match x, y with
  | .int a, .int b => K a b
  | _, _ => False
theorem ii_int {a b : Int} {K : Int → Int → Prop} : ii (.int a) (.int b) K = K a b := (rfl)
def bb (x y : AV) (K : Bool → Bool → Prop) : Prop := match x, y with
  | .bool a, .bool b => K a b
  | _, _ => False
theorem bb_bool {a b : Bool} {K : Bool → Bool → Prop} : bb (.bool a) (.bool b) K = K a b := (rfl)
def b1 (x : AV) (K : Bool → Prop) : Prop := match x with
  | .bool a => K a
  | _ => False
theorem b1_bool {a : Bool} {K : Bool → Prop} : b1 (.bool a) K = K a := (rfl)
def ln1 (x : AV) (K : Int → Prop) : Prop := match x with
  | .snil => K 0
  | .imm _ l => K l.length
  | .sl _ _ _ n => K n
  | _ => False
theorem ln1_snil {K : Int → Prop} : ln1 .snil K = K 0 := (rfl)
theorem ln1_imm {q : Bool} {l : List AV} {K : Int → Prop} : ln1 (.imm q l) K = K l.length := (rfl)
theorem ln1_sl {b u o n : Nat} {K : Int → Prop} : ln1 (.sl b u o n) K = K n := (rfl)
def fa1 (x : AV) (off : Nat) (k : Option Nat) (K : AV → Prop) : Prop := match x with
  | .ptr b u o => K (.ptr b u (o + off))
  | .pimm v => pT v.cells off k (fun y => K (.pimm y)) .k
  | _ => False
theorem fa1_ptr {b u o off : Nat} {k : Option Nat} {K : AV → Prop} : fa1 (.ptr b u o) off k K = K (.ptr b u (o + off)) := (rfl)
theorem fa1_pimm {v : AV} {off : Nat} {k : Option Nat} {K : AV → Prop} : fa1 (.pimm v) off k K = pT v.cells off k (fun y => K (.pimm y)) .k := (rfl)
def nc1 (x : AV) (K : AV → Prop) : Prop := match x with
  | .ptr b u o => K (.ptr b u o)
  | .pimm v => K (.pimm v)
  | _ => False
theorem nc1_ptr {b u o : Nat} {K : AV → Prop} : nc1 (.ptr b u o) K = K (.ptr b u o) := (rfl)
theorem nc1_pimm {v : AV} {K : AV → Prop} : nc1 (.pimm v) K = K (.pimm v) := (rfl)
def li1 (x : AV) (k : Option Nat) (K : AV → Prop) : Prop := match x with
  | .pimm v => match k, v with
    | none, .agg _ => False
    | none, v => K v
    | some n, .agg l => l.length = n ∧ K (.agg l)
    | some _, _ => False
  | _ => False
theorem li1_int {n : Int} {K : AV → Prop} : li1 (.pimm (.int n)) none K = K (.int n) := (rfl)
theorem li1_bool {n : Bool} {K : AV → Prop} : li1 (.pimm (.bool n)) none K = K (.bool n) := (rfl)
theorem li1_str {n : List UInt8} {K : AV → Prop} : li1 (.pimm (.str n)) none K = K (.str n) := (rfl)
theorem li1_imm {q : Bool} {l : List AV} {K : AV → Prop} : li1 (.pimm (.imm q l)) none K = K (.imm q l) := (rfl)
theorem li1_snil {K : AV → Prop} : li1 (.pimm .snil) none K = K .snil := (rfl)
theorem li1_pimm {v : AV} {K : AV → Prop} : li1 (.pimm (.pimm v)) none K = K (.pimm v) := (rfl)
theorem li1_func {f : Nat} {l : List AV} {K : AV → Prop} : li1 (.pimm (.func f l)) none K = K (.func f l) := (rfl)
theorem li1_iface {f : Nat} {l : AV} {K : AV → Prop} : li1 (.pimm (.iface f l)) none K = K (.iface f l) := (rfl)
theorem li1_agg {n : Nat} {l : List AV} {K : AV → Prop} : li1 (.pimm (.agg l)) (some n) K = (l.length = n ∧ K (.agg l)) := (rfl)
def fl1 (x : AV) (off : Nat) (k : Option Nat) (K : AV → Prop) : Prop := match x with
  | .agg l => pT l off k K .k
  | _ => False
theorem fl1_agg {l : List AV} {off : Nat} {k : Option Nat} {K : AV → Prop} : fl1 (.agg l) off k K = pT l off k K .k := (rfl)
def ex1 (x : AV) (i : Nat) (K : AV → Prop) : Prop := match x with
  | .tup l => oK (elm l i) K .k
  | _ => False
theorem ex1_tup {l : List AV} {i : Nat} {K : AV → Prop} : ex1 (.tup l) i K = oK (elm l i) K .k := (rfl)
def bn1 (σ : List Blk) (x : AV) (K : Bool → Prop) : Prop := match x with
  | .snil => K true
  | .imm true _ => K false
  | .imm false (_ :: _) => K false
  | .sl b u _ _ => optK (upto σ b u) fun B => match B.st with
    | .live => K false
    | _ => False
  | _ => False
theorem bn1_snil {K : Bool → Prop} : bn1 σ .snil K = K true := (rfl)
theorem bn1_imm {l : List AV} {K : Bool → Prop} : bn1 σ (.imm true l) K = K false := (rfl)
theorem bn1_cons {x : AV} {l : List AV} {K : Bool → Prop} : bn1 σ (.imm false (x :: l)) K = K false := (rfl)
theorem bn1_sl {b u o n : Nat} {K : Bool → Prop} : bn1 σ (.sl b u o n) K = bk (blk σ b) u (fun _ _ st => st = .live ∧ K false) .k := by
  show optK (upto σ b u) _ = _
  rw [show (fun B : Blk => match B.st with | .live => K false | _ => False) = fun B => B.st = .live ∧ K false from by funext B; cases B.st <;> simp, upto_bk]

def ia1 (x i : AV) (st : Nat) (K : AV → Prop) : Prop := match x, i with
  | .imm _ l, .int n => xK l n (fun y => y.cells.length = st ∧ K (.pimm y)) .k
  | .sl b u off len, .int n => okIf (0 ≤ n ∧ n < len) (K (.ptr b u (off + n.toNat * st)))
  | _, _ => False
theorem ia1_imm {q : Bool} {l : List AV} {n : Int} {st : Nat} {K : AV → Prop} : ia1 (.imm q l) (.int n) st K = xK l n (fun y => y.cells.length = st ∧ K (.pimm y)) .k := (rfl)
theorem ia1_sl {b u off len : Nat} {n : Int} {st : Nat} {K : AV → Prop} : ia1 (.sl b u off len) (.int n) st K = okIf (0 ≤ n ∧ n < len) (K (.ptr b u (off + n.toNat * st))) := (rfl)
def ir1 (x i : AV) (n : Nat) (k : Option Nat) (K : AV → Prop) : Prop := match x, i with
  | .ptr b u o, .int j => okIf (0 ≤ j ∧ j < n) (K (.ptr b u (o + j.toNat * kst k)))
  | .pimm v, .int j => okIf (0 ≤ j ∧ j < n) (pT v.cells (j.toNat * kst k) k (fun y => K (.pimm y)) .k)
  | _, _ => False
theorem ir1_ptr {b u o n : Nat} {j : Int} {k : Option Nat} {K : AV → Prop} : ir1 (.ptr b u o) (.int j) n k K = okIf (0 ≤ j ∧ j < n) (K (.ptr b u (o + j.toNat * kst k))) := (rfl)
theorem ir1_pimm {v : AV} {n : Nat} {j : Int} {k : Option Nat} {K : AV → Prop} : ir1 (.pimm v) (.int j) n k K = okIf (0 ≤ j ∧ j < n) (pT v.cells (j.toNat * kst k) k (fun y => K (.pimm y)) .k) := (rfl)
def fn1 (x : AV) (K : Nat → List AV → Prop) : Prop := match x with
  | .func f caps => K f caps
  | _ => False
theorem fn1_func {f : Nat} {caps : List AV} {K : Nat → List AV → Prop} : fn1 (.func f caps) K = K f caps := (rfl)
def if1 (x : AV) (tbl : List (Nat × Nat)) (K : Nat → AV → Prop) : Prop := match x with
  | .iface t v => match lookT tbl t with
    | some f => K f v
    | none => False
  | _ => False
theorem if1_iface {t : Nat} {v : AV} {tbl : List (Nat × Nat)} {K : Nat → AV → Prop} : if1 (.iface t v) tbl K = oK (lookT tbl t) (fun f => K f v) .k := by cases h : lookT tbl t <;> simp [if1, h, oK, optK]
def i1 (x : AV) (K : Int → Prop) : Prop := match x with
  | .int a => K a
  | _ => False
theorem i1_int {a : Int} {K : Int → Prop} : i1 (.int a) K = K a := (rfl)
def st1 (σ : List Blk) (p x : AV) (n : Nat) (K : List Blk → Prop) : Prop := match p with
  | .ptr b u o => optK (upto σ b u) fun B => (x.cells.length = n ∧ B.st.isLive = true ∧ notUnd x = true) ∧ putK B.cells o x.cells fun cs => K (setB σ b ⟨B.k, cs, B.st⟩)
  | _ => False
theorem st1_ptr {b u o n : Nat} {x : AV} {K : List Blk → Prop} : st1 σ (.ptr b u o) x n K = bk (blk σ b) u (fun k cs st => (x.cells.length = n ∧ st.isLive = true ∧ notUnd x = true) ∧ pU cs o x.cells (fun cs => nC cs (fun cs => nB (setB σ b ⟨k, cs, st⟩) K .k) .k) .k) .k := upto_bk

theorem lnK_mv {x : Rf} : lnK L vars (.mv x) false env σp σ K = K (rv vars env x :: env) σp σ := (rfl)
theorem lnK_bin {o : Bin} {x y : Rf} : lnK L vars (.bin o x y) false env σp σ K = ii (rv vars env x) (rv vars env y) fun a b => binK o a b fun v => K (v :: env) σp σ := (rfl)
theorem lnK_beq {n : Bool} {x y : Rf} : lnK L vars (.beq n x y) false env σp σ K = bb (rv vars env x) (rv vars env y) fun a b => K (.bool ((a == b) != n) :: env) σp σ := by
  show optK (ev L σ σ.length [] (rv vars env) (.beq n x y)) _ = _
  simp only [ev, bb]
  generalize rv vars env x = p; generalize rv vars env y = q
  cases p <;> cases q <;> rfl
theorem lnK_not {x : Rf} : lnK L vars (.not x) false env σp σ K = b1 (rv vars env x) fun a => K (.bool (!a) :: env) σp σ := by
  show optK (ev L σ σ.length [] (rv vars env) (.not x)) _ = _
  simp only [ev, b1]
  generalize rv vars env x = p
  cases p <;> rfl
theorem lnK_pick {c x y : Rf} : lnK L vars (.pick c x y) false env σp σ K = b1 (rv vars env c) fun a => K ((match a with | true => rv vars env x | false => rv vars env y) :: env) σp σ := by
  show optK (ev L σ σ.length [] (rv vars env) (.pick c x y)) _ = _
  simp only [ev, b1]
  cases h : rv vars env c with
  | bool b => cases b <;> rfl
  | _ => rfl
theorem lnK_len {x : Rf} : lnK L vars (.len x) false env σp σ K = ln1 (rv vars env x) fun a => K (.int a :: env) σp σ := by
  show optK (ev L σ σ.length [] (rv vars env) (.len x)) _ = _
  simp only [ev, ln1]
  generalize rv vars env x = p
  cases p <;> rfl
theorem lnK_max {x y : Rf} : lnK L vars (.mx true x y) false env σp σ K = ii (rv vars env x) (rv vars env y) fun a b => K (.int (max a b) :: env) σp σ := by
  show optK (ev L σ σ.length [] (rv vars env) (.mx true x y)) _ = _
  simp only [ev, ii]
  generalize rv vars env x = p; generalize rv vars env y = q
  cases p <;> cases q <;> try rfl
  rename_i a b
  show K (.int (if a < b then b else a) :: env) σp σ = K (.int (max a b) :: env) σp σ
  rw [show (if a < b then b else a) = max a b by rw [Int.max_def]; split <;> split <;> omega]
theorem lnK_min {x y : Rf} : lnK L vars (.mx false x y) false env σp σ K = ii (rv vars env x) (rv vars env y) fun a b => K (.int (min a b) :: env) σp σ := by
  show optK (ev L σ σ.length [] (rv vars env) (.mx false x y)) _ = _
  simp only [ev, ii]
  generalize rv vars env x = p; generalize rv vars env y = q
  cases p <;> cases q <;> try rfl
  rename_i a b
  show K (.int (if b < a then b else a) :: env) σp σ = K (.int (min a b) :: env) σp σ
  rw [show (if b < a then b else a) = min a b by rw [Int.min_def]; split <;> split <;> omega]
theorem lnK_fad {x : Rf} {off : Nat} {k : Option Nat} : lnK L vars (.fad x off k) false env σp σ K = fa1 (rv vars env x) off k fun a => K (a :: env) σp σ := by
  show optK (ev L σ σ.length [] (rv vars env) (.fad x off k)) _ = _
  simp only [ev, fa1]
  generalize rv vars env x = p
  cases p <;> try rfl
  rename_i v
  dsimp only [pT]
  cases part v.cells off k <;> rfl

theorem lnK_iad {x i : Rf} {st : Nat} : lnK L vars (.iad x i st) false env σp σ K = ia1 (rv vars env x) (rv vars env i) st fun v => K (v :: env) σp σ := (rfl)
theorem lnK_iada {x i : Rf} {n : Nat} {k : Option Nat} : lnK L vars (.iada x i n k) false env σp σ K = ir1 (rv vars env x) (rv vars env i) n k fun v => K (v :: env) σp σ := (rfl)
theorem lnK_nck {x : Rf} : lnK L vars (.nck x) false env σp σ K = nc1 (rv vars env x) fun a => K (a :: env) σp σ := by
  show optK (ev L σ σ.length [] (rv vars env) (.nck x)) _ = _
  simp only [ev, nc1]
  generalize rv vars env x = p
  cases p <;> rfl
theorem optK_ite {α : Type} {c : Prop} [Decidable c] {x : α} {K : α → Prop} : optK (if c then some x else none) K = okIf c (K x) := by
  by_cases h : c <;> simp [h, optK, okIf]
theorem lnK_bxi {x : Rf} : lnK L vars (.bxi x) false env σp σ K = okIf (noLoc (rv vars env x) = true) (K (.pimm (rv vars env x) :: env) σp σ) := by
  show optK (ev L σ σ.length [] (rv vars env) (.bxi x)) _ = _
  simp only [ev, optK_ite, pendK]
theorem lnK_alc0 {n : Nat} : lnK L vars (.alc0 n) false env σp σ K = K (.und :: env) σp σ := (rfl)
theorem lnK_ini {p x : Rf} {n : Nat} : lnK L vars (.ini p x n) false env σp σ K = okIf (noLoc (rv vars env x) = true ∧ (rv vars env x).cells.length = n) (K (.pimm (rv vars env x) :: env) σp σ) := by
  show optK (ev L σ σ.length [] (rv vars env) (.ini p x n)) _ = _
  simp only [ev, optK_ite, pendK, Bool.and_eq_true, beq_iff_eq]
theorem lnK_bld {z : List AV} {ps : List (Nat × Nat × Rf)} : lnK L vars (.bld z ps) false env σp σ K = optK (fillP z (ps.map fun p => (p.1, p.2.1, rv vars env p.2.2))) fun l => K (.agg l :: env) σp σ := by
  show optK (ev L σ σ.length [] (rv vars env) (.bld z ps)) _ = _
  simp only [ev]
  cases fillP z (ps.map fun p => (p.1, p.2.1, rv vars env p.2.2)) <;> rfl
theorem lnK_fld {x : Rf} {off : Nat} {k : Option Nat} : lnK L vars (.fld x off k) false env σp σ K = fl1 (rv vars env x) off k fun a => K (a :: env) σp σ := by
  show optK (ev L σ σ.length [] (rv vars env) (.fld x off k)) _ = _
  simp only [ev, fl1]
  generalize rv vars env x = p
  cases p <;> try rfl
  rename_i l
  dsimp only [pT]
  cases part l off k <;> rfl

theorem lnK_ext {x : Rf} {i : Nat} : lnK L vars (.ext x i) false env σp σ K = ex1 (rv vars env x) i fun a => K (a :: env) σp σ := by
  show optK (ev L σ σ.length [] (rv vars env) (.ext x i)) _ = _
  simp only [ev, ex1]
  generalize rv vars env x = p
  cases p <;> try rfl
  rename_i l
  dsimp only [oK]
  cases elm l i <;> rfl

theorem lnK_mkf {f : Nat} {cs : List Rf} : lnK L vars (.mkf f cs) false env σp σ K = K (.func f (cs.map (rv vars env)) :: env) σp σ := (rfl)
theorem lnK_mki {t : Nat} {x : Rf} : lnK L vars (.mki t x) false env σp σ K = K (.iface t (rv vars env x) :: env) σp σ := (rfl)
theorem lnK_liti {ps : List Rf} {st : Nat} : lnK L vars (.liti ps st) false env σp σ K = okIf (noLocs (ps.map (rv vars env)) = true ∧ fitAll st (ps.map (rv vars env)) = true) (K (.imm false (ps.map (rv vars env)) :: env) σp σ) := by
  show optK (ev L σ σ.length [] (rv vars env) (.liti ps st)) _ = _
  simp only [ev, optK_ite, pendK, Bool.and_eq_true]
theorem lnK_lita {ps : List Rf} {st : Nat} : lnK L vars (.lita ps st) false env σp σ K = okIf (fitAll st (ps.map (rv vars env)) = true) (K (.arr (ps.map (rv vars env)) :: env) σp σ) := by
  show optK (ev L σ σ.length [] (rv vars env) (.lita ps st)) _ = _
  simp only [ev, optK_ite, pendK]
theorem lnK_cal {f : Nat} {args : List Rf} : lnK L vars (.cal f args) false env σp σ K = pclK L f (args.map (rv vars env)) fun v => K (v :: env) σp σ := (rfl)
theorem lnK_cald {x : Rf} {args : List Rf} : lnK L vars (.cald x args) false env σp σ K = fn1 (rv vars env x) fun f caps => pclK L f (args.map (rv vars env) ++ caps) fun v => K (v :: env) σp σ := (rfl)
theorem lnK_inv {x : Rf} {tbl : List (Nat × Nat)} {args : List Rf} : lnK L vars (.inv x tbl args) false env σp σ K = if1 (rv vars env x) tbl fun f v => pclK L f (v :: args.map (rv vars env)) fun v => K (v :: env) σp σ := (rfl)
theorem lnK_bnl {n : Bool} {x : Rf} : lnK L vars (.bnl n x) false env σp σ K = bn1 σ (rv vars env x) fun a => K (.bool (a != n) :: env) σp σ := by
  show optK (ev L σ σ.length [] (rv vars env) (.bnl n x)) _ = _
  cases h : rv vars env x with
  | snil => simp [ev, h, bn1, optK, pendK]
  | imm q l =>
    cases q with
    | true => simp [ev, h, bn1, optK, pendK]
    | false => cases l <;> simp [ev, h, bn1, optK, pendK]
  | sl b u o n =>
    simp only [ev, h, bn1]
    cases upto σ b u with
    | none => rfl
    | some B => obtain ⟨q, cs, st⟩ := B; cases st <;> simp [optK, pendK]
  | _ => simp [ev, h, bn1, optK]
theorem lnK_bnl' {n : Bool} {x : Rf} : lnK L vars (.bnl n x) true env σp σ K = bn1 σp (rv vars env x) fun a => K (.bool (a != n) :: env) σp σ := by
  show optK (ev L σp σ.length [] (rv vars env) (.bnl n x)) _ = _
  cases h : rv vars env x with
  | snil => simp [ev, h, bn1, optK, pendK]
  | imm q l =>
    cases q with
    | true => simp [ev, h, bn1, optK, pendK]
    | false => cases l <;> simp [ev, h, bn1, optK, pendK]
  | sl b u o n =>
    simp only [ev, h, bn1]
    cases upto σp b u with
    | none => rfl
    | some B => obtain ⟨q, cs, st⟩ := B; cases st <;> simp [optK, pendK]
  | _ => simp [ev, h, bn1, optK]
theorem lnK_ldi {x : Rf} {k : Option Nat} : lnK L vars (.ldi x k) false env σp σ K = li1 (rv vars env x) k fun a => K (a :: env) σp σ := by
  show optK (ev L σ σ.length [] (rv vars env) (.ldi x k)) _ = _
  simp only [ev, li1]
  generalize rv vars env x = p
  cases p <;> try rfl
  rename_i v
  cases k with
  | none => cases v <;> rfl
  | some n =>
    cases v with
    | agg l => by_cases h : l.length = n <;> simp [h, optK, pendK]
    | _ => rfl

def ld1 (σ : List Blk) (x : AV) (k : Option Nat) (K : AV → Prop) : Prop := match x with
  | .pimm v => li1 (.pimm v) k K
  | .ptr b u o => optK (upto σ b u) fun B => B.st.isLive = true ∧ partK B.cells o k K
  | _ => False
theorem ld1_pimm {v : AV} {k : Option Nat} {K : AV → Prop} : ld1 σ (.pimm v) k K = li1 (.pimm v) k K := (rfl)
theorem ld1_ptr {b u o : Nat} {k : Option Nat} {K : AV → Prop} : ld1 σ (.ptr b u o) k K = optK (upto σ b u) fun B => B.st.isLive = true ∧ partK B.cells o k K := (rfl)
theorem lnK_ld {x : Rf} {k : Option Nat} : lnK L vars (.ld x k) false env σp σ K = ld1 σ (rv vars env x) k fun a => K (a :: env) σp σ := by
  show evK L σ σ.length (rv vars env) (.ld x k) _ = _
  cases h : rv vars env x with
  | pimm v => cases k <;> cases v <;> simp [evK, h, ld1, li1, pendK]
  | ptr b u o => simp [evK, h, ld1, pendK]
  | _ => simp [evK, h, ld1]
theorem lnK_ld' {x : Rf} {k : Option Nat} : lnK L vars (.ld x k) true env σp σ K = ld1 σp (rv vars env x) k fun a => K (a :: env) σp σ := by
  show evK L σp σ.length (rv vars env) (.ld x k) _ = _
  cases h : rv vars env x with
  | pimm v => cases k <;> cases v <;> simp [evK, h, ld1, li1, pendK]
  | ptr b u o => simp [evK, h, ld1, pendK]
  | _ => simp [evK, h, ld1]
theorem lnK_cvi {x : Rf} : lnK L vars (.cvi x) false env σp σ K = i1 (rv vars env x) fun n => fitK n fun v => K (v :: env) σp σ := (rfl)
/-- A part of a slice. -/
def sl1 (σ : List Blk) (x : AV) (a : Int) (b : Option Int) (st : Nat) (K : AV → Prop) : Prop := match x with
  | .imm nn l => okIf ((0 ≤ a ∧ a ≤ b.getD l.length ∧ b.getD l.length ≤ l.length) ∧ firstIs st l = true) (K (.imm (nn && decide (0 < l.length)) ((l.drop a.toNat).take ((b.getD l.length).toNat - a.toNat))))
  | .sl b' u off len => optK (upto σ b' u) fun B => okIf ((0 ≤ a ∧ a ≤ b.getD len ∧ b.getD len ≤ len) ∧ kst B.k = st) (K (.sl b' u (off + a.toNat * st) ((b.getD len).toNat - a.toNat)))
  | _ => False
theorem sl1_imm {nn : Bool} {l : List AV} {a : Int} {b : Option Int} {st : Nat} {K : AV → Prop} : sl1 σ (.imm nn l) a b st K = okIf ((0 ≤ a ∧ a ≤ b.getD l.length ∧ b.getD l.length ≤ l.length) ∧ firstIs st l = true) (K (.imm (nn && decide (0 < l.length)) ((l.drop a.toNat).take ((b.getD l.length).toNat - a.toNat)))) := (rfl)
theorem sl1_sl {b' u off len : Nat} {a : Int} {b : Option Int} {st : Nat} {K : AV → Prop} : sl1 σ (.sl b' u off len) a b st K = optK (upto σ b' u) fun B => okIf ((0 ≤ a ∧ a ≤ b.getD len ∧ b.getD len ≤ len) ∧ kst B.k = st) (K (.sl b' u (off + a.toNat * st) ((b.getD len).toNat - a.toNat))) := (rfl)
theorem lnK_slc {x : Rf} {lo hi : Option Rf} {st : Nat} : lnK L vars (.slc x lo hi st) false env σp σ K = optK (loV (rv vars env) lo) fun a => optK (hiV (rv vars env) hi) fun b => sl1 σ (rv vars env x) a b st fun v => K (v :: env) σp σ := by
  show evK L σ σ.length (rv vars env) (.slc x lo hi st) _ = _
  unfold evK
  simp only
  cases loV (rv vars env) lo with
  | none => rfl
  | some a => cases hiV (rv vars env) hi with
    | none => rfl
    | some b => rfl
theorem lnK_slc' {x : Rf} {lo hi : Option Rf} {st : Nat} : lnK L vars (.slc x lo hi st) true env σp σ K = optK (loV (rv vars env) lo) fun a => optK (hiV (rv vars env) hi) fun b => sl1 σp (rv vars env x) a b st fun v => K (v :: env) σp σ := by
  show evK L σp σ.length (rv vars env) (.slc x lo hi st) _ = _
  unfold evK
  simp only
  cases loV (rv vars env) lo with
  | none => rfl
  | some a => cases hiV (rv vars env) hi with
    | none => rfl
    | some b => rfl
theorem lnK_cab {f : Nat} {args : List Rf} : lnK L vars (.cab f args) false env σp σ K = optK (mapO (fun x => view σ false vd (rv vars env x)) args) fun vs => LX L f vs [] fun v σ' => optK (viewT σ' true v) fun u => K (u :: env) σp σ := (rfl)
theorem lnK_cab' {f : Nat} {args : List Rf} : lnK L vars (.cab f args) true env σp σ K = optK (mapO (fun x => view σp false vd (rv vars env x)) args) fun vs => LX L f vs [] fun v σ' => optK (viewT σ' true v) fun u => K (u :: env) σp σ := (rfl)
theorem lnK_can {f : Nat} {args : List Rf} : lnK L vars (.can f args) false env σp σ K = okIf (noLocs (args.map (rv vars env)) = true) (LX L f (args.map (rv vars env)) [] fun v σ' => K (shV σ.length v :: env) σ (σ ++ σ'.map (shB σ.length))) := (rfl)
theorem lnK_bxm {x : Rf} {k : Option Nat} : lnK L vars (.bxm x k) false env σp σ K = okIf ((rv vars env x).cells.length = kst k ∧ notUnd (rv vars env x) = true) (K (.ptr σ.length (kst k) 0 :: env) σ (σ ++ [⟨k, (rv vars env x).cells, .live⟩])) := by
  show optK (ev L σ σ.length [] (rv vars env) (.bxm x k)) _ = _
  simp only [ev, optK_ite, pendK, commit, Bool.and_eq_true, beq_iff_eq]
theorem lnK_alc {z : List AV} {k : Option Nat} : lnK L vars (.alc z k) false env σp σ K = okIf (z.length = kst k) (K (.ptr σ.length (kst k) 0 :: env) σ (σ ++ [⟨k, z, .live⟩])) := by
  show optK (ev L σ σ.length [] (rv vars env) (.alc z k)) _ = _
  simp only [ev, optK_ite, pendK, commit, beq_iff_eq]
theorem lnK_mks {n c : Rf} {z : List AV} {k : Option Nat} : lnK L vars (.mks n c z k) false env σp σ K = ii (rv vars env n) (rv vars env c) fun n c => okIf (0 ≤ n ∧ n ≤ c ∧ c ≤ big ∧ z.length = kst k) (K (.sl σ.length (dupN c.toNat z).length 0 n.toNat :: env) σ (σ ++ [⟨k, dupN c.toNat z, .live⟩])) := (rfl)
theorem lnK_litm {ps : List Rf} {k : Option Nat} : lnK L vars (.litm ps k) false env σp σ K = okIf (fitAll (kst k) (ps.map (rv vars env)) = true) (K (.sl σ.length ((ps.map (rv vars env)).flatMap AV.cells).length 0 ps.length :: env) σ (σ ++ [⟨k, (ps.map (rv vars env)).flatMap AV.cells, .live⟩])) := by
  show optK (ev L σ σ.length [] (rv vars env) (.litm ps k)) _ = _
  simp only [ev, optK_ite, pendK, commit]
theorem lnK_nl {k : Option Nat} : lnK L vars (.nl k) false env σp σ K = K (.sl σ.length 0 0 0 :: env) σ (σ ++ [⟨k, [], .nul⟩]) := (rfl)
def ap1 (σ : List Blk) (s : AV) (k : Option Nat) (n : Nat) (cs : List AV) (K : AV → List Blk → Prop) : Prop := match s with
  | .sl b u off len => optK (upto σ b u) fun B => okIf (off = 0 ∧ u = len * kst k ∧ len + n ≤ big ∧ eqK B.k k = true) ((n = 0 → K (.sl b u off len) σ) ∧ (n ≠ 0 → cs.length ≠ 0 ∧ K (.sl b (u + cs.length) 0 (len + n)) (growB σ b cs)))
  | .snil => (n = 0 → K .snil σ) ∧ (n ≠ 0 → n ≤ big ∧ K (.sl σ.length cs.length 0 n) (σ ++ [⟨k, cs, .live⟩]))
  | .arr l => (n = 0 → K (if noLocs l then .imm true l else .arr l) σ) ∧ (n ≠ 0 → (fitAll (kst k) l = true ∧ l.length + n ≤ big) ∧ K (.sl σ.length (l.flatMap AV.cells ++ cs).length 0 (l.length + n)) (σ ++ [⟨k, l.flatMap AV.cells ++ cs, .live⟩]))
  | _ => False
theorem ap1_sl {b u off len : Nat} {k : Option Nat} {n : Nat} {cs : List AV} {K : AV → List Blk → Prop} : ap1 σ (.sl b u off len) k n cs K = optK (upto σ b u) fun B => okIf (off = 0 ∧ u = len * kst k ∧ len + n ≤ big ∧ eqK B.k k = true) ((n = 0 → K (.sl b u off len) σ) ∧ (n ≠ 0 → cs.length ≠ 0 ∧ K (.sl b (u + cs.length) 0 (len + n)) (growB σ b cs))) := (rfl)
theorem ap1_snil {k : Option Nat} {n : Nat} {cs : List AV} {K : AV → List Blk → Prop} : ap1 σ .snil k n cs K = ((n = 0 → K .snil σ) ∧ (n ≠ 0 → n ≤ big ∧ K (.sl σ.length cs.length 0 n) (σ ++ [⟨k, cs, .live⟩]))) := (rfl)
theorem ap1_arr {l : List AV} {k : Option Nat} {n : Nat} {cs : List AV} {K : AV → List Blk → Prop} : ap1 σ (.arr l) k n cs K = ((n = 0 → K (if noLocs l then .imm true l else .arr l) σ) ∧ (n ≠ 0 → (fitAll (kst k) l = true ∧ l.length + n ≤ big) ∧ K (.sl σ.length (l.flatMap AV.cells ++ cs).length 0 (l.length + n)) (σ ++ [⟨k, l.flatMap AV.cells ++ cs, .live⟩]))) := (rfl)
theorem lnK_app {s x : Rf} {k : Option Nat} : lnK L vars (.app s x k) false env σp σ K = optK (srcCells σ k (rv vars env x)) fun p => ap1 σ (rv vars env s) k p.1 p.2 fun v τ => K (v :: env) σ τ := by
  show evK L σ σ.length (rv vars env) (.app s x k) _ = _
  unfold evK
  simp only
  cases srcCells σ k (rv vars env x) with
  | none => rfl
  | some p =>
    obtain ⟨n, cs⟩ := p
    cases h : rv vars env s <;> rfl
theorem lnK_st {p x : Rf} {n : Nat} : lnK L vars (.st p x n) false env σp σ K = st1 σ (rv vars env p) (rv vars env x) n fun τ => K (.und :: env) [] τ := (rfl)
def aw1 (σ : List Blk) (s : AV) (k : Option Nat) (n : Nat) (cs : List AV) (K : AV → List Blk → Prop) : Prop := match s with
  | .sl b u off len => optK (upto σ b u) fun B => okIf (off = 0 ∧ len + n ≤ big ∧ eqK B.k k = true ∧ (n ≠ 0 → cs.length ≠ 0)) ((n = 0 → K (.sl b u off len) σ) ∧ (n ≠ 0 → u = len * kst k → K (.sl b (u + cs.length) 0 (len + n)) (setB σ b ⟨B.k, B.cells ++ cs, .live⟩)) ∧ (n ≠ 0 → u ≠ len * kst k → (len + n) * kst k ≤ u ∧ K (.sl b u 0 (len + n)) (setB σ b ⟨B.k, putAt B.cells (len * kst k) cs, B.st⟩)))
  | .snil => (n = 0 → K .snil σ) ∧ (n ≠ 0 → n ≤ big ∧ K (.sl σ.length cs.length 0 n) (σ ++ [⟨k, cs, .live⟩]))
  | .arr l => (n = 0 → K (if noLocs l then .imm true l else .arr l) σ) ∧ (n ≠ 0 → (fitAll (kst k) l = true ∧ l.length + n ≤ big) ∧ K (.sl σ.length (l.flatMap AV.cells ++ cs).length 0 (l.length + n)) (σ ++ [⟨k, l.flatMap AV.cells ++ cs, .live⟩]))
  | _ => False
theorem aw1_sl {b u off len : Nat} {k : Option Nat} {n : Nat} {cs : List AV} {K : AV → List Blk → Prop} : aw1 σ (.sl b u off len) k n cs K = optK (upto σ b u) fun B => okIf (off = 0 ∧ len + n ≤ big ∧ eqK B.k k = true ∧ (n ≠ 0 → cs.length ≠ 0)) ((n = 0 → K (.sl b u off len) σ) ∧ (n ≠ 0 → u = len * kst k → K (.sl b (u + cs.length) 0 (len + n)) (setB σ b ⟨B.k, B.cells ++ cs, .live⟩)) ∧ (n ≠ 0 → u ≠ len * kst k → (len + n) * kst k ≤ u ∧ K (.sl b u 0 (len + n)) (setB σ b ⟨B.k, putAt B.cells (len * kst k) cs, B.st⟩))) := (rfl)
theorem aw1_snil {k : Option Nat} {n : Nat} {cs : List AV} {K : AV → List Blk → Prop} : aw1 σ .snil k n cs K = ((n = 0 → K .snil σ) ∧ (n ≠ 0 → n ≤ big ∧ K (.sl σ.length cs.length 0 n) (σ ++ [⟨k, cs, .live⟩]))) := (rfl)
theorem aw1_arr {l : List AV} {k : Option Nat} {n : Nat} {cs : List AV} {K : AV → List Blk → Prop} : aw1 σ (.arr l) k n cs K = ((n = 0 → K (if noLocs l then .imm true l else .arr l) σ) ∧ (n ≠ 0 → (fitAll (kst k) l = true ∧ l.length + n ≤ big) ∧ K (.sl σ.length (l.flatMap AV.cells ++ cs).length 0 (l.length + n)) (σ ++ [⟨k, l.flatMap AV.cells ++ cs, .live⟩]))) := (rfl)
theorem lnK_appw {s x : Rf} {k : Option Nat} : lnK L vars (.appw s x k) false env σp σ K = optK (srcCells σ k (rv vars env x)) fun p => aw1 σ (rv vars env s) k p.1 p.2 fun v τ => K (v :: env) [] τ := by
  show evWK L σ (rv vars env) (.appw s x k) (fun v σ' => K (v :: env) [] σ') = _
  unfold evWK
  simp only
  cases srcCells σ k (rv vars env x) with
  | none => rfl
  | some p =>
    obtain ⟨n, cs⟩ := p
    cases h : rv vars env s <;> rfl
theorem lnK_cam {f : Nat} {args : List Rf} : lnK L vars (.cam f args) false env σp σ K = LX L f (args.map (rv vars env)) σ fun v τ => K (v :: env) [] τ := (rfl)
theorem lnK_camd {x : Rf} {args : List Rf} : lnK L vars (.camd x args) false env σp σ K = fn1 (rv vars env x) fun f caps => LX L f (args.map (rv vars env) ++ caps) σ fun v τ => K (v :: env) [] τ := (rfl)
theorem lnK_invm {x : Rf} {tbl : List (Nat × Nat)} {args : List Rf} : lnK L vars (.invm x tbl args) false env σp σ K = if1 (rv vars env x) tbl fun f v => LX L f (v :: args.map (rv vars env)) σ fun v τ => K (v :: env) [] τ := (rfl)
end
section
variable {L : CE} {vars env : List AV} {σp σ : List Blk} {K : List AV → List Blk → List Blk → Prop}
theorem q_mv {x : Rf} : lnK L vars (.mv x) false env σp σ K = nx (rv vars env x) (fun v => K (v :: env) σp σ) .k := lnK_mv
theorem q_bin {o : Bin} {x y : Rf} : lnK L vars (.bin o x y) false env σp σ K = nx (rv vars env x) (fun x => nx (rv vars env y) (fun y => ii x y fun a b => binK o a b fun v => K (v :: env) σp σ) .k) .k := lnK_bin
theorem q_beq {n : Bool} {x y : Rf} : lnK L vars (.beq n x y) false env σp σ K = nx (rv vars env x) (fun x => nx (rv vars env y) (fun y => bb x y fun a b => K (.bool ((a == b) != n) :: env) σp σ) .k) .k := lnK_beq
theorem q_not {x : Rf} : lnK L vars (.not x) false env σp σ K = nx (rv vars env x) (fun x => b1 x fun a => K (.bool (!a) :: env) σp σ) .k := lnK_not
def pk (b : Bool) (x y : AV) : AV := match b with
  | true => x
  | false => y
theorem pk_true {x y : AV} : pk true x y = x := (rfl)
theorem pk_false {x y : AV} : pk false x y = y := (rfl)
theorem pk_int {b : Bool} {x y : Int} : pk b (.int x) (.int y) = .int (if b = true then x else y) := by cases b <;> rfl
theorem pk_bool {b : Bool} {x y : Bool} : pk b (.bool x) (.bool y) = .bool (if b = true then x else y) := by cases b <;> rfl
def pq (b : Bool) (x y : AV) (K : AV → Prop) (_ : Tk K) : Prop := K (pk b x y)
theorem pq_true {x y : AV} {K : AV → Prop} {t : Tk K} : pq true x y K t = nx x K .k := (rfl)
theorem pq_false {x y : AV} {K : AV → Prop} {t : Tk K} : pq false x y K t = nx y K .k := (rfl)
theorem pq_int {b : Bool} {x y : Int} {K : AV → Prop} {t : Tk K} : pq b (.int x) (.int y) K t = K (.int (if b = true then x else y)) := by unfold pq; rw [pk_int]
theorem pq_bool {b : Bool} {x y : Bool} {K : AV → Prop} {t : Tk K} : pq b (.bool x) (.bool y) K t = K (.bool (if b = true then x else y)) := by unfold pq; rw [pk_bool]
theorem pq_any {b : Bool} {x y : AV} {K : AV → Prop} {t : Tk K} : pq b x y K t = K (pk b x y) := (rfl)
theorem q_pick {c x y : Rf} : lnK L vars (.pick c x y) false env σp σ K = nx (rv vars env c) (fun c => b1 c fun a => pq a (rv vars env x) (rv vars env y) (fun v => K (v :: env) σp σ) .k) .k := lnK_pick
theorem q_len {x : Rf} : lnK L vars (.len x) false env σp σ K = nx (rv vars env x) (fun x => ln1 x fun a => K (.int a :: env) σp σ) .k := lnK_len
theorem q_max {x y : Rf} : lnK L vars (.mx true x y) false env σp σ K = nx (rv vars env x) (fun x => nx (rv vars env y) (fun y => ii x y fun a b => K (.int (max a b) :: env) σp σ) .k) .k := lnK_max
theorem q_min {x y : Rf} : lnK L vars (.mx false x y) false env σp σ K = nx (rv vars env x) (fun x => nx (rv vars env y) (fun y => ii x y fun a b => K (.int (min a b) :: env) σp σ) .k) .k := lnK_min
theorem q_fad {x : Rf} {off : Nat} {k : Option Nat} : lnK L vars (.fad x off k) false env σp σ K = nx (rv vars env x) (fun x => fa1 x off k fun a => K (a :: env) σp σ) .k := lnK_fad
theorem q_iad {x i : Rf} {st : Nat} : lnK L vars (.iad x i st) false env σp σ K = nx (rv vars env x) (fun x => nx (rv vars env i) (fun i => ia1 x i st fun v => K (v :: env) σp σ) .k) .k := lnK_iad
theorem q_iada {x i : Rf} {n : Nat} {k : Option Nat} : lnK L vars (.iada x i n k) false env σp σ K = nx (rv vars env x) (fun x => nx (rv vars env i) (fun i => ir1 x i n k fun v => K (v :: env) σp σ) .k) .k := lnK_iada
theorem q_nck {x : Rf} : lnK L vars (.nck x) false env σp σ K = nx (rv vars env x) (fun x => nc1 x fun a => K (a :: env) σp σ) .k := lnK_nck
theorem q_bxi {x : Rf} : lnK L vars (.bxi x) false env σp σ K = nx (rv vars env x) (fun x => okIf (noLoc x = true) (K (.pimm x :: env) σp σ)) .k := lnK_bxi
theorem q_ini {p x : Rf} {n : Nat} : lnK L vars (.ini p x n) false env σp σ K = nx (rv vars env x) (fun x => okIf (noLoc x = true ∧ x.cells.length = n) (K (.pimm x :: env) σp σ)) .k := lnK_ini
theorem q_bld {z : List AV} {ps : List (Nat × Nat × Rf)} : lnK L vars (.bld z ps) false env σp σ K = oK (fillP z (mapR (fun p => (p.1, p.2.1, rv vars env p.2.2)) ps)) (fun l => nL l (fun l => K (.agg l :: env) σp σ) .k) .k := by rw [← map_R]; exact lnK_bld
theorem q_fld {x : Rf} {off : Nat} {k : Option Nat} : lnK L vars (.fld x off k) false env σp σ K = nx (rv vars env x) (fun x => fl1 x off k fun a => K (a :: env) σp σ) .k := lnK_fld
theorem q_ext {x : Rf} {i : Nat} : lnK L vars (.ext x i) false env σp σ K = nx (rv vars env x) (fun x => ex1 x i fun a => nx a (fun a => K (a :: env) σp σ) .k) .k := lnK_ext
theorem q_mkf {f : Nat} {cs : List Rf} : lnK L vars (.mkf f cs) false env σp σ K = nL (mapR (rv vars env) cs) (fun l => K (.func f l :: env) σp σ) .k := by rw [← map_R]; exact lnK_mkf
theorem q_mki {t : Nat} {x : Rf} : lnK L vars (.mki t x) false env σp σ K = nx (rv vars env x) (fun x => K (.iface t x :: env) σp σ) .k := lnK_mki
theorem q_liti {ps : List Rf} {st : Nat} : lnK L vars (.liti ps st) false env σp σ K = nL (mapR (rv vars env) ps) (fun l => okIf (noLocs l = true ∧ fitAll st l = true) (K (.imm false l :: env) σp σ)) .k := by rw [← map_R]; exact lnK_liti
theorem q_lita {ps : List Rf} {st : Nat} : lnK L vars (.lita ps st) false env σp σ K = nL (mapR (rv vars env) ps) (fun l => okIf (fitAll st l = true) (K (.arr l :: env) σp σ)) .k := by rw [← map_R]; exact lnK_lita
/-- A call by value. -/
def cl (L : CE) (f : Nat) (args : List AV) (K : AV → Prop) (_ : Tk K) : Prop := pclK L f args K
theorem cl_eq {f : Nat} {args : List AV} {K : AV → Prop} {t : Tk K} : cl L f args K t = (noLocs args = true ∧ nL (mapR wk args) (fun as => oK (PCx L f as) (fun v => nx v K .k) .k) .k) := by rw [← map_R]; rfl
theorem q_cal {f : Nat} {args : List Rf} : lnK L vars (.cal f args) false env σp σ K = nL (mapR (rv vars env) args) (fun as => cl L f as (fun v => K (v :: env) σp σ) .k) .k := by rw [← map_R]; exact lnK_cal
theorem q_cald {x : Rf} {args : List Rf} : lnK L vars (.cald x args) false env σp σ K = nx (rv vars env x) (fun x => fn1 x fun f caps => nL (appR (mapR (rv vars env) args) caps) (fun as => cl L f as (fun v => K (v :: env) σp σ) .k) .k) .k := by unfold nx nL cl; simp only [← map_R, ← app_R]; exact lnK_cald
theorem q_inv {x : Rf} {tbl : List (Nat × Nat)} {args : List Rf} : lnK L vars (.inv x tbl args) false env σp σ K = nx (rv vars env x) (fun x => if1 x tbl fun f v => nL (v :: mapR (rv vars env) args) (fun as => cl L f as (fun v => K (v :: env) σp σ) .k) .k) .k := by unfold nx nL cl; simp only [← map_R]; exact lnK_inv
theorem q_bnl {n : Bool} {x : Rf} : lnK L vars (.bnl n x) false env σp σ K = nx (rv vars env x) (fun x => bn1 σ x fun a => K (.bool (a != n) :: env) σp σ) .k := lnK_bnl
theorem q_bnl' {n : Bool} {x : Rf} : lnK L vars (.bnl n x) true env σp σ K = nx (rv vars env x) (fun x => bn1 σp x fun a => K (.bool (a != n) :: env) σp σ) .k := lnK_bnl'
theorem q_ldi {x : Rf} {k : Option Nat} : lnK L vars (.ldi x k) false env σp σ K = nx (rv vars env x) (fun x => li1 x k fun a => K (a :: env) σp σ) .k := lnK_ldi
def ld2 (σ : List Blk) (x : AV) (k : Option Nat) (K : AV → Prop) : Prop := match x with
  | .pimm v => nx v (fun v => li1 (.pimm v) k K) .k
  | .ptr b u o => bk (blk σ b) u (fun _ cs st => st.isLive = true ∧ pT cs o k (fun v => nx v K .k) .k) .k
  | _ => False
theorem ld2_pimm {v : AV} {k : Option Nat} {K : AV → Prop} : ld2 σ (.pimm v) k K = nx v (fun v => li1 (.pimm v) k K) .k := (rfl)
theorem ld2_ptr {b u o : Nat} {k : Option Nat} {K : AV → Prop} : ld2 σ (.ptr b u o) k K = bk (blk σ b) u (fun _ cs st => st.isLive = true ∧ pT cs o k (fun v => nx v K .k) .k) .k := (rfl)
theorem ld12 {σ : List Blk} {x : AV} {k : Option Nat} {K : AV → Prop} : ld1 σ x k K = ld2 σ x k K := by
  cases x with
  | ptr b u o => exact upto_bk
  | _ => rfl
theorem q_ld {x : Rf} {k : Option Nat} : lnK L vars (.ld x k) false env σp σ K = nx (rv vars env x) (fun x => ld2 σ x k fun a => K (a :: env) σp σ) .k := by unfold nx; simp only [← ld12]; exact lnK_ld
theorem q_ld' {x : Rf} {k : Option Nat} : lnK L vars (.ld x k) true env σp σ K = nx (rv vars env x) (fun x => ld2 σp x k fun a => K (a :: env) σp σ) .k := by unfold nx; simp only [← ld12]; exact lnK_ld'
theorem q_cvi {x : Rf} : lnK L vars (.cvi x) false env σp σ K = nx (rv vars env x) (fun x => i1 x fun n => fitK n fun v => K (v :: env) σp σ) .k := lnK_cvi
def sl2 (σ : List Blk) (x : AV) (a : Int) (b : Option Int) (st : Nat) (K : AV → Prop) : Prop := match x with
  | .imm nn l => okIf ((0 ≤ a ∧ a ≤ b.getD l.length ∧ b.getD l.length ≤ l.length) ∧ firstIs st l = true) (nC ((l.drop a.toNat).take ((b.getD l.length).toNat - a.toNat)) (fun l' => K (.imm (nn && decide (0 < l.length)) l')) .k)
  | .sl b' u off len => bk (blk σ b') u (fun k _ _ => okIf ((0 ≤ a ∧ a ≤ b.getD len ∧ b.getD len ≤ len) ∧ kst k = st) (K (.sl b' u (off + a.toNat * st) ((b.getD len).toNat - a.toNat)))) .k
  | _ => False
theorem sl2_imm {nn : Bool} {l : List AV} {a : Int} {b : Option Int} {st : Nat} {K : AV → Prop} : sl2 σ (.imm nn l) a b st K = okIf ((0 ≤ a ∧ a ≤ b.getD l.length ∧ b.getD l.length ≤ l.length) ∧ firstIs st l = true) (nC ((l.drop a.toNat).take ((b.getD l.length).toNat - a.toNat)) (fun l' => K (.imm (nn && decide (0 < l.length)) l')) .k) := (rfl)
theorem sl2_sl {b' u off len : Nat} {a : Int} {b : Option Int} {st : Nat} {K : AV → Prop} : sl2 σ (.sl b' u off len) a b st K = bk (blk σ b') u (fun k _ _ => okIf ((0 ≤ a ∧ a ≤ b.getD len ∧ b.getD len ≤ len) ∧ kst k = st) (K (.sl b' u (off + a.toNat * st) ((b.getD len).toNat - a.toNat)))) .k := (rfl)
theorem sl12 {σ : List Blk} {x : AV} {a : Int} {b : Option Int} {st : Nat} {K : AV → Prop} : sl1 σ x a b st K = sl2 σ x a b st K := by
  cases x with
  | sl b u o n => exact upto_bk
  | _ => rfl
/-- An element of an array. -/
def ix1 (x i : AV) (n : Nat) (k : Option Nat) (K : AV → Prop) : Prop := match x, i with
  | .agg l, .int j => okIf (0 ≤ j ∧ j < n) (pT l (j.toNat * kst k) k (fun v => nx v K .k) .k)
  | _, _ => False
theorem ix1_agg {l : List AV} {j : Int} {n : Nat} {k : Option Nat} {K : AV → Prop} : ix1 (.agg l) (.int j) n k K = okIf (0 ≤ j ∧ j < n) (pT l (j.toNat * kst k) k (fun v => nx v K .k) .k) := (rfl)
theorem q_idx {x i : Rf} {n : Nat} {k : Option Nat} : lnK L vars (.idx x i n k) false env σp σ K = nx (rv vars env x) (fun x => nx (rv vars env i) (fun i => ix1 x i n k fun v => K (v :: env) σp σ) .k) .k := by
  show optK (ev L σ σ.length [] (rv vars env) (.idx x i n k)) _ = _
  simp only [nx]
  generalize hx : rv vars env x = p
  generalize hy : rv vars env i = q
  simp only [ev, hx, hy]
  cases p <;> try rfl
  cases q <;> try rfl
  rename_i l j
  rw [ix1_agg]
  by_cases hc : 0 ≤ j ∧ j < (n : Int)
  · simp only [if_pos hc, okIf, hc, true_and, pT, nx]
    cases part l (j.toNat * kst k) k <;> rfl
  · simp only [if_neg hc]
    exact propext ⟨fun h => h.elim, fun h => hc h.1⟩
/-- Structs of numbers compared. -/
def eqZ : List AV → List AV → (Bool → Prop) → Prop
  | [], [], K => K true
  | .int a :: xs, .int b :: ys, K => eqZ xs ys fun c => K (decide (a = b) && c)
  | _, _, _ => False
theorem eqZ_nn {K : Bool → Prop} : eqZ [] [] K = K true := (rfl)
theorem eqZ_cc {a b : Int} {xs ys : List AV} {K : Bool → Prop} : eqZ (.int a :: xs) (.int b :: ys) K = eqZ xs ys fun c => K (decide (a = b) && c) := (rfl)
theorem eqZ_eq : ∀ {xs ys : List AV} {K : Bool → Prop}, optK (eqInts xs ys) K = eqZ xs ys K := by
  intro xs
  induction xs with
  | nil => intro ys K; cases ys <;> rfl
  | cons x xs ih =>
    intro ys K
    cases ys with
    | nil => cases x <;> rfl
    | cons y ys =>
      cases x <;> try rfl
      cases y <;> try rfl
      rename_i a b
      rw [eqZ_cc, ← ih]
      simp only [eqInts]
      cases eqInts xs ys <;> rfl
def sq1 (n : Nat) (x y : AV) (K : Bool → Prop) : Prop := match x, y with
  | .agg xs, .agg ys => xs.length = n ∧ eqZ xs ys K
  | _, _ => False
theorem sq1_agg {n : Nat} {xs ys : List AV} {K : Bool → Prop} : sq1 n (.agg xs) (.agg ys) K = (xs.length = n ∧ eqZ xs ys K) := (rfl)
theorem q_seq {g : Bool} {n : Nat} {x y : Rf} : lnK L vars (.seq g n x y) false env σp σ K = nx (rv vars env x) (fun x => nx (rv vars env y) (fun y => sq1 n x y fun b => K (.bool (b != g) :: env) σp σ) .k) .k := by
  show optK (ev L σ σ.length [] (rv vars env) (.seq g n x y)) _ = _
  simp only [nx]
  generalize hx : rv vars env x = p
  generalize hy : rv vars env y = q
  simp only [ev, hx, hy]
  cases p <;> try rfl
  cases q <;> try rfl
  rename_i xs ys
  rw [sq1_agg, ← eqZ_eq]
  by_cases hc : xs.length = n
  · simp only [if_pos hc, hc, true_and]
    cases eqInts xs ys <;> rfl
  · simp only [if_neg hc]
    exact propext ⟨fun h => h.elim, fun h => hc h.1⟩
/-- A full slice of an unchanged list. -/
def s31 (x h m : AV) (st : Nat) (K : AV → Prop) : Prop := match x, h, m with
  | .imm nn l, .int h, .int m => okIf ((0 ≤ h ∧ h ≤ m ∧ m ≤ l.length) ∧ firstIs st l = true) (nC (l.take h.toNat) (fun l' => K (.imm (nn && decide (0 < l.length)) l')) .k)
  | _, _, _ => False
theorem s31_imm {nn : Bool} {l : List AV} {h m : Int} {st : Nat} {K : AV → Prop} : s31 (.imm nn l) (.int h) (.int m) st K = okIf ((0 ≤ h ∧ h ≤ m ∧ m ≤ l.length) ∧ firstIs st l = true) (nC (l.take h.toNat) (fun l' => K (.imm (nn && decide (0 < l.length)) l')) .k) := (rfl)
theorem q_slc3 {x h m : Rf} {st : Nat} : lnK L vars (.slc3 x h m st) false env σp σ K = nx (rv vars env x) (fun x => nx (rv vars env h) (fun h => nx (rv vars env m) (fun m => s31 x h m st fun v => K (v :: env) σp σ) .k) .k) .k := by
  show optK (ev L σ σ.length [] (rv vars env) (.slc3 x h m st)) _ = _
  simp only [ev, s31, nx]
  generalize rv vars env x = p
  generalize rv vars env h = q
  generalize rv vars env m = s
  cases p <;> try rfl
  cases q <;> try rfl
  cases s <;> try rfl
  rename_i nn l h m
  by_cases hc : (0 ≤ h ∧ h ≤ m ∧ m ≤ (l.length : Int)) ∧ firstIs st l = true
  · show optK (if (0 ≤ h ∧ h ≤ m ∧ m ≤ (l.length : Int)) ∧ firstIs st l = true then some (AV.imm (nn && decide (0 < l.length)) (List.take h.toNat l), none) else none) _ = _
    rw [if_pos hc]; exact (propext ⟨fun h => ⟨hc, h⟩, fun h => h.2⟩)
  · show optK (if (0 ≤ h ∧ h ≤ m ∧ m ≤ (l.length : Int)) ∧ firstIs st l = true then some (AV.imm (nn && decide (0 < l.length)) (List.take h.toNat l), none) else none) _ = _
    rw [if_neg hc]; exact (propext ⟨fun h => h.elim, fun h => hc h.1⟩)
@[reducible] def loR (x : Option AV) : Option Int := match x with
  | none => some 0
  | some (.int n) => some n
  | some _ => none
@[reducible] def hiR (x : Option AV) : Option (Option Int) := match x with
  | none => some none
  | some (.int n) => some (some n)
  | some _ => none
@[reducible] def omR (f : Rf → AV) : Option Rf → Option AV
  | none => none
  | some x => some (f x)
theorem lo_R {r : Rf → AV} {o : Option Rf} : loV r o = loR (omR r o) := by
  cases o with
  | none => rfl
  | some y => simp only [loV, loR, omR]; cases r y <;> rfl
theorem hi_R {r : Rf → AV} {o : Option Rf} : hiV r o = hiR (omR r o) := by
  cases o with
  | none => rfl
  | some y => simp only [hiV, hiR, omR]; cases r y <;> rfl
theorem q_slc {x : Rf} {lo hi : Option Rf} {st : Nat} : lnK L vars (.slc x lo hi st) false env σp σ K = oK (loR (omR (rv vars env) lo)) (fun a => oK (hiR (omR (rv vars env) hi)) (fun b => nx (rv vars env x) (fun x => sl2 σ x a b st fun v => K (v :: env) σp σ) .k) .k) .k := by unfold oK nx; simp only [← lo_R, ← hi_R, ← sl12]; exact lnK_slc
theorem q_slc' {x : Rf} {lo hi : Option Rf} {st : Nat} : lnK L vars (.slc x lo hi st) true env σp σ K = oK (loR (omR (rv vars env) lo)) (fun a => oK (hiR (omR (rv vars env) hi)) (fun b => nx (rv vars env x) (fun x => sl2 σp x a b st fun v => K (v :: env) σp σ) .k) .k) .k := by unfold oK nx; simp only [← lo_R, ← hi_R, ← sl12]; exact lnK_slc'
theorem mapO_mapR {α β γ : Type} {f : β → Option γ} {g : α → β} : ∀ {l : List α}, mapO (fun x => f (g x)) l = mapO f (mapR g l)
  | [] => rfl
  | x :: r => by simp only [mapO, mapR]; rw [mapO_mapR (l := r)]
theorem q_cab {f : Nat} {args : List Rf} : lnK L vars (.cab f args) false env σp σ K = nL (mapR (rv vars env) args) (fun as => oK (mapO (view σ false vd) as) (fun vs => lX L f vs [] (fun v σ' => oK (viewT σ' true v) (fun u => K (u :: env) σp σ) .k) .k) .k) .k := by unfold nL; dsimp only; rw [← mapO_mapR]; exact lnK_cab
theorem q_cab' {f : Nat} {args : List Rf} : lnK L vars (.cab f args) true env σp σ K = nL (mapR (rv vars env) args) (fun as => oK (mapO (view σp false vd) as) (fun vs => lX L f vs [] (fun v σ' => oK (viewT σ' true v) (fun u => K (u :: env) σp σ) .k) .k) .k) .k := by unfold nL; dsimp only; rw [← mapO_mapR]; exact lnK_cab'
theorem q_can {f : Nat} {args : List Rf} : lnK L vars (.can f args) false env σp σ K = nL (mapR (rv vars env) args) (fun as => okIf (noLocs as = true) (lX L f as [] (fun v σ' => nx (shV σ.length v) (fun v => nB (σ ++ σ'.map (shB σ.length)) (fun τ => K (v :: env) σ τ) .k) .k) .k)) .k := by rw [← map_R]; exact lnK_can
theorem q_bxm {x : Rf} {k : Option Nat} : lnK L vars (.bxm x k) false env σp σ K = nx (rv vars env x) (fun x => okIf (x.cells.length = kst k ∧ notUnd x = true) (nB (appR σ [⟨k, x.cells, .live⟩]) (fun τ => K (.ptr σ.length (kst k) 0 :: env) σ τ) .k)) .k := by unfold nx nB; simp only [← app_R]; exact lnK_bxm
theorem q_alc {z : List AV} {k : Option Nat} : lnK L vars (.alc z k) false env σp σ K = okIf (z.length = kst k) (nB (appR σ [⟨k, z, .live⟩]) (fun τ => K (.ptr σ.length (kst k) 0 :: env) σ τ) .k) := by rw [← app_R]; exact lnK_alc
theorem q_mks {n c : Rf} {z : List AV} {k : Option Nat} : lnK L vars (.mks n c z k) false env σp σ K = nx (rv vars env n) (fun n => nx (rv vars env c) (fun c => ii n c fun n c => okIf (0 ≤ n ∧ n ≤ c ∧ c ≤ big ∧ z.length = kst k) (nC (dupN c.toNat z) (fun cs => nB (appR σ [⟨k, cs, .live⟩]) (fun τ => K (.sl σ.length cs.length 0 n.toNat :: env) σ τ) .k) .k)) .k) .k := by
  unfold nx nC nB; simp only [← app_R]; exact lnK_mks
@[reducible] def catR : List AV → List AV
  | [] => []
  | x :: r => appR x.cells (catR r)
theorem cat_R : ∀ l : List AV, l.flatMap AV.cells = catR l
  | [] => rfl
  | x :: r => by simp only [List.flatMap_cons, catR, cat_R r, app_R]
theorem q_litm {ps : List Rf} {k : Option Nat} : lnK L vars (.litm ps k) false env σp σ K = nL (mapR (rv vars env) ps) (fun l => okIf (fitAll (kst k) l = true) (nC (catR l) (fun cs => nB (appR σ [⟨k, cs, .live⟩]) (fun τ => K (.sl σ.length cs.length 0 ps.length :: env) σ τ) .k) .k)) .k := by
  unfold nL nC nB; simp only [← app_R, ← map_R, ← cat_R]; exact lnK_litm
theorem q_nl {k : Option Nat} : lnK L vars (.nl k) false env σp σ K = nB (appR σ [⟨k, [], .nul⟩]) (fun τ => K (.sl σ.length 0 0 0 :: env) σ τ) .k := by rw [← app_R]; exact lnK_nl
/-- What is appended. -/
def src (σ : List Blk) (k : Option Nat) (x : AV) (K : Nat → List AV → Prop) (_ : Tk K) : Prop := optK (srcCells σ k x) fun p => K p.1 p.2
theorem src_snil {k : Option Nat} {K : Nat → List AV → Prop} {t : Tk K} : src σ k .snil K t = K 0 [] := (rfl)
theorem src_imm {k : Option Nat} {q : Bool} {l : List AV} {K : Nat → List AV → Prop} {t : Tk K} : src σ k (.imm q l) K t = okIf (fitAll (kst k) l = true) (nC (l.flatMap AV.cells) (fun cs => K l.length cs) .k) := by
  unfold src srcCells; by_cases h : fitAll (kst k) l = true <;> simp [h, optK, okIf, nC]
theorem src_arr {k : Option Nat} {l : List AV} {K : Nat → List AV → Prop} {t : Tk K} : src σ k (.arr l) K t = okIf (fitAll (kst k) l = true) (nL (catR l) (fun cs => K l.length cs) .k) := by
  rw [← cat_R]; unfold src srcCells; by_cases h : fitAll (kst k) l = true <;> simp [h, optK, okIf, nL]
theorem src_sl {k : Option Nat} {b u off len : Nat} {K : Nat → List AV → Prop} {t : Tk K} : src σ k (.sl b u off len) K t = bk (blk σ b) u (fun k' cs _ => okIf (off + len * kst k ≤ cs.length ∧ kst k' = kst k) (nC ((cs.drop off).take (len * kst k)) (fun cs => K len cs) .k)) .k := by
  rw [← upto_bk (K := fun B => okIf (off + len * kst k ≤ B.cells.length ∧ kst B.k = kst k) (nC ((B.cells.drop off).take (len * kst k)) (fun cs => K len cs) .k))]
  unfold src srcCells
  simp only
  cases upto σ b u with
  | none => rfl
  | some B => by_cases h : off + len * kst k ≤ B.cells.length ∧ kst B.k = kst k <;> simp [h, optK, okIf, nC]
/-- An append at the end. -/
def ap (σ : List Blk) (s : AV) (k : Option Nat) (n : Nat) (cs : List AV) (K : AV → List Blk → Prop) (_ : Tk K) : Prop := ap1 σ s k n cs K
/-- Nothing is appended, or something. -/
def nz (n : Nat) (A B : Prop) (_ : Tk A) (_ : Tk B) : Prop := (n = 0 → A) ∧ (n ≠ 0 → B)
theorem nz_zero {A B : Prop} {t : Tk A} {u : Tk B} : nz 0 A B t u = A := by simp [nz]
theorem nz_one {A B : Prop} {t : Tk A} {u : Tk B} : nz 1 A B t u = B := by simp [nz]
theorem nz_succ {n : Nat} {A B : Prop} {t : Tk A} {u : Tk B} : nz (n + 1) A B t u = B := by simp [nz]
theorem nz_any {n : Nat} {A B : Prop} {t : Tk A} {u : Tk B} : nz n A B t u = (im (n = 0) A .k ∧ im (n ≠ 0) B .k) := (rfl)
theorem ap_sl {b u off len : Nat} {k : Option Nat} {n : Nat} {cs : List AV} {K : AV → List Blk → Prop} {t : Tk K} : ap σ (.sl b u off len) k n cs K t = bk (blk σ b) u (fun k' cs' st => okIf (off = 0 ∧ u = len * kst k ∧ len + n ≤ big ∧ eqK k' k = true) (nz n (K (.sl b u off len) σ) (cs.length ≠ 0 ∧ nC (cs' ++ cs) (fun c => nB (setB σ b ⟨k', c, .live⟩) (fun τ => K (.sl b c.length 0 (len + n)) τ) .k) .k) .k .k)) .k := by
  show ap1 σ (.sl b u off len) k n cs K = _
  rw [ap1_sl, upto_bk]
  cases h : blk σ b with
  | none => rfl
  | some B =>
    obtain ⟨k', cs', st⟩ := B
    simp only [bk, nz, nC, nB, okIf, growB, h, List.length_append]
    apply propext
    constructor
    · rintro ⟨⟨rfl, h1⟩, h2, h3, h4⟩; exact ⟨⟨rfl, h1⟩, h2, h3, h4⟩
    · rintro ⟨⟨rfl, h1⟩, h2, h3, h4⟩; exact ⟨⟨rfl, h1⟩, h2, h3, h4⟩
theorem ap_snil {k : Option Nat} {n : Nat} {cs : List AV} {K : AV → List Blk → Prop} {t : Tk K} : ap σ .snil k n cs K t = nz n (K .snil σ) (n ≤ big ∧ nB (appR σ [⟨k, cs, .live⟩]) (fun τ => K (.sl σ.length cs.length 0 n) τ) .k) .k .k := by unfold nz nB; simp only [← app_R]; rfl
theorem ap_arr {l : List AV} {k : Option Nat} {n : Nat} {cs : List AV} {K : AV → List Blk → Prop} {t : Tk K} : ap σ (.arr l) k n cs K t = nz n (K (if noLocs l then .imm true l else .arr l) σ) ((fitAll (kst k) l = true ∧ l.length + n ≤ big) ∧ nC (appR (catR l) cs) (fun c => nB (appR σ [⟨k, c, .live⟩]) (fun τ => K (.sl σ.length c.length 0 (l.length + n)) τ) .k) .k) .k .k := by
  unfold nz nC nB; simp only [← app_R, ← cat_R]; rfl
theorem q_app {s x : Rf} {k : Option Nat} : lnK L vars (.app s x k) false env σp σ K = nx (rv vars env x) (fun x => src σ k x (fun n cs => nx (rv vars env s) (fun s => ap σ s k n cs (fun v τ => K (v :: env) σ τ) .k) .k) .k) .k := lnK_app
theorem q_st {p x : Rf} {n : Nat} : lnK L vars (.st p x n) false env σp σ K = nx (rv vars env p) (fun p => nx (rv vars env x) (fun x => st1 σ p x n fun τ => K (.und :: env) [] τ) .k) .k := lnK_st
def aw (σ : List Blk) (s : AV) (k : Option Nat) (n : Nat) (cs : List AV) (K : AV → List Blk → Prop) (_ : Tk K) : Prop := aw1 σ s k n cs K
theorem aw_sl {b u off len : Nat} {k : Option Nat} {n : Nat} {cs : List AV} {K : AV → List Blk → Prop} {t : Tk K} : aw σ (.sl b u off len) k n cs K t = bk (blk σ b) u (fun k' cs' st => okIf (off = 0 ∧ len + n ≤ big ∧ eqK k' k = true ∧ (n ≠ 0 → cs.length ≠ 0)) (nz n (K (.sl b u off len) σ) (gT (decide (u = len * kst k)) (nC (cs' ++ cs) (fun c => nB (setB σ b ⟨k', c, .live⟩) (fun τ => K (.sl b c.length 0 (len + n)) τ) .k) .k) ((len + n) * kst k ≤ u ∧ nC (putAt cs' (len * kst k) cs) (fun c => nB (setB σ b ⟨k', c, st⟩) (fun τ => K (.sl b u 0 (len + n)) τ) .k) .k) .k .k) .k .k)) .k := by
  show aw1 σ (.sl b u off len) k n cs K = _
  rw [aw1_sl, upto_bk]
  cases h : blk σ b with
  | none => rfl
  | some B =>
    obtain ⟨k', cs', st⟩ := B
    simp only [bk, nz, nC, nB, okIf, List.length_append, gT_dec, im]
    apply propext
    constructor
    · rintro ⟨⟨rfl, h1⟩, h2, h3, h4, h5⟩; exact ⟨⟨rfl, h1⟩, h2, h3, fun hn => ⟨h4 hn, h5 hn⟩⟩
    · rintro ⟨⟨rfl, h1⟩, h2, h3, h4⟩; exact ⟨⟨rfl, h1⟩, h2, h3, fun hn => (h4 hn).1, fun hn => (h4 hn).2⟩
theorem aw_snil {k : Option Nat} {n : Nat} {cs : List AV} {K : AV → List Blk → Prop} {t : Tk K} : aw σ .snil k n cs K t = nz n (K .snil σ) (n ≤ big ∧ nB (appR σ [⟨k, cs, .live⟩]) (fun τ => K (.sl σ.length cs.length 0 n) τ) .k) .k .k := by unfold nz nB; simp only [← app_R]; rfl
theorem aw_arr {l : List AV} {k : Option Nat} {n : Nat} {cs : List AV} {K : AV → List Blk → Prop} {t : Tk K} : aw σ (.arr l) k n cs K t = nz n (K (if noLocs l then .imm true l else .arr l) σ) ((fitAll (kst k) l = true ∧ l.length + n ≤ big) ∧ nC (appR (catR l) cs) (fun c => nB (appR σ [⟨k, c, .live⟩]) (fun τ => K (.sl σ.length c.length 0 (l.length + n)) τ) .k) .k) .k .k := by
  unfold nz nC nB; simp only [← app_R, ← cat_R]; rfl
theorem q_appw {s x : Rf} {k : Option Nat} : lnK L vars (.appw s x k) false env σp σ K = nx (rv vars env x) (fun x => src σ k x (fun n cs => nx (rv vars env s) (fun s => aw σ s k n cs (fun v τ => K (v :: env) [] τ) .k) .k) .k) .k := lnK_appw
theorem q_cam {f : Nat} {args : List Rf} : lnK L vars (.cam f args) false env σp σ K = nL (mapR (rv vars env) args) (fun as => lX L f as σ (fun v τ => nx v (fun v => nB τ (fun τ => K (v :: env) [] τ) .k) .k) .k) .k := by rw [← map_R]; exact lnK_cam
theorem q_camd {x : Rf} {args : List Rf} : lnK L vars (.camd x args) false env σp σ K = nx (rv vars env x) (fun x => fn1 x fun f caps => nL (appR (mapR (rv vars env) args) caps) (fun as => lX L f as σ (fun v τ => nx v (fun v => nB τ (fun τ => K (v :: env) [] τ) .k) .k) .k) .k) .k := by unfold nx nL lX; simp only [← map_R, ← app_R]; exact lnK_camd
theorem q_invm {x : Rf} {tbl : List (Nat × Nat)} {args : List Rf} : lnK L vars (.invm x tbl args) false env σp σ K = nx (rv vars env x) (fun x => if1 x tbl fun f v => nL (v :: mapR (rv vars env) args) (fun as => lX L f as σ (fun v τ => nx v (fun v => nB τ (fun τ => K (v :: env) [] τ) .k) .k) .k) .k) .k := by unfold nx nL lX; simp only [← map_R]; exact lnK_invm
end
section
variable {L : CE} {vars env : List AV} {σp σ : List Blk} {K : List AV → List Blk → Prop} {ls : List Ln} {op : IOp} {prev : Bool}
theorem LK_nil : LK L vars [] env σp σ K = K env σ := by unfold LK; rfl
theorem LK_none : LK L vars (⟨op, none, prev⟩ :: ls) env σp σ K = lnK L vars op prev env σp σ fun env σp σ => LK L vars ls env σp σ K := by conv => lhs; unfold LK
/-- By a flag that came before. -/
def flK (x : AV) (w : Bool) (go skip go' skip' : Prop) (_ : Tk go) (_ : Tk skip) (_ : Tk go') (_ : Tk skip') : Prop := match x with
  | .bool b => match w with
    | true => gK b go' skip'
    | false => gK b skip' go'
  | .tup [] => skip
  | _ => False
theorem flK_tup {w : Bool} {A B C D : Prop} {s : Tk A} {t : Tk B} {u : Tk C} {v : Tk D} : flK (.tup []) w A B C D s t u v = B := (rfl)
theorem flK_bt {b : Bool} {A B C D : Prop} {s : Tk A} {t : Tk B} {u : Tk C} {v : Tk D} : flK (.bool b) true A B C D s t u v = gT b C D .k .k := (rfl)
theorem flK_bf {b : Bool} {A B C D : Prop} {s : Tk A} {t : Tk B} {u : Tk C} {v : Tk D} : flK (.bool b) false A B C D s t u v = gT b D C .k .k := (rfl)
theorem flK_tt {A B C D : Prop} {s : Tk A} {t : Tk B} {u : Tk C} {v : Tk D} : flK (.bool true) true A B C D s t u v = C := gK_true
theorem flK_tf {A B C D : Prop} {s : Tk A} {t : Tk B} {u : Tk C} {v : Tk D} : flK (.bool true) false A B C D s t u v = D := gK_true
theorem flK_ft {A B C D : Prop} {s : Tk A} {t : Tk B} {u : Tk C} {v : Tk D} : flK (.bool false) true A B C D s t u v = D := gK_false
theorem flK_ff {A B C D : Prop} {s : Tk A} {t : Tk B} {u : Tk C} {v : Tk D} : flK (.bool false) false A B C D s t u v = C := gK_false
theorem LK_t {d : Nat} {w : Bool} : LK L vars (⟨op, some (.t d, w), prev⟩ :: ls) env σp σ K = nx (nth env d) (fun x => flK x w
      (lnK L vars op prev env σp σ fun env σp σ => LK L vars ls env σp σ K)
      (LK L vars ls (.tup [] :: env) σp σ K)
      (nL (setN env d (.bool w)) (fun env => lnK L vars op prev env σp σ fun env σp σ => LK L vars ls env σp σ K) .k)
      (nL (setN env d (.bool (!w))) (fun env => LK L vars ls (.tup [] :: env) σp σ K) .k) .k .k .k .k) .k := by
  conv => lhs; unfold LK
  simp only [flK, nx, nL]
  cases nth env d with
  | bool b => cases w <;> rfl
  | tup l => cases l <;> rfl
  | _ => rfl
theorem LK_v {d : Nat} {w : Bool} : LK L vars (⟨op, some (.v d, w), prev⟩ :: ls) env σp σ K = nx (nth vars d) (fun x => flK x w
      (lnK L vars op prev env σp σ fun env σp σ => LK L vars ls env σp σ K)
      (LK L vars ls (.tup [] :: env) σp σ K)
      (lnK L vars op prev env σp σ fun env σp σ => LK L vars ls env σp σ K)
      (LK L vars ls (.tup [] :: env) σp σ K) .k .k .k .k) .k := by
  conv => lhs; unfold LK
  simp only [flK, nx]
  cases nth vars d with
  | bool b => cases w <;> rfl
  | tup l => cases l <;> rfl
  | _ => rfl
end
/-- A flag behind a region. -/
def nF (fl : Option (Nat × AV)) (K : Option (Nat × AV) → Prop) (_ : Tk K) : Prop := K fl
theorem nF_none {K : Option (Nat × AV) → Prop} {t : Tk K} : nF none K t = K none := (rfl)
theorem nF_some {n : Nat} {x : AV} {K : Option (Nat × AV) → Prop} {t : Tk K} : nF (some (n, x)) K t = nx x (fun x => K (some (n, x))) .k := (rfl)
section
variable {L : CE} {vars : List AV} {fl : Option (Nat × AV)} {σ : List Blk} {Q : Ex → St → Prop}
theorem wk_reg {ls : List Ln} {os : List (Nat × Nat)} {ks : List Nat} {f : Option (Nat × Nat)} : WK L (.reg ⟨ls, os, ks, f⟩) vars fl σ Q = LK L vars ls [] σ σ fun env σ => nL (kills ks (outs env os vars)) (fun vs => nF (flOf env f) (fun f => Q .nor ⟨vs, f, σ⟩) .k) .k := WK_reg
theorem wk_cond {t : Nat} {a b : IC} {c : Bool} : WK L (.cond t a b) vars (some (t, .bool c)) σ Q = gT c (WK L a vars none σ Q) (WK L b vars none σ Q) .k .k := WK_cond
theorem wk_condv {k : Nat} {a b : IC} : WK L (.condv k a b) vars fl σ Q = nx (nth vars k) (fun x => b1 x fun c => gT c (WK L a vars fl σ Q) (WK L b vars fl σ Q) .k .k) .k := by
  rw [WK_condv]
  unfold nx b1
  cases nth vars k <;> rfl
end
attribute [simp ↓] ii_int bb_bool b1_bool i1_int s31_imm ix1_agg sq1_agg eqZ_nn eqZ_cc ln1_snil ln1_imm ln1_sl fa1_ptr fa1_pimm nc1_ptr nc1_pimm li1_int li1_bool li1_str li1_imm li1_snil li1_pimm li1_func li1_iface li1_agg fl1_agg ex1_tup bn1_snil bn1_imm bn1_cons bn1_sl ld2_pimm ld2_ptr sl2_imm sl2_sl ia1_imm ia1_sl ir1_ptr ir1_pimm fn1_func if1_iface st1_ptr
attribute [simp ↓] nx_int nx_ik nx_bool nx_str nx_agg nx_tup nx_snil nx_imm nx_arr nx_sl nx_pnil nx_pimm nx_ptr nx_fnil nx_func nx_inil nx_iface nx_und oK_some oK_none nL_nil nL_cons nB_nil nB_cons gT_true gT_false gT_not gT_dec bk_live bk_some pT_none pT_some
attribute [simp] oK_some oK_none nL_nil nL_cons nB_nil nB_cons gT_true gT_false gT_not gT_dec im_true im_false bk_live bk_some
attribute [simp] nx_int nx_ik nx_bool nx_str nx_agg nx_tup nx_snil nx_imm nx_arr nx_sl nx_pnil nx_pimm nx_ptr nx_fnil nx_func nx_inil nx_iface nx_und
attribute [simp low] nx_any nL_any nB_any nC_any gT_any im_any pq_any nz_any
attribute [simp ↓] pq_true pq_false pq_int pq_bool cl_eq src_snil src_imm src_arr src_sl nz_zero nz_one nz_succ ap_sl ap_snil ap_arr aw_sl aw_snil aw_arr
attribute [simp] pq_true pq_false pq_int pq_bool nz_zero nz_one nz_succ pk_true pk_false
attribute [simp ↓] q_mv q_bin q_beq q_seq q_idx q_not q_pick q_len q_max q_min q_fad q_iad q_iada q_nck q_bxi lnK_alc0 q_ini q_bld q_fld q_ext q_mkf q_mki q_liti q_lita q_cal q_cald q_inv q_bnl q_bnl' q_ldi q_ld q_ld' q_cvi q_slc q_slc' q_slc3 q_cab q_cab' q_can q_bxm q_alc q_mks q_litm q_nl q_app q_st q_appw q_cam q_camd q_invm LK_nil LK_none LK_t LK_v flK_tup flK_tt flK_tf flK_ft flK_ff
attribute [simp ↓ low] flK_bt flK_bf
attribute [simp ↓] nF_none nF_some wk_reg wk_cond wk_condv
theorem mapR_nil {α β : Type} {f : α → β} : mapR f [] = [] := (rfl)
theorem mapR_cons {α β : Type} {f : α → β} {x : α} {l : List α} : mapR f (x :: l) = f x :: mapR f l := (rfl)
theorem mapR_any {α β : Type} {f : α → β} {l : List α} : mapR f l = l.map f := (map_R f l).symm
theorem appR_nil {α : Type} {l : List α} : appR [] l = l := (rfl)
theorem appR_cons {α : Type} {x : α} {l m : List α} : appR (x :: l) m = x :: appR l m := (rfl)
theorem appR_any {α : Type} {l m : List α} : appR l m = l ++ m := (app_R l m).symm
attribute [simp] mapR_nil mapR_cons appR_nil appR_cons optK_some
attribute [simp low] mapR_any appR_any
end Ab
