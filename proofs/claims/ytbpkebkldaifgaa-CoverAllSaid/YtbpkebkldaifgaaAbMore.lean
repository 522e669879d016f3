/- More rules for simp: cells of blocks as lists of numbers. Condition: none. -/
import Derived.Test.YtbpkebkldaifgaaAbSimp
set_option linter.all false
namespace Ab
theorem isLive_live : BSt.isLive .live = true := (rfl)
theorem isLive_nul : BSt.isLive .nul = false := (rfl)
theorem kst_none : kst none = 1 := (rfl)
theorem kst_some {n : Nat} : kst (some n) = n := (rfl)
theorem eqK_none : eqK none none = true := (rfl)
theorem eqK_some {a b : Nat} : eqK (some a) (some b) = (a == b) := (rfl)
attribute [simp] isLive_live isLive_nul kst_none kst_some eqK_none eqK_some
/-- What is new is laid over the cells. -/
@[reducible] def overR : List AV → List AV → List AV
  | cs, [] => cs
  | [], _ => []
  | _ :: cs, y :: new => y :: overR cs new
@[reducible] def putR : List AV → Nat → List AV → List AV
  | cs, 0, new => overR cs new
  | [], _, _ => []
  | x :: cs, n + 1, new => x :: putR cs n new
theorem over_R : ∀ {cs new : List AV}, new.length ≤ cs.length → overR cs new = new ++ cs.drop new.length
  | cs, [], _ => by cases cs <;> simp [overR]
  | [], y :: new, h => by simp at h
  | c :: cs, y :: new, h => by simp [overR, over_R (cs := cs) (new := new) (by simpa using h)]
theorem put_R : ∀ {cs : List AV} {o : Nat} {new : List AV}, o + new.length ≤ cs.length → putAt cs o new = putR cs o new
  | cs, 0, new, h => by
    have e : putR cs 0 new = overR cs new := by cases cs <;> rfl
    rw [e, over_R (by simpa using h)]; simp [putAt]
  | [], o + 1, new, h => by simp at h
  | c :: cs, o + 1, new, h => by
    have e := put_R (cs := cs) (o := o) (new := new) (by simp at h; omega)
    simp only [putR]
    rw [← e]
    simp only [putAt, List.take_succ_cons, List.cons_append]
    congr 2
    rw [show o + 1 + new.length = (o + new.length) + 1 by omega, List.drop_succ_cons]
section
variable {K : List AV → Prop} {t : Tk K}
theorem pU_lit {cs : List AV} {o : Nat} {new : List AV} : pU cs o new K t = (o + new.length ≤ cs.length ∧ nL (putR cs o new) K .k) := by
  unfold pU putK nL
  by_cases h : o + new.length ≤ cs.length
  · simp only [h, true_and]; rw [put_R h]
  · simp [h]
theorem putAt_map {α : Type} {f : α → AV} {xs : List α} {o : Nat} {y : α} (h : o < xs.length) : putAt (xs.map f) o [f y] = (xs.set o y).map f := by
  unfold putAt
  rw [List.set_eq_take_append_cons_drop, if_pos h]
  simp [List.map_take, List.map_drop]
theorem pU_map {α : Type} {f : α → AV} {xs : List α} {o : Nat} {y : α} : pU (xs.map f) o [f y] K t = (o < xs.length ∧ K ((xs.set o y).map f)) := by
  unfold pU putK
  by_cases h : o < xs.length
  · simp only [List.length_map, List.length_singleton, putAt_map h]
    simp [h]; omega
  · simp [h]
    intro h'; omega
theorem pU_int {xs : List Int} {o : Nat} {y : Int} : pU (xs.map .int) o [AV.int y] K t = (o < xs.length ∧ K ((xs.set o y).map .int)) := pU_map
theorem pU_bool {xs : List Bool} {o : Nat} {y : Bool} : pU (xs.map .bool) o [AV.bool y] K t = (o < xs.length ∧ K ((xs.set o y).map .bool)) := pU_map
theorem pU_iL {xs : List (List Int)} {o : Nat} {y : List Int} : pU (xs.map iL) o [AV.imm false (y.map .int)] K t = (o < xs.length ∧ K ((xs.set o y).map iL)) := pU_map
theorem pU_bL {xs : List (List Bool)} {o : Nat} {y : List Bool} : pU (xs.map bL) o [AV.imm false (y.map .bool)] K t = (o < xs.length ∧ K ((xs.set o y).map bL)) := pU_map
theorem pU_intx {xs : List Int} {n : Int} {y : Int} : pU (xs.map .int) (0 + n.toNat * 1) [AV.int y] K t = (n.toNat < xs.length ∧ K ((xs.set n.toNat y).map .int)) := by
  rw [show 0 + n.toNat * 1 = n.toNat by omega]; exact pU_map
theorem pU_boolx {xs : List Bool} {n : Int} {y : Bool} : pU (xs.map .bool) (0 + n.toNat * 1) [AV.bool y] K t = (n.toNat < xs.length ∧ K ((xs.set n.toNat y).map .bool)) := by
  rw [show 0 + n.toNat * 1 = n.toNat by omega]; exact pU_map
theorem nC_int {xs : List Int} : nC (xs.map .int) K t = K (xs.map .int) := (rfl)
theorem nC_bool {xs : List Bool} : nC (xs.map .bool) K t = K (xs.map .bool) := (rfl)
theorem nC_iL {xs : List (List Int)} : nC (xs.map iL) K t = K (xs.map iL) := (rfl)
theorem nC_app {α : Type} {f : α → AV} {xs : List α} {y : α} : nC (xs.map f ++ [f y]) K t = K ((xs ++ [y]).map f) := by simp [nC]
theorem nC_int1 {xs : List Int} {y : Int} : nC (xs.map .int ++ [.int y]) K t = K ((xs ++ [y]).map .int) := nC_app
theorem nC_bool1 {xs : List Bool} {y : Bool} : nC (xs.map .bool ++ [.bool y]) K t = K ((xs ++ [y]).map .bool) := nC_app
theorem nC_iL1 {xs : List (List Int)} {y : List Int} : nC (xs.map iL ++ [.imm false (y.map .int)]) K t = K ((xs ++ [y]).map iL) := nC_app
theorem nC_bL1 {xs : List (List Bool)} {y : List Bool} : nC (xs.map bL ++ [.imm false (y.map .bool)]) K t = K ((xs ++ [y]).map bL) := nC_app
theorem nC_appm {α : Type} {f : α → AV} {xs ys : List α} : nC (xs.map f ++ ys.map f) K t = K ((xs ++ ys).map f) := by simp [nC]
theorem nC_nil1 {y : AV} : nC ([] ++ [y]) K t = K [y] := (rfl)
theorem nC_nilm {ys : List AV} : nC ([] ++ ys) K t = K ys := (rfl)
theorem nC_lit0 : nC [] K t = K [] := (rfl)
theorem nC_lit1 {x : AV} : nC [x] K t = K [x] := (rfl)
theorem nC_put {xs : List Int} {o : Nat} {y : Int} (h : o < xs.length) : nC (putAt (xs.map .int) o [.int y]) K t = K ((xs.set o y).map .int) := by
  unfold nC; rw [putAt_map h]
theorem nC_dup {n : Nat} {x : AV} : nC (dupN n [x]) K t = K (List.replicate n x) := by
  unfold nC dupN; congr 1; simp
theorem nC_dupb {n : Nat} {b : Bool} : nC (dupN n [.bool b]) K t = K ((List.replicate n b).map .bool) := by rw [nC_dup]; simp
theorem nC_dupi {n : Nat} {b : Int} : nC (dupN n [.int b]) K t = K ((List.replicate n b).map .int) := by rw [nC_dup]; simp
theorem nC_cells {α : Type} {f : α → AV} (h : ∀ x, (f x).cells = [f x]) {xs : List α} : nC ((xs.map f).flatMap AV.cells) K t = K (xs.map f) := by rw [cells_map h]; rfl
theorem nC_cellsi {xs : List Int} : nC ((xs.map AV.int).flatMap AV.cells) K t = K (xs.map .int) := nC_cells fun _ => rfl
theorem nC_cellsb {xs : List Bool} : nC ((xs.map AV.bool).flatMap AV.cells) K t = K (xs.map .bool) := nC_cells fun _ => rfl
theorem nC_cellsl {xs : List (List Int)} : nC ((xs.map iL).flatMap AV.cells) K t = K (xs.map iL) := nC_cells fun _ => rfl
end
section
variable {K : AV → Prop} {t : Tk K}
theorem pT_ix {α : Type} [Inhabited α] {f : α → AV} {xs : List α} {n : Int} : pT (xs.map f) (0 + n.toNat * 1) none K t = (n.toNat < xs.length ∧ K (f (ix xs n))) := by
  unfold pT part
  rw [show 0 + n.toNat * 1 = n.toNat by omega]
  simp only [elm_eq, List.getElem?_map, ix, List.getD_eq_getElem?_getD]
  by_cases h : n.toNat < xs.length
  · rw [List.getElem?_eq_getElem h]; simp [optK, h]
  · rw [List.getElem?_eq_none (by omega)]; simp [optK, h]
theorem pT_map {α : Type} [Inhabited α] {f : α → AV} {xs : List α} {n : Nat} : pT (xs.map f) n none K t = (n < xs.length ∧ K (f (ix xs n))) := by
  have := pT_ix (K := K) (t := t) (f := f) (xs := xs) (n := n)
  simpa using this
end
section
variable {K : AV → Prop} {t : Tk K}
theorem pT_bool {xs : List Bool} {n : Int} : pT (xs.map .bool) (0 + n.toNat * 1) none K t = (n.toNat < xs.length ∧ K (.bool (ix xs n))) := pT_ix
theorem pT_int {xs : List Int} {n : Int} : pT (xs.map .int) (0 + n.toNat * 1) none K t = (n.toNat < xs.length ∧ K (.int (ix xs n))) := pT_ix
end
/-- A call that sees the blocks. -/
theorem lX_oK {L : CE} {f : Nat} {l : List AV} {σ : List Blk} {K : AV → List Blk → Prop} {t : Tk K} : lX L f l σ K t = oK (L f l σ) (fun p => K p.1 p.2) .k := (rfl)
attribute [simp ↓ 20000] pU_int pU_bool pU_iL pU_bL pU_intx pU_boolx pT_ix nC_int nC_bool nC_iL nC_int1 nC_bool1 nC_iL1 nC_bL1 nC_appm nC_nil1 nC_nilm nC_lit0 nC_lit1 nC_put nC_dupb nC_dupi nC_cellsi nC_cellsb nC_cellsl
attribute [simp ↓] pU_lit nC_dup lX_oK
attribute [simp ↓ 10500] pT_map
theorem big_eq : big = 1073741824 := (rfl)
attribute [simp] big_eq
/-- A slice that grows: nothing is there yet, or something. -/
def stOf {α : Type} : List α → BSt
  | [] => .nul
  | _ :: _ => .live
theorem stOf_nil {α : Type} : stOf ([] : List α) = .nul := (rfl)
theorem stOf_cons {α : Type} {x : α} {l : List α} : stOf (x :: l) = .live := (rfl)
theorem stOf_ne {α : Type} {l : List α} : (stOf l = .dead) = False := by cases l <;> simp [stOf]
theorem stOf_app {α : Type} {x : α} {l : List α} : stOf (l ++ [x]) = .live := by cases l <;> rfl
theorem stOf_set {α : Type} {k : Nat} {x : α} {l : List α} : stOf (l.set k x) = stOf l := by cases l <;> cases k <;> rfl
theorem stOf_live {α : Type} {l : List α} : ((stOf l).isLive = true) = (l ≠ []) := by cases l <;> simp [stOf, BSt.isLive]
theorem stOf_map {α β : Type} {f : α → β} {l : List α} : stOf (l.map f) = stOf l := by cases l <;> rfl
attribute [simp] stOf_nil stOf_cons stOf_ne stOf_app stOf_set stOf_live stOf_map
theorem More_of {α : Type} {f : α → List (Nat × AV)} {g : α → List Blk} {I : α → Prop} {μ : α → Nat} {m : Nat} {vs vs' : List AV} {σ : List Blk} {Q : Ex → St → Prop} (a : α) (h : vs' = sets (f a) vs) (hg : σ = g a) (hI : I a) (hm : μ a < m) : More f g I μ m vs Q .nor ⟨vs', none, σ⟩ := ⟨a, by rw [h, hg], hI, hm⟩
theorem fillP_nil {cs : List AV} {K : List AV → Prop} {t : Tk K} : oK (fillP cs []) K t = K cs := (rfl)
theorem fillP_cons {cs : List AV} {o n : Nat} {x : AV} {r : List (Nat × Nat × AV)} {K : List AV → Prop} {t : Tk K} : oK (fillP cs ((o, n, x) :: r)) K t = nx x (fun x => (x.cells.length = n ∧ o + n ≤ cs.length ∧ notUnd x = true) ∧ nL (putR cs o x.cells) (fun cs => oK (fillP cs r) K .k) .k) .k := by
  unfold nx nL oK
  by_cases h : x.cells.length = n ∧ o + n ≤ cs.length ∧ notUnd x = true
  · have e := put_R (cs := cs) (o := o) (new := x.cells) (by rw [h.1]; exact h.2.1)
    simp only [h, and_self, true_and, fillP, ← e]
    simp [h]
  · have e : fillP cs ((o, n, x) :: r) = none := by
      unfold fillP
      rw [if_neg]
      simp only [Bool.and_eq_true, beq_iff_eq, decide_eq_true_eq, and_assoc]
      exact h
    rw [e]
    simp only [h, false_and, optK]
attribute [simp ↓] fillP_nil fillP_cons
end Ab
