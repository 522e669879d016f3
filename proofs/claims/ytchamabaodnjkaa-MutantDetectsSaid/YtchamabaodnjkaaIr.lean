/- The functions of the program as small texts, printed by a tool of mine: what is run. Condition: none. -/
import Derived.Test.YtchamabaodnjkaaIr0
set_option linter.all false
namespace Ab
def G : Nat → Option Fn := fun f => match f with
  | 3 => some ir_law33_MutantApplies
  | 4 => some ir_law33_MutantAlls
  | 5 => some ir_law33_MutantSurvivors
  | 6 => some ir_law33_MutantDiffers
  | 7 => some ir_law33_MutantDetects
  | 8 => some ir_law08_Great
  | 9 => some ir_law33_exampleHolds
  | 10 => some ir_mutant_Apply
  | 11 => some ir_ref33_Apply
  | 12 => some ir_ref06_Same
  | 13 => some ir_mutant_All
  | 14 => some ir_ref33_All
  | 15 => some ir_ref33_Same
  | 16 => some ir_law11_Small
  | 17 => some ir_law33_few
  | 18 => some ir_mutant_Survivors
  | 19 => some ir_ref33_Survivors
  | 20 => some ir_ref06_Valid
  | 21 => some ir_mealy_Outputs
  | 22 => some ir_mealy_Valid
  | 23 => some ir_equiv_Distinguish
  | 24 => some ir_mutant_fits
  | 25 => some ir_mutant_changed
  | 26 => some ir_ref33_fits
  | 27 => some ir_ref33_changed
  | 28 => some ir_ref06_Lists
  | 29 => some ir_mealy_Reach
  | 31 => some ir_mutant_transition
  | 32 => some ir_ref06_Reach
  | 33 => some ir_ref06_Outputs
  | 34 => some ir_ref33_single
  | 35 => some ir_word_Check
  | 36 => some ir_mutant_passes
  | 37 => some ir_equiv_Equal
  | 38 => some ir_ref01_Check
  | 39 => some ir_ref09_Equal
  | 40 => some ir_ref33_passes
  | 41 => some ir_ref06_row
  | 42 => some ir_slices_Compact_Sint_int
  | 43 => some ir_equiv_check
  | 44 => some ir_equiv_search
  | 45 => some ir_mutant_clone
  | 46 => some ir_slices_Clone_Sint_int
  | 47 => some ir_ref06_Ints
  | 50 => some ir_ref06_has
  | 51 => some ir_ref06_insert
  | 52 => some ir_word_permitted
  | 53 => some ir_slices_ContainsFunc_Sint_int
  | 54 => some ir_word_Check_1
  | 55 => some ir_mealy_Run
  | 56 => some ir_slices_Equal_Sint_int
  | 57 => some ir_ref01_Size
  | 58 => some ir_ref09_Distinguish
  | 59 => some ir_ref06_Run
  | 60 => some ir_word_Join
  | 72 => some ir_slices_IndexFunc_Sint_int
  | 73 => some ir_mealy_From
  | 74 => some ir_ref09_Check
  | 75 => some ir_ref09_first
  | 76 => some ir_ref06_From
  | 77 => some ir_slices_Concat_Sint_int
  | 84 => some ir_mealy_state
  | 85 => some ir_mealy_runner_run
  | 86 => some ir_ref09_Extended
  | 87 => some ir_ref06_Outs
  | 90 => some ir_mealy_machine_move
  | _ => none
def sls : Nat → List Nat := fun f => match f with
  | 3 => [0, 1, 2, 3, 5, 7, 6, 8, 4]
  | 4 => [0, 1, 3, 5, 4, 6, 2]
  | 5 => [0, 1, 2, 5, 7, 6, 8, 4]
  | 6 => [0, 1, 2, 6, 5, 7, 9, 8, 10, 108, 107, 113, 112, 12, 13, 11, 4]
  | 7 => [0, 1, 2, 6, 5, 7, 8, 11, 10, 9, 13, 12, 107, 106, 14, 15, 4]
  | 8 => [0, 1, 23, 22, 3, 37, 36, 4, 2]
  | 9 => [1, 3, 6, 8, 10, 2, 4, 5, 7, 0]
  | 10 => [0, 1, 2, 6, 4, 3, 5]
  | 11 => [0, 1, 2, 6, 4, 3, 8, 10, 9, 7, 11, 5]
  | 12 => [0, 1, 2, 3, 4]
  | 13 => [0, 1, 4, 5, 24, 23, 22, 30, 29, 7, 9, 10, 6, 2, 3]
  | 14 => [0, 1, 4, 7, 6, 5, 10, 11, 9, 8, 2, 3]
  | 15 => [0, 1, 5, 4]
  | 16 => [0, 1, 2]
  | 17 => [0, 9, 8, 3, 2]
  | 18 => [0, 1, 2, 7, 27, 26, 25, 9, 10, 6, 41, 40, 39, 13, 14, 16, 15, 11, 4, 5]
  | 19 => [0, 1, 2, 7, 8, 9, 11, 6, 12, 14, 10, 4, 5]
  | 20 => [0, 1, 3, 4, 2]
  | 21 => [0, 1, 12, 11, 10, 3, 5, 2]
  | 22 => [0, 1, 3, 43, 42, 4, 68, 67, 5, 6, 7, 2]
  | 23 => [0, 1, 2, 3, 7, 8, 9, 4, 5, 6]
  | 24 => [0, 1, 3, 2, 29, 4]
  | 25 => [0, 1, 2, 3, 11, 5, 6, 7, 4]
  | 26 => [0, 1, 3, 2, 34, 4]
  | 27 => [0, 1, 2, 8, 7, 6]
  | 28 => [0, 1, 5, 4]
  | 29 => [0, 1, 3, 5, 4, 37, 36, 35, 7, 2]
  | 31 => [0, 1, 2, 3, 4, 27, 26, 25, 12, 9, 52, 51, 13, 10, 73, 72, 78, 77, 76, 16, 14, 8]
  | 32 => [0, 1, 4, 3, 5, 2]
  | 33 => [0, 1, 4, 5, 3, 2]
  | 34 => [0, 1, 2, 3, 10, 4, 9, 12, 11, 13, 14, 8]
  | 35 => [0, 1, 3, 4]
  | 36 => [0, 1, 2, 15, 14, 13, 3, 8, 4, 9, 11, 6]
  | 37 => [0, 1, 2, 3, 8, 7, 4, 5]
  | 38 => [0, 1, 5, 4]
  | 39 => [0, 1, 2, 3, 8, 7, 4, 5]
  | 40 => [0, 1, 2, 7, 3, 4, 8, 10, 6]
  | 41 => [0, 1, 2, 5, 4]
  | 42 => [0, 3, 5, 4, 2]
  | 43 => [0, 1, 2, 3, 11, 10, 6, 7, 4]
  | 44 => [0, 1, 2, 3, 8, 21, 20, 9, 4, 5, 11, 10, 56, 55, 12, 13, 14, 6, 7]
  | 45 => [0, 1, 13, 12, 3, 4, 2]
  | 46 => [0, 2]
  | 47 => [0, 1, 5, 4]
  | 50 => [0, 1, 5, 4]
  | 51 => [0, 1, 7, 6, 5, 4]
  | 52 => [0, 2]
  | 53 => [0, 1, 4]
  | 54 => [0, 1, 3]
  | 55 => [0, 1, 2, 6, 8, 4, 5]
  | 56 => [0, 1, 13, 12, 5, 4]
  | 57 => [0, 2]
  | 58 => [0, 1, 2, 3, 7, 8, 9, 4, 5, 6]
  | 59 => [0, 1, 2, 6, 8, 4, 5]
  | 60 => [0, 2]
  | 72 => [0, 1, 8, 7, 5, 4]
  | 73 => [0, 1, 2, 3, 9, 10, 11, 12, 6, 7, 8]
  | 74 => [0, 1, 2, 5, 3, 6, 4]
  | 75 => [0, 1, 2, 3, 11, 10, 12, 4, 5, 13, 17, 16, 14, 15, 8, 9]
  | 76 => [0, 1, 2, 3, 9, 10, 11, 12, 6, 7, 8]
  | 77 => [0, 11, 10, 9, 3, 5, 27, 26, 25, 6, 8, 2]
  | 84 => [0, 1, 2, 5, 4]
  | 85 => [0, 1, 12, 11, 10, 7, 8, 5, 9, 4]
  | 86 => [0, 1, 5, 4]
  | 87 => [0, 1, 2, 9, 8, 3, 6, 7]
  | 90 => [0, 1, 2, 3, 6, 7]
  | _ => []
def Q : Prims := fun f => match f with
  | 30 => some pSortI
  | 88 => some pGrow
  | _ => none
theorem Q_mono : PrimsMono Q := by
  intro f p h
  unfold Q at h
  split at h
  · cases h; exact pSortI_mono
  · cases h; exact pGrow_mono
  · cases h
/-- The interpreter with as much fuel as is wanted. -/
noncomputable def L : CE := lim G Q
theorem lim_L {f m k : Nat} (fn : Fn) {b : IC} {args : List AV} {σ : List Blk} {K : AV → List Blk → Prop} (hq : Q f = none) (hg : G f = some fn) (hb : fn.body = b) (hm : fn.np = m) (hk : fn.nv - fn.np = k) (hl : args.length = m) (h : WK L b (args ++ List.replicate k .und) none σ (EndsK fn K)) : LX L f args σ K := by subst hb; subst hm; subst hk; exact lim_LX Q_mono fn hq hg hl h
theorem go_law33_MutantApplies {args : List AV} {σ : List Blk} {K : AV → List Blk → Prop} (hl : args.length = 2) (h : WK L ir_law33_MutantApplies.body (args ++ List.replicate 7 .und) none σ (EndsK ir_law33_MutantApplies K)) : LX L F_law33_MutantApplies args σ K := lim_L (f := F_law33_MutantApplies) (m := 2) (k := 7) ir_law33_MutantApplies rfl rfl rfl rfl rfl hl h
theorem go_law33_MutantAlls {args : List AV} {σ : List Blk} {K : AV → List Blk → Prop} (hl : args.length = 1) (h : WK L ir_law33_MutantAlls.body (args ++ List.replicate 6 .und) none σ (EndsK ir_law33_MutantAlls K)) : LX L F_law33_MutantAlls args σ K := lim_L (f := F_law33_MutantAlls) (m := 1) (k := 6) ir_law33_MutantAlls rfl rfl rfl rfl rfl hl h
theorem go_law33_MutantSurvivors {args : List AV} {σ : List Blk} {K : AV → List Blk → Prop} (hl : args.length = 2) (h : WK L ir_law33_MutantSurvivors.body (args ++ List.replicate 6 .und) none σ (EndsK ir_law33_MutantSurvivors K)) : LX L F_law33_MutantSurvivors args σ K := lim_L (f := F_law33_MutantSurvivors) (m := 2) (k := 6) ir_law33_MutantSurvivors rfl rfl rfl rfl rfl hl h
theorem go_law33_MutantDiffers {args : List AV} {σ : List Blk} {K : AV → List Blk → Prop} (hl : args.length = 2) (h : WK L ir_law33_MutantDiffers.body (args ++ List.replicate 15 .und) none σ (EndsK ir_law33_MutantDiffers K)) : LX L F_law33_MutantDiffers args σ K := lim_L (f := F_law33_MutantDiffers) (m := 2) (k := 15) ir_law33_MutantDiffers rfl rfl rfl rfl rfl hl h
theorem go_law33_MutantDetects {args : List AV} {σ : List Blk} {K : AV → List Blk → Prop} (hl : args.length = 2) (h : WK L ir_law33_MutantDetects.body (args ++ List.replicate 15 .und) none σ (EndsK ir_law33_MutantDetects K)) : LX L F_law33_MutantDetects args σ K := lim_L (f := F_law33_MutantDetects) (m := 2) (k := 15) ir_law33_MutantDetects rfl rfl rfl rfl rfl hl h
theorem go_law08_Great {args : List AV} {σ : List Blk} {K : AV → List Blk → Prop} (hl : args.length = 1) (h : WK L ir_law08_Great.body (args ++ List.replicate 8 .und) none σ (EndsK ir_law08_Great K)) : LX L F_law08_Great args σ K := lim_L (f := F_law08_Great) (m := 1) (k := 8) ir_law08_Great rfl rfl rfl rfl rfl hl h
theorem go_law33_exampleHolds {args : List AV} {σ : List Blk} {K : AV → List Blk → Prop} (hl : args.length = 0) (h : WK L ir_law33_exampleHolds.body (args ++ List.replicate 10 .und) none σ (EndsK ir_law33_exampleHolds K)) : LX L F_law33_exampleHolds args σ K := lim_L (f := F_law33_exampleHolds) (m := 0) (k := 10) ir_law33_exampleHolds rfl rfl rfl rfl rfl hl h
theorem go_mutant_Apply {args : List AV} {σ : List Blk} {K : AV → List Blk → Prop} (hl : args.length = 2) (h : WK L ir_mutant_Apply.body (args ++ List.replicate 5 .und) none σ (EndsK ir_mutant_Apply K)) : LX L F_mutant_Apply args σ K := lim_L (f := F_mutant_Apply) (m := 2) (k := 5) ir_mutant_Apply rfl rfl rfl rfl rfl hl h
theorem go_ref33_Apply {args : List AV} {σ : List Blk} {K : AV → List Blk → Prop} (hl : args.length = 2) (h : WK L ir_ref33_Apply.body (args ++ List.replicate 10 .und) none σ (EndsK ir_ref33_Apply K)) : LX L F_ref33_Apply args σ K := lim_L (f := F_ref33_Apply) (m := 2) (k := 10) ir_ref33_Apply rfl rfl rfl rfl rfl hl h
theorem go_ref06_Same {args : List AV} {σ : List Blk} {K : AV → List Blk → Prop} (hl : args.length = 2) (h : WK L ir_ref06_Same.body (args ++ List.replicate 3 .und) none σ (EndsK ir_ref06_Same K)) : LX L F_ref06_Same args σ K := lim_L (f := F_ref06_Same) (m := 2) (k := 3) ir_ref06_Same rfl rfl rfl rfl rfl hl h
theorem go_mutant_All {args : List AV} {σ : List Blk} {K : AV → List Blk → Prop} (hl : args.length = 1) (h : WK L ir_mutant_All.body (args ++ List.replicate 14 .und) none σ (EndsK ir_mutant_All K)) : LX L F_mutant_All args σ K := lim_L (f := F_mutant_All) (m := 1) (k := 14) ir_mutant_All rfl rfl rfl rfl rfl hl h
theorem go_ref33_All {args : List AV} {σ : List Blk} {K : AV → List Blk → Prop} (hl : args.length = 1) (h : WK L ir_ref33_All.body (args ++ List.replicate 11 .und) none σ (EndsK ir_ref33_All K)) : LX L F_ref33_All args σ K := lim_L (f := F_ref33_All) (m := 1) (k := 11) ir_ref33_All rfl rfl rfl rfl rfl hl h
theorem go_ref33_Same {args : List AV} {σ : List Blk} {K : AV → List Blk → Prop} (hl : args.length = 2) (h : WK L ir_ref33_Same.body (args ++ List.replicate 2 .und) none σ (EndsK ir_ref33_Same K)) : LX L F_ref33_Same args σ K := lim_L (f := F_ref33_Same) (m := 2) (k := 2) ir_ref33_Same rfl rfl rfl rfl rfl hl h
theorem go_law11_Small {args : List AV} {σ : List Blk} {K : AV → List Blk → Prop} (hl : args.length = 1) (h : WK L ir_law11_Small.body (args ++ List.replicate 2 .und) none σ (EndsK ir_law11_Small K)) : LX L F_law11_Small args σ K := lim_L (f := F_law11_Small) (m := 1) (k := 2) ir_law11_Small rfl rfl rfl rfl rfl hl h
theorem go_law33_few {args : List AV} {σ : List Blk} {K : AV → List Blk → Prop} (hl : args.length = 1) (h : WK L ir_law33_few.body (args ++ List.replicate 4 .und) none σ (EndsK ir_law33_few K)) : LX L F_law33_few args σ K := lim_L (f := F_law33_few) (m := 1) (k := 4) ir_law33_few rfl rfl rfl rfl rfl hl h
theorem go_mutant_Survivors {args : List AV} {σ : List Blk} {K : AV → List Blk → Prop} (hl : args.length = 2) (h : WK L ir_mutant_Survivors.body (args ++ List.replicate 18 .und) none σ (EndsK ir_mutant_Survivors K)) : LX L F_mutant_Survivors args σ K := lim_L (f := F_mutant_Survivors) (m := 2) (k := 18) ir_mutant_Survivors rfl rfl rfl rfl rfl hl h
theorem go_ref33_Survivors {args : List AV} {σ : List Blk} {K : AV → List Blk → Prop} (hl : args.length = 2) (h : WK L ir_ref33_Survivors.body (args ++ List.replicate 11 .und) none σ (EndsK ir_ref33_Survivors K)) : LX L F_ref33_Survivors args σ K := lim_L (f := F_ref33_Survivors) (m := 2) (k := 11) ir_ref33_Survivors rfl rfl rfl rfl rfl hl h
theorem go_ref06_Valid {args : List AV} {σ : List Blk} {K : AV → List Blk → Prop} (hl : args.length = 1) (h : WK L ir_ref06_Valid.body (args ++ List.replicate 4 .und) none σ (EndsK ir_ref06_Valid K)) : LX L F_ref06_Valid args σ K := lim_L (f := F_ref06_Valid) (m := 1) (k := 4) ir_ref06_Valid rfl rfl rfl rfl rfl hl h
theorem go_mealy_Outputs {args : List AV} {σ : List Blk} {K : AV → List Blk → Prop} (hl : args.length = 1) (h : WK L ir_mealy_Outputs.body (args ++ List.replicate 7 .und) none σ (EndsK ir_mealy_Outputs K)) : LX L F_mealy_Outputs args σ K := lim_L (f := F_mealy_Outputs) (m := 1) (k := 7) ir_mealy_Outputs rfl rfl rfl rfl rfl hl h
theorem go_mealy_Valid {args : List AV} {σ : List Blk} {K : AV → List Blk → Prop} (hl : args.length = 1) (h : WK L ir_mealy_Valid.body (args ++ List.replicate 11 .und) none σ (EndsK ir_mealy_Valid K)) : LX L F_mealy_Valid args σ K := lim_L (f := F_mealy_Valid) (m := 1) (k := 11) ir_mealy_Valid rfl rfl rfl rfl rfl hl h
theorem go_equiv_Distinguish {args : List AV} {σ : List Blk} {K : AV → List Blk → Prop} (hl : args.length = 2) (h : WK L ir_equiv_Distinguish.body (args ++ List.replicate 8 .und) none σ (EndsK ir_equiv_Distinguish K)) : LX L F_equiv_Distinguish args σ K := lim_L (f := F_equiv_Distinguish) (m := 2) (k := 8) ir_equiv_Distinguish rfl rfl rfl rfl rfl hl h
theorem go_mutant_fits {args : List AV} {σ : List Blk} {K : AV → List Blk → Prop} (hl : args.length = 2) (h : WK L ir_mutant_fits.body (args ++ List.replicate 4 .und) none σ (EndsK ir_mutant_fits K)) : LX L F_mutant_fits args σ K := lim_L (f := F_mutant_fits) (m := 2) (k := 4) ir_mutant_fits rfl rfl rfl rfl rfl hl h
theorem go_mutant_changed {args : List AV} {σ : List Blk} {K : AV → List Blk → Prop} (hl : args.length = 2) (h : WK L ir_mutant_changed.body (args ++ List.replicate 7 .und) none σ (EndsK ir_mutant_changed K)) : LX L F_mutant_changed args σ K := lim_L (f := F_mutant_changed) (m := 2) (k := 7) ir_mutant_changed rfl rfl rfl rfl rfl hl h
theorem go_ref33_fits {args : List AV} {σ : List Blk} {K : AV → List Blk → Prop} (hl : args.length = 2) (h : WK L ir_ref33_fits.body (args ++ List.replicate 4 .und) none σ (EndsK ir_ref33_fits K)) : LX L F_ref33_fits args σ K := lim_L (f := F_ref33_fits) (m := 2) (k := 4) ir_ref33_fits rfl rfl rfl rfl rfl hl h
theorem go_ref33_changed {args : List AV} {σ : List Blk} {K : AV → List Blk → Prop} (hl : args.length = 3) (h : WK L ir_ref33_changed.body (args ++ List.replicate 3 .und) none σ (EndsK ir_ref33_changed K)) : LX L F_ref33_changed args σ K := lim_L (f := F_ref33_changed) (m := 3) (k := 3) ir_ref33_changed rfl rfl rfl rfl rfl hl h
theorem go_ref06_Lists {args : List AV} {σ : List Blk} {K : AV → List Blk → Prop} (hl : args.length = 2) (h : WK L ir_ref06_Lists.body (args ++ List.replicate 2 .und) none σ (EndsK ir_ref06_Lists K)) : LX L F_ref06_Lists args σ K := lim_L (f := F_ref06_Lists) (m := 2) (k := 2) ir_ref06_Lists rfl rfl rfl rfl rfl hl h
theorem go_mealy_Reach {args : List AV} {σ : List Blk} {K : AV → List Blk → Prop} (hl : args.length = 1) (h : WK L ir_mealy_Reach.body (args ++ List.replicate 9 .und) none σ (EndsK ir_mealy_Reach K)) : LX L F_mealy_Reach args σ K := lim_L (f := F_mealy_Reach) (m := 1) (k := 9) ir_mealy_Reach rfl rfl rfl rfl rfl hl h
theorem go_slices_Sort_Sint_int {N : Nat} {args : List AV} {σ : List Blk} {x : AV × List Blk} (h : pSortI (cN G Q N) args σ = some x) : L F_slices_Sort_Sint_int args σ = some x := lim_prim Q_mono (f := F_slices_Sort_Sint_int) rfl h
theorem go_mutant_transition {args : List AV} {σ : List Blk} {K : AV → List Blk → Prop} (hl : args.length = 4) (h : WK L ir_mutant_transition.body (args ++ List.replicate 18 .und) none σ (EndsK ir_mutant_transition K)) : LX L F_mutant_transition args σ K := lim_L (f := F_mutant_transition) (m := 4) (k := 18) ir_mutant_transition rfl rfl rfl rfl rfl hl h
theorem go_ref06_Reach {args : List AV} {σ : List Blk} {K : AV → List Blk → Prop} (hl : args.length = 1) (h : WK L ir_ref06_Reach.body (args ++ List.replicate 5 .und) none σ (EndsK ir_ref06_Reach K)) : LX L F_ref06_Reach args σ K := lim_L (f := F_ref06_Reach) (m := 1) (k := 5) ir_ref06_Reach rfl rfl rfl rfl rfl hl h
theorem go_ref06_Outputs {args : List AV} {σ : List Blk} {K : AV → List Blk → Prop} (hl : args.length = 1) (h : WK L ir_ref06_Outputs.body (args ++ List.replicate 5 .und) none σ (EndsK ir_ref06_Outputs K)) : LX L F_ref06_Outputs args σ K := lim_L (f := F_ref06_Outputs) (m := 1) (k := 5) ir_ref06_Outputs rfl rfl rfl rfl rfl hl h
theorem go_ref33_single {args : List AV} {σ : List Blk} {K : AV → List Blk → Prop} (hl : args.length = 4) (h : WK L ir_ref33_single.body (args ++ List.replicate 8 .und) none σ (EndsK ir_ref33_single K)) : LX L F_ref33_single args σ K := lim_L (f := F_ref33_single) (m := 4) (k := 8) ir_ref33_single rfl rfl rfl rfl rfl hl h
theorem go_word_Check {args : List AV} {σ : List Blk} {K : AV → List Blk → Prop} (hl : args.length = 2) (h : WK L ir_word_Check.body (args ++ List.replicate 2 .und) none σ (EndsK ir_word_Check K)) : LX L F_word_Check args σ K := lim_L (f := F_word_Check) (m := 2) (k := 2) ir_word_Check rfl rfl rfl rfl rfl hl h
theorem go_mutant_passes {args : List AV} {σ : List Blk} {K : AV → List Blk → Prop} (hl : args.length = 3) (h : WK L ir_mutant_passes.body (args ++ List.replicate 9 .und) none σ (EndsK ir_mutant_passes K)) : LX L F_mutant_passes args σ K := lim_L (f := F_mutant_passes) (m := 3) (k := 9) ir_mutant_passes rfl rfl rfl rfl rfl hl h
theorem go_equiv_Equal {args : List AV} {σ : List Blk} {K : AV → List Blk → Prop} (hl : args.length = 2) (h : WK L ir_equiv_Equal.body (args ++ List.replicate 6 .und) none σ (EndsK ir_equiv_Equal K)) : LX L F_equiv_Equal args σ K := lim_L (f := F_equiv_Equal) (m := 2) (k := 6) ir_equiv_Equal rfl rfl rfl rfl rfl hl h
theorem go_ref01_Check {args : List AV} {σ : List Blk} {K : AV → List Blk → Prop} (hl : args.length = 2) (h : WK L ir_ref01_Check.body (args ++ List.replicate 2 .und) none σ (EndsK ir_ref01_Check K)) : LX L F_ref01_Check args σ K := lim_L (f := F_ref01_Check) (m := 2) (k := 2) ir_ref01_Check rfl rfl rfl rfl rfl hl h
theorem go_ref09_Equal {args : List AV} {σ : List Blk} {K : AV → List Blk → Prop} (hl : args.length = 2) (h : WK L ir_ref09_Equal.body (args ++ List.replicate 6 .und) none σ (EndsK ir_ref09_Equal K)) : LX L F_ref09_Equal args σ K := lim_L (f := F_ref09_Equal) (m := 2) (k := 6) ir_ref09_Equal rfl rfl rfl rfl rfl hl h
theorem go_ref33_passes {args : List AV} {σ : List Blk} {K : AV → List Blk → Prop} (hl : args.length = 3) (h : WK L ir_ref33_passes.body (args ++ List.replicate 6 .und) none σ (EndsK ir_ref33_passes K)) : LX L F_ref33_passes args σ K := lim_L (f := F_ref33_passes) (m := 3) (k := 6) ir_ref33_passes rfl rfl rfl rfl rfl hl h
theorem go_ref06_row {args : List AV} {σ : List Blk} {K : AV → List Blk → Prop} (hl : args.length = 2) (h : WK L ir_ref06_row.body (args ++ List.replicate 3 .und) none σ (EndsK ir_ref06_row K)) : LX L F_ref06_row args σ K := lim_L (f := F_ref06_row) (m := 2) (k := 3) ir_ref06_row rfl rfl rfl rfl rfl hl h
theorem go_slices_Compact_Sint_int {args : List AV} {σ : List Blk} {K : AV → List Blk → Prop} (hl : args.length = 1) (h : WK L ir_slices_Compact_Sint_int.body (args ++ List.replicate 4 .und) none σ (EndsK ir_slices_Compact_Sint_int K)) : LX L F_slices_Compact_Sint_int args σ K := lim_L (f := F_slices_Compact_Sint_int) (m := 1) (k := 4) ir_slices_Compact_Sint_int rfl rfl rfl rfl rfl hl h
theorem go_equiv_check {args : List AV} {σ : List Blk} {K : AV → List Blk → Prop} (hl : args.length = 2) (h : WK L ir_equiv_check.body (args ++ List.replicate 7 .und) none σ (EndsK ir_equiv_check K)) : LX L F_equiv_check args σ K := lim_L (f := F_equiv_check) (m := 2) (k := 7) ir_equiv_check rfl rfl rfl rfl rfl hl h
theorem go_equiv_search {args : List AV} {σ : List Blk} {K : AV → List Blk → Prop} (hl : args.length = 3) (h : WK L ir_equiv_search.body (args ++ List.replicate 16 .und) none σ (EndsK ir_equiv_search K)) : LX L F_equiv_search args σ K := lim_L (f := F_equiv_search) (m := 3) (k := 16) ir_equiv_search rfl rfl rfl rfl rfl hl h
theorem go_mutant_clone {args : List AV} {σ : List Blk} {K : AV → List Blk → Prop} (hl : args.length = 1) (h : WK L ir_mutant_clone.body (args ++ List.replicate 6 .und) none σ (EndsK ir_mutant_clone K)) : LX L F_mutant_clone args σ K := lim_L (f := F_mutant_clone) (m := 1) (k := 6) ir_mutant_clone rfl rfl rfl rfl rfl hl h
theorem go_slices_Clone_Sint_int {args : List AV} {σ : List Blk} {K : AV → List Blk → Prop} (hl : args.length = 1) (h : WK L ir_slices_Clone_Sint_int.body (args ++ List.replicate 1 .und) none σ (EndsK ir_slices_Clone_Sint_int K)) : LX L F_slices_Clone_Sint_int args σ K := lim_L (f := F_slices_Clone_Sint_int) (m := 1) (k := 1) ir_slices_Clone_Sint_int rfl rfl rfl rfl rfl hl h
theorem go_ref06_Ints {args : List AV} {σ : List Blk} {K : AV → List Blk → Prop} (hl : args.length = 2) (h : WK L ir_ref06_Ints.body (args ++ List.replicate 2 .und) none σ (EndsK ir_ref06_Ints K)) : LX L F_ref06_Ints args σ K := lim_L (f := F_ref06_Ints) (m := 2) (k := 2) ir_ref06_Ints rfl rfl rfl rfl rfl hl h
theorem go_ref06_has {args : List AV} {σ : List Blk} {K : AV → List Blk → Prop} (hl : args.length = 2) (h : WK L ir_ref06_has.body (args ++ List.replicate 2 .und) none σ (EndsK ir_ref06_has K)) : LX L F_ref06_has args σ K := lim_L (f := F_ref06_has) (m := 2) (k := 2) ir_ref06_has rfl rfl rfl rfl rfl hl h
theorem go_ref06_insert {args : List AV} {σ : List Blk} {K : AV → List Blk → Prop} (hl : args.length = 2) (h : WK L ir_ref06_insert.body (args ++ List.replicate 4 .und) none σ (EndsK ir_ref06_insert K)) : LX L F_ref06_insert args σ K := lim_L (f := F_ref06_insert) (m := 2) (k := 4) ir_ref06_insert rfl rfl rfl rfl rfl hl h
theorem go_word_permitted {args : List AV} {σ : List Blk} {K : AV → List Blk → Prop} (hl : args.length = 1) (h : WK L ir_word_permitted.body (args ++ List.replicate 1 .und) none σ (EndsK ir_word_permitted K)) : LX L F_word_permitted args σ K := lim_L (f := F_word_permitted) (m := 1) (k := 1) ir_word_permitted rfl rfl rfl rfl rfl hl h
theorem go_slices_ContainsFunc_Sint_int {args : List AV} {σ : List Blk} {K : AV → List Blk → Prop} (hl : args.length = 2) (h : WK L ir_slices_ContainsFunc_Sint_int.body (args ++ List.replicate 1 .und) none σ (EndsK ir_slices_ContainsFunc_Sint_int K)) : LX L F_slices_ContainsFunc_Sint_int args σ K := lim_L (f := F_slices_ContainsFunc_Sint_int) (m := 2) (k := 1) ir_slices_ContainsFunc_Sint_int rfl rfl rfl rfl rfl hl h
theorem go_word_Check_1 {args : List AV} {σ : List Blk} {K : AV → List Blk → Prop} (hl : args.length = 2) (h : WK L ir_word_Check_1.body (args ++ List.replicate 1 .und) none σ (EndsK ir_word_Check_1 K)) : LX L F_word_Check_1 args σ K := lim_L (f := F_word_Check_1) (m := 2) (k := 1) ir_word_Check_1 rfl rfl rfl rfl rfl hl h
theorem go_mealy_Run {args : List AV} {σ : List Blk} {K : AV → List Blk → Prop} (hl : args.length = 2) (h : WK L ir_mealy_Run.body (args ++ List.replicate 5 .und) none σ (EndsK ir_mealy_Run K)) : LX L F_mealy_Run args σ K := lim_L (f := F_mealy_Run) (m := 2) (k := 5) ir_mealy_Run rfl rfl rfl rfl rfl hl h
theorem go_slices_Equal_Sint_int {args : List AV} {σ : List Blk} {K : AV → List Blk → Prop} (hl : args.length = 2) (h : WK L ir_slices_Equal_Sint_int.body (args ++ List.replicate 4 .und) none σ (EndsK ir_slices_Equal_Sint_int K)) : LX L F_slices_Equal_Sint_int args σ K := lim_L (f := F_slices_Equal_Sint_int) (m := 2) (k := 4) ir_slices_Equal_Sint_int rfl rfl rfl rfl rfl hl h
theorem go_ref01_Size {args : List AV} {σ : List Blk} {K : AV → List Blk → Prop} (hl : args.length = 1) (h : WK L ir_ref01_Size.body (args ++ List.replicate 1 .und) none σ (EndsK ir_ref01_Size K)) : LX L F_ref01_Size args σ K := lim_L (f := F_ref01_Size) (m := 1) (k := 1) ir_ref01_Size rfl rfl rfl rfl rfl hl h
theorem go_ref09_Distinguish {args : List AV} {σ : List Blk} {K : AV → List Blk → Prop} (hl : args.length = 2) (h : WK L ir_ref09_Distinguish.body (args ++ List.replicate 8 .und) none σ (EndsK ir_ref09_Distinguish K)) : LX L F_ref09_Distinguish args σ K := lim_L (f := F_ref09_Distinguish) (m := 2) (k := 8) ir_ref09_Distinguish rfl rfl rfl rfl rfl hl h
theorem go_ref06_Run {args : List AV} {σ : List Blk} {K : AV → List Blk → Prop} (hl : args.length = 2) (h : WK L ir_ref06_Run.body (args ++ List.replicate 5 .und) none σ (EndsK ir_ref06_Run K)) : LX L F_ref06_Run args σ K := lim_L (f := F_ref06_Run) (m := 2) (k := 5) ir_ref06_Run rfl rfl rfl rfl rfl hl h
theorem go_word_Join {args : List AV} {σ : List Blk} {K : AV → List Blk → Prop} (hl : args.length = 1) (h : WK L ir_word_Join.body (args ++ List.replicate 1 .und) none σ (EndsK ir_word_Join K)) : LX L F_word_Join args σ K := lim_L (f := F_word_Join) (m := 1) (k := 1) ir_word_Join rfl rfl rfl rfl rfl hl h
theorem go_slices_IndexFunc_Sint_int {args : List AV} {σ : List Blk} {K : AV → List Blk → Prop} (hl : args.length = 2) (h : WK L ir_slices_IndexFunc_Sint_int.body (args ++ List.replicate 4 .und) none σ (EndsK ir_slices_IndexFunc_Sint_int K)) : LX L F_slices_IndexFunc_Sint_int args σ K := lim_L (f := F_slices_IndexFunc_Sint_int) (m := 2) (k := 4) ir_slices_IndexFunc_Sint_int rfl rfl rfl rfl rfl hl h
theorem go_mealy_From {args : List AV} {σ : List Blk} {K : AV → List Blk → Prop} (hl : args.length = 3) (h : WK L ir_mealy_From.body (args ++ List.replicate 8 .und) none σ (EndsK ir_mealy_From K)) : LX L F_mealy_From args σ K := lim_L (f := F_mealy_From) (m := 3) (k := 8) ir_mealy_From rfl rfl rfl rfl rfl hl h
theorem go_ref09_Check {args : List AV} {σ : List Blk} {K : AV → List Blk → Prop} (hl : args.length = 2) (h : WK L ir_ref09_Check.body (args ++ List.replicate 5 .und) none σ (EndsK ir_ref09_Check K)) : LX L F_ref09_Check args σ K := lim_L (f := F_ref09_Check) (m := 2) (k := 5) ir_ref09_Check rfl rfl rfl rfl rfl hl h
theorem go_ref09_first {args : List AV} {σ : List Blk} {K : AV → List Blk → Prop} (hl : args.length = 4) (h : WK L ir_ref09_first.body (args ++ List.replicate 12 .und) none σ (EndsK ir_ref09_first K)) : LX L F_ref09_first args σ K := lim_L (f := F_ref09_first) (m := 4) (k := 12) ir_ref09_first rfl rfl rfl rfl rfl hl h
theorem go_ref06_From {args : List AV} {σ : List Blk} {K : AV → List Blk → Prop} (hl : args.length = 3) (h : WK L ir_ref06_From.body (args ++ List.replicate 8 .und) none σ (EndsK ir_ref06_From K)) : LX L F_ref06_From args σ K := lim_L (f := F_ref06_From) (m := 3) (k := 8) ir_ref06_From rfl rfl rfl rfl rfl hl h
theorem go_slices_Concat_Sint_int {args : List AV} {σ : List Blk} {K : AV → List Blk → Prop} (hl : args.length = 1) (h : WK L ir_slices_Concat_Sint_int.body (args ++ List.replicate 11 .und) none σ (EndsK ir_slices_Concat_Sint_int K)) : LX L F_slices_Concat_Sint_int args σ K := lim_L (f := F_slices_Concat_Sint_int) (m := 1) (k := 11) ir_slices_Concat_Sint_int rfl rfl rfl rfl rfl hl h
theorem go_mealy_state {args : List AV} {σ : List Blk} {K : AV → List Blk → Prop} (hl : args.length = 2) (h : WK L ir_mealy_state.body (args ++ List.replicate 3 .und) none σ (EndsK ir_mealy_state K)) : LX L F_mealy_state args σ K := lim_L (f := F_mealy_state) (m := 2) (k := 3) ir_mealy_state rfl rfl rfl rfl rfl hl h
theorem go_mealy_runner_run {args : List AV} {σ : List Blk} {K : AV → List Blk → Prop} (hl : args.length = 2) (h : WK L ir_mealy_runner_run.body (args ++ List.replicate 8 .und) none σ (EndsK ir_mealy_runner_run K)) : LX L F_mealy_runner_run args σ K := lim_L (f := F_mealy_runner_run) (m := 2) (k := 8) ir_mealy_runner_run rfl rfl rfl rfl rfl hl h
theorem go_ref09_Extended {args : List AV} {σ : List Blk} {K : AV → List Blk → Prop} (hl : args.length = 2) (h : WK L ir_ref09_Extended.body (args ++ List.replicate 2 .und) none σ (EndsK ir_ref09_Extended K)) : LX L F_ref09_Extended args σ K := lim_L (f := F_ref09_Extended) (m := 2) (k := 2) ir_ref09_Extended rfl rfl rfl rfl rfl hl h
theorem go_ref06_Outs {args : List AV} {σ : List Blk} {K : AV → List Blk → Prop} (hl : args.length = 3) (h : WK L ir_ref06_Outs.body (args ++ List.replicate 5 .und) none σ (EndsK ir_ref06_Outs K)) : LX L F_ref06_Outs args σ K := lim_L (f := F_ref06_Outs) (m := 3) (k := 5) ir_ref06_Outs rfl rfl rfl rfl rfl hl h
theorem go_slices_Grow_Sint_int {N : Nat} {args : List AV} {σ : List Blk} {x : AV × List Blk} (h : pGrow (cN G Q N) args σ = some x) : L F_slices_Grow_Sint_int args σ = some x := lim_prim Q_mono (f := F_slices_Grow_Sint_int) rfl h
theorem go_mealy_machine_move {args : List AV} {σ : List Blk} {K : AV → List Blk → Prop} (hl : args.length = 3) (h : WK L ir_mealy_machine_move.body (args ++ List.replicate 3 .und) none σ (EndsK ir_mealy_machine_move K)) : LX L F_mealy_machine_move args σ K := lim_L (f := F_mealy_machine_move) (m := 3) (k := 3) ir_mealy_machine_move rfl rfl rfl rfl rfl hl h
end Ab
