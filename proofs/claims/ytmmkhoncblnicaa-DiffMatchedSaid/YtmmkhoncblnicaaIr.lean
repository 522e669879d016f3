/- The functions of the program as small texts, printed by a tool of mine: what is run. Condition: none. -/
import Derived.Test.YtmmkhoncblnicaaIr1
set_option linter.all false
namespace Ab
def G : Nat → Option Fn := fun f => match f with
  | 3 => some ir_law49_DiffExplains
  | 4 => some ir_law49_DiffMatches
  | 5 => some ir_law49_DiffPairs
  | 6 => some ir_law49_DiffWords
  | 7 => some ir_law49_DiffMoved
  | 8 => some ir_law49_DiffMatched
  | 9 => some ir_law08_Great
  | 10 => some ir_law49_exampleHolds
  | 11 => some ir_diff_Explain
  | 12 => some ir_ref49_Explain
  | 13 => some ir_ref49_Same
  | 14 => some ir_diff_Match
  | 15 => some ir_ref49_Match
  | 16 => some ir_diff_Moved
  | 17 => some ir_ref49_Moved
  | 18 => some ir_ref08_Equal
  | 19 => some ir_ref09_Check
  | 20 => some ir_mealy_Run
  | 21 => some ir_mealy_From
  | 22 => some ir_word_Compare
  | 23 => some ir_equiv_Distinguish
  | 24 => some ir_equiv_Equal
  | 25 => some ir_ref06_Reach
  | 26 => some ir_minimize_Min
  | 27 => some ir_equiv_Iso
  | 28 => some ir_diff_check
  | 29 => some ir_word_Join
  | 30 => some ir_diff_sorted
  | 31 => some ir_ref09_Extended
  | 32 => some ir_ref10_Same
  | 33 => some ir_cover_Access
  | 34 => some ir_slices_Repeat_Sint_int
  | 35 => some ir_ref10_Access
  | 36 => some ir_ref49_after
  | 37 => some ir_diff_Moved_1
  | 38 => some ir_slices_ContainsFunc_Sint_int
  | 39 => some ir_ref06_Valid
  | 40 => some ir_mealy_state
  | 41 => some ir_word_Check
  | 42 => some ir_mealy_runner_run
  | 43 => some ir_cmp_Or_int
  | 44 => some ir_cmp_Compare_int
  | 45 => some ir_slices_Compare_Sint_int
  | 46 => some ir_equiv_check
  | 47 => some ir_equiv_search
  | 48 => some ir_ref06_has
  | 49 => some ir_mealy_Trim
  | 50 => some ir_minimize_Classes
  | 51 => some ir_mealy_Reach
  | 52 => some ir_mealy_Valid
  | 53 => some ir_slices_Concat_Sint_int
  | 54 => some ir_diff_sorted_1
  | 56 => some ir_cover_places
  | 57 => some ir_math_bits_Mul
  | 58 => some ir_ref10_has
  | 59 => some ir_slices_IndexFunc_Sint_int
  | 60 => some ir_ref06_row
  | 61 => some ir_word_permitted
  | 62 => some ir_word_Check_1
  | 63 => some ir_mealy_machine_move
  | 64 => some ir_cmp_isNaN_int
  | 65 => some ir_slices_Clone_Sint_int
  | 66 => some ir_minimize_Partition
  | 72 => some ir_minimize_refine
  | 83 => some ir_minimize_next
  | _ => none
def sls : Nat → List Nat := fun f => match f with
  | 3 => [0, 1, 2, 3, 5, 7, 6, 8, 4]
  | 4 => [0, 1, 2, 3, 4, 7, 9, 8, 10, 11, 13, 12, 14, 6]
  | 5 => [0, 1, 2, 3, 4, 13, 8, 10, 7, 11, 9, 12, 142, 141, 20, 15, 18, 21, 6]
  | 6 => [0, 1, 2, 3, 6, 9, 8, 5, 7, 72, 71, 10, 11, 12, 15, 18, 14, 17, 13, 16, 4]
  | 7 => [0, 1, 2, 3, 4, 7, 13, 8, 10, 12, 14, 16, 15, 107, 106, 17, 112, 111, 19, 20, 18, 9, 11, 23, 26, 22, 25, 6]
  | 8 => [0, 1, 2, 3, 5, 7, 9, 6, 8, 10, 13, 15, 17, 16, 12, 11, 14, 4]
  | 9 => [0, 1, 23, 22, 3, 37, 36, 4, 2]
  | 10 => [1, 2, 4, 6, 8, 10, 12, 14, 13, 3, 5, 7, 0]
  | 11 => [0, 1, 2, 3, 6, 7, 11, 9, 47, 46, 12, 13, 15, 16, 10, 14, 8, 17, 4, 5]
  | 12 => [0, 1, 2, 3, 6, 9, 7, 11, 10, 8, 12, 15, 14, 13, 4, 5]
  | 13 => [0, 1, 5, 6, 7, 4]
  | 14 => [0, 1, 2, 3, 6, 9, 7, 38, 37, 36, 8, 11, 15, 10, 12, 14, 4, 5]
  | 15 => [0, 1, 2, 3, 6, 11, 13, 7, 8, 10, 12, 4, 5]
  | 16 => [0, 1, 2, 3, 4, 8, 9, 12, 10, 48, 47, 46, 15, 16, 61, 60, 11, 14, 17, 18, 13, 6, 7]
  | 17 => [0, 1, 2, 3, 4, 8, 9, 14, 10, 15, 17, 16, 11, 18, 13, 6, 7]
  | 18 => [0, 1, 5, 4]
  | 19 => [0, 1, 2, 5, 3, 6, 4]
  | 20 => [0, 1, 2, 6, 8, 4, 5]
  | 21 => [0, 1, 2, 3, 9, 10, 11, 12, 6, 7, 8]
  | 22 => [0, 1, 4]
  | 23 => [0, 1, 2, 3, 7, 8, 9, 4, 5, 6]
  | 24 => [0, 1, 2, 3, 8, 7, 4, 5]
  | 25 => [0, 1, 4, 3, 5, 2]
  | 26 => [0, 1, 5, 2, 4, 6, 36, 35, 34, 9, 7, 8, 52, 51, 50, 10, 12, 3]
  | 27 => [0, 1, 2, 3, 7, 8, 9, 52, 51, 50, 10, 12, 11, 67, 66, 65, 74, 73, 13, 15, 14, 4, 5, 6]
  | 28 => [0, 1, 2, 3, 11, 10, 6, 7, 4]
  | 29 => [0, 2]
  | 30 => [0, 4, 2, 3]
  | 31 => [0, 1, 5, 4]
  | 32 => [0, 1, 5, 6, 4]
  | 33 => [0, 1, 5, 20, 19, 18, 6, 9, 7, 2, 3, 4]
  | 34 => [0, 1, 5, 6, 7, 8, 4]
  | 35 => [0, 1, 5, 8, 6, 9, 10, 7, 2, 3, 4]
  | 36 => [0, 1, 2, 6, 5, 4]
  | 37 => [0, 1, 3]
  | 38 => [0, 1, 4]
  | 39 => [0, 1, 3, 4, 2]
  | 40 => [0, 1, 2, 5, 4]
  | 41 => [0, 1, 3, 4]
  | 42 => [0, 1, 12, 11, 10, 7, 8, 5, 9, 4]
  | 43 => [0, 8, 7, 6, 5, 3, 2]
  | 44 => [0, 1, 5, 6, 4]
  | 45 => [0, 1, 11, 10, 9, 5, 6, 7, 8, 4]
  | 46 => [0, 1, 2, 3, 11, 10, 6, 7, 4]
  | 47 => [0, 1, 2, 3, 8, 21, 20, 9, 4, 5, 11, 10, 56, 55, 12, 13, 14, 6, 7]
  | 48 => [0, 1, 5, 4]
  | 49 => [0, 1, 4, 2, 5, 29, 28, 27, 6, 8, 7, 44, 43, 42, 11, 57, 56, 55, 12, 13, 14, 9, 3]
  | 50 => [0, 1, 2, 3]
  | 51 => [0, 1, 3, 5, 4, 37, 36, 35, 7, 2]
  | 52 => [0, 1, 3, 43, 42, 4, 68, 67, 5, 6, 7, 2]
  | 53 => [0, 11, 10, 9, 3, 5, 27, 26, 25, 6, 8, 2]
  | 54 => [0, 1, 2, 3, 4]
  | 56 => [0, 1, 2, 5, 7, 6, 36, 35, 34, 9, 8, 4]
  | 57 => [0, 1, 6, 7, 8, 9, 4, 5]
  | 58 => [0, 1, 5, 4]
  | 59 => [0, 1, 8, 7, 5, 4]
  | 60 => [0, 1, 2, 5, 4]
  | 61 => [0, 2]
  | 62 => [0, 1, 3]
  | 63 => [0, 1, 2, 3, 6, 7]
  | 64 => [0, 2]
  | 65 => [0, 2]
  | 66 => [0, 1, 2, 6, 7, 4, 5]
  | 72 => [0, 1, 2, 21, 20, 6, 10, 7, 8, 9, 4, 5]
  | 83 => [0, 1, 19, 18, 2, 24, 23, 10, 8, 9, 6, 12, 11, 7, 4, 5]
  | _ => []
def Q : Prims := fun f => match f with
  | 55 => some (pSortS 5)
  | 65 => some (vPrim pClone1)
  | 67 => some pGrow
  | 71 => some pMul64
  | _ => none
theorem Q_mono : PrimsMono Q := by
  intro f p h
  unfold Q at h
  split at h
  · cases h; exact (pSortS_mono 5)
  · cases h; exact fun _ _ _ _ _ _ h => h
  · cases h; exact pGrow_mono
  · cases h; exact pMul64_mono
  · cases h
/-- The interpreter with as much fuel as is wanted. -/
noncomputable def L : CE := lim G Q
theorem lim_L {f m k : Nat} (fn : Fn) {b : IC} {args : List AV} {σ : List Blk} {K : AV → List Blk → Prop} (hq : Q f = none) (hg : G f = some fn) (hb : fn.body = b) (hm : fn.np = m) (hk : fn.nv - fn.np = k) (hl : args.length = m) (h : WK L b (args ++ List.replicate k .und) none σ (EndsK fn K)) : LX L f args σ K := by subst hb; subst hm; subst hk; exact lim_LX Q_mono fn hq hg hl h
theorem go_law49_DiffExplains {args : List AV} {σ : List Blk} {K : AV → List Blk → Prop} (hl : args.length = 2) (h : WK L ir_law49_DiffExplains.body (args ++ List.replicate 7 .und) none σ (EndsK ir_law49_DiffExplains K)) : LX L F_law49_DiffExplains args σ K := lim_L (f := F_law49_DiffExplains) (m := 2) (k := 7) ir_law49_DiffExplains rfl rfl rfl rfl rfl hl h
theorem go_law49_DiffMatches {args : List AV} {σ : List Blk} {K : AV → List Blk → Prop} (hl : args.length = 3) (h : WK L ir_law49_DiffMatches.body (args ++ List.replicate 11 .und) none σ (EndsK ir_law49_DiffMatches K)) : LX L F_law49_DiffMatches args σ K := lim_L (f := F_law49_DiffMatches) (m := 3) (k := 11) ir_law49_DiffMatches rfl rfl rfl rfl rfl hl h
theorem go_law49_DiffPairs {args : List AV} {σ : List Blk} {K : AV → List Blk → Prop} (hl : args.length = 3) (h : WK L ir_law49_DiffPairs.body (args ++ List.replicate 16 .und) none σ (EndsK ir_law49_DiffPairs K)) : LX L F_law49_DiffPairs args σ K := lim_L (f := F_law49_DiffPairs) (m := 3) (k := 16) ir_law49_DiffPairs rfl rfl rfl rfl rfl hl h
theorem go_law49_DiffWords {args : List AV} {σ : List Blk} {K : AV → List Blk → Prop} (hl : args.length = 2) (h : WK L ir_law49_DiffWords.body (args ++ List.replicate 19 .und) none σ (EndsK ir_law49_DiffWords K)) : LX L F_law49_DiffWords args σ K := lim_L (f := F_law49_DiffWords) (m := 2) (k := 19) ir_law49_DiffWords rfl rfl rfl rfl rfl hl h
theorem go_law49_DiffMoved {args : List AV} {σ : List Blk} {K : AV → List Blk → Prop} (hl : args.length = 3) (h : WK L ir_law49_DiffMoved.body (args ++ List.replicate 25 .und) none σ (EndsK ir_law49_DiffMoved K)) : LX L F_law49_DiffMoved args σ K := lim_L (f := F_law49_DiffMoved) (m := 3) (k := 25) ir_law49_DiffMoved rfl rfl rfl rfl rfl hl h
theorem go_law49_DiffMatched {args : List AV} {σ : List Blk} {K : AV → List Blk → Prop} (hl : args.length = 2) (h : WK L ir_law49_DiffMatched.body (args ++ List.replicate 16 .und) none σ (EndsK ir_law49_DiffMatched K)) : LX L F_law49_DiffMatched args σ K := lim_L (f := F_law49_DiffMatched) (m := 2) (k := 16) ir_law49_DiffMatched rfl rfl rfl rfl rfl hl h
theorem go_law08_Great {args : List AV} {σ : List Blk} {K : AV → List Blk → Prop} (hl : args.length = 1) (h : WK L ir_law08_Great.body (args ++ List.replicate 8 .und) none σ (EndsK ir_law08_Great K)) : LX L F_law08_Great args σ K := lim_L (f := F_law08_Great) (m := 1) (k := 8) ir_law08_Great rfl rfl rfl rfl rfl hl h
theorem go_law49_exampleHolds {args : List AV} {σ : List Blk} {K : AV → List Blk → Prop} (hl : args.length = 0) (h : WK L ir_law49_exampleHolds.body (args ++ List.replicate 13 .und) none σ (EndsK ir_law49_exampleHolds K)) : LX L F_law49_exampleHolds args σ K := lim_L (f := F_law49_exampleHolds) (m := 0) (k := 13) ir_law49_exampleHolds rfl rfl rfl rfl rfl hl h
theorem go_diff_Explain {args : List AV} {σ : List Blk} {K : AV → List Blk → Prop} (hl : args.length = 2) (h : WK L ir_diff_Explain.body (args ++ List.replicate 18 .und) none σ (EndsK ir_diff_Explain K)) : LX L F_diff_Explain args σ K := lim_L (f := F_diff_Explain) (m := 2) (k := 18) ir_diff_Explain rfl rfl rfl rfl rfl hl h
theorem go_ref49_Explain {args : List AV} {σ : List Blk} {K : AV → List Blk → Prop} (hl : args.length = 2) (h : WK L ir_ref49_Explain.body (args ++ List.replicate 14 .und) none σ (EndsK ir_ref49_Explain K)) : LX L F_ref49_Explain args σ K := lim_L (f := F_ref49_Explain) (m := 2) (k := 14) ir_ref49_Explain rfl rfl rfl rfl rfl hl h
theorem go_ref49_Same {args : List AV} {σ : List Blk} {K : AV → List Blk → Prop} (hl : args.length = 2) (h : WK L ir_ref49_Same.body (args ++ List.replicate 4 .und) none σ (EndsK ir_ref49_Same K)) : LX L F_ref49_Same args σ K := lim_L (f := F_ref49_Same) (m := 2) (k := 4) ir_ref49_Same rfl rfl rfl rfl rfl hl h
theorem go_diff_Match {args : List AV} {σ : List Blk} {K : AV → List Blk → Prop} (hl : args.length = 2) (h : WK L ir_diff_Match.body (args ++ List.replicate 16 .und) none σ (EndsK ir_diff_Match K)) : LX L F_diff_Match args σ K := lim_L (f := F_diff_Match) (m := 2) (k := 16) ir_diff_Match rfl rfl rfl rfl rfl hl h
theorem go_ref49_Match {args : List AV} {σ : List Blk} {K : AV → List Blk → Prop} (hl : args.length = 2) (h : WK L ir_ref49_Match.body (args ++ List.replicate 11 .und) none σ (EndsK ir_ref49_Match K)) : LX L F_ref49_Match args σ K := lim_L (f := F_ref49_Match) (m := 2) (k := 11) ir_ref49_Match rfl rfl rfl rfl rfl hl h
theorem go_diff_Moved {args : List AV} {σ : List Blk} {K : AV → List Blk → Prop} (hl : args.length = 3) (h : WK L ir_diff_Moved.body (args ++ List.replicate 20 .und) none σ (EndsK ir_diff_Moved K)) : LX L F_diff_Moved args σ K := lim_L (f := F_diff_Moved) (m := 3) (k := 20) ir_diff_Moved rfl rfl rfl rfl rfl hl h
theorem go_ref49_Moved {args : List AV} {σ : List Blk} {K : AV → List Blk → Prop} (hl : args.length = 3) (h : WK L ir_ref49_Moved.body (args ++ List.replicate 14 .und) none σ (EndsK ir_ref49_Moved K)) : LX L F_ref49_Moved args σ K := lim_L (f := F_ref49_Moved) (m := 3) (k := 14) ir_ref49_Moved rfl rfl rfl rfl rfl hl h
theorem go_ref08_Equal {args : List AV} {σ : List Blk} {K : AV → List Blk → Prop} (hl : args.length = 2) (h : WK L ir_ref08_Equal.body (args ++ List.replicate 2 .und) none σ (EndsK ir_ref08_Equal K)) : LX L F_ref08_Equal args σ K := lim_L (f := F_ref08_Equal) (m := 2) (k := 2) ir_ref08_Equal rfl rfl rfl rfl rfl hl h
theorem go_ref09_Check {args : List AV} {σ : List Blk} {K : AV → List Blk → Prop} (hl : args.length = 2) (h : WK L ir_ref09_Check.body (args ++ List.replicate 5 .und) none σ (EndsK ir_ref09_Check K)) : LX L F_ref09_Check args σ K := lim_L (f := F_ref09_Check) (m := 2) (k := 5) ir_ref09_Check rfl rfl rfl rfl rfl hl h
theorem go_mealy_Run {args : List AV} {σ : List Blk} {K : AV → List Blk → Prop} (hl : args.length = 2) (h : WK L ir_mealy_Run.body (args ++ List.replicate 5 .und) none σ (EndsK ir_mealy_Run K)) : LX L F_mealy_Run args σ K := lim_L (f := F_mealy_Run) (m := 2) (k := 5) ir_mealy_Run rfl rfl rfl rfl rfl hl h
theorem go_mealy_From {args : List AV} {σ : List Blk} {K : AV → List Blk → Prop} (hl : args.length = 3) (h : WK L ir_mealy_From.body (args ++ List.replicate 8 .und) none σ (EndsK ir_mealy_From K)) : LX L F_mealy_From args σ K := lim_L (f := F_mealy_From) (m := 3) (k := 8) ir_mealy_From rfl rfl rfl rfl rfl hl h
theorem go_word_Compare {args : List AV} {σ : List Blk} {K : AV → List Blk → Prop} (hl : args.length = 2) (h : WK L ir_word_Compare.body (args ++ List.replicate 1 .und) none σ (EndsK ir_word_Compare K)) : LX L F_word_Compare args σ K := lim_L (f := F_word_Compare) (m := 2) (k := 1) ir_word_Compare rfl rfl rfl rfl rfl hl h
theorem go_equiv_Distinguish {args : List AV} {σ : List Blk} {K : AV → List Blk → Prop} (hl : args.length = 2) (h : WK L ir_equiv_Distinguish.body (args ++ List.replicate 8 .und) none σ (EndsK ir_equiv_Distinguish K)) : LX L F_equiv_Distinguish args σ K := lim_L (f := F_equiv_Distinguish) (m := 2) (k := 8) ir_equiv_Distinguish rfl rfl rfl rfl rfl hl h
theorem go_equiv_Equal {args : List AV} {σ : List Blk} {K : AV → List Blk → Prop} (hl : args.length = 2) (h : WK L ir_equiv_Equal.body (args ++ List.replicate 6 .und) none σ (EndsK ir_equiv_Equal K)) : LX L F_equiv_Equal args σ K := lim_L (f := F_equiv_Equal) (m := 2) (k := 6) ir_equiv_Equal rfl rfl rfl rfl rfl hl h
theorem go_ref06_Reach {args : List AV} {σ : List Blk} {K : AV → List Blk → Prop} (hl : args.length = 1) (h : WK L ir_ref06_Reach.body (args ++ List.replicate 5 .und) none σ (EndsK ir_ref06_Reach K)) : LX L F_ref06_Reach args σ K := lim_L (f := F_ref06_Reach) (m := 1) (k := 5) ir_ref06_Reach rfl rfl rfl rfl rfl hl h
theorem go_minimize_Min {args : List AV} {σ : List Blk} {K : AV → List Blk → Prop} (hl : args.length = 1) (h : WK L ir_minimize_Min.body (args ++ List.replicate 17 .und) none σ (EndsK ir_minimize_Min K)) : LX L F_minimize_Min args σ K := lim_L (f := F_minimize_Min) (m := 1) (k := 17) ir_minimize_Min rfl rfl rfl rfl rfl hl h
theorem go_equiv_Iso {args : List AV} {σ : List Blk} {K : AV → List Blk → Prop} (hl : args.length = 2) (h : WK L ir_equiv_Iso.body (args ++ List.replicate 22 .und) none σ (EndsK ir_equiv_Iso K)) : LX L F_equiv_Iso args σ K := lim_L (f := F_equiv_Iso) (m := 2) (k := 22) ir_equiv_Iso rfl rfl rfl rfl rfl hl h
theorem go_diff_check {args : List AV} {σ : List Blk} {K : AV → List Blk → Prop} (hl : args.length = 2) (h : WK L ir_diff_check.body (args ++ List.replicate 7 .und) none σ (EndsK ir_diff_check K)) : LX L F_diff_check args σ K := lim_L (f := F_diff_check) (m := 2) (k := 7) ir_diff_check rfl rfl rfl rfl rfl hl h
theorem go_word_Join {args : List AV} {σ : List Blk} {K : AV → List Blk → Prop} (hl : args.length = 1) (h : WK L ir_word_Join.body (args ++ List.replicate 1 .und) none σ (EndsK ir_word_Join K)) : LX L F_word_Join args σ K := lim_L (f := F_word_Join) (m := 1) (k := 1) ir_word_Join rfl rfl rfl rfl rfl hl h
theorem go_diff_sorted {args : List AV} {σ : List Blk} {K : AV → List Blk → Prop} (hl : args.length = 1) (h : WK L ir_diff_sorted.body (args ++ List.replicate 3 .und) none σ (EndsK ir_diff_sorted K)) : LX L F_diff_sorted args σ K := lim_L (f := F_diff_sorted) (m := 1) (k := 3) ir_diff_sorted rfl rfl rfl rfl rfl hl h
theorem go_ref09_Extended {args : List AV} {σ : List Blk} {K : AV → List Blk → Prop} (hl : args.length = 2) (h : WK L ir_ref09_Extended.body (args ++ List.replicate 2 .und) none σ (EndsK ir_ref09_Extended K)) : LX L F_ref09_Extended args σ K := lim_L (f := F_ref09_Extended) (m := 2) (k := 2) ir_ref09_Extended rfl rfl rfl rfl rfl hl h
theorem go_ref10_Same {args : List AV} {σ : List Blk} {K : AV → List Blk → Prop} (hl : args.length = 2) (h : WK L ir_ref10_Same.body (args ++ List.replicate 3 .und) none σ (EndsK ir_ref10_Same K)) : LX L F_ref10_Same args σ K := lim_L (f := F_ref10_Same) (m := 2) (k := 3) ir_ref10_Same rfl rfl rfl rfl rfl hl h
theorem go_cover_Access {args : List AV} {σ : List Blk} {K : AV → List Blk → Prop} (hl : args.length = 1) (h : WK L ir_cover_Access.body (args ++ List.replicate 11 .und) none σ (EndsK ir_cover_Access K)) : LX L F_cover_Access args σ K := lim_L (f := F_cover_Access) (m := 1) (k := 11) ir_cover_Access rfl rfl rfl rfl rfl hl h
theorem go_slices_Repeat_Sint_int {args : List AV} {σ : List Blk} {K : AV → List Blk → Prop} (hl : args.length = 2) (h : WK L ir_slices_Repeat_Sint_int.body (args ++ List.replicate 5 .und) none σ (EndsK ir_slices_Repeat_Sint_int K)) : LX L F_slices_Repeat_Sint_int args σ K := lim_L (f := F_slices_Repeat_Sint_int) (m := 2) (k := 5) ir_slices_Repeat_Sint_int rfl rfl rfl rfl rfl hl h
theorem go_ref10_Access {args : List AV} {σ : List Blk} {K : AV → List Blk → Prop} (hl : args.length = 1) (h : WK L ir_ref10_Access.body (args ++ List.replicate 10 .und) none σ (EndsK ir_ref10_Access K)) : LX L F_ref10_Access args σ K := lim_L (f := F_ref10_Access) (m := 1) (k := 10) ir_ref10_Access rfl rfl rfl rfl rfl hl h
theorem go_ref49_after {args : List AV} {σ : List Blk} {K : AV → List Blk → Prop} (hl : args.length = 2) (h : WK L ir_ref49_after.body (args ++ List.replicate 4 .und) none σ (EndsK ir_ref49_after K)) : LX L F_ref49_after args σ K := lim_L (f := F_ref49_after) (m := 2) (k := 4) ir_ref49_after rfl rfl rfl rfl rfl hl h
theorem go_diff_Moved_1 {args : List AV} {σ : List Blk} {K : AV → List Blk → Prop} (hl : args.length = 2) (h : WK L ir_diff_Moved_1.body (args ++ List.replicate 1 .und) none σ (EndsK ir_diff_Moved_1 K)) : LX L F_diff_Moved_1 args σ K := lim_L (f := F_diff_Moved_1) (m := 2) (k := 1) ir_diff_Moved_1 rfl rfl rfl rfl rfl hl h
theorem go_slices_ContainsFunc_Sint_int {args : List AV} {σ : List Blk} {K : AV → List Blk → Prop} (hl : args.length = 2) (h : WK L ir_slices_ContainsFunc_Sint_int.body (args ++ List.replicate 1 .und) none σ (EndsK ir_slices_ContainsFunc_Sint_int K)) : LX L F_slices_ContainsFunc_Sint_int args σ K := lim_L (f := F_slices_ContainsFunc_Sint_int) (m := 2) (k := 1) ir_slices_ContainsFunc_Sint_int rfl rfl rfl rfl rfl hl h
theorem go_ref06_Valid {args : List AV} {σ : List Blk} {K : AV → List Blk → Prop} (hl : args.length = 1) (h : WK L ir_ref06_Valid.body (args ++ List.replicate 4 .und) none σ (EndsK ir_ref06_Valid K)) : LX L F_ref06_Valid args σ K := lim_L (f := F_ref06_Valid) (m := 1) (k := 4) ir_ref06_Valid rfl rfl rfl rfl rfl hl h
theorem go_mealy_state {args : List AV} {σ : List Blk} {K : AV → List Blk → Prop} (hl : args.length = 2) (h : WK L ir_mealy_state.body (args ++ List.replicate 3 .und) none σ (EndsK ir_mealy_state K)) : LX L F_mealy_state args σ K := lim_L (f := F_mealy_state) (m := 2) (k := 3) ir_mealy_state rfl rfl rfl rfl rfl hl h
theorem go_word_Check {args : List AV} {σ : List Blk} {K : AV → List Blk → Prop} (hl : args.length = 2) (h : WK L ir_word_Check.body (args ++ List.replicate 2 .und) none σ (EndsK ir_word_Check K)) : LX L F_word_Check args σ K := lim_L (f := F_word_Check) (m := 2) (k := 2) ir_word_Check rfl rfl rfl rfl rfl hl h
theorem go_mealy_runner_run {args : List AV} {σ : List Blk} {K : AV → List Blk → Prop} (hl : args.length = 2) (h : WK L ir_mealy_runner_run.body (args ++ List.replicate 8 .und) none σ (EndsK ir_mealy_runner_run K)) : LX L F_mealy_runner_run args σ K := lim_L (f := F_mealy_runner_run) (m := 2) (k := 8) ir_mealy_runner_run rfl rfl rfl rfl rfl hl h
theorem go_cmp_Or_int {args : List AV} {σ : List Blk} {K : AV → List Blk → Prop} (hl : args.length = 1) (h : WK L ir_cmp_Or_int.body (args ++ List.replicate 6 .und) none σ (EndsK ir_cmp_Or_int K)) : LX L F_cmp_Or_int args σ K := lim_L (f := F_cmp_Or_int) (m := 1) (k := 6) ir_cmp_Or_int rfl rfl rfl rfl rfl hl h
theorem go_cmp_Compare_int {args : List AV} {σ : List Blk} {K : AV → List Blk → Prop} (hl : args.length = 2) (h : WK L ir_cmp_Compare_int.body (args ++ List.replicate 3 .und) none σ (EndsK ir_cmp_Compare_int K)) : LX L F_cmp_Compare_int args σ K := lim_L (f := F_cmp_Compare_int) (m := 2) (k := 3) ir_cmp_Compare_int rfl rfl rfl rfl rfl hl h
theorem go_slices_Compare_Sint_int {args : List AV} {σ : List Blk} {K : AV → List Blk → Prop} (hl : args.length = 2) (h : WK L ir_slices_Compare_Sint_int.body (args ++ List.replicate 8 .und) none σ (EndsK ir_slices_Compare_Sint_int K)) : LX L F_slices_Compare_Sint_int args σ K := lim_L (f := F_slices_Compare_Sint_int) (m := 2) (k := 8) ir_slices_Compare_Sint_int rfl rfl rfl rfl rfl hl h
theorem go_equiv_check {args : List AV} {σ : List Blk} {K : AV → List Blk → Prop} (hl : args.length = 2) (h : WK L ir_equiv_check.body (args ++ List.replicate 7 .und) none σ (EndsK ir_equiv_check K)) : LX L F_equiv_check args σ K := lim_L (f := F_equiv_check) (m := 2) (k := 7) ir_equiv_check rfl rfl rfl rfl rfl hl h
theorem go_equiv_search {args : List AV} {σ : List Blk} {K : AV → List Blk → Prop} (hl : args.length = 3) (h : WK L ir_equiv_search.body (args ++ List.replicate 16 .und) none σ (EndsK ir_equiv_search K)) : LX L F_equiv_search args σ K := lim_L (f := F_equiv_search) (m := 3) (k := 16) ir_equiv_search rfl rfl rfl rfl rfl hl h
theorem go_ref06_has {args : List AV} {σ : List Blk} {K : AV → List Blk → Prop} (hl : args.length = 2) (h : WK L ir_ref06_has.body (args ++ List.replicate 2 .und) none σ (EndsK ir_ref06_has K)) : LX L F_ref06_has args σ K := lim_L (f := F_ref06_has) (m := 2) (k := 2) ir_ref06_has rfl rfl rfl rfl rfl hl h
theorem go_mealy_Trim {args : List AV} {σ : List Blk} {K : AV → List Blk → Prop} (hl : args.length = 1) (h : WK L ir_mealy_Trim.body (args ++ List.replicate 22 .und) none σ (EndsK ir_mealy_Trim K)) : LX L F_mealy_Trim args σ K := lim_L (f := F_mealy_Trim) (m := 1) (k := 22) ir_mealy_Trim rfl rfl rfl rfl rfl hl h
theorem go_minimize_Classes {args : List AV} {σ : List Blk} {K : AV → List Blk → Prop} (hl : args.length = 1) (h : WK L ir_minimize_Classes.body (args ++ List.replicate 3 .und) none σ (EndsK ir_minimize_Classes K)) : LX L F_minimize_Classes args σ K := lim_L (f := F_minimize_Classes) (m := 1) (k := 3) ir_minimize_Classes rfl rfl rfl rfl rfl hl h
theorem go_mealy_Reach {args : List AV} {σ : List Blk} {K : AV → List Blk → Prop} (hl : args.length = 1) (h : WK L ir_mealy_Reach.body (args ++ List.replicate 9 .und) none σ (EndsK ir_mealy_Reach K)) : LX L F_mealy_Reach args σ K := lim_L (f := F_mealy_Reach) (m := 1) (k := 9) ir_mealy_Reach rfl rfl rfl rfl rfl hl h
theorem go_mealy_Valid {args : List AV} {σ : List Blk} {K : AV → List Blk → Prop} (hl : args.length = 1) (h : WK L ir_mealy_Valid.body (args ++ List.replicate 11 .und) none σ (EndsK ir_mealy_Valid K)) : LX L F_mealy_Valid args σ K := lim_L (f := F_mealy_Valid) (m := 1) (k := 11) ir_mealy_Valid rfl rfl rfl rfl rfl hl h
theorem go_slices_Concat_Sint_int {args : List AV} {σ : List Blk} {K : AV → List Blk → Prop} (hl : args.length = 1) (h : WK L ir_slices_Concat_Sint_int.body (args ++ List.replicate 11 .und) none σ (EndsK ir_slices_Concat_Sint_int K)) : LX L F_slices_Concat_Sint_int args σ K := lim_L (f := F_slices_Concat_Sint_int) (m := 1) (k := 11) ir_slices_Concat_Sint_int rfl rfl rfl rfl rfl hl h
theorem go_diff_sorted_1 {args : List AV} {σ : List Blk} {K : AV → List Blk → Prop} (hl : args.length = 2) (h : WK L ir_diff_sorted_1.body (args ++ List.replicate 3 .und) none σ (EndsK ir_diff_sorted_1 K)) : LX L F_diff_sorted_1 args σ K := lim_L (f := F_diff_sorted_1) (m := 2) (k := 3) ir_diff_sorted_1 rfl rfl rfl rfl rfl hl h
theorem go_slices_SortFunc_Sapi_Change_api_Change {N : Nat} {args : List AV} {σ : List Blk} {x : AV × List Blk} (h : (pSortS 5) (cN G Q N) args σ = some x) : L F_slices_SortFunc_Sapi_Change_api_Change args σ = some x := lim_prim Q_mono (f := F_slices_SortFunc_Sapi_Change_api_Change) rfl h
theorem go_cover_places {args : List AV} {σ : List Blk} {K : AV → List Blk → Prop} (hl : args.length = 2) (h : WK L ir_cover_places.body (args ++ List.replicate 10 .und) none σ (EndsK ir_cover_places K)) : LX L F_cover_places args σ K := lim_L (f := F_cover_places) (m := 2) (k := 10) ir_cover_places rfl rfl rfl rfl rfl hl h
theorem go_math_bits_Mul {args : List AV} {σ : List Blk} {K : AV → List Blk → Prop} (hl : args.length = 2) (h : WK L ir_math_bits_Mul.body (args ++ List.replicate 6 .und) none σ (EndsK ir_math_bits_Mul K)) : LX L F_math_bits_Mul args σ K := lim_L (f := F_math_bits_Mul) (m := 2) (k := 6) ir_math_bits_Mul rfl rfl rfl rfl rfl hl h
theorem go_ref10_has {args : List AV} {σ : List Blk} {K : AV → List Blk → Prop} (hl : args.length = 2) (h : WK L ir_ref10_has.body (args ++ List.replicate 2 .und) none σ (EndsK ir_ref10_has K)) : LX L F_ref10_has args σ K := lim_L (f := F_ref10_has) (m := 2) (k := 2) ir_ref10_has rfl rfl rfl rfl rfl hl h
theorem go_slices_IndexFunc_Sint_int {args : List AV} {σ : List Blk} {K : AV → List Blk → Prop} (hl : args.length = 2) (h : WK L ir_slices_IndexFunc_Sint_int.body (args ++ List.replicate 4 .und) none σ (EndsK ir_slices_IndexFunc_Sint_int K)) : LX L F_slices_IndexFunc_Sint_int args σ K := lim_L (f := F_slices_IndexFunc_Sint_int) (m := 2) (k := 4) ir_slices_IndexFunc_Sint_int rfl rfl rfl rfl rfl hl h
theorem go_ref06_row {args : List AV} {σ : List Blk} {K : AV → List Blk → Prop} (hl : args.length = 2) (h : WK L ir_ref06_row.body (args ++ List.replicate 3 .und) none σ (EndsK ir_ref06_row K)) : LX L F_ref06_row args σ K := lim_L (f := F_ref06_row) (m := 2) (k := 3) ir_ref06_row rfl rfl rfl rfl rfl hl h
theorem go_word_permitted {args : List AV} {σ : List Blk} {K : AV → List Blk → Prop} (hl : args.length = 1) (h : WK L ir_word_permitted.body (args ++ List.replicate 1 .und) none σ (EndsK ir_word_permitted K)) : LX L F_word_permitted args σ K := lim_L (f := F_word_permitted) (m := 1) (k := 1) ir_word_permitted rfl rfl rfl rfl rfl hl h
theorem go_word_Check_1 {args : List AV} {σ : List Blk} {K : AV → List Blk → Prop} (hl : args.length = 2) (h : WK L ir_word_Check_1.body (args ++ List.replicate 1 .und) none σ (EndsK ir_word_Check_1 K)) : LX L F_word_Check_1 args σ K := lim_L (f := F_word_Check_1) (m := 2) (k := 1) ir_word_Check_1 rfl rfl rfl rfl rfl hl h
theorem go_mealy_machine_move {args : List AV} {σ : List Blk} {K : AV → List Blk → Prop} (hl : args.length = 3) (h : WK L ir_mealy_machine_move.body (args ++ List.replicate 3 .und) none σ (EndsK ir_mealy_machine_move K)) : LX L F_mealy_machine_move args σ K := lim_L (f := F_mealy_machine_move) (m := 3) (k := 3) ir_mealy_machine_move rfl rfl rfl rfl rfl hl h
theorem go_cmp_isNaN_int {args : List AV} {σ : List Blk} {K : AV → List Blk → Prop} (hl : args.length = 1) (h : WK L ir_cmp_isNaN_int.body (args ++ List.replicate 1 .und) none σ (EndsK ir_cmp_isNaN_int K)) : LX L F_cmp_isNaN_int args σ K := lim_L (f := F_cmp_isNaN_int) (m := 1) (k := 1) ir_cmp_isNaN_int rfl rfl rfl rfl rfl hl h
theorem go_slices_Clone_Sint_int {args : List AV} {v : AV} (h : pClone1 (cN G Q 0) args = some v) : L F_slices_Clone_Sint_int args [] = some (v, []) := lim_prim Q_mono (N := 0) (f := F_slices_Clone_Sint_int) rfl (by simp only [vPrim, h, Option.map_some])
theorem go_minimize_Partition {args : List AV} {σ : List Blk} {K : AV → List Blk → Prop} (hl : args.length = 2) (h : WK L ir_minimize_Partition.body (args ++ List.replicate 5 .und) none σ (EndsK ir_minimize_Partition K)) : LX L F_minimize_Partition args σ K := lim_L (f := F_minimize_Partition) (m := 2) (k := 5) ir_minimize_Partition rfl rfl rfl rfl rfl hl h
theorem go_slices_Grow_Sint_int {N : Nat} {args : List AV} {σ : List Blk} {x : AV × List Blk} (h : pGrow (cN G Q N) args σ = some x) : L F_slices_Grow_Sint_int args σ = some x := lim_prim Q_mono (f := F_slices_Grow_Sint_int) rfl h
theorem go_math_bits_Mul64 {N : Nat} {args : List AV} {σ : List Blk} {x : AV × List Blk} (h : pMul64 (cN G Q N) args σ = some x) : L F_math_bits_Mul64 args σ = some x := lim_prim Q_mono (f := F_math_bits_Mul64) rfl h
theorem go_minimize_refine {args : List AV} {σ : List Blk} {K : AV → List Blk → Prop} (hl : args.length = 2) (h : WK L ir_minimize_refine.body (args ++ List.replicate 10 .und) none σ (EndsK ir_minimize_refine K)) : LX L F_minimize_refine args σ K := lim_L (f := F_minimize_refine) (m := 2) (k := 10) ir_minimize_refine rfl rfl rfl rfl rfl hl h
theorem go_minimize_next {args : List AV} {σ : List Blk} {K : AV → List Blk → Prop} (hl : args.length = 2) (h : WK L ir_minimize_next.body (args ++ List.replicate 14 .und) none σ (EndsK ir_minimize_next K)) : LX L F_minimize_next args σ K := lim_L (f := F_minimize_next) (m := 2) (k := 14) ir_minimize_next rfl rfl rfl rfl rfl hl h
end Ab
