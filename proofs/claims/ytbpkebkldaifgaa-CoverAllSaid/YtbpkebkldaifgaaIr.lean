/- The functions of the program as small texts, printed by a tool of mine: what is run. Condition: none. -/
import Derived.Test.YtbpkebkldaifgaaIr1
set_option linter.all false
namespace Ab
def G : Nat → Option Fn := fun f => match f with
  | 3 => some ir_law10_CoverPaths
  | 4 => some ir_law10_CoverTours
  | 5 => some ir_law10_CoverCounts
  | 6 => some ir_law10_CoverAll
  | 7 => some ir_law10_CoverAccess
  | 8 => some ir_law10_CoverFirst
  | 9 => some ir_law08_Great
  | 10 => some ir_law10_exampleHolds
  | 11 => some ir_cover_Path
  | 12 => some ir_ref10_Path
  | 13 => some ir_ref08_Equal
  | 14 => some ir_cover_Tour
  | 15 => some ir_ref10_Tour
  | 16 => some ir_cover_Covered
  | 17 => some ir_ref10_Covered
  | 18 => some ir_ref06_Valid
  | 19 => some ir_cover_Access
  | 20 => some ir_cover_Transitions
  | 21 => some ir_ref10_Access
  | 22 => some ir_cover_StateCover
  | 23 => some ir_ref10_StateCover
  | 24 => some ir_ref10_Transitions
  | 25 => some ir_ref10_Same
  | 26 => some ir_wordset_Prefixes
  | 27 => some ir_law10_last
  | 28 => some ir_word_Compare
  | 29 => some ir_mealy_Valid
  | 30 => some ir_cover_places
  | 31 => some ir_cover_marks
  | 32 => some ir_mealy_Reach
  | 33 => some ir_cover_untaken
  | 34 => some ir_ref10_none
  | 35 => some ir_ref10_fresh
  | 36 => some ir_word_Check
  | 37 => some ir_cover_Covered_1
  | 38 => some ir_ref01_Check
  | 39 => some ir_ref10_has
  | 40 => some ir_ref06_row
  | 41 => some ir_word_Join
  | 42 => some ir_wordset_Sorted
  | 43 => some ir_ref09_Extended
  | 44 => some ir_wordset_parts
  | 45 => some ir_wordset_Prefixes_1
  | 46 => some ir_mealy_From
  | 47 => some ir_cmp_Or_int
  | 48 => some ir_cmp_Compare_int
  | 49 => some ir_slices_Compare_Sint_int
  | 50 => some ir_word_permitted
  | 51 => some ir_slices_ContainsFunc_Sint_int
  | 52 => some ir_word_Check_1
  | 53 => some ir_ref01_Size
  | 54 => some ir_slices_Concat_Sint_int
  | 55 => some ir_wordset_ordered
  | 56 => some ir_mealy_state
  | 57 => some ir_mealy_runner_run
  | 58 => some ir_cmp_isNaN_int
  | 59 => some ir_slices_IndexFunc_Sint_int
  | 61 => some ir_slices_Clone_SSint_Sint
  | 63 => some ir_slices_CompactFunc_SSint_Sint
  | 64 => some ir_wordset_ordered_1
  | 65 => some ir_slices_Clone_Sint_int
  | 66 => some ir_mealy_machine_move
  | 67 => some ir_slices_pdqsortCmpFunc_Sint
  | 68 => some ir_math_bits_Len
  | 69 => some ir_slices_insertionSortCmpFunc_Sint
  | 70 => some ir_slices_heapSortCmpFunc_Sint
  | 71 => some ir_slices_breakPatternsCmpFunc_Sint
  | 72 => some ir_slices_choosePivotCmpFunc_Sint
  | 73 => some ir_slices_reverseRangeCmpFunc_Sint
  | 74 => some ir_slices_partialInsertionSortCmpFunc_Sint
  | 75 => some ir_slices_partitionEqualCmpFunc_Sint
  | 76 => some ir_slices_partitionCmpFunc_Sint
  | 77 => some ir_math_bits_Len32
  | 78 => some ir_math_bits_Len64
  | 79 => some ir_slices_siftDownCmpFunc_Sint
  | 80 => some ir_slices_nextPowerOfTwo
  | 81 => some ir_slices_xorshift_Next
  | 82 => some ir_slices_medianAdjacentCmpFunc_Sint
  | 83 => some ir_slices_medianCmpFunc_Sint
  | 84 => some ir_slices_order2CmpFunc_Sint
  | _ => none
def sls : Nat → List Nat := fun f => match f with
  | 3 => [0, 1, 2, 3, 7, 10, 8, 11, 9, 12, 6]
  | 4 => [0, 1, 3, 5, 4, 6, 2]
  | 5 => [0, 1, 2, 22, 21, 5, 6, 9, 7, 10, 8, 11, 4]
  | 6 => [0, 1, 6, 5, 7, 10, 8, 3, 9, 12, 11, 15, 13, 14, 123, 122, 128, 127, 16, 17, 20, 19, 2]
  | 7 => [0, 1, 3, 6, 4, 7, 5, 8, 9, 11, 10, 12, 13, 15, 14, 16, 2]
  | 8 => [0, 1, 2, 7, 5, 6, 8, 63, 62, 10, 13, 12, 11, 9, 4]
  | 9 => [0, 1, 23, 22, 3, 37, 36, 4, 2]
  | 10 => [1, 2, 3, 6, 8, 11, 14, 16, 18, 21, 4, 5, 7, 10, 9, 13, 15, 19, 20, 0]
  | 11 => [0, 1, 2, 3, 9, 41, 40, 39, 11, 6, 7, 8]
  | 12 => [0, 1, 2, 3, 9, 13, 10, 11, 6, 7, 8]
  | 13 => [0, 1, 5, 4]
  | 14 => [0, 1, 4, 6, 8, 5, 10, 7, 9, 49, 48, 47, 12, 2, 3]
  | 15 => [0, 1, 6, 4, 10, 9, 7, 13, 8, 11, 14, 12, 2, 3]
  | 16 => [0, 1, 2, 7, 28, 27, 26, 9, 10, 11, 13, 49, 48, 47, 15, 18, 17, 60, 59, 58, 12, 20, 14, 4, 5, 6]
  | 17 => [0, 1, 2, 7, 8, 9, 13, 15, 11, 14, 10, 16, 12, 4, 5, 6]
  | 18 => [0, 1, 3, 4, 2]
  | 19 => [0, 1, 5, 20, 19, 18, 6, 9, 7, 2, 3, 4]
  | 20 => [0, 1, 6, 5, 22, 21, 20, 28, 27, 7, 9, 10, 2, 3]
  | 21 => [0, 1, 5, 8, 6, 9, 10, 7, 2, 3, 4]
  | 22 => [0, 1, 5, 6, 2, 3]
  | 23 => [0, 1, 5, 6, 2, 3]
  | 24 => [0, 1, 6, 8, 5, 9, 7, 2, 3]
  | 25 => [0, 1, 5, 6, 4]
  | 26 => [0, 2]
  | 27 => [0, 1, 2, 7, 6, 4]
  | 28 => [0, 1, 4]
  | 29 => [0, 1, 3, 43, 42, 4, 68, 67, 5, 6, 7, 2]
  | 30 => [0, 1, 2, 5, 7, 6, 36, 35, 34, 9, 8, 4]
  | 31 => [0, 1, 3, 11, 10, 4, 2]
  | 32 => [0, 1, 3, 5, 4, 37, 36, 35, 7, 2]
  | 33 => [0, 1, 2, 3, 18, 17, 16, 11, 28, 27, 26, 13, 12, 8, 9, 6, 7]
  | 34 => [0, 4, 1, 3, 2]
  | 35 => [0, 1, 2, 3, 12, 9, 13, 10, 6, 7, 8]
  | 36 => [0, 1, 3, 4]
  | 37 => [0, 1, 2]
  | 38 => [0, 1, 5, 4]
  | 39 => [0, 1, 5, 4]
  | 40 => [0, 1, 2, 5, 4]
  | 41 => [0, 2]
  | 42 => [0, 2]
  | 43 => [0, 1, 5, 4]
  | 44 => [0, 1, 11, 10, 9, 7, 18, 17, 5, 8, 4]
  | 45 => [0, 1, 4]
  | 46 => [0, 1, 2, 3, 9, 10, 11, 12, 6, 7, 8]
  | 47 => [0, 8, 7, 6, 5, 3, 2]
  | 48 => [0, 1, 5, 6, 4]
  | 49 => [0, 1, 11, 10, 9, 5, 6, 7, 8, 4]
  | 50 => [0, 2]
  | 51 => [0, 1, 4]
  | 52 => [0, 1, 3]
  | 53 => [0, 2]
  | 54 => [0, 11, 10, 9, 3, 5, 27, 26, 25, 6, 8, 2]
  | 55 => [0, 1, 5, 3, 18, 17, 16, 6, 7, 4]
  | 56 => [0, 1, 2, 5, 4]
  | 57 => [0, 1, 12, 11, 10, 7, 8, 5, 9, 4]
  | 58 => [0, 2]
  | 59 => [0, 1, 8, 7, 5, 4]
  | 60 => [0, 1, 4]
  | 61 => [0, 2]
  | 62 => [0, 1, 4]
  | 63 => [0, 1, 5, 7, 6, 4]
  | 64 => [0, 1, 2, 5]
  | 65 => [0, 2]
  | 66 => [0, 1, 2, 3, 6, 7]
  | 67 => [0, 1, 2, 3, 4, 12, 10, 14, 13, 11, 15, 17, 16, 18, 19, 20]
  | 68 => [0, 2]
  | 69 => [0, 1, 2, 3, 8, 9]
  | 70 => [0, 1, 2, 3, 10, 11, 8, 12, 9]
  | 71 => [0, 1, 2, 3, 8, 11, 9, 10, 12]
  | 72 => [0, 1, 2, 3, 10, 12, 11, 13, 14, 55, 8, 9]
  | 73 => [0, 1, 2, 3, 8, 9]
  | 74 => [0, 1, 2, 3, 10, 9, 11, 12, 8]
  | 75 => [0, 1, 2, 3, 4, 11, 12, 10]
  | 76 => [0, 1, 2, 3, 4, 12, 13, 10, 11]
  | 77 => [0, 2]
  | 78 => [0, 2]
  | 79 => [0, 1, 2, 3, 4, 10, 11]
  | 80 => [0, 2]
  | 81 => [0, 2]
  | 82 => [0, 1, 2, 3, 8]
  | 83 => [0, 1, 2, 3, 4, 5, 12]
  | 84 => [0, 1, 2, 3, 4, 10, 11]
  | _ => []
def Q : Prims := fun f => match f with
  | 60 => some pGrow
  | 61 => some pCloneS
  | 62 => some pSort
  | 65 => some (vPrim pClone1)
  | _ => none
theorem Q_mono : PrimsMono Q := by
  intro f p h
  unfold Q at h
  split at h
  · cases h; exact pGrow_mono
  · cases h; exact pCloneS_mono
  · cases h; exact pSort_mono
  · cases h; exact fun _ _ _ _ _ _ h => h
  · cases h
/-- The interpreter with as much fuel as is wanted. -/
noncomputable def L : CE := lim G Q
theorem lim_L {f m k : Nat} (fn : Fn) {b : IC} {args : List AV} {σ : List Blk} {K : AV → List Blk → Prop} (hq : Q f = none) (hg : G f = some fn) (hb : fn.body = b) (hm : fn.np = m) (hk : fn.nv - fn.np = k) (hl : args.length = m) (h : WK L b (args ++ List.replicate k .und) none σ (EndsK fn K)) : LX L f args σ K := by subst hb; subst hm; subst hk; exact lim_LX Q_mono fn hq hg hl h
theorem go_law10_CoverPaths {args : List AV} {σ : List Blk} {K : AV → List Blk → Prop} (hl : args.length = 3) (h : WK L ir_law10_CoverPaths.body (args ++ List.replicate 8 .und) none σ (EndsK ir_law10_CoverPaths K)) : LX L F_law10_CoverPaths args σ K := lim_L (f := F_law10_CoverPaths) (m := 3) (k := 8) ir_law10_CoverPaths rfl rfl rfl rfl rfl hl h
theorem go_law10_CoverTours {args : List AV} {σ : List Blk} {K : AV → List Blk → Prop} (hl : args.length = 1) (h : WK L ir_law10_CoverTours.body (args ++ List.replicate 6 .und) none σ (EndsK ir_law10_CoverTours K)) : LX L F_law10_CoverTours args σ K := lim_L (f := F_law10_CoverTours) (m := 1) (k := 6) ir_law10_CoverTours rfl rfl rfl rfl rfl hl h
theorem go_law10_CoverCounts {args : List AV} {σ : List Blk} {K : AV → List Blk → Prop} (hl : args.length = 2) (h : WK L ir_law10_CoverCounts.body (args ++ List.replicate 11 .und) none σ (EndsK ir_law10_CoverCounts K)) : LX L F_law10_CoverCounts args σ K := lim_L (f := F_law10_CoverCounts) (m := 2) (k := 11) ir_law10_CoverCounts rfl rfl rfl rfl rfl hl h
theorem go_law10_CoverAll {args : List AV} {σ : List Blk} {K : AV → List Blk → Prop} (hl : args.length = 1) (h : WK L ir_law10_CoverAll.body (args ++ List.replicate 22 .und) none σ (EndsK ir_law10_CoverAll K)) : LX L F_law10_CoverAll args σ K := lim_L (f := F_law10_CoverAll) (m := 1) (k := 22) ir_law10_CoverAll rfl rfl rfl rfl rfl hl h
theorem go_law10_CoverAccess {args : List AV} {σ : List Blk} {K : AV → List Blk → Prop} (hl : args.length = 1) (h : WK L ir_law10_CoverAccess.body (args ++ List.replicate 16 .und) none σ (EndsK ir_law10_CoverAccess K)) : LX L F_law10_CoverAccess args σ K := lim_L (f := F_law10_CoverAccess) (m := 1) (k := 16) ir_law10_CoverAccess rfl rfl rfl rfl rfl hl h
theorem go_law10_CoverFirst {args : List AV} {σ : List Blk} {K : AV → List Blk → Prop} (hl : args.length = 2) (h : WK L ir_law10_CoverFirst.body (args ++ List.replicate 13 .und) none σ (EndsK ir_law10_CoverFirst K)) : LX L F_law10_CoverFirst args σ K := lim_L (f := F_law10_CoverFirst) (m := 2) (k := 13) ir_law10_CoverFirst rfl rfl rfl rfl rfl hl h
theorem go_law08_Great {args : List AV} {σ : List Blk} {K : AV → List Blk → Prop} (hl : args.length = 1) (h : WK L ir_law08_Great.body (args ++ List.replicate 8 .und) none σ (EndsK ir_law08_Great K)) : LX L F_law08_Great args σ K := lim_L (f := F_law08_Great) (m := 1) (k := 8) ir_law08_Great rfl rfl rfl rfl rfl hl h
theorem go_law10_exampleHolds {args : List AV} {σ : List Blk} {K : AV → List Blk → Prop} (hl : args.length = 0) (h : WK L ir_law10_exampleHolds.body (args ++ List.replicate 20 .und) none σ (EndsK ir_law10_exampleHolds K)) : LX L F_law10_exampleHolds args σ K := lim_L (f := F_law10_exampleHolds) (m := 0) (k := 20) ir_law10_exampleHolds rfl rfl rfl rfl rfl hl h
theorem go_cover_Path {args : List AV} {σ : List Blk} {K : AV → List Blk → Prop} (hl : args.length = 3) (h : WK L ir_cover_Path.body (args ++ List.replicate 9 .und) none σ (EndsK ir_cover_Path K)) : LX L F_cover_Path args σ K := lim_L (f := F_cover_Path) (m := 3) (k := 9) ir_cover_Path rfl rfl rfl rfl rfl hl h
theorem go_ref10_Path {args : List AV} {σ : List Blk} {K : AV → List Blk → Prop} (hl : args.length = 3) (h : WK L ir_ref10_Path.body (args ++ List.replicate 8 .und) none σ (EndsK ir_ref10_Path K)) : LX L F_ref10_Path args σ K := lim_L (f := F_ref10_Path) (m := 3) (k := 8) ir_ref10_Path rfl rfl rfl rfl rfl hl h
theorem go_ref08_Equal {args : List AV} {σ : List Blk} {K : AV → List Blk → Prop} (hl : args.length = 2) (h : WK L ir_ref08_Equal.body (args ++ List.replicate 2 .und) none σ (EndsK ir_ref08_Equal K)) : LX L F_ref08_Equal args σ K := lim_L (f := F_ref08_Equal) (m := 2) (k := 2) ir_ref08_Equal rfl rfl rfl rfl rfl hl h
theorem go_cover_Tour {args : List AV} {σ : List Blk} {K : AV → List Blk → Prop} (hl : args.length = 1) (h : WK L ir_cover_Tour.body (args ++ List.replicate 14 .und) none σ (EndsK ir_cover_Tour K)) : LX L F_cover_Tour args σ K := lim_L (f := F_cover_Tour) (m := 1) (k := 14) ir_cover_Tour rfl rfl rfl rfl rfl hl h
theorem go_ref10_Tour {args : List AV} {σ : List Blk} {K : AV → List Blk → Prop} (hl : args.length = 1) (h : WK L ir_ref10_Tour.body (args ++ List.replicate 13 .und) none σ (EndsK ir_ref10_Tour K)) : LX L F_ref10_Tour args σ K := lim_L (f := F_ref10_Tour) (m := 1) (k := 13) ir_ref10_Tour rfl rfl rfl rfl rfl hl h
theorem go_cover_Covered {args : List AV} {σ : List Blk} {K : AV → List Blk → Prop} (hl : args.length = 2) (h : WK L ir_cover_Covered.body (args ++ List.replicate 24 .und) none σ (EndsK ir_cover_Covered K)) : LX L F_cover_Covered args σ K := lim_L (f := F_cover_Covered) (m := 2) (k := 24) ir_cover_Covered rfl rfl rfl rfl rfl hl h
theorem go_ref10_Covered {args : List AV} {σ : List Blk} {K : AV → List Blk → Prop} (hl : args.length = 2) (h : WK L ir_ref10_Covered.body (args ++ List.replicate 14 .und) none σ (EndsK ir_ref10_Covered K)) : LX L F_ref10_Covered args σ K := lim_L (f := F_ref10_Covered) (m := 2) (k := 14) ir_ref10_Covered rfl rfl rfl rfl rfl hl h
theorem go_ref06_Valid {args : List AV} {σ : List Blk} {K : AV → List Blk → Prop} (hl : args.length = 1) (h : WK L ir_ref06_Valid.body (args ++ List.replicate 4 .und) none σ (EndsK ir_ref06_Valid K)) : LX L F_ref06_Valid args σ K := lim_L (f := F_ref06_Valid) (m := 1) (k := 4) ir_ref06_Valid rfl rfl rfl rfl rfl hl h
theorem go_cover_Access {args : List AV} {σ : List Blk} {K : AV → List Blk → Prop} (hl : args.length = 1) (h : WK L ir_cover_Access.body (args ++ List.replicate 11 .und) none σ (EndsK ir_cover_Access K)) : LX L F_cover_Access args σ K := lim_L (f := F_cover_Access) (m := 1) (k := 11) ir_cover_Access rfl rfl rfl rfl rfl hl h
theorem go_cover_Transitions {args : List AV} {σ : List Blk} {K : AV → List Blk → Prop} (hl : args.length = 1) (h : WK L ir_cover_Transitions.body (args ++ List.replicate 13 .und) none σ (EndsK ir_cover_Transitions K)) : LX L F_cover_Transitions args σ K := lim_L (f := F_cover_Transitions) (m := 1) (k := 13) ir_cover_Transitions rfl rfl rfl rfl rfl hl h
theorem go_ref10_Access {args : List AV} {σ : List Blk} {K : AV → List Blk → Prop} (hl : args.length = 1) (h : WK L ir_ref10_Access.body (args ++ List.replicate 10 .und) none σ (EndsK ir_ref10_Access K)) : LX L F_ref10_Access args σ K := lim_L (f := F_ref10_Access) (m := 1) (k := 10) ir_ref10_Access rfl rfl rfl rfl rfl hl h
theorem go_cover_StateCover {args : List AV} {σ : List Blk} {K : AV → List Blk → Prop} (hl : args.length = 1) (h : WK L ir_cover_StateCover.body (args ++ List.replicate 5 .und) none σ (EndsK ir_cover_StateCover K)) : LX L F_cover_StateCover args σ K := lim_L (f := F_cover_StateCover) (m := 1) (k := 5) ir_cover_StateCover rfl rfl rfl rfl rfl hl h
theorem go_ref10_StateCover {args : List AV} {σ : List Blk} {K : AV → List Blk → Prop} (hl : args.length = 1) (h : WK L ir_ref10_StateCover.body (args ++ List.replicate 5 .und) none σ (EndsK ir_ref10_StateCover K)) : LX L F_ref10_StateCover args σ K := lim_L (f := F_ref10_StateCover) (m := 1) (k := 5) ir_ref10_StateCover rfl rfl rfl rfl rfl hl h
theorem go_ref10_Transitions {args : List AV} {σ : List Blk} {K : AV → List Blk → Prop} (hl : args.length = 1) (h : WK L ir_ref10_Transitions.body (args ++ List.replicate 8 .und) none σ (EndsK ir_ref10_Transitions K)) : LX L F_ref10_Transitions args σ K := lim_L (f := F_ref10_Transitions) (m := 1) (k := 8) ir_ref10_Transitions rfl rfl rfl rfl rfl hl h
theorem go_ref10_Same {args : List AV} {σ : List Blk} {K : AV → List Blk → Prop} (hl : args.length = 2) (h : WK L ir_ref10_Same.body (args ++ List.replicate 3 .und) none σ (EndsK ir_ref10_Same K)) : LX L F_ref10_Same args σ K := lim_L (f := F_ref10_Same) (m := 2) (k := 3) ir_ref10_Same rfl rfl rfl rfl rfl hl h
theorem go_wordset_Prefixes {args : List AV} {σ : List Blk} {K : AV → List Blk → Prop} (hl : args.length = 1) (h : WK L ir_wordset_Prefixes.body (args ++ List.replicate 1 .und) none σ (EndsK ir_wordset_Prefixes K)) : LX L F_wordset_Prefixes args σ K := lim_L (f := F_wordset_Prefixes) (m := 1) (k := 1) ir_wordset_Prefixes rfl rfl rfl rfl rfl hl h
theorem go_law10_last {args : List AV} {σ : List Blk} {K : AV → List Blk → Prop} (hl : args.length = 2) (h : WK L ir_law10_last.body (args ++ List.replicate 4 .und) none σ (EndsK ir_law10_last K)) : LX L F_law10_last args σ K := lim_L (f := F_law10_last) (m := 2) (k := 4) ir_law10_last rfl rfl rfl rfl rfl hl h
theorem go_word_Compare {args : List AV} {σ : List Blk} {K : AV → List Blk → Prop} (hl : args.length = 2) (h : WK L ir_word_Compare.body (args ++ List.replicate 1 .und) none σ (EndsK ir_word_Compare K)) : LX L F_word_Compare args σ K := lim_L (f := F_word_Compare) (m := 2) (k := 1) ir_word_Compare rfl rfl rfl rfl rfl hl h
theorem go_mealy_Valid {args : List AV} {σ : List Blk} {K : AV → List Blk → Prop} (hl : args.length = 1) (h : WK L ir_mealy_Valid.body (args ++ List.replicate 11 .und) none σ (EndsK ir_mealy_Valid K)) : LX L F_mealy_Valid args σ K := lim_L (f := F_mealy_Valid) (m := 1) (k := 11) ir_mealy_Valid rfl rfl rfl rfl rfl hl h
theorem go_cover_places {args : List AV} {σ : List Blk} {K : AV → List Blk → Prop} (hl : args.length = 2) (h : WK L ir_cover_places.body (args ++ List.replicate 10 .und) none σ (EndsK ir_cover_places K)) : LX L F_cover_places args σ K := lim_L (f := F_cover_places) (m := 2) (k := 10) ir_cover_places rfl rfl rfl rfl rfl hl h
theorem go_cover_marks {args : List AV} {σ : List Blk} {K : AV → List Blk → Prop} (hl : args.length = 1) (h : WK L ir_cover_marks.body (args ++ List.replicate 6 .und) none σ (EndsK ir_cover_marks K)) : LX L F_cover_marks args σ K := lim_L (f := F_cover_marks) (m := 1) (k := 6) ir_cover_marks rfl rfl rfl rfl rfl hl h
theorem go_mealy_Reach {args : List AV} {σ : List Blk} {K : AV → List Blk → Prop} (hl : args.length = 1) (h : WK L ir_mealy_Reach.body (args ++ List.replicate 9 .und) none σ (EndsK ir_mealy_Reach K)) : LX L F_mealy_Reach args σ K := lim_L (f := F_mealy_Reach) (m := 1) (k := 9) ir_mealy_Reach rfl rfl rfl rfl rfl hl h
theorem go_cover_untaken {args : List AV} {σ : List Blk} {K : AV → List Blk → Prop} (hl : args.length = 3) (h : WK L ir_cover_untaken.body (args ++ List.replicate 14 .und) none σ (EndsK ir_cover_untaken K)) : LX L F_cover_untaken args σ K := lim_L (f := F_cover_untaken) (m := 3) (k := 14) ir_cover_untaken rfl rfl rfl rfl rfl hl h
theorem go_ref10_none {args : List AV} {σ : List Blk} {K : AV → List Blk → Prop} (hl : args.length = 1) (h : WK L ir_ref10_none.body (args ++ List.replicate 4 .und) none σ (EndsK ir_ref10_none K)) : LX L F_ref10_none args σ K := lim_L (f := F_ref10_none) (m := 1) (k := 4) ir_ref10_none rfl rfl rfl rfl rfl hl h
theorem go_ref10_fresh {args : List AV} {σ : List Blk} {K : AV → List Blk → Prop} (hl : args.length = 3) (h : WK L ir_ref10_fresh.body (args ++ List.replicate 8 .und) none σ (EndsK ir_ref10_fresh K)) : LX L F_ref10_fresh args σ K := lim_L (f := F_ref10_fresh) (m := 3) (k := 8) ir_ref10_fresh rfl rfl rfl rfl rfl hl h
theorem go_word_Check {args : List AV} {σ : List Blk} {K : AV → List Blk → Prop} (hl : args.length = 2) (h : WK L ir_word_Check.body (args ++ List.replicate 2 .und) none σ (EndsK ir_word_Check K)) : LX L F_word_Check args σ K := lim_L (f := F_word_Check) (m := 2) (k := 2) ir_word_Check rfl rfl rfl rfl rfl hl h
theorem go_cover_Covered_1 {args : List AV} {σ : List Blk} {K : AV → List Blk → Prop} (hl : args.length = 3) (h : WK L ir_cover_Covered_1.body (args ++ List.replicate 0 .und) none σ (EndsK ir_cover_Covered_1 K)) : LX L F_cover_Covered_1 args σ K := lim_L (f := F_cover_Covered_1) (m := 3) (k := 0) ir_cover_Covered_1 rfl rfl rfl rfl rfl hl h
theorem go_ref01_Check {args : List AV} {σ : List Blk} {K : AV → List Blk → Prop} (hl : args.length = 2) (h : WK L ir_ref01_Check.body (args ++ List.replicate 2 .und) none σ (EndsK ir_ref01_Check K)) : LX L F_ref01_Check args σ K := lim_L (f := F_ref01_Check) (m := 2) (k := 2) ir_ref01_Check rfl rfl rfl rfl rfl hl h
theorem go_ref10_has {args : List AV} {σ : List Blk} {K : AV → List Blk → Prop} (hl : args.length = 2) (h : WK L ir_ref10_has.body (args ++ List.replicate 2 .und) none σ (EndsK ir_ref10_has K)) : LX L F_ref10_has args σ K := lim_L (f := F_ref10_has) (m := 2) (k := 2) ir_ref10_has rfl rfl rfl rfl rfl hl h
theorem go_ref06_row {args : List AV} {σ : List Blk} {K : AV → List Blk → Prop} (hl : args.length = 2) (h : WK L ir_ref06_row.body (args ++ List.replicate 3 .und) none σ (EndsK ir_ref06_row K)) : LX L F_ref06_row args σ K := lim_L (f := F_ref06_row) (m := 2) (k := 3) ir_ref06_row rfl rfl rfl rfl rfl hl h
theorem go_word_Join {args : List AV} {σ : List Blk} {K : AV → List Blk → Prop} (hl : args.length = 1) (h : WK L ir_word_Join.body (args ++ List.replicate 1 .und) none σ (EndsK ir_word_Join K)) : LX L F_word_Join args σ K := lim_L (f := F_word_Join) (m := 1) (k := 1) ir_word_Join rfl rfl rfl rfl rfl hl h
theorem go_wordset_Sorted {args : List AV} {σ : List Blk} {K : AV → List Blk → Prop} (hl : args.length = 1) (h : WK L ir_wordset_Sorted.body (args ++ List.replicate 1 .und) none σ (EndsK ir_wordset_Sorted K)) : LX L F_wordset_Sorted args σ K := lim_L (f := F_wordset_Sorted) (m := 1) (k := 1) ir_wordset_Sorted rfl rfl rfl rfl rfl hl h
theorem go_ref09_Extended {args : List AV} {σ : List Blk} {K : AV → List Blk → Prop} (hl : args.length = 2) (h : WK L ir_ref09_Extended.body (args ++ List.replicate 2 .und) none σ (EndsK ir_ref09_Extended K)) : LX L F_ref09_Extended args σ K := lim_L (f := F_ref09_Extended) (m := 2) (k := 2) ir_ref09_Extended rfl rfl rfl rfl rfl hl h
theorem go_wordset_parts {args : List AV} {σ : List Blk} {K : AV → List Blk → Prop} (hl : args.length = 2) (h : WK L ir_wordset_parts.body (args ++ List.replicate 9 .und) none σ (EndsK ir_wordset_parts K)) : LX L F_wordset_parts args σ K := lim_L (f := F_wordset_parts) (m := 2) (k := 9) ir_wordset_parts rfl rfl rfl rfl rfl hl h
theorem go_wordset_Prefixes_1 {args : List AV} {σ : List Blk} {K : AV → List Blk → Prop} (hl : args.length = 2) (h : WK L ir_wordset_Prefixes_1.body (args ++ List.replicate 1 .und) none σ (EndsK ir_wordset_Prefixes_1 K)) : LX L F_wordset_Prefixes_1 args σ K := lim_L (f := F_wordset_Prefixes_1) (m := 2) (k := 1) ir_wordset_Prefixes_1 rfl rfl rfl rfl rfl hl h
theorem go_mealy_From {args : List AV} {σ : List Blk} {K : AV → List Blk → Prop} (hl : args.length = 3) (h : WK L ir_mealy_From.body (args ++ List.replicate 8 .und) none σ (EndsK ir_mealy_From K)) : LX L F_mealy_From args σ K := lim_L (f := F_mealy_From) (m := 3) (k := 8) ir_mealy_From rfl rfl rfl rfl rfl hl h
theorem go_cmp_Or_int {args : List AV} {σ : List Blk} {K : AV → List Blk → Prop} (hl : args.length = 1) (h : WK L ir_cmp_Or_int.body (args ++ List.replicate 6 .und) none σ (EndsK ir_cmp_Or_int K)) : LX L F_cmp_Or_int args σ K := lim_L (f := F_cmp_Or_int) (m := 1) (k := 6) ir_cmp_Or_int rfl rfl rfl rfl rfl hl h
theorem go_cmp_Compare_int {args : List AV} {σ : List Blk} {K : AV → List Blk → Prop} (hl : args.length = 2) (h : WK L ir_cmp_Compare_int.body (args ++ List.replicate 3 .und) none σ (EndsK ir_cmp_Compare_int K)) : LX L F_cmp_Compare_int args σ K := lim_L (f := F_cmp_Compare_int) (m := 2) (k := 3) ir_cmp_Compare_int rfl rfl rfl rfl rfl hl h
theorem go_slices_Compare_Sint_int {args : List AV} {σ : List Blk} {K : AV → List Blk → Prop} (hl : args.length = 2) (h : WK L ir_slices_Compare_Sint_int.body (args ++ List.replicate 8 .und) none σ (EndsK ir_slices_Compare_Sint_int K)) : LX L F_slices_Compare_Sint_int args σ K := lim_L (f := F_slices_Compare_Sint_int) (m := 2) (k := 8) ir_slices_Compare_Sint_int rfl rfl rfl rfl rfl hl h
theorem go_word_permitted {args : List AV} {σ : List Blk} {K : AV → List Blk → Prop} (hl : args.length = 1) (h : WK L ir_word_permitted.body (args ++ List.replicate 1 .und) none σ (EndsK ir_word_permitted K)) : LX L F_word_permitted args σ K := lim_L (f := F_word_permitted) (m := 1) (k := 1) ir_word_permitted rfl rfl rfl rfl rfl hl h
theorem go_slices_ContainsFunc_Sint_int {args : List AV} {σ : List Blk} {K : AV → List Blk → Prop} (hl : args.length = 2) (h : WK L ir_slices_ContainsFunc_Sint_int.body (args ++ List.replicate 1 .und) none σ (EndsK ir_slices_ContainsFunc_Sint_int K)) : LX L F_slices_ContainsFunc_Sint_int args σ K := lim_L (f := F_slices_ContainsFunc_Sint_int) (m := 2) (k := 1) ir_slices_ContainsFunc_Sint_int rfl rfl rfl rfl rfl hl h
theorem go_word_Check_1 {args : List AV} {σ : List Blk} {K : AV → List Blk → Prop} (hl : args.length = 2) (h : WK L ir_word_Check_1.body (args ++ List.replicate 1 .und) none σ (EndsK ir_word_Check_1 K)) : LX L F_word_Check_1 args σ K := lim_L (f := F_word_Check_1) (m := 2) (k := 1) ir_word_Check_1 rfl rfl rfl rfl rfl hl h
theorem go_ref01_Size {args : List AV} {σ : List Blk} {K : AV → List Blk → Prop} (hl : args.length = 1) (h : WK L ir_ref01_Size.body (args ++ List.replicate 1 .und) none σ (EndsK ir_ref01_Size K)) : LX L F_ref01_Size args σ K := lim_L (f := F_ref01_Size) (m := 1) (k := 1) ir_ref01_Size rfl rfl rfl rfl rfl hl h
theorem go_slices_Concat_Sint_int {args : List AV} {σ : List Blk} {K : AV → List Blk → Prop} (hl : args.length = 1) (h : WK L ir_slices_Concat_Sint_int.body (args ++ List.replicate 11 .und) none σ (EndsK ir_slices_Concat_Sint_int K)) : LX L F_slices_Concat_Sint_int args σ K := lim_L (f := F_slices_Concat_Sint_int) (m := 1) (k := 11) ir_slices_Concat_Sint_int rfl rfl rfl rfl rfl hl h
theorem go_wordset_ordered {args : List AV} {σ : List Blk} {K : AV → List Blk → Prop} (hl : args.length = 2) (h : WK L ir_wordset_ordered.body (args ++ List.replicate 8 .und) none σ (EndsK ir_wordset_ordered K)) : LX L F_wordset_ordered args σ K := lim_L (f := F_wordset_ordered) (m := 2) (k := 8) ir_wordset_ordered rfl rfl rfl rfl rfl hl h
theorem go_mealy_state {args : List AV} {σ : List Blk} {K : AV → List Blk → Prop} (hl : args.length = 2) (h : WK L ir_mealy_state.body (args ++ List.replicate 3 .und) none σ (EndsK ir_mealy_state K)) : LX L F_mealy_state args σ K := lim_L (f := F_mealy_state) (m := 2) (k := 3) ir_mealy_state rfl rfl rfl rfl rfl hl h
theorem go_mealy_runner_run {args : List AV} {σ : List Blk} {K : AV → List Blk → Prop} (hl : args.length = 2) (h : WK L ir_mealy_runner_run.body (args ++ List.replicate 8 .und) none σ (EndsK ir_mealy_runner_run K)) : LX L F_mealy_runner_run args σ K := lim_L (f := F_mealy_runner_run) (m := 2) (k := 8) ir_mealy_runner_run rfl rfl rfl rfl rfl hl h
theorem go_cmp_isNaN_int {args : List AV} {σ : List Blk} {K : AV → List Blk → Prop} (hl : args.length = 1) (h : WK L ir_cmp_isNaN_int.body (args ++ List.replicate 1 .und) none σ (EndsK ir_cmp_isNaN_int K)) : LX L F_cmp_isNaN_int args σ K := lim_L (f := F_cmp_isNaN_int) (m := 1) (k := 1) ir_cmp_isNaN_int rfl rfl rfl rfl rfl hl h
theorem go_slices_IndexFunc_Sint_int {args : List AV} {σ : List Blk} {K : AV → List Blk → Prop} (hl : args.length = 2) (h : WK L ir_slices_IndexFunc_Sint_int.body (args ++ List.replicate 4 .und) none σ (EndsK ir_slices_IndexFunc_Sint_int K)) : LX L F_slices_IndexFunc_Sint_int args σ K := lim_L (f := F_slices_IndexFunc_Sint_int) (m := 2) (k := 4) ir_slices_IndexFunc_Sint_int rfl rfl rfl rfl rfl hl h
theorem go_slices_Grow_Sint_int {N : Nat} {args : List AV} {σ : List Blk} {x : AV × List Blk} (h : pGrow (cN G Q N) args σ = some x) : L F_slices_Grow_Sint_int args σ = some x := lim_prim Q_mono (f := F_slices_Grow_Sint_int) rfl h
theorem go_slices_Clone_SSint_Sint {N : Nat} {args : List AV} {σ : List Blk} {x : AV × List Blk} (h : pCloneS (cN G Q N) args σ = some x) : L F_slices_Clone_SSint_Sint args σ = some x := lim_prim Q_mono (f := F_slices_Clone_SSint_Sint) rfl h
theorem go_slices_SortFunc_SSint_Sint {N : Nat} {args : List AV} {σ : List Blk} {x : AV × List Blk} (h : pSort (cN G Q N) args σ = some x) : L F_slices_SortFunc_SSint_Sint args σ = some x := lim_prim Q_mono (f := F_slices_SortFunc_SSint_Sint) rfl h
theorem go_slices_CompactFunc_SSint_Sint {args : List AV} {σ : List Blk} {K : AV → List Blk → Prop} (hl : args.length = 2) (h : WK L ir_slices_CompactFunc_SSint_Sint.body (args ++ List.replicate 4 .und) none σ (EndsK ir_slices_CompactFunc_SSint_Sint K)) : LX L F_slices_CompactFunc_SSint_Sint args σ K := lim_L (f := F_slices_CompactFunc_SSint_Sint) (m := 2) (k := 4) ir_slices_CompactFunc_SSint_Sint rfl rfl rfl rfl rfl hl h
theorem go_wordset_ordered_1 {args : List AV} {σ : List Blk} {K : AV → List Blk → Prop} (hl : args.length = 3) (h : WK L ir_wordset_ordered_1.body (args ++ List.replicate 1 .und) none σ (EndsK ir_wordset_ordered_1 K)) : LX L F_wordset_ordered_1 args σ K := lim_L (f := F_wordset_ordered_1) (m := 3) (k := 1) ir_wordset_ordered_1 rfl rfl rfl rfl rfl hl h
theorem go_slices_Clone_Sint_int {args : List AV} {v : AV} (h : pClone1 (cN G Q 0) args = some v) : L F_slices_Clone_Sint_int args [] = some (v, []) := lim_prim Q_mono (N := 0) (f := F_slices_Clone_Sint_int) rfl (by simp only [vPrim, h, Option.map_some])
theorem go_mealy_machine_move {args : List AV} {σ : List Blk} {K : AV → List Blk → Prop} (hl : args.length = 3) (h : WK L ir_mealy_machine_move.body (args ++ List.replicate 3 .und) none σ (EndsK ir_mealy_machine_move K)) : LX L F_mealy_machine_move args σ K := lim_L (f := F_mealy_machine_move) (m := 3) (k := 3) ir_mealy_machine_move rfl rfl rfl rfl rfl hl h
theorem go_slices_pdqsortCmpFunc_Sint {args : List AV} {σ : List Blk} {K : AV → List Blk → Prop} (hl : args.length = 5) (h : WK L ir_slices_pdqsortCmpFunc_Sint.body (args ++ List.replicate 11 .und) none σ (EndsK ir_slices_pdqsortCmpFunc_Sint K)) : LX L F_slices_pdqsortCmpFunc_Sint args σ K := lim_L (f := F_slices_pdqsortCmpFunc_Sint) (m := 5) (k := 11) ir_slices_pdqsortCmpFunc_Sint rfl rfl rfl rfl rfl hl h
theorem go_math_bits_Len {args : List AV} {σ : List Blk} {K : AV → List Blk → Prop} (hl : args.length = 1) (h : WK L ir_math_bits_Len.body (args ++ List.replicate 1 .und) none σ (EndsK ir_math_bits_Len K)) : LX L F_math_bits_Len args σ K := lim_L (f := F_math_bits_Len) (m := 1) (k := 1) ir_math_bits_Len rfl rfl rfl rfl rfl hl h
theorem go_slices_insertionSortCmpFunc_Sint {args : List AV} {σ : List Blk} {K : AV → List Blk → Prop} (hl : args.length = 4) (h : WK L ir_slices_insertionSortCmpFunc_Sint.body (args ++ List.replicate 2 .und) none σ (EndsK ir_slices_insertionSortCmpFunc_Sint K)) : LX L F_slices_insertionSortCmpFunc_Sint args σ K := lim_L (f := F_slices_insertionSortCmpFunc_Sint) (m := 4) (k := 2) ir_slices_insertionSortCmpFunc_Sint rfl rfl rfl rfl rfl hl h
theorem go_slices_heapSortCmpFunc_Sint {args : List AV} {σ : List Blk} {K : AV → List Blk → Prop} (hl : args.length = 4) (h : WK L ir_slices_heapSortCmpFunc_Sint.body (args ++ List.replicate 5 .und) none σ (EndsK ir_slices_heapSortCmpFunc_Sint K)) : LX L F_slices_heapSortCmpFunc_Sint args σ K := lim_L (f := F_slices_heapSortCmpFunc_Sint) (m := 4) (k := 5) ir_slices_heapSortCmpFunc_Sint rfl rfl rfl rfl rfl hl h
theorem go_slices_breakPatternsCmpFunc_Sint {args : List AV} {σ : List Blk} {K : AV → List Blk → Prop} (hl : args.length = 4) (h : WK L ir_slices_breakPatternsCmpFunc_Sint.body (args ++ List.replicate 5 .und) none σ (EndsK ir_slices_breakPatternsCmpFunc_Sint K)) : LX L F_slices_breakPatternsCmpFunc_Sint args σ K := lim_L (f := F_slices_breakPatternsCmpFunc_Sint) (m := 4) (k := 5) ir_slices_breakPatternsCmpFunc_Sint rfl rfl rfl rfl rfl hl h
theorem go_slices_choosePivotCmpFunc_Sint {args : List AV} {σ : List Blk} {K : AV → List Blk → Prop} (hl : args.length = 4) (h : WK L ir_slices_choosePivotCmpFunc_Sint.body (args ++ List.replicate 8 .und) none σ (EndsK ir_slices_choosePivotCmpFunc_Sint K)) : LX L F_slices_choosePivotCmpFunc_Sint args σ K := lim_L (f := F_slices_choosePivotCmpFunc_Sint) (m := 4) (k := 8) ir_slices_choosePivotCmpFunc_Sint rfl rfl rfl rfl rfl hl h
theorem go_slices_reverseRangeCmpFunc_Sint {args : List AV} {σ : List Blk} {K : AV → List Blk → Prop} (hl : args.length = 4) (h : WK L ir_slices_reverseRangeCmpFunc_Sint.body (args ++ List.replicate 2 .und) none σ (EndsK ir_slices_reverseRangeCmpFunc_Sint K)) : LX L F_slices_reverseRangeCmpFunc_Sint args σ K := lim_L (f := F_slices_reverseRangeCmpFunc_Sint) (m := 4) (k := 2) ir_slices_reverseRangeCmpFunc_Sint rfl rfl rfl rfl rfl hl h
theorem go_slices_partialInsertionSortCmpFunc_Sint {args : List AV} {σ : List Blk} {K : AV → List Blk → Prop} (hl : args.length = 4) (h : WK L ir_slices_partialInsertionSortCmpFunc_Sint.body (args ++ List.replicate 5 .und) none σ (EndsK ir_slices_partialInsertionSortCmpFunc_Sint K)) : LX L F_slices_partialInsertionSortCmpFunc_Sint args σ K := lim_L (f := F_slices_partialInsertionSortCmpFunc_Sint) (m := 4) (k := 5) ir_slices_partialInsertionSortCmpFunc_Sint rfl rfl rfl rfl rfl hl h
theorem go_slices_partitionEqualCmpFunc_Sint {args : List AV} {σ : List Blk} {K : AV → List Blk → Prop} (hl : args.length = 5) (h : WK L ir_slices_partitionEqualCmpFunc_Sint.body (args ++ List.replicate 3 .und) none σ (EndsK ir_slices_partitionEqualCmpFunc_Sint K)) : LX L F_slices_partitionEqualCmpFunc_Sint args σ K := lim_L (f := F_slices_partitionEqualCmpFunc_Sint) (m := 5) (k := 3) ir_slices_partitionEqualCmpFunc_Sint rfl rfl rfl rfl rfl hl h
theorem go_slices_partitionCmpFunc_Sint {args : List AV} {σ : List Blk} {K : AV → List Blk → Prop} (hl : args.length = 5) (h : WK L ir_slices_partitionCmpFunc_Sint.body (args ++ List.replicate 4 .und) none σ (EndsK ir_slices_partitionCmpFunc_Sint K)) : LX L F_slices_partitionCmpFunc_Sint args σ K := lim_L (f := F_slices_partitionCmpFunc_Sint) (m := 5) (k := 4) ir_slices_partitionCmpFunc_Sint rfl rfl rfl rfl rfl hl h
theorem go_math_bits_Len32 {args : List AV} {σ : List Blk} {K : AV → List Blk → Prop} (hl : args.length = 1) (h : WK L ir_math_bits_Len32.body (args ++ List.replicate 1 .und) none σ (EndsK ir_math_bits_Len32 K)) : LX L F_math_bits_Len32 args σ K := lim_L (f := F_math_bits_Len32) (m := 1) (k := 1) ir_math_bits_Len32 rfl rfl rfl rfl rfl hl h
theorem go_math_bits_Len64 {args : List AV} {σ : List Blk} {K : AV → List Blk → Prop} (hl : args.length = 1) (h : WK L ir_math_bits_Len64.body (args ++ List.replicate 1 .und) none σ (EndsK ir_math_bits_Len64 K)) : LX L F_math_bits_Len64 args σ K := lim_L (f := F_math_bits_Len64) (m := 1) (k := 1) ir_math_bits_Len64 rfl rfl rfl rfl rfl hl h
theorem go_slices_siftDownCmpFunc_Sint {args : List AV} {σ : List Blk} {K : AV → List Blk → Prop} (hl : args.length = 5) (h : WK L ir_slices_siftDownCmpFunc_Sint.body (args ++ List.replicate 2 .und) none σ (EndsK ir_slices_siftDownCmpFunc_Sint K)) : LX L F_slices_siftDownCmpFunc_Sint args σ K := lim_L (f := F_slices_siftDownCmpFunc_Sint) (m := 5) (k := 2) ir_slices_siftDownCmpFunc_Sint rfl rfl rfl rfl rfl hl h
theorem go_slices_nextPowerOfTwo {args : List AV} {σ : List Blk} {K : AV → List Blk → Prop} (hl : args.length = 1) (h : WK L ir_slices_nextPowerOfTwo.body (args ++ List.replicate 1 .und) none σ (EndsK ir_slices_nextPowerOfTwo K)) : LX L F_slices_nextPowerOfTwo args σ K := lim_L (f := F_slices_nextPowerOfTwo) (m := 1) (k := 1) ir_slices_nextPowerOfTwo rfl rfl rfl rfl rfl hl h
theorem go_slices_xorshift_Next {args : List AV} {σ : List Blk} {K : AV → List Blk → Prop} (hl : args.length = 1) (h : WK L ir_slices_xorshift_Next.body (args ++ List.replicate 1 .und) none σ (EndsK ir_slices_xorshift_Next K)) : LX L F_slices_xorshift_Next args σ K := lim_L (f := F_slices_xorshift_Next) (m := 1) (k := 1) ir_slices_xorshift_Next rfl rfl rfl rfl rfl hl h
theorem go_slices_medianAdjacentCmpFunc_Sint {args : List AV} {σ : List Blk} {K : AV → List Blk → Prop} (hl : args.length = 4) (h : WK L ir_slices_medianAdjacentCmpFunc_Sint.body (args ++ List.replicate 1 .und) none σ (EndsK ir_slices_medianAdjacentCmpFunc_Sint K)) : LX L F_slices_medianAdjacentCmpFunc_Sint args σ K := lim_L (f := F_slices_medianAdjacentCmpFunc_Sint) (m := 4) (k := 1) ir_slices_medianAdjacentCmpFunc_Sint rfl rfl rfl rfl rfl hl h
theorem go_slices_medianCmpFunc_Sint {args : List AV} {σ : List Blk} {K : AV → List Blk → Prop} (hl : args.length = 6) (h : WK L ir_slices_medianCmpFunc_Sint.body (args ++ List.replicate 1 .und) none σ (EndsK ir_slices_medianCmpFunc_Sint K)) : LX L F_slices_medianCmpFunc_Sint args σ K := lim_L (f := F_slices_medianCmpFunc_Sint) (m := 6) (k := 1) ir_slices_medianCmpFunc_Sint rfl rfl rfl rfl rfl hl h
theorem go_slices_order2CmpFunc_Sint {args : List AV} {σ : List Blk} {K : AV → List Blk → Prop} (hl : args.length = 5) (h : WK L ir_slices_order2CmpFunc_Sint.body (args ++ List.replicate 2 .und) none σ (EndsK ir_slices_order2CmpFunc_Sint K)) : LX L F_slices_order2CmpFunc_Sint args σ K := lim_L (f := F_slices_order2CmpFunc_Sint) (m := 5) (k := 2) ir_slices_order2CmpFunc_Sint rfl rfl rfl rfl rfl hl h
end Ab
