/- The functions of the program as small texts, printed by a tool of mine: what is run. Condition: none. -/
import Derived.Test.YtkedjdfangojmaaIr1
set_option linter.all false
namespace Ab
def G : Nat → Option Fn := fun f => match f with
  | 3 => some ir_law20_BatchPlans
  | 4 => some ir_law20_BatchCosts
  | 5 => some ir_law20_BatchChains
  | 6 => some ir_law20_BatchComplete
  | 7 => some ir_law20_BatchSchedules
  | 8 => some ir_law20_BatchGroups
  | 9 => some ir_ref17_Great
  | 10 => some ir_ref02_Great
  | 11 => some ir_ref16_Valid
  | 12 => some ir_law20_awake
  | 13 => some ir_batch_Plan
  | 14 => some ir_ref20_Plan
  | 15 => some ir_ref01_SameWords
  | 16 => some ir_batch_Cost
  | 17 => some ir_ref20_Cost
  | 18 => some ir_batch_Groups
  | 19 => some ir_ref20_Groups
  | 20 => some ir_ref20_SameGroups
  | 21 => some ir_ref19_Great
  | 22 => some ir_batch_Chain
  | 23 => some ir_ref20_Chain
  | 24 => some ir_ref20_SameMoves
  | 25 => some ir_ref16_Of
  | 26 => some ir_ref16_Answer
  | 27 => some ir_ref02_Has
  | 28 => some ir_ref01_Compare
  | 29 => some ir_ref01_HasPrefix
  | 30 => some ir_ref06_Traces
  | 31 => some ir_ref16_All
  | 32 => some ir_ref02_Maximal
  | 33 => some ir_ref06_Valid
  | 34 => some ir_ref01_Check
  | 35 => some ir_ref01_Same
  | 36 => some ir_ref16_Proper
  | 37 => some ir_ref16_apart
  | 38 => some ir_word_Check
  | 39 => some ir_observe_Answer
  | 40 => some ir_wordset_Maximal
  | 41 => some ir_ref20_check
  | 42 => some ir_device_Cost
  | 43 => some ir_ref19_Cost
  | 44 => some ir_word_Join
  | 45 => some ir_batch_first
  | 46 => some ir_mealy_Valid
  | 47 => some ir_batch_fits
  | 48 => some ir_cover_Path
  | 49 => some ir_batch_steps
  | 50 => some ir_mealy_From
  | 51 => some ir_ref19_Fits
  | 52 => some ir_ref10_Path
  | 53 => some ir_ref20_steps
  | 54 => some ir_ref06_Outs
  | 55 => some ir_ref01_Join
  | 56 => some ir_ref01_Lex
  | 57 => some ir_ref01_Common
  | 58 => some ir_ref16_Add
  | 59 => some ir_ref02_Sorted
  | 60 => some ir_ref06_row
  | 61 => some ir_ref01_Size
  | 62 => some ir_ref16_Differ
  | 63 => some ir_word_permitted
  | 64 => some ir_slices_ContainsFunc_Sint_int
  | 65 => some ir_word_Check_1
  | 66 => some ir_slices_IndexFunc_Sapi_Trace_api_Trace
  | 67 => some ir_observe_Answer_1
  | 68 => some ir_word_HasPrefix
  | 69 => some ir_slices_Clone_Sint_int
  | 70 => some ir_wordset_ordered
  | 71 => some ir_word_Lex
  | 72 => some ir_wordset_Sorted
  | 73 => some ir_device_costs
  | 74 => some ir_ref19_costs
  | 75 => some ir_slices_Concat_Sint_int
  | 76 => some ir_batch_fits_1
  | 77 => some ir_cover_places
  | 78 => some ir_mealy_state
  | 79 => some ir_mealy_runner_run
  | 80 => some ir_ref10_Access
  | 81 => some ir_ref16_add
  | 82 => some ir_ref02_with
  | 83 => some ir_slices_IndexFunc_Sint_int
  | 84 => some ir_word_Common
  | 85 => some ir_slices_Clone_SSint_Sint
  | 87 => some ir_slices_CompactFunc_SSint_Sint
  | 88 => some ir_wordset_ordered_1
  | 89 => some ir_slices_Compare_Sint_int
  | 90 => some ir_word_Compare
  | 91 => some ir_device_costs_1
  | 92 => some ir_device_outside
  | 94 => some ir_mealy_machine_move
  | 95 => some ir_ref10_has
  | 96 => some ir_ref09_Extended
  | 97 => some ir_ref16_copied
  | 98 => some ir_ref02_place
  | 99 => some ir_slices_pdqsortCmpFunc_Sint
  | 100 => some ir_math_bits_Len
  | 101 => some ir_cmp_Compare_int
  | 102 => some ir_cmp_Or_int
  | 103 => some ir_slices_insertionSortCmpFunc_Sint
  | 104 => some ir_slices_heapSortCmpFunc_Sint
  | 105 => some ir_slices_breakPatternsCmpFunc_Sint
  | 106 => some ir_slices_choosePivotCmpFunc_Sint
  | 107 => some ir_slices_reverseRangeCmpFunc_Sint
  | 108 => some ir_slices_partialInsertionSortCmpFunc_Sint
  | 109 => some ir_slices_partitionEqualCmpFunc_Sint
  | 110 => some ir_slices_partitionCmpFunc_Sint
  | 111 => some ir_math_bits_Len32
  | 112 => some ir_math_bits_Len64
  | 113 => some ir_cmp_isNaN_int
  | 114 => some ir_slices_siftDownCmpFunc_Sint
  | 115 => some ir_slices_nextPowerOfTwo
  | 116 => some ir_slices_xorshift_Next
  | 117 => some ir_slices_medianAdjacentCmpFunc_Sint
  | 118 => some ir_slices_medianCmpFunc_Sint
  | 119 => some ir_slices_order2CmpFunc_Sint
  | _ => none
def sls : Nat → List Nat := fun f => match f with
  | 3 => [0, 1, 2, 5, 7, 6, 8, 4]
  | 4 => [0, 1, 2, 3, 7, 9, 8, 10, 11, 13, 12, 14, 6]
  | 5 => [0, 1, 2, 3, 4, 7, 10, 8, 11, 9, 12, 6]
  | 6 => [0, 1, 2, 3, 8, 7, 10, 9, 11, 13, 14, 15, 16, 18, 19, 17, 21, 6]
  | 7 => [0, 1, 2, 3, 4, 9, 7, 8, 10, 13, 14, 12, 11, 15, 16, 18, 17, 6]
  | 8 => [0, 1, 5, 6, 8, 10, 9, 7, 4]
  | 9 => [0, 3, 2]
  | 10 => [0, 1, 2, 7, 6]
  | 11 => [0, 1, 3, 4, 5, 6, 2]
  | 12 => [1, 2, 3, 4, 5, 6, 7, 8, 10, 11, 12, 13, 14, 16, 0]
  | 13 => [0, 1, 16, 15, 14, 7, 2, 8, 33, 32, 31, 11, 13, 9, 4, 5]
  | 14 => [0, 1, 2, 6, 8, 10, 7, 4, 5]
  | 15 => [0, 1, 5, 4]
  | 16 => [0, 1, 2, 7, 23, 22, 21, 10, 12, 8, 11, 4, 5]
  | 17 => [0, 1, 2, 7, 9, 11, 8, 10, 4, 5]
  | 18 => [0, 1, 18, 17, 16, 6, 8, 9, 10, 4, 5]
  | 19 => [0, 1, 8, 7, 9, 6, 4, 5]
  | 20 => [0, 1, 5, 4]
  | 21 => [0, 1, 5, 2, 6, 3, 4]
  | 22 => [0, 1, 2, 3, 9, 4, 10, 41, 40, 39, 12, 13, 56, 55, 54, 18, 16, 23, 21, 22, 24, 19, 27, 26, 15, 20, 14, 6, 7, 8]
  | 23 => [0, 1, 2, 3, 9, 4, 14, 10, 13, 16, 15, 18, 12, 11, 6, 7, 8]
  | 24 => [0, 1, 5, 4]
  | 25 => [0, 1, 2, 7, 4, 6, 8, 5]
  | 26 => [0, 1, 6, 2, 4, 5]
  | 27 => [0, 1, 5, 4]
  | 28 => [0, 1, 4]
  | 29 => [0, 1, 4]
  | 30 => [0, 1, 2, 6, 8, 9, 7, 10, 4, 5]
  | 31 => [0, 1, 2, 7, 6, 9, 4, 8, 5]
  | 32 => [0, 5, 3, 7, 6, 4, 2]
  | 33 => [0, 1, 3, 4, 2]
  | 34 => [0, 1, 5, 4]
  | 35 => [0, 1, 4]
  | 36 => [0, 1, 2, 5, 6, 4]
  | 37 => [0, 3, 1, 6, 4, 5, 2]
  | 38 => [0, 1, 3, 4]
  | 39 => [0, 1, 3, 2, 6, 7, 4, 5]
  | 40 => [0, 3, 11, 10, 9, 5, 6, 4, 2]
  | 41 => [0, 1, 5, 6, 4]
  | 42 => [0, 1, 2, 6, 7, 38, 37, 36, 8, 10, 4, 5]
  | 43 => [0, 1, 2, 6, 8, 7, 4, 5]
  | 44 => [0, 2]
  | 45 => [0, 1, 6, 5, 4]
  | 46 => [0, 1, 3, 43, 42, 4, 68, 67, 5, 6, 7, 2]
  | 47 => [0, 1, 3, 2, 5, 4]
  | 48 => [0, 1, 2, 3, 9, 41, 40, 39, 11, 6, 7, 8]
  | 49 => [0, 1, 10, 9, 8, 5, 2, 7, 4]
  | 50 => [0, 1, 2, 3, 9, 10, 11, 12, 6, 7, 8]
  | 51 => [0, 1, 2, 4]
  | 52 => [0, 1, 2, 3, 9, 13, 10, 11, 6, 7, 8]
  | 53 => [0, 1, 6, 5, 2, 4]
  | 54 => [0, 1, 2, 9, 8, 3, 6, 7]
  | 55 => [0, 4, 3, 2]
  | 56 => [0, 1, 5, 4, 20]
  | 57 => [0, 1, 5, 4]
  | 58 => [0, 1, 3, 2, 6, 4, 7, 8, 5]
  | 59 => [0, 4, 3, 2]
  | 60 => [0, 1, 2, 5, 4]
  | 61 => [0, 2]
  | 62 => [0, 1, 2, 3, 6, 5, 4]
  | 63 => [0, 2]
  | 64 => [0, 1, 4]
  | 65 => [0, 1, 3]
  | 66 => [0, 1, 8, 7, 5, 4]
  | 67 => [0, 1, 2, 3]
  | 68 => [0, 1, 4]
  | 69 => [0, 2]
  | 70 => [0, 1, 5, 3, 18, 17, 16, 6, 7, 4]
  | 71 => [0, 1, 4]
  | 72 => [0, 2]
  | 73 => [0, 3, 1, 2]
  | 74 => [0, 3, 1, 2]
  | 75 => [0, 11, 10, 9, 3, 5, 27, 26, 25, 6, 8, 2]
  | 76 => [0, 2]
  | 77 => [0, 1, 2, 5, 7, 6, 36, 35, 34, 9, 8, 4]
  | 78 => [0, 1, 2, 5, 4]
  | 79 => [0, 1, 12, 11, 10, 7, 8, 5, 9, 4]
  | 80 => [0, 1, 5, 8, 6, 9, 10, 7, 2, 3, 4]
  | 81 => [0, 1, 2, 3, 7, 6, 8, 9, 5, 4]
  | 82 => [0, 1, 5, 6, 4]
  | 83 => [0, 1, 8, 7, 5, 4]
  | 84 => [0, 1, 11, 10, 5, 4]
  | 85 => [0, 2]
  | 86 => [0, 1, 4]
  | 87 => [0, 1, 5, 7, 6, 4]
  | 88 => [0, 1, 2, 5]
  | 89 => [0, 1, 11, 10, 9, 5, 6, 7, 8, 4]
  | 90 => [0, 1, 4]
  | 91 => [0, 2]
  | 92 => [0, 1, 4]
  | 93 => [0, 1, 4]
  | 94 => [0, 1, 2, 3, 6, 7]
  | 95 => [0, 1, 5, 4]
  | 96 => [0, 1, 5, 4]
  | 97 => [0, 1, 2]
  | 98 => [0, 1, 5, 6, 7, 4]
  | 99 => [0, 1, 2, 3, 4, 12, 10, 14, 13, 11, 15, 17, 16, 18, 19, 20]
  | 100 => [0, 2]
  | 101 => [0, 1, 5, 6, 4]
  | 102 => [0, 8, 7, 6, 5, 3, 2]
  | 103 => [0, 1, 2, 3, 8, 9]
  | 104 => [0, 1, 2, 3, 10, 11, 8, 12, 9]
  | 105 => [0, 1, 2, 3, 8, 11, 9, 10, 12]
  | 106 => [0, 1, 2, 3, 10, 12, 11, 13, 14, 55, 8, 9]
  | 107 => [0, 1, 2, 3, 8, 9]
  | 108 => [0, 1, 2, 3, 10, 9, 11, 12, 8]
  | 109 => [0, 1, 2, 3, 4, 11, 12, 10]
  | 110 => [0, 1, 2, 3, 4, 12, 13, 10, 11]
  | 111 => [0, 2]
  | 112 => [0, 2]
  | 113 => [0, 2]
  | 114 => [0, 1, 2, 3, 4, 10, 11]
  | 115 => [0, 2]
  | 116 => [0, 2]
  | 117 => [0, 1, 2, 3, 8]
  | 118 => [0, 1, 2, 3, 4, 5, 12]
  | 119 => [0, 1, 2, 3, 4, 10, 11]
  | _ => []
def Q : Prims := fun f => match f with
  | 69 => some (vPrim pClone1)
  | 85 => some pCloneS
  | 86 => some pSort
  | 93 => some pGrow
  | _ => none
theorem Q_mono : PrimsMono Q := by
  intro f p h
  unfold Q at h
  split at h
  · cases h; exact fun _ _ _ _ _ _ h => h
  · cases h; exact pCloneS_mono
  · cases h; exact pSort_mono
  · cases h; exact pGrow_mono
  · cases h
/-- The interpreter with as much fuel as is wanted. -/
noncomputable def L : CE := lim G Q
theorem lim_L {f m k : Nat} (fn : Fn) {b : IC} {args : List AV} {σ : List Blk} {K : AV → List Blk → Prop} (hq : Q f = none) (hg : G f = some fn) (hb : fn.body = b) (hm : fn.np = m) (hk : fn.nv - fn.np = k) (hl : args.length = m) (h : WK L b (args ++ List.replicate k .und) none σ (EndsK fn K)) : LX L f args σ K := by subst hb; subst hm; subst hk; exact lim_LX Q_mono fn hq hg hl h
theorem go_law20_BatchPlans {args : List AV} {σ : List Blk} {K : AV → List Blk → Prop} (hl : args.length = 2) (h : WK L ir_law20_BatchPlans.body (args ++ List.replicate 6 .und) none σ (EndsK ir_law20_BatchPlans K)) : LX L F_law20_BatchPlans args σ K := lim_L (f := F_law20_BatchPlans) (m := 2) (k := 6) ir_law20_BatchPlans rfl rfl rfl rfl rfl hl h
theorem go_law20_BatchCosts {args : List AV} {σ : List Blk} {K : AV → List Blk → Prop} (hl : args.length = 3) (h : WK L ir_law20_BatchCosts.body (args ++ List.replicate 10 .und) none σ (EndsK ir_law20_BatchCosts K)) : LX L F_law20_BatchCosts args σ K := lim_L (f := F_law20_BatchCosts) (m := 3) (k := 10) ir_law20_BatchCosts rfl rfl rfl rfl rfl hl h
theorem go_law20_BatchChains {args : List AV} {σ : List Blk} {K : AV → List Blk → Prop} (hl : args.length = 3) (h : WK L ir_law20_BatchChains.body (args ++ List.replicate 9 .und) none σ (EndsK ir_law20_BatchChains K)) : LX L F_law20_BatchChains args σ K := lim_L (f := F_law20_BatchChains) (m := 3) (k := 9) ir_law20_BatchChains rfl rfl rfl rfl rfl hl h
theorem go_law20_BatchComplete {args : List AV} {σ : List Blk} {K : AV → List Blk → Prop} (hl : args.length = 3) (h : WK L ir_law20_BatchComplete.body (args ++ List.replicate 15 .und) none σ (EndsK ir_law20_BatchComplete K)) : LX L F_law20_BatchComplete args σ K := lim_L (f := F_law20_BatchComplete) (m := 3) (k := 15) ir_law20_BatchComplete rfl rfl rfl rfl rfl hl h
theorem go_law20_BatchSchedules {args : List AV} {σ : List Blk} {K : AV → List Blk → Prop} (hl : args.length = 3) (h : WK L ir_law20_BatchSchedules.body (args ++ List.replicate 15 .und) none σ (EndsK ir_law20_BatchSchedules K)) : LX L F_law20_BatchSchedules args σ K := lim_L (f := F_law20_BatchSchedules) (m := 3) (k := 15) ir_law20_BatchSchedules rfl rfl rfl rfl rfl hl h
theorem go_law20_BatchGroups {args : List AV} {σ : List Blk} {K : AV → List Blk → Prop} (hl : args.length = 2) (h : WK L ir_law20_BatchGroups.body (args ++ List.replicate 7 .und) none σ (EndsK ir_law20_BatchGroups K)) : LX L F_law20_BatchGroups args σ K := lim_L (f := F_law20_BatchGroups) (m := 2) (k := 7) ir_law20_BatchGroups rfl rfl rfl rfl rfl hl h
theorem go_ref17_Great {args : List AV} {σ : List Blk} {K : AV → List Blk → Prop} (hl : args.length = 1) (h : WK L ir_ref17_Great.body (args ++ List.replicate 2 .und) none σ (EndsK ir_ref17_Great K)) : LX L F_ref17_Great args σ K := lim_L (f := F_ref17_Great) (m := 1) (k := 2) ir_ref17_Great rfl rfl rfl rfl rfl hl h
theorem go_ref02_Great {args : List AV} {σ : List Blk} {K : AV → List Blk → Prop} (hl : args.length = 3) (h : WK L ir_ref02_Great.body (args ++ List.replicate 2 .und) none σ (EndsK ir_ref02_Great K)) : LX L F_ref02_Great args σ K := lim_L (f := F_ref02_Great) (m := 3) (k := 2) ir_ref02_Great rfl rfl rfl rfl rfl hl h
theorem go_ref16_Valid {args : List AV} {σ : List Blk} {K : AV → List Blk → Prop} (hl : args.length = 1) (h : WK L ir_ref16_Valid.body (args ++ List.replicate 6 .und) none σ (EndsK ir_ref16_Valid K)) : LX L F_ref16_Valid args σ K := lim_L (f := F_ref16_Valid) (m := 1) (k := 6) ir_ref16_Valid rfl rfl rfl rfl rfl hl h
theorem go_law20_awake {args : List AV} {σ : List Blk} {K : AV → List Blk → Prop} (hl : args.length = 0) (h : WK L ir_law20_awake.body (args ++ List.replicate 15 .und) none σ (EndsK ir_law20_awake K)) : LX L F_law20_awake args σ K := lim_L (f := F_law20_awake) (m := 0) (k := 15) ir_law20_awake rfl rfl rfl rfl rfl hl h
theorem go_batch_Plan {args : List AV} {σ : List Blk} {K : AV → List Blk → Prop} (hl : args.length = 2) (h : WK L ir_batch_Plan.body (args ++ List.replicate 14 .und) none σ (EndsK ir_batch_Plan K)) : LX L F_batch_Plan args σ K := lim_L (f := F_batch_Plan) (m := 2) (k := 14) ir_batch_Plan rfl rfl rfl rfl rfl hl h
theorem go_ref20_Plan {args : List AV} {σ : List Blk} {K : AV → List Blk → Prop} (hl : args.length = 2) (h : WK L ir_ref20_Plan.body (args ++ List.replicate 7 .und) none σ (EndsK ir_ref20_Plan K)) : LX L F_ref20_Plan args σ K := lim_L (f := F_ref20_Plan) (m := 2) (k := 7) ir_ref20_Plan rfl rfl rfl rfl rfl hl h
theorem go_ref01_SameWords {args : List AV} {σ : List Blk} {K : AV → List Blk → Prop} (hl : args.length = 2) (h : WK L ir_ref01_SameWords.body (args ++ List.replicate 2 .und) none σ (EndsK ir_ref01_SameWords K)) : LX L F_ref01_SameWords args σ K := lim_L (f := F_ref01_SameWords) (m := 2) (k := 2) ir_ref01_SameWords rfl rfl rfl rfl rfl hl h
theorem go_batch_Cost {args : List AV} {σ : List Blk} {K : AV → List Blk → Prop} (hl : args.length = 2) (h : WK L ir_batch_Cost.body (args ++ List.replicate 11 .und) none σ (EndsK ir_batch_Cost K)) : LX L F_batch_Cost args σ K := lim_L (f := F_batch_Cost) (m := 2) (k := 11) ir_batch_Cost rfl rfl rfl rfl rfl hl h
theorem go_ref20_Cost {args : List AV} {σ : List Blk} {K : AV → List Blk → Prop} (hl : args.length = 2) (h : WK L ir_ref20_Cost.body (args ++ List.replicate 8 .und) none σ (EndsK ir_ref20_Cost K)) : LX L F_ref20_Cost args σ K := lim_L (f := F_ref20_Cost) (m := 2) (k := 8) ir_ref20_Cost rfl rfl rfl rfl rfl hl h
theorem go_batch_Groups {args : List AV} {σ : List Blk} {K : AV → List Blk → Prop} (hl : args.length = 2) (h : WK L ir_batch_Groups.body (args ++ List.replicate 9 .und) none σ (EndsK ir_batch_Groups K)) : LX L F_batch_Groups args σ K := lim_L (f := F_batch_Groups) (m := 2) (k := 9) ir_batch_Groups rfl rfl rfl rfl rfl hl h
theorem go_ref20_Groups {args : List AV} {σ : List Blk} {K : AV → List Blk → Prop} (hl : args.length = 2) (h : WK L ir_ref20_Groups.body (args ++ List.replicate 6 .und) none σ (EndsK ir_ref20_Groups K)) : LX L F_ref20_Groups args σ K := lim_L (f := F_ref20_Groups) (m := 2) (k := 6) ir_ref20_Groups rfl rfl rfl rfl rfl hl h
theorem go_ref20_SameGroups {args : List AV} {σ : List Blk} {K : AV → List Blk → Prop} (hl : args.length = 2) (h : WK L ir_ref20_SameGroups.body (args ++ List.replicate 2 .und) none σ (EndsK ir_ref20_SameGroups K)) : LX L F_ref20_SameGroups args σ K := lim_L (f := F_ref20_SameGroups) (m := 2) (k := 2) ir_ref20_SameGroups rfl rfl rfl rfl rfl hl h
theorem go_ref19_Great {args : List AV} {σ : List Blk} {K : AV → List Blk → Prop} (hl : args.length = 2) (h : WK L ir_ref19_Great.body (args ++ List.replicate 5 .und) none σ (EndsK ir_ref19_Great K)) : LX L F_ref19_Great args σ K := lim_L (f := F_ref19_Great) (m := 2) (k := 5) ir_ref19_Great rfl rfl rfl rfl rfl hl h
theorem go_batch_Chain {args : List AV} {σ : List Blk} {K : AV → List Blk → Prop} (hl : args.length = 3) (h : WK L ir_batch_Chain.body (args ++ List.replicate 27 .und) none σ (EndsK ir_batch_Chain K)) : LX L F_batch_Chain args σ K := lim_L (f := F_batch_Chain) (m := 3) (k := 27) ir_batch_Chain rfl rfl rfl rfl rfl hl h
theorem go_ref20_Chain {args : List AV} {σ : List Blk} {K : AV → List Blk → Prop} (hl : args.length = 3) (h : WK L ir_ref20_Chain.body (args ++ List.replicate 14 .und) none σ (EndsK ir_ref20_Chain K)) : LX L F_ref20_Chain args σ K := lim_L (f := F_ref20_Chain) (m := 3) (k := 14) ir_ref20_Chain rfl rfl rfl rfl rfl hl h
theorem go_ref20_SameMoves {args : List AV} {σ : List Blk} {K : AV → List Blk → Prop} (hl : args.length = 2) (h : WK L ir_ref20_SameMoves.body (args ++ List.replicate 2 .und) none σ (EndsK ir_ref20_SameMoves K)) : LX L F_ref20_SameMoves args σ K := lim_L (f := F_ref20_SameMoves) (m := 2) (k := 2) ir_ref20_SameMoves rfl rfl rfl rfl rfl hl h
theorem go_ref16_Of {args : List AV} {σ : List Blk} {K : AV → List Blk → Prop} (hl : args.length = 2) (h : WK L ir_ref16_Of.body (args ++ List.replicate 6 .und) none σ (EndsK ir_ref16_Of K)) : LX L F_ref16_Of args σ K := lim_L (f := F_ref16_Of) (m := 2) (k := 6) ir_ref16_Of rfl rfl rfl rfl rfl hl h
theorem go_ref16_Answer {args : List AV} {σ : List Blk} {K : AV → List Blk → Prop} (hl : args.length = 2) (h : WK L ir_ref16_Answer.body (args ++ List.replicate 4 .und) none σ (EndsK ir_ref16_Answer K)) : LX L F_ref16_Answer args σ K := lim_L (f := F_ref16_Answer) (m := 2) (k := 4) ir_ref16_Answer rfl rfl rfl rfl rfl hl h
theorem go_ref02_Has {args : List AV} {σ : List Blk} {K : AV → List Blk → Prop} (hl : args.length = 2) (h : WK L ir_ref02_Has.body (args ++ List.replicate 2 .und) none σ (EndsK ir_ref02_Has K)) : LX L F_ref02_Has args σ K := lim_L (f := F_ref02_Has) (m := 2) (k := 2) ir_ref02_Has rfl rfl rfl rfl rfl hl h
theorem go_ref01_Compare {args : List AV} {σ : List Blk} {K : AV → List Blk → Prop} (hl : args.length = 2) (h : WK L ir_ref01_Compare.body (args ++ List.replicate 1 .und) none σ (EndsK ir_ref01_Compare K)) : LX L F_ref01_Compare args σ K := lim_L (f := F_ref01_Compare) (m := 2) (k := 1) ir_ref01_Compare rfl rfl rfl rfl rfl hl h
theorem go_ref01_HasPrefix {args : List AV} {σ : List Blk} {K : AV → List Blk → Prop} (hl : args.length = 2) (h : WK L ir_ref01_HasPrefix.body (args ++ List.replicate 1 .und) none σ (EndsK ir_ref01_HasPrefix K)) : LX L F_ref01_HasPrefix args σ K := lim_L (f := F_ref01_HasPrefix) (m := 2) (k := 1) ir_ref01_HasPrefix rfl rfl rfl rfl rfl hl h
theorem go_ref06_Traces {args : List AV} {σ : List Blk} {K : AV → List Blk → Prop} (hl : args.length = 2) (h : WK L ir_ref06_Traces.body (args ++ List.replicate 8 .und) none σ (EndsK ir_ref06_Traces K)) : LX L F_ref06_Traces args σ K := lim_L (f := F_ref06_Traces) (m := 2) (k := 8) ir_ref06_Traces rfl rfl rfl rfl rfl hl h
theorem go_ref16_All {args : List AV} {σ : List Blk} {K : AV → List Blk → Prop} (hl : args.length = 2) (h : WK L ir_ref16_All.body (args ++ List.replicate 7 .und) none σ (EndsK ir_ref16_All K)) : LX L F_ref16_All args σ K := lim_L (f := F_ref16_All) (m := 2) (k := 7) ir_ref16_All rfl rfl rfl rfl rfl hl h
theorem go_ref02_Maximal {args : List AV} {σ : List Blk} {K : AV → List Blk → Prop} (hl : args.length = 1) (h : WK L ir_ref02_Maximal.body (args ++ List.replicate 6 .und) none σ (EndsK ir_ref02_Maximal K)) : LX L F_ref02_Maximal args σ K := lim_L (f := F_ref02_Maximal) (m := 1) (k := 6) ir_ref02_Maximal rfl rfl rfl rfl rfl hl h
theorem go_ref06_Valid {args : List AV} {σ : List Blk} {K : AV → List Blk → Prop} (hl : args.length = 1) (h : WK L ir_ref06_Valid.body (args ++ List.replicate 4 .und) none σ (EndsK ir_ref06_Valid K)) : LX L F_ref06_Valid args σ K := lim_L (f := F_ref06_Valid) (m := 1) (k := 4) ir_ref06_Valid rfl rfl rfl rfl rfl hl h
theorem go_ref01_Check {args : List AV} {σ : List Blk} {K : AV → List Blk → Prop} (hl : args.length = 2) (h : WK L ir_ref01_Check.body (args ++ List.replicate 2 .und) none σ (EndsK ir_ref01_Check K)) : LX L F_ref01_Check args σ K := lim_L (f := F_ref01_Check) (m := 2) (k := 2) ir_ref01_Check rfl rfl rfl rfl rfl hl h
theorem go_ref01_Same {args : List AV} {σ : List Blk} {K : AV → List Blk → Prop} (hl : args.length = 2) (h : WK L ir_ref01_Same.body (args ++ List.replicate 1 .und) none σ (EndsK ir_ref01_Same K)) : LX L F_ref01_Same args σ K := lim_L (f := F_ref01_Same) (m := 2) (k := 1) ir_ref01_Same rfl rfl rfl rfl rfl hl h
theorem go_ref16_Proper {args : List AV} {σ : List Blk} {K : AV → List Blk → Prop} (hl : args.length = 2) (h : WK L ir_ref16_Proper.body (args ++ List.replicate 4 .und) none σ (EndsK ir_ref16_Proper K)) : LX L F_ref16_Proper args σ K := lim_L (f := F_ref16_Proper) (m := 2) (k := 4) ir_ref16_Proper rfl rfl rfl rfl rfl hl h
theorem go_ref16_apart {args : List AV} {σ : List Blk} {K : AV → List Blk → Prop} (hl : args.length = 1) (h : WK L ir_ref16_apart.body (args ++ List.replicate 6 .und) none σ (EndsK ir_ref16_apart K)) : LX L F_ref16_apart args σ K := lim_L (f := F_ref16_apart) (m := 1) (k := 6) ir_ref16_apart rfl rfl rfl rfl rfl hl h
theorem go_word_Check {args : List AV} {σ : List Blk} {K : AV → List Blk → Prop} (hl : args.length = 2) (h : WK L ir_word_Check.body (args ++ List.replicate 2 .und) none σ (EndsK ir_word_Check K)) : LX L F_word_Check args σ K := lim_L (f := F_word_Check) (m := 2) (k := 2) ir_word_Check rfl rfl rfl rfl rfl hl h
theorem go_observe_Answer {args : List AV} {σ : List Blk} {K : AV → List Blk → Prop} (hl : args.length = 2) (h : WK L ir_observe_Answer.body (args ++ List.replicate 6 .und) none σ (EndsK ir_observe_Answer K)) : LX L F_observe_Answer args σ K := lim_L (f := F_observe_Answer) (m := 2) (k := 6) ir_observe_Answer rfl rfl rfl rfl rfl hl h
theorem go_wordset_Maximal {args : List AV} {σ : List Blk} {K : AV → List Blk → Prop} (hl : args.length = 1) (h : WK L ir_wordset_Maximal.body (args ++ List.replicate 8 .und) none σ (EndsK ir_wordset_Maximal K)) : LX L F_wordset_Maximal args σ K := lim_L (f := F_wordset_Maximal) (m := 1) (k := 8) ir_wordset_Maximal rfl rfl rfl rfl rfl hl h
theorem go_ref20_check {args : List AV} {σ : List Blk} {K : AV → List Blk → Prop} (hl : args.length = 2) (h : WK L ir_ref20_check.body (args ++ List.replicate 3 .und) none σ (EndsK ir_ref20_check K)) : LX L F_ref20_check args σ K := lim_L (f := F_ref20_check) (m := 2) (k := 3) ir_ref20_check rfl rfl rfl rfl rfl hl h
theorem go_device_Cost {args : List AV} {σ : List Blk} {K : AV → List Blk → Prop} (hl : args.length = 2) (h : WK L ir_device_Cost.body (args ++ List.replicate 10 .und) none σ (EndsK ir_device_Cost K)) : LX L F_device_Cost args σ K := lim_L (f := F_device_Cost) (m := 2) (k := 10) ir_device_Cost rfl rfl rfl rfl rfl hl h
theorem go_ref19_Cost {args : List AV} {σ : List Blk} {K : AV → List Blk → Prop} (hl : args.length = 2) (h : WK L ir_ref19_Cost.body (args ++ List.replicate 6 .und) none σ (EndsK ir_ref19_Cost K)) : LX L F_ref19_Cost args σ K := lim_L (f := F_ref19_Cost) (m := 2) (k := 6) ir_ref19_Cost rfl rfl rfl rfl rfl hl h
theorem go_word_Join {args : List AV} {σ : List Blk} {K : AV → List Blk → Prop} (hl : args.length = 1) (h : WK L ir_word_Join.body (args ++ List.replicate 1 .und) none σ (EndsK ir_word_Join K)) : LX L F_word_Join args σ K := lim_L (f := F_word_Join) (m := 1) (k := 1) ir_word_Join rfl rfl rfl rfl rfl hl h
theorem go_batch_first {args : List AV} {σ : List Blk} {K : AV → List Blk → Prop} (hl : args.length = 2) (h : WK L ir_batch_first.body (args ++ List.replicate 3 .und) none σ (EndsK ir_batch_first K)) : LX L F_batch_first args σ K := lim_L (f := F_batch_first) (m := 2) (k := 3) ir_batch_first rfl rfl rfl rfl rfl hl h
theorem go_mealy_Valid {args : List AV} {σ : List Blk} {K : AV → List Blk → Prop} (hl : args.length = 1) (h : WK L ir_mealy_Valid.body (args ++ List.replicate 11 .und) none σ (EndsK ir_mealy_Valid K)) : LX L F_mealy_Valid args σ K := lim_L (f := F_mealy_Valid) (m := 1) (k := 11) ir_mealy_Valid rfl rfl rfl rfl rfl hl h
theorem go_batch_fits {args : List AV} {σ : List Blk} {K : AV → List Blk → Prop} (hl : args.length = 2) (h : WK L ir_batch_fits.body (args ++ List.replicate 4 .und) none σ (EndsK ir_batch_fits K)) : LX L F_batch_fits args σ K := lim_L (f := F_batch_fits) (m := 2) (k := 4) ir_batch_fits rfl rfl rfl rfl rfl hl h
theorem go_cover_Path {args : List AV} {σ : List Blk} {K : AV → List Blk → Prop} (hl : args.length = 3) (h : WK L ir_cover_Path.body (args ++ List.replicate 9 .und) none σ (EndsK ir_cover_Path K)) : LX L F_cover_Path args σ K := lim_L (f := F_cover_Path) (m := 3) (k := 9) ir_cover_Path rfl rfl rfl rfl rfl hl h
theorem go_batch_steps {args : List AV} {σ : List Blk} {K : AV → List Blk → Prop} (hl : args.length = 2) (h : WK L ir_batch_steps.body (args ++ List.replicate 7 .und) none σ (EndsK ir_batch_steps K)) : LX L F_batch_steps args σ K := lim_L (f := F_batch_steps) (m := 2) (k := 7) ir_batch_steps rfl rfl rfl rfl rfl hl h
theorem go_mealy_From {args : List AV} {σ : List Blk} {K : AV → List Blk → Prop} (hl : args.length = 3) (h : WK L ir_mealy_From.body (args ++ List.replicate 8 .und) none σ (EndsK ir_mealy_From K)) : LX L F_mealy_From args σ K := lim_L (f := F_mealy_From) (m := 3) (k := 8) ir_mealy_From rfl rfl rfl rfl rfl hl h
theorem go_ref19_Fits {args : List AV} {σ : List Blk} {K : AV → List Blk → Prop} (hl : args.length = 2) (h : WK L ir_ref19_Fits.body (args ++ List.replicate 2 .und) none σ (EndsK ir_ref19_Fits K)) : LX L F_ref19_Fits args σ K := lim_L (f := F_ref19_Fits) (m := 2) (k := 2) ir_ref19_Fits rfl rfl rfl rfl rfl hl h
theorem go_ref10_Path {args : List AV} {σ : List Blk} {K : AV → List Blk → Prop} (hl : args.length = 3) (h : WK L ir_ref10_Path.body (args ++ List.replicate 8 .und) none σ (EndsK ir_ref10_Path K)) : LX L F_ref10_Path args σ K := lim_L (f := F_ref10_Path) (m := 3) (k := 8) ir_ref10_Path rfl rfl rfl rfl rfl hl h
theorem go_ref20_steps {args : List AV} {σ : List Blk} {K : AV → List Blk → Prop} (hl : args.length = 2) (h : WK L ir_ref20_steps.body (args ++ List.replicate 4 .und) none σ (EndsK ir_ref20_steps K)) : LX L F_ref20_steps args σ K := lim_L (f := F_ref20_steps) (m := 2) (k := 4) ir_ref20_steps rfl rfl rfl rfl rfl hl h
theorem go_ref06_Outs {args : List AV} {σ : List Blk} {K : AV → List Blk → Prop} (hl : args.length = 3) (h : WK L ir_ref06_Outs.body (args ++ List.replicate 5 .und) none σ (EndsK ir_ref06_Outs K)) : LX L F_ref06_Outs args σ K := lim_L (f := F_ref06_Outs) (m := 3) (k := 5) ir_ref06_Outs rfl rfl rfl rfl rfl hl h
theorem go_ref01_Join {args : List AV} {σ : List Blk} {K : AV → List Blk → Prop} (hl : args.length = 1) (h : WK L ir_ref01_Join.body (args ++ List.replicate 3 .und) none σ (EndsK ir_ref01_Join K)) : LX L F_ref01_Join args σ K := lim_L (f := F_ref01_Join) (m := 1) (k := 3) ir_ref01_Join rfl rfl rfl rfl rfl hl h
theorem go_ref01_Lex {args : List AV} {σ : List Blk} {K : AV → List Blk → Prop} (hl : args.length = 2) (h : WK L ir_ref01_Lex.body (args ++ List.replicate 3 .und) none σ (EndsK ir_ref01_Lex K)) : LX L F_ref01_Lex args σ K := lim_L (f := F_ref01_Lex) (m := 2) (k := 3) ir_ref01_Lex rfl rfl rfl rfl rfl hl h
theorem go_ref01_Common {args : List AV} {σ : List Blk} {K : AV → List Blk → Prop} (hl : args.length = 2) (h : WK L ir_ref01_Common.body (args ++ List.replicate 2 .und) none σ (EndsK ir_ref01_Common K)) : LX L F_ref01_Common args σ K := lim_L (f := F_ref01_Common) (m := 2) (k := 2) ir_ref01_Common rfl rfl rfl rfl rfl hl h
theorem go_ref16_Add {args : List AV} {σ : List Blk} {K : AV → List Blk → Prop} (hl : args.length = 2) (h : WK L ir_ref16_Add.body (args ++ List.replicate 7 .und) none σ (EndsK ir_ref16_Add K)) : LX L F_ref16_Add args σ K := lim_L (f := F_ref16_Add) (m := 2) (k := 7) ir_ref16_Add rfl rfl rfl rfl rfl hl h
theorem go_ref02_Sorted {args : List AV} {σ : List Blk} {K : AV → List Blk → Prop} (hl : args.length = 1) (h : WK L ir_ref02_Sorted.body (args ++ List.replicate 3 .und) none σ (EndsK ir_ref02_Sorted K)) : LX L F_ref02_Sorted args σ K := lim_L (f := F_ref02_Sorted) (m := 1) (k := 3) ir_ref02_Sorted rfl rfl rfl rfl rfl hl h
theorem go_ref06_row {args : List AV} {σ : List Blk} {K : AV → List Blk → Prop} (hl : args.length = 2) (h : WK L ir_ref06_row.body (args ++ List.replicate 3 .und) none σ (EndsK ir_ref06_row K)) : LX L F_ref06_row args σ K := lim_L (f := F_ref06_row) (m := 2) (k := 3) ir_ref06_row rfl rfl rfl rfl rfl hl h
theorem go_ref01_Size {args : List AV} {σ : List Blk} {K : AV → List Blk → Prop} (hl : args.length = 1) (h : WK L ir_ref01_Size.body (args ++ List.replicate 1 .und) none σ (EndsK ir_ref01_Size K)) : LX L F_ref01_Size args σ K := lim_L (f := F_ref01_Size) (m := 1) (k := 1) ir_ref01_Size rfl rfl rfl rfl rfl hl h
theorem go_ref16_Differ {args : List AV} {σ : List Blk} {K : AV → List Blk → Prop} (hl : args.length = 2) (h : WK L ir_ref16_Differ.body (args ++ List.replicate 5 .und) none σ (EndsK ir_ref16_Differ K)) : LX L F_ref16_Differ args σ K := lim_L (f := F_ref16_Differ) (m := 2) (k := 5) ir_ref16_Differ rfl rfl rfl rfl rfl hl h
theorem go_word_permitted {args : List AV} {σ : List Blk} {K : AV → List Blk → Prop} (hl : args.length = 1) (h : WK L ir_word_permitted.body (args ++ List.replicate 1 .und) none σ (EndsK ir_word_permitted K)) : LX L F_word_permitted args σ K := lim_L (f := F_word_permitted) (m := 1) (k := 1) ir_word_permitted rfl rfl rfl rfl rfl hl h
theorem go_slices_ContainsFunc_Sint_int {args : List AV} {σ : List Blk} {K : AV → List Blk → Prop} (hl : args.length = 2) (h : WK L ir_slices_ContainsFunc_Sint_int.body (args ++ List.replicate 1 .und) none σ (EndsK ir_slices_ContainsFunc_Sint_int K)) : LX L F_slices_ContainsFunc_Sint_int args σ K := lim_L (f := F_slices_ContainsFunc_Sint_int) (m := 2) (k := 1) ir_slices_ContainsFunc_Sint_int rfl rfl rfl rfl rfl hl h
theorem go_word_Check_1 {args : List AV} {σ : List Blk} {K : AV → List Blk → Prop} (hl : args.length = 2) (h : WK L ir_word_Check_1.body (args ++ List.replicate 1 .und) none σ (EndsK ir_word_Check_1 K)) : LX L F_word_Check_1 args σ K := lim_L (f := F_word_Check_1) (m := 2) (k := 1) ir_word_Check_1 rfl rfl rfl rfl rfl hl h
theorem go_slices_IndexFunc_Sapi_Trace_api_Trace {args : List AV} {σ : List Blk} {K : AV → List Blk → Prop} (hl : args.length = 2) (h : WK L ir_slices_IndexFunc_Sapi_Trace_api_Trace.body (args ++ List.replicate 4 .und) none σ (EndsK ir_slices_IndexFunc_Sapi_Trace_api_Trace K)) : LX L F_slices_IndexFunc_Sapi_Trace_api_Trace args σ K := lim_L (f := F_slices_IndexFunc_Sapi_Trace_api_Trace) (m := 2) (k := 4) ir_slices_IndexFunc_Sapi_Trace_api_Trace rfl rfl rfl rfl rfl hl h
theorem go_observe_Answer_1 {args : List AV} {σ : List Blk} {K : AV → List Blk → Prop} (hl : args.length = 2) (h : WK L ir_observe_Answer_1.body (args ++ List.replicate 2 .und) none σ (EndsK ir_observe_Answer_1 K)) : LX L F_observe_Answer_1 args σ K := lim_L (f := F_observe_Answer_1) (m := 2) (k := 2) ir_observe_Answer_1 rfl rfl rfl rfl rfl hl h
theorem go_word_HasPrefix {args : List AV} {σ : List Blk} {K : AV → List Blk → Prop} (hl : args.length = 2) (h : WK L ir_word_HasPrefix.body (args ++ List.replicate 1 .und) none σ (EndsK ir_word_HasPrefix K)) : LX L F_word_HasPrefix args σ K := lim_L (f := F_word_HasPrefix) (m := 2) (k := 1) ir_word_HasPrefix rfl rfl rfl rfl rfl hl h
theorem go_slices_Clone_Sint_int {args : List AV} {v : AV} (h : pClone1 (cN G Q 0) args = some v) : L F_slices_Clone_Sint_int args [] = some (v, []) := lim_prim Q_mono (N := 0) (f := F_slices_Clone_Sint_int) rfl (by simp only [vPrim, h, Option.map_some])
theorem go_wordset_ordered {args : List AV} {σ : List Blk} {K : AV → List Blk → Prop} (hl : args.length = 2) (h : WK L ir_wordset_ordered.body (args ++ List.replicate 8 .und) none σ (EndsK ir_wordset_ordered K)) : LX L F_wordset_ordered args σ K := lim_L (f := F_wordset_ordered) (m := 2) (k := 8) ir_wordset_ordered rfl rfl rfl rfl rfl hl h
theorem go_word_Lex {args : List AV} {σ : List Blk} {K : AV → List Blk → Prop} (hl : args.length = 2) (h : WK L ir_word_Lex.body (args ++ List.replicate 1 .und) none σ (EndsK ir_word_Lex K)) : LX L F_word_Lex args σ K := lim_L (f := F_word_Lex) (m := 2) (k := 1) ir_word_Lex rfl rfl rfl rfl rfl hl h
theorem go_wordset_Sorted {args : List AV} {σ : List Blk} {K : AV → List Blk → Prop} (hl : args.length = 1) (h : WK L ir_wordset_Sorted.body (args ++ List.replicate 1 .und) none σ (EndsK ir_wordset_Sorted K)) : LX L F_wordset_Sorted args σ K := lim_L (f := F_wordset_Sorted) (m := 1) (k := 1) ir_wordset_Sorted rfl rfl rfl rfl rfl hl h
theorem go_device_costs {args : List AV} {σ : List Blk} {K : AV → List Blk → Prop} (hl : args.length = 1) (h : WK L ir_device_costs.body (args ++ List.replicate 3 .und) none σ (EndsK ir_device_costs K)) : LX L F_device_costs args σ K := lim_L (f := F_device_costs) (m := 1) (k := 3) ir_device_costs rfl rfl rfl rfl rfl hl h
theorem go_ref19_costs {args : List AV} {σ : List Blk} {K : AV → List Blk → Prop} (hl : args.length = 1) (h : WK L ir_ref19_costs.body (args ++ List.replicate 3 .und) none σ (EndsK ir_ref19_costs K)) : LX L F_ref19_costs args σ K := lim_L (f := F_ref19_costs) (m := 1) (k := 3) ir_ref19_costs rfl rfl rfl rfl rfl hl h
theorem go_slices_Concat_Sint_int {args : List AV} {σ : List Blk} {K : AV → List Blk → Prop} (hl : args.length = 1) (h : WK L ir_slices_Concat_Sint_int.body (args ++ List.replicate 11 .und) none σ (EndsK ir_slices_Concat_Sint_int K)) : LX L F_slices_Concat_Sint_int args σ K := lim_L (f := F_slices_Concat_Sint_int) (m := 1) (k := 11) ir_slices_Concat_Sint_int rfl rfl rfl rfl rfl hl h
theorem go_batch_fits_1 {args : List AV} {σ : List Blk} {K : AV → List Blk → Prop} (hl : args.length = 1) (h : WK L ir_batch_fits_1.body (args ++ List.replicate 1 .und) none σ (EndsK ir_batch_fits_1 K)) : LX L F_batch_fits_1 args σ K := lim_L (f := F_batch_fits_1) (m := 1) (k := 1) ir_batch_fits_1 rfl rfl rfl rfl rfl hl h
theorem go_cover_places {args : List AV} {σ : List Blk} {K : AV → List Blk → Prop} (hl : args.length = 2) (h : WK L ir_cover_places.body (args ++ List.replicate 10 .und) none σ (EndsK ir_cover_places K)) : LX L F_cover_places args σ K := lim_L (f := F_cover_places) (m := 2) (k := 10) ir_cover_places rfl rfl rfl rfl rfl hl h
theorem go_mealy_state {args : List AV} {σ : List Blk} {K : AV → List Blk → Prop} (hl : args.length = 2) (h : WK L ir_mealy_state.body (args ++ List.replicate 3 .und) none σ (EndsK ir_mealy_state K)) : LX L F_mealy_state args σ K := lim_L (f := F_mealy_state) (m := 2) (k := 3) ir_mealy_state rfl rfl rfl rfl rfl hl h
theorem go_mealy_runner_run {args : List AV} {σ : List Blk} {K : AV → List Blk → Prop} (hl : args.length = 2) (h : WK L ir_mealy_runner_run.body (args ++ List.replicate 8 .und) none σ (EndsK ir_mealy_runner_run K)) : LX L F_mealy_runner_run args σ K := lim_L (f := F_mealy_runner_run) (m := 2) (k := 8) ir_mealy_runner_run rfl rfl rfl rfl rfl hl h
theorem go_ref10_Access {args : List AV} {σ : List Blk} {K : AV → List Blk → Prop} (hl : args.length = 1) (h : WK L ir_ref10_Access.body (args ++ List.replicate 10 .und) none σ (EndsK ir_ref10_Access K)) : LX L F_ref10_Access args σ K := lim_L (f := F_ref10_Access) (m := 1) (k := 10) ir_ref10_Access rfl rfl rfl rfl rfl hl h
theorem go_ref16_add {args : List AV} {σ : List Blk} {K : AV → List Blk → Prop} (hl : args.length = 2) (h : WK L ir_ref16_add.body (args ++ List.replicate 8 .und) none σ (EndsK ir_ref16_add K)) : LX L F_ref16_add args σ K := lim_L (f := F_ref16_add) (m := 2) (k := 8) ir_ref16_add rfl rfl rfl rfl rfl hl h
theorem go_ref02_with {args : List AV} {σ : List Blk} {K : AV → List Blk → Prop} (hl : args.length = 2) (h : WK L ir_ref02_with.body (args ++ List.replicate 3 .und) none σ (EndsK ir_ref02_with K)) : LX L F_ref02_with args σ K := lim_L (f := F_ref02_with) (m := 2) (k := 3) ir_ref02_with rfl rfl rfl rfl rfl hl h
theorem go_slices_IndexFunc_Sint_int {args : List AV} {σ : List Blk} {K : AV → List Blk → Prop} (hl : args.length = 2) (h : WK L ir_slices_IndexFunc_Sint_int.body (args ++ List.replicate 4 .und) none σ (EndsK ir_slices_IndexFunc_Sint_int K)) : LX L F_slices_IndexFunc_Sint_int args σ K := lim_L (f := F_slices_IndexFunc_Sint_int) (m := 2) (k := 4) ir_slices_IndexFunc_Sint_int rfl rfl rfl rfl rfl hl h
theorem go_word_Common {args : List AV} {σ : List Blk} {K : AV → List Blk → Prop} (hl : args.length = 2) (h : WK L ir_word_Common.body (args ++ List.replicate 4 .und) none σ (EndsK ir_word_Common K)) : LX L F_word_Common args σ K := lim_L (f := F_word_Common) (m := 2) (k := 4) ir_word_Common rfl rfl rfl rfl rfl hl h
theorem go_slices_Clone_SSint_Sint {N : Nat} {args : List AV} {σ : List Blk} {x : AV × List Blk} (h : pCloneS (cN G Q N) args σ = some x) : L F_slices_Clone_SSint_Sint args σ = some x := lim_prim Q_mono (f := F_slices_Clone_SSint_Sint) rfl h
theorem go_slices_SortFunc_SSint_Sint {N : Nat} {args : List AV} {σ : List Blk} {x : AV × List Blk} (h : pSort (cN G Q N) args σ = some x) : L F_slices_SortFunc_SSint_Sint args σ = some x := lim_prim Q_mono (f := F_slices_SortFunc_SSint_Sint) rfl h
theorem go_slices_CompactFunc_SSint_Sint {args : List AV} {σ : List Blk} {K : AV → List Blk → Prop} (hl : args.length = 2) (h : WK L ir_slices_CompactFunc_SSint_Sint.body (args ++ List.replicate 4 .und) none σ (EndsK ir_slices_CompactFunc_SSint_Sint K)) : LX L F_slices_CompactFunc_SSint_Sint args σ K := lim_L (f := F_slices_CompactFunc_SSint_Sint) (m := 2) (k := 4) ir_slices_CompactFunc_SSint_Sint rfl rfl rfl rfl rfl hl h
theorem go_wordset_ordered_1 {args : List AV} {σ : List Blk} {K : AV → List Blk → Prop} (hl : args.length = 3) (h : WK L ir_wordset_ordered_1.body (args ++ List.replicate 1 .und) none σ (EndsK ir_wordset_ordered_1 K)) : LX L F_wordset_ordered_1 args σ K := lim_L (f := F_wordset_ordered_1) (m := 3) (k := 1) ir_wordset_ordered_1 rfl rfl rfl rfl rfl hl h
theorem go_slices_Compare_Sint_int {args : List AV} {σ : List Blk} {K : AV → List Blk → Prop} (hl : args.length = 2) (h : WK L ir_slices_Compare_Sint_int.body (args ++ List.replicate 8 .und) none σ (EndsK ir_slices_Compare_Sint_int K)) : LX L F_slices_Compare_Sint_int args σ K := lim_L (f := F_slices_Compare_Sint_int) (m := 2) (k := 8) ir_slices_Compare_Sint_int rfl rfl rfl rfl rfl hl h
theorem go_word_Compare {args : List AV} {σ : List Blk} {K : AV → List Blk → Prop} (hl : args.length = 2) (h : WK L ir_word_Compare.body (args ++ List.replicate 1 .und) none σ (EndsK ir_word_Compare K)) : LX L F_word_Compare args σ K := lim_L (f := F_word_Compare) (m := 2) (k := 1) ir_word_Compare rfl rfl rfl rfl rfl hl h
theorem go_device_costs_1 {args : List AV} {σ : List Blk} {K : AV → List Blk → Prop} (hl : args.length = 1) (h : WK L ir_device_costs_1.body (args ++ List.replicate 1 .und) none σ (EndsK ir_device_costs_1 K)) : LX L F_device_costs_1 args σ K := lim_L (f := F_device_costs_1) (m := 1) (k := 1) ir_device_costs_1 rfl rfl rfl rfl rfl hl h
theorem go_device_outside {args : List AV} {σ : List Blk} {K : AV → List Blk → Prop} (hl : args.length = 2) (h : WK L ir_device_outside.body (args ++ List.replicate 1 .und) none σ (EndsK ir_device_outside K)) : LX L F_device_outside args σ K := lim_L (f := F_device_outside) (m := 2) (k := 1) ir_device_outside rfl rfl rfl rfl rfl hl h
theorem go_slices_Grow_Sint_int {N : Nat} {args : List AV} {σ : List Blk} {x : AV × List Blk} (h : pGrow (cN G Q N) args σ = some x) : L F_slices_Grow_Sint_int args σ = some x := lim_prim Q_mono (f := F_slices_Grow_Sint_int) rfl h
theorem go_mealy_machine_move {args : List AV} {σ : List Blk} {K : AV → List Blk → Prop} (hl : args.length = 3) (h : WK L ir_mealy_machine_move.body (args ++ List.replicate 3 .und) none σ (EndsK ir_mealy_machine_move K)) : LX L F_mealy_machine_move args σ K := lim_L (f := F_mealy_machine_move) (m := 3) (k := 3) ir_mealy_machine_move rfl rfl rfl rfl rfl hl h
theorem go_ref10_has {args : List AV} {σ : List Blk} {K : AV → List Blk → Prop} (hl : args.length = 2) (h : WK L ir_ref10_has.body (args ++ List.replicate 2 .und) none σ (EndsK ir_ref10_has K)) : LX L F_ref10_has args σ K := lim_L (f := F_ref10_has) (m := 2) (k := 2) ir_ref10_has rfl rfl rfl rfl rfl hl h
theorem go_ref09_Extended {args : List AV} {σ : List Blk} {K : AV → List Blk → Prop} (hl : args.length = 2) (h : WK L ir_ref09_Extended.body (args ++ List.replicate 2 .und) none σ (EndsK ir_ref09_Extended K)) : LX L F_ref09_Extended args σ K := lim_L (f := F_ref09_Extended) (m := 2) (k := 2) ir_ref09_Extended rfl rfl rfl rfl rfl hl h
theorem go_ref16_copied {args : List AV} {σ : List Blk} {K : AV → List Blk → Prop} (hl : args.length = 1) (h : WK L ir_ref16_copied.body (args ++ List.replicate 2 .und) none σ (EndsK ir_ref16_copied K)) : LX L F_ref16_copied args σ K := lim_L (f := F_ref16_copied) (m := 1) (k := 2) ir_ref16_copied rfl rfl rfl rfl rfl hl h
theorem go_ref02_place {args : List AV} {σ : List Blk} {K : AV → List Blk → Prop} (hl : args.length = 2) (h : WK L ir_ref02_place.body (args ++ List.replicate 4 .und) none σ (EndsK ir_ref02_place K)) : LX L F_ref02_place args σ K := lim_L (f := F_ref02_place) (m := 2) (k := 4) ir_ref02_place rfl rfl rfl rfl rfl hl h
theorem go_slices_pdqsortCmpFunc_Sint {args : List AV} {σ : List Blk} {K : AV → List Blk → Prop} (hl : args.length = 5) (h : WK L ir_slices_pdqsortCmpFunc_Sint.body (args ++ List.replicate 11 .und) none σ (EndsK ir_slices_pdqsortCmpFunc_Sint K)) : LX L F_slices_pdqsortCmpFunc_Sint args σ K := lim_L (f := F_slices_pdqsortCmpFunc_Sint) (m := 5) (k := 11) ir_slices_pdqsortCmpFunc_Sint rfl rfl rfl rfl rfl hl h
theorem go_math_bits_Len {args : List AV} {σ : List Blk} {K : AV → List Blk → Prop} (hl : args.length = 1) (h : WK L ir_math_bits_Len.body (args ++ List.replicate 1 .und) none σ (EndsK ir_math_bits_Len K)) : LX L F_math_bits_Len args σ K := lim_L (f := F_math_bits_Len) (m := 1) (k := 1) ir_math_bits_Len rfl rfl rfl rfl rfl hl h
theorem go_cmp_Compare_int {args : List AV} {σ : List Blk} {K : AV → List Blk → Prop} (hl : args.length = 2) (h : WK L ir_cmp_Compare_int.body (args ++ List.replicate 3 .und) none σ (EndsK ir_cmp_Compare_int K)) : LX L F_cmp_Compare_int args σ K := lim_L (f := F_cmp_Compare_int) (m := 2) (k := 3) ir_cmp_Compare_int rfl rfl rfl rfl rfl hl h
theorem go_cmp_Or_int {args : List AV} {σ : List Blk} {K : AV → List Blk → Prop} (hl : args.length = 1) (h : WK L ir_cmp_Or_int.body (args ++ List.replicate 6 .und) none σ (EndsK ir_cmp_Or_int K)) : LX L F_cmp_Or_int args σ K := lim_L (f := F_cmp_Or_int) (m := 1) (k := 6) ir_cmp_Or_int rfl rfl rfl rfl rfl hl h
theorem go_slices_insertionSortCmpFunc_Sint {args : List AV} {σ : List Blk} {K : AV → List Blk → Prop} (hl : args.length = 4) (h : WK L ir_slices_insertionSortCmpFunc_Sint.body (args ++ List.replicate 2 .und) none σ (EndsK ir_slices_insertionSortCmpFunc_Sint K)) : LX L F_slices_insertionSortCmpFunc_Sint args σ K := lim_L (f := F_slices_insertionSortCmpFunc_Sint) (m := 4) (k := 2) ir_slices_insertionSortCmpFunc_Sint rfl rfl rfl rfl rfl hl h
theorem go_slices_heapSortCmpFunc_Sint {args : List AV} {σ : List Blk} {K : AV → List Blk → Prop} (hl : args.length = 4) (h : WK L ir_slices_heapSortCmpFunc_Sint.body (args ++ List.replicate 5 .und) none σ (EndsK ir_slices_heapSortCmpFunc_Sint K)) : LX L F_slices_heapSortCmpFunc_Sint args σ K := lim_L (f := F_slices_heapSortCmpFunc_Sint) (m := 4) (k := 5) ir_slices_heapSortCmpFunc_Sint rfl rfl rfl rfl rfl hl h
theorem go_slices_breakPatternsCmpFunc_Sint {args : List AV} {σ : List Blk} {K : AV → List Blk → Prop} (hl : args.length = 4) (h : WK L ir_slices_breakPatternsCmpFunc_Sint.body (args ++ List.replicate 5 .und) none σ (EndsK ir_slices_breakPatternsCmpFunc_Sint K)) : LX L F_slices_breakPatternsCmpFunc_Sint args σ K := lim_L (f := F_slices_breakPatternsCmpFunc_Sint) (m := 4) (k := 5) ir_slices_breakPatternsCmpFunc_Sint rfl rfl rfl rfl rfl hl h
theorem go_slices_choosePivotCmpFunc_Sint {args : List AV} {σ : List Blk} {K : AV → List Blk → Prop} (hl : args.length = 4) (h : WK L ir_slices_choosePivotCmpFunc_Sint.body (args ++ List.replicate 8 .und) none σ (EndsK ir_slices_choosePivotCmpFunc_Sint K)) : LX L F_slices_choosePivotCmpFunc_Sint args σ K := lim_L (f := F_slices_choosePivotCmpFunc_Sint) (m := 4) (k := 8) ir_slices_choosePivotCmpFunc_Sint rfl rfl rfl rfl rfl hl h
theorem go_slices_reverseRangeCmpFunc_Sint {args : List AV} {σ : List Blk} {K : AV → List Blk → Prop} (hl : args.length = 4) (h : WK L ir_slices_reverseRangeCmpFunc_Sint.body (args ++ List.replicate 2 .und) none σ (EndsK ir_slices_reverseRangeCmpFunc_Sint K)) : LX L F_slices_reverseRangeCmpFunc_Sint args σ K := lim_L (f := F_slices_reverseRangeCmpFunc_Sint) (m := 4) (k := 2) ir_slices_reverseRangeCmpFunc_Sint rfl rfl rfl rfl rfl hl h
theorem go_slices_partialInsertionSortCmpFunc_Sint {args : List AV} {σ : List Blk} {K : AV → List Blk → Prop} (hl : args.length = 4) (h : WK L ir_slices_partialInsertionSortCmpFunc_Sint.body (args ++ List.replicate 5 .und) none σ (EndsK ir_slices_partialInsertionSortCmpFunc_Sint K)) : LX L F_slices_partialInsertionSortCmpFunc_Sint args σ K := lim_L (f := F_slices_partialInsertionSortCmpFunc_Sint) (m := 4) (k := 5) ir_slices_partialInsertionSortCmpFunc_Sint rfl rfl rfl rfl rfl hl h
theorem go_slices_partitionEqualCmpFunc_Sint {args : List AV} {σ : List Blk} {K : AV → List Blk → Prop} (hl : args.length = 5) (h : WK L ir_slices_partitionEqualCmpFunc_Sint.body (args ++ List.replicate 3 .und) none σ (EndsK ir_slices_partitionEqualCmpFunc_Sint K)) : LX L F_slices_partitionEqualCmpFunc_Sint args σ K := lim_L (f := F_slices_partitionEqualCmpFunc_Sint) (m := 5) (k := 3) ir_slices_partitionEqualCmpFunc_Sint rfl rfl rfl rfl rfl hl h
theorem go_slices_partitionCmpFunc_Sint {args : List AV} {σ : List Blk} {K : AV → List Blk → Prop} (hl : args.length = 5) (h : WK L ir_slices_partitionCmpFunc_Sint.body (args ++ List.replicate 4 .und) none σ (EndsK ir_slices_partitionCmpFunc_Sint K)) : LX L F_slices_partitionCmpFunc_Sint args σ K := lim_L (f := F_slices_partitionCmpFunc_Sint) (m := 5) (k := 4) ir_slices_partitionCmpFunc_Sint rfl rfl rfl rfl rfl hl h
theorem go_math_bits_Len32 {args : List AV} {σ : List Blk} {K : AV → List Blk → Prop} (hl : args.length = 1) (h : WK L ir_math_bits_Len32.body (args ++ List.replicate 1 .und) none σ (EndsK ir_math_bits_Len32 K)) : LX L F_math_bits_Len32 args σ K := lim_L (f := F_math_bits_Len32) (m := 1) (k := 1) ir_math_bits_Len32 rfl rfl rfl rfl rfl hl h
theorem go_math_bits_Len64 {args : List AV} {σ : List Blk} {K : AV → List Blk → Prop} (hl : args.length = 1) (h : WK L ir_math_bits_Len64.body (args ++ List.replicate 1 .und) none σ (EndsK ir_math_bits_Len64 K)) : LX L F_math_bits_Len64 args σ K := lim_L (f := F_math_bits_Len64) (m := 1) (k := 1) ir_math_bits_Len64 rfl rfl rfl rfl rfl hl h
theorem go_cmp_isNaN_int {args : List AV} {σ : List Blk} {K : AV → List Blk → Prop} (hl : args.length = 1) (h : WK L ir_cmp_isNaN_int.body (args ++ List.replicate 1 .und) none σ (EndsK ir_cmp_isNaN_int K)) : LX L F_cmp_isNaN_int args σ K := lim_L (f := F_cmp_isNaN_int) (m := 1) (k := 1) ir_cmp_isNaN_int rfl rfl rfl rfl rfl hl h
theorem go_slices_siftDownCmpFunc_Sint {args : List AV} {σ : List Blk} {K : AV → List Blk → Prop} (hl : args.length = 5) (h : WK L ir_slices_siftDownCmpFunc_Sint.body (args ++ List.replicate 2 .und) none σ (EndsK ir_slices_siftDownCmpFunc_Sint K)) : LX L F_slices_siftDownCmpFunc_Sint args σ K := lim_L (f := F_slices_siftDownCmpFunc_Sint) (m := 5) (k := 2) ir_slices_siftDownCmpFunc_Sint rfl rfl rfl rfl rfl hl h
theorem go_slices_nextPowerOfTwo {args : List AV} {σ : List Blk} {K : AV → List Blk → Prop} (hl : args.length = 1) (h : WK L ir_slices_nextPowerOfTwo.body (args ++ List.replicate 1 .und) none σ (EndsK ir_slices_nextPowerOfTwo K)) : LX L F_slices_nextPowerOfTwo args σ K := lim_L (f := F_slices_nextPowerOfTwo) (m := 1) (k := 1) ir_slices_nextPowerOfTwo rfl rfl rfl rfl rfl hl h
theorem go_slices_xorshift_Next {args : List AV} {σ : List Blk} {K : AV → List Blk → Prop} (hl : args.length = 1) (h : WK L ir_slices_xorshift_Next.body (args ++ List.replicate 1 .und) none σ (EndsK ir_slices_xorshift_Next K)) : LX L F_slices_xorshift_Next args σ K := lim_L (f := F_slices_xorshift_Next) (m := 1) (k := 1) ir_slices_xorshift_Next rfl rfl rfl rfl rfl hl h
theorem go_slices_medianAdjacentCmpFunc_Sint {args : List AV} {σ : List Blk} {K : AV → List Blk → Prop} (hl : args.length = 4) (h : WK L ir_slices_medianAdjacentCmpFunc_Sint.body (args ++ List.replicate 1 .und) none σ (EndsK ir_slices_medianAdjacentCmpFunc_Sint K)) : LX L F_slices_medianAdjacentCmpFunc_Sint args σ K := lim_L (f := F_slices_medianAdjacentCmpFunc_Sint) (m := 4) (k := 1) ir_slices_medianAdjacentCmpFunc_Sint rfl rfl rfl rfl rfl hl h
theorem go_slices_medianCmpFunc_Sint {args : List AV} {σ : List Blk} {K : AV → List Blk → Prop} (hl : args.length = 6) (h : WK L ir_slices_medianCmpFunc_Sint.body (args ++ List.replicate 1 .und) none σ (EndsK ir_slices_medianCmpFunc_Sint K)) : LX L F_slices_medianCmpFunc_Sint args σ K := lim_L (f := F_slices_medianCmpFunc_Sint) (m := 6) (k := 1) ir_slices_medianCmpFunc_Sint rfl rfl rfl rfl rfl hl h
theorem go_slices_order2CmpFunc_Sint {args : List AV} {σ : List Blk} {K : AV → List Blk → Prop} (hl : args.length = 5) (h : WK L ir_slices_order2CmpFunc_Sint.body (args ++ List.replicate 2 .und) none σ (EndsK ir_slices_order2CmpFunc_Sint K)) : LX L F_slices_order2CmpFunc_Sint args σ K := lim_L (f := F_slices_order2CmpFunc_Sint) (m := 5) (k := 2) ir_slices_order2CmpFunc_Sint rfl rfl rfl rfl rfl hl h
end Ab
