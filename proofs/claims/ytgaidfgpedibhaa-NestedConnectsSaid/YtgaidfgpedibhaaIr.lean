/- The functions of the program as small texts, printed by a tool of mine: what is run. Condition: none. -/
import Derived.Test.YtgaidfgpedibhaaIr1
set_option linter.all false
namespace Ab
def G : Nat → Option Fn := fun f => match f with
  | 3 => some ir_law43_NestedValid
  | 4 => some ir_law43_NestedAccepts
  | 5 => some ir_law43_NestedPairs
  | 6 => some ir_law43_NestedShortest
  | 7 => some ir_law43_NestedDiffers
  | 8 => some ir_law43_NestedConnects
  | 9 => some ir_law43_NestedFirst
  | 10 => some ir_law43_NestedApart
  | 11 => some ir_nested_Valid
  | 12 => some ir_ref43_Valid
  | 13 => some ir_law43_awake
  | 14 => some ir_nested_Accepts
  | 15 => some ir_ref43_Accepts
  | 16 => some ir_nested_Matched
  | 17 => some ir_ref43_Matched
  | 18 => some ir_law43_Small
  | 19 => some ir_nested_Pairs
  | 20 => some ir_ref43_Pairs
  | 21 => some ir_ref43_SameTables
  | 22 => some ir_nested_Shortest
  | 23 => some ir_ref43_Shortest
  | 24 => some ir_ref06_Ints
  | 25 => some ir_nested_Differ
  | 26 => some ir_ref43_Differ
  | 27 => some ir_ref43_From
  | 28 => some ir_ref01_Compare
  | 29 => some ir_nested_outside
  | 30 => some ir_nested_symbols
  | 31 => some ir_nested_row
  | 32 => some ir_ref43_sizes
  | 33 => some ir_ref43_state
  | 34 => some ir_law43_Brackets
  | 35 => some ir_word_Check
  | 36 => some ir_nested_levels
  | 37 => some ir_nested_single_call
  | 38 => some ir_nested_stack_int_push
  | 39 => some ir_nested_single_inner
  | 40 => some ir_nested_single_pop
  | 41 => some ir_nested_stack_int_pop
  | 42 => some ir_ref01_Check
  | 43 => some ir_ref43_Symbols
  | 44 => some ir_ref43_depths
  | 45 => some ir_nested_connected
  | 46 => some ir_ref43_connected
  | 47 => some ir_ref43_SameBools
  | 48 => some ir_nested_first
  | 49 => some ir_ref43_first
  | 50 => some ir_nested_double_size
  | 51 => some ir_nested_double_split
  | 52 => some ir_nested_single_size
  | 53 => some ir_ref43_product
  | 54 => some ir_ref01_Lex
  | 55 => some ir_slices_ContainsFunc_Sint_int
  | 56 => some ir_nested_outside_1
  | 57 => some ir_ref43_isState
  | 58 => some ir_word_permitted
  | 59 => some ir_word_Check_1
  | 60 => some ir_ref01_Size
  | 61 => some ir_nested_spread
  | 62 => some ir_nested_widen
  | 63 => some ir_ref43_joined
  | 64 => some ir_nested_newSearch
  | 65 => some ir_nested_search_level
  | 66 => some ir_word_Compare
  | 67 => some ir_slices_Clone_Sint_int
  | 68 => some ir_ref43_links
  | 69 => some ir_ref43_better
  | 70 => some ir_ref01_Join
  | 71 => some ir_ref43_pops
  | 72 => some ir_ref01_Common
  | 73 => some ir_slices_IndexFunc_Sint_int
  | 74 => some ir_nested_newBest
  | 75 => some ir_nested_best_offer
  | 76 => some ir_nested_best_take
  | 77 => some ir_cmp_Or_int
  | 78 => some ir_cmp_Compare_int
  | 79 => some ir_slices_Compare_Sint_int
  | 80 => some ir_ref43_improved
  | 81 => some ir_ref01_Same
  | 82 => some ir_cmp_isNaN_int
  | 98 => some ir_nested_double_call
  | 99 => some ir_nested_double_inner
  | 100 => some ir_nested_double_pop
  | _ => none
def sls : Nat → List Nat := fun f => match f with
  | 3 => [0, 1, 2]
  | 4 => [0, 1, 2, 5, 7, 6, 8, 4]
  | 5 => [0, 1, 3, 5, 4, 6, 2]
  | 6 => [0, 1, 3, 6, 4, 7, 5, 8, 2]
  | 7 => [0, 1, 2, 3, 5, 8, 6, 9, 7, 10, 4]
  | 8 => [0, 1, 2, 6, 5, 7, 8, 9, 10, 11, 4]
  | 9 => [0, 1, 2, 7, 5, 6, 9, 8, 4]
  | 10 => [0, 1, 2, 3, 4, 9, 7, 8, 11, 13, 10, 12, 6]
  | 11 => [0, 1, 3, 81, 80, 4, 5, 2]
  | 12 => [0, 1, 3, 4, 5, 2]
  | 13 => [12, 2, 4, 6, 8, 11, 15, 1, 3, 5, 10, 14, 9, 7, 13, 0]
  | 14 => [0, 1, 2, 6, 7, 8, 9, 45, 44, 43, 14, 11, 12, 16, 10, 15, 4, 5]
  | 15 => [0, 1, 2, 6, 7, 8, 4, 5]
  | 16 => [0, 1, 2, 6, 4]
  | 17 => [0, 1, 2, 6, 7, 4]
  | 18 => [0, 1, 2]
  | 19 => [0, 1, 4, 2, 3]
  | 20 => [0, 1, 4, 2, 3]
  | 21 => [0, 1, 5, 4]
  | 22 => [0, 1, 5, 2, 3, 4]
  | 23 => [0, 1, 5, 2, 3, 4]
  | 24 => [0, 1, 5, 4]
  | 25 => [0, 1, 2, 7, 3, 8, 9, 10, 69, 68, 11, 12, 13, 4, 5, 6]
  | 26 => [0, 1, 2, 7, 3, 8, 4, 5, 6]
  | 27 => [0, 1, 2, 8, 9, 3, 7, 6]
  | 28 => [0, 1, 4]
  | 29 => [0, 1, 3, 4]
  | 30 => [0, 1, 2]
  | 31 => [0, 1, 2, 5, 85, 84, 83, 7, 4]
  | 32 => [0, 1, 2]
  | 33 => [0, 1, 2, 5, 6, 7, 8, 4]
  | 34 => [0]
  | 35 => [0, 1, 3, 4]
  | 36 => [0, 1, 13, 12, 11, 10, 2, 6, 7, 8, 4, 5]
  | 37 => [0, 1, 2, 3, 6, 7]
  | 38 => [0, 1]
  | 39 => [0, 1, 2, 3, 6]
  | 40 => [0, 1, 2, 3, 4, 8]
  | 41 => [0, 3, 2]
  | 42 => [0, 1, 5, 4]
  | 43 => [0, 1, 2]
  | 44 => [0, 1, 10, 2, 9, 7, 8, 4, 5, 6]
  | 45 => [0, 1, 5, 15, 14, 6, 3, 26, 25, 7, 8, 45, 44, 9, 4]
  | 46 => [0, 4, 1, 3, 5, 6, 7, 2]
  | 47 => [0, 1, 5, 4]
  | 48 => [0, 1, 2, 3, 5, 28, 27, 26, 11, 13, 12, 49, 14, 15, 56, 55, 54, 19, 17, 20, 16, 8, 9, 10]
  | 49 => [0, 1, 9, 8, 6, 5, 7, 2, 3, 4]
  | 50 => [0, 1, 2]
  | 51 => [0, 1, 2, 4, 5]
  | 52 => [0, 1, 2]
  | 53 => [0, 1, 3, 2, 5, 7, 8, 12, 9, 10, 13, 11, 6, 4]
  | 54 => [0, 1, 5, 4, 20]
  | 55 => [0, 1, 4]
  | 56 => [0, 1, 3]
  | 57 => [0, 1, 2, 4]
  | 58 => [0, 2]
  | 59 => [0, 1, 3]
  | 60 => [0, 2]
  | 61 => [0, 1, 5, 7, 6, 32, 31, 30, 9, 8, 4]
  | 62 => [0, 1, 2, 3, 20, 19, 5, 25, 24, 10, 11, 12, 40, 39, 38, 16, 15, 14, 13, 9, 17, 8]
  | 63 => [0, 1, 2, 3, 9, 4, 10, 11, 12, 8]
  | 64 => [0, 1, 3, 26, 25, 5, 6, 38, 37, 7, 59, 58, 8, 9, 10, 4]
  | 65 => [0, 1, 24, 23, 22, 6, 40, 39, 38, 8, 7, 9, 93, 92, 91, 11, 117, 116, 13, 12, 167, 166, 165, 176, 175, 15, 16, 4]
  | 66 => [0, 1, 4]
  | 67 => [0, 2]
  | 68 => [0, 4, 1, 3, 5, 6, 7, 8, 2]
  | 69 => [0, 1, 2, 4]
  | 70 => [0, 4, 3, 2]
  | 71 => [0, 1, 2, 3, 10, 4, 11, 5, 13, 12, 9, 8]
  | 72 => [0, 1, 5, 4]
  | 73 => [0, 1, 8, 7, 5, 4]
  | 74 => [0, 8, 7, 3, 2]
  | 75 => [0, 1, 2, 3, 4, 10, 11, 12]
  | 76 => [0, 1, 16, 15, 14, 7, 5, 4]
  | 77 => [0, 8, 7, 6, 5, 3, 2]
  | 78 => [0, 1, 5, 6, 4]
  | 79 => [0, 1, 11, 10, 9, 5, 6, 7, 8, 4]
  | 80 => [0, 1, 2, 3, 10, 4, 11, 9, 12, 13, 15, 14, 16, 8]
  | 81 => [0, 1, 4]
  | 82 => [0, 2]
  | 98 => [0, 1, 2, 3, 8, 9, 10, 12, 11, 13, 6, 7]
  | 99 => [0, 1, 2, 3, 7, 8, 6]
  | 100 => [0, 1, 2, 3, 4, 9, 10, 8]
  | _ => []
def Q : Prims := fun f => match f with
  | 67 => some pClone1
  | _ => none
theorem Q_mono : PrimsMono Q := by
  intro f p h
  unfold Q at h
  split at h
  · cases h; exact fun _ _ _ _ _ h => h
  · cases h
/-- The interpreter with as much fuel as is wanted. -/
noncomputable def L : CE := lim G Q
theorem lim_L {f m k : Nat} (fn : Fn) {b : IC} {args : List AV} {σ : List Blk} {K : AV → List Blk → Prop} (hq : Q f = none) (hg : G f = some fn) (hb : fn.body = b) (hm : fn.np = m) (hk : fn.nv - fn.np = k) (hl : args.length = m) (h : WK L b (args ++ List.replicate k .und) none σ (EndsK fn K)) : LX L f args σ K := by subst hb; subst hm; subst hk; exact lim_LX Q_mono fn hq hg hl h
theorem go_law43_NestedValid {args : List AV} {σ : List Blk} {K : AV → List Blk → Prop} (hl : args.length = 1) (h : WK L ir_law43_NestedValid.body (args ++ List.replicate 2 .und) none σ (EndsK ir_law43_NestedValid K)) : LX L F_law43_NestedValid args σ K := lim_L (f := F_law43_NestedValid) (m := 1) (k := 2) ir_law43_NestedValid rfl rfl rfl rfl rfl hl h
theorem go_law43_NestedAccepts {args : List AV} {σ : List Blk} {K : AV → List Blk → Prop} (hl : args.length = 2) (h : WK L ir_law43_NestedAccepts.body (args ++ List.replicate 6 .und) none σ (EndsK ir_law43_NestedAccepts K)) : LX L F_law43_NestedAccepts args σ K := lim_L (f := F_law43_NestedAccepts) (m := 2) (k := 6) ir_law43_NestedAccepts rfl rfl rfl rfl rfl hl h
theorem go_law43_NestedPairs {args : List AV} {σ : List Blk} {K : AV → List Blk → Prop} (hl : args.length = 1) (h : WK L ir_law43_NestedPairs.body (args ++ List.replicate 6 .und) none σ (EndsK ir_law43_NestedPairs K)) : LX L F_law43_NestedPairs args σ K := lim_L (f := F_law43_NestedPairs) (m := 1) (k := 6) ir_law43_NestedPairs rfl rfl rfl rfl rfl hl h
theorem go_law43_NestedShortest {args : List AV} {σ : List Blk} {K : AV → List Blk → Prop} (hl : args.length = 1) (h : WK L ir_law43_NestedShortest.body (args ++ List.replicate 8 .und) none σ (EndsK ir_law43_NestedShortest K)) : LX L F_law43_NestedShortest args σ K := lim_L (f := F_law43_NestedShortest) (m := 1) (k := 8) ir_law43_NestedShortest rfl rfl rfl rfl rfl hl h
theorem go_law43_NestedDiffers {args : List AV} {σ : List Blk} {K : AV → List Blk → Prop} (hl : args.length = 2) (h : WK L ir_law43_NestedDiffers.body (args ++ List.replicate 9 .und) none σ (EndsK ir_law43_NestedDiffers K)) : LX L F_law43_NestedDiffers args σ K := lim_L (f := F_law43_NestedDiffers) (m := 2) (k := 9) ir_law43_NestedDiffers rfl rfl rfl rfl rfl hl h
theorem go_law43_NestedConnects {args : List AV} {σ : List Blk} {K : AV → List Blk → Prop} (hl : args.length = 2) (h : WK L ir_law43_NestedConnects.body (args ++ List.replicate 9 .und) none σ (EndsK ir_law43_NestedConnects K)) : LX L F_law43_NestedConnects args σ K := lim_L (f := F_law43_NestedConnects) (m := 2) (k := 9) ir_law43_NestedConnects rfl rfl rfl rfl rfl hl h
theorem go_law43_NestedFirst {args : List AV} {σ : List Blk} {K : AV → List Blk → Prop} (hl : args.length = 2) (h : WK L ir_law43_NestedFirst.body (args ++ List.replicate 7 .und) none σ (EndsK ir_law43_NestedFirst K)) : LX L F_law43_NestedFirst args σ K := lim_L (f := F_law43_NestedFirst) (m := 2) (k := 7) ir_law43_NestedFirst rfl rfl rfl rfl rfl hl h
theorem go_law43_NestedApart {args : List AV} {σ : List Blk} {K : AV → List Blk → Prop} (hl : args.length = 3) (h : WK L ir_law43_NestedApart.body (args ++ List.replicate 10 .und) none σ (EndsK ir_law43_NestedApart K)) : LX L F_law43_NestedApart args σ K := lim_L (f := F_law43_NestedApart) (m := 3) (k := 10) ir_law43_NestedApart rfl rfl rfl rfl rfl hl h
theorem go_nested_Valid {args : List AV} {σ : List Blk} {K : AV → List Blk → Prop} (hl : args.length = 1) (h : WK L ir_nested_Valid.body (args ++ List.replicate 7 .und) none σ (EndsK ir_nested_Valid K)) : LX L F_nested_Valid args σ K := lim_L (f := F_nested_Valid) (m := 1) (k := 7) ir_nested_Valid rfl rfl rfl rfl rfl hl h
theorem go_ref43_Valid {args : List AV} {σ : List Blk} {K : AV → List Blk → Prop} (hl : args.length = 1) (h : WK L ir_ref43_Valid.body (args ++ List.replicate 5 .und) none σ (EndsK ir_ref43_Valid K)) : LX L F_ref43_Valid args σ K := lim_L (f := F_ref43_Valid) (m := 1) (k := 5) ir_ref43_Valid rfl rfl rfl rfl rfl hl h
theorem go_law43_awake {args : List AV} {σ : List Blk} {K : AV → List Blk → Prop} (hl : args.length = 0) (h : WK L ir_law43_awake.body (args ++ List.replicate 16 .und) none σ (EndsK ir_law43_awake K)) : LX L F_law43_awake args σ K := lim_L (f := F_law43_awake) (m := 0) (k := 16) ir_law43_awake rfl rfl rfl rfl rfl hl h
theorem go_nested_Accepts {args : List AV} {σ : List Blk} {K : AV → List Blk → Prop} (hl : args.length = 2) (h : WK L ir_nested_Accepts.body (args ++ List.replicate 16 .und) none σ (EndsK ir_nested_Accepts K)) : LX L F_nested_Accepts args σ K := lim_L (f := F_nested_Accepts) (m := 2) (k := 16) ir_nested_Accepts rfl rfl rfl rfl rfl hl h
theorem go_ref43_Accepts {args : List AV} {σ : List Blk} {K : AV → List Blk → Prop} (hl : args.length = 2) (h : WK L ir_ref43_Accepts.body (args ++ List.replicate 6 .und) none σ (EndsK ir_ref43_Accepts K)) : LX L F_ref43_Accepts args σ K := lim_L (f := F_ref43_Accepts) (m := 2) (k := 6) ir_ref43_Accepts rfl rfl rfl rfl rfl hl h
theorem go_nested_Matched {args : List AV} {σ : List Blk} {K : AV → List Blk → Prop} (hl : args.length = 2) (h : WK L ir_nested_Matched.body (args ++ List.replicate 3 .und) none σ (EndsK ir_nested_Matched K)) : LX L F_nested_Matched args σ K := lim_L (f := F_nested_Matched) (m := 2) (k := 3) ir_nested_Matched rfl rfl rfl rfl rfl hl h
theorem go_ref43_Matched {args : List AV} {σ : List Blk} {K : AV → List Blk → Prop} (hl : args.length = 2) (h : WK L ir_ref43_Matched.body (args ++ List.replicate 4 .und) none σ (EndsK ir_ref43_Matched K)) : LX L F_ref43_Matched args σ K := lim_L (f := F_ref43_Matched) (m := 2) (k := 4) ir_ref43_Matched rfl rfl rfl rfl rfl hl h
theorem go_law43_Small {args : List AV} {σ : List Blk} {K : AV → List Blk → Prop} (hl : args.length = 1) (h : WK L ir_law43_Small.body (args ++ List.replicate 2 .und) none σ (EndsK ir_law43_Small K)) : LX L F_law43_Small args σ K := lim_L (f := F_law43_Small) (m := 1) (k := 2) ir_law43_Small rfl rfl rfl rfl rfl hl h
theorem go_nested_Pairs {args : List AV} {σ : List Blk} {K : AV → List Blk → Prop} (hl : args.length = 1) (h : WK L ir_nested_Pairs.body (args ++ List.replicate 4 .und) none σ (EndsK ir_nested_Pairs K)) : LX L F_nested_Pairs args σ K := lim_L (f := F_nested_Pairs) (m := 1) (k := 4) ir_nested_Pairs rfl rfl rfl rfl rfl hl h
theorem go_ref43_Pairs {args : List AV} {σ : List Blk} {K : AV → List Blk → Prop} (hl : args.length = 1) (h : WK L ir_ref43_Pairs.body (args ++ List.replicate 4 .und) none σ (EndsK ir_ref43_Pairs K)) : LX L F_ref43_Pairs args σ K := lim_L (f := F_ref43_Pairs) (m := 1) (k := 4) ir_ref43_Pairs rfl rfl rfl rfl rfl hl h
theorem go_ref43_SameTables {args : List AV} {σ : List Blk} {K : AV → List Blk → Prop} (hl : args.length = 2) (h : WK L ir_ref43_SameTables.body (args ++ List.replicate 2 .und) none σ (EndsK ir_ref43_SameTables K)) : LX L F_ref43_SameTables args σ K := lim_L (f := F_ref43_SameTables) (m := 2) (k := 2) ir_ref43_SameTables rfl rfl rfl rfl rfl hl h
theorem go_nested_Shortest {args : List AV} {σ : List Blk} {K : AV → List Blk → Prop} (hl : args.length = 1) (h : WK L ir_nested_Shortest.body (args ++ List.replicate 5 .und) none σ (EndsK ir_nested_Shortest K)) : LX L F_nested_Shortest args σ K := lim_L (f := F_nested_Shortest) (m := 1) (k := 5) ir_nested_Shortest rfl rfl rfl rfl rfl hl h
theorem go_ref43_Shortest {args : List AV} {σ : List Blk} {K : AV → List Blk → Prop} (hl : args.length = 1) (h : WK L ir_ref43_Shortest.body (args ++ List.replicate 5 .und) none σ (EndsK ir_ref43_Shortest K)) : LX L F_ref43_Shortest args σ K := lim_L (f := F_ref43_Shortest) (m := 1) (k := 5) ir_ref43_Shortest rfl rfl rfl rfl rfl hl h
theorem go_ref06_Ints {args : List AV} {σ : List Blk} {K : AV → List Blk → Prop} (hl : args.length = 2) (h : WK L ir_ref06_Ints.body (args ++ List.replicate 2 .und) none σ (EndsK ir_ref06_Ints K)) : LX L F_ref06_Ints args σ K := lim_L (f := F_ref06_Ints) (m := 2) (k := 2) ir_ref06_Ints rfl rfl rfl rfl rfl hl h
theorem go_nested_Differ {args : List AV} {σ : List Blk} {K : AV → List Blk → Prop} (hl : args.length = 2) (h : WK L ir_nested_Differ.body (args ++ List.replicate 14 .und) none σ (EndsK ir_nested_Differ K)) : LX L F_nested_Differ args σ K := lim_L (f := F_nested_Differ) (m := 2) (k := 14) ir_nested_Differ rfl rfl rfl rfl rfl hl h
theorem go_ref43_Differ {args : List AV} {σ : List Blk} {K : AV → List Blk → Prop} (hl : args.length = 2) (h : WK L ir_ref43_Differ.body (args ++ List.replicate 7 .und) none σ (EndsK ir_ref43_Differ K)) : LX L F_ref43_Differ args σ K := lim_L (f := F_ref43_Differ) (m := 2) (k := 7) ir_ref43_Differ rfl rfl rfl rfl rfl hl h
theorem go_ref43_From {args : List AV} {σ : List Blk} {K : AV → List Blk → Prop} (hl : args.length = 3) (h : WK L ir_ref43_From.body (args ++ List.replicate 5 .und) none σ (EndsK ir_ref43_From K)) : LX L F_ref43_From args σ K := lim_L (f := F_ref43_From) (m := 3) (k := 5) ir_ref43_From rfl rfl rfl rfl rfl hl h
theorem go_ref01_Compare {args : List AV} {σ : List Blk} {K : AV → List Blk → Prop} (hl : args.length = 2) (h : WK L ir_ref01_Compare.body (args ++ List.replicate 1 .und) none σ (EndsK ir_ref01_Compare K)) : LX L F_ref01_Compare args σ K := lim_L (f := F_ref01_Compare) (m := 2) (k := 1) ir_ref01_Compare rfl rfl rfl rfl rfl hl h
theorem go_nested_outside {args : List AV} {σ : List Blk} {K : AV → List Blk → Prop} (hl : args.length = 2) (h : WK L ir_nested_outside.body (args ++ List.replicate 2 .und) none σ (EndsK ir_nested_outside K)) : LX L F_nested_outside args σ K := lim_L (f := F_nested_outside) (m := 2) (k := 2) ir_nested_outside rfl rfl rfl rfl rfl hl h
theorem go_nested_symbols {args : List AV} {σ : List Blk} {K : AV → List Blk → Prop} (hl : args.length = 1) (h : WK L ir_nested_symbols.body (args ++ List.replicate 2 .und) none σ (EndsK ir_nested_symbols K)) : LX L F_nested_symbols args σ K := lim_L (f := F_nested_symbols) (m := 1) (k := 2) ir_nested_symbols rfl rfl rfl rfl rfl hl h
theorem go_nested_row {args : List AV} {σ : List Blk} {K : AV → List Blk → Prop} (hl : args.length = 2) (h : WK L ir_nested_row.body (args ++ List.replicate 7 .und) none σ (EndsK ir_nested_row K)) : LX L F_nested_row args σ K := lim_L (f := F_nested_row) (m := 2) (k := 7) ir_nested_row rfl rfl rfl rfl rfl hl h
theorem go_ref43_sizes {args : List AV} {σ : List Blk} {K : AV → List Blk → Prop} (hl : args.length = 1) (h : WK L ir_ref43_sizes.body (args ++ List.replicate 2 .und) none σ (EndsK ir_ref43_sizes K)) : LX L F_ref43_sizes args σ K := lim_L (f := F_ref43_sizes) (m := 1) (k := 2) ir_ref43_sizes rfl rfl rfl rfl rfl hl h
theorem go_ref43_state {args : List AV} {σ : List Blk} {K : AV → List Blk → Prop} (hl : args.length = 2) (h : WK L ir_ref43_state.body (args ++ List.replicate 6 .und) none σ (EndsK ir_ref43_state K)) : LX L F_ref43_state args σ K := lim_L (f := F_ref43_state) (m := 2) (k := 6) ir_ref43_state rfl rfl rfl rfl rfl hl h
theorem go_law43_Brackets {args : List AV} {σ : List Blk} {K : AV → List Blk → Prop} (hl : args.length = 0) (h : WK L ir_law43_Brackets.body (args ++ List.replicate 1 .und) none σ (EndsK ir_law43_Brackets K)) : LX L F_law43_Brackets args σ K := lim_L (f := F_law43_Brackets) (m := 0) (k := 1) ir_law43_Brackets rfl rfl rfl rfl rfl hl h
theorem go_word_Check {args : List AV} {σ : List Blk} {K : AV → List Blk → Prop} (hl : args.length = 2) (h : WK L ir_word_Check.body (args ++ List.replicate 2 .und) none σ (EndsK ir_word_Check K)) : LX L F_word_Check args σ K := lim_L (f := F_word_Check) (m := 2) (k := 2) ir_word_Check rfl rfl rfl rfl rfl hl h
theorem go_nested_levels {args : List AV} {σ : List Blk} {K : AV → List Blk → Prop} (hl : args.length = 2) (h : WK L ir_nested_levels.body (args ++ List.replicate 10 .und) none σ (EndsK ir_nested_levels K)) : LX L F_nested_levels args σ K := lim_L (f := F_nested_levels) (m := 2) (k := 10) ir_nested_levels rfl rfl rfl rfl rfl hl h
theorem go_nested_single_call {args : List AV} {σ : List Blk} {K : AV → List Blk → Prop} (hl : args.length = 3) (h : WK L ir_nested_single_call.body (args ++ List.replicate 3 .und) none σ (EndsK ir_nested_single_call K)) : LX L F_nested_single_call args σ K := lim_L (f := F_nested_single_call) (m := 3) (k := 3) ir_nested_single_call rfl rfl rfl rfl rfl hl h
theorem go_nested_stack_int_push {args : List AV} {σ : List Blk} {K : AV → List Blk → Prop} (hl : args.length = 2) (h : WK L ir_nested_stack_int_push.body (args ++ List.replicate 0 .und) none σ (EndsK ir_nested_stack_int_push K)) : LX L F_nested_stack_int_push args σ K := lim_L (f := F_nested_stack_int_push) (m := 2) (k := 0) ir_nested_stack_int_push rfl rfl rfl rfl rfl hl h
theorem go_nested_single_inner {args : List AV} {σ : List Blk} {K : AV → List Blk → Prop} (hl : args.length = 3) (h : WK L ir_nested_single_inner.body (args ++ List.replicate 2 .und) none σ (EndsK ir_nested_single_inner K)) : LX L F_nested_single_inner args σ K := lim_L (f := F_nested_single_inner) (m := 3) (k := 2) ir_nested_single_inner rfl rfl rfl rfl rfl hl h
theorem go_nested_single_pop {args : List AV} {σ : List Blk} {K : AV → List Blk → Prop} (hl : args.length = 4) (h : WK L ir_nested_single_pop.body (args ++ List.replicate 2 .und) none σ (EndsK ir_nested_single_pop K)) : LX L F_nested_single_pop args σ K := lim_L (f := F_nested_single_pop) (m := 4) (k := 2) ir_nested_single_pop rfl rfl rfl rfl rfl hl h
theorem go_nested_stack_int_pop {args : List AV} {σ : List Blk} {K : AV → List Blk → Prop} (hl : args.length = 1) (h : WK L ir_nested_stack_int_pop.body (args ++ List.replicate 2 .und) none σ (EndsK ir_nested_stack_int_pop K)) : LX L F_nested_stack_int_pop args σ K := lim_L (f := F_nested_stack_int_pop) (m := 1) (k := 2) ir_nested_stack_int_pop rfl rfl rfl rfl rfl hl h
theorem go_ref01_Check {args : List AV} {σ : List Blk} {K : AV → List Blk → Prop} (hl : args.length = 2) (h : WK L ir_ref01_Check.body (args ++ List.replicate 2 .und) none σ (EndsK ir_ref01_Check K)) : LX L F_ref01_Check args σ K := lim_L (f := F_ref01_Check) (m := 2) (k := 2) ir_ref01_Check rfl rfl rfl rfl rfl hl h
theorem go_ref43_Symbols {args : List AV} {σ : List Blk} {K : AV → List Blk → Prop} (hl : args.length = 1) (h : WK L ir_ref43_Symbols.body (args ++ List.replicate 2 .und) none σ (EndsK ir_ref43_Symbols K)) : LX L F_ref43_Symbols args σ K := lim_L (f := F_ref43_Symbols) (m := 1) (k := 2) ir_ref43_Symbols rfl rfl rfl rfl rfl hl h
theorem go_ref43_depths {args : List AV} {σ : List Blk} {K : AV → List Blk → Prop} (hl : args.length = 2) (h : WK L ir_ref43_depths.body (args ++ List.replicate 8 .und) none σ (EndsK ir_ref43_depths K)) : LX L F_ref43_depths args σ K := lim_L (f := F_ref43_depths) (m := 2) (k := 8) ir_ref43_depths rfl rfl rfl rfl rfl hl h
theorem go_nested_connected {args : List AV} {σ : List Blk} {K : AV → List Blk → Prop} (hl : args.length = 2) (h : WK L ir_nested_connected.body (args ++ List.replicate 13 .und) none σ (EndsK ir_nested_connected K)) : LX L F_nested_connected args σ K := lim_L (f := F_nested_connected) (m := 2) (k := 13) ir_nested_connected rfl rfl rfl rfl rfl hl h
theorem go_ref43_connected {args : List AV} {σ : List Blk} {K : AV → List Blk → Prop} (hl : args.length = 1) (h : WK L ir_ref43_connected.body (args ++ List.replicate 7 .und) none σ (EndsK ir_ref43_connected K)) : LX L F_ref43_connected args σ K := lim_L (f := F_ref43_connected) (m := 1) (k := 7) ir_ref43_connected rfl rfl rfl rfl rfl hl h
theorem go_ref43_SameBools {args : List AV} {σ : List Blk} {K : AV → List Blk → Prop} (hl : args.length = 2) (h : WK L ir_ref43_SameBools.body (args ++ List.replicate 2 .und) none σ (EndsK ir_ref43_SameBools K)) : LX L F_ref43_SameBools args σ K := lim_L (f := F_ref43_SameBools) (m := 2) (k := 2) ir_ref43_SameBools rfl rfl rfl rfl rfl hl h
theorem go_nested_first {args : List AV} {σ : List Blk} {K : AV → List Blk → Prop} (hl : args.length = 4) (h : WK L ir_nested_first.body (args ++ List.replicate 20 .und) none σ (EndsK ir_nested_first K)) : LX L F_nested_first args σ K := lim_L (f := F_nested_first) (m := 4) (k := 20) ir_nested_first rfl rfl rfl rfl rfl hl h
theorem go_ref43_first {args : List AV} {σ : List Blk} {K : AV → List Blk → Prop} (hl : args.length = 1) (h : WK L ir_ref43_first.body (args ++ List.replicate 9 .und) none σ (EndsK ir_ref43_first K)) : LX L F_ref43_first args σ K := lim_L (f := F_ref43_first) (m := 1) (k := 9) ir_ref43_first rfl rfl rfl rfl rfl hl h
theorem go_nested_double_size {args : List AV} {σ : List Blk} {K : AV → List Blk → Prop} (hl : args.length = 1) (h : WK L ir_nested_double_size.body (args ++ List.replicate 2 .und) none σ (EndsK ir_nested_double_size K)) : LX L F_nested_double_size args σ K := lim_L (f := F_nested_double_size) (m := 1) (k := 2) ir_nested_double_size rfl rfl rfl rfl rfl hl h
theorem go_nested_double_split {args : List AV} {σ : List Blk} {K : AV → List Blk → Prop} (hl : args.length = 2) (h : WK L ir_nested_double_split.body (args ++ List.replicate 3 .und) none σ (EndsK ir_nested_double_split K)) : LX L F_nested_double_split args σ K := lim_L (f := F_nested_double_split) (m := 2) (k := 3) ir_nested_double_split rfl rfl rfl rfl rfl hl h
theorem go_nested_single_size {args : List AV} {σ : List Blk} {K : AV → List Blk → Prop} (hl : args.length = 1) (h : WK L ir_nested_single_size.body (args ++ List.replicate 2 .und) none σ (EndsK ir_nested_single_size K)) : LX L F_nested_single_size args σ K := lim_L (f := F_nested_single_size) (m := 1) (k := 2) ir_nested_single_size rfl rfl rfl rfl rfl hl h
theorem go_ref43_product {args : List AV} {σ : List Blk} {K : AV → List Blk → Prop} (hl : args.length = 2) (h : WK L ir_ref43_product.body (args ++ List.replicate 12 .und) none σ (EndsK ir_ref43_product K)) : LX L F_ref43_product args σ K := lim_L (f := F_ref43_product) (m := 2) (k := 12) ir_ref43_product rfl rfl rfl rfl rfl hl h
theorem go_ref01_Lex {args : List AV} {σ : List Blk} {K : AV → List Blk → Prop} (hl : args.length = 2) (h : WK L ir_ref01_Lex.body (args ++ List.replicate 3 .und) none σ (EndsK ir_ref01_Lex K)) : LX L F_ref01_Lex args σ K := lim_L (f := F_ref01_Lex) (m := 2) (k := 3) ir_ref01_Lex rfl rfl rfl rfl rfl hl h
theorem go_slices_ContainsFunc_Sint_int {args : List AV} {σ : List Blk} {K : AV → List Blk → Prop} (hl : args.length = 2) (h : WK L ir_slices_ContainsFunc_Sint_int.body (args ++ List.replicate 1 .und) none σ (EndsK ir_slices_ContainsFunc_Sint_int K)) : LX L F_slices_ContainsFunc_Sint_int args σ K := lim_L (f := F_slices_ContainsFunc_Sint_int) (m := 2) (k := 1) ir_slices_ContainsFunc_Sint_int rfl rfl rfl rfl rfl hl h
theorem go_nested_outside_1 {args : List AV} {σ : List Blk} {K : AV → List Blk → Prop} (hl : args.length = 2) (h : WK L ir_nested_outside_1.body (args ++ List.replicate 1 .und) none σ (EndsK ir_nested_outside_1 K)) : LX L F_nested_outside_1 args σ K := lim_L (f := F_nested_outside_1) (m := 2) (k := 1) ir_nested_outside_1 rfl rfl rfl rfl rfl hl h
theorem go_ref43_isState {args : List AV} {σ : List Blk} {K : AV → List Blk → Prop} (hl : args.length = 2) (h : WK L ir_ref43_isState.body (args ++ List.replicate 2 .und) none σ (EndsK ir_ref43_isState K)) : LX L F_ref43_isState args σ K := lim_L (f := F_ref43_isState) (m := 2) (k := 2) ir_ref43_isState rfl rfl rfl rfl rfl hl h
theorem go_word_permitted {args : List AV} {σ : List Blk} {K : AV → List Blk → Prop} (hl : args.length = 1) (h : WK L ir_word_permitted.body (args ++ List.replicate 1 .und) none σ (EndsK ir_word_permitted K)) : LX L F_word_permitted args σ K := lim_L (f := F_word_permitted) (m := 1) (k := 1) ir_word_permitted rfl rfl rfl rfl rfl hl h
theorem go_word_Check_1 {args : List AV} {σ : List Blk} {K : AV → List Blk → Prop} (hl : args.length = 2) (h : WK L ir_word_Check_1.body (args ++ List.replicate 1 .und) none σ (EndsK ir_word_Check_1 K)) : LX L F_word_Check_1 args σ K := lim_L (f := F_word_Check_1) (m := 2) (k := 1) ir_word_Check_1 rfl rfl rfl rfl rfl hl h
theorem go_ref01_Size {args : List AV} {σ : List Blk} {K : AV → List Blk → Prop} (hl : args.length = 1) (h : WK L ir_ref01_Size.body (args ++ List.replicate 1 .und) none σ (EndsK ir_ref01_Size K)) : LX L F_ref01_Size args σ K := lim_L (f := F_ref01_Size) (m := 1) (k := 1) ir_ref01_Size rfl rfl rfl rfl rfl hl h
theorem go_nested_spread {args : List AV} {σ : List Blk} {K : AV → List Blk → Prop} (hl : args.length = 2) (h : WK L ir_nested_spread.body (args ++ List.replicate 9 .und) none σ (EndsK ir_nested_spread K)) : LX L F_nested_spread args σ K := lim_L (f := F_nested_spread) (m := 2) (k := 9) ir_nested_spread rfl rfl rfl rfl rfl hl h
theorem go_nested_widen {args : List AV} {σ : List Blk} {K : AV → List Blk → Prop} (hl : args.length = 4) (h : WK L ir_nested_widen.body (args ++ List.replicate 18 .und) none σ (EndsK ir_nested_widen K)) : LX L F_nested_widen args σ K := lim_L (f := F_nested_widen) (m := 4) (k := 18) ir_nested_widen rfl rfl rfl rfl rfl hl h
theorem go_ref43_joined {args : List AV} {σ : List Blk} {K : AV → List Blk → Prop} (hl : args.length = 4) (h : WK L ir_ref43_joined.body (args ++ List.replicate 6 .und) none σ (EndsK ir_ref43_joined K)) : LX L F_ref43_joined args σ K := lim_L (f := F_ref43_joined) (m := 4) (k := 6) ir_ref43_joined rfl rfl rfl rfl rfl hl h
theorem go_nested_newSearch {args : List AV} {σ : List Blk} {K : AV → List Blk → Prop} (hl : args.length = 2) (h : WK L ir_nested_newSearch.body (args ++ List.replicate 14 .und) none σ (EndsK ir_nested_newSearch K)) : LX L F_nested_newSearch args σ K := lim_L (f := F_nested_newSearch) (m := 2) (k := 14) ir_nested_newSearch rfl rfl rfl rfl rfl hl h
theorem go_nested_search_level {args : List AV} {σ : List Blk} {K : AV → List Blk → Prop} (hl : args.length = 2) (h : WK L ir_nested_search_level.body (args ++ List.replicate 26 .und) none σ (EndsK ir_nested_search_level K)) : LX L F_nested_search_level args σ K := lim_L (f := F_nested_search_level) (m := 2) (k := 26) ir_nested_search_level rfl rfl rfl rfl rfl hl h
theorem go_word_Compare {args : List AV} {σ : List Blk} {K : AV → List Blk → Prop} (hl : args.length = 2) (h : WK L ir_word_Compare.body (args ++ List.replicate 1 .und) none σ (EndsK ir_word_Compare K)) : LX L F_word_Compare args σ K := lim_L (f := F_word_Compare) (m := 2) (k := 1) ir_word_Compare rfl rfl rfl rfl rfl hl h
theorem go_slices_Clone_Sint_int {args : List AV} {v : AV} (h : pClone1 (cN G Q 0) args = some v) : L F_slices_Clone_Sint_int args [] = some (v, []) := lim_prim Q_mono (f := F_slices_Clone_Sint_int) rfl h
theorem go_ref43_links {args : List AV} {σ : List Blk} {K : AV → List Blk → Prop} (hl : args.length = 1) (h : WK L ir_ref43_links.body (args ++ List.replicate 8 .und) none σ (EndsK ir_ref43_links K)) : LX L F_ref43_links args σ K := lim_L (f := F_ref43_links) (m := 1) (k := 8) ir_ref43_links rfl rfl rfl rfl rfl hl h
theorem go_ref43_better {args : List AV} {σ : List Blk} {K : AV → List Blk → Prop} (hl : args.length = 2) (h : WK L ir_ref43_better.body (args ++ List.replicate 2 .und) none σ (EndsK ir_ref43_better K)) : LX L F_ref43_better args σ K := lim_L (f := F_ref43_better) (m := 2) (k := 2) ir_ref43_better rfl rfl rfl rfl rfl hl h
theorem go_ref01_Join {args : List AV} {σ : List Blk} {K : AV → List Blk → Prop} (hl : args.length = 1) (h : WK L ir_ref01_Join.body (args ++ List.replicate 3 .und) none σ (EndsK ir_ref01_Join K)) : LX L F_ref01_Join args σ K := lim_L (f := F_ref01_Join) (m := 1) (k := 3) ir_ref01_Join rfl rfl rfl rfl rfl hl h
theorem go_ref43_pops {args : List AV} {σ : List Blk} {K : AV → List Blk → Prop} (hl : args.length = 4) (h : WK L ir_ref43_pops.body (args ++ List.replicate 8 .und) none σ (EndsK ir_ref43_pops K)) : LX L F_ref43_pops args σ K := lim_L (f := F_ref43_pops) (m := 4) (k := 8) ir_ref43_pops rfl rfl rfl rfl rfl hl h
theorem go_ref01_Common {args : List AV} {σ : List Blk} {K : AV → List Blk → Prop} (hl : args.length = 2) (h : WK L ir_ref01_Common.body (args ++ List.replicate 2 .und) none σ (EndsK ir_ref01_Common K)) : LX L F_ref01_Common args σ K := lim_L (f := F_ref01_Common) (m := 2) (k := 2) ir_ref01_Common rfl rfl rfl rfl rfl hl h
theorem go_slices_IndexFunc_Sint_int {args : List AV} {σ : List Blk} {K : AV → List Blk → Prop} (hl : args.length = 2) (h : WK L ir_slices_IndexFunc_Sint_int.body (args ++ List.replicate 4 .und) none σ (EndsK ir_slices_IndexFunc_Sint_int K)) : LX L F_slices_IndexFunc_Sint_int args σ K := lim_L (f := F_slices_IndexFunc_Sint_int) (m := 2) (k := 4) ir_slices_IndexFunc_Sint_int rfl rfl rfl rfl rfl hl h
theorem go_nested_newBest {args : List AV} {σ : List Blk} {K : AV → List Blk → Prop} (hl : args.length = 1) (h : WK L ir_nested_newBest.body (args ++ List.replicate 4 .und) none σ (EndsK ir_nested_newBest K)) : LX L F_nested_newBest args σ K := lim_L (f := F_nested_newBest) (m := 1) (k := 4) ir_nested_newBest rfl rfl rfl rfl rfl hl h
theorem go_nested_best_offer {args : List AV} {σ : List Blk} {K : AV → List Blk → Prop} (hl : args.length = 5) (h : WK L ir_nested_best_offer.body (args ++ List.replicate 3 .und) none σ (EndsK ir_nested_best_offer K)) : LX L F_nested_best_offer args σ K := lim_L (f := F_nested_best_offer) (m := 5) (k := 3) ir_nested_best_offer rfl rfl rfl rfl rfl hl h
theorem go_nested_best_take {args : List AV} {σ : List Blk} {K : AV → List Blk → Prop} (hl : args.length = 2) (h : WK L ir_nested_best_take.body (args ++ List.replicate 6 .und) none σ (EndsK ir_nested_best_take K)) : LX L F_nested_best_take args σ K := lim_L (f := F_nested_best_take) (m := 2) (k := 6) ir_nested_best_take rfl rfl rfl rfl rfl hl h
theorem go_cmp_Or_int {args : List AV} {σ : List Blk} {K : AV → List Blk → Prop} (hl : args.length = 1) (h : WK L ir_cmp_Or_int.body (args ++ List.replicate 6 .und) none σ (EndsK ir_cmp_Or_int K)) : LX L F_cmp_Or_int args σ K := lim_L (f := F_cmp_Or_int) (m := 1) (k := 6) ir_cmp_Or_int rfl rfl rfl rfl rfl hl h
theorem go_cmp_Compare_int {args : List AV} {σ : List Blk} {K : AV → List Blk → Prop} (hl : args.length = 2) (h : WK L ir_cmp_Compare_int.body (args ++ List.replicate 3 .und) none σ (EndsK ir_cmp_Compare_int K)) : LX L F_cmp_Compare_int args σ K := lim_L (f := F_cmp_Compare_int) (m := 2) (k := 3) ir_cmp_Compare_int rfl rfl rfl rfl rfl hl h
theorem go_slices_Compare_Sint_int {args : List AV} {σ : List Blk} {K : AV → List Blk → Prop} (hl : args.length = 2) (h : WK L ir_slices_Compare_Sint_int.body (args ++ List.replicate 8 .und) none σ (EndsK ir_slices_Compare_Sint_int K)) : LX L F_slices_Compare_Sint_int args σ K := lim_L (f := F_slices_Compare_Sint_int) (m := 2) (k := 8) ir_slices_Compare_Sint_int rfl rfl rfl rfl rfl hl h
theorem go_ref43_improved {args : List AV} {σ : List Blk} {K : AV → List Blk → Prop} (hl : args.length = 4) (h : WK L ir_ref43_improved.body (args ++ List.replicate 10 .und) none σ (EndsK ir_ref43_improved K)) : LX L F_ref43_improved args σ K := lim_L (f := F_ref43_improved) (m := 4) (k := 10) ir_ref43_improved rfl rfl rfl rfl rfl hl h
theorem go_ref01_Same {args : List AV} {σ : List Blk} {K : AV → List Blk → Prop} (hl : args.length = 2) (h : WK L ir_ref01_Same.body (args ++ List.replicate 1 .und) none σ (EndsK ir_ref01_Same K)) : LX L F_ref01_Same args σ K := lim_L (f := F_ref01_Same) (m := 2) (k := 1) ir_ref01_Same rfl rfl rfl rfl rfl hl h
theorem go_cmp_isNaN_int {args : List AV} {σ : List Blk} {K : AV → List Blk → Prop} (hl : args.length = 1) (h : WK L ir_cmp_isNaN_int.body (args ++ List.replicate 1 .und) none σ (EndsK ir_cmp_isNaN_int K)) : LX L F_cmp_isNaN_int args σ K := lim_L (f := F_cmp_isNaN_int) (m := 1) (k := 1) ir_cmp_isNaN_int rfl rfl rfl rfl rfl hl h
theorem go_nested_double_call {args : List AV} {σ : List Blk} {K : AV → List Blk → Prop} (hl : args.length = 3) (h : WK L ir_nested_double_call.body (args ++ List.replicate 9 .und) none σ (EndsK ir_nested_double_call K)) : LX L F_nested_double_call args σ K := lim_L (f := F_nested_double_call) (m := 3) (k := 9) ir_nested_double_call rfl rfl rfl rfl rfl hl h
theorem go_nested_double_inner {args : List AV} {σ : List Blk} {K : AV → List Blk → Prop} (hl : args.length = 3) (h : WK L ir_nested_double_inner.body (args ++ List.replicate 4 .und) none σ (EndsK ir_nested_double_inner K)) : LX L F_nested_double_inner args σ K := lim_L (f := F_nested_double_inner) (m := 3) (k := 4) ir_nested_double_inner rfl rfl rfl rfl rfl hl h
theorem go_nested_double_pop {args : List AV} {σ : List Blk} {K : AV → List Blk → Prop} (hl : args.length = 4) (h : WK L ir_nested_double_pop.body (args ++ List.replicate 4 .und) none σ (EndsK ir_nested_double_pop K)) : LX L F_nested_double_pop args σ K := lim_L (f := F_nested_double_pop) (m := 4) (k := 4) ir_nested_double_pop rfl rfl rfl rfl rfl hl h
end Ab
