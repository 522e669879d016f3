/- The functions of the program as small texts, printed by a tool of mine: what is run. Condition: none. -/
import Derived.Test.YtdhncjkhockhjaaIr0
set_option linter.all false
namespace Ab
def G : Nat → Option Fn := fun f => match f with
  | 3 => some ir_law13_HomingWords
  | 4 => some ir_law13_HomingTraces
  | 5 => some ir_law13_HomingKnown
  | 6 => some ir_law13_HomingSteps
  | 7 => some ir_law13_HomingResolves
  | 8 => some ir_law11_Small
  | 9 => some ir_law13_exampleHolds
  | 10 => some ir_homing_Word
  | 11 => some ir_ref13_Word
  | 12 => some ir_ref08_Equal
  | 13 => some ir_homing_Resolves
  | 14 => some ir_ref13_Resolves
  | 15 => some ir_homing_Possible
  | 16 => some ir_ref13_Possible
  | 17 => some ir_homing_Final
  | 18 => some ir_ref13_Final
  | 19 => some ir_ref11_Check
  | 20 => some ir_mealy_From
  | 21 => some ir_ref06_Valid
  | 22 => some ir_mealy_Run
  | 23 => some ir_law08_Great
  | 24 => some ir_mealy_Valid
  | 25 => some ir_minimize_Minimal
  | 26 => some ir_homing_groups
  | 27 => some ir_homing_open
  | 28 => some ir_equiv_States
  | 29 => some ir_word_Join
  | 30 => some ir_ref13_open
  | 31 => some ir_ref09_States
  | 32 => some ir_homing_check
  | 33 => some ir_ref13_check
  | 34 => some ir_slices_Equal_Sint_int
  | 35 => some ir_ref13_current
  | 36 => some ir_ref08_Minimal
  | 37 => some ir_mealy_state
  | 38 => some ir_word_Check
  | 39 => some ir_mealy_runner_run
  | 40 => some ir_ref06_row
  | 41 => some ir_mealy_Reach
  | 42 => some ir_minimize_Min
  | 43 => some ir_slices_IndexFunc_Shoming_group_homing_group
  | 44 => some ir_homing_groups_1
  | 45 => some ir_homing_put
  | 47 => some ir_homing_groups_2
  | 48 => some ir_word_Lex
  | 49 => some ir_homing_open_1
  | 50 => some ir_equiv_search
  | 51 => some ir_slices_Concat_Sint_int
  | 52 => some ir_ref13_run
  | 53 => some ir_ref01_Lex
  | 54 => some ir_ref09_first
  | 55 => some ir_ref01_Check
  | 56 => some ir_ref06_Ints
  | 57 => some ir_ref08_Min
  | 58 => some ir_word_permitted
  | 59 => some ir_slices_ContainsFunc_Sint_int
  | 60 => some ir_word_Check_1
  | 61 => some ir_mealy_machine_move
  | 62 => some ir_mealy_Trim
  | 63 => some ir_minimize_Classes
  | 64 => some ir_slices_BinarySearch_Sint_int
  | 67 => some ir_slices_Compare_Sint_int
  | 69 => some ir_ref01_Common
  | 70 => some ir_ref09_Extended
  | 71 => some ir_ref01_Size
  | 72 => some ir_ref08_Classes
  | 73 => some ir_slices_IndexFunc_Sint_int
  | 74 => some ir_slices_Clone_Sint_int
  | 75 => some ir_minimize_Partition
  | 76 => some ir_cmp_Less_int
  | 77 => some ir_slices_isNaN_int
  | 88 => some ir_cmp_Compare_int
  | 89 => some ir_ref08_Partition
  | 90 => some ir_minimize_refine
  | 91 => some ir_cmp_isNaN_int
  | 97 => some ir_ref08_finer
  | 98 => some ir_minimize_next
  | _ => none
def sls : Nat → List Nat := fun f => match f with
  | 3 => [0, 1, 3, 5, 4, 6, 2]
  | 4 => [0, 1, 2, 3, 7, 9, 8, 10, 11, 13, 12, 14, 15, 18, 16, 19, 17, 20, 6]
  | 5 => [0, 1, 2, 3, 8, 7, 12, 9, 11, 14, 17, 10, 16, 15, 13, 18, 6]
  | 6 => [0, 1, 2, 3, 7, 10, 8, 11, 13, 15, 12, 95, 94, 93, 18, 16, 139, 138, 20, 19, 14, 9, 6]
  | 7 => [0, 1, 2, 6, 5, 8, 58, 57, 10, 11, 13, 16, 15, 14, 12, 9, 4]
  | 8 => [0, 1, 2]
  | 9 => [1, 2, 3, 5, 7, 9, 12, 14, 4, 6, 8, 10, 11, 0]
  | 10 => [0, 1, 4, 5, 6, 7, 10, 9, 8, 2, 3]
  | 11 => [0, 1, 4, 5, 6, 7, 2, 3]
  | 12 => [0, 1, 5, 4]
  | 13 => [0, 1, 2, 6, 4, 5]
  | 14 => [0, 1, 2, 6, 4, 5]
  | 15 => [0, 1, 2, 3, 8, 26, 25, 24, 10, 6, 7]
  | 16 => [0, 1, 2, 3, 8, 6, 7]
  | 17 => [0, 1, 2, 3, 10, 9, 6, 7, 8]
  | 18 => [0, 1, 2, 3, 10, 9, 6, 7, 8]
  | 19 => [0, 1, 3, 2]
  | 20 => [0, 1, 2, 3, 9, 10, 11, 12, 6, 7, 8]
  | 21 => [0, 1, 3, 4, 2]
  | 22 => [0, 1, 2, 6, 8, 4, 5]
  | 23 => [0, 1, 23, 22, 3, 37, 36, 4, 2]
  | 24 => [0, 1, 3, 43, 42, 4, 68, 67, 5, 6, 7, 2]
  | 25 => [0, 1, 4, 3, 2]
  | 26 => [0, 1, 2, 14, 13, 6, 5, 7, 10, 8, 4]
  | 27 => [0, 2]
  | 28 => [0, 1, 2, 3, 9, 10, 11, 6, 7, 8]
  | 29 => [0, 2]
  | 30 => [0, 1, 7, 2, 8, 10, 6, 5, 4]
  | 31 => [0, 1, 2, 3, 9, 10, 11, 6, 7, 8]
  | 32 => [0, 1, 2, 5, 4]
  | 33 => [0, 1, 2, 5, 4]
  | 34 => [0, 1, 13, 12, 5, 4]
  | 35 => [0, 1, 2, 8, 3, 10, 9, 12, 11, 7, 6]
  | 36 => [0, 1, 4, 3, 2]
  | 37 => [0, 1, 2, 5, 4]
  | 38 => [0, 1, 3, 4]
  | 39 => [0, 1, 12, 11, 10, 7, 8, 5, 9, 4]
  | 40 => [0, 1, 2, 5, 4]
  | 41 => [0, 1, 3, 5, 4, 37, 36, 35, 7, 2]
  | 42 => [0, 1, 5, 2, 4, 6, 36, 35, 34, 9, 7, 8, 52, 51, 50, 10, 12, 3]
  | 43 => [0, 1, 8, 7, 5, 4]
  | 44 => [0, 1, 2, 3]
  | 45 => [0, 1, 6, 7, 5, 4]
  | 47 => [0, 1, 2, 3, 4]
  | 48 => [0, 1, 4]
  | 49 => [0, 1, 2]
  | 50 => [0, 1, 2, 3, 8, 21, 20, 9, 4, 5, 11, 10, 56, 55, 12, 13, 14, 6, 7]
  | 51 => [0, 11, 10, 9, 3, 5, 27, 26, 25, 6, 8, 2]
  | 52 => [0, 1, 2, 9, 8, 3, 6, 7]
  | 53 => [0, 1, 5, 4, 20]
  | 54 => [0, 1, 2, 3, 11, 10, 12, 4, 5, 13, 17, 16, 14, 15, 8, 9]
  | 55 => [0, 1, 5, 4]
  | 56 => [0, 1, 5, 4]
  | 57 => [0, 1, 5, 2, 8, 7, 4, 10, 6, 13, 14, 11, 12, 9, 3]
  | 58 => [0, 2]
  | 59 => [0, 1, 4]
  | 60 => [0, 1, 3]
  | 61 => [0, 1, 2, 3, 6, 7]
  | 62 => [0, 1, 4, 2, 5, 29, 28, 27, 6, 8, 7, 44, 43, 42, 11, 57, 56, 55, 12, 13, 14, 9, 3]
  | 63 => [0, 1, 2, 3]
  | 64 => [0, 1, 6, 7, 8, 9, 4, 5]
  | 67 => [0, 1, 11, 10, 9, 5, 6, 7, 8, 4]
  | 69 => [0, 1, 5, 4]
  | 70 => [0, 1, 5, 4]
  | 71 => [0, 2]
  | 72 => [0, 1, 2, 3]
  | 73 => [0, 1, 8, 7, 5, 4]
  | 74 => [0, 2]
  | 75 => [0, 1, 2, 6, 7, 4, 5]
  | 76 => [0, 1, 4]
  | 77 => [0, 2]
  | 88 => [0, 1, 5, 6, 4]
  | 89 => [0, 1, 2, 6, 8, 7, 4, 5]
  | 90 => [0, 1, 2, 21, 20, 6, 10, 7, 8, 9, 4, 5]
  | 91 => [0, 2]
  | 97 => [0, 1, 7, 9, 11, 2, 10, 5, 8, 6, 4]
  | 98 => [0, 1, 19, 18, 2, 24, 23, 10, 8, 9, 6, 12, 11, 7, 4, 5]
  | _ => []
def Q : Prims := fun f => match f with
  | 46 => some (pSortP 2)
  | 68 => some pGrow
  | 74 => some (vPrim pClone1)
  | _ => none
theorem Q_mono : PrimsMono Q := by
  intro f p h
  unfold Q at h
  split at h
  · cases h; exact (pSortP_mono 2)
  · cases h; exact pGrow_mono
  · cases h; exact fun _ _ _ _ _ _ h => h
  · cases h
/-- The interpreter with as much fuel as is wanted. -/
noncomputable def L : CE := lim G Q
theorem lim_L {f m k : Nat} (fn : Fn) {b : IC} {args : List AV} {σ : List Blk} {K : AV → List Blk → Prop} (hq : Q f = none) (hg : G f = some fn) (hb : fn.body = b) (hm : fn.np = m) (hk : fn.nv - fn.np = k) (hl : args.length = m) (h : WK L b (args ++ List.replicate k .und) none σ (EndsK fn K)) : LX L f args σ K := by subst hb; subst hm; subst hk; exact lim_LX Q_mono fn hq hg hl h
theorem go_law13_HomingWords {args : List AV} {σ : List Blk} {K : AV → List Blk → Prop} (hl : args.length = 1) (h : WK L ir_law13_HomingWords.body (args ++ List.replicate 6 .und) none σ (EndsK ir_law13_HomingWords K)) : LX L F_law13_HomingWords args σ K := lim_L (f := F_law13_HomingWords) (m := 1) (k := 6) ir_law13_HomingWords rfl rfl rfl rfl rfl hl h
theorem go_law13_HomingTraces {args : List AV} {σ : List Blk} {K : AV → List Blk → Prop} (hl : args.length = 3) (h : WK L ir_law13_HomingTraces.body (args ++ List.replicate 16 .und) none σ (EndsK ir_law13_HomingTraces K)) : LX L F_law13_HomingTraces args σ K := lim_L (f := F_law13_HomingTraces) (m := 3) (k := 16) ir_law13_HomingTraces rfl rfl rfl rfl rfl hl h
theorem go_law13_HomingKnown {args : List AV} {σ : List Blk} {K : AV → List Blk → Prop} (hl : args.length = 3) (h : WK L ir_law13_HomingKnown.body (args ++ List.replicate 14 .und) none σ (EndsK ir_law13_HomingKnown K)) : LX L F_law13_HomingKnown args σ K := lim_L (f := F_law13_HomingKnown) (m := 3) (k := 14) ir_law13_HomingKnown rfl rfl rfl rfl rfl hl h
theorem go_law13_HomingSteps {args : List AV} {σ : List Blk} {K : AV → List Blk → Prop} (hl : args.length = 3) (h : WK L ir_law13_HomingSteps.body (args ++ List.replicate 20 .und) none σ (EndsK ir_law13_HomingSteps K)) : LX L F_law13_HomingSteps args σ K := lim_L (f := F_law13_HomingSteps) (m := 3) (k := 20) ir_law13_HomingSteps rfl rfl rfl rfl rfl hl h
theorem go_law13_HomingResolves {args : List AV} {σ : List Blk} {K : AV → List Blk → Prop} (hl : args.length = 2) (h : WK L ir_law13_HomingResolves.body (args ++ List.replicate 15 .und) none σ (EndsK ir_law13_HomingResolves K)) : LX L F_law13_HomingResolves args σ K := lim_L (f := F_law13_HomingResolves) (m := 2) (k := 15) ir_law13_HomingResolves rfl rfl rfl rfl rfl hl h
theorem go_law11_Small {args : List AV} {σ : List Blk} {K : AV → List Blk → Prop} (hl : args.length = 1) (h : WK L ir_law11_Small.body (args ++ List.replicate 2 .und) none σ (EndsK ir_law11_Small K)) : LX L F_law11_Small args σ K := lim_L (f := F_law11_Small) (m := 1) (k := 2) ir_law11_Small rfl rfl rfl rfl rfl hl h
theorem go_law13_exampleHolds {args : List AV} {σ : List Blk} {K : AV → List Blk → Prop} (hl : args.length = 0) (h : WK L ir_law13_exampleHolds.body (args ++ List.replicate 14 .und) none σ (EndsK ir_law13_exampleHolds K)) : LX L F_law13_exampleHolds args σ K := lim_L (f := F_law13_exampleHolds) (m := 0) (k := 14) ir_law13_exampleHolds rfl rfl rfl rfl rfl hl h
theorem go_homing_Word {args : List AV} {σ : List Blk} {K : AV → List Blk → Prop} (hl : args.length = 1) (h : WK L ir_homing_Word.body (args ++ List.replicate 10 .und) none σ (EndsK ir_homing_Word K)) : LX L F_homing_Word args σ K := lim_L (f := F_homing_Word) (m := 1) (k := 10) ir_homing_Word rfl rfl rfl rfl rfl hl h
theorem go_ref13_Word {args : List AV} {σ : List Blk} {K : AV → List Blk → Prop} (hl : args.length = 1) (h : WK L ir_ref13_Word.body (args ++ List.replicate 7 .und) none σ (EndsK ir_ref13_Word K)) : LX L F_ref13_Word args σ K := lim_L (f := F_ref13_Word) (m := 1) (k := 7) ir_ref13_Word rfl rfl rfl rfl rfl hl h
theorem go_ref08_Equal {args : List AV} {σ : List Blk} {K : AV → List Blk → Prop} (hl : args.length = 2) (h : WK L ir_ref08_Equal.body (args ++ List.replicate 2 .und) none σ (EndsK ir_ref08_Equal K)) : LX L F_ref08_Equal args σ K := lim_L (f := F_ref08_Equal) (m := 2) (k := 2) ir_ref08_Equal rfl rfl rfl rfl rfl hl h
theorem go_homing_Resolves {args : List AV} {σ : List Blk} {K : AV → List Blk → Prop} (hl : args.length = 2) (h : WK L ir_homing_Resolves.body (args ++ List.replicate 4 .und) none σ (EndsK ir_homing_Resolves K)) : LX L F_homing_Resolves args σ K := lim_L (f := F_homing_Resolves) (m := 2) (k := 4) ir_homing_Resolves rfl rfl rfl rfl rfl hl h
theorem go_ref13_Resolves {args : List AV} {σ : List Blk} {K : AV → List Blk → Prop} (hl : args.length = 2) (h : WK L ir_ref13_Resolves.body (args ++ List.replicate 4 .und) none σ (EndsK ir_ref13_Resolves K)) : LX L F_ref13_Resolves args σ K := lim_L (f := F_ref13_Resolves) (m := 2) (k := 4) ir_ref13_Resolves rfl rfl rfl rfl rfl hl h
theorem go_homing_Possible {args : List AV} {σ : List Blk} {K : AV → List Blk → Prop} (hl : args.length = 3) (h : WK L ir_homing_Possible.body (args ++ List.replicate 8 .und) none σ (EndsK ir_homing_Possible K)) : LX L F_homing_Possible args σ K := lim_L (f := F_homing_Possible) (m := 3) (k := 8) ir_homing_Possible rfl rfl rfl rfl rfl hl h
theorem go_ref13_Possible {args : List AV} {σ : List Blk} {K : AV → List Blk → Prop} (hl : args.length = 3) (h : WK L ir_ref13_Possible.body (args ++ List.replicate 4 .und) none σ (EndsK ir_ref13_Possible K)) : LX L F_ref13_Possible args σ K := lim_L (f := F_ref13_Possible) (m := 3) (k := 4) ir_ref13_Possible rfl rfl rfl rfl rfl hl h
theorem go_homing_Final {args : List AV} {σ : List Blk} {K : AV → List Blk → Prop} (hl : args.length = 3) (h : WK L ir_homing_Final.body (args ++ List.replicate 6 .und) none σ (EndsK ir_homing_Final K)) : LX L F_homing_Final args σ K := lim_L (f := F_homing_Final) (m := 3) (k := 6) ir_homing_Final rfl rfl rfl rfl rfl hl h
theorem go_ref13_Final {args : List AV} {σ : List Blk} {K : AV → List Blk → Prop} (hl : args.length = 3) (h : WK L ir_ref13_Final.body (args ++ List.replicate 6 .und) none σ (EndsK ir_ref13_Final K)) : LX L F_ref13_Final args σ K := lim_L (f := F_ref13_Final) (m := 3) (k := 6) ir_ref13_Final rfl rfl rfl rfl rfl hl h
theorem go_ref11_Check {args : List AV} {σ : List Blk} {K : AV → List Blk → Prop} (hl : args.length = 1) (h : WK L ir_ref11_Check.body (args ++ List.replicate 3 .und) none σ (EndsK ir_ref11_Check K)) : LX L F_ref11_Check args σ K := lim_L (f := F_ref11_Check) (m := 1) (k := 3) ir_ref11_Check rfl rfl rfl rfl rfl hl h
theorem go_mealy_From {args : List AV} {σ : List Blk} {K : AV → List Blk → Prop} (hl : args.length = 3) (h : WK L ir_mealy_From.body (args ++ List.replicate 8 .und) none σ (EndsK ir_mealy_From K)) : LX L F_mealy_From args σ K := lim_L (f := F_mealy_From) (m := 3) (k := 8) ir_mealy_From rfl rfl rfl rfl rfl hl h
theorem go_ref06_Valid {args : List AV} {σ : List Blk} {K : AV → List Blk → Prop} (hl : args.length = 1) (h : WK L ir_ref06_Valid.body (args ++ List.replicate 4 .und) none σ (EndsK ir_ref06_Valid K)) : LX L F_ref06_Valid args σ K := lim_L (f := F_ref06_Valid) (m := 1) (k := 4) ir_ref06_Valid rfl rfl rfl rfl rfl hl h
theorem go_mealy_Run {args : List AV} {σ : List Blk} {K : AV → List Blk → Prop} (hl : args.length = 2) (h : WK L ir_mealy_Run.body (args ++ List.replicate 5 .und) none σ (EndsK ir_mealy_Run K)) : LX L F_mealy_Run args σ K := lim_L (f := F_mealy_Run) (m := 2) (k := 5) ir_mealy_Run rfl rfl rfl rfl rfl hl h
theorem go_law08_Great {args : List AV} {σ : List Blk} {K : AV → List Blk → Prop} (hl : args.length = 1) (h : WK L ir_law08_Great.body (args ++ List.replicate 8 .und) none σ (EndsK ir_law08_Great K)) : LX L F_law08_Great args σ K := lim_L (f := F_law08_Great) (m := 1) (k := 8) ir_law08_Great rfl rfl rfl rfl rfl hl h
theorem go_mealy_Valid {args : List AV} {σ : List Blk} {K : AV → List Blk → Prop} (hl : args.length = 1) (h : WK L ir_mealy_Valid.body (args ++ List.replicate 11 .und) none σ (EndsK ir_mealy_Valid K)) : LX L F_mealy_Valid args σ K := lim_L (f := F_mealy_Valid) (m := 1) (k := 11) ir_mealy_Valid rfl rfl rfl rfl rfl hl h
theorem go_minimize_Minimal {args : List AV} {σ : List Blk} {K : AV → List Blk → Prop} (hl : args.length = 1) (h : WK L ir_minimize_Minimal.body (args ++ List.replicate 4 .und) none σ (EndsK ir_minimize_Minimal K)) : LX L F_minimize_Minimal args σ K := lim_L (f := F_minimize_Minimal) (m := 1) (k := 4) ir_minimize_Minimal rfl rfl rfl rfl rfl hl h
theorem go_homing_groups {args : List AV} {σ : List Blk} {K : AV → List Blk → Prop} (hl : args.length = 2) (h : WK L ir_homing_groups.body (args ++ List.replicate 9 .und) none σ (EndsK ir_homing_groups K)) : LX L F_homing_groups args σ K := lim_L (f := F_homing_groups) (m := 2) (k := 9) ir_homing_groups rfl rfl rfl rfl rfl hl h
theorem go_homing_open {args : List AV} {σ : List Blk} {K : AV → List Blk → Prop} (hl : args.length = 1) (h : WK L ir_homing_open.body (args ++ List.replicate 1 .und) none σ (EndsK ir_homing_open K)) : LX L F_homing_open args σ K := lim_L (f := F_homing_open) (m := 1) (k := 1) ir_homing_open rfl rfl rfl rfl rfl hl h
theorem go_equiv_States {args : List AV} {σ : List Blk} {K : AV → List Blk → Prop} (hl : args.length = 3) (h : WK L ir_equiv_States.body (args ++ List.replicate 7 .und) none σ (EndsK ir_equiv_States K)) : LX L F_equiv_States args σ K := lim_L (f := F_equiv_States) (m := 3) (k := 7) ir_equiv_States rfl rfl rfl rfl rfl hl h
theorem go_word_Join {args : List AV} {σ : List Blk} {K : AV → List Blk → Prop} (hl : args.length = 1) (h : WK L ir_word_Join.body (args ++ List.replicate 1 .und) none σ (EndsK ir_word_Join K)) : LX L F_word_Join args σ K := lim_L (f := F_word_Join) (m := 1) (k := 1) ir_word_Join rfl rfl rfl rfl rfl hl h
theorem go_ref13_open {args : List AV} {σ : List Blk} {K : AV → List Blk → Prop} (hl : args.length = 2) (h : WK L ir_ref13_open.body (args ++ List.replicate 7 .und) none σ (EndsK ir_ref13_open K)) : LX L F_ref13_open args σ K := lim_L (f := F_ref13_open) (m := 2) (k := 7) ir_ref13_open rfl rfl rfl rfl rfl hl h
theorem go_ref09_States {args : List AV} {σ : List Blk} {K : AV → List Blk → Prop} (hl : args.length = 3) (h : WK L ir_ref09_States.body (args ++ List.replicate 7 .und) none σ (EndsK ir_ref09_States K)) : LX L F_ref09_States args σ K := lim_L (f := F_ref09_States) (m := 3) (k := 7) ir_ref09_States rfl rfl rfl rfl rfl hl h
theorem go_homing_check {args : List AV} {σ : List Blk} {K : AV → List Blk → Prop} (hl : args.length = 2) (h : WK L ir_homing_check.body (args ++ List.replicate 3 .und) none σ (EndsK ir_homing_check K)) : LX L F_homing_check args σ K := lim_L (f := F_homing_check) (m := 2) (k := 3) ir_homing_check rfl rfl rfl rfl rfl hl h
theorem go_ref13_check {args : List AV} {σ : List Blk} {K : AV → List Blk → Prop} (hl : args.length = 2) (h : WK L ir_ref13_check.body (args ++ List.replicate 3 .und) none σ (EndsK ir_ref13_check K)) : LX L F_ref13_check args σ K := lim_L (f := F_ref13_check) (m := 2) (k := 3) ir_ref13_check rfl rfl rfl rfl rfl hl h
theorem go_slices_Equal_Sint_int {args : List AV} {σ : List Blk} {K : AV → List Blk → Prop} (hl : args.length = 2) (h : WK L ir_slices_Equal_Sint_int.body (args ++ List.replicate 4 .und) none σ (EndsK ir_slices_Equal_Sint_int K)) : LX L F_slices_Equal_Sint_int args σ K := lim_L (f := F_slices_Equal_Sint_int) (m := 2) (k := 4) ir_slices_Equal_Sint_int rfl rfl rfl rfl rfl hl h
theorem go_ref13_current {args : List AV} {σ : List Blk} {K : AV → List Blk → Prop} (hl : args.length = 3) (h : WK L ir_ref13_current.body (args ++ List.replicate 8 .und) none σ (EndsK ir_ref13_current K)) : LX L F_ref13_current args σ K := lim_L (f := F_ref13_current) (m := 3) (k := 8) ir_ref13_current rfl rfl rfl rfl rfl hl h
theorem go_ref08_Minimal {args : List AV} {σ : List Blk} {K : AV → List Blk → Prop} (hl : args.length = 1) (h : WK L ir_ref08_Minimal.body (args ++ List.replicate 4 .und) none σ (EndsK ir_ref08_Minimal K)) : LX L F_ref08_Minimal args σ K := lim_L (f := F_ref08_Minimal) (m := 1) (k := 4) ir_ref08_Minimal rfl rfl rfl rfl rfl hl h
theorem go_mealy_state {args : List AV} {σ : List Blk} {K : AV → List Blk → Prop} (hl : args.length = 2) (h : WK L ir_mealy_state.body (args ++ List.replicate 3 .und) none σ (EndsK ir_mealy_state K)) : LX L F_mealy_state args σ K := lim_L (f := F_mealy_state) (m := 2) (k := 3) ir_mealy_state rfl rfl rfl rfl rfl hl h
theorem go_word_Check {args : List AV} {σ : List Blk} {K : AV → List Blk → Prop} (hl : args.length = 2) (h : WK L ir_word_Check.body (args ++ List.replicate 2 .und) none σ (EndsK ir_word_Check K)) : LX L F_word_Check args σ K := lim_L (f := F_word_Check) (m := 2) (k := 2) ir_word_Check rfl rfl rfl rfl rfl hl h
theorem go_mealy_runner_run {args : List AV} {σ : List Blk} {K : AV → List Blk → Prop} (hl : args.length = 2) (h : WK L ir_mealy_runner_run.body (args ++ List.replicate 8 .und) none σ (EndsK ir_mealy_runner_run K)) : LX L F_mealy_runner_run args σ K := lim_L (f := F_mealy_runner_run) (m := 2) (k := 8) ir_mealy_runner_run rfl rfl rfl rfl rfl hl h
theorem go_ref06_row {args : List AV} {σ : List Blk} {K : AV → List Blk → Prop} (hl : args.length = 2) (h : WK L ir_ref06_row.body (args ++ List.replicate 3 .und) none σ (EndsK ir_ref06_row K)) : LX L F_ref06_row args σ K := lim_L (f := F_ref06_row) (m := 2) (k := 3) ir_ref06_row rfl rfl rfl rfl rfl hl h
theorem go_mealy_Reach {args : List AV} {σ : List Blk} {K : AV → List Blk → Prop} (hl : args.length = 1) (h : WK L ir_mealy_Reach.body (args ++ List.replicate 9 .und) none σ (EndsK ir_mealy_Reach K)) : LX L F_mealy_Reach args σ K := lim_L (f := F_mealy_Reach) (m := 1) (k := 9) ir_mealy_Reach rfl rfl rfl rfl rfl hl h
theorem go_minimize_Min {args : List AV} {σ : List Blk} {K : AV → List Blk → Prop} (hl : args.length = 1) (h : WK L ir_minimize_Min.body (args ++ List.replicate 17 .und) none σ (EndsK ir_minimize_Min K)) : LX L F_minimize_Min args σ K := lim_L (f := F_minimize_Min) (m := 1) (k := 17) ir_minimize_Min rfl rfl rfl rfl rfl hl h
theorem go_slices_IndexFunc_Shoming_group_homing_group {args : List AV} {σ : List Blk} {K : AV → List Blk → Prop} (hl : args.length = 2) (h : WK L ir_slices_IndexFunc_Shoming_group_homing_group.body (args ++ List.replicate 4 .und) none σ (EndsK ir_slices_IndexFunc_Shoming_group_homing_group K)) : LX L F_slices_IndexFunc_Shoming_group_homing_group args σ K := lim_L (f := F_slices_IndexFunc_Shoming_group_homing_group) (m := 2) (k := 4) ir_slices_IndexFunc_Shoming_group_homing_group rfl rfl rfl rfl rfl hl h
theorem go_homing_groups_1 {args : List AV} {σ : List Blk} {K : AV → List Blk → Prop} (hl : args.length = 2) (h : WK L ir_homing_groups_1.body (args ++ List.replicate 2 .und) none σ (EndsK ir_homing_groups_1 K)) : LX L F_homing_groups_1 args σ K := lim_L (f := F_homing_groups_1) (m := 2) (k := 2) ir_homing_groups_1 rfl rfl rfl rfl rfl hl h
theorem go_homing_put {args : List AV} {σ : List Blk} {K : AV → List Blk → Prop} (hl : args.length = 2) (h : WK L ir_homing_put.body (args ++ List.replicate 4 .und) none σ (EndsK ir_homing_put K)) : LX L F_homing_put args σ K := lim_L (f := F_homing_put) (m := 2) (k := 4) ir_homing_put rfl rfl rfl rfl rfl hl h
theorem go_slices_SortFunc_Shoming_group_homing_group {N : Nat} {args : List AV} {σ : List Blk} {x : AV × List Blk} (h : (pSortP 2) (cN G Q N) args σ = some x) : L F_slices_SortFunc_Shoming_group_homing_group args σ = some x := lim_prim Q_mono (f := F_slices_SortFunc_Shoming_group_homing_group) rfl h
theorem go_homing_groups_2 {args : List AV} {σ : List Blk} {K : AV → List Blk → Prop} (hl : args.length = 2) (h : WK L ir_homing_groups_2.body (args ++ List.replicate 3 .und) none σ (EndsK ir_homing_groups_2 K)) : LX L F_homing_groups_2 args σ K := lim_L (f := F_homing_groups_2) (m := 2) (k := 3) ir_homing_groups_2 rfl rfl rfl rfl rfl hl h
theorem go_word_Lex {args : List AV} {σ : List Blk} {K : AV → List Blk → Prop} (hl : args.length = 2) (h : WK L ir_word_Lex.body (args ++ List.replicate 1 .und) none σ (EndsK ir_word_Lex K)) : LX L F_word_Lex args σ K := lim_L (f := F_word_Lex) (m := 2) (k := 1) ir_word_Lex rfl rfl rfl rfl rfl hl h
theorem go_homing_open_1 {args : List AV} {σ : List Blk} {K : AV → List Blk → Prop} (hl : args.length = 1) (h : WK L ir_homing_open_1.body (args ++ List.replicate 2 .und) none σ (EndsK ir_homing_open_1 K)) : LX L F_homing_open_1 args σ K := lim_L (f := F_homing_open_1) (m := 1) (k := 2) ir_homing_open_1 rfl rfl rfl rfl rfl hl h
theorem go_equiv_search {args : List AV} {σ : List Blk} {K : AV → List Blk → Prop} (hl : args.length = 3) (h : WK L ir_equiv_search.body (args ++ List.replicate 16 .und) none σ (EndsK ir_equiv_search K)) : LX L F_equiv_search args σ K := lim_L (f := F_equiv_search) (m := 3) (k := 16) ir_equiv_search rfl rfl rfl rfl rfl hl h
theorem go_slices_Concat_Sint_int {args : List AV} {σ : List Blk} {K : AV → List Blk → Prop} (hl : args.length = 1) (h : WK L ir_slices_Concat_Sint_int.body (args ++ List.replicate 11 .und) none σ (EndsK ir_slices_Concat_Sint_int K)) : LX L F_slices_Concat_Sint_int args σ K := lim_L (f := F_slices_Concat_Sint_int) (m := 1) (k := 11) ir_slices_Concat_Sint_int rfl rfl rfl rfl rfl hl h
theorem go_ref13_run {args : List AV} {σ : List Blk} {K : AV → List Blk → Prop} (hl : args.length = 3) (h : WK L ir_ref13_run.body (args ++ List.replicate 5 .und) none σ (EndsK ir_ref13_run K)) : LX L F_ref13_run args σ K := lim_L (f := F_ref13_run) (m := 3) (k := 5) ir_ref13_run rfl rfl rfl rfl rfl hl h
theorem go_ref01_Lex {args : List AV} {σ : List Blk} {K : AV → List Blk → Prop} (hl : args.length = 2) (h : WK L ir_ref01_Lex.body (args ++ List.replicate 3 .und) none σ (EndsK ir_ref01_Lex K)) : LX L F_ref01_Lex args σ K := lim_L (f := F_ref01_Lex) (m := 2) (k := 3) ir_ref01_Lex rfl rfl rfl rfl rfl hl h
theorem go_ref09_first {args : List AV} {σ : List Blk} {K : AV → List Blk → Prop} (hl : args.length = 4) (h : WK L ir_ref09_first.body (args ++ List.replicate 12 .und) none σ (EndsK ir_ref09_first K)) : LX L F_ref09_first args σ K := lim_L (f := F_ref09_first) (m := 4) (k := 12) ir_ref09_first rfl rfl rfl rfl rfl hl h
theorem go_ref01_Check {args : List AV} {σ : List Blk} {K : AV → List Blk → Prop} (hl : args.length = 2) (h : WK L ir_ref01_Check.body (args ++ List.replicate 2 .und) none σ (EndsK ir_ref01_Check K)) : LX L F_ref01_Check args σ K := lim_L (f := F_ref01_Check) (m := 2) (k := 2) ir_ref01_Check rfl rfl rfl rfl rfl hl h
theorem go_ref06_Ints {args : List AV} {σ : List Blk} {K : AV → List Blk → Prop} (hl : args.length = 2) (h : WK L ir_ref06_Ints.body (args ++ List.replicate 2 .und) none σ (EndsK ir_ref06_Ints K)) : LX L F_ref06_Ints args σ K := lim_L (f := F_ref06_Ints) (m := 2) (k := 2) ir_ref06_Ints rfl rfl rfl rfl rfl hl h
theorem go_ref08_Min {args : List AV} {σ : List Blk} {K : AV → List Blk → Prop} (hl : args.length = 1) (h : WK L ir_ref08_Min.body (args ++ List.replicate 14 .und) none σ (EndsK ir_ref08_Min K)) : LX L F_ref08_Min args σ K := lim_L (f := F_ref08_Min) (m := 1) (k := 14) ir_ref08_Min rfl rfl rfl rfl rfl hl h
theorem go_word_permitted {args : List AV} {σ : List Blk} {K : AV → List Blk → Prop} (hl : args.length = 1) (h : WK L ir_word_permitted.body (args ++ List.replicate 1 .und) none σ (EndsK ir_word_permitted K)) : LX L F_word_permitted args σ K := lim_L (f := F_word_permitted) (m := 1) (k := 1) ir_word_permitted rfl rfl rfl rfl rfl hl h
theorem go_slices_ContainsFunc_Sint_int {args : List AV} {σ : List Blk} {K : AV → List Blk → Prop} (hl : args.length = 2) (h : WK L ir_slices_ContainsFunc_Sint_int.body (args ++ List.replicate 1 .und) none σ (EndsK ir_slices_ContainsFunc_Sint_int K)) : LX L F_slices_ContainsFunc_Sint_int args σ K := lim_L (f := F_slices_ContainsFunc_Sint_int) (m := 2) (k := 1) ir_slices_ContainsFunc_Sint_int rfl rfl rfl rfl rfl hl h
theorem go_word_Check_1 {args : List AV} {σ : List Blk} {K : AV → List Blk → Prop} (hl : args.length = 2) (h : WK L ir_word_Check_1.body (args ++ List.replicate 1 .und) none σ (EndsK ir_word_Check_1 K)) : LX L F_word_Check_1 args σ K := lim_L (f := F_word_Check_1) (m := 2) (k := 1) ir_word_Check_1 rfl rfl rfl rfl rfl hl h
theorem go_mealy_machine_move {args : List AV} {σ : List Blk} {K : AV → List Blk → Prop} (hl : args.length = 3) (h : WK L ir_mealy_machine_move.body (args ++ List.replicate 3 .und) none σ (EndsK ir_mealy_machine_move K)) : LX L F_mealy_machine_move args σ K := lim_L (f := F_mealy_machine_move) (m := 3) (k := 3) ir_mealy_machine_move rfl rfl rfl rfl rfl hl h
theorem go_mealy_Trim {args : List AV} {σ : List Blk} {K : AV → List Blk → Prop} (hl : args.length = 1) (h : WK L ir_mealy_Trim.body (args ++ List.replicate 22 .und) none σ (EndsK ir_mealy_Trim K)) : LX L F_mealy_Trim args σ K := lim_L (f := F_mealy_Trim) (m := 1) (k := 22) ir_mealy_Trim rfl rfl rfl rfl rfl hl h
theorem go_minimize_Classes {args : List AV} {σ : List Blk} {K : AV → List Blk → Prop} (hl : args.length = 1) (h : WK L ir_minimize_Classes.body (args ++ List.replicate 3 .und) none σ (EndsK ir_minimize_Classes K)) : LX L F_minimize_Classes args σ K := lim_L (f := F_minimize_Classes) (m := 1) (k := 3) ir_minimize_Classes rfl rfl rfl rfl rfl hl h
theorem go_slices_BinarySearch_Sint_int {args : List AV} {σ : List Blk} {K : AV → List Blk → Prop} (hl : args.length = 2) (h : WK L ir_slices_BinarySearch_Sint_int.body (args ++ List.replicate 6 .und) none σ (EndsK ir_slices_BinarySearch_Sint_int K)) : LX L F_slices_BinarySearch_Sint_int args σ K := lim_L (f := F_slices_BinarySearch_Sint_int) (m := 2) (k := 6) ir_slices_BinarySearch_Sint_int rfl rfl rfl rfl rfl hl h
theorem go_slices_Compare_Sint_int {args : List AV} {σ : List Blk} {K : AV → List Blk → Prop} (hl : args.length = 2) (h : WK L ir_slices_Compare_Sint_int.body (args ++ List.replicate 8 .und) none σ (EndsK ir_slices_Compare_Sint_int K)) : LX L F_slices_Compare_Sint_int args σ K := lim_L (f := F_slices_Compare_Sint_int) (m := 2) (k := 8) ir_slices_Compare_Sint_int rfl rfl rfl rfl rfl hl h
theorem go_slices_Grow_Sint_int {N : Nat} {args : List AV} {σ : List Blk} {x : AV × List Blk} (h : pGrow (cN G Q N) args σ = some x) : L F_slices_Grow_Sint_int args σ = some x := lim_prim Q_mono (f := F_slices_Grow_Sint_int) rfl h
theorem go_ref01_Common {args : List AV} {σ : List Blk} {K : AV → List Blk → Prop} (hl : args.length = 2) (h : WK L ir_ref01_Common.body (args ++ List.replicate 2 .und) none σ (EndsK ir_ref01_Common K)) : LX L F_ref01_Common args σ K := lim_L (f := F_ref01_Common) (m := 2) (k := 2) ir_ref01_Common rfl rfl rfl rfl rfl hl h
theorem go_ref09_Extended {args : List AV} {σ : List Blk} {K : AV → List Blk → Prop} (hl : args.length = 2) (h : WK L ir_ref09_Extended.body (args ++ List.replicate 2 .und) none σ (EndsK ir_ref09_Extended K)) : LX L F_ref09_Extended args σ K := lim_L (f := F_ref09_Extended) (m := 2) (k := 2) ir_ref09_Extended rfl rfl rfl rfl rfl hl h
theorem go_ref01_Size {args : List AV} {σ : List Blk} {K : AV → List Blk → Prop} (hl : args.length = 1) (h : WK L ir_ref01_Size.body (args ++ List.replicate 1 .und) none σ (EndsK ir_ref01_Size K)) : LX L F_ref01_Size args σ K := lim_L (f := F_ref01_Size) (m := 1) (k := 1) ir_ref01_Size rfl rfl rfl rfl rfl hl h
theorem go_ref08_Classes {args : List AV} {σ : List Blk} {K : AV → List Blk → Prop} (hl : args.length = 1) (h : WK L ir_ref08_Classes.body (args ++ List.replicate 3 .und) none σ (EndsK ir_ref08_Classes K)) : LX L F_ref08_Classes args σ K := lim_L (f := F_ref08_Classes) (m := 1) (k := 3) ir_ref08_Classes rfl rfl rfl rfl rfl hl h
theorem go_slices_IndexFunc_Sint_int {args : List AV} {σ : List Blk} {K : AV → List Blk → Prop} (hl : args.length = 2) (h : WK L ir_slices_IndexFunc_Sint_int.body (args ++ List.replicate 4 .und) none σ (EndsK ir_slices_IndexFunc_Sint_int K)) : LX L F_slices_IndexFunc_Sint_int args σ K := lim_L (f := F_slices_IndexFunc_Sint_int) (m := 2) (k := 4) ir_slices_IndexFunc_Sint_int rfl rfl rfl rfl rfl hl h
theorem go_slices_Clone_Sint_int {args : List AV} {v : AV} (h : pClone1 (cN G Q 0) args = some v) : L F_slices_Clone_Sint_int args [] = some (v, []) := lim_prim Q_mono (N := 0) (f := F_slices_Clone_Sint_int) rfl (by simp only [vPrim, h, Option.map_some])
theorem go_minimize_Partition {args : List AV} {σ : List Blk} {K : AV → List Blk → Prop} (hl : args.length = 2) (h : WK L ir_minimize_Partition.body (args ++ List.replicate 5 .und) none σ (EndsK ir_minimize_Partition K)) : LX L F_minimize_Partition args σ K := lim_L (f := F_minimize_Partition) (m := 2) (k := 5) ir_minimize_Partition rfl rfl rfl rfl rfl hl h
theorem go_cmp_Less_int {args : List AV} {σ : List Blk} {K : AV → List Blk → Prop} (hl : args.length = 2) (h : WK L ir_cmp_Less_int.body (args ++ List.replicate 1 .und) none σ (EndsK ir_cmp_Less_int K)) : LX L F_cmp_Less_int args σ K := lim_L (f := F_cmp_Less_int) (m := 2) (k := 1) ir_cmp_Less_int rfl rfl rfl rfl rfl hl h
theorem go_slices_isNaN_int {args : List AV} {σ : List Blk} {K : AV → List Blk → Prop} (hl : args.length = 1) (h : WK L ir_slices_isNaN_int.body (args ++ List.replicate 1 .und) none σ (EndsK ir_slices_isNaN_int K)) : LX L F_slices_isNaN_int args σ K := lim_L (f := F_slices_isNaN_int) (m := 1) (k := 1) ir_slices_isNaN_int rfl rfl rfl rfl rfl hl h
theorem go_cmp_Compare_int {args : List AV} {σ : List Blk} {K : AV → List Blk → Prop} (hl : args.length = 2) (h : WK L ir_cmp_Compare_int.body (args ++ List.replicate 3 .und) none σ (EndsK ir_cmp_Compare_int K)) : LX L F_cmp_Compare_int args σ K := lim_L (f := F_cmp_Compare_int) (m := 2) (k := 3) ir_cmp_Compare_int rfl rfl rfl rfl rfl hl h
theorem go_ref08_Partition {args : List AV} {σ : List Blk} {K : AV → List Blk → Prop} (hl : args.length = 2) (h : WK L ir_ref08_Partition.body (args ++ List.replicate 6 .und) none σ (EndsK ir_ref08_Partition K)) : LX L F_ref08_Partition args σ K := lim_L (f := F_ref08_Partition) (m := 2) (k := 6) ir_ref08_Partition rfl rfl rfl rfl rfl hl h
theorem go_minimize_refine {args : List AV} {σ : List Blk} {K : AV → List Blk → Prop} (hl : args.length = 2) (h : WK L ir_minimize_refine.body (args ++ List.replicate 10 .und) none σ (EndsK ir_minimize_refine K)) : LX L F_minimize_refine args σ K := lim_L (f := F_minimize_refine) (m := 2) (k := 10) ir_minimize_refine rfl rfl rfl rfl rfl hl h
theorem go_cmp_isNaN_int {args : List AV} {σ : List Blk} {K : AV → List Blk → Prop} (hl : args.length = 1) (h : WK L ir_cmp_isNaN_int.body (args ++ List.replicate 1 .und) none σ (EndsK ir_cmp_isNaN_int K)) : LX L F_cmp_isNaN_int args σ K := lim_L (f := F_cmp_isNaN_int) (m := 1) (k := 1) ir_cmp_isNaN_int rfl rfl rfl rfl rfl hl h
theorem go_ref08_finer {args : List AV} {σ : List Blk} {K : AV → List Blk → Prop} (hl : args.length = 2) (h : WK L ir_ref08_finer.body (args ++ List.replicate 9 .und) none σ (EndsK ir_ref08_finer K)) : LX L F_ref08_finer args σ K := lim_L (f := F_ref08_finer) (m := 2) (k := 9) ir_ref08_finer rfl rfl rfl rfl rfl hl h
theorem go_minimize_next {args : List AV} {σ : List Blk} {K : AV → List Blk → Prop} (hl : args.length = 2) (h : WK L ir_minimize_next.body (args ++ List.replicate 14 .und) none σ (EndsK ir_minimize_next K)) : LX L F_minimize_next args σ K := lim_L (f := F_minimize_next) (m := 2) (k := 14) ir_minimize_next rfl rfl rfl rfl rfl hl h
end Ab
