/- Each small text is the program's function. Condition: none. -/
import Derived.Test.YtkedjdfangojmaaAbSort
import Derived.Test.YtkedjdfangojmaaAbGrow
import Derived.Test.YtkedjdfangojmaaProg
import Derived.KernelRfl
import Derived.Test.YtkedjdfangojmaaAbCloneS
import Derived.Test.YtkedjdfangojmaaIr
set_option linter.all false
namespace Go.Proofs
open Go.Shelf
def Try.growL_ren : Go.Shelf.Ren := ⟨fun | 4 => 93 | n => n, fun | 22 => 37 | 25 => 3 | 3 => 3 | 4 => 4 | 9 => 9 | 20 => 20 | 0 => 0 | n => n, fun | n => n⟩
theorem Try.growL : Go.Proofs.Lays8.n4 Try.prog Try.growL_ren := {
  mixed := by kernel_rfl
  f4 := ⟨Try.f93.name, by decide, Try.func93.trans (congrArg some (by kernel_rfl))⟩
  t0 := Try.underlying0
  a0 := Try.isAgg0
  z0 := Try.sizeOf0
  v0 := Try.zeroValue0
  t3 := Try.underlying3
  a3 := Try.isAgg3
  z3 := Try.sizeOf3
  v3 := Try.zeroValue3
  t4 := Try.underlying4
  a4 := Try.isAgg4
  z4 := Try.sizeOf4
  v4 := Try.zeroValue4
  t9 := Try.underlying9
  a9 := Try.isAgg9
  z9 := Try.sizeOf9
  v9 := Try.zeroValue9
  t20 := Try.underlying20
  a20 := Try.isAgg20
  z20 := Try.sizeOf20
  v20 := Try.zeroValue20
  t22 := Try.underlying37
  a22 := Try.isAgg37
  z22 := Try.sizeOf37
  v22 := Try.zeroValue37 }

def Try.sortL_ren : Go.Shelf.Ren := ⟨fun | 6 => 86 | 15 => 100 | 14 => 99 | 28 => 111 | 29 => 112 | 20 => 103 | 21 => 104 | 22 => 105 | 23 => 106 | 24 => 107 | 25 => 108 | 26 => 109 | 27 => 110 | 46 => 114 | 47 => 115 | 48 => 116 | 49 => 117 | 50 => 118 | 57 => 119 | n => n, fun | 22 => 25 | 24 => 37 | 25 => 66 | 3 => 3 | 39 => 136 | 0 => 0 | 53 => 148 | 55 => 150 | 4 => 4 | 46 => 141 | 45 => 140 | 50 => 145 | 5 => 5 | 9 => 9 | 66 => 151 | 70 => 155 | 76 => 157 | 77 => 42 | n => n, fun | n => n⟩
theorem Try.sortL : Go.Proofs.SlLaysF.n6 Try.prog Try.sortL_ren := {
  mixed := by kernel_rfl
  f6 := ⟨Try.f86.name, by decide, Try.func86.trans (congrArg some (by kernel_rfl))⟩
  f14 := ⟨Try.f99.name, by decide, Try.func99.trans (congrArg some (by kernel_rfl))⟩
  f15 := Try.func100.trans (congrArg some (by kernel_rfl))
  f20 := ⟨Try.f103.name, by decide, Try.func103.trans (congrArg some (by kernel_rfl))⟩
  f21 := ⟨Try.f104.name, by decide, Try.func104.trans (congrArg some (by kernel_rfl))⟩
  f22 := ⟨Try.f105.name, by decide, Try.func105.trans (congrArg some (by kernel_rfl))⟩
  f23 := ⟨Try.f106.name, by decide, Try.func106.trans (congrArg some (by kernel_rfl))⟩
  f24 := ⟨Try.f107.name, by decide, Try.func107.trans (congrArg some (by kernel_rfl))⟩
  f25 := ⟨Try.f108.name, by decide, Try.func108.trans (congrArg some (by kernel_rfl))⟩
  f26 := ⟨Try.f109.name, by decide, Try.func109.trans (congrArg some (by kernel_rfl))⟩
  f27 := ⟨Try.f110.name, by decide, Try.func110.trans (congrArg some (by kernel_rfl))⟩
  f28 := Try.func111.trans (congrArg some (by kernel_rfl))
  f29 := Try.func112.trans (congrArg some (by kernel_rfl))
  f46 := ⟨Try.f114.name, by decide, Try.func114.trans (congrArg some (by kernel_rfl))⟩
  f47 := Try.func115.trans (congrArg some (by kernel_rfl))
  f48 := Try.func116.trans (congrArg some (by kernel_rfl))
  f49 := ⟨Try.f117.name, by decide, Try.func117.trans (congrArg some (by kernel_rfl))⟩
  f50 := ⟨Try.f118.name, by decide, Try.func118.trans (congrArg some (by kernel_rfl))⟩
  f57 := ⟨Try.f119.name, by decide, Try.func119.trans (congrArg some (by kernel_rfl))⟩
  t0 := Try.underlying0
  a0 := Try.isAgg0
  z0 := Try.sizeOf0
  v0 := Try.zeroValue0
  t3 := Try.underlying3
  a3 := Try.isAgg3
  z3 := Try.sizeOf3
  v3 := Try.zeroValue3
  t4 := Try.underlying4
  a4 := Try.isAgg4
  z4 := Try.sizeOf4
  v4 := Try.zeroValue4
  t5 := Try.underlying5
  a5 := Try.isAgg5
  z5 := Try.sizeOf5
  v5 := Try.zeroValue5
  t9 := Try.underlying9
  a9 := Try.isAgg9
  z9 := Try.sizeOf9
  v9 := Try.zeroValue9
  t22 := Try.underlying25
  a22 := Try.isAgg25
  z22 := Try.sizeOf25
  v22 := Try.zeroValue25
  a24 := Try.isAgg37
  z24 := Try.sizeOf37
  t25 := Try.underlying66
  a25 := Try.isAgg66
  z25 := Try.sizeOf66
  v25 := Try.zeroValue66
  t39 := Try.underlying136
  a39 := Try.isAgg136
  z39 := Try.sizeOf136
  v39 := Try.zeroValue136
  t45 := Try.underlying140
  a45 := Try.isAgg140
  z45 := Try.sizeOf140
  v45 := Try.zeroValue140
  t46 := Try.underlying141
  a46 := Try.isAgg141
  z46 := Try.sizeOf141
  v46 := Try.zeroValue141
  t50 := Try.underlying145
  a50 := Try.isAgg145
  z50 := Try.sizeOf145
  v50 := Try.zeroValue145
  t53 := Try.underlying148
  a53 := Try.isAgg148
  z53 := Try.sizeOf148
  v53 := Try.zeroValue148
  t55 := Try.underlying150
  a55 := Try.isAgg150
  z55 := Try.sizeOf150
  v55 := Try.zeroValue150
  t66 := Try.underlying151
  a66 := Try.isAgg151
  z66 := Try.sizeOf151
  v66 := Try.zeroValue151
  t70 := Try.underlying155
  a70 := Try.isAgg155
  z70 := Try.sizeOf155
  v70 := Try.zeroValue155
  t76 := Try.underlying157
  a76 := Try.isAgg157
  z76 := Try.sizeOf157
  v76 := Try.zeroValue157
  t77 := Try.underlying42
  a77 := Try.isAgg42
  z77 := Try.sizeOf42
  v77 := Try.zeroValue42 }

end Go.Proofs
namespace Ab
open Go Go.Proofs
theorem ok3 : okFn Try.prog 3 ir_law20_BatchPlans (sls 3) = true := by kernel_rfl
theorem ok4 : okFn Try.prog 4 ir_law20_BatchCosts (sls 4) = true := by kernel_rfl
theorem ok5 : okFn Try.prog 5 ir_law20_BatchChains (sls 5) = true := by kernel_rfl
theorem ok6 : okFn Try.prog 6 ir_law20_BatchComplete (sls 6) = true := by kernel_rfl
theorem ok7 : okFn Try.prog 7 ir_law20_BatchSchedules (sls 7) = true := by kernel_rfl
theorem ok8 : okFn Try.prog 8 ir_law20_BatchGroups (sls 8) = true := by kernel_rfl
theorem ok9 : okFn Try.prog 9 ir_ref17_Great (sls 9) = true := by kernel_rfl
theorem ok10 : okFn Try.prog 10 ir_ref02_Great (sls 10) = true := by kernel_rfl
theorem ok11 : okFn Try.prog 11 ir_ref16_Valid (sls 11) = true := by kernel_rfl
theorem ok12 : okFn Try.prog 12 ir_law20_awake (sls 12) = true := by kernel_rfl
theorem ok13 : okFn Try.prog 13 ir_batch_Plan (sls 13) = true := by kernel_rfl
theorem ok14 : okFn Try.prog 14 ir_ref20_Plan (sls 14) = true := by kernel_rfl
theorem ok15 : okFn Try.prog 15 ir_ref01_SameWords (sls 15) = true := by kernel_rfl
theorem ok16 : okFn Try.prog 16 ir_batch_Cost (sls 16) = true := by kernel_rfl
theorem ok17 : okFn Try.prog 17 ir_ref20_Cost (sls 17) = true := by kernel_rfl
theorem ok18 : okFn Try.prog 18 ir_batch_Groups (sls 18) = true := by kernel_rfl
theorem ok19 : okFn Try.prog 19 ir_ref20_Groups (sls 19) = true := by kernel_rfl
theorem ok20 : okFn Try.prog 20 ir_ref20_SameGroups (sls 20) = true := by kernel_rfl
theorem ok21 : okFn Try.prog 21 ir_ref19_Great (sls 21) = true := by kernel_rfl
theorem ok22 : okFn Try.prog 22 ir_batch_Chain (sls 22) = true := by kernel_rfl
theorem ok23 : okFn Try.prog 23 ir_ref20_Chain (sls 23) = true := by kernel_rfl
theorem ok24 : okFn Try.prog 24 ir_ref20_SameMoves (sls 24) = true := by kernel_rfl
theorem ok25 : okFn Try.prog 25 ir_ref16_Of (sls 25) = true := by kernel_rfl
theorem ok26 : okFn Try.prog 26 ir_ref16_Answer (sls 26) = true := by kernel_rfl
theorem ok27 : okFn Try.prog 27 ir_ref02_Has (sls 27) = true := by kernel_rfl
theorem ok28 : okFn Try.prog 28 ir_ref01_Compare (sls 28) = true := by kernel_rfl
theorem ok29 : okFn Try.prog 29 ir_ref01_HasPrefix (sls 29) = true := by kernel_rfl
theorem ok30 : okFn Try.prog 30 ir_ref06_Traces (sls 30) = true := by kernel_rfl
theorem ok31 : okFn Try.prog 31 ir_ref16_All (sls 31) = true := by kernel_rfl
theorem ok32 : okFn Try.prog 32 ir_ref02_Maximal (sls 32) = true := by kernel_rfl
theorem ok33 : okFn Try.prog 33 ir_ref06_Valid (sls 33) = true := by kernel_rfl
theorem ok34 : okFn Try.prog 34 ir_ref01_Check (sls 34) = true := by kernel_rfl
theorem ok35 : okFn Try.prog 35 ir_ref01_Same (sls 35) = true := by kernel_rfl
theorem ok36 : okFn Try.prog 36 ir_ref16_Proper (sls 36) = true := by kernel_rfl
theorem ok37 : okFn Try.prog 37 ir_ref16_apart (sls 37) = true := by kernel_rfl
theorem ok38 : okFn Try.prog 38 ir_word_Check (sls 38) = true := by kernel_rfl
theorem ok39 : okFn Try.prog 39 ir_observe_Answer (sls 39) = true := by kernel_rfl
theorem ok40 : okFn Try.prog 40 ir_wordset_Maximal (sls 40) = true := by kernel_rfl
theorem ok41 : okFn Try.prog 41 ir_ref20_check (sls 41) = true := by kernel_rfl
theorem ok42 : okFn Try.prog 42 ir_device_Cost (sls 42) = true := by kernel_rfl
theorem ok43 : okFn Try.prog 43 ir_ref19_Cost (sls 43) = true := by kernel_rfl
theorem ok44 : okFn Try.prog 44 ir_word_Join (sls 44) = true := by kernel_rfl
theorem ok45 : okFn Try.prog 45 ir_batch_first (sls 45) = true := by kernel_rfl
theorem ok46 : okFn Try.prog 46 ir_mealy_Valid (sls 46) = true := by kernel_rfl
theorem ok47 : okFn Try.prog 47 ir_batch_fits (sls 47) = true := by kernel_rfl
theorem ok48 : okFn Try.prog 48 ir_cover_Path (sls 48) = true := by kernel_rfl
theorem ok49 : okFn Try.prog 49 ir_batch_steps (sls 49) = true := by kernel_rfl
theorem ok50 : okFn Try.prog 50 ir_mealy_From (sls 50) = true := by kernel_rfl
theorem ok51 : okFn Try.prog 51 ir_ref19_Fits (sls 51) = true := by kernel_rfl
theorem ok52 : okFn Try.prog 52 ir_ref10_Path (sls 52) = true := by kernel_rfl
theorem ok53 : okFn Try.prog 53 ir_ref20_steps (sls 53) = true := by kernel_rfl
theorem ok54 : okFn Try.prog 54 ir_ref06_Outs (sls 54) = true := by kernel_rfl
theorem ok55 : okFn Try.prog 55 ir_ref01_Join (sls 55) = true := by kernel_rfl
theorem ok56 : okFn Try.prog 56 ir_ref01_Lex (sls 56) = true := by kernel_rfl
theorem ok57 : okFn Try.prog 57 ir_ref01_Common (sls 57) = true := by kernel_rfl
theorem ok58 : okFn Try.prog 58 ir_ref16_Add (sls 58) = true := by kernel_rfl
theorem ok59 : okFn Try.prog 59 ir_ref02_Sorted (sls 59) = true := by kernel_rfl
theorem ok60 : okFn Try.prog 60 ir_ref06_row (sls 60) = true := by kernel_rfl
theorem ok61 : okFn Try.prog 61 ir_ref01_Size (sls 61) = true := by kernel_rfl
theorem ok62 : okFn Try.prog 62 ir_ref16_Differ (sls 62) = true := by kernel_rfl
theorem ok63 : okFn Try.prog 63 ir_word_permitted (sls 63) = true := by kernel_rfl
theorem ok64 : okFn Try.prog 64 ir_slices_ContainsFunc_Sint_int (sls 64) = true := by kernel_rfl
theorem ok65 : okFn Try.prog 65 ir_word_Check_1 (sls 65) = true := by kernel_rfl
theorem ok66 : okFn Try.prog 66 ir_slices_IndexFunc_Sapi_Trace_api_Trace (sls 66) = true := by kernel_rfl
theorem ok67 : okFn Try.prog 67 ir_observe_Answer_1 (sls 67) = true := by kernel_rfl
theorem ok68 : okFn Try.prog 68 ir_word_HasPrefix (sls 68) = true := by kernel_rfl
theorem ok69 : okFn Try.prog 69 ir_slices_Clone_Sint_int (sls 69) = true := by kernel_rfl
theorem ok70 : okFn Try.prog 70 ir_wordset_ordered (sls 70) = true := by kernel_rfl
theorem ok71 : okFn Try.prog 71 ir_word_Lex (sls 71) = true := by kernel_rfl
theorem ok72 : okFn Try.prog 72 ir_wordset_Sorted (sls 72) = true := by kernel_rfl
theorem ok73 : okFn Try.prog 73 ir_device_costs (sls 73) = true := by kernel_rfl
theorem ok74 : okFn Try.prog 74 ir_ref19_costs (sls 74) = true := by kernel_rfl
theorem ok75 : okFn Try.prog 75 ir_slices_Concat_Sint_int (sls 75) = true := by kernel_rfl
theorem ok76 : okFn Try.prog 76 ir_batch_fits_1 (sls 76) = true := by kernel_rfl
theorem ok77 : okFn Try.prog 77 ir_cover_places (sls 77) = true := by kernel_rfl
theorem ok78 : okFn Try.prog 78 ir_mealy_state (sls 78) = true := by kernel_rfl
theorem ok79 : okFn Try.prog 79 ir_mealy_runner_run (sls 79) = true := by kernel_rfl
theorem ok80 : okFn Try.prog 80 ir_ref10_Access (sls 80) = true := by kernel_rfl
theorem ok81 : okFn Try.prog 81 ir_ref16_add (sls 81) = true := by kernel_rfl
theorem ok82 : okFn Try.prog 82 ir_ref02_with (sls 82) = true := by kernel_rfl
theorem ok83 : okFn Try.prog 83 ir_slices_IndexFunc_Sint_int (sls 83) = true := by kernel_rfl
theorem ok84 : okFn Try.prog 84 ir_word_Common (sls 84) = true := by kernel_rfl
theorem ok85 : okFn Try.prog 85 ir_slices_Clone_SSint_Sint (sls 85) = true := by kernel_rfl
theorem ok87 : okFn Try.prog 87 ir_slices_CompactFunc_SSint_Sint (sls 87) = true := by kernel_rfl
theorem ok88 : okFn Try.prog 88 ir_wordset_ordered_1 (sls 88) = true := by kernel_rfl
theorem ok89 : okFn Try.prog 89 ir_slices_Compare_Sint_int (sls 89) = true := by kernel_rfl
theorem ok90 : okFn Try.prog 90 ir_word_Compare (sls 90) = true := by kernel_rfl
theorem ok91 : okFn Try.prog 91 ir_device_costs_1 (sls 91) = true := by kernel_rfl
theorem ok92 : okFn Try.prog 92 ir_device_outside (sls 92) = true := by kernel_rfl
theorem ok94 : okFn Try.prog 94 ir_mealy_machine_move (sls 94) = true := by kernel_rfl
theorem ok95 : okFn Try.prog 95 ir_ref10_has (sls 95) = true := by kernel_rfl
theorem ok96 : okFn Try.prog 96 ir_ref09_Extended (sls 96) = true := by kernel_rfl
theorem ok97 : okFn Try.prog 97 ir_ref16_copied (sls 97) = true := by kernel_rfl
theorem ok98 : okFn Try.prog 98 ir_ref02_place (sls 98) = true := by kernel_rfl
theorem ok99 : okFn Try.prog 99 ir_slices_pdqsortCmpFunc_Sint (sls 99) = true := by kernel_rfl
theorem ok100 : okFn Try.prog 100 ir_math_bits_Len (sls 100) = true := by kernel_rfl
theorem ok101 : okFn Try.prog 101 ir_cmp_Compare_int (sls 101) = true := by kernel_rfl
theorem ok102 : okFn Try.prog 102 ir_cmp_Or_int (sls 102) = true := by kernel_rfl
theorem ok103 : okFn Try.prog 103 ir_slices_insertionSortCmpFunc_Sint (sls 103) = true := by kernel_rfl
theorem ok104 : okFn Try.prog 104 ir_slices_heapSortCmpFunc_Sint (sls 104) = true := by kernel_rfl
theorem ok105 : okFn Try.prog 105 ir_slices_breakPatternsCmpFunc_Sint (sls 105) = true := by kernel_rfl
theorem ok106 : okFn Try.prog 106 ir_slices_choosePivotCmpFunc_Sint (sls 106) = true := by kernel_rfl
theorem ok107 : okFn Try.prog 107 ir_slices_reverseRangeCmpFunc_Sint (sls 107) = true := by kernel_rfl
theorem ok108 : okFn Try.prog 108 ir_slices_partialInsertionSortCmpFunc_Sint (sls 108) = true := by kernel_rfl
theorem ok109 : okFn Try.prog 109 ir_slices_partitionEqualCmpFunc_Sint (sls 109) = true := by kernel_rfl
theorem ok110 : okFn Try.prog 110 ir_slices_partitionCmpFunc_Sint (sls 110) = true := by kernel_rfl
theorem ok111 : okFn Try.prog 111 ir_math_bits_Len32 (sls 111) = true := by kernel_rfl
theorem ok112 : okFn Try.prog 112 ir_math_bits_Len64 (sls 112) = true := by kernel_rfl
theorem ok113 : okFn Try.prog 113 ir_cmp_isNaN_int (sls 113) = true := by kernel_rfl
theorem ok114 : okFn Try.prog 114 ir_slices_siftDownCmpFunc_Sint (sls 114) = true := by kernel_rfl
theorem ok115 : okFn Try.prog 115 ir_slices_nextPowerOfTwo (sls 115) = true := by kernel_rfl
theorem ok116 : okFn Try.prog 116 ir_slices_xorshift_Next (sls 116) = true := by kernel_rfl
theorem ok117 : okFn Try.prog 117 ir_slices_medianAdjacentCmpFunc_Sint (sls 117) = true := by kernel_rfl
theorem ok118 : okFn Try.prog 118 ir_slices_medianCmpFunc_Sint (sls 118) = true := by kernel_rfl
theorem ok119 : okFn Try.prog 119 ir_slices_order2CmpFunc_Sint (sls 119) = true := by kernel_rfl
theorem okG : ∀ f fn, G f = some fn → ∃ sl, okFn Try.prog f fn sl = true := by
  intro f fn h
  unfold G at h
  split at h
  · cases h; exact ⟨_, ok3⟩
  · cases h; exact ⟨_, ok4⟩
  · cases h; exact ⟨_, ok5⟩
  · cases h; exact ⟨_, ok6⟩
  · cases h; exact ⟨_, ok7⟩
  · cases h; exact ⟨_, ok8⟩
  · cases h; exact ⟨_, ok9⟩
  · cases h; exact ⟨_, ok10⟩
  · cases h; exact ⟨_, ok11⟩
  · cases h; exact ⟨_, ok12⟩
  · cases h; exact ⟨_, ok13⟩
  · cases h; exact ⟨_, ok14⟩
  · cases h; exact ⟨_, ok15⟩
  · cases h; exact ⟨_, ok16⟩
  · cases h; exact ⟨_, ok17⟩
  · cases h; exact ⟨_, ok18⟩
  · cases h; exact ⟨_, ok19⟩
  · cases h; exact ⟨_, ok20⟩
  · cases h; exact ⟨_, ok21⟩
  · cases h; exact ⟨_, ok22⟩
  · cases h; exact ⟨_, ok23⟩
  · cases h; exact ⟨_, ok24⟩
  · cases h; exact ⟨_, ok25⟩
  · cases h; exact ⟨_, ok26⟩
  · cases h; exact ⟨_, ok27⟩
  · cases h; exact ⟨_, ok28⟩
  · cases h; exact ⟨_, ok29⟩
  · cases h; exact ⟨_, ok30⟩
  · cases h; exact ⟨_, ok31⟩
  · cases h; exact ⟨_, ok32⟩
  · cases h; exact ⟨_, ok33⟩
  · cases h; exact ⟨_, ok34⟩
  · cases h; exact ⟨_, ok35⟩
  · cases h; exact ⟨_, ok36⟩
  · cases h; exact ⟨_, ok37⟩
  · cases h; exact ⟨_, ok38⟩
  · cases h; exact ⟨_, ok39⟩
  · cases h; exact ⟨_, ok40⟩
  · cases h; exact ⟨_, ok41⟩
  · cases h; exact ⟨_, ok42⟩
  · cases h; exact ⟨_, ok43⟩
  · cases h; exact ⟨_, ok44⟩
  · cases h; exact ⟨_, ok45⟩
  · cases h; exact ⟨_, ok46⟩
  · cases h; exact ⟨_, ok47⟩
  · cases h; exact ⟨_, ok48⟩
  · cases h; exact ⟨_, ok49⟩
  · cases h; exact ⟨_, ok50⟩
  · cases h; exact ⟨_, ok51⟩
  · cases h; exact ⟨_, ok52⟩
  · cases h; exact ⟨_, ok53⟩
  · cases h; exact ⟨_, ok54⟩
  · cases h; exact ⟨_, ok55⟩
  · cases h; exact ⟨_, ok56⟩
  · cases h; exact ⟨_, ok57⟩
  · cases h; exact ⟨_, ok58⟩
  · cases h; exact ⟨_, ok59⟩
  · cases h; exact ⟨_, ok60⟩
  · cases h; exact ⟨_, ok61⟩
  · cases h; exact ⟨_, ok62⟩
  · cases h; exact ⟨_, ok63⟩
  · cases h; exact ⟨_, ok64⟩
  · cases h; exact ⟨_, ok65⟩
  · cases h; exact ⟨_, ok66⟩
  · cases h; exact ⟨_, ok67⟩
  · cases h; exact ⟨_, ok68⟩
  · cases h; exact ⟨_, ok69⟩
  · cases h; exact ⟨_, ok70⟩
  · cases h; exact ⟨_, ok71⟩
  · cases h; exact ⟨_, ok72⟩
  · cases h; exact ⟨_, ok73⟩
  · cases h; exact ⟨_, ok74⟩
  · cases h; exact ⟨_, ok75⟩
  · cases h; exact ⟨_, ok76⟩
  · cases h; exact ⟨_, ok77⟩
  · cases h; exact ⟨_, ok78⟩
  · cases h; exact ⟨_, ok79⟩
  · cases h; exact ⟨_, ok80⟩
  · cases h; exact ⟨_, ok81⟩
  · cases h; exact ⟨_, ok82⟩
  · cases h; exact ⟨_, ok83⟩
  · cases h; exact ⟨_, ok84⟩
  · cases h; exact ⟨_, ok85⟩
  · cases h; exact ⟨_, ok87⟩
  · cases h; exact ⟨_, ok88⟩
  · cases h; exact ⟨_, ok89⟩
  · cases h; exact ⟨_, ok90⟩
  · cases h; exact ⟨_, ok91⟩
  · cases h; exact ⟨_, ok92⟩
  · cases h; exact ⟨_, ok94⟩
  · cases h; exact ⟨_, ok95⟩
  · cases h; exact ⟨_, ok96⟩
  · cases h; exact ⟨_, ok97⟩
  · cases h; exact ⟨_, ok98⟩
  · cases h; exact ⟨_, ok99⟩
  · cases h; exact ⟨_, ok100⟩
  · cases h; exact ⟨_, ok101⟩
  · cases h; exact ⟨_, ok102⟩
  · cases h; exact ⟨_, ok103⟩
  · cases h; exact ⟨_, ok104⟩
  · cases h; exact ⟨_, ok105⟩
  · cases h; exact ⟨_, ok106⟩
  · cases h; exact ⟨_, ok107⟩
  · cases h; exact ⟨_, ok108⟩
  · cases h; exact ⟨_, ok109⟩
  · cases h; exact ⟨_, ok110⟩
  · cases h; exact ⟨_, ok111⟩
  · cases h; exact ⟨_, ok112⟩
  · cases h; exact ⟨_, ok113⟩
  · cases h; exact ⟨_, ok114⟩
  · cases h; exact ⟨_, ok115⟩
  · cases h; exact ⟨_, ok116⟩
  · cases h; exact ⟨_, ok117⟩
  · cases h; exact ⟨_, ok118⟩
  · cases h; exact ⟨_, ok119⟩
  · cases h
theorem mixed : Try.prog.follows .mixedOrders = true := by kernel_rfl
theorem prim69 : PrimOk Try.prog 69 (vPrim pClone1) := clone_ok' (t := 4) (sl := sls 69) mixed ok69
theorem prim85 : PrimOk Try.prog 85 pCloneS := cloneS_ok (t := 4) (sl := sls 85) mixed ok85
theorem prim86 : PrimOk Try.prog 86 pSort := sort_ok (ρ := Try.sortL_ren) Try.sortL rfl (by kernel_rfl)
theorem prim93 : PrimOk Try.prog 93 pGrow := grow_ok (ρ := Try.growL_ren) Try.growL rfl (by kernel_rfl) (by kernel_rfl)
theorem okQ : ∀ f p, Q f = some p → PrimOk Try.prog f p := by
  intro f p h
  unfold Q at h
  split at h
  · cases h; exact prim69
  · cases h; exact prim85
  · cases h; exact prim86
  · cases h; exact prim93
  · cases h
theorem L_ok : CallOk Try.prog L := by
  intro f args σ r σ' h
  obtain ⟨N, hN⟩ := lim_ex h
  exact (callN_ok mixed okG okQ N).1 f args σ r σ' hN
end Ab
