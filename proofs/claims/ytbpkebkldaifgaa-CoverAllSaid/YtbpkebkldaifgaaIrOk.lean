/- Each small text is the program's function. Condition: none. -/
import Derived.Test.YtbpkebkldaifgaaAbSort
import Derived.Test.YtbpkebkldaifgaaAbGrow
import Derived.Test.YtbpkebkldaifgaaProg
import Derived.KernelRfl
import Derived.Test.YtbpkebkldaifgaaAbCloneS
import Derived.Test.YtbpkebkldaifgaaIr
set_option linter.all false
namespace Go.Proofs
open Go.Shelf
def Try.growL_ren : Go.Shelf.Ren := ⟨fun | 4 => 60 | n => n, fun | 22 => 27 | 25 => 3 | 3 => 3 | 4 => 4 | 9 => 9 | 20 => 20 | 0 => 0 | n => n, fun | n => n⟩
theorem Try.growL : Go.Proofs.Lays8.n4 Try.prog Try.growL_ren := {
  mixed := by kernel_rfl
  f4 := ⟨Try.f60.name, by decide, Try.func60.trans (congrArg some (by kernel_rfl))⟩
  t0 := Try.underlying0
  a0 := Try.isAgg0
  z0 := Try.sizeOf0
  v0 := Try.zeroValue0
  t3 := Try.underlying3
  a3 := Try.isAgg3
  z3 := Try.sizeOf3
  v3 := Try.zeroValue3
  t4 := Try.underlying4
  a4 := Try.isAgg4
  z4 := Try.sizeOf4
  v4 := Try.zeroValue4
  t9 := Try.underlying9
  a9 := Try.isAgg9
  z9 := Try.sizeOf9
  v9 := Try.zeroValue9
  t20 := Try.underlying20
  a20 := Try.isAgg20
  z20 := Try.sizeOf20
  v20 := Try.zeroValue20
  t22 := Try.underlying27
  a22 := Try.isAgg27
  z22 := Try.sizeOf27
  v22 := Try.zeroValue27 }

def Try.sortL_ren : Go.Shelf.Ren := ⟨fun | 6 => 62 | 15 => 68 | 14 => 67 | 28 => 77 | 29 => 78 | 20 => 69 | 21 => 70 | 22 => 71 | 23 => 72 | 24 => 73 | 25 => 74 | 26 => 75 | 27 => 76 | 46 => 79 | 47 => 80 | 48 => 81 | 49 => 82 | 50 => 83 | 57 => 84 | n => n, fun | 22 => 22 | 24 => 27 | 25 => 56 | 3 => 3 | 39 => 102 | 0 => 0 | 53 => 112 | 55 => 114 | 4 => 4 | 46 => 105 | 45 => 104 | 50 => 109 | 5 => 5 | 9 => 9 | 66 => 115 | 70 => 119 | 76 => 121 | 77 => 98 | n => n, fun | n => n⟩
theorem Try.sortL : Go.Proofs.SlLaysF.n6 Try.prog Try.sortL_ren := {
  mixed := by kernel_rfl
  f6 := ⟨Try.f62.name, by decide, Try.func62.trans (congrArg some (by kernel_rfl))⟩
  f14 := ⟨Try.f67.name, by decide, Try.func67.trans (congrArg some (by kernel_rfl))⟩
  f15 := Try.func68.trans (congrArg some (by kernel_rfl))
  f20 := ⟨Try.f69.name, by decide, Try.func69.trans (congrArg some (by kernel_rfl))⟩
  f21 := ⟨Try.f70.name, by decide, Try.func70.trans (congrArg some (by kernel_rfl))⟩
  f22 := ⟨Try.f71.name, by decide, Try.func71.trans (congrArg some (by kernel_rfl))⟩
  f23 := ⟨Try.f72.name, by decide, Try.func72.trans (congrArg some (by kernel_rfl))⟩
  f24 := ⟨Try.f73.name, by decide, Try.func73.trans (congrArg some (by kernel_rfl))⟩
  f25 := ⟨Try.f74.name, by decide, Try.func74.trans (congrArg some (by kernel_rfl))⟩
  f26 := ⟨Try.f75.name, by decide, Try.func75.trans (congrArg some (by kernel_rfl))⟩
  f27 := ⟨Try.f76.name, by decide, Try.func76.trans (congrArg some (by kernel_rfl))⟩
  f28 := Try.func77.trans (congrArg some (by kernel_rfl))
  f29 := Try.func78.trans (congrArg some (by kernel_rfl))
  f46 := ⟨Try.f79.name, by decide, Try.func79.trans (congrArg some (by kernel_rfl))⟩
  f47 := Try.func80.trans (congrArg some (by kernel_rfl))
  f48 := Try.func81.trans (congrArg some (by kernel_rfl))
  f49 := ⟨Try.f82.name, by decide, Try.func82.trans (congrArg some (by kernel_rfl))⟩
  f50 := ⟨Try.f83.name, by decide, Try.func83.trans (congrArg some (by kernel_rfl))⟩
  f57 := ⟨Try.f84.name, by decide, Try.func84.trans (congrArg some (by kernel_rfl))⟩
  t0 := Try.underlying0
  a0 := Try.isAgg0
  z0 := Try.sizeOf0
  v0 := Try.zeroValue0
  t3 := Try.underlying3
  a3 := Try.isAgg3
  z3 := Try.sizeOf3
  v3 := Try.zeroValue3
  t4 := Try.underlying4
  a4 := Try.isAgg4
  z4 := Try.sizeOf4
  v4 := Try.zeroValue4
  t5 := Try.underlying5
  a5 := Try.isAgg5
  z5 := Try.sizeOf5
  v5 := Try.zeroValue5
  t9 := Try.underlying9
  a9 := Try.isAgg9
  z9 := Try.sizeOf9
  v9 := Try.zeroValue9
  t22 := Try.underlying22
  a22 := Try.isAgg22
  z22 := Try.sizeOf22
  v22 := Try.zeroValue22
  a24 := Try.isAgg27
  z24 := Try.sizeOf27
  t25 := Try.underlying56
  a25 := Try.isAgg56
  z25 := Try.sizeOf56
  v25 := Try.zeroValue56
  t39 := Try.underlying102
  a39 := Try.isAgg102
  z39 := Try.sizeOf102
  v39 := Try.zeroValue102
  t45 := Try.underlying104
  a45 := Try.isAgg104
  z45 := Try.sizeOf104
  v45 := Try.zeroValue104
  t46 := Try.underlying105
  a46 := Try.isAgg105
  z46 := Try.sizeOf105
  v46 := Try.zeroValue105
  t50 := Try.underlying109
  a50 := Try.isAgg109
  z50 := Try.sizeOf109
  v50 := Try.zeroValue109
  t53 := Try.underlying112
  a53 := Try.isAgg112
  z53 := Try.sizeOf112
  v53 := Try.zeroValue112
  t55 := Try.underlying114
  a55 := Try.isAgg114
  z55 := Try.sizeOf114
  v55 := Try.zeroValue114
  t66 := Try.underlying115
  a66 := Try.isAgg115
  z66 := Try.sizeOf115
  v66 := Try.zeroValue115
  t70 := Try.underlying119
  a70 := Try.isAgg119
  z70 := Try.sizeOf119
  v70 := Try.zeroValue119
  t76 := Try.underlying121
  a76 := Try.isAgg121
  z76 := Try.sizeOf121
  v76 := Try.zeroValue121
  t77 := Try.underlying98
  a77 := Try.isAgg98
  z77 := Try.sizeOf98
  v77 := Try.zeroValue98 }

end Go.Proofs
namespace Ab
open Go Go.Proofs
theorem ok3 : okFn Try.prog 3 ir_law10_CoverPaths (sls 3) = true := by kernel_rfl
theorem ok4 : okFn Try.prog 4 ir_law10_CoverTours (sls 4) = true := by kernel_rfl
theorem ok5 : okFn Try.prog 5 ir_law10_CoverCounts (sls 5) = true := by kernel_rfl
theorem ok6 : okFn Try.prog 6 ir_law10_CoverAll (sls 6) = true := by kernel_rfl
theorem ok7 : okFn Try.prog 7 ir_law10_CoverAccess (sls 7) = true := by kernel_rfl
theorem ok8 : okFn Try.prog 8 ir_law10_CoverFirst (sls 8) = true := by kernel_rfl
theorem ok9 : okFn Try.prog 9 ir_law08_Great (sls 9) = true := by kernel_rfl
theorem ok10 : okFn Try.prog 10 ir_law10_exampleHolds (sls 10) = true := by kernel_rfl
theorem ok11 : okFn Try.prog 11 ir_cover_Path (sls 11) = true := by kernel_rfl
theorem ok12 : okFn Try.prog 12 ir_ref10_Path (sls 12) = true := by kernel_rfl
theorem ok13 : okFn Try.prog 13 ir_ref08_Equal (sls 13) = true := by kernel_rfl
theorem ok14 : okFn Try.prog 14 ir_cover_Tour (sls 14) = true := by kernel_rfl
theorem ok15 : okFn Try.prog 15 ir_ref10_Tour (sls 15) = true := by kernel_rfl
theorem ok16 : okFn Try.prog 16 ir_cover_Covered (sls 16) = true := by kernel_rfl
theorem ok17 : okFn Try.prog 17 ir_ref10_Covered (sls 17) = true := by kernel_rfl
theorem ok18 : okFn Try.prog 18 ir_ref06_Valid (sls 18) = true := by kernel_rfl
theorem ok19 : okFn Try.prog 19 ir_cover_Access (sls 19) = true := by kernel_rfl
theorem ok20 : okFn Try.prog 20 ir_cover_Transitions (sls 20) = true := by kernel_rfl
theorem ok21 : okFn Try.prog 21 ir_ref10_Access (sls 21) = true := by kernel_rfl
theorem ok22 : okFn Try.prog 22 ir_cover_StateCover (sls 22) = true := by kernel_rfl
theorem ok23 : okFn Try.prog 23 ir_ref10_StateCover (sls 23) = true := by kernel_rfl
theorem ok24 : okFn Try.prog 24 ir_ref10_Transitions (sls 24) = true := by kernel_rfl
theorem ok25 : okFn Try.prog 25 ir_ref10_Same (sls 25) = true := by kernel_rfl
theorem ok26 : okFn Try.prog 26 ir_wordset_Prefixes (sls 26) = true := by kernel_rfl
theorem ok27 : okFn Try.prog 27 ir_law10_last (sls 27) = true := by kernel_rfl
theorem ok28 : okFn Try.prog 28 ir_word_Compare (sls 28) = true := by kernel_rfl
theorem ok29 : okFn Try.prog 29 ir_mealy_Valid (sls 29) = true := by kernel_rfl
theorem ok30 : okFn Try.prog 30 ir_cover_places (sls 30) = true := by kernel_rfl
theorem ok31 : okFn Try.prog 31 ir_cover_marks (sls 31) = true := by kernel_rfl
theorem ok32 : okFn Try.prog 32 ir_mealy_Reach (sls 32) = true := by kernel_rfl
theorem ok33 : okFn Try.prog 33 ir_cover_untaken (sls 33) = true := by kernel_rfl
theorem ok34 : okFn Try.prog 34 ir_ref10_none (sls 34) = true := by kernel_rfl
theorem ok35 : okFn Try.prog 35 ir_ref10_fresh (sls 35) = true := by kernel_rfl
theorem ok36 : okFn Try.prog 36 ir_word_Check (sls 36) = true := by kernel_rfl
theorem ok37 : okFn Try.prog 37 ir_cover_Covered_1 (sls 37) = true := by kernel_rfl
theorem ok38 : okFn Try.prog 38 ir_ref01_Check (sls 38) = true := by kernel_rfl
theorem ok39 : okFn Try.prog 39 ir_ref10_has (sls 39) = true := by kernel_rfl
theorem ok40 : okFn Try.prog 40 ir_ref06_row (sls 40) = true := by kernel_rfl
theorem ok41 : okFn Try.prog 41 ir_word_Join (sls 41) = true := by kernel_rfl
theorem ok42 : okFn Try.prog 42 ir_wordset_Sorted (sls 42) = true := by kernel_rfl
theorem ok43 : okFn Try.prog 43 ir_ref09_Extended (sls 43) = true := by kernel_rfl
theorem ok44 : okFn Try.prog 44 ir_wordset_parts (sls 44) = true := by kernel_rfl
theorem ok45 : okFn Try.prog 45 ir_wordset_Prefixes_1 (sls 45) = true := by kernel_rfl
theorem ok46 : okFn Try.prog 46 ir_mealy_From (sls 46) = true := by kernel_rfl
theorem ok47 : okFn Try.prog 47 ir_cmp_Or_int (sls 47) = true := by kernel_rfl
theorem ok48 : okFn Try.prog 48 ir_cmp_Compare_int (sls 48) = true := by kernel_rfl
theorem ok49 : okFn Try.prog 49 ir_slices_Compare_Sint_int (sls 49) = true := by kernel_rfl
theorem ok50 : okFn Try.prog 50 ir_word_permitted (sls 50) = true := by kernel_rfl
theorem ok51 : okFn Try.prog 51 ir_slices_ContainsFunc_Sint_int (sls 51) = true := by kernel_rfl
theorem ok52 : okFn Try.prog 52 ir_word_Check_1 (sls 52) = true := by kernel_rfl
theorem ok53 : okFn Try.prog 53 ir_ref01_Size (sls 53) = true := by kernel_rfl
theorem ok54 : okFn Try.prog 54 ir_slices_Concat_Sint_int (sls 54) = true := by kernel_rfl
theorem ok55 : okFn Try.prog 55 ir_wordset_ordered (sls 55) = true := by kernel_rfl
theorem ok56 : okFn Try.prog 56 ir_mealy_state (sls 56) = true := by kernel_rfl
theorem ok57 : okFn Try.prog 57 ir_mealy_runner_run (sls 57) = true := by kernel_rfl
theorem ok58 : okFn Try.prog 58 ir_cmp_isNaN_int (sls 58) = true := by kernel_rfl
theorem ok59 : okFn Try.prog 59 ir_slices_IndexFunc_Sint_int (sls 59) = true := by kernel_rfl
theorem ok61 : okFn Try.prog 61 ir_slices_Clone_SSint_Sint (sls 61) = true := by kernel_rfl
theorem ok63 : okFn Try.prog 63 ir_slices_CompactFunc_SSint_Sint (sls 63) = true := by kernel_rfl
theorem ok64 : okFn Try.prog 64 ir_wordset_ordered_1 (sls 64) = true := by kernel_rfl
theorem ok65 : okFn Try.prog 65 ir_slices_Clone_Sint_int (sls 65) = true := by kernel_rfl
theorem ok66 : okFn Try.prog 66 ir_mealy_machine_move (sls 66) = true := by kernel_rfl
theorem ok67 : okFn Try.prog 67 ir_slices_pdqsortCmpFunc_Sint (sls 67) = true := by kernel_rfl
theorem ok68 : okFn Try.prog 68 ir_math_bits_Len (sls 68) = true := by kernel_rfl
theorem ok69 : okFn Try.prog 69 ir_slices_insertionSortCmpFunc_Sint (sls 69) = true := by kernel_rfl
theorem ok70 : okFn Try.prog 70 ir_slices_heapSortCmpFunc_Sint (sls 70) = true := by kernel_rfl
theorem ok71 : okFn Try.prog 71 ir_slices_breakPatternsCmpFunc_Sint (sls 71) = true := by kernel_rfl
theorem ok72 : okFn Try.prog 72 ir_slices_choosePivotCmpFunc_Sint (sls 72) = true := by kernel_rfl
theorem ok73 : okFn Try.prog 73 ir_slices_reverseRangeCmpFunc_Sint (sls 73) = true := by kernel_rfl
theorem ok74 : okFn Try.prog 74 ir_slices_partialInsertionSortCmpFunc_Sint (sls 74) = true := by kernel_rfl
theorem ok75 : okFn Try.prog 75 ir_slices_partitionEqualCmpFunc_Sint (sls 75) = true := by kernel_rfl
theorem ok76 : okFn Try.prog 76 ir_slices_partitionCmpFunc_Sint (sls 76) = true := by kernel_rfl
theorem ok77 : okFn Try.prog 77 ir_math_bits_Len32 (sls 77) = true := by kernel_rfl
theorem ok78 : okFn Try.prog 78 ir_math_bits_Len64 (sls 78) = true := by kernel_rfl
theorem ok79 : okFn Try.prog 79 ir_slices_siftDownCmpFunc_Sint (sls 79) = true := by kernel_rfl
theorem ok80 : okFn Try.prog 80 ir_slices_nextPowerOfTwo (sls 80) = true := by kernel_rfl
theorem ok81 : okFn Try.prog 81 ir_slices_xorshift_Next (sls 81) = true := by kernel_rfl
theorem ok82 : okFn Try.prog 82 ir_slices_medianAdjacentCmpFunc_Sint (sls 82) = true := by kernel_rfl
theorem ok83 : okFn Try.prog 83 ir_slices_medianCmpFunc_Sint (sls 83) = true := by kernel_rfl
theorem ok84 : okFn Try.prog 84 ir_slices_order2CmpFunc_Sint (sls 84) = true := by kernel_rfl
theorem okG : ∀ f fn, G f = some fn → ∃ sl, okFn Try.prog f fn sl = true := by
  intro f fn h
  unfold G at h
  split at h
  · cases h; exact ⟨_, ok3⟩
  · cases h; exact ⟨_, ok4⟩
  · cases h; exact ⟨_, ok5⟩
  · cases h; exact ⟨_, ok6⟩
  · cases h; exact ⟨_, ok7⟩
  · cases h; exact ⟨_, ok8⟩
  · cases h; exact ⟨_, ok9⟩
  · cases h; exact ⟨_, ok10⟩
  · cases h; exact ⟨_, ok11⟩
  · cases h; exact ⟨_, ok12⟩
  · cases h; exact ⟨_, ok13⟩
  · cases h; exact ⟨_, ok14⟩
  · cases h; exact ⟨_, ok15⟩
  · cases h; exact ⟨_, ok16⟩
  · cases h; exact ⟨_, ok17⟩
  · cases h; exact ⟨_, ok18⟩
  · cases h; exact ⟨_, ok19⟩
  · cases h; exact ⟨_, ok20⟩
  · cases h; exact ⟨_, ok21⟩
  · cases h; exact ⟨_, ok22⟩
  · cases h; exact ⟨_, ok23⟩
  · cases h; exact ⟨_, ok24⟩
  · cases h; exact ⟨_, ok25⟩
  · cases h; exact ⟨_, ok26⟩
  · cases h; exact ⟨_, ok27⟩
  · cases h; exact ⟨_, ok28⟩
  · cases h; exact ⟨_, ok29⟩
  · cases h; exact ⟨_, ok30⟩
  · cases h; exact ⟨_, ok31⟩
  · cases h; exact ⟨_, ok32⟩
  · cases h; exact ⟨_, ok33⟩
  · cases h; exact ⟨_, ok34⟩
  · cases h; exact ⟨_, ok35⟩
  · cases h; exact ⟨_, ok36⟩
  · cases h; exact ⟨_, ok37⟩
  · cases h; exact ⟨_, ok38⟩
  · cases h; exact ⟨_, ok39⟩
  · cases h; exact ⟨_, ok40⟩
  · cases h; exact ⟨_, ok41⟩
  · cases h; exact ⟨_, ok42⟩
  · cases h; exact ⟨_, ok43⟩
  · cases h; exact ⟨_, ok44⟩
  · cases h; exact ⟨_, ok45⟩
  · cases h; exact ⟨_, ok46⟩
  · cases h; exact ⟨_, ok47⟩
  · cases h; exact ⟨_, ok48⟩
  · cases h; exact ⟨_, ok49⟩
  · cases h; exact ⟨_, ok50⟩
  · cases h; exact ⟨_, ok51⟩
  · cases h; exact ⟨_, ok52⟩
  · cases h; exact ⟨_, ok53⟩
  · cases h; exact ⟨_, ok54⟩
  · cases h; exact ⟨_, ok55⟩
  · cases h; exact ⟨_, ok56⟩
  · cases h; exact ⟨_, ok57⟩
  · cases h; exact ⟨_, ok58⟩
  · cases h; exact ⟨_, ok59⟩
  · cases h; exact ⟨_, ok61⟩
  · cases h; exact ⟨_, ok63⟩
  · cases h; exact ⟨_, ok64⟩
  · cases h; exact ⟨_, ok65⟩
  · cases h; exact ⟨_, ok66⟩
  · cases h; exact ⟨_, ok67⟩
  · cases h; exact ⟨_, ok68⟩
  · cases h; exact ⟨_, ok69⟩
  · cases h; exact ⟨_, ok70⟩
  · cases h; exact ⟨_, ok71⟩
  · cases h; exact ⟨_, ok72⟩
  · cases h; exact ⟨_, ok73⟩
  · cases h; exact ⟨_, ok74⟩
  · cases h; exact ⟨_, ok75⟩
  · cases h; exact ⟨_, ok76⟩
  · cases h; exact ⟨_, ok77⟩
  · cases h; exact ⟨_, ok78⟩
  · cases h; exact ⟨_, ok79⟩
  · cases h; exact ⟨_, ok80⟩
  · cases h; exact ⟨_, ok81⟩
  · cases h; exact ⟨_, ok82⟩
  · cases h; exact ⟨_, ok83⟩
  · cases h; exact ⟨_, ok84⟩
  · cases h
theorem mixed : Try.prog.follows .mixedOrders = true := by kernel_rfl
theorem prim60 : PrimOk Try.prog 60 pGrow := grow_ok (ρ := Try.growL_ren) Try.growL rfl (by kernel_rfl) (by kernel_rfl)
theorem prim61 : PrimOk Try.prog 61 pCloneS := cloneS_ok (t := 4) (sl := sls 61) mixed ok61
theorem prim62 : PrimOk Try.prog 62 pSort := sort_ok (ρ := Try.sortL_ren) Try.sortL rfl (by kernel_rfl)
theorem prim65 : PrimOk Try.prog 65 (vPrim pClone1) := clone_ok' (t := 4) (sl := sls 65) mixed ok65
theorem okQ : ∀ f p, Q f = some p → PrimOk Try.prog f p := by
  intro f p h
  unfold Q at h
  split at h
  · cases h; exact prim60
  · cases h; exact prim61
  · cases h; exact prim62
  · cases h; exact prim65
  · cases h
theorem L_ok : CallOk Try.prog L := by
  intro f args σ r σ' h
  obtain ⟨N, hN⟩ := lim_ex h
  exact (callN_ok mixed okG okQ N).1 f args σ r σ' hN
end Ab
