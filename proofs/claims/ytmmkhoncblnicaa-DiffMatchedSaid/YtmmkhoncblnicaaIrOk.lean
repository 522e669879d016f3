/- Each small text is the program's function. Condition: none. -/
import Derived.Test.YtmmkhoncblnicaaAbMul
import Derived.Test.YtmmkhoncblnicaaAbSortS
import Derived.Test.YtmmkhoncblnicaaAbGrow
import Derived.Test.YtmmkhoncblnicaaProg
import Derived.KernelRfl
import Derived.Test.YtmmkhoncblnicaaAbCloneS
import Derived.Test.YtmmkhoncblnicaaIr
set_option linter.all false
namespace Go.Proofs
open Go.Shelf
def Try.growL_ren : Go.Shelf.Ren := ⟨fun | 4 => 67 | n => n, fun | 22 => 35 | 25 => 3 | 3 => 3 | 4 => 4 | 9 => 9 | 20 => 20 | 0 => 0 | n => n, fun | n => n⟩
theorem Try.growL : Go.Proofs.Lays8.n4 Try.prog Try.growL_ren := {
  mixed := by kernel_rfl
  f4 := ⟨Try.f67.name, by decide, Try.func67.trans (congrArg some (by kernel_rfl))⟩
  t0 := Try.underlying0
  a0 := Try.isAgg0
  z0 := Try.sizeOf0
  v0 := Try.zeroValue0
  t3 := Try.underlying3
  a3 := Try.isAgg3
  z3 := Try.sizeOf3
  v3 := Try.zeroValue3
  t4 := Try.underlying4
  a4 := Try.isAgg4
  z4 := Try.sizeOf4
  v4 := Try.zeroValue4
  t9 := Try.underlying9
  a9 := Try.isAgg9
  z9 := Try.sizeOf9
  v9 := Try.zeroValue9
  t20 := Try.underlying20
  a20 := Try.isAgg20
  z20 := Try.sizeOf20
  v20 := Try.zeroValue20
  t22 := Try.underlying35
  a22 := Try.isAgg35
  z22 := Try.sizeOf35
  v22 := Try.zeroValue35 }

def Try.sortS55L_ren : Go.Shelf.Ren := ⟨fun | 6 => 55 | 15 => 69 | 14 => 68 | 28 => 81 | 29 => 82 | 20 => 73 | 21 => 74 | 22 => 75 | 23 => 76 | 24 => 77 | 25 => 78 | 26 => 79 | 27 => 80 | 46 => 84 | 47 => 85 | 48 => 86 | 49 => 87 | 50 => 88 | 57 => 89 | n => n, fun | 22 => 27 | 24 => 49 | 25 => 98 | 3 => 3 | 39 => 104 | 0 => 0 | 53 => 119 | 55 => 122 | 4 => 4 | 46 => 128 | 45 => 127 | 50 => 132 | 5 => 5 | 9 => 9 | 66 => 137 | 70 => 141 | 76 => 146 | 77 => 109 | n => n, fun | n => n⟩
theorem Try.sortS55L : Go.Proofs.SlLaysF0.n6 Try.prog Try.sortS55L_ren := {
  mixed := by kernel_rfl
  f6 := ⟨Try.f55.name, by decide, Try.func55.trans (congrArg some (by kernel_rfl))⟩
  f14 := ⟨Try.f68.name, by decide, Try.func68.trans (congrArg some (by kernel_rfl))⟩
  f15 := Try.func69.trans (congrArg some (by kernel_rfl))
  f20 := ⟨Try.f73.name, by decide, Try.func73.trans (congrArg some (by kernel_rfl))⟩
  f21 := ⟨Try.f74.name, by decide, Try.func74.trans (congrArg some (by kernel_rfl))⟩
  f22 := ⟨Try.f75.name, by decide, Try.func75.trans (congrArg some (by kernel_rfl))⟩
  f23 := ⟨Try.f76.name, by decide, Try.func76.trans (congrArg some (by kernel_rfl))⟩
  f24 := ⟨Try.f77.name, by decide, Try.func77.trans (congrArg some (by kernel_rfl))⟩
  f25 := ⟨Try.f78.name, by decide, Try.func78.trans (congrArg some (by kernel_rfl))⟩
  f26 := ⟨Try.f79.name, by decide, Try.func79.trans (congrArg some (by kernel_rfl))⟩
  f27 := ⟨Try.f80.name, by decide, Try.func80.trans (congrArg some (by kernel_rfl))⟩
  f28 := Try.func81.trans (congrArg some (by kernel_rfl))
  f29 := Try.func82.trans (congrArg some (by kernel_rfl))
  f46 := ⟨Try.f84.name, by decide, Try.func84.trans (congrArg some (by kernel_rfl))⟩
  f47 := Try.func85.trans (congrArg some (by kernel_rfl))
  f48 := Try.func86.trans (congrArg some (by kernel_rfl))
  f49 := ⟨Try.f87.name, by decide, Try.func87.trans (congrArg some (by kernel_rfl))⟩
  f50 := ⟨Try.f88.name, by decide, Try.func88.trans (congrArg some (by kernel_rfl))⟩
  f57 := ⟨Try.f89.name, by decide, Try.func89.trans (congrArg some (by kernel_rfl))⟩
  t0 := Try.underlying0
  a0 := Try.isAgg0
  z0 := Try.sizeOf0
  v0 := Try.zeroValue0
  t3 := Try.underlying3
  a3 := Try.isAgg3
  z3 := Try.sizeOf3
  v3 := Try.zeroValue3
  t4 := Try.underlying4
  a4 := Try.isAgg4
  z4 := Try.sizeOf4
  v4 := Try.zeroValue4
  t5 := Try.underlying5
  a5 := Try.isAgg5
  z5 := Try.sizeOf5
  v5 := Try.zeroValue5
  t9 := Try.underlying9
  a9 := Try.isAgg9
  z9 := Try.sizeOf9
  v9 := Try.zeroValue9
  t22 := Try.underlying27
  a22 := Try.isAgg27
  z22 := Try.sizeOf27
  v22 := Try.zeroValue27
  t25 := Try.underlying98
  a25 := Try.isAgg98
  z25 := Try.sizeOf98
  v25 := Try.zeroValue98
  t39 := Try.underlying104
  a39 := Try.isAgg104
  z39 := Try.sizeOf104
  v39 := Try.zeroValue104
  t45 := Try.underlying127
  a45 := Try.isAgg127
  z45 := Try.sizeOf127
  v45 := Try.zeroValue127
  t46 := Try.underlying128
  a46 := Try.isAgg128
  z46 := Try.sizeOf128
  v46 := Try.zeroValue128
  t50 := Try.underlying132
  a50 := Try.isAgg132
  z50 := Try.sizeOf132
  v50 := Try.zeroValue132
  t53 := Try.underlying119
  a53 := Try.isAgg119
  z53 := Try.sizeOf119
  v53 := Try.zeroValue119
  t55 := Try.underlying122
  a55 := Try.isAgg122
  z55 := Try.sizeOf122
  v55 := Try.zeroValue122
  t66 := Try.underlying137
  a66 := Try.isAgg137
  z66 := Try.sizeOf137
  v66 := Try.zeroValue137
  t70 := Try.underlying141
  a70 := Try.isAgg141
  z70 := Try.sizeOf141
  v70 := Try.zeroValue141
  t76 := Try.underlying146
  a76 := Try.isAgg146
  z76 := Try.sizeOf146
  v76 := Try.zeroValue146
  t77 := Try.underlying109
  a77 := Try.isAgg109
  z77 := Try.sizeOf109
  v77 := Try.zeroValue109 }

def Try.mulL_ren : Go.Shelf.Ren := ⟨fun | 264 => 71 | n => n, fun | 53 => 122 | 46 => 104 | n => n, fun | n => n⟩
theorem Try.mulL : Go.Proofs.Lays.n264 Try.prog Try.mulL_ren := {
  mixed := by kernel_rfl
  f264 := Try.func71.trans (congrArg some (by kernel_rfl))
  t46 := Try.underlying104
  a46 := Try.isAgg104
  z46 := Try.sizeOf104
  v46 := Try.zeroValue104
  t53 := Try.underlying122
  a53 := Try.isAgg122
  z53 := Try.sizeOf122
  v53 := Try.zeroValue122 }

end Go.Proofs
namespace Ab
open Go Go.Proofs
theorem ok3 : okFn Try.prog 3 ir_law49_DiffExplains (sls 3) = true := by kernel_rfl
theorem ok4 : okFn Try.prog 4 ir_law49_DiffMatches (sls 4) = true := by kernel_rfl
theorem ok5 : okFn Try.prog 5 ir_law49_DiffPairs (sls 5) = true := by kernel_rfl
theorem ok6 : okFn Try.prog 6 ir_law49_DiffWords (sls 6) = true := by kernel_rfl
theorem ok7 : okFn Try.prog 7 ir_law49_DiffMoved (sls 7) = true := by kernel_rfl
theorem ok8 : okFn Try.prog 8 ir_law49_DiffMatched (sls 8) = true := by kernel_rfl
theorem ok9 : okFn Try.prog 9 ir_law08_Great (sls 9) = true := by kernel_rfl
theorem ok10 : okFn Try.prog 10 ir_law49_exampleHolds (sls 10) = true := by kernel_rfl
theorem ok11 : okFn Try.prog 11 ir_diff_Explain (sls 11) = true := by kernel_rfl
theorem ok12 : okFn Try.prog 12 ir_ref49_Explain (sls 12) = true := by kernel_rfl
theorem ok13 : okFn Try.prog 13 ir_ref49_Same (sls 13) = true := by kernel_rfl
theorem ok14 : okFn Try.prog 14 ir_diff_Match (sls 14) = true := by kernel_rfl
theorem ok15 : okFn Try.prog 15 ir_ref49_Match (sls 15) = true := by kernel_rfl
theorem ok16 : okFn Try.prog 16 ir_diff_Moved (sls 16) = true := by kernel_rfl
theorem ok17 : okFn Try.prog 17 ir_ref49_Moved (sls 17) = true := by kernel_rfl
theorem ok18 : okFn Try.prog 18 ir_ref08_Equal (sls 18) = true := by kernel_rfl
theorem ok19 : okFn Try.prog 19 ir_ref09_Check (sls 19) = true := by kernel_rfl
theorem ok20 : okFn Try.prog 20 ir_mealy_Run (sls 20) = true := by kernel_rfl
theorem ok21 : okFn Try.prog 21 ir_mealy_From (sls 21) = true := by kernel_rfl
theorem ok22 : okFn Try.prog 22 ir_word_Compare (sls 22) = true := by kernel_rfl
theorem ok23 : okFn Try.prog 23 ir_equiv_Distinguish (sls 23) = true := by kernel_rfl
theorem ok24 : okFn Try.prog 24 ir_equiv_Equal (sls 24) = true := by kernel_rfl
theorem ok25 : okFn Try.prog 25 ir_ref06_Reach (sls 25) = true := by kernel_rfl
theorem ok26 : okFn Try.prog 26 ir_minimize_Min (sls 26) = true := by kernel_rfl
theorem ok27 : okFn Try.prog 27 ir_equiv_Iso (sls 27) = true := by kernel_rfl
theorem ok28 : okFn Try.prog 28 ir_diff_check (sls 28) = true := by kernel_rfl
theorem ok29 : okFn Try.prog 29 ir_word_Join (sls 29) = true := by kernel_rfl
theorem ok30 : okFn Try.prog 30 ir_diff_sorted (sls 30) = true := by kernel_rfl
theorem ok31 : okFn Try.prog 31 ir_ref09_Extended (sls 31) = true := by kernel_rfl
theorem ok32 : okFn Try.prog 32 ir_ref10_Same (sls 32) = true := by kernel_rfl
theorem ok33 : okFn Try.prog 33 ir_cover_Access (sls 33) = true := by kernel_rfl
theorem ok34 : okFn Try.prog 34 ir_slices_Repeat_Sint_int (sls 34) = true := by kernel_rfl
theorem ok35 : okFn Try.prog 35 ir_ref10_Access (sls 35) = true := by kernel_rfl
theorem ok36 : okFn Try.prog 36 ir_ref49_after (sls 36) = true := by kernel_rfl
theorem ok37 : okFn Try.prog 37 ir_diff_Moved_1 (sls 37) = true := by kernel_rfl
theorem ok38 : okFn Try.prog 38 ir_slices_ContainsFunc_Sint_int (sls 38) = true := by kernel_rfl
theorem ok39 : okFn Try.prog 39 ir_ref06_Valid (sls 39) = true := by kernel_rfl
theorem ok40 : okFn Try.prog 40 ir_mealy_state (sls 40) = true := by kernel_rfl
theorem ok41 : okFn Try.prog 41 ir_word_Check (sls 41) = true := by kernel_rfl
theorem ok42 : okFn Try.prog 42 ir_mealy_runner_run (sls 42) = true := by kernel_rfl
theorem ok43 : okFn Try.prog 43 ir_cmp_Or_int (sls 43) = true := by kernel_rfl
theorem ok44 : okFn Try.prog 44 ir_cmp_Compare_int (sls 44) = true := by kernel_rfl
theorem ok45 : okFn Try.prog 45 ir_slices_Compare_Sint_int (sls 45) = true := by kernel_rfl
theorem ok46 : okFn Try.prog 46 ir_equiv_check (sls 46) = true := by kernel_rfl
theorem ok47 : okFn Try.prog 47 ir_equiv_search (sls 47) = true := by kernel_rfl
theorem ok48 : okFn Try.prog 48 ir_ref06_has (sls 48) = true := by kernel_rfl
theorem ok49 : okFn Try.prog 49 ir_mealy_Trim (sls 49) = true := by kernel_rfl
theorem ok50 : okFn Try.prog 50 ir_minimize_Classes (sls 50) = true := by kernel_rfl
theorem ok51 : okFn Try.prog 51 ir_mealy_Reach (sls 51) = true := by kernel_rfl
theorem ok52 : okFn Try.prog 52 ir_mealy_Valid (sls 52) = true := by kernel_rfl
theorem ok53 : okFn Try.prog 53 ir_slices_Concat_Sint_int (sls 53) = true := by kernel_rfl
theorem ok54 : okFn Try.prog 54 ir_diff_sorted_1 (sls 54) = true := by kernel_rfl
theorem ok56 : okFn Try.prog 56 ir_cover_places (sls 56) = true := by kernel_rfl
theorem ok57 : okFn Try.prog 57 ir_math_bits_Mul (sls 57) = true := by kernel_rfl
theorem ok58 : okFn Try.prog 58 ir_ref10_has (sls 58) = true := by kernel_rfl
theorem ok59 : okFn Try.prog 59 ir_slices_IndexFunc_Sint_int (sls 59) = true := by kernel_rfl
theorem ok60 : okFn Try.prog 60 ir_ref06_row (sls 60) = true := by kernel_rfl
theorem ok61 : okFn Try.prog 61 ir_word_permitted (sls 61) = true := by kernel_rfl
theorem ok62 : okFn Try.prog 62 ir_word_Check_1 (sls 62) = true := by kernel_rfl
theorem ok63 : okFn Try.prog 63 ir_mealy_machine_move (sls 63) = true := by kernel_rfl
theorem ok64 : okFn Try.prog 64 ir_cmp_isNaN_int (sls 64) = true := by kernel_rfl
theorem ok65 : okFn Try.prog 65 ir_slices_Clone_Sint_int (sls 65) = true := by kernel_rfl
theorem ok66 : okFn Try.prog 66 ir_minimize_Partition (sls 66) = true := by kernel_rfl
theorem ok72 : okFn Try.prog 72 ir_minimize_refine (sls 72) = true := by kernel_rfl
theorem ok83 : okFn Try.prog 83 ir_minimize_next (sls 83) = true := by kernel_rfl
theorem okG : ∀ f fn, G f = some fn → ∃ sl, okFn Try.prog f fn sl = true := by
  intro f fn h
  unfold G at h
  split at h
  · cases h; exact ⟨_, ok3⟩
  · cases h; exact ⟨_, ok4⟩
  · cases h; exact ⟨_, ok5⟩
  · cases h; exact ⟨_, ok6⟩
  · cases h; exact ⟨_, ok7⟩
  · cases h; exact ⟨_, ok8⟩
  · cases h; exact ⟨_, ok9⟩
  · cases h; exact ⟨_, ok10⟩
  · cases h; exact ⟨_, ok11⟩
  · cases h; exact ⟨_, ok12⟩
  · cases h; exact ⟨_, ok13⟩
  · cases h; exact ⟨_, ok14⟩
  · cases h; exact ⟨_, ok15⟩
  · cases h; exact ⟨_, ok16⟩
  · cases h; exact ⟨_, ok17⟩
  · cases h; exact ⟨_, ok18⟩
  · cases h; exact ⟨_, ok19⟩
  · cases h; exact ⟨_, ok20⟩
  · cases h; exact ⟨_, ok21⟩
  · cases h; exact ⟨_, ok22⟩
  · cases h; exact ⟨_, ok23⟩
  · cases h; exact ⟨_, ok24⟩
  · cases h; exact ⟨_, ok25⟩
  · cases h; exact ⟨_, ok26⟩
  · cases h; exact ⟨_, ok27⟩
  · cases h; exact ⟨_, ok28⟩
  · cases h; exact ⟨_, ok29⟩
  · cases h; exact ⟨_, ok30⟩
  · cases h; exact ⟨_, ok31⟩
  · cases h; exact ⟨_, ok32⟩
  · cases h; exact ⟨_, ok33⟩
  · cases h; exact ⟨_, ok34⟩
  · cases h; exact ⟨_, ok35⟩
  · cases h; exact ⟨_, ok36⟩
  · cases h; exact ⟨_, ok37⟩
  · cases h; exact ⟨_, ok38⟩
  · cases h; exact ⟨_, ok39⟩
  · cases h; exact ⟨_, ok40⟩
  · cases h; exact ⟨_, ok41⟩
  · cases h; exact ⟨_, ok42⟩
  · cases h; exact ⟨_, ok43⟩
  · cases h; exact ⟨_, ok44⟩
  · cases h; exact ⟨_, ok45⟩
  · cases h; exact ⟨_, ok46⟩
  · cases h; exact ⟨_, ok47⟩
  · cases h; exact ⟨_, ok48⟩
  · cases h; exact ⟨_, ok49⟩
  · cases h; exact ⟨_, ok50⟩
  · cases h; exact ⟨_, ok51⟩
  · cases h; exact ⟨_, ok52⟩
  · cases h; exact ⟨_, ok53⟩
  · cases h; exact ⟨_, ok54⟩
  · cases h; exact ⟨_, ok56⟩
  · cases h; exact ⟨_, ok57⟩
  · cases h; exact ⟨_, ok58⟩
  · cases h; exact ⟨_, ok59⟩
  · cases h; exact ⟨_, ok60⟩
  · cases h; exact ⟨_, ok61⟩
  · cases h; exact ⟨_, ok62⟩
  · cases h; exact ⟨_, ok63⟩
  · cases h; exact ⟨_, ok64⟩
  · cases h; exact ⟨_, ok65⟩
  · cases h; exact ⟨_, ok66⟩
  · cases h; exact ⟨_, ok72⟩
  · cases h; exact ⟨_, ok83⟩
  · cases h
theorem mixed : Try.prog.follows .mixedOrders = true := by kernel_rfl
theorem prim55 : PrimOk Try.prog 55 (pSortS 5) := sorts_ok (ρ := Try.sortS55L_ren) Try.sortS55L rfl (by kernel_rfl) (by kernel_rfl)
theorem prim65 : PrimOk Try.prog 65 (vPrim pClone1) := clone_ok' (t := 4) (sl := sls 65) mixed ok65
theorem prim67 : PrimOk Try.prog 67 pGrow := grow_ok (ρ := Try.growL_ren) Try.growL rfl (by kernel_rfl) (by kernel_rfl)
theorem prim71 : PrimOk Try.prog 71 pMul64 := mul64_ok (ρ := Try.mulL_ren) Try.mulL rfl (by kernel_rfl)
theorem okQ : ∀ f p, Q f = some p → PrimOk Try.prog f p := by
  intro f p h
  unfold Q at h
  split at h
  · cases h; exact prim55
  · cases h; exact prim65
  · cases h; exact prim67
  · cases h; exact prim71
  · cases h
theorem L_ok : CallOk Try.prog L := by
  intro f args σ r σ' h
  obtain ⟨N, hN⟩ := lim_ex h
  exact (callN_ok mixed okG okQ N).1 f args σ r σ' hN
end Ab
