/- Each small text is the program's function. Condition: none. -/
import Derived.Test.YtdhncjkhockhjaaAbSortS
import Derived.Test.YtdhncjkhockhjaaAbSortP
import Derived.Test.YtdhncjkhockhjaaAbGrow
import Derived.Test.YtdhncjkhockhjaaProg
import Derived.KernelRfl
import Derived.Test.YtdhncjkhockhjaaAbCloneS
import Derived.Test.YtdhncjkhockhjaaIr
set_option linter.all false
namespace Go.Proofs
open Go.Shelf
def Try.growL_ren : Go.Shelf.Ren := ⟨fun | 4 => 68 | n => n, fun | 22 => 27 | 25 => 3 | 3 => 3 | 4 => 4 | 9 => 9 | 20 => 20 | 0 => 0 | n => n, fun | n => n⟩
theorem Try.growL : Go.Proofs.Lays8.n4 Try.prog Try.growL_ren := {
  mixed := by kernel_rfl
  f4 := ⟨Try.f68.name, by decide, Try.func68.trans (congrArg some (by kernel_rfl))⟩
  t0 := Try.underlying0
  a0 := Try.isAgg0
  z0 := Try.sizeOf0
  v0 := Try.zeroValue0
  t3 := Try.underlying3
  a3 := Try.isAgg3
  z3 := Try.sizeOf3
  v3 := Try.zeroValue3
  t4 := Try.underlying4
  a4 := Try.isAgg4
  z4 := Try.sizeOf4
  v4 := Try.zeroValue4
  t9 := Try.underlying9
  a9 := Try.isAgg9
  z9 := Try.sizeOf9
  v9 := Try.zeroValue9
  t20 := Try.underlying20
  a20 := Try.isAgg20
  z20 := Try.sizeOf20
  v20 := Try.zeroValue20
  t22 := Try.underlying27
  a22 := Try.isAgg27
  z22 := Try.sizeOf27
  v22 := Try.zeroValue27 }

def Try.sortS46L_ren : Go.Shelf.Ren := ⟨fun | 6 => 46 | 15 => 66 | 14 => 65 | 28 => 86 | 29 => 87 | 20 => 78 | 21 => 79 | 22 => 80 | 23 => 81 | 24 => 82 | 25 => 83 | 26 => 84 | 27 => 85 | 46 => 92 | 47 => 93 | 48 => 94 | 49 => 95 | 50 => 96 | 57 => 99 | n => n, fun | 22 => 53 | 24 => 59 | 25 => 84 | 3 => 3 | 39 => 102 | 0 => 0 | 53 => 121 | 55 => 123 | 4 => 4 | 46 => 115 | 45 => 114 | 50 => 98 | 5 => 5 | 9 => 9 | 66 => 126 | 70 => 130 | 76 => 133 | 77 => 96 | n => n, fun | n => n⟩
theorem Try.sortS46L : Go.Proofs.SlLaysF0.n6 Try.prog Try.sortS46L_ren := {
  mixed := by kernel_rfl
  f6 := ⟨Try.f46.name, by decide, Try.func46.trans (congrArg some (by kernel_rfl))⟩
  f14 := ⟨Try.f65.name, by decide, Try.func65.trans (congrArg some (by kernel_rfl))⟩
  f15 := Try.func66.trans (congrArg some (by kernel_rfl))
  f20 := ⟨Try.f78.name, by decide, Try.func78.trans (congrArg some (by kernel_rfl))⟩
  f21 := ⟨Try.f79.name, by decide, Try.func79.trans (congrArg some (by kernel_rfl))⟩
  f22 := ⟨Try.f80.name, by decide, Try.func80.trans (congrArg some (by kernel_rfl))⟩
  f23 := ⟨Try.f81.name, by decide, Try.func81.trans (congrArg some (by kernel_rfl))⟩
  f24 := ⟨Try.f82.name, by decide, Try.func82.trans (congrArg some (by kernel_rfl))⟩
  f25 := ⟨Try.f83.name, by decide, Try.func83.trans (congrArg some (by kernel_rfl))⟩
  f26 := ⟨Try.f84.name, by decide, Try.func84.trans (congrArg some (by kernel_rfl))⟩
  f27 := ⟨Try.f85.name, by decide, Try.func85.trans (congrArg some (by kernel_rfl))⟩
  f28 := Try.func86.trans (congrArg some (by kernel_rfl))
  f29 := Try.func87.trans (congrArg some (by kernel_rfl))
  f46 := ⟨Try.f92.name, by decide, Try.func92.trans (congrArg some (by kernel_rfl))⟩
  f47 := Try.func93.trans (congrArg some (by kernel_rfl))
  f48 := Try.func94.trans (congrArg some (by kernel_rfl))
  f49 := ⟨Try.f95.name, by decide, Try.func95.trans (congrArg some (by kernel_rfl))⟩
  f50 := ⟨Try.f96.name, by decide, Try.func96.trans (congrArg some (by kernel_rfl))⟩
  f57 := ⟨Try.f99.name, by decide, Try.func99.trans (congrArg some (by kernel_rfl))⟩
  t0 := Try.underlying0
  a0 := Try.isAgg0
  z0 := Try.sizeOf0
  v0 := Try.zeroValue0
  t3 := Try.underlying3
  a3 := Try.isAgg3
  z3 := Try.sizeOf3
  v3 := Try.zeroValue3
  t4 := Try.underlying4
  a4 := Try.isAgg4
  z4 := Try.sizeOf4
  v4 := Try.zeroValue4
  t5 := Try.underlying5
  a5 := Try.isAgg5
  z5 := Try.sizeOf5
  v5 := Try.zeroValue5
  t9 := Try.underlying9
  a9 := Try.isAgg9
  z9 := Try.sizeOf9
  v9 := Try.zeroValue9
  t22 := Try.underlying53
  a22 := Try.isAgg53
  z22 := Try.sizeOf53
  v22 := Try.zeroValue53
  t25 := Try.underlying84
  a25 := Try.isAgg84
  z25 := Try.sizeOf84
  v25 := Try.zeroValue84
  t39 := Try.underlying102
  a39 := Try.isAgg102
  z39 := Try.sizeOf102
  v39 := Try.zeroValue102
  t45 := Try.underlying114
  a45 := Try.isAgg114
  z45 := Try.sizeOf114
  v45 := Try.zeroValue114
  t46 := Try.underlying115
  a46 := Try.isAgg115
  z46 := Try.sizeOf115
  v46 := Try.zeroValue115
  t50 := Try.underlying98
  a50 := Try.isAgg98
  z50 := Try.sizeOf98
  v50 := Try.zeroValue98
  t53 := Try.underlying121
  a53 := Try.isAgg121
  z53 := Try.sizeOf121
  v53 := Try.zeroValue121
  t55 := Try.underlying123
  a55 := Try.isAgg123
  z55 := Try.sizeOf123
  v55 := Try.zeroValue123
  t66 := Try.underlying126
  a66 := Try.isAgg126
  z66 := Try.sizeOf126
  v66 := Try.zeroValue126
  t70 := Try.underlying130
  a70 := Try.isAgg130
  z70 := Try.sizeOf130
  v70 := Try.zeroValue130
  t76 := Try.underlying133
  a76 := Try.isAgg133
  z76 := Try.sizeOf133
  v76 := Try.zeroValue133
  t77 := Try.underlying96
  a77 := Try.isAgg96
  z77 := Try.sizeOf96
  v77 := Try.zeroValue96 }

end Go.Proofs
namespace Ab
open Go Go.Proofs
theorem ok3 : okFn Try.prog 3 ir_law13_HomingWords (sls 3) = true := by kernel_rfl
theorem ok4 : okFn Try.prog 4 ir_law13_HomingTraces (sls 4) = true := by kernel_rfl
theorem ok5 : okFn Try.prog 5 ir_law13_HomingKnown (sls 5) = true := by kernel_rfl
theorem ok6 : okFn Try.prog 6 ir_law13_HomingSteps (sls 6) = true := by kernel_rfl
theorem ok7 : okFn Try.prog 7 ir_law13_HomingResolves (sls 7) = true := by kernel_rfl
theorem ok8 : okFn Try.prog 8 ir_law11_Small (sls 8) = true := by kernel_rfl
theorem ok9 : okFn Try.prog 9 ir_law13_exampleHolds (sls 9) = true := by kernel_rfl
theorem ok10 : okFn Try.prog 10 ir_homing_Word (sls 10) = true := by kernel_rfl
theorem ok11 : okFn Try.prog 11 ir_ref13_Word (sls 11) = true := by kernel_rfl
theorem ok12 : okFn Try.prog 12 ir_ref08_Equal (sls 12) = true := by kernel_rfl
theorem ok13 : okFn Try.prog 13 ir_homing_Resolves (sls 13) = true := by kernel_rfl
theorem ok14 : okFn Try.prog 14 ir_ref13_Resolves (sls 14) = true := by kernel_rfl
theorem ok15 : okFn Try.prog 15 ir_homing_Possible (sls 15) = true := by kernel_rfl
theorem ok16 : okFn Try.prog 16 ir_ref13_Possible (sls 16) = true := by kernel_rfl
theorem ok17 : okFn Try.prog 17 ir_homing_Final (sls 17) = true := by kernel_rfl
theorem ok18 : okFn Try.prog 18 ir_ref13_Final (sls 18) = true := by kernel_rfl
theorem ok19 : okFn Try.prog 19 ir_ref11_Check (sls 19) = true := by kernel_rfl
theorem ok20 : okFn Try.prog 20 ir_mealy_From (sls 20) = true := by kernel_rfl
theorem ok21 : okFn Try.prog 21 ir_ref06_Valid (sls 21) = true := by kernel_rfl
theorem ok22 : okFn Try.prog 22 ir_mealy_Run (sls 22) = true := by kernel_rfl
theorem ok23 : okFn Try.prog 23 ir_law08_Great (sls 23) = true := by kernel_rfl
theorem ok24 : okFn Try.prog 24 ir_mealy_Valid (sls 24) = true := by kernel_rfl
theorem ok25 : okFn Try.prog 25 ir_minimize_Minimal (sls 25) = true := by kernel_rfl
theorem ok26 : okFn Try.prog 26 ir_homing_groups (sls 26) = true := by kernel_rfl
theorem ok27 : okFn Try.prog 27 ir_homing_open (sls 27) = true := by kernel_rfl
theorem ok28 : okFn Try.prog 28 ir_equiv_States (sls 28) = true := by kernel_rfl
theorem ok29 : okFn Try.prog 29 ir_word_Join (sls 29) = true := by kernel_rfl
theorem ok30 : okFn Try.prog 30 ir_ref13_open (sls 30) = true := by kernel_rfl
theorem ok31 : okFn Try.prog 31 ir_ref09_States (sls 31) = true := by kernel_rfl
theorem ok32 : okFn Try.prog 32 ir_homing_check (sls 32) = true := by kernel_rfl
theorem ok33 : okFn Try.prog 33 ir_ref13_check (sls 33) = true := by kernel_rfl
theorem ok34 : okFn Try.prog 34 ir_slices_Equal_Sint_int (sls 34) = true := by kernel_rfl
theorem ok35 : okFn Try.prog 35 ir_ref13_current (sls 35) = true := by kernel_rfl
theorem ok36 : okFn Try.prog 36 ir_ref08_Minimal (sls 36) = true := by kernel_rfl
theorem ok37 : okFn Try.prog 37 ir_mealy_state (sls 37) = true := by kernel_rfl
theorem ok38 : okFn Try.prog 38 ir_word_Check (sls 38) = true := by kernel_rfl
theorem ok39 : okFn Try.prog 39 ir_mealy_runner_run (sls 39) = true := by kernel_rfl
theorem ok40 : okFn Try.prog 40 ir_ref06_row (sls 40) = true := by kernel_rfl
theorem ok41 : okFn Try.prog 41 ir_mealy_Reach (sls 41) = true := by kernel_rfl
theorem ok42 : okFn Try.prog 42 ir_minimize_Min (sls 42) = true := by kernel_rfl
theorem ok43 : okFn Try.prog 43 ir_slices_IndexFunc_Shoming_group_homing_group (sls 43) = true := by kernel_rfl
theorem ok44 : okFn Try.prog 44 ir_homing_groups_1 (sls 44) = true := by kernel_rfl
theorem ok45 : okFn Try.prog 45 ir_homing_put (sls 45) = true := by kernel_rfl
theorem ok47 : okFn Try.prog 47 ir_homing_groups_2 (sls 47) = true := by kernel_rfl
theorem ok48 : okFn Try.prog 48 ir_word_Lex (sls 48) = true := by kernel_rfl
theorem ok49 : okFn Try.prog 49 ir_homing_open_1 (sls 49) = true := by kernel_rfl
theorem ok50 : okFn Try.prog 50 ir_equiv_search (sls 50) = true := by kernel_rfl
theorem ok51 : okFn Try.prog 51 ir_slices_Concat_Sint_int (sls 51) = true := by kernel_rfl
theorem ok52 : okFn Try.prog 52 ir_ref13_run (sls 52) = true := by kernel_rfl
theorem ok53 : okFn Try.prog 53 ir_ref01_Lex (sls 53) = true := by kernel_rfl
theorem ok54 : okFn Try.prog 54 ir_ref09_first (sls 54) = true := by kernel_rfl
theorem ok55 : okFn Try.prog 55 ir_ref01_Check (sls 55) = true := by kernel_rfl
theorem ok56 : okFn Try.prog 56 ir_ref06_Ints (sls 56) = true := by kernel_rfl
theorem ok57 : okFn Try.prog 57 ir_ref08_Min (sls 57) = true := by kernel_rfl
theorem ok58 : okFn Try.prog 58 ir_word_permitted (sls 58) = true := by kernel_rfl
theorem ok59 : okFn Try.prog 59 ir_slices_ContainsFunc_Sint_int (sls 59) = true := by kernel_rfl
theorem ok60 : okFn Try.prog 60 ir_word_Check_1 (sls 60) = true := by kernel_rfl
theorem ok61 : okFn Try.prog 61 ir_mealy_machine_move (sls 61) = true := by kernel_rfl
theorem ok62 : okFn Try.prog 62 ir_mealy_Trim (sls 62) = true := by kernel_rfl
theorem ok63 : okFn Try.prog 63 ir_minimize_Classes (sls 63) = true := by kernel_rfl
theorem ok64 : okFn Try.prog 64 ir_slices_BinarySearch_Sint_int (sls 64) = true := by kernel_rfl
theorem ok67 : okFn Try.prog 67 ir_slices_Compare_Sint_int (sls 67) = true := by kernel_rfl
theorem ok69 : okFn Try.prog 69 ir_ref01_Common (sls 69) = true := by kernel_rfl
theorem ok70 : okFn Try.prog 70 ir_ref09_Extended (sls 70) = true := by kernel_rfl
theorem ok71 : okFn Try.prog 71 ir_ref01_Size (sls 71) = true := by kernel_rfl
theorem ok72 : okFn Try.prog 72 ir_ref08_Classes (sls 72) = true := by kernel_rfl
theorem ok73 : okFn Try.prog 73 ir_slices_IndexFunc_Sint_int (sls 73) = true := by kernel_rfl
theorem ok74 : okFn Try.prog 74 ir_slices_Clone_Sint_int (sls 74) = true := by kernel_rfl
theorem ok75 : okFn Try.prog 75 ir_minimize_Partition (sls 75) = true := by kernel_rfl
theorem ok76 : okFn Try.prog 76 ir_cmp_Less_int (sls 76) = true := by kernel_rfl
theorem ok77 : okFn Try.prog 77 ir_slices_isNaN_int (sls 77) = true := by kernel_rfl
theorem ok88 : okFn Try.prog 88 ir_cmp_Compare_int (sls 88) = true := by kernel_rfl
theorem ok89 : okFn Try.prog 89 ir_ref08_Partition (sls 89) = true := by kernel_rfl
theorem ok90 : okFn Try.prog 90 ir_minimize_refine (sls 90) = true := by kernel_rfl
theorem ok91 : okFn Try.prog 91 ir_cmp_isNaN_int (sls 91) = true := by kernel_rfl
theorem ok97 : okFn Try.prog 97 ir_ref08_finer (sls 97) = true := by kernel_rfl
theorem ok98 : okFn Try.prog 98 ir_minimize_next (sls 98) = true := by kernel_rfl
theorem okG : ∀ f fn, G f = some fn → ∃ sl, okFn Try.prog f fn sl = true := by
  intro f fn h
  unfold G at h
  split at h
  · cases h; exact ⟨_, ok3⟩
  · cases h; exact ⟨_, ok4⟩
  · cases h; exact ⟨_, ok5⟩
  · cases h; exact ⟨_, ok6⟩
  · cases h; exact ⟨_, ok7⟩
  · cases h; exact ⟨_, ok8⟩
  · cases h; exact ⟨_, ok9⟩
  · cases h; exact ⟨_, ok10⟩
  · cases h; exact ⟨_, ok11⟩
  · cases h; exact ⟨_, ok12⟩
  · cases h; exact ⟨_, ok13⟩
  · cases h; exact ⟨_, ok14⟩
  · cases h; exact ⟨_, ok15⟩
  · cases h; exact ⟨_, ok16⟩
  · cases h; exact ⟨_, ok17⟩
  · cases h; exact ⟨_, ok18⟩
  · cases h; exact ⟨_, ok19⟩
  · cases h; exact ⟨_, ok20⟩
  · cases h; exact ⟨_, ok21⟩
  · cases h; exact ⟨_, ok22⟩
  · cases h; exact ⟨_, ok23⟩
  · cases h; exact ⟨_, ok24⟩
  · cases h; exact ⟨_, ok25⟩
  · cases h; exact ⟨_, ok26⟩
  · cases h; exact ⟨_, ok27⟩
  · cases h; exact ⟨_, ok28⟩
  · cases h; exact ⟨_, ok29⟩
  · cases h; exact ⟨_, ok30⟩
  · cases h; exact ⟨_, ok31⟩
  · cases h; exact ⟨_, ok32⟩
  · cases h; exact ⟨_, ok33⟩
  · cases h; exact ⟨_, ok34⟩
  · cases h; exact ⟨_, ok35⟩
  · cases h; exact ⟨_, ok36⟩
  · cases h; exact ⟨_, ok37⟩
  · cases h; exact ⟨_, ok38⟩
  · cases h; exact ⟨_, ok39⟩
  · cases h; exact ⟨_, ok40⟩
  · cases h; exact ⟨_, ok41⟩
  · cases h; exact ⟨_, ok42⟩
  · cases h; exact ⟨_, ok43⟩
  · cases h; exact ⟨_, ok44⟩
  · cases h; exact ⟨_, ok45⟩
  · cases h; exact ⟨_, ok47⟩
  · cases h; exact ⟨_, ok48⟩
  · cases h; exact ⟨_, ok49⟩
  · cases h; exact ⟨_, ok50⟩
  · cases h; exact ⟨_, ok51⟩
  · cases h; exact ⟨_, ok52⟩
  · cases h; exact ⟨_, ok53⟩
  · cases h; exact ⟨_, ok54⟩
  · cases h; exact ⟨_, ok55⟩
  · cases h; exact ⟨_, ok56⟩
  · cases h; exact ⟨_, ok57⟩
  · cases h; exact ⟨_, ok58⟩
  · cases h; exact ⟨_, ok59⟩
  · cases h; exact ⟨_, ok60⟩
  · cases h; exact ⟨_, ok61⟩
  · cases h; exact ⟨_, ok62⟩
  · cases h; exact ⟨_, ok63⟩
  · cases h; exact ⟨_, ok64⟩
  · cases h; exact ⟨_, ok67⟩
  · cases h; exact ⟨_, ok69⟩
  · cases h; exact ⟨_, ok70⟩
  · cases h; exact ⟨_, ok71⟩
  · cases h; exact ⟨_, ok72⟩
  · cases h; exact ⟨_, ok73⟩
  · cases h; exact ⟨_, ok74⟩
  · cases h; exact ⟨_, ok75⟩
  · cases h; exact ⟨_, ok76⟩
  · cases h; exact ⟨_, ok77⟩
  · cases h; exact ⟨_, ok88⟩
  · cases h; exact ⟨_, ok89⟩
  · cases h; exact ⟨_, ok90⟩
  · cases h; exact ⟨_, ok91⟩
  · cases h; exact ⟨_, ok97⟩
  · cases h; exact ⟨_, ok98⟩
  · cases h
theorem mixed : Try.prog.follows .mixedOrders = true := by kernel_rfl
theorem prim46 : PrimOk Try.prog 46 (pSortP 2) := sortp_ok (ρ := Try.sortS46L_ren) Try.sortS46L rfl (by kernel_rfl) (by kernel_rfl)
theorem prim68 : PrimOk Try.prog 68 pGrow := grow_ok (ρ := Try.growL_ren) Try.growL rfl (by kernel_rfl) (by kernel_rfl)
theorem prim74 : PrimOk Try.prog 74 (vPrim pClone1) := clone_ok' (t := 4) (sl := sls 74) mixed ok74
theorem okQ : ∀ f p, Q f = some p → PrimOk Try.prog f p := by
  intro f p h
  unfold Q at h
  split at h
  · cases h; exact prim46
  · cases h; exact prim68
  · cases h; exact prim74
  · cases h
theorem L_ok : CallOk Try.prog L := by
  intro f args σ r σ' h
  obtain ⟨N, hN⟩ := lim_ex h
  exact (callN_ok mixed okG okQ N).1 f args σ r σ' hN
end Ab
