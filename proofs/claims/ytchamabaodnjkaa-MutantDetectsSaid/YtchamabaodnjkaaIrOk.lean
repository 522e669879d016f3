/- Each small text is the program's function. Condition: none. -/
import Derived.Test.YtchamabaodnjkaaAbSortI
import Derived.Test.YtchamabaodnjkaaAbGrow
import Derived.Test.YtchamabaodnjkaaProg
import Derived.KernelRfl
import Derived.Test.YtchamabaodnjkaaAbCloneS
import Derived.Test.YtchamabaodnjkaaIr
set_option linter.all false
namespace Go.Proofs
open Go.Shelf
def Try.growL_ren : Go.Shelf.Ren := ⟨fun | 4 => 88 | n => n, fun | 22 => 48 | 25 => 3 | 3 => 3 | 4 => 4 | 9 => 9 | 20 => 20 | 0 => 0 | n => n, fun | n => n⟩
theorem Try.growL : Go.Proofs.Lays8.n4 Try.prog Try.growL_ren := {
  mixed := by kernel_rfl
  f4 := ⟨Try.f88.name, by decide, Try.func88.trans (congrArg some (by kernel_rfl))⟩
  t0 := Try.underlying0
  a0 := Try.isAgg0
  z0 := Try.sizeOf0
  v0 := Try.zeroValue0
  t3 := Try.underlying3
  a3 := Try.isAgg3
  z3 := Try.sizeOf3
  v3 := Try.zeroValue3
  t4 := Try.underlying4
  a4 := Try.isAgg4
  z4 := Try.sizeOf4
  v4 := Try.zeroValue4
  t9 := Try.underlying9
  a9 := Try.isAgg9
  z9 := Try.sizeOf9
  v9 := Try.zeroValue9
  t20 := Try.underlying20
  a20 := Try.isAgg20
  z20 := Try.sizeOf20
  v20 := Try.zeroValue20
  t22 := Try.underlying48
  a22 := Try.isAgg48
  z22 := Try.sizeOf48
  v22 := Try.zeroValue48 }

def Try.sortIL_ren : Go.Shelf.Ren := ⟨fun | 189 => 30 | 125 => 49 | 257 => 48 | 128 => 70 | 129 => 71 | 294 => 61 | 295 => 62 | 296 => 63 | 297 => 64 | 298 => 65 | 299 => 66 | 216 => 67 | 300 => 68 | 301 => 69 | 328 => 78 | 329 => 79 | 330 => 80 | 331 => 81 | 332 => 82 | 215 => 83 | 343 => 89 | n => n, fun | 28 => 48 | 3 => 3 | 46 => 78 | 0 => 0 | 51 => 105 | 53 => 107 | 4 => 4 | 183 => 97 | 182 => 96 | 131 => 102 | 5 => 5 | 9 => 9 | 218 => 115 | 222 => 119 | 228 => 131 | 229 => 132 | n => n, fun | n => n⟩
theorem Try.sortIL : Go.Proofs.Lays.n189 Try.prog Try.sortIL_ren := {
  mixed := by kernel_rfl
  f125 := Try.func49.trans (congrArg some (by kernel_rfl))
  f128 := Try.func70.trans (congrArg some (by kernel_rfl))
  f129 := Try.func71.trans (congrArg some (by kernel_rfl))
  f189 := Try.func30.trans (congrArg some (by kernel_rfl))
  f215 := Try.func83.trans (congrArg some (by kernel_rfl))
  f216 := Try.func67.trans (congrArg some (by kernel_rfl))
  f257 := Try.func48.trans (congrArg some (by kernel_rfl))
  f294 := Try.func61.trans (congrArg some (by kernel_rfl))
  f295 := Try.func62.trans (congrArg some (by kernel_rfl))
  f296 := Try.func63.trans (congrArg some (by kernel_rfl))
  f297 := Try.func64.trans (congrArg some (by kernel_rfl))
  f298 := Try.func65.trans (congrArg some (by kernel_rfl))
  f299 := Try.func66.trans (congrArg some (by kernel_rfl))
  f300 := Try.func68.trans (congrArg some (by kernel_rfl))
  f301 := Try.func69.trans (congrArg some (by kernel_rfl))
  f328 := Try.func78.trans (congrArg some (by kernel_rfl))
  f329 := Try.func79.trans (congrArg some (by kernel_rfl))
  f330 := Try.func80.trans (congrArg some (by kernel_rfl))
  f331 := Try.func81.trans (congrArg some (by kernel_rfl))
  f332 := Try.func82.trans (congrArg some (by kernel_rfl))
  f343 := Try.func89.trans (congrArg some (by kernel_rfl))
  t0 := Try.underlying0
  a0 := Try.isAgg0
  z0 := Try.sizeOf0
  v0 := Try.zeroValue0
  t3 := Try.underlying3
  a3 := Try.isAgg3
  z3 := Try.sizeOf3
  v3 := Try.zeroValue3
  t4 := Try.underlying4
  a4 := Try.isAgg4
  z4 := Try.sizeOf4
  v4 := Try.zeroValue4
  t5 := Try.underlying5
  a5 := Try.isAgg5
  z5 := Try.sizeOf5
  v5 := Try.zeroValue5
  t9 := Try.underlying9
  a9 := Try.isAgg9
  z9 := Try.sizeOf9
  v9 := Try.zeroValue9
  t28 := Try.underlying48
  a28 := Try.isAgg48
  z28 := Try.sizeOf48
  v28 := Try.zeroValue48
  t46 := Try.underlying78
  a46 := Try.isAgg78
  z46 := Try.sizeOf78
  v46 := Try.zeroValue78
  t51 := Try.underlying105
  a51 := Try.isAgg105
  z51 := Try.sizeOf105
  v51 := Try.zeroValue105
  t53 := Try.underlying107
  a53 := Try.isAgg107
  z53 := Try.sizeOf107
  v53 := Try.zeroValue107
  t131 := Try.underlying102
  a131 := Try.isAgg102
  z131 := Try.sizeOf102
  v131 := Try.zeroValue102
  t182 := Try.underlying96
  a182 := Try.isAgg96
  z182 := Try.sizeOf96
  v182 := Try.zeroValue96
  t183 := Try.underlying97
  a183 := Try.isAgg97
  z183 := Try.sizeOf97
  v183 := Try.zeroValue97
  t218 := Try.underlying115
  a218 := Try.isAgg115
  z218 := Try.sizeOf115
  v218 := Try.zeroValue115
  t222 := Try.underlying119
  a222 := Try.isAgg119
  z222 := Try.sizeOf119
  v222 := Try.zeroValue119
  t228 := Try.underlying131
  a228 := Try.isAgg131
  z228 := Try.sizeOf131
  v228 := Try.zeroValue131
  t229 := Try.underlying132
  a229 := Try.isAgg132
  z229 := Try.sizeOf132
  v229 := Try.zeroValue132 }

end Go.Proofs
namespace Ab
open Go Go.Proofs
theorem ok3 : okFn Try.prog 3 ir_law33_MutantApplies (sls 3) = true := by kernel_rfl
theorem ok4 : okFn Try.prog 4 ir_law33_MutantAlls (sls 4) = true := by kernel_rfl
theorem ok5 : okFn Try.prog 5 ir_law33_MutantSurvivors (sls 5) = true := by kernel_rfl
theorem ok6 : okFn Try.prog 6 ir_law33_MutantDiffers (sls 6) = true := by kernel_rfl
theorem ok7 : okFn Try.prog 7 ir_law33_MutantDetects (sls 7) = true := by kernel_rfl
theorem ok8 : okFn Try.prog 8 ir_law08_Great (sls 8) = true := by kernel_rfl
theorem ok9 : okFn Try.prog 9 ir_law33_exampleHolds (sls 9) = true := by kernel_rfl
theorem ok10 : okFn Try.prog 10 ir_mutant_Apply (sls 10) = true := by kernel_rfl
theorem ok11 : okFn Try.prog 11 ir_ref33_Apply (sls 11) = true := by kernel_rfl
theorem ok12 : okFn Try.prog 12 ir_ref06_Same (sls 12) = true := by kernel_rfl
theorem ok13 : okFn Try.prog 13 ir_mutant_All (sls 13) = true := by kernel_rfl
theorem ok14 : okFn Try.prog 14 ir_ref33_All (sls 14) = true := by kernel_rfl
theorem ok15 : okFn Try.prog 15 ir_ref33_Same (sls 15) = true := by kernel_rfl
theorem ok16 : okFn Try.prog 16 ir_law11_Small (sls 16) = true := by kernel_rfl
theorem ok17 : okFn Try.prog 17 ir_law33_few (sls 17) = true := by kernel_rfl
theorem ok18 : okFn Try.prog 18 ir_mutant_Survivors (sls 18) = true := by kernel_rfl
theorem ok19 : okFn Try.prog 19 ir_ref33_Survivors (sls 19) = true := by kernel_rfl
theorem ok20 : okFn Try.prog 20 ir_ref06_Valid (sls 20) = true := by kernel_rfl
theorem ok21 : okFn Try.prog 21 ir_mealy_Outputs (sls 21) = true := by kernel_rfl
theorem ok22 : okFn Try.prog 22 ir_mealy_Valid (sls 22) = true := by kernel_rfl
theorem ok23 : okFn Try.prog 23 ir_equiv_Distinguish (sls 23) = true := by kernel_rfl
theorem ok24 : okFn Try.prog 24 ir_mutant_fits (sls 24) = true := by kernel_rfl
theorem ok25 : okFn Try.prog 25 ir_mutant_changed (sls 25) = true := by kernel_rfl
theorem ok26 : okFn Try.prog 26 ir_ref33_fits (sls 26) = true := by kernel_rfl
theorem ok27 : okFn Try.prog 27 ir_ref33_changed (sls 27) = true := by kernel_rfl
theorem ok28 : okFn Try.prog 28 ir_ref06_Lists (sls 28) = true := by kernel_rfl
theorem ok29 : okFn Try.prog 29 ir_mealy_Reach (sls 29) = true := by kernel_rfl
theorem ok31 : okFn Try.prog 31 ir_mutant_transition (sls 31) = true := by kernel_rfl
theorem ok32 : okFn Try.prog 32 ir_ref06_Reach (sls 32) = true := by kernel_rfl
theorem ok33 : okFn Try.prog 33 ir_ref06_Outputs (sls 33) = true := by kernel_rfl
theorem ok34 : okFn Try.prog 34 ir_ref33_single (sls 34) = true := by kernel_rfl
theorem ok35 : okFn Try.prog 35 ir_word_Check (sls 35) = true := by kernel_rfl
theorem ok36 : okFn Try.prog 36 ir_mutant_passes (sls 36) = true := by kernel_rfl
theorem ok37 : okFn Try.prog 37 ir_equiv_Equal (sls 37) = true := by kernel_rfl
theorem ok38 : okFn Try.prog 38 ir_ref01_Check (sls 38) = true := by kernel_rfl
theorem ok39 : okFn Try.prog 39 ir_ref09_Equal (sls 39) = true := by kernel_rfl
theorem ok40 : okFn Try.prog 40 ir_ref33_passes (sls 40) = true := by kernel_rfl
theorem ok41 : okFn Try.prog 41 ir_ref06_row (sls 41) = true := by kernel_rfl
theorem ok42 : okFn Try.prog 42 ir_slices_Compact_Sint_int (sls 42) = true := by kernel_rfl
theorem ok43 : okFn Try.prog 43 ir_equiv_check (sls 43) = true := by kernel_rfl
theorem ok44 : okFn Try.prog 44 ir_equiv_search (sls 44) = true := by kernel_rfl
theorem ok45 : okFn Try.prog 45 ir_mutant_clone (sls 45) = true := by kernel_rfl
theorem ok46 : okFn Try.prog 46 ir_slices_Clone_Sint_int (sls 46) = true := by kernel_rfl
theorem ok47 : okFn Try.prog 47 ir_ref06_Ints (sls 47) = true := by kernel_rfl
theorem ok50 : okFn Try.prog 50 ir_ref06_has (sls 50) = true := by kernel_rfl
theorem ok51 : okFn Try.prog 51 ir_ref06_insert (sls 51) = true := by kernel_rfl
theorem ok52 : okFn Try.prog 52 ir_word_permitted (sls 52) = true := by kernel_rfl
theorem ok53 : okFn Try.prog 53 ir_slices_ContainsFunc_Sint_int (sls 53) = true := by kernel_rfl
theorem ok54 : okFn Try.prog 54 ir_word_Check_1 (sls 54) = true := by kernel_rfl
theorem ok55 : okFn Try.prog 55 ir_mealy_Run (sls 55) = true := by kernel_rfl
theorem ok56 : okFn Try.prog 56 ir_slices_Equal_Sint_int (sls 56) = true := by kernel_rfl
theorem ok57 : okFn Try.prog 57 ir_ref01_Size (sls 57) = true := by kernel_rfl
theorem ok58 : okFn Try.prog 58 ir_ref09_Distinguish (sls 58) = true := by kernel_rfl
theorem ok59 : okFn Try.prog 59 ir_ref06_Run (sls 59) = true := by kernel_rfl
theorem ok60 : okFn Try.prog 60 ir_word_Join (sls 60) = true := by kernel_rfl
theorem ok72 : okFn Try.prog 72 ir_slices_IndexFunc_Sint_int (sls 72) = true := by kernel_rfl
theorem ok73 : okFn Try.prog 73 ir_mealy_From (sls 73) = true := by kernel_rfl
theorem ok74 : okFn Try.prog 74 ir_ref09_Check (sls 74) = true := by kernel_rfl
theorem ok75 : okFn Try.prog 75 ir_ref09_first (sls 75) = true := by kernel_rfl
theorem ok76 : okFn Try.prog 76 ir_ref06_From (sls 76) = true := by kernel_rfl
theorem ok77 : okFn Try.prog 77 ir_slices_Concat_Sint_int (sls 77) = true := by kernel_rfl
theorem ok84 : okFn Try.prog 84 ir_mealy_state (sls 84) = true := by kernel_rfl
theorem ok85 : okFn Try.prog 85 ir_mealy_runner_run (sls 85) = true := by kernel_rfl
theorem ok86 : okFn Try.prog 86 ir_ref09_Extended (sls 86) = true := by kernel_rfl
theorem ok87 : okFn Try.prog 87 ir_ref06_Outs (sls 87) = true := by kernel_rfl
theorem ok90 : okFn Try.prog 90 ir_mealy_machine_move (sls 90) = true := by kernel_rfl
theorem okG : ∀ f fn, G f = some fn → ∃ sl, okFn Try.prog f fn sl = true := by
  intro f fn h
  unfold G at h
  split at h
  · cases h; exact ⟨_, ok3⟩
  · cases h; exact ⟨_, ok4⟩
  · cases h; exact ⟨_, ok5⟩
  · cases h; exact ⟨_, ok6⟩
  · cases h; exact ⟨_, ok7⟩
  · cases h; exact ⟨_, ok8⟩
  · cases h; exact ⟨_, ok9⟩
  · cases h; exact ⟨_, ok10⟩
  · cases h; exact ⟨_, ok11⟩
  · cases h; exact ⟨_, ok12⟩
  · cases h; exact ⟨_, ok13⟩
  · cases h; exact ⟨_, ok14⟩
  · cases h; exact ⟨_, ok15⟩
  · cases h; exact ⟨_, ok16⟩
  · cases h; exact ⟨_, ok17⟩
  · cases h; exact ⟨_, ok18⟩
  · cases h; exact ⟨_, ok19⟩
  · cases h; exact ⟨_, ok20⟩
  · cases h; exact ⟨_, ok21⟩
  · cases h; exact ⟨_, ok22⟩
  · cases h; exact ⟨_, ok23⟩
  · cases h; exact ⟨_, ok24⟩
  · cases h; exact ⟨_, ok25⟩
  · cases h; exact ⟨_, ok26⟩
  · cases h; exact ⟨_, ok27⟩
  · cases h; exact ⟨_, ok28⟩
  · cases h; exact ⟨_, ok29⟩
  · cases h; exact ⟨_, ok31⟩
  · cases h; exact ⟨_, ok32⟩
  · cases h; exact ⟨_, ok33⟩
  · cases h; exact ⟨_, ok34⟩
  · cases h; exact ⟨_, ok35⟩
  · cases h; exact ⟨_, ok36⟩
  · cases h; exact ⟨_, ok37⟩
  · cases h; exact ⟨_, ok38⟩
  · cases h; exact ⟨_, ok39⟩
  · cases h; exact ⟨_, ok40⟩
  · cases h; exact ⟨_, ok41⟩
  · cases h; exact ⟨_, ok42⟩
  · cases h; exact ⟨_, ok43⟩
  · cases h; exact ⟨_, ok44⟩
  · cases h; exact ⟨_, ok45⟩
  · cases h; exact ⟨_, ok46⟩
  · cases h; exact ⟨_, ok47⟩
  · cases h; exact ⟨_, ok50⟩
  · cases h; exact ⟨_, ok51⟩
  · cases h; exact ⟨_, ok52⟩
  · cases h; exact ⟨_, ok53⟩
  · cases h; exact ⟨_, ok54⟩
  · cases h; exact ⟨_, ok55⟩
  · cases h; exact ⟨_, ok56⟩
  · cases h; exact ⟨_, ok57⟩
  · cases h; exact ⟨_, ok58⟩
  · cases h; exact ⟨_, ok59⟩
  · cases h; exact ⟨_, ok60⟩
  · cases h; exact ⟨_, ok72⟩
  · cases h; exact ⟨_, ok73⟩
  · cases h; exact ⟨_, ok74⟩
  · cases h; exact ⟨_, ok75⟩
  · cases h; exact ⟨_, ok76⟩
  · cases h; exact ⟨_, ok77⟩
  · cases h; exact ⟨_, ok84⟩
  · cases h; exact ⟨_, ok85⟩
  · cases h; exact ⟨_, ok86⟩
  · cases h; exact ⟨_, ok87⟩
  · cases h; exact ⟨_, ok90⟩
  · cases h
theorem mixed : Try.prog.follows .mixedOrders = true := by kernel_rfl
theorem prim30 : PrimOk Try.prog 30 pSortI := sortI_ok (ρ := Try.sortIL_ren) Try.sortIL rfl (by kernel_rfl)
theorem prim88 : PrimOk Try.prog 88 pGrow := grow_ok (ρ := Try.growL_ren) Try.growL rfl (by kernel_rfl) (by kernel_rfl)
theorem okQ : ∀ f p, Q f = some p → PrimOk Try.prog f p := by
  intro f p h
  unfold Q at h
  split at h
  · cases h; exact prim30
  · cases h; exact prim88
  · cases h
theorem L_ok : CallOk Try.prog L := by
  intro f args σ r σ' h
  obtain ⟨N, hN⟩ := lim_ex h
  exact (callN_ok mixed okG okQ N).1 f args σ r σ' hN
end Ab
