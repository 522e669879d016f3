/- Each small text is the program's function. Condition: none. -/
import Derived.Test.YtgaidfgpedibhaaProg
import Derived.KernelRfl
import Derived.Test.YtgaidfgpedibhaaAbClone
import Derived.Test.YtgaidfgpedibhaaIr
set_option linter.all false
namespace Ab
open Go Go.Proofs
theorem ok3 : okFn Try.prog 3 ir_law43_NestedValid (sls 3) = true := by kernel_rfl
theorem ok4 : okFn Try.prog 4 ir_law43_NestedAccepts (sls 4) = true := by kernel_rfl
theorem ok5 : okFn Try.prog 5 ir_law43_NestedPairs (sls 5) = true := by kernel_rfl
theorem ok6 : okFn Try.prog 6 ir_law43_NestedShortest (sls 6) = true := by kernel_rfl
theorem ok7 : okFn Try.prog 7 ir_law43_NestedDiffers (sls 7) = true := by kernel_rfl
theorem ok8 : okFn Try.prog 8 ir_law43_NestedConnects (sls 8) = true := by kernel_rfl
theorem ok9 : okFn Try.prog 9 ir_law43_NestedFirst (sls 9) = true := by kernel_rfl
theorem ok10 : okFn Try.prog 10 ir_law43_NestedApart (sls 10) = true := by kernel_rfl
theorem ok11 : okFn Try.prog 11 ir_nested_Valid (sls 11) = true := by kernel_rfl
theorem ok12 : okFn Try.prog 12 ir_ref43_Valid (sls 12) = true := by kernel_rfl
theorem ok13 : okFn Try.prog 13 ir_law43_awake (sls 13) = true := by kernel_rfl
theorem ok14 : okFn Try.prog 14 ir_nested_Accepts (sls 14) = true := by kernel_rfl
theorem ok15 : okFn Try.prog 15 ir_ref43_Accepts (sls 15) = true := by kernel_rfl
theorem ok16 : okFn Try.prog 16 ir_nested_Matched (sls 16) = true := by kernel_rfl
theorem ok17 : okFn Try.prog 17 ir_ref43_Matched (sls 17) = true := by kernel_rfl
theorem ok18 : okFn Try.prog 18 ir_law43_Small (sls 18) = true := by kernel_rfl
theorem ok19 : okFn Try.prog 19 ir_nested_Pairs (sls 19) = true := by kernel_rfl
theorem ok20 : okFn Try.prog 20 ir_ref43_Pairs (sls 20) = true := by kernel_rfl
theorem ok21 : okFn Try.prog 21 ir_ref43_SameTables (sls 21) = true := by kernel_rfl
theorem ok22 : okFn Try.prog 22 ir_nested_Shortest (sls 22) = true := by kernel_rfl
theorem ok23 : okFn Try.prog 23 ir_ref43_Shortest (sls 23) = true := by kernel_rfl
theorem ok24 : okFn Try.prog 24 ir_ref06_Ints (sls 24) = true := by kernel_rfl
theorem ok25 : okFn Try.prog 25 ir_nested_Differ (sls 25) = true := by kernel_rfl
theorem ok26 : okFn Try.prog 26 ir_ref43_Differ (sls 26) = true := by kernel_rfl
theorem ok27 : okFn Try.prog 27 ir_ref43_From (sls 27) = true := by kernel_rfl
theorem ok28 : okFn Try.prog 28 ir_ref01_Compare (sls 28) = true := by kernel_rfl
theorem ok29 : okFn Try.prog 29 ir_nested_outside (sls 29) = true := by kernel_rfl
theorem ok30 : okFn Try.prog 30 ir_nested_symbols (sls 30) = true := by kernel_rfl
theorem ok31 : okFn Try.prog 31 ir_nested_row (sls 31) = true := by kernel_rfl
theorem ok32 : okFn Try.prog 32 ir_ref43_sizes (sls 32) = true := by kernel_rfl
theorem ok33 : okFn Try.prog 33 ir_ref43_state (sls 33) = true := by kernel_rfl
theorem ok34 : okFn Try.prog 34 ir_law43_Brackets (sls 34) = true := by kernel_rfl
theorem ok35 : okFn Try.prog 35 ir_word_Check (sls 35) = true := by kernel_rfl
theorem ok36 : okFn Try.prog 36 ir_nested_levels (sls 36) = true := by kernel_rfl
theorem ok37 : okFn Try.prog 37 ir_nested_single_call (sls 37) = true := by kernel_rfl
theorem ok38 : okFn Try.prog 38 ir_nested_stack_int_push (sls 38) = true := by kernel_rfl
theorem ok39 : okFn Try.prog 39 ir_nested_single_inner (sls 39) = true := by kernel_rfl
theorem ok40 : okFn Try.prog 40 ir_nested_single_pop (sls 40) = true := by kernel_rfl
theorem ok41 : okFn Try.prog 41 ir_nested_stack_int_pop (sls 41) = true := by kernel_rfl
theorem ok42 : okFn Try.prog 42 ir_ref01_Check (sls 42) = true := by kernel_rfl
theorem ok43 : okFn Try.prog 43 ir_ref43_Symbols (sls 43) = true := by kernel_rfl
theorem ok44 : okFn Try.prog 44 ir_ref43_depths (sls 44) = true := by kernel_rfl
theorem ok45 : okFn Try.prog 45 ir_nested_connected (sls 45) = true := by kernel_rfl
theorem ok46 : okFn Try.prog 46 ir_ref43_connected (sls 46) = true := by kernel_rfl
theorem ok47 : okFn Try.prog 47 ir_ref43_SameBools (sls 47) = true := by kernel_rfl
theorem ok48 : okFn Try.prog 48 ir_nested_first (sls 48) = true := by kernel_rfl
theorem ok49 : okFn Try.prog 49 ir_ref43_first (sls 49) = true := by kernel_rfl
theorem ok50 : okFn Try.prog 50 ir_nested_double_size (sls 50) = true := by kernel_rfl
theorem ok51 : okFn Try.prog 51 ir_nested_double_split (sls 51) = true := by kernel_rfl
theorem ok52 : okFn Try.prog 52 ir_nested_single_size (sls 52) = true := by kernel_rfl
theorem ok53 : okFn Try.prog 53 ir_ref43_product (sls 53) = true := by kernel_rfl
theorem ok54 : okFn Try.prog 54 ir_ref01_Lex (sls 54) = true := by kernel_rfl
theorem ok55 : okFn Try.prog 55 ir_slices_ContainsFunc_Sint_int (sls 55) = true := by kernel_rfl
theorem ok56 : okFn Try.prog 56 ir_nested_outside_1 (sls 56) = true := by kernel_rfl
theorem ok57 : okFn Try.prog 57 ir_ref43_isState (sls 57) = true := by kernel_rfl
theorem ok58 : okFn Try.prog 58 ir_word_permitted (sls 58) = true := by kernel_rfl
theorem ok59 : okFn Try.prog 59 ir_word_Check_1 (sls 59) = true := by kernel_rfl
theorem ok60 : okFn Try.prog 60 ir_ref01_Size (sls 60) = true := by kernel_rfl
theorem ok61 : okFn Try.prog 61 ir_nested_spread (sls 61) = true := by kernel_rfl
theorem ok62 : okFn Try.prog 62 ir_nested_widen (sls 62) = true := by kernel_rfl
theorem ok63 : okFn Try.prog 63 ir_ref43_joined (sls 63) = true := by kernel_rfl
theorem ok64 : okFn Try.prog 64 ir_nested_newSearch (sls 64) = true := by kernel_rfl
theorem ok65 : okFn Try.prog 65 ir_nested_search_level (sls 65) = true := by kernel_rfl
theorem ok66 : okFn Try.prog 66 ir_word_Compare (sls 66) = true := by kernel_rfl
theorem ok67 : okFn Try.prog 67 ir_slices_Clone_Sint_int (sls 67) = true := by kernel_rfl
theorem ok68 : okFn Try.prog 68 ir_ref43_links (sls 68) = true := by kernel_rfl
theorem ok69 : okFn Try.prog 69 ir_ref43_better (sls 69) = true := by kernel_rfl
theorem ok70 : okFn Try.prog 70 ir_ref01_Join (sls 70) = true := by kernel_rfl
theorem ok71 : okFn Try.prog 71 ir_ref43_pops (sls 71) = true := by kernel_rfl
theorem ok72 : okFn Try.prog 72 ir_ref01_Common (sls 72) = true := by kernel_rfl
theorem ok73 : okFn Try.prog 73 ir_slices_IndexFunc_Sint_int (sls 73) = true := by kernel_rfl
theorem ok74 : okFn Try.prog 74 ir_nested_newBest (sls 74) = true := by kernel_rfl
theorem ok75 : okFn Try.prog 75 ir_nested_best_offer (sls 75) = true := by kernel_rfl
theorem ok76 : okFn Try.prog 76 ir_nested_best_take (sls 76) = true := by kernel_rfl
theorem ok77 : okFn Try.prog 77 ir_cmp_Or_int (sls 77) = true := by kernel_rfl
theorem ok78 : okFn Try.prog 78 ir_cmp_Compare_int (sls 78) = true := by kernel_rfl
theorem ok79 : okFn Try.prog 79 ir_slices_Compare_Sint_int (sls 79) = true := by kernel_rfl
theorem ok80 : okFn Try.prog 80 ir_ref43_improved (sls 80) = true := by kernel_rfl
theorem ok81 : okFn Try.prog 81 ir_ref01_Same (sls 81) = true := by kernel_rfl
theorem ok82 : okFn Try.prog 82 ir_cmp_isNaN_int (sls 82) = true := by kernel_rfl
theorem ok98 : okFn Try.prog 98 ir_nested_double_call (sls 98) = true := by kernel_rfl
theorem ok99 : okFn Try.prog 99 ir_nested_double_inner (sls 99) = true := by kernel_rfl
theorem ok100 : okFn Try.prog 100 ir_nested_double_pop (sls 100) = true := by kernel_rfl
theorem okG : ∀ f fn, G f = some fn → ∃ sl, okFn Try.prog f fn sl = true := by
  intro f fn h
  unfold G at h
  split at h
  · cases h; exact ⟨_, ok3⟩
  · cases h; exact ⟨_, ok4⟩
  · cases h; exact ⟨_, ok5⟩
  · cases h; exact ⟨_, ok6⟩
  · cases h; exact ⟨_, ok7⟩
  · cases h; exact ⟨_, ok8⟩
  · cases h; exact ⟨_, ok9⟩
  · cases h; exact ⟨_, ok10⟩
  · cases h; exact ⟨_, ok11⟩
  · cases h; exact ⟨_, ok12⟩
  · cases h; exact ⟨_, ok13⟩
  · cases h; exact ⟨_, ok14⟩
  · cases h; exact ⟨_, ok15⟩
  · cases h; exact ⟨_, ok16⟩
  · cases h; exact ⟨_, ok17⟩
  · cases h; exact ⟨_, ok18⟩
  · cases h; exact ⟨_, ok19⟩
  · cases h; exact ⟨_, ok20⟩
  · cases h; exact ⟨_, ok21⟩
  · cases h; exact ⟨_, ok22⟩
  · cases h; exact ⟨_, ok23⟩
  · cases h; exact ⟨_, ok24⟩
  · cases h; exact ⟨_, ok25⟩
  · cases h; exact ⟨_, ok26⟩
  · cases h; exact ⟨_, ok27⟩
  · cases h; exact ⟨_, ok28⟩
  · cases h; exact ⟨_, ok29⟩
  · cases h; exact ⟨_, ok30⟩
  · cases h; exact ⟨_, ok31⟩
  · cases h; exact ⟨_, ok32⟩
  · cases h; exact ⟨_, ok33⟩
  · cases h; exact ⟨_, ok34⟩
  · cases h; exact ⟨_, ok35⟩
  · cases h; exact ⟨_, ok36⟩
  · cases h; exact ⟨_, ok37⟩
  · cases h; exact ⟨_, ok38⟩
  · cases h; exact ⟨_, ok39⟩
  · cases h; exact ⟨_, ok40⟩
  · cases h; exact ⟨_, ok41⟩
  · cases h; exact ⟨_, ok42⟩
  · cases h; exact ⟨_, ok43⟩
  · cases h; exact ⟨_, ok44⟩
  · cases h; exact ⟨_, ok45⟩
  · cases h; exact ⟨_, ok46⟩
  · cases h; exact ⟨_, ok47⟩
  · cases h; exact ⟨_, ok48⟩
  · cases h; exact ⟨_, ok49⟩
  · cases h; exact ⟨_, ok50⟩
  · cases h; exact ⟨_, ok51⟩
  · cases h; exact ⟨_, ok52⟩
  · cases h; exact ⟨_, ok53⟩
  · cases h; exact ⟨_, ok54⟩
  · cases h; exact ⟨_, ok55⟩
  · cases h; exact ⟨_, ok56⟩
  · cases h; exact ⟨_, ok57⟩
  · cases h; exact ⟨_, ok58⟩
  · cases h; exact ⟨_, ok59⟩
  · cases h; exact ⟨_, ok60⟩
  · cases h; exact ⟨_, ok61⟩
  · cases h; exact ⟨_, ok62⟩
  · cases h; exact ⟨_, ok63⟩
  · cases h; exact ⟨_, ok64⟩
  · cases h; exact ⟨_, ok65⟩
  · cases h; exact ⟨_, ok66⟩
  · cases h; exact ⟨_, ok67⟩
  · cases h; exact ⟨_, ok68⟩
  · cases h; exact ⟨_, ok69⟩
  · cases h; exact ⟨_, ok70⟩
  · cases h; exact ⟨_, ok71⟩
  · cases h; exact ⟨_, ok72⟩
  · cases h; exact ⟨_, ok73⟩
  · cases h; exact ⟨_, ok74⟩
  · cases h; exact ⟨_, ok75⟩
  · cases h; exact ⟨_, ok76⟩
  · cases h; exact ⟨_, ok77⟩
  · cases h; exact ⟨_, ok78⟩
  · cases h; exact ⟨_, ok79⟩
  · cases h; exact ⟨_, ok80⟩
  · cases h; exact ⟨_, ok81⟩
  · cases h; exact ⟨_, ok82⟩
  · cases h; exact ⟨_, ok98⟩
  · cases h; exact ⟨_, ok99⟩
  · cases h; exact ⟨_, ok100⟩
  · cases h
theorem mixed : Try.prog.follows .mixedOrders = true := by kernel_rfl
theorem prim67 : PrimOk Try.prog 67 pClone1 := clone_ok (t := 4) (sl := sls 67) mixed ok67
theorem okQ : ∀ f p, Q f = some p → PrimOk Try.prog f p := by
  intro f p h
  unfold Q at h
  split at h
  · cases h; exact prim67
  · cases h
theorem L_ok : CallOk Try.prog L := by
  intro f args σ r σ' h
  obtain ⟨N, hN⟩ := lim_ex h
  exact (callN_ok mixed okG okQ N).1 f args σ r σ' hN
end Ab
