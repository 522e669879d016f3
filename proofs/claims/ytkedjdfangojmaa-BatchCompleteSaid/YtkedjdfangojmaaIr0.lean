/- The functions of the program as small texts, printed by a tool of mine. Condition: none. -/
import Derived.Test.YtkedjdfangojmaaAbBase
set_option linter.all false
namespace Ab
abbrev T_string : Nat := 9
def F_law20_BatchPlans : Nat := 3
def F_law20_BatchCosts : Nat := 4
def F_law20_BatchChains : Nat := 5
def F_law20_BatchComplete : Nat := 6
def F_law20_BatchSchedules : Nat := 7
def F_law20_BatchGroups : Nat := 8
def F_ref17_Great : Nat := 9
def F_ref02_Great : Nat := 10
def F_ref16_Valid : Nat := 11
def F_law20_awake : Nat := 12
def F_batch_Plan : Nat := 13
def F_ref20_Plan : Nat := 14
def F_ref01_SameWords : Nat := 15
def F_batch_Cost : Nat := 16
def F_ref20_Cost : Nat := 17
def F_batch_Groups : Nat := 18
def F_ref20_Groups : Nat := 19
def F_ref20_SameGroups : Nat := 20
def F_ref19_Great : Nat := 21
def F_batch_Chain : Nat := 22
def F_ref20_Chain : Nat := 23
def F_ref20_SameMoves : Nat := 24
def F_ref16_Of : Nat := 25
def F_ref16_Answer : Nat := 26
def F_ref02_Has : Nat := 27
def F_ref01_Compare : Nat := 28
def F_ref01_HasPrefix : Nat := 29
def F_ref06_Traces : Nat := 30
def F_ref16_All : Nat := 31
def F_ref02_Maximal : Nat := 32
def F_ref06_Valid : Nat := 33
def F_ref01_Check : Nat := 34
def F_ref01_Same : Nat := 35
def F_ref16_Proper : Nat := 36
def F_ref16_apart : Nat := 37
def F_word_Check : Nat := 38
def F_observe_Answer : Nat := 39
def F_wordset_Maximal : Nat := 40
def F_ref20_check : Nat := 41
def F_device_Cost : Nat := 42
def F_ref19_Cost : Nat := 43
def F_word_Join : Nat := 44
def F_batch_first : Nat := 45
def F_mealy_Valid : Nat := 46
def F_batch_fits : Nat := 47
def F_cover_Path : Nat := 48
def F_batch_steps : Nat := 49
def F_mealy_From : Nat := 50
def F_ref19_Fits : Nat := 51
def F_ref10_Path : Nat := 52
def F_ref20_steps : Nat := 53
def F_ref06_Outs : Nat := 54
def F_ref01_Join : Nat := 55
def F_ref01_Lex : Nat := 56
def F_ref01_Common : Nat := 57
def F_ref16_Add : Nat := 58
def F_ref02_Sorted : Nat := 59
def F_ref06_row : Nat := 60
def F_ref01_Size : Nat := 61
def F_ref16_Differ : Nat := 62
def F_word_permitted : Nat := 63
def F_slices_ContainsFunc_Sint_int : Nat := 64
def F_word_Check_1 : Nat := 65
def F_slices_IndexFunc_Sapi_Trace_api_Trace : Nat := 66
def F_observe_Answer_1 : Nat := 67
def F_word_HasPrefix : Nat := 68
def F_slices_Clone_Sint_int : Nat := 69
def F_wordset_ordered : Nat := 70
def F_word_Lex : Nat := 71
def F_wordset_Sorted : Nat := 72
def F_device_costs : Nat := 73
def F_ref19_costs : Nat := 74
def F_slices_Concat_Sint_int : Nat := 75
def F_batch_fits_1 : Nat := 76
def F_cover_places : Nat := 77
def F_mealy_state : Nat := 78
def F_mealy_runner_run : Nat := 79
def F_ref10_Access : Nat := 80
def F_ref16_add : Nat := 81
def F_ref02_with : Nat := 82
def F_slices_IndexFunc_Sint_int : Nat := 83
def F_word_Common : Nat := 84
def F_slices_Clone_SSint_Sint : Nat := 85
def F_slices_SortFunc_SSint_Sint : Nat := 86
def F_slices_CompactFunc_SSint_Sint : Nat := 87
def F_wordset_ordered_1 : Nat := 88
def F_slices_Compare_Sint_int : Nat := 89
def F_word_Compare : Nat := 90
def F_device_costs_1 : Nat := 91
def F_device_outside : Nat := 92
def F_slices_Grow_Sint_int : Nat := 93
def F_mealy_machine_move : Nat := 94
def F_ref10_has : Nat := 95
def F_ref09_Extended : Nat := 96
def F_ref16_copied : Nat := 97
def F_ref02_place : Nat := 98
def F_slices_pdqsortCmpFunc_Sint : Nat := 99
def F_math_bits_Len : Nat := 100
def F_cmp_Compare_int : Nat := 101
def F_cmp_Or_int : Nat := 102
def F_slices_insertionSortCmpFunc_Sint : Nat := 103
def F_slices_heapSortCmpFunc_Sint : Nat := 104
def F_slices_breakPatternsCmpFunc_Sint : Nat := 105
def F_slices_choosePivotCmpFunc_Sint : Nat := 106
def F_slices_reverseRangeCmpFunc_Sint : Nat := 107
def F_slices_partialInsertionSortCmpFunc_Sint : Nat := 108
def F_slices_partitionEqualCmpFunc_Sint : Nat := 109
def F_slices_partitionCmpFunc_Sint : Nat := 110
def F_math_bits_Len32 : Nat := 111
def F_math_bits_Len64 : Nat := 112
def F_cmp_isNaN_int : Nat := 113
def F_slices_siftDownCmpFunc_Sint : Nat := 114
def F_slices_nextPowerOfTwo : Nat := 115
def F_slices_xorshift_Next : Nat := 116
def F_slices_medianAdjacentCmpFunc_Sint : Nat := 117
def F_slices_medianCmpFunc_Sint : Nat := 118
def F_slices_order2CmpFunc_Sint : Nat := 119
/- f3 law20_BatchPlans : 0:o 1:queries 2:o 3:a 4:b 5:e 6:f 7:_ -/
abbrev r_law20_BatchPlans_0 : Reg := ⟨[⟨.bxi (.v 0), none, false⟩, ⟨.mv (.c (.bool false)), none, false⟩], [(2, 1)], [0, 7], none⟩
abbrev r_law20_BatchPlans_1 : Reg := ⟨[⟨.fad (.v 2) 1 none, none, false⟩, ⟨.ldi (.t 0) none, none, false⟩, ⟨.cal F_ref17_Great [(.t 0)], none, false⟩, ⟨.mv (.t 0), none, false⟩, ⟨.mv (.v 1), some (.t 0, false), false⟩, ⟨.cal F_ref02_Great [(.t 0), (.c (.int (30))), (.c (.int (40)))], some (.t 1, false), false⟩, ⟨.pick (.t 2) (.c (.bool true)) (.t 0), none, false⟩, ⟨.mv (.t 0), none, false⟩, ⟨.ldi (.v 2) (some 2), some (.t 0, false), false⟩, ⟨.cal F_ref16_Valid [(.t 0)], some (.t 1, false), false⟩, ⟨.bin .neq (.t 0) (.c (.int (0))), some (.t 2, false), false⟩, ⟨.pick (.t 3) (.c (.bool true)) (.t 0), none, false⟩], [], [], some (20, 0)⟩
abbrev r_law20_BatchPlans_2 : Reg := ⟨[⟨.cal F_law20_awake [], none, false⟩, ⟨.mv (.t 0), none, false⟩], [(7, 0)], [1, 2], none⟩
abbrev r_law20_BatchPlans_3 : Reg := ⟨[⟨.ldi (.v 2) (some 2), none, false⟩, ⟨.mv (.v 1), none, false⟩, ⟨.cal F_batch_Plan [(.t 1), (.t 0)], none, false⟩, ⟨.mv (.t 0), none, false⟩, ⟨.ext (.t 0) 0, none, false⟩, ⟨.ext (.t 1) 1, none, false⟩, ⟨.mv (.t 1), none, false⟩, ⟨.mv (.t 1), none, false⟩], [(3, 1), (5, 0)], [], none⟩
abbrev r_law20_BatchPlans_4 : Reg := ⟨[⟨.ldi (.v 2) (some 2), none, false⟩, ⟨.mv (.v 1), none, false⟩, ⟨.cal F_ref20_Plan [(.t 1), (.t 0)], none, false⟩, ⟨.mv (.t 0), none, false⟩, ⟨.ext (.t 0) 0, none, false⟩, ⟨.ext (.t 1) 1, none, false⟩, ⟨.mv (.t 1), none, false⟩, ⟨.mv (.t 1), none, false⟩], [(4, 1), (6, 0)], [1, 2], none⟩
abbrev r_law20_BatchPlans_5 : Reg := ⟨[⟨.mv (.v 3), none, false⟩, ⟨.mv (.v 4), none, false⟩, ⟨.cal F_ref01_SameWords [(.t 1), (.t 0)], none, false⟩, ⟨.mv (.t 0), none, false⟩, ⟨.mv (.v 5), some (.t 0, true), false⟩, ⟨.mv (.v 6), some (.t 1, true), false⟩, ⟨.bin .eql (.t 1) (.t 0), some (.t 2, true), false⟩, ⟨.pick (.t 3) (.t 0) (.c (.bool false)), none, false⟩, ⟨.mv (.t 0), none, false⟩, ⟨.cal F_law20_awake [], some (.t 0, true), false⟩, ⟨.pick (.t 1) (.t 0) (.c (.bool false)), none, false⟩, ⟨.mv (.t 0), none, false⟩], [(7, 0)], [3, 4, 5, 6], none⟩
abbrev ir_law20_BatchPlans : Fn := { np := 2, nv := 8, res := [(7, none)], body :=
(.seq (.reg r_law20_BatchPlans_0)
 (.seq (.seq (.reg r_law20_BatchPlans_1)
 (.cond 20 (.seq (.reg r_law20_BatchPlans_2)
 .ret) .skip))
 (.seq (.reg r_law20_BatchPlans_3)
 (.seq (.reg r_law20_BatchPlans_4)
 (.seq (.reg r_law20_BatchPlans_5)
 .ret))))) }
/- f4 law20_BatchCosts : 0:l 1:words 2:most 3:l 4:n 5:m 6:e 7:f 8:p 9:q 10:g 11:h 12:_ -/
abbrev r_law20_BatchCosts_0 : Reg := ⟨[⟨.bxi (.v 0), none, false⟩, ⟨.mv (.c (.bool false)), none, false⟩], [(3, 1)], [0, 12], none⟩
abbrev r_law20_BatchCosts_1 : Reg := ⟨[⟨.fad (.v 3) 0 none, none, false⟩, ⟨.ldi (.t 0) none, none, false⟩, ⟨.len (.t 0), none, false⟩, ⟨.bin .gtr (.t 0) (.c (.int (70))), none, false⟩, ⟨.mv (.t 0), none, false⟩, ⟨.mv (.v 1), some (.t 0, false), false⟩, ⟨.cal F_ref02_Great [(.t 0), (.c (.int (30))), (.c (.int (40)))], some (.t 1, false), false⟩, ⟨.pick (.t 2) (.c (.bool true)) (.t 0), none, false⟩], [], [], some (22, 0)⟩
abbrev r_law20_BatchCosts_2 : Reg := ⟨[⟨.cal F_law20_awake [], none, false⟩, ⟨.mv (.t 0), none, false⟩], [(12, 0)], [1, 2, 3], none⟩
abbrev r_law20_BatchCosts_3 : Reg := ⟨[⟨.ldi (.v 3) (some 2), none, false⟩, ⟨.mv (.v 1), none, false⟩, ⟨.cal F_batch_Cost [(.t 1), (.t 0)], none, false⟩, ⟨.mv (.t 0), none, false⟩, ⟨.ext (.t 0) 0, none, false⟩, ⟨.ext (.t 1) 1, none, false⟩, ⟨.mv (.t 1), none, false⟩, ⟨.mv (.t 1), none, false⟩], [(4, 1), (6, 0)], [], none⟩
abbrev r_law20_BatchCosts_4 : Reg := ⟨[⟨.ldi (.v 3) (some 2), none, false⟩, ⟨.mv (.v 1), none, false⟩, ⟨.cal F_ref20_Cost [(.t 1), (.t 0)], none, false⟩, ⟨.mv (.t 0), none, false⟩, ⟨.ext (.t 0) 0, none, false⟩, ⟨.ext (.t 1) 1, none, false⟩, ⟨.mv (.t 1), none, false⟩, ⟨.mv (.t 1), none, false⟩], [(5, 1), (7, 0)], [3], none⟩
abbrev r_law20_BatchCosts_5 : Reg := ⟨[⟨.mv (.v 1), none, false⟩, ⟨.mv (.v 2), none, false⟩, ⟨.cal F_batch_Groups [(.t 1), (.t 0)], none, false⟩, ⟨.mv (.t 0), none, false⟩, ⟨.ext (.t 0) 0, none, false⟩, ⟨.ext (.t 1) 1, none, false⟩, ⟨.mv (.t 1), none, false⟩, ⟨.mv (.t 1), none, false⟩], [(8, 1), (10, 0)], [], none⟩
abbrev r_law20_BatchCosts_6 : Reg := ⟨[⟨.mv (.v 1), none, false⟩, ⟨.mv (.v 2), none, false⟩, ⟨.cal F_ref20_Groups [(.t 1), (.t 0)], none, false⟩, ⟨.mv (.t 0), none, false⟩, ⟨.ext (.t 0) 0, none, false⟩, ⟨.ext (.t 1) 1, none, false⟩, ⟨.mv (.t 1), none, false⟩, ⟨.mv (.t 1), none, false⟩], [(9, 1), (11, 0)], [1, 2], none⟩
abbrev r_law20_BatchCosts_7 : Reg := ⟨[⟨.mv (.v 4), none, false⟩, ⟨.mv (.v 5), none, false⟩, ⟨.bin .eql (.t 1) (.t 0), none, false⟩, ⟨.mv (.t 0), none, false⟩, ⟨.mv (.v 6), some (.t 0, true), false⟩, ⟨.mv (.v 7), some (.t 1, true), false⟩, ⟨.bin .eql (.t 1) (.t 0), some (.t 2, true), false⟩, ⟨.pick (.t 3) (.t 0) (.c (.bool false)), none, false⟩, ⟨.mv (.t 0), none, false⟩, ⟨.mv (.v 8), some (.t 0, true), false⟩, ⟨.mv (.v 9), some (.t 1, true), false⟩, ⟨.cal F_ref20_SameGroups [(.t 1), (.t 0)], some (.t 2, true), false⟩, ⟨.pick (.t 3) (.t 0) (.c (.bool false)), none, false⟩, ⟨.mv (.t 0), none, false⟩, ⟨.mv (.v 10), some (.t 0, true), false⟩, ⟨.mv (.v 11), some (.t 1, true), false⟩, ⟨.bin .eql (.t 1) (.t 0), some (.t 2, true), false⟩, ⟨.pick (.t 3) (.t 0) (.c (.bool false)), none, false⟩, ⟨.mv (.t 0), none, false⟩, ⟨.cal F_law20_awake [], some (.t 0, true), false⟩, ⟨.pick (.t 1) (.t 0) (.c (.bool false)), none, false⟩, ⟨.mv (.t 0), none, false⟩], [(12, 0)], [4, 5, 6, 7, 8, 9, 10, 11], none⟩
abbrev ir_law20_BatchCosts : Fn := { np := 3, nv := 13, res := [(12, none)], body :=
(.seq (.reg r_law20_BatchCosts_0)
 (.seq (.seq (.reg r_law20_BatchCosts_1)
 (.cond 22 (.seq (.reg r_law20_BatchCosts_2)
 .ret) .skip))
 (.seq (.reg r_law20_BatchCosts_3)
 (.seq (.reg r_law20_BatchCosts_4)
 (.seq (.reg r_law20_BatchCosts_5)
 (.seq (.reg r_law20_BatchCosts_6)
 (.seq (.reg r_law20_BatchCosts_7)
 .ret))))))) }
/- f5 law20_BatchChains : 0:m 1:l 2:words 3:m 4:l 5:a 6:b 7:n 8:k 9:e 10:f 11:_ -/
abbrev r_law20_BatchChains_0 : Reg := ⟨[⟨.bxi (.v 0), none, false⟩, ⟨.bxi (.v 1), none, false⟩, ⟨.mv (.c (.bool false)), none, false⟩], [(3, 2), (4, 1)], [0, 1, 11], none⟩
abbrev r_law20_BatchChains_1 : Reg := ⟨[⟨.ldi (.v 3) (some 4), none, false⟩, ⟨.ldi (.v 4) (some 2), none, false⟩, ⟨.cal F_ref19_Great [(.t 1), (.t 0)], none, false⟩, ⟨.mv (.t 0), none, false⟩, ⟨.mv (.v 2), some (.t 0, false), false⟩, ⟨.cal F_ref02_Great [(.t 0), (.c (.int (20))), (.c (.int (40)))], some (.t 1, false), false⟩, ⟨.pick (.t 2) (.c (.bool true)) (.t 0), none, false⟩], [], [], some (19, 0)⟩
abbrev r_law20_BatchChains_2 : Reg := ⟨[⟨.cal F_law20_awake [], none, false⟩, ⟨.mv (.t 0), none, false⟩], [(11, 0)], [2, 3, 4], none⟩
abbrev r_law20_BatchChains_3 : Reg := ⟨[⟨.ldi (.v 3) (some 4), none, false⟩, ⟨.ldi (.v 4) (some 2), none, false⟩, ⟨.mv (.v 2), none, false⟩, ⟨.cal F_batch_Chain [(.t 2), (.t 1), (.t 0)], none, false⟩, ⟨.mv (.t 0), none, false⟩, ⟨.ext (.t 0) 0, none, false⟩, ⟨.ext (.t 1) 1, none, false⟩, ⟨.ext (.t 2) 2, none, false⟩, ⟨.mv (.t 2), none, false⟩, ⟨.mv (.t 2), none, false⟩, ⟨.mv (.t 2), none, false⟩], [(5, 2), (7, 1), (9, 0)], [], none⟩
abbrev r_law20_BatchChains_4 : Reg := ⟨[⟨.ldi (.v 3) (some 4), none, false⟩, ⟨.ldi (.v 4) (some 2), none, false⟩, ⟨.mv (.v 2), none, false⟩, ⟨.cal F_ref20_Chain [(.t 2), (.t 1), (.t 0)], none, false⟩, ⟨.mv (.t 0), none, false⟩, ⟨.ext (.t 0) 0, none, false⟩, ⟨.ext (.t 1) 1, none, false⟩, ⟨.ext (.t 2) 2, none, false⟩, ⟨.mv (.t 2), none, false⟩, ⟨.mv (.t 2), none, false⟩, ⟨.mv (.t 2), none, false⟩], [(6, 2), (8, 1), (10, 0)], [2, 3, 4], none⟩
abbrev r_law20_BatchChains_5 : Reg := ⟨[⟨.mv (.v 5), none, false⟩, ⟨.mv (.v 6), none, false⟩, ⟨.cal F_ref20_SameMoves [(.t 1), (.t 0)], none, false⟩, ⟨.mv (.t 0), none, false⟩, ⟨.mv (.v 7), some (.t 0, true), false⟩, ⟨.mv (.v 8), some (.t 1, true), false⟩, ⟨.bin .eql (.t 1) (.t 0), some (.t 2, true), false⟩, ⟨.pick (.t 3) (.t 0) (.c (.bool false)), none, false⟩, ⟨.mv (.t 0), none, false⟩, ⟨.mv (.v 9), some (.t 0, true), false⟩, ⟨.mv (.v 10), some (.t 1, true), false⟩, ⟨.bin .eql (.t 1) (.t 0), some (.t 2, true), false⟩, ⟨.pick (.t 3) (.t 0) (.c (.bool false)), none, false⟩, ⟨.mv (.t 0), none, false⟩, ⟨.cal F_law20_awake [], some (.t 0, true), false⟩, ⟨.pick (.t 1) (.t 0) (.c (.bool false)), none, false⟩, ⟨.mv (.t 0), none, false⟩], [(11, 0)], [5, 6, 7, 8, 9, 10], none⟩
abbrev ir_law20_BatchChains : Fn := { np := 3, nv := 12, res := [(11, none)], body :=
(.seq (.reg r_law20_BatchChains_0)
 (.seq (.seq (.reg r_law20_BatchChains_1)
 (.cond 19 (.seq (.reg r_law20_BatchChains_2)
 .ret) .skip))
 (.seq (.reg r_law20_BatchChains_3)
 (.seq (.reg r_law20_BatchChains_4)
 (.seq (.reg r_law20_BatchChains_5)
 .ret))))) }
/- f6 law20_BatchComplete : 0:m 1:known 2:queries 3:m 4:e 5:o 6:f 7:l 8:i 9:ok 10:k 11:t 12:g 13:h 14:i 15:p 16:ok 17:_ -/
abbrev r_law20_BatchComplete_0 : Reg := ⟨[⟨.bxi (.v 0), none, false⟩, ⟨.mv (.c (.bool false)), none, false⟩], [(3, 1)], [0, 17], none⟩
abbrev r_law20_BatchComplete_1 : Reg := ⟨[⟨.ldi (.v 3) (some 4), none, false⟩, ⟨.bld [.snil, .int 0] [], none, false⟩, ⟨.cal F_ref19_Great [(.t 1), (.t 0)], none, false⟩, ⟨.mv (.t 0), none, false⟩, ⟨.mv (.v 1), some (.t 0, false), false⟩, ⟨.cal F_ref02_Great [(.t 0), (.c (.int (20))), (.c (.int (20)))], some (.t 1, false), false⟩, ⟨.pick (.t 2) (.c (.bool true)) (.t 0), none, false⟩, ⟨.mv (.t 0), none, false⟩, ⟨.mv (.v 2), some (.t 0, false), false⟩, ⟨.cal F_ref02_Great [(.t 0), (.c (.int (20))), (.c (.int (20)))], some (.t 1, false), false⟩, ⟨.pick (.t 2) (.c (.bool true)) (.t 0), none, false⟩], [], [], some (32, 0)⟩
abbrev r_law20_BatchComplete_2 : Reg := ⟨[⟨.cal F_law20_awake [], none, false⟩, ⟨.mv (.t 0), none, false⟩], [(17, 0)], [1, 2, 3], none⟩
abbrev r_law20_BatchComplete_3 : Reg := ⟨[⟨.ldi (.v 3) (some 4), none, false⟩, ⟨.mv (.v 1), none, false⟩, ⟨.cal F_ref16_Of [(.t 1), (.t 0)], none, false⟩, ⟨.mv (.t 0), none, false⟩, ⟨.ext (.t 0) 0, none, false⟩, ⟨.ext (.t 1) 1, none, false⟩, ⟨.alc0 2, none, false⟩, ⟨.ini (.t 0) (.t 2) 2, none, false⟩, ⟨.mv (.t 2), none, false⟩], [(5, 1), (4, 0)], [1], none⟩
abbrev r_law20_BatchComplete_4 : Reg := ⟨[⟨.mv (.v 4), none, false⟩, ⟨.bin .neq (.t 0) (.c (.int (0))), none, false⟩], [], [4], some (41, 0)⟩
abbrev r_law20_BatchComplete_5 : Reg := ⟨[⟨.cal F_law20_awake [], none, false⟩, ⟨.mv (.t 0), none, false⟩], [(17, 0)], [2, 3, 5], none⟩
abbrev r_law20_BatchComplete_6 : Reg := ⟨[⟨.ldi (.v 5) (some 2), none, false⟩, ⟨.mv (.v 2), none, false⟩, ⟨.cal F_batch_Plan [(.t 1), (.t 0)], none, false⟩, ⟨.mv (.t 0), none, false⟩, ⟨.ext (.t 0) 0, none, false⟩, ⟨.ext (.t 1) 1, none, false⟩, ⟨.mv (.t 1), none, false⟩, ⟨.mv (.t 1), none, false⟩], [(7, 1), (6, 0)], [], none⟩
abbrev r_law20_BatchComplete_7 : Reg := ⟨[⟨.mv (.v 6), none, false⟩, ⟨.bin .neq (.t 0) (.c (.int (0))), none, false⟩], [], [6], some (50, 0)⟩
abbrev r_law20_BatchComplete_8 : Reg := ⟨[⟨.mv (.v 7), none, false⟩, ⟨.len (.t 0), none, false⟩, ⟨.bin .eql (.t 0) (.c (.int (0))), none, false⟩, ⟨.mv (.t 0), none, false⟩, ⟨.cal F_law20_awake [], some (.t 0, true), false⟩, ⟨.pick (.t 1) (.t 0) (.c (.bool false)), none, false⟩, ⟨.mv (.t 0), none, false⟩], [(17, 0)], [2, 3, 5, 7], none⟩
abbrev r_law20_BatchComplete_9 : Reg := ⟨[⟨.mv (.c (.int (0))), none, false⟩], [(8, 0)], [], none⟩
abbrev r_law20_BatchComplete_10 : Reg := ⟨[⟨.mv (.v 8), none, false⟩, ⟨.mv (.v 7), none, false⟩, ⟨.len (.t 0), none, false⟩, ⟨.bin .lss (.t 2) (.t 0), none, false⟩], [], [], some (60, 0)⟩
abbrev r_law20_BatchComplete_12 : Reg := ⟨[⟨.ldi (.v 5) (some 2), none, false⟩, ⟨.mv (.v 7), none, false⟩, ⟨.mv (.v 8), none, false⟩, ⟨.iad (.t 1) (.t 0) 1, none, false⟩, ⟨.ld (.t 0) none, none, false⟩, ⟨.cal F_ref16_Answer [(.t 4), (.t 0)], none, false⟩, ⟨.mv (.t 0), none, false⟩, ⟨.ext (.t 0) 0, none, false⟩, ⟨.ext (.t 1) 1, none, false⟩, ⟨.mv (.t 1), none, false⟩, ⟨.mv (.t 1), none, false⟩], [(9, 0)], [], none⟩
abbrev r_law20_BatchComplete_13 : Reg := ⟨[⟨.mv (.v 9), none, false⟩, ⟨.mv (.t 0), none, false⟩, ⟨.mv (.v 2), some (.t 0, false), false⟩, ⟨.mv (.v 7), some (.t 1, false), false⟩, ⟨.mv (.v 8), some (.t 2, false), false⟩, ⟨.iad (.t 1) (.t 0) 1, some (.t 3, false), false⟩, ⟨.ld (.t 0) none, some (.t 4, false), false⟩, ⟨.cal F_ref02_Has [(.t 4), (.t 0)], some (.t 5, false), false⟩, ⟨.not (.t 0), some (.t 6, false), false⟩, ⟨.pick (.t 7) (.c (.bool true)) (.t 0), none, false⟩, ⟨.mv (.t 0), none, false⟩, ⟨.mv (.v 8), some (.t 0, false), false⟩, ⟨.bin .gtr (.t 0) (.c (.int (0))), some (.t 1, false), false⟩, ⟨.mv (.t 0), some (.t 2, false), false⟩, ⟨.mv (.v 7), some (.t 0, true), false⟩, ⟨.mv (.v 8), some (.t 1, true), false⟩, ⟨.bin .sub (.t 0) (.c (.int (1))), some (.t 2, true), false⟩, ⟨.iad (.t 2) (.t 0) 1, some (.t 3, true), false⟩, ⟨.ld (.t 0) none, some (.t 4, true), false⟩, ⟨.mv (.v 7), some (.t 5, true), false⟩, ⟨.mv (.v 8), some (.t 6, true), false⟩, ⟨.iad (.t 1) (.t 0) 1, some (.t 7, true), false⟩, ⟨.ld (.t 0) none, some (.t 8, true), false⟩, ⟨.cal F_ref01_Compare [(.t 4), (.t 0)], some (.t 9, true), false⟩, ⟨.bin .geq (.t 0) (.c (.int (0))), some (.t 10, true), false⟩, ⟨.pick (.t 11) (.t 0) (.c (.bool false)), some (.t 14, false), false⟩, ⟨.pick (.t 15) (.c (.bool true)) (.t 0), none, false⟩], [], [9], some (98, 0)⟩
abbrev r_law20_BatchComplete_14 : Reg := ⟨[⟨.mv (.c (.bool false)), none, false⟩], [(17, 0)], [2, 3, 5, 7, 8], none⟩
abbrev r_law20_BatchComplete_15 : Reg := ⟨[⟨.mv (.c (.int (0))), none, false⟩], [(10, 0)], [], none⟩
abbrev r_law20_BatchComplete_16 : Reg := ⟨[⟨.mv (.v 10), none, false⟩, ⟨.mv (.v 7), none, false⟩, ⟨.len (.t 0), none, false⟩, ⟨.bin .lss (.t 2) (.t 0), none, false⟩], [], [], some (102, 0)⟩
abbrev r_law20_BatchComplete_18 : Reg := ⟨[⟨.mv (.v 10), none, false⟩, ⟨.mv (.v 8), none, false⟩, ⟨.bin .neq (.t 1) (.t 0), none, false⟩, ⟨.mv (.t 0), none, false⟩, ⟨.mv (.v 7), some (.t 0, true), false⟩, ⟨.mv (.v 10), some (.t 1, true), false⟩, ⟨.iad (.t 1) (.t 0) 1, some (.t 2, true), false⟩, ⟨.ld (.t 0) none, some (.t 3, true), false⟩, ⟨.mv (.v 7), some (.t 4, true), false⟩, ⟨.mv (.v 8), some (.t 5, true), false⟩, ⟨.iad (.t 1) (.t 0) 1, some (.t 6, true), false⟩, ⟨.ld (.t 0) none, some (.t 7, true), false⟩, ⟨.cal F_ref01_HasPrefix [(.t 4), (.t 0)], some (.t 8, true), false⟩, ⟨.pick (.t 9) (.t 0) (.c (.bool false)), none, false⟩], [], [], some (118, 0)⟩
abbrev r_law20_BatchComplete_19 : Reg := ⟨[⟨.mv (.c (.bool false)), none, false⟩], [(17, 0)], [2, 3, 5, 7, 8, 10], none⟩
abbrev r_law20_BatchComplete_17 : Reg := ⟨[⟨.mv (.v 10), none, false⟩, ⟨.bin .add (.t 0) (.c (.int (1))), none, false⟩, ⟨.mv (.t 0), none, false⟩], [(10, 0)], [], none⟩
abbrev b_law20_BatchComplete_2 : IC := (.seq (.seq (.reg r_law20_BatchComplete_16)
 (.cond 102 .skip (.exit 2)))
 (.seq (.block 3 (.seq (.reg r_law20_BatchComplete_18)
 (.cond 118 (.seq (.reg r_law20_BatchComplete_19)
 .ret) .skip)))
 (.reg r_law20_BatchComplete_17)))
abbrev r_law20_BatchComplete_11 : Reg := ⟨[⟨.mv (.v 8), none, false⟩, ⟨.bin .add (.t 0) (.c (.int (1))), none, false⟩, ⟨.mv (.t 0), none, false⟩], [(8, 0)], [10], none⟩
abbrev b_law20_BatchComplete_0 : IC := (.seq (.seq (.reg r_law20_BatchComplete_10)
 (.cond 60 .skip (.exit 0)))
 (.seq (.block 1 (.seq (.reg r_law20_BatchComplete_12)
 (.seq (.seq (.reg r_law20_BatchComplete_13)
 (.cond 98 (.seq (.reg r_law20_BatchComplete_14)
 .ret) .skip))
 (.seq (.reg r_law20_BatchComplete_15)
 (.block 2 (.loop b_law20_BatchComplete_2))))))
 (.reg r_law20_BatchComplete_11)))
abbrev r_law20_BatchComplete_20 : Reg := ⟨[⟨.ldi (.v 3) (some 4), none, false⟩, ⟨.mv (.v 7), none, false⟩, ⟨.cal F_ref06_Traces [(.t 1), (.t 0)], none, false⟩, ⟨.mv (.t 0), none, false⟩, ⟨.ext (.t 0) 0, none, false⟩, ⟨.ext (.t 1) 1, none, false⟩, ⟨.mv (.t 1), none, false⟩, ⟨.mv (.t 1), none, false⟩], [(11, 1), (12, 0)], [3, 7, 8], none⟩
abbrev r_law20_BatchComplete_21 : Reg := ⟨[⟨.ldi (.v 5) (some 2), none, false⟩, ⟨.mv (.v 11), none, false⟩, ⟨.cal F_ref16_All [(.t 1), (.t 0)], none, false⟩, ⟨.mv (.t 0), none, false⟩, ⟨.ext (.t 0) 0, none, false⟩, ⟨.ext (.t 1) 1, none, false⟩, ⟨.alc0 2, none, false⟩, ⟨.ini (.t 0) (.t 2) 2, none, false⟩, ⟨.mv (.t 2), none, false⟩], [(15, 1), (13, 0)], [5, 11], none⟩
abbrev r_law20_BatchComplete_22 : Reg := ⟨[⟨.mv (.v 12), none, false⟩, ⟨.bin .neq (.t 0) (.c (.int (0))), none, false⟩, ⟨.mv (.t 0), none, false⟩, ⟨.mv (.v 13), some (.t 0, false), false⟩, ⟨.bin .neq (.t 0) (.c (.int (0))), some (.t 1, false), false⟩, ⟨.pick (.t 2) (.c (.bool true)) (.t 0), none, false⟩], [], [12, 13], some (136, 0)⟩
abbrev r_law20_BatchComplete_23 : Reg := ⟨[⟨.mv (.c (.bool false)), none, false⟩], [(17, 0)], [2, 15], none⟩
abbrev r_law20_BatchComplete_24 : Reg := ⟨[⟨.mv (.c (.int (0))), none, false⟩], [(14, 0)], [], none⟩
abbrev r_law20_BatchComplete_25 : Reg := ⟨[⟨.mv (.v 14), none, false⟩, ⟨.mv (.v 2), none, false⟩, ⟨.len (.t 0), none, false⟩, ⟨.bin .lss (.t 2) (.t 0), none, false⟩], [], [], some (140, 0)⟩
abbrev r_law20_BatchComplete_27 : Reg := ⟨[⟨.ldi (.v 15) (some 2), none, false⟩, ⟨.mv (.v 2), none, false⟩, ⟨.mv (.v 14), none, false⟩, ⟨.iad (.t 1) (.t 0) 1, none, false⟩, ⟨.ld (.t 0) none, none, false⟩, ⟨.cal F_ref16_Answer [(.t 4), (.t 0)], none, false⟩, ⟨.mv (.t 0), none, false⟩, ⟨.ext (.t 0) 0, none, false⟩, ⟨.ext (.t 1) 1, none, false⟩, ⟨.mv (.t 1), none, false⟩, ⟨.mv (.t 1), none, false⟩], [(16, 0)], [], none⟩
abbrev r_law20_BatchComplete_28 : Reg := ⟨[⟨.mv (.v 16), none, false⟩, ⟨.not (.t 0), none, false⟩], [], [16], some (153, 0)⟩
abbrev r_law20_BatchComplete_29 : Reg := ⟨[⟨.mv (.c (.bool false)), none, false⟩], [(17, 0)], [2, 14, 15], none⟩
abbrev r_law20_BatchComplete_26 : Reg := ⟨[⟨.mv (.v 14), none, false⟩, ⟨.bin .add (.t 0) (.c (.int (1))), none, false⟩, ⟨.mv (.t 0), none, false⟩], [(14, 0)], [], none⟩
abbrev b_law20_BatchComplete_4 : IC := (.seq (.seq (.reg r_law20_BatchComplete_25)
 (.cond 140 .skip (.exit 4)))
 (.seq (.block 5 (.seq (.reg r_law20_BatchComplete_27)
 (.seq (.reg r_law20_BatchComplete_28)
 (.cond 153 (.seq (.reg r_law20_BatchComplete_29)
 .ret) .skip))))
 (.reg r_law20_BatchComplete_26)))
abbrev r_law20_BatchComplete_30 : Reg := ⟨[⟨.cal F_law20_awake [], none, false⟩, ⟨.mv (.t 0), none, false⟩], [(17, 0)], [2, 14, 15], none⟩
abbrev ir_law20_BatchComplete : Fn := { np := 3, nv := 18, res := [(17, none)], body :=
(.seq (.reg r_law20_BatchComplete_0)
 (.seq (.seq (.reg r_law20_BatchComplete_1)
 (.cond 32 (.seq (.reg r_law20_BatchComplete_2)
 .ret) .skip))
 (.seq (.reg r_law20_BatchComplete_3)
 (.seq (.seq (.reg r_law20_BatchComplete_4)
 (.cond 41 (.seq (.reg r_law20_BatchComplete_5)
 .ret) .skip))
 (.seq (.reg r_law20_BatchComplete_6)
 (.seq (.seq (.reg r_law20_BatchComplete_7)
 (.cond 50 (.seq (.reg r_law20_BatchComplete_8)
 .ret) .skip))
 (.seq (.seq (.reg r_law20_BatchComplete_9)
 (.block 0 (.loop b_law20_BatchComplete_0)))
 (.seq (.reg r_law20_BatchComplete_20)
 (.seq (.reg r_law20_BatchComplete_21)
 (.seq (.seq (.reg r_law20_BatchComplete_22)
 (.cond 136 (.seq (.reg r_law20_BatchComplete_23)
 .ret) .skip))
 (.seq (.seq (.reg r_law20_BatchComplete_24)
 (.block 4 (.loop b_law20_BatchComplete_4)))
 (.seq (.reg r_law20_BatchComplete_30)
 .ret)))))))))))) }
/- f7 law20_BatchSchedules : 0:m 1:l 2:words 3:m 4:l 5:e 6:moves 7:time 8:top 9:i 10:x 11:sum 12:s 13:k 14:k 15:f 16:n 17:_ -/
abbrev r_law20_BatchSchedules_0 : Reg := ⟨[⟨.bxi (.v 0), none, false⟩, ⟨.bxi (.v 1), none, false⟩, ⟨.mv (.c (.bool false)), none, false⟩], [(3, 2), (4, 1)], [0, 1, 17], none⟩
abbrev r_law20_BatchSchedules_1 : Reg := ⟨[⟨.ldi (.v 3) (some 4), none, false⟩, ⟨.ldi (.v 4) (some 2), none, false⟩, ⟨.cal F_ref19_Great [(.t 1), (.t 0)], none, false⟩, ⟨.mv (.t 0), none, false⟩, ⟨.mv (.v 2), some (.t 0, false), false⟩, ⟨.cal F_ref02_Great [(.t 0), (.c (.int (20))), (.c (.int (20)))], some (.t 1, false), false⟩, ⟨.pick (.t 2) (.c (.bool true)) (.t 0), none, false⟩], [], [], some (25, 0)⟩
abbrev r_law20_BatchSchedules_2 : Reg := ⟨[⟨.cal F_law20_awake [], none, false⟩, ⟨.mv (.t 0), none, false⟩], [(17, 0)], [2, 3, 4], none⟩
abbrev r_law20_BatchSchedules_3 : Reg := ⟨[⟨.ldi (.v 3) (some 4), none, false⟩, ⟨.ldi (.v 4) (some 2), none, false⟩, ⟨.mv (.v 2), none, false⟩, ⟨.cal F_batch_Chain [(.t 2), (.t 1), (.t 0)], none, false⟩, ⟨.mv (.t 0), none, false⟩, ⟨.ext (.t 0) 0, none, false⟩, ⟨.ext (.t 1) 1, none, false⟩, ⟨.ext (.t 2) 2, none, false⟩, ⟨.mv (.t 2), none, false⟩, ⟨.mv (.t 2), none, false⟩, ⟨.mv (.t 2), none, false⟩], [(6, 2), (7, 1), (5, 0)], [], none⟩
abbrev r_law20_BatchSchedules_4 : Reg := ⟨[⟨.mv (.v 5), none, false⟩, ⟨.bin .neq (.t 0) (.c (.int (0))), none, false⟩], [], [5], some (36, 0)⟩
abbrev r_law20_BatchSchedules_5 : Reg := ⟨[⟨.mv (.v 6), none, false⟩, ⟨.len (.t 0), none, false⟩, ⟨.bin .eql (.t 0) (.c (.int (0))), none, false⟩, ⟨.mv (.t 0), none, false⟩, ⟨.mv (.v 7), some (.t 0, true), false⟩, ⟨.bin .eql (.t 0) (.c (.int (0))), some (.t 1, true), false⟩, ⟨.pick (.t 2) (.t 0) (.c (.bool false)), none, false⟩, ⟨.mv (.t 0), none, false⟩, ⟨.cal F_law20_awake [], some (.t 0, true), false⟩, ⟨.pick (.t 1) (.t 0) (.c (.bool false)), none, false⟩, ⟨.mv (.t 0), none, false⟩], [(17, 0)], [2, 3, 4, 6, 7], none⟩
abbrev r_law20_BatchSchedules_6 : Reg := ⟨[⟨.mv (.v 2), none, false⟩, ⟨.cal F_ref02_Maximal [(.t 0)], none, false⟩, ⟨.mv (.t 0), none, false⟩], [(8, 0)], [2], none⟩
abbrev r_law20_BatchSchedules_7 : Reg := ⟨[⟨.mv (.v 6), none, false⟩, ⟨.len (.t 0), none, false⟩, ⟨.mv (.v 8), none, false⟩, ⟨.len (.t 0), none, false⟩, ⟨.bin .neq (.t 2) (.t 0), none, false⟩, ⟨.mv (.t 0), none, false⟩, ⟨.ldi (.v 3) (some 4), some (.t 0, false), false⟩, ⟨.cal F_ref06_Valid [(.t 0)], some (.t 1, false), false⟩, ⟨.bin .neq (.t 0) (.c (.int (0))), some (.t 2, false), false⟩, ⟨.pick (.t 3) (.c (.bool true)) (.t 0), none, false⟩, ⟨.mv (.t 0), none, false⟩, ⟨.fad (.v 4) 0 none, some (.t 0, false), false⟩, ⟨.ldi (.t 0) none, some (.t 1, false), false⟩, ⟨.len (.t 0), some (.t 2, false), false⟩, ⟨.fad (.v 3) 0 none, some (.t 3, false), false⟩, ⟨.ldi (.t 0) none, some (.t 4, false), false⟩, ⟨.bin .neq (.t 2) (.t 0), some (.t 5, false), false⟩, ⟨.pick (.t 6) (.c (.bool true)) (.t 0), none, false⟩], [], [], some (66, 0)⟩
abbrev r_law20_BatchSchedules_8 : Reg := ⟨[⟨.mv (.c (.bool false)), none, false⟩], [(17, 0)], [3, 4, 6, 7, 8], none⟩
abbrev r_law20_BatchSchedules_9 : Reg := ⟨[⟨.mv (.c (.int (-1))), none, false⟩, ⟨.mv (.c (.int (0))), none, false⟩], [(12, 1), (11, 0)], [], none⟩
abbrev r_law20_BatchSchedules_10 : Reg := ⟨[⟨.mv (.c (.int (0))), none, false⟩], [(9, 0)], [], none⟩
abbrev r_law20_BatchSchedules_11 : Reg := ⟨[⟨.mv (.v 9), none, false⟩, ⟨.mv (.v 6), none, false⟩, ⟨.len (.t 0), none, false⟩, ⟨.bin .lss (.t 2) (.t 0), none, false⟩], [], [], some (70, 0)⟩
abbrev r_law20_BatchSchedules_13 : Reg := ⟨[⟨.mv (.v 6), none, false⟩, ⟨.mv (.v 9), none, false⟩, ⟨.iad (.t 1) (.t 0) 3, none, false⟩, ⟨.ld (.t 0) (some 3), none, false⟩, ⟨.alc0 3, none, false⟩, ⟨.ini (.t 0) (.t 1) 3, none, false⟩], [(10, 0)], [], none⟩
abbrev r_law20_BatchSchedules_14 : Reg := ⟨[⟨.fad (.v 10) 0 none, none, false⟩, ⟨.ldi (.t 0) none, none, false⟩], [], [], some (78, 0)⟩
abbrev r_law20_BatchSchedules_15 : Reg := ⟨[⟨.fad (.v 3) 1 none, none, false⟩, ⟨.ldi (.t 0) none, none, false⟩, ⟨.mv (.t 0), none, false⟩], [(12, 0)], [], none⟩
abbrev r_law20_BatchSchedules_16 : Reg := ⟨[⟨.mv (.v 11), none, false⟩, ⟨.fad (.v 4) 1 none, none, false⟩, ⟨.ldi (.t 0) none, none, false⟩, ⟨.bin .add (.t 2) (.t 0), none, false⟩, ⟨.mv (.t 0), none, false⟩], [(11, 0)], [], none⟩
abbrev r_law20_BatchSchedules_17 : Reg := ⟨[⟨.fad (.v 10) 1 none, none, false⟩, ⟨.ldi (.t 0) none, none, false⟩, ⟨.len (.t 0), none, false⟩, ⟨.bin .neq (.t 0) (.c (.int (0))), none, false⟩], [], [], some (88, 0)⟩
abbrev r_law20_BatchSchedules_18 : Reg := ⟨[⟨.mv (.c (.bool false)), none, false⟩], [(17, 0)], [3, 4, 6, 7, 8, 9, 10, 11, 12], none⟩
abbrev r_law20_BatchSchedules_19 : Reg := ⟨[⟨.mv (.v 12), none, false⟩, ⟨.bin .lss (.t 0) (.c (.int (0))), none, false⟩, ⟨.mv (.t 0), none, false⟩, ⟨.fad (.v 10) 1 none, some (.t 0, false), false⟩, ⟨.ldi (.t 0) none, some (.t 1, false), false⟩, ⟨.fad (.v 3) 0 none, some (.t 2, false), false⟩, ⟨.ldi (.t 0) none, some (.t 3, false), false⟩, ⟨.cal F_ref01_Check [(.t 2), (.t 0)], some (.t 4, false), false⟩, ⟨.bin .neq (.t 0) (.c (.int (0))), some (.t 5, false), false⟩, ⟨.pick (.t 6) (.c (.bool true)) (.t 0), none, false⟩, ⟨.mv (.t 0), none, false⟩, ⟨.fad (.v 10) 2 none, some (.t 0, false), false⟩, ⟨.ldi (.t 0) none, some (.t 1, false), false⟩, ⟨.mv (.v 8), some (.t 2, false), false⟩, ⟨.mv (.v 9), some (.t 3, false), false⟩, ⟨.iad (.t 1) (.t 0) 1, some (.t 4, false), false⟩, ⟨.ld (.t 0) none, some (.t 5, false), false⟩, ⟨.cal F_ref01_Same [(.t 4), (.t 0)], some (.t 6, false), false⟩, ⟨.not (.t 0), some (.t 7, false), false⟩, ⟨.pick (.t 8) (.c (.bool true)) (.t 0), none, false⟩], [], [], some (108, 0)⟩
abbrev r_law20_BatchSchedules_20 : Reg := ⟨[⟨.mv (.c (.bool false)), none, false⟩], [(17, 0)], [3, 4, 6, 7, 8, 9, 10, 11, 12], none⟩
abbrev r_law20_BatchSchedules_21 : Reg := ⟨[⟨.mv (.c (.int (0))), none, false⟩], [(13, 0)], [], none⟩
abbrev r_law20_BatchSchedules_22 : Reg := ⟨[⟨.mv (.v 13), none, false⟩, ⟨.fad (.v 10) 1 none, none, false⟩, ⟨.ldi (.t 0) none, none, false⟩, ⟨.len (.t 0), none, false⟩, ⟨.bin .lss (.t 3) (.t 0), none, false⟩], [], [], some (113, 0)⟩
abbrev r_law20_BatchSchedules_24 : Reg := ⟨[⟨.mv (.v 11), none, false⟩, ⟨.fad (.v 4) 0 none, none, false⟩, ⟨.ldi (.t 0) none, none, false⟩, ⟨.fad (.v 10) 1 none, none, false⟩, ⟨.ldi (.t 0) none, none, false⟩, ⟨.mv (.v 13), none, false⟩, ⟨.iad (.t 1) (.t 0) 1, none, false⟩, ⟨.ldi (.t 0) none, none, false⟩, ⟨.iad (.t 5) (.t 0) 1, none, false⟩, ⟨.ldi (.t 0) none, none, false⟩, ⟨.bin .add (.t 9) (.t 0), none, false⟩, ⟨.mv (.t 0), none, false⟩], [(11, 0)], [], none⟩
abbrev r_law20_BatchSchedules_25 : Reg := ⟨[⟨.fad (.v 3) 2 none, none, false⟩, ⟨.ldi (.t 0) none, none, false⟩, ⟨.mv (.v 12), none, false⟩, ⟨.iad (.t 1) (.t 0) 1, none, false⟩, ⟨.ldi (.t 0) none, none, false⟩, ⟨.fad (.v 10) 1 none, none, false⟩, ⟨.ldi (.t 0) none, none, false⟩, ⟨.mv (.v 13), none, false⟩, ⟨.iad (.t 1) (.t 0) 1, none, false⟩, ⟨.ldi (.t 0) none, none, false⟩, ⟨.iad (.t 5) (.t 0) 1, none, false⟩, ⟨.ldi (.t 0) none, none, false⟩, ⟨.mv (.t 0), none, false⟩], [(12, 0)], [], none⟩
abbrev r_law20_BatchSchedules_23 : Reg := ⟨[⟨.mv (.v 13), none, false⟩, ⟨.bin .add (.t 0) (.c (.int (1))), none, false⟩, ⟨.mv (.t 0), none, false⟩], [(13, 0)], [], none⟩
abbrev b_law20_BatchSchedules_2 : IC := (.seq (.seq (.reg r_law20_BatchSchedules_22)
 (.cond 113 .skip (.exit 2)))
 (.seq (.block 3 (.seq (.reg r_law20_BatchSchedules_24)
 (.reg r_law20_BatchSchedules_25)))
 (.reg r_law20_BatchSchedules_23)))
abbrev r_law20_BatchSchedules_26 : Reg := ⟨[⟨.mv (.v 12), none, false⟩, ⟨.fad (.v 3) 1 none, none, false⟩, ⟨.ldi (.t 0) none, none, false⟩, ⟨.bin .neq (.t 2) (.t 0), none, false⟩], [], [13], some (142, 0)⟩
abbrev r_law20_BatchSchedules_27 : Reg := ⟨[⟨.mv (.c (.bool false)), none, false⟩], [(17, 0)], [3, 4, 6, 7, 8, 9, 10, 11, 12], none⟩
abbrev r_law20_BatchSchedules_28 : Reg := ⟨[⟨.mv (.c (.int (0))), none, false⟩], [(14, 0)], [], none⟩
abbrev r_law20_BatchSchedules_29 : Reg := ⟨[⟨.mv (.v 14), none, false⟩, ⟨.fad (.v 10) 2 none, none, false⟩, ⟨.ldi (.t 0) none, none, false⟩, ⟨.len (.t 0), none, false⟩, ⟨.bin .lss (.t 3) (.t 0), none, false⟩], [], [], some (147, 0)⟩
abbrev r_law20_BatchSchedules_31 : Reg := ⟨[⟨.mv (.v 11), none, false⟩, ⟨.fad (.v 4) 0 none, none, false⟩, ⟨.ldi (.t 0) none, none, false⟩, ⟨.fad (.v 10) 2 none, none, false⟩, ⟨.ldi (.t 0) none, none, false⟩, ⟨.mv (.v 14), none, false⟩, ⟨.iad (.t 1) (.t 0) 1, none, false⟩, ⟨.ldi (.t 0) none, none, false⟩, ⟨.iad (.t 5) (.t 0) 1, none, false⟩, ⟨.ldi (.t 0) none, none, false⟩, ⟨.bin .add (.t 9) (.t 0), none, false⟩, ⟨.mv (.t 0), none, false⟩], [(11, 0)], [], none⟩
abbrev r_law20_BatchSchedules_32 : Reg := ⟨[⟨.fad (.v 3) 2 none, none, false⟩, ⟨.ldi (.t 0) none, none, false⟩, ⟨.mv (.v 12), none, false⟩, ⟨.iad (.t 1) (.t 0) 1, none, false⟩, ⟨.ldi (.t 0) none, none, false⟩, ⟨.fad (.v 10) 2 none, none, false⟩, ⟨.ldi (.t 0) none, none, false⟩, ⟨.mv (.v 14), none, false⟩, ⟨.iad (.t 1) (.t 0) 1, none, false⟩, ⟨.ldi (.t 0) none, none, false⟩, ⟨.iad (.t 5) (.t 0) 1, none, false⟩, ⟨.ldi (.t 0) none, none, false⟩, ⟨.mv (.t 0), none, false⟩], [(12, 0)], [], none⟩
abbrev r_law20_BatchSchedules_30 : Reg := ⟨[⟨.mv (.v 14), none, false⟩, ⟨.bin .add (.t 0) (.c (.int (1))), none, false⟩, ⟨.mv (.t 0), none, false⟩], [(14, 0)], [], none⟩
abbrev b_law20_BatchSchedules_4 : IC := (.seq (.seq (.reg r_law20_BatchSchedules_29)
 (.cond 147 .skip (.exit 4)))
 (.seq (.block 5 (.seq (.reg r_law20_BatchSchedules_31)
 (.reg r_law20_BatchSchedules_32)))
 (.reg r_law20_BatchSchedules_30)))
abbrev r_law20_BatchSchedules_12 : Reg := ⟨[⟨.mv (.v 9), none, false⟩, ⟨.bin .add (.t 0) (.c (.int (1))), none, false⟩, ⟨.mv (.t 0), none, false⟩], [(9, 0)], [10, 14], none⟩
abbrev b_law20_BatchSchedules_0 : IC := (.seq (.seq (.reg r_law20_BatchSchedules_11)
 (.cond 70 .skip (.exit 0)))
 (.seq (.block 1 (.seq (.reg r_law20_BatchSchedules_13)
 (.seq (.seq (.reg r_law20_BatchSchedules_14)
 (.cond 78 (.seq (.reg r_law20_BatchSchedules_15)
 (.seq (.reg r_law20_BatchSchedules_16)
 (.seq (.reg r_law20_BatchSchedules_17)
 (.cond 88 (.seq (.reg r_law20_BatchSchedules_18)
 .ret) .skip)))) .skip))
 (.seq (.seq (.reg r_law20_BatchSchedules_19)
 (.cond 108 (.seq (.reg r_law20_BatchSchedules_20)
 .ret) .skip))
 (.seq (.seq (.reg r_law20_BatchSchedules_21)
 (.block 2 (.loop b_law20_BatchSchedules_2)))
 (.seq (.seq (.reg r_law20_BatchSchedules_26)
 (.cond 142 (.seq (.reg r_law20_BatchSchedules_27)
 .ret) .skip))
 (.seq (.reg r_law20_BatchSchedules_28)
 (.block 4 (.loop b_law20_BatchSchedules_4)))))))))
 (.reg r_law20_BatchSchedules_12)))
abbrev r_law20_BatchSchedules_33 : Reg := ⟨[⟨.ldi (.v 4) (some 2), none, false⟩, ⟨.mv (.v 8), none, false⟩, ⟨.cal F_batch_Cost [(.t 1), (.t 0)], none, false⟩, ⟨.mv (.t 0), none, false⟩, ⟨.ext (.t 0) 0, none, false⟩, ⟨.ext (.t 1) 1, none, false⟩, ⟨.mv (.t 1), none, false⟩, ⟨.mv (.t 1), none, false⟩], [(16, 1), (15, 0)], [3, 4, 6, 8, 9, 12], none⟩
abbrev r_law20_BatchSchedules_34 : Reg := ⟨[⟨.mv (.v 11), none, false⟩, ⟨.mv (.v 7), none, false⟩, ⟨.bin .eql (.t 1) (.t 0), none, false⟩, ⟨.mv (.t 0), none, false⟩, ⟨.mv (.v 15), some (.t 0, true), false⟩, ⟨.bin .eql (.t 0) (.c (.int (0))), some (.t 1, true), false⟩, ⟨.pick (.t 2) (.t 0) (.c (.bool false)), none, false⟩, ⟨.mv (.t 0), none, false⟩, ⟨.mv (.v 7), some (.t 0, true), false⟩, ⟨.mv (.v 16), some (.t 1, true), false⟩, ⟨.bin .leq (.t 1) (.t 0), some (.t 2, true), false⟩, ⟨.pick (.t 3) (.t 0) (.c (.bool false)), none, false⟩, ⟨.mv (.t 0), none, false⟩, ⟨.cal F_law20_awake [], some (.t 0, true), false⟩, ⟨.pick (.t 1) (.t 0) (.c (.bool false)), none, false⟩, ⟨.mv (.t 0), none, false⟩], [(17, 0)], [7, 11, 15, 16], none⟩
abbrev ir_law20_BatchSchedules : Fn := { np := 3, nv := 18, res := [(17, none)], body :=
(.seq (.reg r_law20_BatchSchedules_0)
 (.seq (.seq (.reg r_law20_BatchSchedules_1)
 (.cond 25 (.seq (.reg r_law20_BatchSchedules_2)
 .ret) .skip))
 (.seq (.reg r_law20_BatchSchedules_3)
 (.seq (.seq (.reg r_law20_BatchSchedules_4)
 (.cond 36 (.seq (.reg r_law20_BatchSchedules_5)
 .ret) .skip))
 (.seq (.reg r_law20_BatchSchedules_6)
 (.seq (.seq (.reg r_law20_BatchSchedules_7)
 (.cond 66 (.seq (.reg r_law20_BatchSchedules_8)
 .ret) .skip))
 (.seq (.reg r_law20_BatchSchedules_9)
 (.seq (.seq (.reg r_law20_BatchSchedules_10)
 (.block 0 (.loop b_law20_BatchSchedules_0)))
 (.seq (.reg r_law20_BatchSchedules_33)
 (.seq (.reg r_law20_BatchSchedules_34)
 .ret)))))))))) }
/- f8 law20_BatchGroups : 0:words 1:most 2:l 3:e 4:i 5:k 6:n 7:all 8:_ -/
abbrev r_law20_BatchGroups_0 : Reg := ⟨[⟨.mv (.c (.bool false)), none, false⟩], [], [8], none⟩
abbrev r_law20_BatchGroups_1 : Reg := ⟨[⟨.mv (.v 0), none, false⟩, ⟨.cal F_ref02_Great [(.t 0), (.c (.int (30))), (.c (.int (40)))], none, false⟩], [], [], some (12, 0)⟩
abbrev r_law20_BatchGroups_2 : Reg := ⟨[⟨.cal F_law20_awake [], none, false⟩, ⟨.mv (.t 0), none, false⟩], [(8, 0)], [0, 1], none⟩
abbrev r_law20_BatchGroups_3 : Reg := ⟨[⟨.mv (.v 0), none, false⟩, ⟨.mv (.v 1), none, false⟩, ⟨.cal F_batch_Groups [(.t 1), (.t 0)], none, false⟩, ⟨.mv (.t 0), none, false⟩, ⟨.ext (.t 0) 0, none, false⟩, ⟨.ext (.t 1) 1, none, false⟩, ⟨.mv (.t 1), none, false⟩, ⟨.mv (.t 1), none, false⟩], [(2, 1), (3, 0)], [], none⟩
abbrev r_law20_BatchGroups_4 : Reg := ⟨[⟨.mv (.v 1), none, false⟩, ⟨.bin .lss (.t 0) (.c (.int (1))), none, false⟩], [], [], some (21, 0)⟩
abbrev r_law20_BatchGroups_5 : Reg := ⟨[⟨.mv (.v 2), none, false⟩, ⟨.len (.t 0), none, false⟩, ⟨.bin .eql (.t 0) (.c (.int (0))), none, false⟩, ⟨.mv (.t 0), none, false⟩, ⟨.mv (.v 3), some (.t 0, true), false⟩, ⟨.bin .eql (.t 0) (.c (.int (2))), some (.t 1, true), false⟩, ⟨.pick (.t 2) (.t 0) (.c (.bool false)), none, false⟩, ⟨.mv (.t 0), none, false⟩, ⟨.cal F_law20_awake [], some (.t 0, true), false⟩, ⟨.pick (.t 1) (.t 0) (.c (.bool false)), none, false⟩, ⟨.mv (.t 0), none, false⟩], [(8, 0)], [0, 1, 2, 3], none⟩
abbrev r_law20_BatchGroups_6 : Reg := ⟨[⟨.nl none, none, false⟩], [(7, 0)], [], none⟩
abbrev r_law20_BatchGroups_7 : Reg := ⟨[⟨.mv (.c (.int (0))), none, false⟩], [(4, 0)], [], none⟩
abbrev r_law20_BatchGroups_8 : Reg := ⟨[⟨.mv (.v 4), none, false⟩, ⟨.mv (.v 2), none, false⟩, ⟨.len (.t 0), none, false⟩, ⟨.bin .lss (.t 2) (.t 0), none, false⟩], [], [], some (35, 0)⟩
abbrev r_law20_BatchGroups_10 : Reg := ⟨[⟨.mv (.c (.int (0))), none, false⟩], [(6, 0)], [], none⟩
abbrev r_law20_BatchGroups_11 : Reg := ⟨[⟨.mv (.c (.int (0))), none, false⟩], [(5, 0)], [], none⟩
abbrev r_law20_BatchGroups_12 : Reg := ⟨[⟨.mv (.v 5), none, false⟩, ⟨.mv (.v 2), none, false⟩, ⟨.mv (.v 4), none, false⟩, ⟨.iad (.t 1) (.t 0) 1, none, false⟩, ⟨.ld (.t 0) none, none, false⟩, ⟨.len (.t 0), none, false⟩, ⟨.bin .lss (.t 5) (.t 0), none, false⟩], [], [], some (44, 0)⟩
abbrev r_law20_BatchGroups_14 : Reg := ⟨[⟨.mv (.v 6), none, false⟩, ⟨.mv (.v 2), none, false⟩, ⟨.mv (.v 4), none, false⟩, ⟨.iad (.t 1) (.t 0) 1, none, false⟩, ⟨.ld (.t 0) none, none, false⟩, ⟨.mv (.v 5), none, false⟩, ⟨.iad (.t 1) (.t 0) 1, none, false⟩, ⟨.ld (.t 0) none, none, false⟩, ⟨.len (.t 0), none, false⟩, ⟨.bin .add (.t 8) (.t 0), none, false⟩, ⟨.mv (.t 0), none, false⟩], [(6, 0)], [], none⟩
abbrev r_law20_BatchGroups_13 : Reg := ⟨[⟨.mv (.v 5), none, false⟩, ⟨.bin .add (.t 0) (.c (.int (1))), none, false⟩, ⟨.mv (.t 0), none, false⟩], [(5, 0)], [], none⟩
abbrev b_law20_BatchGroups_2 : IC := (.seq (.seq (.reg r_law20_BatchGroups_12)
 (.cond 44 .skip (.exit 2)))
 (.seq (.block 3 (.reg r_law20_BatchGroups_14))
 (.reg r_law20_BatchGroups_13)))
abbrev r_law20_BatchGroups_15 : Reg := ⟨[⟨.mv (.v 2), none, false⟩, ⟨.mv (.v 4), none, false⟩, ⟨.iad (.t 1) (.t 0) 1, none, false⟩, ⟨.ld (.t 0) none, none, false⟩, ⟨.len (.t 0), none, false⟩, ⟨.bin .eql (.t 0) (.c (.int (0))), none, false⟩, ⟨.mv (.t 0), none, false⟩, ⟨.mv (.v 2), some (.t 0, false), false⟩, ⟨.mv (.v 4), some (.t 1, false), false⟩, ⟨.iad (.t 1) (.t 0) 1, some (.t 2, false), false⟩, ⟨.ld (.t 0) none, some (.t 3, false), false⟩, ⟨.len (.t 0), some (.t 4, false), false⟩, ⟨.bin .gtr (.t 0) (.c (.int (1))), some (.t 5, false), false⟩, ⟨.mv (.t 0), some (.t 6, false), false⟩, ⟨.mv (.v 6), some (.t 0, true), false⟩, ⟨.mv (.v 1), some (.t 1, true), false⟩, ⟨.bin .gtr (.t 1) (.t 0), some (.t 2, true), false⟩, ⟨.pick (.t 3) (.t 0) (.c (.bool false)), some (.t 10, false), false⟩, ⟨.pick (.t 11) (.c (.bool true)) (.t 0), none, false⟩], [], [5], some (75, 0)⟩
abbrev r_law20_BatchGroups_16 : Reg := ⟨[⟨.mv (.c (.bool false)), none, false⟩], [(8, 0)], [0, 1, 2, 3, 4, 6, 7], none⟩
abbrev r_law20_BatchGroups_17 : Reg := ⟨[⟨.mv (.v 4), none, false⟩, ⟨.bin .add (.t 0) (.c (.int (1))), none, false⟩, ⟨.mv (.v 2), none, false⟩, ⟨.len (.t 0), none, false⟩, ⟨.bin .lss (.t 2) (.t 0), none, false⟩, ⟨.mv (.t 0), none, false⟩, ⟨.mv (.v 2), some (.t 0, true), false⟩, ⟨.mv (.v 4), some (.t 1, true), false⟩, ⟨.bin .add (.t 0) (.c (.int (1))), some (.t 2, true), false⟩, ⟨.iad (.t 2) (.t 0) 1, some (.t 3, true), false⟩, ⟨.ld (.t 0) none, some (.t 4, true), false⟩, ⟨.len (.t 0), some (.t 5, true), false⟩, ⟨.bin .eql (.t 0) (.c (.int (0))), some (.t 6, true), false⟩, ⟨.mv (.t 0), some (.t 7, true), false⟩, ⟨.mv (.v 6), some (.t 0, false), false⟩, ⟨.mv (.v 2), some (.t 1, false), false⟩, ⟨.mv (.v 4), some (.t 2, false), false⟩, ⟨.bin .add (.t 0) (.c (.int (1))), some (.t 3, false), false⟩, ⟨.iad (.t 2) (.t 0) 1, some (.t 4, false), false⟩, ⟨.ld (.t 0) none, some (.t 5, false), false⟩, ⟨.iad (.t 0) (.c (.int (0))) 1, some (.t 6, false), false⟩, ⟨.ld (.t 0) none, some (.t 7, false), false⟩, ⟨.len (.t 0), some (.t 8, false), false⟩, ⟨.bin .add (.t 8) (.t 0), some (.t 9, false), false⟩, ⟨.mv (.v 1), some (.t 10, false), false⟩, ⟨.bin .leq (.t 1) (.t 0), some (.t 11, false), false⟩, ⟨.pick (.t 12) (.c (.bool true)) (.t 0), some (.t 20, true), false⟩, ⟨.pick (.t 21) (.t 0) (.c (.bool false)), none, false⟩], [], [6], some (103, 0)⟩
abbrev r_law20_BatchGroups_18 : Reg := ⟨[⟨.mv (.c (.bool false)), none, false⟩], [(8, 0)], [0, 1, 2, 3, 4, 7], none⟩
abbrev r_law20_BatchGroups_19 : Reg := ⟨[⟨.mv (.v 7), none, false⟩, ⟨.mv (.v 2), none, false⟩, ⟨.mv (.v 4), none, false⟩, ⟨.iad (.t 1) (.t 0) 1, none, false⟩, ⟨.ld (.t 0) none, none, false⟩, ⟨.appw (.t 4) (.t 0) none, none, false⟩, ⟨.mv (.t 0), none, false⟩], [(7, 0)], [], none⟩
abbrev r_law20_BatchGroups_9 : Reg := ⟨[⟨.mv (.v 4), none, false⟩, ⟨.bin .add (.t 0) (.c (.int (1))), none, false⟩, ⟨.mv (.t 0), none, false⟩], [(4, 0)], [], none⟩
abbrev b_law20_BatchGroups_0 : IC := (.seq (.seq (.reg r_law20_BatchGroups_8)
 (.cond 35 .skip (.exit 0)))
 (.seq (.block 1 (.seq (.reg r_law20_BatchGroups_10)
 (.seq (.seq (.reg r_law20_BatchGroups_11)
 (.block 2 (.loop b_law20_BatchGroups_2)))
 (.seq (.seq (.reg r_law20_BatchGroups_15)
 (.cond 75 (.seq (.reg r_law20_BatchGroups_16)
 .ret) .skip))
 (.seq (.seq (.reg r_law20_BatchGroups_17)
 (.cond 103 (.seq (.reg r_law20_BatchGroups_18)
 .ret) .skip))
 (.reg r_law20_BatchGroups_19))))))
 (.reg r_law20_BatchGroups_9)))
abbrev r_law20_BatchGroups_20 : Reg := ⟨[⟨.mv (.v 3), none, false⟩, ⟨.bin .eql (.t 0) (.c (.int (0))), none, false⟩, ⟨.mv (.t 0), none, false⟩, ⟨.mv (.v 7), some (.t 0, true), false⟩, ⟨.mv (.v 0), some (.t 1, true), false⟩, ⟨.cab F_ref01_SameWords [(.t 1), (.t 0)], some (.t 2, true), false⟩, ⟨.pick (.t 3) (.t 0) (.c (.bool false)), none, false⟩, ⟨.mv (.t 0), none, false⟩, ⟨.cal F_law20_awake [], some (.t 0, true), false⟩, ⟨.pick (.t 1) (.t 0) (.c (.bool false)), none, false⟩, ⟨.mv (.t 0), none, false⟩], [(8, 0)], [0, 1, 2, 3, 4, 7], none⟩
abbrev ir_law20_BatchGroups : Fn := { np := 2, nv := 9, res := [(8, none)], body :=
(.seq (.reg r_law20_BatchGroups_0)
 (.seq (.seq (.reg r_law20_BatchGroups_1)
 (.cond 12 (.seq (.reg r_law20_BatchGroups_2)
 .ret) .skip))
 (.seq (.reg r_law20_BatchGroups_3)
 (.seq (.seq (.reg r_law20_BatchGroups_4)
 (.cond 21 (.seq (.reg r_law20_BatchGroups_5)
 .ret) .skip))
 (.seq (.reg r_law20_BatchGroups_6)
 (.seq (.seq (.reg r_law20_BatchGroups_7)
 (.block 0 (.loop b_law20_BatchGroups_0)))
 (.seq (.reg r_law20_BatchGroups_20)
 .ret))))))) }
/- f9 ref17_Great : 0:l 1:i 2:_ -/
abbrev r_ref17_Great_0 : Reg := ⟨[⟨.mv (.c (.bool false)), none, false⟩], [], [2], none⟩
abbrev r_ref17_Great_1 : Reg := ⟨[⟨.mv (.c (.int (0))), none, false⟩], [(1, 0)], [], none⟩
abbrev r_ref17_Great_2 : Reg := ⟨[⟨.mv (.v 1), none, false⟩, ⟨.mv (.v 0), none, false⟩, ⟨.len (.t 0), none, false⟩, ⟨.bin .lss (.t 2) (.t 0), none, false⟩, ⟨.mv (.t 0), none, false⟩, ⟨.mv (.v 1), some (.t 0, true), false⟩, ⟨.bin .lss (.t 0) (.c (.int (31))), some (.t 1, true), false⟩, ⟨.pick (.t 2) (.t 0) (.c (.bool false)), none, false⟩], [], [], some (11, 0)⟩
abbrev r_ref17_Great_4 : Reg := ⟨[⟨.mv (.v 0), none, false⟩, ⟨.mv (.v 1), none, false⟩, ⟨.iad (.t 1) (.t 0) 2, none, false⟩, ⟨.fad (.t 0) 0 none, none, false⟩, ⟨.ld (.t 0) none, none, false⟩, ⟨.len (.t 0), none, false⟩, ⟨.bin .gtr (.t 0) (.c (.int (40))), none, false⟩, ⟨.mv (.t 0), none, false⟩, ⟨.mv (.v 0), some (.t 0, false), false⟩, ⟨.mv (.v 1), some (.t 1, false), false⟩, ⟨.iad (.t 1) (.t 0) 2, some (.t 2, false), false⟩, ⟨.fad (.t 0) 1 none, some (.t 3, false), false⟩, ⟨.ld (.t 0) none, some (.t 4, false), false⟩, ⟨.len (.t 0), some (.t 5, false), false⟩, ⟨.bin .gtr (.t 0) (.c (.int (40))), some (.t 6, false), false⟩, ⟨.pick (.t 7) (.c (.bool true)) (.t 0), none, false⟩], [], [], some (29, 0)⟩
abbrev r_ref17_Great_5 : Reg := ⟨[⟨.mv (.c (.bool true)), none, false⟩], [(2, 0)], [0, 1], none⟩
abbrev r_ref17_Great_3 : Reg := ⟨[⟨.mv (.v 1), none, false⟩, ⟨.bin .add (.t 0) (.c (.int (1))), none, false⟩, ⟨.mv (.t 0), none, false⟩], [(1, 0)], [], none⟩
abbrev b_ref17_Great_0 : IC := (.seq (.seq (.reg r_ref17_Great_2)
 (.cond 11 .skip (.exit 0)))
 (.seq (.block 1 (.seq (.reg r_ref17_Great_4)
 (.cond 29 (.seq (.reg r_ref17_Great_5)
 .ret) .skip)))
 (.reg r_ref17_Great_3)))
abbrev r_ref17_Great_6 : Reg := ⟨[⟨.mv (.v 0), none, false⟩, ⟨.len (.t 0), none, false⟩, ⟨.bin .gtr (.t 0) (.c (.int (30))), none, false⟩, ⟨.mv (.t 0), none, false⟩], [(2, 0)], [0, 1], none⟩
abbrev ir_ref17_Great : Fn := { np := 1, nv := 3, res := [(2, none)], body :=
(.seq (.reg r_ref17_Great_0)
 (.seq (.seq (.reg r_ref17_Great_1)
 (.block 0 (.loop b_ref17_Great_0)))
 (.seq (.reg r_ref17_Great_6)
 .ret))) }
/- f10 ref02_Great : 0:l 1:words 2:symbols 3:i 4:_ -/
abbrev r_ref02_Great_0 : Reg := ⟨[⟨.mv (.c (.bool false)), none, false⟩], [], [4], none⟩
abbrev r_ref02_Great_1 : Reg := ⟨[⟨.mv (.c (.int (0))), none, false⟩], [(3, 0)], [], none⟩
abbrev r_ref02_Great_2 : Reg := ⟨[⟨.mv (.v 3), none, false⟩, ⟨.mv (.v 0), none, false⟩, ⟨.len (.t 0), none, false⟩, ⟨.bin .lss (.t 2) (.t 0), none, false⟩, ⟨.mv (.t 0), none, false⟩, ⟨.mv (.v 3), some (.t 0, true), false⟩, ⟨.mv (.v 1), some (.t 1, true), false⟩, ⟨.bin .leq (.t 1) (.t 0), some (.t 2, true), false⟩, ⟨.pick (.t 3) (.t 0) (.c (.bool false)), none, false⟩], [], [], some (16, 0)⟩
abbrev r_ref02_Great_4 : Reg := ⟨[⟨.mv (.v 0), none, false⟩, ⟨.mv (.v 3), none, false⟩, ⟨.iad (.t 1) (.t 0) 1, none, false⟩, ⟨.ld (.t 0) none, none, false⟩, ⟨.len (.t 0), none, false⟩, ⟨.mv (.v 2), none, false⟩, ⟨.bin .gtr (.t 1) (.t 0), none, false⟩], [], [], some (25, 0)⟩
abbrev r_ref02_Great_5 : Reg := ⟨[⟨.mv (.c (.bool true)), none, false⟩], [(4, 0)], [0, 1, 2, 3], none⟩
abbrev r_ref02_Great_3 : Reg := ⟨[⟨.mv (.v 3), none, false⟩, ⟨.bin .add (.t 0) (.c (.int (1))), none, false⟩, ⟨.mv (.t 0), none, false⟩], [(3, 0)], [], none⟩
abbrev b_ref02_Great_0 : IC := (.seq (.seq (.reg r_ref02_Great_2)
 (.cond 16 .skip (.exit 0)))
 (.seq (.block 1 (.seq (.reg r_ref02_Great_4)
 (.cond 25 (.seq (.reg r_ref02_Great_5)
 .ret) .skip)))
 (.reg r_ref02_Great_3)))
abbrev r_ref02_Great_6 : Reg := ⟨[⟨.mv (.v 0), none, false⟩, ⟨.len (.t 0), none, false⟩, ⟨.mv (.v 1), none, false⟩, ⟨.bin .gtr (.t 1) (.t 0), none, false⟩, ⟨.mv (.t 0), none, false⟩], [(4, 0)], [0, 1, 2, 3], none⟩
abbrev ir_ref02_Great : Fn := { np := 3, nv := 5, res := [(4, none)], body :=
(.seq (.reg r_ref02_Great_0)
 (.seq (.seq (.reg r_ref02_Great_1)
 (.block 0 (.loop b_ref02_Great_0)))
 (.seq (.reg r_ref02_Great_6)
 .ret))) }
/- f11 ref16_Valid : 0:o 1:o 2:i 3:t 4:e 5:e 6:_ -/
abbrev r_ref16_Valid_0 : Reg := ⟨[⟨.bxi (.v 0), none, false⟩, ⟨.mv (.c (.int (0))), none, false⟩], [(1, 1)], [0, 6], none⟩
abbrev r_ref16_Valid_1 : Reg := ⟨[⟨.fad (.v 1) 0 none, none, false⟩, ⟨.ldi (.t 0) none, none, false⟩, ⟨.bin .lss (.t 0) (.c (.int (1))), none, false⟩, ⟨.mv (.t 0), none, false⟩, ⟨.fad (.v 1) 0 none, some (.t 0, false), false⟩, ⟨.ldi (.t 0) none, some (.t 1, false), false⟩, ⟨.bin .gtr (.t 0) (.c (.int (64))), some (.t 2, false), false⟩, ⟨.pick (.t 3) (.c (.bool true)) (.t 0), none, false⟩], [], [], some (14, 0)⟩
abbrev r_ref16_Valid_2 : Reg := ⟨[⟨.mv (.c (.int (2))), none, false⟩], [(6, 0)], [1], none⟩
abbrev r_ref16_Valid_3 : Reg := ⟨[⟨.fad (.v 1) 1 none, none, false⟩, ⟨.ldi (.t 0) none, none, false⟩, ⟨.len (.t 0), none, false⟩, ⟨.bin .gtr (.t 0) (.c (.int (10000))), none, false⟩], [], [], some (18, 0)⟩
abbrev r_ref16_Valid_4 : Reg := ⟨[⟨.mv (.c (.int (11))), none, false⟩], [(6, 0)], [1], none⟩
abbrev r_ref16_Valid_5 : Reg := ⟨[⟨.mv (.c (.int (0))), none, false⟩], [(2, 0)], [], none⟩
abbrev r_ref16_Valid_6 : Reg := ⟨[⟨.mv (.v 2), none, false⟩, ⟨.fad (.v 1) 1 none, none, false⟩, ⟨.ldi (.t 0) none, none, false⟩, ⟨.len (.t 0), none, false⟩, ⟨.bin .lss (.t 3) (.t 0), none, false⟩], [], [], some (23, 0)⟩
abbrev r_ref16_Valid_8 : Reg := ⟨[⟨.fad (.v 1) 1 none, none, false⟩, ⟨.ldi (.t 0) none, none, false⟩, ⟨.mv (.v 2), none, false⟩, ⟨.iad (.t 1) (.t 0) 2, none, false⟩, ⟨.ldi (.t 0) (some 2), none, false⟩, ⟨.alc0 2, none, false⟩, ⟨.ini (.t 0) (.t 1) 2, none, false⟩], [(3, 0)], [], none⟩
abbrev r_ref16_Valid_9 : Reg := ⟨[⟨.fad (.v 3) 0 none, none, false⟩, ⟨.ldi (.t 0) none, none, false⟩, ⟨.fad (.v 1) 0 none, none, false⟩, ⟨.ldi (.t 0) none, none, false⟩, ⟨.cal F_ref01_Check [(.t 2), (.t 0)], none, false⟩, ⟨.mv (.t 0), none, false⟩], [(4, 0)], [], none⟩
abbrev r_ref16_Valid_10 : Reg := ⟨[⟨.mv (.v 4), none, false⟩, ⟨.bin .neq (.t 0) (.c (.int (0))), none, false⟩], [], [], some (37, 0)⟩
abbrev r_ref16_Valid_11 : Reg := ⟨[⟨.mv (.v 4), none, false⟩, ⟨.mv (.t 0), none, false⟩], [(6, 0)], [1, 2, 3, 4], none⟩
abbrev r_ref16_Valid_12 : Reg := ⟨[⟨.fad (.v 3) 0 none, none, false⟩, ⟨.ldi (.t 0) none, none, false⟩, ⟨.len (.t 0), none, false⟩, ⟨.bin .eql (.t 0) (.c (.int (0))), none, false⟩], [], [4], some (42, 0)⟩
abbrev r_ref16_Valid_13 : Reg := ⟨[⟨.mv (.c (.int (19))), none, false⟩], [(6, 0)], [1, 2, 3], none⟩
abbrev r_ref16_Valid_14 : Reg := ⟨[⟨.ldi (.v 3) (some 2), none, false⟩, ⟨.fad (.v 1) 0 none, none, false⟩, ⟨.ldi (.t 0) none, none, false⟩, ⟨.cal F_ref16_Proper [(.t 2), (.t 0)], none, false⟩, ⟨.mv (.t 0), none, false⟩], [(5, 0)], [], none⟩
abbrev r_ref16_Valid_15 : Reg := ⟨[⟨.mv (.v 5), none, false⟩, ⟨.bin .neq (.t 0) (.c (.int (0))), none, false⟩], [], [], some (48, 0)⟩
abbrev r_ref16_Valid_16 : Reg := ⟨[⟨.mv (.v 5), none, false⟩, ⟨.mv (.t 0), none, false⟩], [(6, 0)], [1, 2, 3, 5], none⟩
abbrev r_ref16_Valid_17 : Reg := ⟨[⟨.mv (.v 2), none, false⟩, ⟨.bin .gtr (.t 0) (.c (.int (0))), none, false⟩, ⟨.mv (.t 0), none, false⟩, ⟨.fad (.v 1) 1 none, some (.t 0, true), false⟩, ⟨.ldi (.t 0) none, some (.t 1, true), false⟩, ⟨.mv (.v 2), some (.t 2, true), false⟩, ⟨.bin .sub (.t 0) (.c (.int (1))), some (.t 3, true), false⟩, ⟨.iad (.t 2) (.t 0) 2, some (.t 4, true), false⟩, ⟨.fad (.t 0) 0 none, some (.t 5, true), false⟩, ⟨.ldi (.t 0) none, some (.t 6, true), false⟩, ⟨.fad (.v 3) 0 none, some (.t 7, true), false⟩, ⟨.ldi (.t 0) none, some (.t 8, true), false⟩, ⟨.cal F_ref01_Compare [(.t 2), (.t 0)], some (.t 9, true), false⟩, ⟨.bin .geq (.t 0) (.c (.int (0))), some (.t 10, true), false⟩, ⟨.pick (.t 11) (.t 0) (.c (.bool false)), none, false⟩], [], [3, 5], some (64, 0)⟩
abbrev r_ref16_Valid_18 : Reg := ⟨[⟨.mv (.c (.int (10))), none, false⟩], [(6, 0)], [1, 2], none⟩
abbrev r_ref16_Valid_7 : Reg := ⟨[⟨.mv (.v 2), none, false⟩, ⟨.bin .add (.t 0) (.c (.int (1))), none, false⟩, ⟨.mv (.t 0), none, false⟩], [(2, 0)], [], none⟩
abbrev b_ref16_Valid_0 : IC := (.seq (.seq (.reg r_ref16_Valid_6)
 (.cond 23 .skip (.exit 0)))
 (.seq (.block 1 (.seq (.reg r_ref16_Valid_8)
 (.seq (.seq (.reg r_ref16_Valid_9)
 (.seq (.reg r_ref16_Valid_10)
 (.cond 37 (.seq (.reg r_ref16_Valid_11)
 .ret) .skip)))
 (.seq (.seq (.reg r_ref16_Valid_12)
 (.cond 42 (.seq (.reg r_ref16_Valid_13)
 .ret) .skip))
 (.seq (.seq (.reg r_ref16_Valid_14)
 (.seq (.reg r_ref16_Valid_15)
 (.cond 48 (.seq (.reg r_ref16_Valid_16)
 .ret) .skip)))
 (.seq (.reg r_ref16_Valid_17)
 (.cond 64 (.seq (.reg r_ref16_Valid_18)
 .ret) .skip)))))))
 (.reg r_ref16_Valid_7)))
abbrev r_ref16_Valid_19 : Reg := ⟨[⟨.ldi (.v 1) (some 2), none, false⟩, ⟨.cal F_ref16_apart [(.t 0)], none, false⟩, ⟨.mv (.t 0), none, false⟩], [(6, 0)], [1, 2], none⟩
abbrev ir_ref16_Valid : Fn := { np := 1, nv := 7, res := [(6, none)], body :=
(.seq (.reg r_ref16_Valid_0)
 (.seq (.seq (.reg r_ref16_Valid_1)
 (.cond 14 (.seq (.reg r_ref16_Valid_2)
 .ret) .skip))
 (.seq (.seq (.reg r_ref16_Valid_3)
 (.cond 18 (.seq (.reg r_ref16_Valid_4)
 .ret) .skip))
 (.seq (.seq (.reg r_ref16_Valid_5)
 (.block 0 (.loop b_ref16_Valid_0)))
 (.seq (.reg r_ref16_Valid_19)
 .ret))))) }
/- f12 law20_awake : 0:m 1:l 2:p 3:e 4:c 5:n 6:f 7:d 8:g 9:k 10:h 11:q 12:i 13:j 14:_ -/
abbrev r_law20_awake_0 : Reg := ⟨[⟨.mv (.c (.bool false)), none, false⟩], [], [14], none⟩
abbrev r_law20_awake_1 : Reg := ⟨[⟨.liti [(.c (.int (1))), (.c (.int (0)))] 1, none, false⟩, ⟨.liti [(.c (.int (1))), (.c (.int (0)))] 1, none, false⟩, ⟨.liti [(.t 1), (.t 0)] 1, none, false⟩, ⟨.liti [(.c (.int (1))), (.c (.int (0)))] 1, none, false⟩, ⟨.liti [(.c (.int (1))), (.c (.int (2)))] 1, none, false⟩, ⟨.liti [(.t 1), (.t 0)] 1, none, false⟩, ⟨.bld [.int 0, .int 0, .snil, .snil] [(0, 1, (.c (.int (2)))), (2, 1, (.t 3)), (3, 1, (.t 0))], none, false⟩, ⟨.alc0 4, none, false⟩, ⟨.ini (.t 0) (.t 1) 4, none, false⟩], [(0, 0)], [], none⟩
abbrev r_law20_awake_2 : Reg := ⟨[⟨.liti [(.c (.int (5))), (.c (.int (3)))] 1, none, false⟩, ⟨.bld [.snil, .int 0] [(0, 1, (.t 0)), (1, 1, (.c (.int (100))))], none, false⟩, ⟨.alc0 2, none, false⟩, ⟨.ini (.t 0) (.t 1) 2, none, false⟩], [(1, 0)], [], none⟩
abbrev r_law20_awake_3 : Reg := ⟨[⟨.liti [(.c (.int (1)))] 1, none, false⟩, ⟨.liti [(.c (.int (0)))] 1, none, false⟩, ⟨.bld [.snil, .snil] [(0, 1, (.t 1)), (1, 1, (.t 0))], none, false⟩, ⟨.liti [(.t 0)] 2, none, false⟩, ⟨.bld [.int 0, .snil] [(0, 1, (.c (.int (2)))), (1, 1, (.t 0))], none, false⟩, ⟨.liti [(.c (.int (0)))] 1, none, false⟩, ⟨.liti [(.c (.int (0))), (.c (.int (1)))] 1, none, false⟩, ⟨.liti [(.c (.int (1)))] 1, none, false⟩, ⟨.liti [(.t 2), (.t 1), (.t 0)] 1, none, false⟩, ⟨.cal F_batch_Plan [(.t 4), (.t 0)], none, false⟩, ⟨.mv (.t 0), none, false⟩, ⟨.ext (.t 0) 0, none, false⟩, ⟨.ext (.t 1) 1, none, false⟩, ⟨.mv (.t 1), none, false⟩, ⟨.mv (.t 1), none, false⟩], [(2, 1), (3, 0)], [], none⟩
abbrev r_law20_awake_4 : Reg := ⟨[⟨.ldi (.v 0) (some 4), none, false⟩, ⟨.ldi (.v 1) (some 2), none, false⟩, ⟨.liti [(.c (.int (0))), (.c (.int (0))), (.c (.int (0)))] 1, none, false⟩, ⟨.liti [(.c (.int (0))), (.c (.int (1)))] 1, none, false⟩, ⟨.liti [(.t 1), (.t 0)] 1, none, false⟩, ⟨.cal F_batch_Chain [(.t 4), (.t 3), (.t 0)], none, false⟩, ⟨.mv (.t 0), none, false⟩, ⟨.ext (.t 0) 0, none, false⟩, ⟨.ext (.t 1) 1, none, false⟩, ⟨.ext (.t 2) 2, none, false⟩, ⟨.mv (.t 2), none, false⟩, ⟨.mv (.t 2), none, false⟩, ⟨.mv (.t 2), none, false⟩], [(4, 2), (5, 1), (6, 0)], [], none⟩
abbrev r_law20_awake_5 : Reg := ⟨[⟨.ldi (.v 0) (some 4), none, false⟩, ⟨.ldi (.v 1) (some 2), none, false⟩, ⟨.liti [(.c (.int (0))), (.c (.int (0)))] 1, none, false⟩, ⟨.liti [(.c (.int (1))), (.c (.int (1)))] 1, none, false⟩, ⟨.liti [(.t 1), (.t 0)] 1, none, false⟩, ⟨.cal F_batch_Chain [(.t 4), (.t 3), (.t 0)], none, false⟩, ⟨.mv (.t 0), none, false⟩, ⟨.ext (.t 0) 0, none, false⟩, ⟨.ext (.t 1) 1, none, false⟩, ⟨.ext (.t 2) 2, none, false⟩, ⟨.mv (.t 2), none, false⟩, ⟨.mv (.t 2), none, false⟩, ⟨.mv (.t 2), none, false⟩], [(7, 2), (8, 0)], [0], none⟩
abbrev r_law20_awake_6 : Reg := ⟨[⟨.ldi (.v 1) (some 2), none, false⟩, ⟨.liti [(.c (.int (0))), (.c (.int (0))), (.c (.int (0)))] 1, none, false⟩, ⟨.liti [(.c (.int (0))), (.c (.int (1)))] 1, none, false⟩, ⟨.liti [(.t 1), (.t 0)] 1, none, false⟩, ⟨.cal F_batch_Cost [(.t 3), (.t 0)], none, false⟩, ⟨.mv (.t 0), none, false⟩, ⟨.ext (.t 0) 0, none, false⟩, ⟨.ext (.t 1) 1, none, false⟩, ⟨.mv (.t 1), none, false⟩, ⟨.mv (.t 1), none, false⟩], [(9, 1), (10, 0)], [1], none⟩
abbrev r_law20_awake_7 : Reg := ⟨[⟨.liti [(.c (.int (0)))] 1, none, false⟩, ⟨.liti [(.c (.int (0))), (.c (.int (1)))] 1, none, false⟩, ⟨.liti [(.c (.int (0))), (.c (.int (0))), (.c (.int (0)))] 1, none, false⟩, ⟨.liti [(.t 2), (.t 1), (.t 0)] 1, none, false⟩, ⟨.cal F_batch_Groups [(.t 0), (.c (.int (3)))], none, false⟩, ⟨.mv (.t 0), none, false⟩, ⟨.ext (.t 0) 0, none, false⟩, ⟨.ext (.t 1) 1, none, false⟩, ⟨.mv (.t 1), none, false⟩, ⟨.mv (.t 1), none, false⟩], [(11, 1), (12, 0)], [], none⟩
abbrev r_law20_awake_8 : Reg := ⟨[⟨.cal F_batch_Groups [(.c (.snil)), (.c (.int (0)))], none, false⟩, ⟨.mv (.t 0), none, false⟩, ⟨.ext (.t 0) 0, none, false⟩, ⟨.ext (.t 1) 1, none, false⟩, ⟨.mv (.t 1), none, false⟩, ⟨.mv (.t 1), none, false⟩], [(13, 0)], [], none⟩
abbrev r_law20_awake_9 : Reg := ⟨[⟨.mv (.v 2), none, false⟩, ⟨.liti [(.c (.int (0))), (.c (.int (1)))] 1, none, false⟩, ⟨.liti [(.t 0)] 1, none, false⟩, ⟨.cal F_ref01_SameWords [(.t 2), (.t 0)], none, false⟩, ⟨.mv (.t 0), none, false⟩, ⟨.mv (.v 3), some (.t 0, true), false⟩, ⟨.bin .eql (.t 0) (.c (.int (0))), some (.t 1, true), false⟩, ⟨.pick (.t 2) (.t 0) (.c (.bool false)), none, false⟩, ⟨.mv (.t 0), none, false⟩, ⟨.mv (.v 4), some (.t 0, true), false⟩, ⟨.liti [(.c (.int (0))), (.c (.int (1)))] 1, some (.t 1, true), false⟩, ⟨.bld [.bool false, .snil, .snil] [(0, 1, (.c (.bool true))), (2, 1, (.t 0))], some (.t 2, true), false⟩, ⟨.liti [(.c (.int (0))), (.c (.int (0))), (.c (.int (0)))] 1, some (.t 3, true), false⟩, ⟨.bld [.bool false, .snil, .snil] [(2, 1, (.t 0))], some (.t 4, true), false⟩, ⟨.liti [(.t 2), (.t 0)] 3, some (.t 5, true), false⟩, ⟨.cal F_ref20_SameMoves [(.t 5), (.t 0)], some (.t 6, true), false⟩, ⟨.pick (.t 7) (.t 0) (.c (.bool false)), none, false⟩, ⟨.mv (.t 0), none, false⟩, ⟨.mv (.v 5), some (.t 0, true), false⟩, ⟨.bin .eql (.t 0) (.c (.int (123))), some (.t 1, true), false⟩, ⟨.pick (.t 2) (.t 0) (.c (.bool false)), none, false⟩, ⟨.mv (.t 0), none, false⟩, ⟨.mv (.v 6), some (.t 0, true), false⟩, ⟨.bin .eql (.t 0) (.c (.int (0))), some (.t 1, true), false⟩, ⟨.pick (.t 2) (.t 0) (.c (.bool false)), none, false⟩, ⟨.mv (.t 0), none, false⟩, ⟨.mv (.v 7), some (.t 0, true), false⟩, ⟨.liti [(.c (.int (0))), (.c (.int (0)))] 1, some (.t 1, true), false⟩, ⟨.bld [.bool false, .snil, .snil] [(0, 1, (.c (.bool true))), (2, 1, (.t 0))], some (.t 2, true), false⟩, ⟨.liti [(.c (.int (1)))] 1, some (.t 3, true), false⟩, ⟨.liti [(.c (.int (1))), (.c (.int (1)))] 1, some (.t 4, true), false⟩, ⟨.bld [.bool false, .snil, .snil] [(1, 1, (.t 1)), (2, 1, (.t 0))], some (.t 5, true), false⟩, ⟨.liti [(.t 3), (.t 0)] 3, some (.t 6, true), false⟩, ⟨.cal F_ref20_SameMoves [(.t 6), (.t 0)], some (.t 7, true), false⟩, ⟨.pick (.t 8) (.t 0) (.c (.bool false)), none, false⟩, ⟨.mv (.t 0), none, false⟩, ⟨.mv (.v 8), some (.t 0, true), false⟩, ⟨.bin .eql (.t 0) (.c (.int (0))), some (.t 1, true), false⟩, ⟨.pick (.t 2) (.t 0) (.c (.bool false)), none, false⟩, ⟨.mv (.t 0), none, false⟩, ⟨.mv (.v 9), some (.t 0, true), false⟩, ⟨.bin .eql (.t 0) (.c (.int (223))), some (.t 1, true), false⟩, ⟨.pick (.t 2) (.t 0) (.c (.bool false)), none, false⟩, ⟨.mv (.t 0), none, false⟩, ⟨.mv (.v 10), some (.t 0, true), false⟩, ⟨.bin .eql (.t 0) (.c (.int (0))), some (.t 1, true), false⟩, ⟨.pick (.t 2) (.t 0) (.c (.bool false)), none, false⟩, ⟨.mv (.t 0), none, false⟩, ⟨.mv (.v 11), some (.t 0, true), false⟩, ⟨.liti [(.c (.int (0)))] 1, some (.t 1, true), false⟩, ⟨.liti [(.c (.int (0))), (.c (.int (1)))] 1, some (.t 2, true), false⟩, ⟨.liti [(.t 1), (.t 0)] 1, some (.t 3, true), false⟩, ⟨.liti [(.c (.int (0))), (.c (.int (0))), (.c (.int (0)))] 1, some (.t 4, true), false⟩, ⟨.liti [(.t 0)] 1, some (.t 5, true), false⟩, ⟨.liti [(.t 2), (.t 0)] 1, some (.t 6, true), false⟩, ⟨.cal F_ref20_SameGroups [(.t 6), (.t 0)], some (.t 7, true), false⟩, ⟨.pick (.t 8) (.t 0) (.c (.bool false)), none, false⟩, ⟨.mv (.t 0), none, false⟩, ⟨.mv (.v 12), some (.t 0, true), false⟩, ⟨.bin .eql (.t 0) (.c (.int (0))), some (.t 1, true), false⟩, ⟨.pick (.t 2) (.t 0) (.c (.bool false)), none, false⟩, ⟨.mv (.t 0), none, false⟩, ⟨.mv (.v 13), some (.t 0, true), false⟩, ⟨.bin .eql (.t 0) (.c (.int (2))), some (.t 1, true), false⟩, ⟨.pick (.t 2) (.t 0) (.c (.bool false)), none, false⟩, ⟨.mv (.t 0), none, false⟩], [(14, 0)], [2, 3, 4, 5, 6, 7, 8, 9, 10, 11, 12, 13], none⟩
abbrev ir_law20_awake : Fn := { np := 0, nv := 15, res := [(14, none)], body :=
(.seq (.reg r_law20_awake_0)
 (.seq (.reg r_law20_awake_1)
 (.seq (.reg r_law20_awake_2)
 (.seq (.reg r_law20_awake_3)
 (.seq (.reg r_law20_awake_4)
 (.seq (.reg r_law20_awake_5)
 (.seq (.reg r_law20_awake_6)
 (.seq (.reg r_law20_awake_7)
 (.seq (.reg r_law20_awake_8)
 (.seq (.reg r_law20_awake_9)
 .ret)))))))))) }
/- f13 batch_Plan : 0:o 1:queries 2:_ 3:_ 4:_ 5:w 6:o 7:e 8:_ 9:_ 10:_ 11:w 12:known 13:open 14:_ 15:_ -/
abbrev r_batch_Plan_0 : Reg := ⟨[⟨.bxi (.v 0), none, false⟩, ⟨.mv (.c (.snil)), none, false⟩, ⟨.mv (.c (.int (0))), none, false⟩], [(6, 2)], [0, 14, 15], none⟩
abbrev r_batch_Plan_1 : Reg := ⟨[⟨.mv (.v 1), none, false⟩, ⟨.len (.t 0), none, false⟩, ⟨.mv (.c (.int (0))), none, false⟩], [(4, 2), (3, 1), (2, 0)], [], none⟩
abbrev r_batch_Plan_2 : Reg := ⟨[⟨.bin .lss (.v 2) (.v 3), none, false⟩], [], [], some (17, 0)⟩
abbrev r_batch_Plan_3 : Reg := ⟨[⟨.iad (.v 4) (.v 2) 1, none, false⟩, ⟨.ld (.t 0) none, none, false⟩, ⟨.mv (.t 0), none, false⟩], [(5, 0)], [], none⟩
abbrev r_batch_Plan_4 : Reg := ⟨[⟨.mv (.v 5), none, false⟩, ⟨.fad (.v 6) 0 none, none, false⟩, ⟨.ldi (.t 0) none, none, false⟩, ⟨.cal F_word_Check [(.t 2), (.t 0)], none, false⟩, ⟨.mv (.t 0), none, false⟩], [(7, 0)], [5], none⟩
abbrev r_batch_Plan_5 : Reg := ⟨[⟨.mv (.v 7), none, false⟩, ⟨.bin .neq (.t 0) (.c (.int (0))), none, false⟩], [], [], some (25, 0)⟩
abbrev r_batch_Plan_6 : Reg := ⟨[⟨.mv (.v 7), none, false⟩, ⟨.mv (.c (.snil)), none, false⟩, ⟨.mv (.t 1), none, false⟩], [(14, 1), (15, 0)], [1, 2, 3, 4, 6, 7], none⟩
abbrev r_batch_Plan_7 : Reg := ⟨[⟨.bin .add (.v 2) (.c (.int (1))), none, false⟩, ⟨.mv (.t 0), none, false⟩], [(2, 0)], [7], none⟩
abbrev b_batch_Plan_0 : IC := (.seq (.reg r_batch_Plan_2)
 (.seq (.cond 17 .skip (.exit 0))
 (.seq (.block 1 (.seq (.reg r_batch_Plan_3)
 (.seq (.reg r_batch_Plan_4)
 (.seq (.reg r_batch_Plan_5)
 (.cond 25 (.seq (.reg r_batch_Plan_6)
 .ret) .skip)))))
 (.reg r_batch_Plan_7))))
abbrev r_batch_Plan_8 : Reg := ⟨[⟨.mv (.v 1), none, false⟩, ⟨.len (.t 0), none, false⟩, ⟨.mks (.c (.int (0))) (.t 0) [.snil] none, none, false⟩, ⟨.mv (.t 0), none, false⟩], [(13, 0)], [2, 3, 4], none⟩
abbrev r_batch_Plan_9 : Reg := ⟨[⟨.mv (.v 1), none, false⟩, ⟨.len (.t 0), none, false⟩, ⟨.mv (.c (.int (0))), none, false⟩], [(10, 2), (9, 1), (8, 0)], [1], none⟩
abbrev r_batch_Plan_10 : Reg := ⟨[⟨.bin .lss (.v 8) (.v 9), none, false⟩], [], [], some (34, 0)⟩
abbrev r_batch_Plan_11 : Reg := ⟨[⟨.iad (.v 10) (.v 8) 1, none, false⟩, ⟨.ld (.t 0) none, none, false⟩, ⟨.mv (.t 0), none, false⟩], [(11, 0)], [], none⟩
abbrev r_batch_Plan_12 : Reg := ⟨[⟨.ldi (.v 6) (some 2), none, false⟩, ⟨.mv (.v 11), none, false⟩, ⟨.cal F_observe_Answer [(.t 1), (.t 0)], none, false⟩, ⟨.mv (.t 0), none, false⟩, ⟨.ext (.t 0) 0, none, false⟩, ⟨.ext (.t 1) 1, none, false⟩, ⟨.mv (.t 1), none, false⟩, ⟨.mv (.t 1), none, false⟩], [(12, 0)], [], none⟩
abbrev r_batch_Plan_13 : Reg := ⟨[⟨.mv (.v 12), none, false⟩, ⟨.not (.t 0), none, false⟩], [], [12], some (44, 0)⟩
abbrev r_batch_Plan_14 : Reg := ⟨[⟨.mv (.v 13), none, false⟩, ⟨.mv (.v 11), none, false⟩, ⟨.lita [(.t 0)] 1, none, false⟩, ⟨.appw (.t 2) (.t 0) none, none, false⟩, ⟨.mv (.t 0), none, false⟩], [(13, 0)], [11], none⟩
abbrev r_batch_Plan_15 : Reg := ⟨[⟨.bin .add (.v 8) (.c (.int (1))), none, false⟩, ⟨.mv (.t 0), none, false⟩], [(8, 0)], [11], none⟩
abbrev b_batch_Plan_2 : IC := (.seq (.reg r_batch_Plan_10)
 (.seq (.cond 34 .skip (.exit 2))
 (.seq (.block 3 (.seq (.reg r_batch_Plan_11)
 (.seq (.reg r_batch_Plan_12)
 (.seq (.reg r_batch_Plan_13)
 (.cond 44 (.reg r_batch_Plan_14) .skip)))))
 (.reg r_batch_Plan_15))))
abbrev r_batch_Plan_16 : Reg := ⟨[⟨.mv (.v 13), none, false⟩, ⟨.cal F_wordset_Maximal [(.t 0)], none, false⟩, ⟨.mv (.t 0), none, false⟩, ⟨.mv (.c (.int (0))), none, false⟩], [(14, 1), (15, 0)], [6, 8, 9, 10, 13], none⟩
abbrev ir_batch_Plan : Fn := { np := 2, nv := 16, res := [(14, none), (15, none)], body :=
(.seq (.reg r_batch_Plan_0)
 (.seq (.seq (.reg r_batch_Plan_1)
 (.block 0 (.loop b_batch_Plan_0)))
 (.seq (.reg r_batch_Plan_8)
 (.seq (.seq (.reg r_batch_Plan_9)
 (.seq (.block 2 (.loop b_batch_Plan_2)) (.frz 13)))
 (.seq (.reg r_batch_Plan_16)
 .ret))))) }
/- f14 ref20_Plan : 0:o 1:queries 2:o 3:e 4:i 5:ok 6:open 7:_ 8:_ -/
abbrev r_ref20_Plan_0 : Reg := ⟨[⟨.bxi (.v 0), none, false⟩, ⟨.mv (.c (.snil)), none, false⟩, ⟨.mv (.c (.int (0))), none, false⟩], [(2, 2)], [0, 7, 8], none⟩
abbrev r_ref20_Plan_1 : Reg := ⟨[⟨.mv (.v 1), none, false⟩, ⟨.fad (.v 2) 0 none, none, false⟩, ⟨.ldi (.t 0) none, none, false⟩, ⟨.cal F_ref20_check [(.t 2), (.t 0)], none, false⟩, ⟨.mv (.t 0), none, false⟩], [(3, 0)], [], none⟩
abbrev r_ref20_Plan_2 : Reg := ⟨[⟨.mv (.v 3), none, false⟩, ⟨.bin .neq (.t 0) (.c (.int (0))), none, false⟩], [], [], some (16, 0)⟩
abbrev r_ref20_Plan_3 : Reg := ⟨[⟨.mv (.v 3), none, false⟩, ⟨.mv (.c (.snil)), none, false⟩, ⟨.mv (.t 1), none, false⟩], [(7, 1), (8, 0)], [1, 2, 3], none⟩
abbrev r_ref20_Plan_4 : Reg := ⟨[⟨.nl none, none, false⟩], [(6, 0)], [3], none⟩
abbrev r_ref20_Plan_5 : Reg := ⟨[⟨.mv (.c (.int (0))), none, false⟩], [(4, 0)], [], none⟩
abbrev r_ref20_Plan_6 : Reg := ⟨[⟨.mv (.v 4), none, false⟩, ⟨.mv (.v 1), none, false⟩, ⟨.len (.t 0), none, false⟩, ⟨.bin .lss (.t 2) (.t 0), none, false⟩], [], [], some (21, 0)⟩
abbrev r_ref20_Plan_8 : Reg := ⟨[⟨.ldi (.v 2) (some 2), none, false⟩, ⟨.mv (.v 1), none, false⟩, ⟨.mv (.v 4), none, false⟩, ⟨.iad (.t 1) (.t 0) 1, none, false⟩, ⟨.ld (.t 0) none, none, false⟩, ⟨.cal F_ref16_Answer [(.t 4), (.t 0)], none, false⟩, ⟨.mv (.t 0), none, false⟩, ⟨.ext (.t 0) 0, none, false⟩, ⟨.ext (.t 1) 1, none, false⟩, ⟨.mv (.t 1), none, false⟩, ⟨.mv (.t 1), none, false⟩], [(5, 0)], [], none⟩
abbrev r_ref20_Plan_9 : Reg := ⟨[⟨.mv (.v 5), none, false⟩, ⟨.not (.t 0), none, false⟩], [], [5], some (34, 0)⟩
abbrev r_ref20_Plan_10 : Reg := ⟨[⟨.mv (.v 6), none, false⟩, ⟨.mv (.v 1), none, false⟩, ⟨.mv (.v 4), none, false⟩, ⟨.iad (.t 1) (.t 0) 1, none, false⟩, ⟨.ld (.t 0) none, none, false⟩, ⟨.lita [(.t 0)] 1, none, false⟩, ⟨.appw (.t 5) (.t 0) none, none, false⟩, ⟨.mv (.t 0), none, false⟩], [(6, 0)], [], none⟩
abbrev r_ref20_Plan_7 : Reg := ⟨[⟨.mv (.v 4), none, false⟩, ⟨.bin .add (.t 0) (.c (.int (1))), none, false⟩, ⟨.mv (.t 0), none, false⟩], [(4, 0)], [], none⟩
abbrev b_ref20_Plan_0 : IC := (.seq (.seq (.reg r_ref20_Plan_6)
 (.cond 21 .skip (.exit 0)))
 (.seq (.block 1 (.seq (.reg r_ref20_Plan_8)
 (.seq (.reg r_ref20_Plan_9)
 (.cond 34 (.reg r_ref20_Plan_10) .skip))))
 (.reg r_ref20_Plan_7)))
abbrev r_ref20_Plan_11 : Reg := ⟨[⟨.mv (.v 6), none, false⟩, ⟨.cal F_ref02_Maximal [(.t 0)], none, false⟩, ⟨.mv (.t 0), none, false⟩, ⟨.mv (.c (.int (0))), none, false⟩], [(7, 1), (8, 0)], [1, 2, 4, 6], none⟩
abbrev ir_ref20_Plan : Fn := { np := 2, nv := 9, res := [(7, none), (8, none)], body :=
(.seq (.reg r_ref20_Plan_0)
 (.seq (.reg r_ref20_Plan_1)
 (.seq (.seq (.reg r_ref20_Plan_2)
 (.cond 16 (.seq (.reg r_ref20_Plan_3)
 .ret) .skip))
 (.seq (.reg r_ref20_Plan_4)
 (.seq (.seq (.reg r_ref20_Plan_5)
 (.seq (.block 0 (.loop b_ref20_Plan_0)) (.frz 6)))
 (.seq (.reg r_ref20_Plan_11)
 .ret)))))) }
/- f15 ref01_SameWords : 0:a 1:b 2:i 3:_ -/
abbrev r_ref01_SameWords_0 : Reg := ⟨[⟨.mv (.c (.bool false)), none, false⟩], [], [3], none⟩
abbrev r_ref01_SameWords_1 : Reg := ⟨[⟨.mv (.v 0), none, false⟩, ⟨.len (.t 0), none, false⟩, ⟨.mv (.v 1), none, false⟩, ⟨.len (.t 0), none, false⟩, ⟨.bin .neq (.t 2) (.t 0), none, false⟩], [], [], some (10, 0)⟩
abbrev r_ref01_SameWords_2 : Reg := ⟨[⟨.mv (.c (.bool false)), none, false⟩], [(3, 0)], [0, 1], none⟩
abbrev r_ref01_SameWords_3 : Reg := ⟨[⟨.mv (.c (.int (0))), none, false⟩], [(2, 0)], [], none⟩
abbrev r_ref01_SameWords_4 : Reg := ⟨[⟨.mv (.v 2), none, false⟩, ⟨.mv (.v 0), none, false⟩, ⟨.len (.t 0), none, false⟩, ⟨.bin .lss (.t 2) (.t 0), none, false⟩], [], [], some (14, 0)⟩
abbrev r_ref01_SameWords_6 : Reg := ⟨[⟨.mv (.v 0), none, false⟩, ⟨.mv (.v 2), none, false⟩, ⟨.iad (.t 1) (.t 0) 1, none, false⟩, ⟨.ld (.t 0) none, none, false⟩, ⟨.mv (.v 1), none, false⟩, ⟨.mv (.v 2), none, false⟩, ⟨.iad (.t 1) (.t 0) 1, none, false⟩, ⟨.ld (.t 0) none, none, false⟩, ⟨.cal F_ref01_Same [(.t 4), (.t 0)], none, false⟩, ⟨.not (.t 0), none, false⟩], [], [], some (26, 0)⟩
abbrev r_ref01_SameWords_7 : Reg := ⟨[⟨.mv (.c (.bool false)), none, false⟩], [(3, 0)], [0, 1, 2], none⟩
abbrev r_ref01_SameWords_5 : Reg := ⟨[⟨.mv (.v 2), none, false⟩, ⟨.bin .add (.t 0) (.c (.int (1))), none, false⟩, ⟨.mv (.t 0), none, false⟩], [(2, 0)], [], none⟩
abbrev b_ref01_SameWords_0 : IC := (.seq (.seq (.reg r_ref01_SameWords_4)
 (.cond 14 .skip (.exit 0)))
 (.seq (.block 1 (.seq (.reg r_ref01_SameWords_6)
 (.cond 26 (.seq (.reg r_ref01_SameWords_7)
 .ret) .skip)))
 (.reg r_ref01_SameWords_5)))
abbrev r_ref01_SameWords_8 : Reg := ⟨[⟨.mv (.c (.bool true)), none, false⟩], [(3, 0)], [0, 1, 2], none⟩
abbrev ir_ref01_SameWords : Fn := { np := 2, nv := 4, res := [(3, none)], body :=
(.seq (.reg r_ref01_SameWords_0)
 (.seq (.seq (.reg r_ref01_SameWords_1)
 (.cond 10 (.seq (.reg r_ref01_SameWords_2)
 .ret) .skip))
 (.seq (.seq (.reg r_ref01_SameWords_3)
 (.block 0 (.loop b_ref01_SameWords_0)))
 (.seq (.reg r_ref01_SameWords_8)
 .ret)))) }
/- f16 batch_Cost : 0:l 1:words 2:l 3:e 4:_ 5:_ 6:_ 7:w 8:e 9:sum 10:n 11:_ 12:_ -/
abbrev r_batch_Cost_0 : Reg := ⟨[⟨.bxi (.v 0), none, false⟩, ⟨.mv (.c (.int (0))), none, false⟩, ⟨.mv (.c (.int (0))), none, false⟩], [(2, 2)], [0, 11, 12], none⟩
abbrev r_batch_Cost_1 : Reg := ⟨[⟨.ldi (.v 2) (some 2), none, false⟩, ⟨.cal F_device_Cost [(.t 0), (.c (.snil))], none, false⟩, ⟨.mv (.t 0), none, false⟩, ⟨.ext (.t 0) 0, none, false⟩, ⟨.ext (.t 1) 1, none, false⟩, ⟨.mv (.t 1), none, false⟩, ⟨.mv (.t 1), none, false⟩], [(3, 0)], [], none⟩
abbrev r_batch_Cost_2 : Reg := ⟨[⟨.mv (.v 3), none, false⟩, ⟨.bin .neq (.t 0) (.c (.int (0))), none, false⟩], [], [], some (19, 0)⟩
abbrev r_batch_Cost_3 : Reg := ⟨[⟨.mv (.v 3), none, false⟩, ⟨.mv (.c (.int (0))), none, false⟩, ⟨.mv (.t 1), none, false⟩], [(11, 1), (12, 0)], [1, 2, 3], none⟩
abbrev r_batch_Cost_4 : Reg := ⟨[⟨.mv (.c (.int (0))), none, false⟩], [(9, 0)], [3], none⟩
abbrev r_batch_Cost_5 : Reg := ⟨[⟨.mv (.v 1), none, false⟩, ⟨.len (.t 0), none, false⟩, ⟨.mv (.c (.int (0))), none, false⟩], [(6, 2), (5, 1), (4, 0)], [1], none⟩
abbrev r_batch_Cost_6 : Reg := ⟨[⟨.bin .lss (.v 4) (.v 5), none, false⟩], [], [], some (24, 0)⟩
abbrev r_batch_Cost_7 : Reg := ⟨[⟨.iad (.v 6) (.v 4) 1, none, false⟩, ⟨.ld (.t 0) none, none, false⟩, ⟨.mv (.t 0), none, false⟩], [(7, 0)], [], none⟩
abbrev r_batch_Cost_8 : Reg := ⟨[⟨.ldi (.v 2) (some 2), none, false⟩, ⟨.mv (.v 7), none, false⟩, ⟨.cal F_device_Cost [(.t 1), (.t 0)], none, false⟩, ⟨.mv (.t 0), none, false⟩, ⟨.ext (.t 0) 0, none, false⟩, ⟨.ext (.t 1) 1, none, false⟩, ⟨.mv (.t 1), none, false⟩, ⟨.mv (.t 1), none, false⟩], [(10, 1), (8, 0)], [7], none⟩
abbrev r_batch_Cost_9 : Reg := ⟨[⟨.mv (.v 8), none, false⟩, ⟨.bin .neq (.t 0) (.c (.int (0))), none, false⟩], [], [], some (34, 0)⟩
abbrev r_batch_Cost_10 : Reg := ⟨[⟨.mv (.v 8), none, false⟩, ⟨.mv (.c (.int (0))), none, false⟩, ⟨.mv (.t 1), none, false⟩], [(11, 1), (12, 0)], [2, 4, 5, 6, 8, 9, 10], none⟩
abbrev r_batch_Cost_11 : Reg := ⟨[⟨.mv (.v 9), none, false⟩, ⟨.mv (.v 10), none, false⟩, ⟨.bin .add (.t 1) (.t 0), none, false⟩, ⟨.mv (.t 0), none, false⟩], [(9, 0)], [8, 10], none⟩
abbrev r_batch_Cost_12 : Reg := ⟨[⟨.bin .add (.v 4) (.c (.int (1))), none, false⟩, ⟨.mv (.t 0), none, false⟩], [(4, 0)], [], none⟩
abbrev b_batch_Cost_0 : IC := (.seq (.reg r_batch_Cost_6)
 (.seq (.cond 24 .skip (.exit 0))
 (.seq (.block 1 (.seq (.reg r_batch_Cost_7)
 (.seq (.reg r_batch_Cost_8)
 (.seq (.seq (.reg r_batch_Cost_9)
 (.cond 34 (.seq (.reg r_batch_Cost_10)
 .ret) .skip))
 (.reg r_batch_Cost_11)))))
 (.reg r_batch_Cost_12))))
abbrev r_batch_Cost_13 : Reg := ⟨[⟨.mv (.v 9), none, false⟩, ⟨.mv (.t 0), none, false⟩, ⟨.mv (.c (.int (0))), none, false⟩], [(11, 1), (12, 0)], [2, 4, 5, 6, 9], none⟩
abbrev ir_batch_Cost : Fn := { np := 2, nv := 13, res := [(11, none), (12, none)], body :=
(.seq (.reg r_batch_Cost_0)
 (.seq (.seq (.reg r_batch_Cost_1)
 (.seq (.reg r_batch_Cost_2)
 (.cond 19 (.seq (.reg r_batch_Cost_3)
 .ret) .skip)))
 (.seq (.reg r_batch_Cost_4)
 (.seq (.seq (.reg r_batch_Cost_5)
 (.block 0 (.loop b_batch_Cost_0)))
 (.seq (.reg r_batch_Cost_13)
 .ret))))) }
/- f17 ref20_Cost : 0:l 1:words 2:l 3:e 4:i 5:f 6:sum 7:n 8:_ 9:_ -/
abbrev r_ref20_Cost_0 : Reg := ⟨[⟨.bxi (.v 0), none, false⟩, ⟨.mv (.c (.int (0))), none, false⟩, ⟨.mv (.c (.int (0))), none, false⟩], [(2, 2)], [0, 8, 9], none⟩
abbrev r_ref20_Cost_1 : Reg := ⟨[⟨.ldi (.v 2) (some 2), none, false⟩, ⟨.cal F_ref19_Cost [(.t 0), (.c (.snil))], none, false⟩, ⟨.mv (.t 0), none, false⟩, ⟨.ext (.t 0) 0, none, false⟩, ⟨.ext (.t 1) 1, none, false⟩, ⟨.mv (.t 1), none, false⟩, ⟨.mv (.t 1), none, false⟩], [(3, 0)], [], none⟩
abbrev r_ref20_Cost_2 : Reg := ⟨[⟨.mv (.v 3), none, false⟩, ⟨.bin .neq (.t 0) (.c (.int (0))), none, false⟩], [], [], some (18, 0)⟩
abbrev r_ref20_Cost_3 : Reg := ⟨[⟨.mv (.v 3), none, false⟩, ⟨.mv (.c (.int (0))), none, false⟩, ⟨.mv (.t 1), none, false⟩], [(8, 1), (9, 0)], [1, 2, 3], none⟩
abbrev r_ref20_Cost_4 : Reg := ⟨[⟨.mv (.c (.int (0))), none, false⟩], [(6, 0)], [3], none⟩
abbrev r_ref20_Cost_5 : Reg := ⟨[⟨.mv (.c (.int (0))), none, false⟩], [(4, 0)], [], none⟩
abbrev r_ref20_Cost_6 : Reg := ⟨[⟨.mv (.v 4), none, false⟩, ⟨.mv (.v 1), none, false⟩, ⟨.len (.t 0), none, false⟩, ⟨.bin .lss (.t 2) (.t 0), none, false⟩], [], [], some (23, 0)⟩
abbrev r_ref20_Cost_8 : Reg := ⟨[⟨.ldi (.v 2) (some 2), none, false⟩, ⟨.mv (.v 1), none, false⟩, ⟨.mv (.v 4), none, false⟩, ⟨.iad (.t 1) (.t 0) 1, none, false⟩, ⟨.ld (.t 0) none, none, false⟩, ⟨.cal F_ref19_Cost [(.t 4), (.t 0)], none, false⟩, ⟨.mv (.t 0), none, false⟩, ⟨.ext (.t 0) 0, none, false⟩, ⟨.ext (.t 1) 1, none, false⟩, ⟨.mv (.t 1), none, false⟩, ⟨.mv (.t 1), none, false⟩], [(7, 1), (5, 0)], [], none⟩
abbrev r_ref20_Cost_9 : Reg := ⟨[⟨.mv (.v 5), none, false⟩, ⟨.bin .neq (.t 0) (.c (.int (0))), none, false⟩], [], [], some (36, 0)⟩
abbrev r_ref20_Cost_10 : Reg := ⟨[⟨.mv (.v 5), none, false⟩, ⟨.mv (.c (.int (0))), none, false⟩, ⟨.mv (.t 1), none, false⟩], [(8, 1), (9, 0)], [1, 2, 4, 5, 6, 7], none⟩
abbrev r_ref20_Cost_11 : Reg := ⟨[⟨.mv (.v 6), none, false⟩, ⟨.mv (.v 7), none, false⟩, ⟨.bin .add (.t 1) (.t 0), none, false⟩, ⟨.mv (.t 0), none, false⟩], [(6, 0)], [5, 7], none⟩
abbrev r_ref20_Cost_7 : Reg := ⟨[⟨.mv (.v 4), none, false⟩, ⟨.bin .add (.t 0) (.c (.int (1))), none, false⟩, ⟨.mv (.t 0), none, false⟩], [(4, 0)], [], none⟩
abbrev b_ref20_Cost_0 : IC := (.seq (.seq (.reg r_ref20_Cost_6)
 (.cond 23 .skip (.exit 0)))
 (.seq (.block 1 (.seq (.reg r_ref20_Cost_8)
 (.seq (.seq (.reg r_ref20_Cost_9)
 (.cond 36 (.seq (.reg r_ref20_Cost_10)
 .ret) .skip))
 (.reg r_ref20_Cost_11))))
 (.reg r_ref20_Cost_7)))
abbrev r_ref20_Cost_12 : Reg := ⟨[⟨.mv (.v 6), none, false⟩, ⟨.mv (.t 0), none, false⟩, ⟨.mv (.c (.int (0))), none, false⟩], [(8, 1), (9, 0)], [1, 2, 4, 6], none⟩
abbrev ir_ref20_Cost : Fn := { np := 2, nv := 10, res := [(8, none), (9, none)], body :=
(.seq (.reg r_ref20_Cost_0)
 (.seq (.reg r_ref20_Cost_1)
 (.seq (.seq (.reg r_ref20_Cost_2)
 (.cond 18 (.seq (.reg r_ref20_Cost_3)
 .ret) .skip))
 (.seq (.reg r_ref20_Cost_4)
 (.seq (.seq (.reg r_ref20_Cost_5)
 (.block 0 (.loop b_ref20_Cost_0)))
 (.seq (.reg r_ref20_Cost_12)
 .ret)))))) }
/- f18 batch_Groups : 0:words 1:most 2:_ 3:_ 4:_ 5:rest 6:w 7:out 8:k 9:_ 10:_ -/
abbrev r_batch_Groups_0 : Reg := ⟨[⟨.mv (.c (.snil)), none, false⟩, ⟨.mv (.c (.int (0))), none, false⟩], [], [9, 10], none⟩
abbrev r_batch_Groups_1 : Reg := ⟨[⟨.mv (.v 1), none, false⟩, ⟨.bin .lss (.t 0) (.c (.int (1))), none, false⟩], [], [], some (12, 0)⟩
abbrev r_batch_Groups_2 : Reg := ⟨[⟨.mv (.c (.snil)), none, false⟩, ⟨.mv (.c (.int (2))), none, false⟩], [(9, 1), (10, 0)], [0, 1], none⟩
abbrev r_batch_Groups_3 : Reg := ⟨[⟨.mv (.v 0), none, false⟩, ⟨.len (.t 0), none, false⟩, ⟨.mks (.c (.int (0))) (.t 0) [.snil] none, none, false⟩, ⟨.mv (.t 0), none, false⟩], [(5, 0)], [], none⟩
abbrev r_batch_Groups_4 : Reg := ⟨[⟨.mv (.v 0), none, false⟩, ⟨.len (.t 0), none, false⟩, ⟨.mv (.c (.int (0))), none, false⟩], [(4, 2), (3, 1), (2, 0)], [0], none⟩
abbrev r_batch_Groups_5 : Reg := ⟨[⟨.bin .lss (.v 2) (.v 3), none, false⟩], [], [], some (19, 0)⟩
abbrev r_batch_Groups_6 : Reg := ⟨[⟨.iad (.v 4) (.v 2) 1, none, false⟩, ⟨.ld (.t 0) none, none, false⟩, ⟨.mv (.t 0), none, false⟩], [(6, 0)], [], none⟩
abbrev r_batch_Groups_7 : Reg := ⟨[⟨.mv (.v 5), none, false⟩, ⟨.mv (.v 6), none, false⟩, ⟨.liti [(.t 0)] 1, none, false⟩, ⟨.cal F_word_Join [(.t 0)], none, false⟩, ⟨.lita [(.t 0)] 1, none, false⟩, ⟨.appw (.t 4) (.t 0) none, none, false⟩, ⟨.mv (.t 0), none, false⟩], [(5, 0)], [6], none⟩
abbrev r_batch_Groups_8 : Reg := ⟨[⟨.bin .add (.v 2) (.c (.int (1))), none, false⟩, ⟨.mv (.t 0), none, false⟩], [(2, 0)], [], none⟩
abbrev b_batch_Groups_0 : IC := (.seq (.reg r_batch_Groups_5)
 (.seq (.cond 19 .skip (.exit 0))
 (.seq (.block 1 (.seq (.reg r_batch_Groups_6)
 (.reg r_batch_Groups_7)))
 (.reg r_batch_Groups_8))))
abbrev r_batch_Groups_9 : Reg := ⟨[⟨.nl none, none, false⟩], [(7, 0)], [2, 3, 4], none⟩
abbrev r_batch_Groups_10 : Reg := ⟨[⟨.mv (.v 5), none, false⟩, ⟨.len (.t 0), none, false⟩, ⟨.bin .gtr (.t 0) (.c (.int (0))), none, false⟩], [], [], some (31, 0)⟩
abbrev r_batch_Groups_11 : Reg := ⟨[⟨.mv (.v 5), none, false⟩, ⟨.mv (.v 1), none, false⟩, ⟨.cal F_batch_first [(.t 1), (.t 0)], none, false⟩, ⟨.mv (.t 0), none, false⟩], [(8, 0)], [], none⟩
abbrev r_batch_Groups_12 : Reg := ⟨[⟨.mv (.v 7), none, false⟩, ⟨.mv (.v 5), none, false⟩, ⟨.mv (.v 8), none, false⟩, ⟨.mv (.v 8), none, false⟩, ⟨.slc3 (.t 2) (.t 1) (.t 0) 1, none, false⟩, ⟨.lita [(.t 0)] 1, none, false⟩, ⟨.appw (.t 5) (.t 0) none, none, false⟩, ⟨.mv (.t 0), none, false⟩], [(7, 0)], [], none⟩
abbrev r_batch_Groups_13 : Reg := ⟨[⟨.mv (.v 5), none, false⟩, ⟨.mv (.v 8), none, false⟩, ⟨.slc (.t 1) (some (.t 0)) none 1, none, false⟩, ⟨.mv (.t 0), none, false⟩], [(5, 0)], [8], none⟩
abbrev b_batch_Groups_2 : IC := (.seq (.seq (.reg r_batch_Groups_10)
 (.cond 31 .skip (.exit 2)))
 (.block 3 (.seq (.reg r_batch_Groups_11)
 (.seq (.reg r_batch_Groups_12)
 (.reg r_batch_Groups_13)))))
abbrev r_batch_Groups_14 : Reg := ⟨[⟨.mv (.v 7), none, false⟩, ⟨.mv (.t 0), none, false⟩, ⟨.mv (.c (.int (0))), none, false⟩], [(9, 1), (10, 0)], [1, 5, 7], none⟩
abbrev ir_batch_Groups : Fn := { np := 2, nv := 11, res := [(9, none), (10, none)], body :=
(.seq (.reg r_batch_Groups_0)
 (.seq (.seq (.reg r_batch_Groups_1)
 (.cond 12 (.seq (.reg r_batch_Groups_2)
 .ret) .skip))
 (.seq (.reg r_batch_Groups_3)
 (.seq (.seq (.reg r_batch_Groups_4)
 (.seq (.block 0 (.loop b_batch_Groups_0)) (.frz 5)))
 (.seq (.reg r_batch_Groups_9)
 (.seq (.block 2 (.loop b_batch_Groups_2))
 (.seq (.reg r_batch_Groups_14)
 .ret))))))) }
/- f19 ref20_Groups : 0:words 1:most 2:i 3:sum 4:n 5:out 6:_ 7:_ -/
abbrev r_ref20_Groups_0 : Reg := ⟨[⟨.mv (.c (.snil)), none, false⟩, ⟨.mv (.c (.int (0))), none, false⟩], [], [6, 7], none⟩
abbrev r_ref20_Groups_1 : Reg := ⟨[⟨.mv (.v 1), none, false⟩, ⟨.bin .lss (.t 0) (.c (.int (1))), none, false⟩], [], [], some (11, 0)⟩
abbrev r_ref20_Groups_2 : Reg := ⟨[⟨.mv (.c (.snil)), none, false⟩, ⟨.mv (.c (.int (2))), none, false⟩], [(6, 1), (7, 0)], [0, 1], none⟩
abbrev r_ref20_Groups_3 : Reg := ⟨[⟨.nl none, none, false⟩], [(5, 0)], [], none⟩
abbrev r_ref20_Groups_4 : Reg := ⟨[⟨.mv (.c (.int (0))), none, false⟩], [(3, 0)], [], none⟩
abbrev r_ref20_Groups_5 : Reg := ⟨[⟨.mv (.c (.int (0))), none, false⟩], [(2, 0)], [], none⟩
abbrev r_ref20_Groups_6 : Reg := ⟨[⟨.mv (.v 2), none, false⟩, ⟨.mv (.v 0), none, false⟩, ⟨.len (.t 0), none, false⟩, ⟨.bin .lss (.t 2) (.t 0), none, false⟩], [], [], some (15, 0)⟩
abbrev r_ref20_Groups_8 : Reg := ⟨[⟨.mv (.v 0), none, false⟩, ⟨.mv (.v 2), none, false⟩, ⟨.iad (.t 1) (.t 0) 1, none, false⟩, ⟨.ld (.t 0) none, none, false⟩, ⟨.len (.t 0), none, false⟩, ⟨.mv (.t 0), none, false⟩], [(4, 0)], [], none⟩
abbrev r_ref20_Groups_9 : Reg := ⟨[⟨.mv (.v 2), none, false⟩, ⟨.bin .eql (.t 0) (.c (.int (0))), none, false⟩, ⟨.mv (.t 0), none, false⟩, ⟨.mv (.v 3), some (.t 0, false), false⟩, ⟨.mv (.v 4), some (.t 1, false), false⟩, ⟨.bin .add (.t 1) (.t 0), some (.t 2, false), false⟩, ⟨.mv (.v 1), some (.t 3, false), false⟩, ⟨.bin .gtr (.t 1) (.t 0), some (.t 4, false), false⟩, ⟨.pick (.t 5) (.c (.bool true)) (.t 0), none, false⟩], [], [], some (31, 0)⟩
abbrev r_ref20_Groups_10 : Reg := ⟨[⟨.mv (.v 5), none, false⟩, ⟨.lita [(.c (.snil))] 1, none, false⟩, ⟨.appw (.t 1) (.t 0) none, none, false⟩, ⟨.mv (.t 0), none, false⟩], [(5, 0)], [3], none⟩
abbrev r_ref20_Groups_11 : Reg := ⟨[⟨.mv (.c (.int (0))), none, false⟩], [(3, 0)], [], none⟩
abbrev r_ref20_Groups_12 : Reg := ⟨[⟨.mv (.v 5), none, false⟩, ⟨.mv (.v 5), none, false⟩, ⟨.len (.t 0), none, false⟩, ⟨.bin .sub (.t 0) (.c (.int (1))), none, false⟩, ⟨.mv (.v 5), none, false⟩, ⟨.mv (.v 5), none, false⟩, ⟨.len (.t 0), none, false⟩, ⟨.bin .sub (.t 0) (.c (.int (1))), none, false⟩, ⟨.iad (.t 3) (.t 0) 1, none, false⟩, ⟨.ld (.t 0) none, none, false⟩, ⟨.lita [] 1, none, false⟩, ⟨.mv (.v 0), none, false⟩, ⟨.mv (.v 2), none, false⟩, ⟨.iad (.t 1) (.t 0) 1, none, false⟩, ⟨.ld (.t 0) none, none, false⟩, ⟨.app (.t 4) (.t 0) none, none, false⟩, ⟨.lita [(.t 0)] 1, none, false⟩, ⟨.app (.t 7) (.t 0) none, none, false⟩, ⟨.iad (.t 17) (.t 14) 1, none, false⟩, ⟨.st (.t 0) (.t 1) 1, none, false⟩], [], [], none⟩
abbrev r_ref20_Groups_13 : Reg := ⟨[⟨.mv (.v 3), none, false⟩, ⟨.mv (.v 4), none, false⟩, ⟨.bin .add (.t 1) (.t 0), none, false⟩, ⟨.mv (.t 0), none, false⟩], [(3, 0)], [4], none⟩
abbrev r_ref20_Groups_7 : Reg := ⟨[⟨.mv (.v 2), none, false⟩, ⟨.bin .add (.t 0) (.c (.int (1))), none, false⟩, ⟨.mv (.t 0), none, false⟩], [(2, 0)], [], none⟩
abbrev b_ref20_Groups_0 : IC := (.seq (.seq (.reg r_ref20_Groups_6)
 (.cond 15 .skip (.exit 0)))
 (.seq (.block 1 (.seq (.reg r_ref20_Groups_8)
 (.seq (.seq (.reg r_ref20_Groups_9)
 (.cond 31 (.seq (.reg r_ref20_Groups_10)
 (.reg r_ref20_Groups_11)) .skip))
 (.seq (.reg r_ref20_Groups_12)
 (.reg r_ref20_Groups_13)))))
 (.reg r_ref20_Groups_7)))
abbrev r_ref20_Groups_14 : Reg := ⟨[⟨.mv (.v 5), none, false⟩, ⟨.mv (.t 0), none, false⟩, ⟨.mv (.c (.int (0))), none, false⟩], [(6, 1), (7, 0)], [0, 1, 2, 3, 5], none⟩
abbrev ir_ref20_Groups : Fn := { np := 2, nv := 8, res := [(6, none), (7, none)], body :=
(.seq (.reg r_ref20_Groups_0)
 (.seq (.seq (.reg r_ref20_Groups_1)
 (.cond 11 (.seq (.reg r_ref20_Groups_2)
 .ret) .skip))
 (.seq (.reg r_ref20_Groups_3)
 (.seq (.reg r_ref20_Groups_4)
 (.seq (.seq (.reg r_ref20_Groups_5)
 (.block 0 (.loop b_ref20_Groups_0)))
 (.seq (.reg r_ref20_Groups_14)
 .ret)))))) }
/- f20 ref20_SameGroups : 0:a 1:b 2:i 3:_ -/
abbrev r_ref20_SameGroups_0 : Reg := ⟨[⟨.mv (.c (.bool false)), none, false⟩], [], [3], none⟩
abbrev r_ref20_SameGroups_1 : Reg := ⟨[⟨.mv (.v 0), none, false⟩, ⟨.len (.t 0), none, false⟩, ⟨.mv (.v 1), none, false⟩, ⟨.len (.t 0), none, false⟩, ⟨.bin .neq (.t 2) (.t 0), none, false⟩], [], [], some (10, 0)⟩
abbrev r_ref20_SameGroups_2 : Reg := ⟨[⟨.mv (.c (.bool false)), none, false⟩], [(3, 0)], [0, 1], none⟩
abbrev r_ref20_SameGroups_3 : Reg := ⟨[⟨.mv (.c (.int (0))), none, false⟩], [(2, 0)], [], none⟩
abbrev r_ref20_SameGroups_4 : Reg := ⟨[⟨.mv (.v 2), none, false⟩, ⟨.mv (.v 0), none, false⟩, ⟨.len (.t 0), none, false⟩, ⟨.bin .lss (.t 2) (.t 0), none, false⟩], [], [], some (14, 0)⟩
abbrev r_ref20_SameGroups_6 : Reg := ⟨[⟨.mv (.v 0), none, false⟩, ⟨.mv (.v 2), none, false⟩, ⟨.iad (.t 1) (.t 0) 1, none, false⟩, ⟨.ld (.t 0) none, none, false⟩, ⟨.mv (.v 1), none, false⟩, ⟨.mv (.v 2), none, false⟩, ⟨.iad (.t 1) (.t 0) 1, none, false⟩, ⟨.ld (.t 0) none, none, false⟩, ⟨.cal F_ref01_SameWords [(.t 4), (.t 0)], none, false⟩, ⟨.not (.t 0), none, false⟩], [], [], some (26, 0)⟩
abbrev r_ref20_SameGroups_7 : Reg := ⟨[⟨.mv (.c (.bool false)), none, false⟩], [(3, 0)], [0, 1, 2], none⟩
abbrev r_ref20_SameGroups_5 : Reg := ⟨[⟨.mv (.v 2), none, false⟩, ⟨.bin .add (.t 0) (.c (.int (1))), none, false⟩, ⟨.mv (.t 0), none, false⟩], [(2, 0)], [], none⟩
abbrev b_ref20_SameGroups_0 : IC := (.seq (.seq (.reg r_ref20_SameGroups_4)
 (.cond 14 .skip (.exit 0)))
 (.seq (.block 1 (.seq (.reg r_ref20_SameGroups_6)
 (.cond 26 (.seq (.reg r_ref20_SameGroups_7)
 .ret) .skip)))
 (.reg r_ref20_SameGroups_5)))
abbrev r_ref20_SameGroups_8 : Reg := ⟨[⟨.mv (.c (.bool true)), none, false⟩], [(3, 0)], [0, 1, 2], none⟩
abbrev ir_ref20_SameGroups : Fn := { np := 2, nv := 4, res := [(3, none)], body :=
(.seq (.reg r_ref20_SameGroups_0)
 (.seq (.seq (.reg r_ref20_SameGroups_1)
 (.cond 10 (.seq (.reg r_ref20_SameGroups_2)
 .ret) .skip))
 (.seq (.seq (.reg r_ref20_SameGroups_3)
 (.block 0 (.loop b_ref20_SameGroups_0)))
 (.seq (.reg r_ref20_SameGroups_8)
 .ret)))) }
/- f21 ref19_Great : 0:m 1:l 2:s 3:m 4:s 5:l 6:_ -/
abbrev r_ref19_Great_0 : Reg := ⟨[⟨.bxi (.v 0), none, false⟩, ⟨.bxi (.v 1), none, false⟩, ⟨.mv (.c (.bool false)), none, false⟩], [(3, 2), (5, 1)], [0, 1, 6], none⟩
abbrev r_ref19_Great_1 : Reg := ⟨[⟨.mv (.c (.int (0))), none, false⟩], [(2, 0)], [], none⟩
abbrev r_ref19_Great_2 : Reg := ⟨[⟨.mv (.v 2), none, false⟩, ⟨.fad (.v 3) 2 none, none, false⟩, ⟨.ldi (.t 0) none, none, false⟩, ⟨.len (.t 0), none, false⟩, ⟨.bin .lss (.t 3) (.t 0), none, false⟩, ⟨.mv (.t 0), none, false⟩, ⟨.mv (.v 2), some (.t 0, true), false⟩, ⟨.bin .lss (.t 0) (.c (.int (13))), some (.t 1, true), false⟩, ⟨.pick (.t 2) (.t 0) (.c (.bool false)), none, false⟩], [], [], some (15, 0)⟩
abbrev r_ref19_Great_4 : Reg := ⟨[⟨.fad (.v 3) 2 none, none, false⟩, ⟨.ldi (.t 0) none, none, false⟩, ⟨.mv (.v 2), none, false⟩, ⟨.iad (.t 1) (.t 0) 1, none, false⟩, ⟨.ldi (.t 0) none, none, false⟩, ⟨.len (.t 0), none, false⟩, ⟨.bin .gtr (.t 0) (.c (.int (6))), none, false⟩], [], [], some (24, 0)⟩
abbrev r_ref19_Great_5 : Reg := ⟨[⟨.mv (.c (.bool true)), none, false⟩], [(6, 0)], [2, 3, 5], none⟩
abbrev r_ref19_Great_3 : Reg := ⟨[⟨.mv (.v 2), none, false⟩, ⟨.bin .add (.t 0) (.c (.int (1))), none, false⟩, ⟨.mv (.t 0), none, false⟩], [(2, 0)], [], none⟩
abbrev b_ref19_Great_0 : IC := (.seq (.seq (.reg r_ref19_Great_2)
 (.cond 15 .skip (.exit 0)))
 (.seq (.block 1 (.seq (.reg r_ref19_Great_4)
 (.cond 24 (.seq (.reg r_ref19_Great_5)
 .ret) .skip)))
 (.reg r_ref19_Great_3)))
abbrev r_ref19_Great_6 : Reg := ⟨[⟨.mv (.c (.int (0))), none, false⟩], [(4, 0)], [2], none⟩
abbrev r_ref19_Great_7 : Reg := ⟨[⟨.mv (.v 4), none, false⟩, ⟨.fad (.v 3) 3 none, none, false⟩, ⟨.ldi (.t 0) none, none, false⟩, ⟨.len (.t 0), none, false⟩, ⟨.bin .lss (.t 3) (.t 0), none, false⟩, ⟨.mv (.t 0), none, false⟩, ⟨.mv (.v 4), some (.t 0, true), false⟩, ⟨.bin .lss (.t 0) (.c (.int (21))), some (.t 1, true), false⟩, ⟨.pick (.t 2) (.t 0) (.c (.bool false)), none, false⟩], [], [], some (33, 0)⟩
abbrev r_ref19_Great_9 : Reg := ⟨[⟨.fad (.v 3) 3 none, none, false⟩, ⟨.ldi (.t 0) none, none, false⟩, ⟨.mv (.v 4), none, false⟩, ⟨.iad (.t 1) (.t 0) 1, none, false⟩, ⟨.ldi (.t 0) none, none, false⟩, ⟨.len (.t 0), none, false⟩, ⟨.bin .gtr (.t 0) (.c (.int (6))), none, false⟩], [], [], some (42, 0)⟩
abbrev r_ref19_Great_10 : Reg := ⟨[⟨.mv (.c (.bool true)), none, false⟩], [(6, 0)], [3, 4, 5], none⟩
abbrev r_ref19_Great_8 : Reg := ⟨[⟨.mv (.v 4), none, false⟩, ⟨.bin .add (.t 0) (.c (.int (1))), none, false⟩, ⟨.mv (.t 0), none, false⟩], [(4, 0)], [], none⟩
abbrev b_ref19_Great_2 : IC := (.seq (.seq (.reg r_ref19_Great_7)
 (.cond 33 .skip (.exit 2)))
 (.seq (.block 3 (.seq (.reg r_ref19_Great_9)
 (.cond 42 (.seq (.reg r_ref19_Great_10)
 .ret) .skip)))
 (.reg r_ref19_Great_8)))
abbrev r_ref19_Great_11 : Reg := ⟨[⟨.fad (.v 3) 2 none, none, false⟩, ⟨.ldi (.t 0) none, none, false⟩, ⟨.len (.t 0), none, false⟩, ⟨.bin .gtr (.t 0) (.c (.int (12))), none, false⟩, ⟨.mv (.t 0), none, false⟩, ⟨.fad (.v 3) 3 none, some (.t 0, false), false⟩, ⟨.ldi (.t 0) none, some (.t 1, false), false⟩, ⟨.len (.t 0), some (.t 2, false), false⟩, ⟨.bin .gtr (.t 0) (.c (.int (20))), some (.t 3, false), false⟩, ⟨.pick (.t 4) (.c (.bool true)) (.t 0), none, false⟩, ⟨.mv (.t 0), none, false⟩, ⟨.fad (.v 5) 0 none, some (.t 0, false), false⟩, ⟨.ldi (.t 0) none, some (.t 1, false), false⟩, ⟨.len (.t 0), some (.t 2, false), false⟩, ⟨.bin .gtr (.t 0) (.c (.int (70))), some (.t 3, false), false⟩, ⟨.pick (.t 4) (.c (.bool true)) (.t 0), none, false⟩, ⟨.mv (.t 0), none, false⟩], [(6, 0)], [3, 4, 5], none⟩
abbrev ir_ref19_Great : Fn := { np := 2, nv := 7, res := [(6, none)], body :=
(.seq (.reg r_ref19_Great_0)
 (.seq (.seq (.reg r_ref19_Great_1)
 (.block 0 (.loop b_ref19_Great_0)))
 (.seq (.seq (.reg r_ref19_Great_6)
 (.block 2 (.loop b_ref19_Great_2)))
 (.seq (.reg r_ref19_Great_11)
 .ret)))) }
/- f22 batch_Chain : 0:m 1:l 2:words 3:m 4:e 5:l 6:e 7:_ 8:_ 9:_ 10:w 11:e 12:_ 13:_ 14:_ 15:w 16:s 17:e 18:p 19:found 20:n 21:move 22:e 23:end 24:time 25:cost 26:moves 27:_ 28:_ 29:_ -/
abbrev r_batch_Chain_0 : Reg := ⟨[⟨.bxi (.v 0), none, false⟩, ⟨.bxi (.v 1), none, false⟩, ⟨.mv (.c (.snil)), none, false⟩, ⟨.mv (.c (.int (0))), none, false⟩, ⟨.mv (.c (.int (0))), none, false⟩], [(3, 4), (5, 3)], [0, 1, 27, 28, 29], none⟩
abbrev r_batch_Chain_1 : Reg := ⟨[⟨.ldi (.v 3) (some 4), none, false⟩, ⟨.cal F_mealy_Valid [(.t 0)], none, false⟩, ⟨.mv (.t 0), none, false⟩], [(4, 0)], [], none⟩
abbrev r_batch_Chain_2 : Reg := ⟨[⟨.mv (.v 4), none, false⟩, ⟨.bin .neq (.t 0) (.c (.int (0))), none, false⟩], [], [], some (31, 0)⟩
abbrev r_batch_Chain_3 : Reg := ⟨[⟨.mv (.v 4), none, false⟩, ⟨.mv (.c (.snil)), none, false⟩, ⟨.mv (.c (.int (0))), none, false⟩, ⟨.mv (.t 2), none, false⟩], [(27, 2), (28, 1), (29, 0)], [2, 3, 4, 5], none⟩
abbrev r_batch_Chain_4 : Reg := ⟨[⟨.ldi (.v 3) (some 4), none, false⟩, ⟨.ldi (.v 5) (some 2), none, false⟩, ⟨.cal F_batch_fits [(.t 1), (.t 0)], none, false⟩, ⟨.mv (.t 0), none, false⟩], [(6, 0)], [4], none⟩
abbrev r_batch_Chain_5 : Reg := ⟨[⟨.mv (.v 6), none, false⟩, ⟨.bin .neq (.t 0) (.c (.int (0))), none, false⟩], [], [], some (37, 0)⟩
abbrev r_batch_Chain_6 : Reg := ⟨[⟨.mv (.v 6), none, false⟩, ⟨.mv (.c (.snil)), none, false⟩, ⟨.mv (.c (.int (0))), none, false⟩, ⟨.mv (.t 2), none, false⟩], [(27, 2), (28, 1), (29, 0)], [2, 3, 5, 6], none⟩
abbrev r_batch_Chain_7 : Reg := ⟨[⟨.mv (.v 2), none, false⟩, ⟨.len (.t 0), none, false⟩, ⟨.mv (.c (.int (0))), none, false⟩], [(9, 2), (8, 1), (7, 0)], [6], none⟩
abbrev r_batch_Chain_8 : Reg := ⟨[⟨.bin .lss (.v 7) (.v 8), none, false⟩], [], [], some (42, 0)⟩
abbrev r_batch_Chain_9 : Reg := ⟨[⟨.iad (.v 9) (.v 7) 1, none, false⟩, ⟨.ld (.t 0) none, none, false⟩, ⟨.mv (.t 0), none, false⟩], [(10, 0)], [], none⟩
abbrev r_batch_Chain_10 : Reg := ⟨[⟨.mv (.v 10), none, false⟩, ⟨.fad (.v 3) 0 none, none, false⟩, ⟨.ldi (.t 0) none, none, false⟩, ⟨.cal F_word_Check [(.t 2), (.t 0)], none, false⟩, ⟨.mv (.t 0), none, false⟩], [(11, 0)], [10], none⟩
abbrev r_batch_Chain_11 : Reg := ⟨[⟨.mv (.v 11), none, false⟩, ⟨.bin .neq (.t 0) (.c (.int (0))), none, false⟩], [], [], some (50, 0)⟩
abbrev r_batch_Chain_12 : Reg := ⟨[⟨.mv (.v 11), none, false⟩, ⟨.mv (.c (.snil)), none, false⟩, ⟨.mv (.c (.int (0))), none, false⟩, ⟨.mv (.t 2), none, false⟩], [(27, 2), (28, 1), (29, 0)], [2, 3, 5, 7, 8, 9, 11], none⟩
abbrev r_batch_Chain_13 : Reg := ⟨[⟨.bin .add (.v 7) (.c (.int (1))), none, false⟩, ⟨.mv (.t 0), none, false⟩], [(7, 0)], [11], none⟩
abbrev b_batch_Chain_0 : IC := (.seq (.reg r_batch_Chain_8)
 (.seq (.cond 42 .skip (.exit 0))
 (.seq (.block 1 (.seq (.reg r_batch_Chain_9)
 (.seq (.reg r_batch_Chain_10)
 (.seq (.reg r_batch_Chain_11)
 (.cond 50 (.seq (.reg r_batch_Chain_12)
 .ret) .skip)))))
 (.reg r_batch_Chain_13))))
abbrev r_batch_Chain_14 : Reg := ⟨[⟨.nl (some 3), none, false⟩], [(26, 0)], [7, 8, 9], none⟩
abbrev r_batch_Chain_15 : Reg := ⟨[⟨.mv (.c (.int (0))), none, false⟩, ⟨.mv (.c (.int (-1))), none, false⟩], [(24, 1), (16, 0)], [], none⟩
abbrev r_batch_Chain_16 : Reg := ⟨[⟨.mv (.v 2), none, false⟩, ⟨.cal F_wordset_Maximal [(.t 0)], none, false⟩, ⟨.len (.t 0), none, false⟩, ⟨.mv (.c (.int (0))), none, false⟩], [(14, 2), (13, 1), (12, 0)], [2], none⟩
abbrev r_batch_Chain_17 : Reg := ⟨[⟨.bin .lss (.v 12) (.v 13), none, false⟩], [], [], some (57, 0)⟩
abbrev r_batch_Chain_18 : Reg := ⟨[⟨.iad (.v 14) (.v 12) 1, none, false⟩, ⟨.ld (.t 0) none, none, false⟩, ⟨.mv (.t 0), none, false⟩], [(15, 0)], [], none⟩
abbrev r_batch_Chain_19 : Reg := ⟨[⟨.mv (.v 15), none, false⟩, ⟨.bld [.bool false, .snil, .snil] [(0, 1, (.c (.bool true))), (2, 1, (.t 0))], none, false⟩, ⟨.alc [.bool false, .snil, .snil] (some 3), none, false⟩, ⟨.st (.t 0) (.t 1) 3, none, false⟩], [(21, 1)], [], none⟩
abbrev r_batch_Chain_20 : Reg := ⟨[⟨.fad (.v 5) 1 none, none, false⟩, ⟨.ldi (.t 0) none, none, false⟩, ⟨.mv (.t 0), none, false⟩], [(25, 0)], [], none⟩
abbrev r_batch_Chain_21 : Reg := ⟨[⟨.mv (.v 16), none, false⟩, ⟨.bin .geq (.t 0) (.c (.int (0))), none, false⟩], [], [], some (65, 0)⟩
abbrev r_batch_Chain_22 : Reg := ⟨[⟨.ldi (.v 3) (some 4), none, false⟩, ⟨.mv (.v 16), none, false⟩, ⟨.fad (.v 3) 1 none, none, false⟩, ⟨.ldi (.t 0) none, none, false⟩, ⟨.cal F_cover_Path [(.t 3), (.t 2), (.t 0)], none, false⟩, ⟨.mv (.t 0), none, false⟩, ⟨.ext (.t 0) 0, none, false⟩, ⟨.ext (.t 1) 1, none, false⟩, ⟨.ext (.t 2) 2, none, false⟩, ⟨.mv (.t 2), none, false⟩, ⟨.mv (.t 2), none, false⟩, ⟨.mv (.t 2), none, false⟩], [(18, 2), (19, 1), (17, 0)], [16], none⟩
abbrev r_batch_Chain_23 : Reg := ⟨[⟨.mv (.v 17), none, false⟩, ⟨.bin .neq (.t 0) (.c (.int (0))), none, false⟩], [], [], some (76, 0)⟩
abbrev r_batch_Chain_24 : Reg := ⟨[⟨.mv (.v 17), none, false⟩, ⟨.mv (.c (.snil)), none, false⟩, ⟨.mv (.c (.int (0))), none, false⟩, ⟨.mv (.t 2), none, false⟩], [(27, 2), (28, 1), (29, 0)], [3, 5, 12, 13, 14, 15, 17, 18, 19, 21, 24, 25, 26], none⟩
abbrev r_batch_Chain_25 : Reg := ⟨[⟨.ldi (.v 5) (some 2), none, false⟩, ⟨.mv (.v 18), none, false⟩, ⟨.cal F_batch_steps [(.t 1), (.t 0)], none, false⟩, ⟨.mv (.t 0), none, false⟩], [(20, 0)], [17], none⟩
abbrev r_batch_Chain_26 : Reg := ⟨[⟨.mv (.v 19), none, false⟩, ⟨.mv (.t 0), none, false⟩, ⟨.mv (.v 20), some (.t 0, true), false⟩, ⟨.fad (.v 5) 1 none, some (.t 1, true), false⟩, ⟨.ldi (.t 0) none, some (.t 2, true), false⟩, ⟨.bin .lss (.t 2) (.t 0), some (.t 3, true), false⟩, ⟨.pick (.t 4) (.t 0) (.c (.bool false)), none, false⟩], [], [19], some (87, 0)⟩
abbrev r_batch_Chain_27 : Reg := ⟨[⟨.mv (.v 18), none, false⟩, ⟨.mv (.v 20), none, false⟩, ⟨.fad (.v 21) 0 none, none, false⟩, ⟨.st (.t 0) (.c (.bool false)) 1, none, false⟩, ⟨.fad (.v 21) 1 none, none, false⟩, ⟨.st (.t 0) (.t 4) 1, none, false⟩, ⟨.mv (.t 4), none, false⟩], [(25, 0)], [18, 20], none⟩
abbrev r_batch_Chain_28 : Reg := ⟨[⟨.ldi (.v 3) (some 4), none, false⟩, ⟨.fad (.v 3) 1 none, none, false⟩, ⟨.ldi (.t 0) none, none, false⟩, ⟨.mv (.v 15), none, false⟩, ⟨.cal F_mealy_From [(.t 3), (.t 1), (.t 0)], none, false⟩, ⟨.mv (.t 0), none, false⟩, ⟨.ext (.t 0) 0, none, false⟩, ⟨.ext (.t 1) 1, none, false⟩, ⟨.ext (.t 2) 2, none, false⟩, ⟨.mv (.t 2), none, false⟩, ⟨.mv (.t 2), none, false⟩, ⟨.mv (.t 2), none, false⟩], [(23, 1), (22, 0)], [16, 18, 20], none⟩
abbrev r_batch_Chain_29 : Reg := ⟨[⟨.mv (.v 22), none, false⟩, ⟨.bin .neq (.t 0) (.c (.int (0))), none, false⟩], [], [], some (102, 0)⟩
abbrev r_batch_Chain_30 : Reg := ⟨[⟨.mv (.v 22), none, false⟩, ⟨.mv (.c (.snil)), none, false⟩, ⟨.mv (.c (.int (0))), none, false⟩, ⟨.mv (.t 2), none, false⟩], [(27, 2), (28, 1), (29, 0)], [3, 5, 12, 13, 14, 15, 21, 22, 23, 24, 25, 26], none⟩
abbrev r_batch_Chain_31 : Reg := ⟨[⟨.mv (.v 23), none, false⟩, ⟨.mv (.t 0), none, false⟩], [(16, 0)], [22, 23], none⟩
abbrev r_batch_Chain_32 : Reg := ⟨[⟨.mv (.v 24), none, false⟩, ⟨.mv (.v 25), none, false⟩, ⟨.ldi (.v 5) (some 2), none, false⟩, ⟨.mv (.v 15), none, false⟩, ⟨.cal F_batch_steps [(.t 1), (.t 0)], none, false⟩, ⟨.bin .add (.t 3) (.t 0), none, false⟩, ⟨.bin .add (.t 5) (.t 0), none, false⟩, ⟨.mv (.t 0), none, false⟩], [(24, 0)], [15, 25], none⟩
abbrev r_batch_Chain_33 : Reg := ⟨[⟨.mv (.v 26), none, false⟩, ⟨.ld (.v 21) (some 3), none, false⟩, ⟨.lita [(.t 0)] 3, none, false⟩, ⟨.appw (.t 2) (.t 0) (some 3), none, false⟩, ⟨.mv (.t 0), none, false⟩], [(26, 0)], [21], none⟩
abbrev r_batch_Chain_34 : Reg := ⟨[⟨.bin .add (.v 12) (.c (.int (1))), none, false⟩, ⟨.mv (.t 0), none, false⟩], [(12, 0)], [], none⟩
abbrev b_batch_Chain_2 : IC := (.seq (.reg r_batch_Chain_17)
 (.seq (.cond 57 .skip (.exit 2))
 (.seq (.block 3 (.seq (.reg r_batch_Chain_18)
 (.seq (.reg r_batch_Chain_19)
 (.seq (.reg r_batch_Chain_20)
 (.seq (.seq (.reg r_batch_Chain_21)
 (.cond 65 (.seq (.reg r_batch_Chain_22)
 (.seq (.seq (.reg r_batch_Chain_23)
 (.cond 76 (.seq (.reg r_batch_Chain_24)
 .ret) .skip))
 (.seq (.reg r_batch_Chain_25)
 (.seq (.reg r_batch_Chain_26)
 (.cond 87 (.reg r_batch_Chain_27) .skip))))) .skip))
 (.seq (.reg r_batch_Chain_28)
 (.seq (.seq (.reg r_batch_Chain_29)
 (.cond 102 (.seq (.reg r_batch_Chain_30)
 .ret) .skip))
 (.seq (.reg r_batch_Chain_31)
 (.seq (.reg r_batch_Chain_32)
 (.reg r_batch_Chain_33))))))))))
 (.reg r_batch_Chain_34))))
abbrev r_batch_Chain_35 : Reg := ⟨[⟨.mv (.v 26), none, false⟩, ⟨.mv (.v 24), none, false⟩, ⟨.mv (.t 1), none, false⟩, ⟨.mv (.t 1), none, false⟩, ⟨.mv (.c (.int (0))), none, false⟩], [(27, 2), (28, 1), (29, 0)], [3, 5, 12, 13, 14, 16, 24, 26], none⟩
abbrev ir_batch_Chain : Fn := { np := 3, nv := 30, res := [(27, none), (28, none), (29, none)], body :=
(.seq (.reg r_batch_Chain_0)
 (.seq (.seq (.reg r_batch_Chain_1)
 (.seq (.reg r_batch_Chain_2)
 (.cond 31 (.seq (.reg r_batch_Chain_3)
 .ret) .skip)))
 (.seq (.seq (.reg r_batch_Chain_4)
 (.seq (.reg r_batch_Chain_5)
 (.cond 37 (.seq (.reg r_batch_Chain_6)
 .ret) .skip)))
 (.seq (.seq (.reg r_batch_Chain_7)
 (.block 0 (.loop b_batch_Chain_0)))
 (.seq (.reg r_batch_Chain_14)
 (.seq (.reg r_batch_Chain_15)
 (.seq (.seq (.reg r_batch_Chain_16)
 (.block 2 (.loop b_batch_Chain_2)))
 (.seq (.reg r_batch_Chain_35)
 .ret)))))))) }
/- f23 ref20_Chain : 0:m 1:l 2:words 3:m 4:e 5:l 6:i 7:top 8:s 9:ok 10:path 11:x 12:time 13:out 14:_ 15:_ 16:_ -/
abbrev r_ref20_Chain_0 : Reg := ⟨[⟨.bxi (.v 0), none, false⟩, ⟨.bxi (.v 1), none, false⟩, ⟨.mv (.c (.snil)), none, false⟩, ⟨.mv (.c (.int (0))), none, false⟩, ⟨.mv (.c (.int (0))), none, false⟩], [(3, 4), (5, 3)], [0, 1, 14, 15, 16], none⟩
abbrev r_ref20_Chain_1 : Reg := ⟨[⟨.ldi (.v 3) (some 4), none, false⟩, ⟨.cal F_ref06_Valid [(.t 0)], none, false⟩, ⟨.mv (.t 0), none, false⟩], [(4, 0)], [], none⟩
abbrev r_ref20_Chain_2 : Reg := ⟨[⟨.mv (.v 4), none, false⟩, ⟨.bin .eql (.t 0) (.c (.int (0))), none, false⟩], [], [], some (22, 0)⟩
abbrev r_ref20_Chain_3 : Reg := ⟨[⟨.ldi (.v 5) (some 2), none, false⟩, ⟨.fad (.v 3) 0 none, none, false⟩, ⟨.ldi (.t 0) none, none, false⟩, ⟨.cal F_ref19_Fits [(.t 2), (.t 0)], none, false⟩, ⟨.mv (.t 0), none, false⟩], [(4, 0)], [], none⟩
abbrev r_ref20_Chain_4 : Reg := ⟨[⟨.mv (.v 4), none, false⟩, ⟨.bin .eql (.t 0) (.c (.int (0))), none, false⟩], [], [], some (28, 0)⟩
abbrev r_ref20_Chain_5 : Reg := ⟨[⟨.mv (.v 2), none, false⟩, ⟨.fad (.v 3) 0 none, none, false⟩, ⟨.ldi (.t 0) none, none, false⟩, ⟨.cal F_ref20_check [(.t 2), (.t 0)], none, false⟩, ⟨.mv (.t 0), none, false⟩], [(4, 0)], [], none⟩
abbrev r_ref20_Chain_6 : Reg := ⟨[⟨.mv (.v 4), none, false⟩, ⟨.bin .neq (.t 0) (.c (.int (0))), none, false⟩], [], [], some (34, 0)⟩
abbrev r_ref20_Chain_7 : Reg := ⟨[⟨.mv (.v 4), none, false⟩, ⟨.mv (.c (.snil)), none, false⟩, ⟨.mv (.c (.int (0))), none, false⟩, ⟨.mv (.t 2), none, false⟩], [(14, 2), (15, 1), (16, 0)], [2, 3, 4, 5], none⟩
abbrev r_ref20_Chain_8 : Reg := ⟨[⟨.mv (.v 2), none, false⟩, ⟨.cal F_ref02_Maximal [(.t 0)], none, false⟩, ⟨.mv (.t 0), none, false⟩], [(7, 0)], [2, 4], none⟩
abbrev r_ref20_Chain_9 : Reg := ⟨[⟨.nl (some 3), none, false⟩], [(13, 0)], [], none⟩
abbrev r_ref20_Chain_10 : Reg := ⟨[⟨.fad (.v 3) 1 none, none, false⟩, ⟨.ldi (.t 0) none, none, false⟩, ⟨.mv (.c (.int (0))), none, false⟩, ⟨.mv (.t 1), none, false⟩], [(12, 1), (8, 0)], [], none⟩
abbrev r_ref20_Chain_11 : Reg := ⟨[⟨.mv (.c (.int (0))), none, false⟩], [(6, 0)], [], none⟩
abbrev r_ref20_Chain_12 : Reg := ⟨[⟨.mv (.v 6), none, false⟩, ⟨.mv (.v 7), none, false⟩, ⟨.len (.t 0), none, false⟩, ⟨.bin .lss (.t 2) (.t 0), none, false⟩], [], [], some (43, 0)⟩
abbrev r_ref20_Chain_14 : Reg := ⟨[⟨.ldi (.v 3) (some 4), none, false⟩, ⟨.mv (.v 8), none, false⟩, ⟨.fad (.v 3) 1 none, none, false⟩, ⟨.ldi (.t 0) none, none, false⟩, ⟨.cal F_ref10_Path [(.t 3), (.t 2), (.t 0)], none, false⟩, ⟨.mv (.t 0), none, false⟩, ⟨.ext (.t 0) 0, none, false⟩, ⟨.ext (.t 1) 1, none, false⟩, ⟨.ext (.t 2) 2, none, false⟩, ⟨.mv (.t 2), none, false⟩, ⟨.mv (.t 2), none, false⟩, ⟨.mv (.t 2), none, false⟩], [(10, 2), (9, 1)], [8], none⟩
abbrev r_ref20_Chain_15 : Reg := ⟨[⟨.mv (.v 7), none, false⟩, ⟨.mv (.v 6), none, false⟩, ⟨.iad (.t 1) (.t 0) 1, none, false⟩, ⟨.ld (.t 0) none, none, false⟩, ⟨.bld [.bool false, .snil, .snil] [(2, 1, (.t 0))], none, false⟩, ⟨.alc [.bool false, .snil, .snil] (some 3), none, false⟩, ⟨.st (.t 0) (.t 1) 3, none, false⟩], [(11, 1)], [], none⟩
abbrev r_ref20_Chain_16 : Reg := ⟨[⟨.mv (.v 6), none, false⟩, ⟨.bin .gtr (.t 0) (.c (.int (0))), none, false⟩, ⟨.mv (.t 0), none, false⟩, ⟨.mv (.v 9), some (.t 0, true), false⟩, ⟨.pick (.t 1) (.t 0) (.c (.bool false)), none, false⟩, ⟨.mv (.t 0), none, false⟩, ⟨.ldi (.v 5) (some 2), some (.t 0, true), false⟩, ⟨.mv (.v 10), some (.t 1, true), false⟩, ⟨.cal F_ref20_steps [(.t 1), (.t 0)], some (.t 2, true), false⟩, ⟨.fad (.v 5) 1 none, some (.t 3, true), false⟩, ⟨.ldi (.t 0) none, some (.t 4, true), false⟩, ⟨.bin .lss (.t 2) (.t 0), some (.t 5, true), false⟩, ⟨.pick (.t 6) (.t 0) (.c (.bool false)), none, false⟩], [], [9], some (72, 0)⟩
abbrev r_ref20_Chain_17 : Reg := ⟨[⟨.mv (.v 10), none, false⟩, ⟨.fad (.v 11) 1 none, none, false⟩, ⟨.st (.t 0) (.t 1) 1, none, false⟩], [], [], none⟩
abbrev r_ref20_Chain_18 : Reg := ⟨[⟨.mv (.v 12), none, false⟩, ⟨.ldi (.v 5) (some 2), none, false⟩, ⟨.mv (.v 10), none, false⟩, ⟨.cal F_ref20_steps [(.t 1), (.t 0)], none, false⟩, ⟨.bin .add (.t 3) (.t 0), none, false⟩, ⟨.mv (.t 0), none, false⟩], [(12, 0)], [10], none⟩
abbrev r_ref20_Chain_19 : Reg := ⟨[⟨.fad (.v 11) 0 none, none, false⟩, ⟨.st (.t 0) (.c (.bool true)) 1, none, false⟩], [], [10], none⟩
abbrev r_ref20_Chain_20 : Reg := ⟨[⟨.mv (.v 12), none, false⟩, ⟨.fad (.v 5) 1 none, none, false⟩, ⟨.ldi (.t 0) none, none, false⟩, ⟨.bin .add (.t 2) (.t 0), none, false⟩, ⟨.mv (.t 0), none, false⟩], [(12, 0)], [], none⟩
abbrev r_ref20_Chain_21 : Reg := ⟨[⟨.mv (.v 12), none, false⟩, ⟨.ldi (.v 5) (some 2), none, false⟩, ⟨.mv (.v 7), none, false⟩, ⟨.mv (.v 6), none, false⟩, ⟨.iad (.t 1) (.t 0) 1, none, false⟩, ⟨.ld (.t 0) none, none, false⟩, ⟨.cal F_ref20_steps [(.t 4), (.t 0)], none, false⟩, ⟨.bin .add (.t 6) (.t 0), none, false⟩, ⟨.mv (.t 0), none, false⟩], [(12, 0)], [], none⟩
abbrev r_ref20_Chain_22 : Reg := ⟨[⟨.ldi (.v 3) (some 4), none, false⟩, ⟨.fad (.v 3) 1 none, none, false⟩, ⟨.ldi (.t 0) none, none, false⟩, ⟨.mv (.v 7), none, false⟩, ⟨.mv (.v 6), none, false⟩, ⟨.iad (.t 1) (.t 0) 1, none, false⟩, ⟨.ld (.t 0) none, none, false⟩, ⟨.cal F_ref06_Outs [(.t 6), (.t 4), (.t 0)], none, false⟩, ⟨.mv (.t 0), none, false⟩, ⟨.ext (.t 0) 0, none, false⟩, ⟨.ext (.t 1) 1, none, false⟩, ⟨.mv (.t 0), none, false⟩], [(8, 0)], [], none⟩
abbrev r_ref20_Chain_23 : Reg := ⟨[⟨.mv (.v 13), none, false⟩, ⟨.ld (.v 11) (some 3), none, false⟩, ⟨.lita [(.t 0)] 3, none, false⟩, ⟨.appw (.t 2) (.t 0) (some 3), none, false⟩, ⟨.mv (.t 0), none, false⟩], [(13, 0)], [11], none⟩
abbrev r_ref20_Chain_13 : Reg := ⟨[⟨.mv (.v 6), none, false⟩, ⟨.bin .add (.t 0) (.c (.int (1))), none, false⟩, ⟨.mv (.t 0), none, false⟩], [(6, 0)], [], none⟩
abbrev b_ref20_Chain_0 : IC := (.seq (.seq (.reg r_ref20_Chain_12)
 (.cond 43 .skip (.exit 0)))
 (.seq (.block 1 (.seq (.reg r_ref20_Chain_14)
 (.seq (.reg r_ref20_Chain_15)
 (.seq (.seq (.reg r_ref20_Chain_16)
 (.cond 72 (.seq (.reg r_ref20_Chain_17)
 (.reg r_ref20_Chain_18)) (.seq (.reg r_ref20_Chain_19)
 (.reg r_ref20_Chain_20))))
 (.seq (.reg r_ref20_Chain_21)
 (.seq (.reg r_ref20_Chain_22)
 (.reg r_ref20_Chain_23)))))))
 (.reg r_ref20_Chain_13)))
abbrev r_ref20_Chain_24 : Reg := ⟨[⟨.mv (.v 13), none, false⟩, ⟨.mv (.v 12), none, false⟩, ⟨.mv (.t 1), none, false⟩, ⟨.mv (.t 1), none, false⟩, ⟨.mv (.c (.int (0))), none, false⟩], [(14, 2), (15, 1), (16, 0)], [3, 5, 6, 7, 8, 12, 13], none⟩
abbrev ir_ref20_Chain : Fn := { np := 3, nv := 17, res := [(14, none), (15, none), (16, none)], body :=
(.seq (.reg r_ref20_Chain_0)
 (.seq (.reg r_ref20_Chain_1)
 (.seq (.seq (.reg r_ref20_Chain_2)
 (.cond 22 (.reg r_ref20_Chain_3) .skip))
 (.seq (.seq (.reg r_ref20_Chain_4)
 (.cond 28 (.reg r_ref20_Chain_5) .skip))
 (.seq (.seq (.reg r_ref20_Chain_6)
 (.cond 34 (.seq (.reg r_ref20_Chain_7)
 .ret) .skip))
 (.seq (.reg r_ref20_Chain_8)
 (.seq (.reg r_ref20_Chain_9)
 (.seq (.reg r_ref20_Chain_10)
 (.seq (.seq (.reg r_ref20_Chain_11)
 (.block 0 (.loop b_ref20_Chain_0)))
 (.seq (.reg r_ref20_Chain_24)
 .ret)))))))))) }
/- f24 ref20_SameMoves : 0:a 1:b 2:i 3:_ -/
abbrev r_ref20_SameMoves_0 : Reg := ⟨[⟨.mv (.c (.bool false)), none, false⟩], [], [3], none⟩
abbrev r_ref20_SameMoves_1 : Reg := ⟨[⟨.mv (.v 0), none, false⟩, ⟨.len (.t 0), none, false⟩, ⟨.mv (.v 1), none, false⟩, ⟨.len (.t 0), none, false⟩, ⟨.bin .neq (.t 2) (.t 0), none, false⟩], [], [], some (10, 0)⟩
abbrev r_ref20_SameMoves_2 : Reg := ⟨[⟨.mv (.c (.bool false)), none, false⟩], [(3, 0)], [0, 1], none⟩
abbrev r_ref20_SameMoves_3 : Reg := ⟨[⟨.mv (.c (.int (0))), none, false⟩], [(2, 0)], [], none⟩
abbrev r_ref20_SameMoves_4 : Reg := ⟨[⟨.mv (.v 2), none, false⟩, ⟨.mv (.v 0), none, false⟩, ⟨.len (.t 0), none, false⟩, ⟨.bin .lss (.t 2) (.t 0), none, false⟩], [], [], some (14, 0)⟩
abbrev r_ref20_SameMoves_6 : Reg := ⟨[⟨.mv (.v 0), none, false⟩, ⟨.mv (.v 2), none, false⟩, ⟨.iad (.t 1) (.t 0) 3, none, false⟩, ⟨.fad (.t 0) 0 none, none, false⟩, ⟨.ld (.t 0) none, none, false⟩, ⟨.mv (.v 1), none, false⟩, ⟨.mv (.v 2), none, false⟩, ⟨.iad (.t 1) (.t 0) 3, none, false⟩, ⟨.fad (.t 0) 0 none, none, false⟩, ⟨.ld (.t 0) none, none, false⟩, ⟨.beq true (.t 5) (.t 0), none, false⟩, ⟨.mv (.t 0), none, false⟩, ⟨.mv (.v 0), some (.t 0, false), false⟩, ⟨.mv (.v 2), some (.t 1, false), false⟩, ⟨.iad (.t 1) (.t 0) 3, some (.t 2, false), false⟩, ⟨.fad (.t 0) 1 none, some (.t 3, false), false⟩, ⟨.ld (.t 0) none, some (.t 4, false), false⟩, ⟨.mv (.v 1), some (.t 5, false), false⟩, ⟨.mv (.v 2), some (.t 6, false), false⟩, ⟨.iad (.t 1) (.t 0) 3, some (.t 7, false), false⟩, ⟨.fad (.t 0) 1 none, some (.t 8, false), false⟩, ⟨.ld (.t 0) none, some (.t 9, false), false⟩, ⟨.cal F_ref01_Same [(.t 5), (.t 0)], some (.t 10, false), false⟩, ⟨.not (.t 0), some (.t 11, false), false⟩, ⟨.pick (.t 12) (.c (.bool true)) (.t 0), none, false⟩, ⟨.mv (.t 0), none, false⟩, ⟨.mv (.v 0), some (.t 0, false), false⟩, ⟨.mv (.v 2), some (.t 1, false), false⟩, ⟨.iad (.t 1) (.t 0) 3, some (.t 2, false), false⟩, ⟨.fad (.t 0) 2 none, some (.t 3, false), false⟩, ⟨.ld (.t 0) none, some (.t 4, false), false⟩, ⟨.mv (.v 1), some (.t 5, false), false⟩, ⟨.mv (.v 2), some (.t 6, false), false⟩, ⟨.iad (.t 1) (.t 0) 3, some (.t 7, false), false⟩, ⟨.fad (.t 0) 2 none, some (.t 8, false), false⟩, ⟨.ld (.t 0) none, some (.t 9, false), false⟩, ⟨.cal F_ref01_Same [(.t 5), (.t 0)], some (.t 10, false), false⟩, ⟨.not (.t 0), some (.t 11, false), false⟩, ⟨.pick (.t 12) (.c (.bool true)) (.t 0), none, false⟩], [], [], some (55, 0)⟩
abbrev r_ref20_SameMoves_7 : Reg := ⟨[⟨.mv (.c (.bool false)), none, false⟩], [(3, 0)], [0, 1, 2], none⟩
abbrev r_ref20_SameMoves_5 : Reg := ⟨[⟨.mv (.v 2), none, false⟩, ⟨.bin .add (.t 0) (.c (.int (1))), none, false⟩, ⟨.mv (.t 0), none, false⟩], [(2, 0)], [], none⟩
abbrev b_ref20_SameMoves_0 : IC := (.seq (.seq (.reg r_ref20_SameMoves_4)
 (.cond 14 .skip (.exit 0)))
 (.seq (.block 1 (.seq (.reg r_ref20_SameMoves_6)
 (.cond 55 (.seq (.reg r_ref20_SameMoves_7)
 .ret) .skip)))
 (.reg r_ref20_SameMoves_5)))
abbrev r_ref20_SameMoves_8 : Reg := ⟨[⟨.mv (.c (.bool true)), none, false⟩], [(3, 0)], [0, 1, 2], none⟩
abbrev ir_ref20_SameMoves : Fn := { np := 2, nv := 4, res := [(3, none)], body :=
(.seq (.reg r_ref20_SameMoves_0)
 (.seq (.seq (.reg r_ref20_SameMoves_1)
 (.cond 10 (.seq (.reg r_ref20_SameMoves_2)
 .ret) .skip))
 (.seq (.seq (.reg r_ref20_SameMoves_3)
 (.block 0 (.loop b_ref20_SameMoves_0)))
 (.seq (.reg r_ref20_SameMoves_8)
 .ret)))) }
/- f25 ref16_Of : 0:m 1:words 2:m 3:e 4:_ 5:l 6:o 7:_ -/
abbrev r_ref16_Of_0 : Reg := ⟨[⟨.bxi (.v 0), none, false⟩, ⟨.alc [.int 0, .snil] (some 2), none, false⟩, ⟨.mv (.c (.int (0))), none, false⟩], [(2, 2), (4, 1)], [0, 7], none⟩
abbrev r_ref16_Of_1 : Reg := ⟨[⟨.ldi (.v 2) (some 4), none, false⟩, ⟨.mv (.v 1), none, false⟩, ⟨.cal F_ref06_Traces [(.t 1), (.t 0)], none, false⟩, ⟨.mv (.t 0), none, false⟩, ⟨.ext (.t 0) 0, none, false⟩, ⟨.ext (.t 1) 1, none, false⟩, ⟨.mv (.t 1), none, false⟩, ⟨.mv (.t 1), none, false⟩], [(5, 1), (3, 0)], [1], none⟩
abbrev r_ref16_Of_2 : Reg := ⟨[⟨.mv (.v 3), none, false⟩, ⟨.bin .neq (.t 0) (.c (.int (0))), none, false⟩], [], [], some (16, 0)⟩
abbrev r_ref16_Of_3 : Reg := ⟨[⟨.bld [.int 0, .snil] [], none, false⟩, ⟨.mv (.v 3), none, false⟩, ⟨.st (.v 4) (.t 1) 2, none, false⟩, ⟨.mv (.t 1), none, false⟩], [(7, 0)], [2, 3, 5], none⟩
abbrev r_ref16_Of_4 : Reg := ⟨[⟨.fad (.v 2) 0 none, none, false⟩, ⟨.ldi (.t 0) none, none, false⟩, ⟨.bld [.int 0, .snil] [(0, 1, (.t 0))], none, false⟩, ⟨.mv (.v 5), none, false⟩, ⟨.cal F_ref16_All [(.t 1), (.t 0)], none, false⟩, ⟨.mv (.t 0), none, false⟩, ⟨.ext (.t 0) 0, none, false⟩, ⟨.ext (.t 1) 1, none, false⟩, ⟨.alc0 2, none, false⟩, ⟨.ini (.t 0) (.t 2) 2, none, false⟩, ⟨.mv (.t 2), none, false⟩], [(6, 1), (3, 0)], [2, 5], none⟩
abbrev r_ref16_Of_5 : Reg := ⟨[⟨.mv (.v 3), none, false⟩, ⟨.bin .neq (.t 0) (.c (.int (0))), none, false⟩], [], [], some (28, 0)⟩
abbrev r_ref16_Of_6 : Reg := ⟨[⟨.bld [.int 0, .snil] [], none, false⟩, ⟨.mv (.v 3), none, false⟩, ⟨.st (.v 4) (.t 1) 2, none, false⟩, ⟨.mv (.t 1), none, false⟩], [(7, 0)], [3, 6], none⟩
abbrev r_ref16_Of_7 : Reg := ⟨[⟨.ldi (.v 6) (some 2), none, false⟩, ⟨.st (.v 4) (.t 0) 2, none, false⟩, ⟨.mv (.c (.int (0))), none, false⟩], [(7, 0)], [3, 6], none⟩
abbrev ir_ref16_Of : Fn := { np := 2, nv := 8, res := [(4, some (some 2)), (7, none)], body :=
(.seq (.reg r_ref16_Of_0)
 (.seq (.reg r_ref16_Of_1)
 (.seq (.seq (.reg r_ref16_Of_2)
 (.cond 16 (.seq (.reg r_ref16_Of_3)
 .ret) .skip))
 (.seq (.reg r_ref16_Of_4)
 (.seq (.seq (.reg r_ref16_Of_5)
 (.cond 28 (.seq (.reg r_ref16_Of_6)
 .ret) .skip))
 (.seq (.reg r_ref16_Of_7)
 .ret)))))) }
/- f26 ref16_Answer : 0:o 1:w 2:i 3:o 4:_ 5:_ -/
abbrev r_ref16_Answer_0 : Reg := ⟨[⟨.bxi (.v 0), none, false⟩, ⟨.mv (.c (.snil)), none, false⟩, ⟨.mv (.c (.bool false)), none, false⟩], [(3, 2)], [0, 4, 5], none⟩
abbrev r_ref16_Answer_1 : Reg := ⟨[⟨.mv (.v 1), none, false⟩, ⟨.len (.t 0), none, false⟩, ⟨.bin .eql (.t 0) (.c (.int (0))), none, false⟩], [], [], some (9, 0)⟩
abbrev r_ref16_Answer_2 : Reg := ⟨[⟨.mv (.c (.snil)), none, false⟩, ⟨.mv (.c (.bool true)), none, false⟩], [(4, 1), (5, 0)], [1, 3], none⟩
abbrev r_ref16_Answer_3 : Reg := ⟨[⟨.mv (.c (.int (0))), none, false⟩], [(2, 0)], [], none⟩
abbrev r_ref16_Answer_4 : Reg := ⟨[⟨.mv (.v 2), none, false⟩, ⟨.fad (.v 3) 1 none, none, false⟩, ⟨.ldi (.t 0) none, none, false⟩, ⟨.len (.t 0), none, false⟩, ⟨.bin .lss (.t 3) (.t 0), none, false⟩], [], [], some (14, 0)⟩
abbrev r_ref16_Answer_6 : Reg := ⟨[⟨.fad (.v 3) 1 none, none, false⟩, ⟨.ldi (.t 0) none, none, false⟩, ⟨.mv (.v 2), none, false⟩, ⟨.iad (.t 1) (.t 0) 2, none, false⟩, ⟨.fad (.t 0) 0 none, none, false⟩, ⟨.ldi (.t 0) none, none, false⟩, ⟨.mv (.v 1), none, false⟩, ⟨.cal F_ref01_HasPrefix [(.t 1), (.t 0)], none, false⟩], [], [], some (24, 0)⟩
abbrev r_ref16_Answer_7 : Reg := ⟨[⟨.fad (.v 3) 1 none, none, false⟩, ⟨.ldi (.t 0) none, none, false⟩, ⟨.mv (.v 2), none, false⟩, ⟨.iad (.t 1) (.t 0) 2, none, false⟩, ⟨.fad (.t 0) 1 none, none, false⟩, ⟨.ldi (.t 0) none, none, false⟩, ⟨.mv (.v 1), none, false⟩, ⟨.len (.t 0), none, false⟩, ⟨.slc (.t 2) none (some (.t 0)) 1, none, false⟩, ⟨.liti [(.t 0)] 1, none, false⟩, ⟨.cal F_ref01_Join [(.t 0)], none, false⟩, ⟨.mv (.t 0), none, false⟩, ⟨.mv (.c (.bool true)), none, false⟩], [(4, 1), (5, 0)], [1, 2, 3], none⟩
abbrev r_ref16_Answer_5 : Reg := ⟨[⟨.mv (.v 2), none, false⟩, ⟨.bin .add (.t 0) (.c (.int (1))), none, false⟩, ⟨.mv (.t 0), none, false⟩], [(2, 0)], [], none⟩
abbrev b_ref16_Answer_0 : IC := (.seq (.seq (.reg r_ref16_Answer_4)
 (.cond 14 .skip (.exit 0)))
 (.seq (.block 1 (.seq (.reg r_ref16_Answer_6)
 (.cond 24 (.seq (.reg r_ref16_Answer_7)
 .ret) .skip)))
 (.reg r_ref16_Answer_5)))
abbrev r_ref16_Answer_8 : Reg := ⟨[⟨.mv (.c (.snil)), none, false⟩, ⟨.mv (.c (.bool false)), none, false⟩], [(4, 1), (5, 0)], [1, 2, 3], none⟩
abbrev ir_ref16_Answer : Fn := { np := 2, nv := 6, res := [(4, none), (5, none)], body :=
(.seq (.reg r_ref16_Answer_0)
 (.seq (.seq (.reg r_ref16_Answer_1)
 (.cond 9 (.seq (.reg r_ref16_Answer_2)
 .ret) .skip))
 (.seq (.seq (.reg r_ref16_Answer_3)
 (.block 0 (.loop b_ref16_Answer_0)))
 (.seq (.reg r_ref16_Answer_8)
 .ret)))) }
/- f27 ref02_Has : 0:l 1:w 2:i 3:_ -/
abbrev r_ref02_Has_0 : Reg := ⟨[⟨.mv (.c (.bool false)), none, false⟩], [], [3], none⟩
abbrev r_ref02_Has_1 : Reg := ⟨[⟨.mv (.c (.int (0))), none, false⟩], [(2, 0)], [], none⟩
abbrev r_ref02_Has_2 : Reg := ⟨[⟨.mv (.v 2), none, false⟩, ⟨.mv (.v 0), none, false⟩, ⟨.len (.t 0), none, false⟩, ⟨.bin .lss (.t 2) (.t 0), none, false⟩], [], [], some (9, 0)⟩
abbrev r_ref02_Has_4 : Reg := ⟨[⟨.mv (.v 0), none, false⟩, ⟨.mv (.v 2), none, false⟩, ⟨.iad (.t 1) (.t 0) 1, none, false⟩, ⟨.ld (.t 0) none, none, false⟩, ⟨.mv (.v 1), none, false⟩, ⟨.cal F_ref01_Same [(.t 1), (.t 0)], none, false⟩], [], [], some (17, 0)⟩
abbrev r_ref02_Has_5 : Reg := ⟨[⟨.mv (.c (.bool true)), none, false⟩], [(3, 0)], [0, 1, 2], none⟩
abbrev r_ref02_Has_3 : Reg := ⟨[⟨.mv (.v 2), none, false⟩, ⟨.bin .add (.t 0) (.c (.int (1))), none, false⟩, ⟨.mv (.t 0), none, false⟩], [(2, 0)], [], none⟩
abbrev b_ref02_Has_0 : IC := (.seq (.seq (.reg r_ref02_Has_2)
 (.cond 9 .skip (.exit 0)))
 (.seq (.block 1 (.seq (.reg r_ref02_Has_4)
 (.cond 17 (.seq (.reg r_ref02_Has_5)
 .ret) .skip)))
 (.reg r_ref02_Has_3)))
abbrev r_ref02_Has_6 : Reg := ⟨[⟨.mv (.c (.bool false)), none, false⟩], [(3, 0)], [0, 1, 2], none⟩
abbrev ir_ref02_Has : Fn := { np := 2, nv := 4, res := [(3, none)], body :=
(.seq (.reg r_ref02_Has_0)
 (.seq (.seq (.reg r_ref02_Has_1)
 (.block 0 (.loop b_ref02_Has_0)))
 (.seq (.reg r_ref02_Has_6)
 .ret))) }
/- f28 ref01_Compare : 0:a 1:b 2:_ -/
abbrev r_ref01_Compare_0 : Reg := ⟨[⟨.mv (.c (.int (0))), none, false⟩], [], [2], none⟩
abbrev r_ref01_Compare_1 : Reg := ⟨[⟨.mv (.v 0), none, false⟩, ⟨.len (.t 0), none, false⟩, ⟨.mv (.v 1), none, false⟩, ⟨.len (.t 0), none, false⟩, ⟨.bin .lss (.t 2) (.t 0), none, false⟩], [], [], some (9, 0)⟩
abbrev r_ref01_Compare_2 : Reg := ⟨[⟨.mv (.c (.int (-1))), none, false⟩], [(2, 0)], [0, 1], none⟩
abbrev r_ref01_Compare_3 : Reg := ⟨[⟨.mv (.v 0), none, false⟩, ⟨.len (.t 0), none, false⟩, ⟨.mv (.v 1), none, false⟩, ⟨.len (.t 0), none, false⟩, ⟨.bin .gtr (.t 2) (.t 0), none, false⟩], [], [], some (14, 0)⟩
abbrev r_ref01_Compare_4 : Reg := ⟨[⟨.mv (.c (.int (1))), none, false⟩], [(2, 0)], [0, 1], none⟩
abbrev r_ref01_Compare_5 : Reg := ⟨[⟨.mv (.v 0), none, false⟩, ⟨.mv (.v 1), none, false⟩, ⟨.cal F_ref01_Lex [(.t 1), (.t 0)], none, false⟩, ⟨.mv (.t 0), none, false⟩], [(2, 0)], [0, 1], none⟩
abbrev ir_ref01_Compare : Fn := { np := 2, nv := 3, res := [(2, none)], body :=
(.seq (.reg r_ref01_Compare_0)
 (.seq (.seq (.reg r_ref01_Compare_1)
 (.cond 9 (.seq (.reg r_ref01_Compare_2)
 .ret) .skip))
 (.seq (.seq (.reg r_ref01_Compare_3)
 (.cond 14 (.seq (.reg r_ref01_Compare_4)
 .ret) .skip))
 (.seq (.reg r_ref01_Compare_5)
 .ret)))) }
/- f29 ref01_HasPrefix : 0:w 1:p 2:_ -/
abbrev r_ref01_HasPrefix_0 : Reg := ⟨[⟨.mv (.c (.bool false)), none, false⟩], [], [2], none⟩
abbrev r_ref01_HasPrefix_1 : Reg := ⟨[⟨.mv (.v 0), none, false⟩, ⟨.mv (.v 1), none, false⟩, ⟨.cal F_ref01_Common [(.t 1), (.t 0)], none, false⟩, ⟨.mv (.v 1), none, false⟩, ⟨.len (.t 0), none, false⟩, ⟨.bin .eql (.t 2) (.t 0), none, false⟩, ⟨.mv (.t 0), none, false⟩], [(2, 0)], [0, 1], none⟩
abbrev ir_ref01_HasPrefix : Fn := { np := 2, nv := 3, res := [(2, none)], body :=
(.seq (.reg r_ref01_HasPrefix_0)
 (.seq (.reg r_ref01_HasPrefix_1)
 .ret)) }
/- f30 ref06_Traces : 0:m 1:words 2:m 3:e 4:i 5:e 6:l 7:out 8:_ 9:_ -/
abbrev r_ref06_Traces_0 : Reg := ⟨[⟨.bxi (.v 0), none, false⟩, ⟨.mv (.c (.snil)), none, false⟩, ⟨.mv (.c (.int (0))), none, false⟩], [(2, 2)], [0, 8, 9], none⟩
abbrev r_ref06_Traces_1 : Reg := ⟨[⟨.ldi (.v 2) (some 4), none, false⟩, ⟨.cal F_ref06_Valid [(.t 0)], none, false⟩, ⟨.mv (.t 0), none, false⟩], [(3, 0)], [], none⟩
abbrev r_ref06_Traces_2 : Reg := ⟨[⟨.mv (.v 3), none, false⟩, ⟨.bin .neq (.t 0) (.c (.int (0))), none, false⟩], [], [], some (15, 0)⟩
abbrev r_ref06_Traces_3 : Reg := ⟨[⟨.mv (.v 3), none, false⟩, ⟨.mv (.c (.snil)), none, false⟩, ⟨.mv (.t 1), none, false⟩], [(8, 1), (9, 0)], [1, 2, 3], none⟩
abbrev r_ref06_Traces_4 : Reg := ⟨[⟨.mv (.v 1), none, false⟩, ⟨.len (.t 0), none, false⟩, ⟨.bin .gtr (.t 0) (.c (.int (10000))), none, false⟩], [], [3], some (19, 0)⟩
abbrev r_ref06_Traces_5 : Reg := ⟨[⟨.mv (.c (.snil)), none, false⟩, ⟨.mv (.c (.int (11))), none, false⟩], [(8, 1), (9, 0)], [1, 2], none⟩
abbrev r_ref06_Traces_6 : Reg := ⟨[⟨.nl (some 2), none, false⟩], [(6, 0)], [], none⟩
abbrev r_ref06_Traces_7 : Reg := ⟨[⟨.mv (.c (.int (0))), none, false⟩], [(4, 0)], [], none⟩
abbrev r_ref06_Traces_8 : Reg := ⟨[⟨.mv (.v 4), none, false⟩, ⟨.mv (.v 1), none, false⟩, ⟨.len (.t 0), none, false⟩, ⟨.bin .lss (.t 2) (.t 0), none, false⟩], [], [], some (23, 0)⟩
abbrev r_ref06_Traces_10 : Reg := ⟨[⟨.mv (.v 1), none, false⟩, ⟨.mv (.v 4), none, false⟩, ⟨.iad (.t 1) (.t 0) 1, none, false⟩, ⟨.ld (.t 0) none, none, false⟩, ⟨.fad (.v 2) 0 none, none, false⟩, ⟨.ldi (.t 0) none, none, false⟩, ⟨.cal F_ref01_Check [(.t 2), (.t 0)], none, false⟩, ⟨.mv (.t 0), none, false⟩], [(5, 0)], [], none⟩
abbrev r_ref06_Traces_11 : Reg := ⟨[⟨.mv (.v 5), none, false⟩, ⟨.bin .neq (.t 0) (.c (.int (0))), none, false⟩], [], [], some (34, 0)⟩
abbrev r_ref06_Traces_12 : Reg := ⟨[⟨.mv (.v 5), none, false⟩, ⟨.mv (.c (.snil)), none, false⟩, ⟨.mv (.t 1), none, false⟩], [(8, 1), (9, 0)], [1, 2, 4, 5, 6], none⟩
abbrev r_ref06_Traces_13 : Reg := ⟨[⟨.ldi (.v 2) (some 4), none, false⟩, ⟨.fad (.v 2) 1 none, none, false⟩, ⟨.ldi (.t 0) none, none, false⟩, ⟨.mv (.v 1), none, false⟩, ⟨.mv (.v 4), none, false⟩, ⟨.iad (.t 1) (.t 0) 1, none, false⟩, ⟨.ld (.t 0) none, none, false⟩, ⟨.cal F_ref06_Outs [(.t 6), (.t 4), (.t 0)], none, false⟩, ⟨.mv (.t 0), none, false⟩, ⟨.ext (.t 0) 0, none, false⟩, ⟨.ext (.t 1) 1, none, false⟩, ⟨.mv (.t 1), none, false⟩, ⟨.mv (.t 1), none, false⟩], [(7, 1)], [5], none⟩
abbrev r_ref06_Traces_14 : Reg := ⟨[⟨.mv (.v 6), none, false⟩, ⟨.mv (.v 1), none, false⟩, ⟨.mv (.v 4), none, false⟩, ⟨.iad (.t 1) (.t 0) 1, none, false⟩, ⟨.ld (.t 0) none, none, false⟩, ⟨.liti [(.t 0)] 1, none, false⟩, ⟨.cal F_ref01_Join [(.t 0)], none, false⟩, ⟨.mv (.v 7), none, false⟩, ⟨.bld [.snil, .snil] [(0, 1, (.t 1)), (1, 1, (.t 0))], none, false⟩, ⟨.lita [(.t 0)] 2, none, false⟩, ⟨.appw (.t 9) (.t 0) (some 2), none, false⟩, ⟨.mv (.t 0), none, false⟩], [(6, 0)], [7], none⟩
abbrev r_ref06_Traces_9 : Reg := ⟨[⟨.mv (.v 4), none, false⟩, ⟨.bin .add (.t 0) (.c (.int (1))), none, false⟩, ⟨.mv (.t 0), none, false⟩], [(4, 0)], [], none⟩
abbrev b_ref06_Traces_0 : IC := (.seq (.seq (.reg r_ref06_Traces_8)
 (.cond 23 .skip (.exit 0)))
 (.seq (.block 1 (.seq (.seq (.reg r_ref06_Traces_10)
 (.seq (.reg r_ref06_Traces_11)
 (.cond 34 (.seq (.reg r_ref06_Traces_12)
 .ret) .skip)))
 (.seq (.reg r_ref06_Traces_13)
 (.reg r_ref06_Traces_14))))
 (.reg r_ref06_Traces_9)))
abbrev r_ref06_Traces_15 : Reg := ⟨[⟨.mv (.v 6), none, false⟩, ⟨.mv (.t 0), none, false⟩, ⟨.mv (.c (.int (0))), none, false⟩], [(8, 1), (9, 0)], [1, 2, 4, 6], none⟩
abbrev ir_ref06_Traces : Fn := { np := 2, nv := 10, res := [(8, none), (9, none)], body :=
(.seq (.reg r_ref06_Traces_0)
 (.seq (.seq (.reg r_ref06_Traces_1)
 (.seq (.reg r_ref06_Traces_2)
 (.cond 15 (.seq (.reg r_ref06_Traces_3)
 .ret) .skip)))
 (.seq (.seq (.reg r_ref06_Traces_4)
 (.cond 19 (.seq (.reg r_ref06_Traces_5)
 .ret) .skip))
 (.seq (.reg r_ref06_Traces_6)
 (.seq (.seq (.reg r_ref06_Traces_7)
 (.block 0 (.loop b_ref06_Traces_0)))
 (.seq (.reg r_ref06_Traces_15)
 .ret)))))) }
/- f31 ref16_All : 0:o 1:l 2:o 3:i 4:out 5:e 6:_ 7:x 8:_ -/
abbrev r_ref16_All_0 : Reg := ⟨[⟨.bxi (.v 0), none, false⟩, ⟨.alc [.int 0, .snil] (some 2), none, false⟩, ⟨.mv (.c (.int (0))), none, false⟩], [(2, 2), (6, 1)], [0, 8], none⟩
abbrev r_ref16_All_1 : Reg := ⟨[⟨.ldi (.v 2) (some 2), none, false⟩, ⟨.alc [.int 0, .snil] (some 2), none, false⟩, ⟨.st (.t 0) (.t 1) 2, none, false⟩], [(4, 1)], [], none⟩
abbrev r_ref16_All_2 : Reg := ⟨[⟨.mv (.c (.int (0))), none, false⟩], [(3, 0)], [], none⟩
abbrev r_ref16_All_3 : Reg := ⟨[⟨.mv (.v 3), none, false⟩, ⟨.mv (.v 1), none, false⟩, ⟨.len (.t 0), none, false⟩, ⟨.bin .lss (.t 2) (.t 0), none, false⟩], [], [], some (14, 0)⟩
abbrev r_ref16_All_5 : Reg := ⟨[⟨.ld (.v 4) (some 2), none, false⟩, ⟨.mv (.v 1), none, false⟩, ⟨.mv (.v 3), none, false⟩, ⟨.iad (.t 1) (.t 0) 2, none, false⟩, ⟨.ld (.t 0) (some 2), none, false⟩, ⟨.cal F_ref16_Add [(.t 4), (.t 0)], none, false⟩, ⟨.mv (.t 0), none, false⟩, ⟨.ext (.t 0) 0, none, false⟩, ⟨.ext (.t 1) 1, none, false⟩, ⟨.alc0 2, none, false⟩, ⟨.ini (.t 0) (.t 2) 2, none, false⟩, ⟨.mv (.t 2), none, false⟩], [(7, 1), (5, 0)], [], none⟩
abbrev r_ref16_All_6 : Reg := ⟨[⟨.mv (.v 5), none, false⟩, ⟨.bin .neq (.t 0) (.c (.int (0))), none, false⟩], [], [], some (27, 0)⟩
abbrev r_ref16_All_7 : Reg := ⟨[⟨.ldi (.v 2) (some 2), none, false⟩, ⟨.mv (.v 5), none, false⟩, ⟨.st (.v 6) (.t 1) 2, none, false⟩, ⟨.mv (.t 1), none, false⟩], [(8, 0)], [1, 2, 3, 4, 5, 7], none⟩
abbrev r_ref16_All_8 : Reg := ⟨[⟨.ldi (.v 7) (some 2), none, false⟩, ⟨.st (.v 4) (.t 0) 2, none, false⟩], [], [5, 7], none⟩
abbrev r_ref16_All_4 : Reg := ⟨[⟨.mv (.v 3), none, false⟩, ⟨.bin .add (.t 0) (.c (.int (1))), none, false⟩, ⟨.mv (.t 0), none, false⟩], [(3, 0)], [], none⟩
abbrev b_ref16_All_0 : IC := (.seq (.seq (.reg r_ref16_All_3)
 (.cond 14 .skip (.exit 0)))
 (.seq (.block 1 (.seq (.reg r_ref16_All_5)
 (.seq (.seq (.reg r_ref16_All_6)
 (.cond 27 (.seq (.reg r_ref16_All_7)
 .ret) .skip))
 (.reg r_ref16_All_8))))
 (.reg r_ref16_All_4)))
abbrev r_ref16_All_9 : Reg := ⟨[⟨.ld (.v 4) (some 2), none, false⟩, ⟨.st (.v 6) (.t 0) 2, none, false⟩, ⟨.mv (.c (.int (0))), none, false⟩], [(8, 0)], [1, 2, 3, 4], none⟩
abbrev ir_ref16_All : Fn := { np := 2, nv := 9, res := [(6, some (some 2)), (8, none)], body :=
(.seq (.reg r_ref16_All_0)
 (.seq (.reg r_ref16_All_1)
 (.seq (.seq (.reg r_ref16_All_2)
 (.block 0 (.loop b_ref16_All_0)))
 (.seq (.reg r_ref16_All_9)
 .ret)))) }
/- f32 ref02_Maximal : 0:l 1:i 2:all 3:k 4:top 5:out 6:_ -/
abbrev r_ref02_Maximal_0 : Reg := ⟨[⟨.mv (.c (.snil)), none, false⟩], [], [6], none⟩
abbrev r_ref02_Maximal_1 : Reg := ⟨[⟨.mv (.v 0), none, false⟩, ⟨.cal F_ref02_Sorted [(.t 0)], none, false⟩, ⟨.mv (.t 0), none, false⟩], [(2, 0)], [0], none⟩
abbrev r_ref02_Maximal_2 : Reg := ⟨[⟨.nl none, none, false⟩], [(5, 0)], [], none⟩
abbrev r_ref02_Maximal_3 : Reg := ⟨[⟨.mv (.c (.int (0))), none, false⟩], [(1, 0)], [], none⟩
abbrev r_ref02_Maximal_4 : Reg := ⟨[⟨.mv (.v 1), none, false⟩, ⟨.mv (.v 2), none, false⟩, ⟨.len (.t 0), none, false⟩, ⟨.bin .lss (.t 2) (.t 0), none, false⟩], [], [], some (13, 0)⟩
abbrev r_ref02_Maximal_6 : Reg := ⟨[⟨.mv (.c (.bool true)), none, false⟩], [(4, 0)], [], none⟩
abbrev r_ref02_Maximal_7 : Reg := ⟨[⟨.mv (.v 1), none, false⟩, ⟨.bin .add (.t 0) (.c (.int (1))), none, false⟩, ⟨.mv (.t 0), none, false⟩], [(3, 0)], [], none⟩
abbrev r_ref02_Maximal_8 : Reg := ⟨[⟨.mv (.v 3), none, false⟩, ⟨.mv (.v 2), none, false⟩, ⟨.len (.t 0), none, false⟩, ⟨.bin .lss (.t 2) (.t 0), none, false⟩], [], [], some (21, 0)⟩
abbrev r_ref02_Maximal_10 : Reg := ⟨[⟨.mv (.v 4), none, false⟩, ⟨.mv (.t 0), none, false⟩, ⟨.mv (.v 2), some (.t 0, true), false⟩, ⟨.mv (.v 3), some (.t 1, true), false⟩, ⟨.iad (.t 1) (.t 0) 1, some (.t 2, true), false⟩, ⟨.ld (.t 0) none, some (.t 3, true), false⟩, ⟨.len (.t 0), some (.t 4, true), false⟩, ⟨.mv (.v 2), some (.t 5, true), false⟩, ⟨.mv (.v 1), some (.t 6, true), false⟩, ⟨.iad (.t 1) (.t 0) 1, some (.t 7, true), false⟩, ⟨.ld (.t 0) none, some (.t 8, true), false⟩, ⟨.len (.t 0), some (.t 9, true), false⟩, ⟨.bin .eql (.t 5) (.t 0), some (.t 10, true), false⟩, ⟨.mv (.t 0), some (.t 11, true), false⟩, ⟨.mv (.v 2), some (.t 0, false), false⟩, ⟨.mv (.v 3), some (.t 1, false), false⟩, ⟨.iad (.t 1) (.t 0) 1, some (.t 2, false), false⟩, ⟨.ld (.t 0) none, some (.t 3, false), false⟩, ⟨.mv (.v 2), some (.t 4, false), false⟩, ⟨.mv (.v 1), some (.t 5, false), false⟩, ⟨.iad (.t 1) (.t 0) 1, some (.t 6, false), false⟩, ⟨.ld (.t 0) none, some (.t 7, false), false⟩, ⟨.cal F_ref01_HasPrefix [(.t 4), (.t 0)], some (.t 8, false), false⟩, ⟨.not (.t 0), some (.t 9, false), false⟩, ⟨.pick (.t 10) (.c (.bool true)) (.t 0), some (.t 22, true), false⟩, ⟨.pick (.t 23) (.t 0) (.c (.bool false)), none, false⟩, ⟨.mv (.t 0), none, false⟩], [(4, 0)], [], none⟩
abbrev r_ref02_Maximal_9 : Reg := ⟨[⟨.mv (.v 3), none, false⟩, ⟨.bin .add (.t 0) (.c (.int (1))), none, false⟩, ⟨.mv (.t 0), none, false⟩], [(3, 0)], [], none⟩
abbrev b_ref02_Maximal_2 : IC := (.seq (.seq (.reg r_ref02_Maximal_8)
 (.cond 21 .skip (.exit 2)))
 (.seq (.block 3 (.reg r_ref02_Maximal_10))
 (.reg r_ref02_Maximal_9)))
abbrev r_ref02_Maximal_11 : Reg := ⟨[⟨.mv (.v 4), none, false⟩], [], [3, 4], some (50, 0)⟩
abbrev r_ref02_Maximal_12 : Reg := ⟨[⟨.mv (.v 5), none, false⟩, ⟨.mv (.v 2), none, false⟩, ⟨.mv (.v 1), none, false⟩, ⟨.iad (.t 1) (.t 0) 1, none, false⟩, ⟨.ld (.t 0) none, none, false⟩, ⟨.lita [(.t 0)] 1, none, false⟩, ⟨.appw (.t 5) (.t 0) none, none, false⟩, ⟨.mv (.t 0), none, false⟩], [(5, 0)], [], none⟩
abbrev r_ref02_Maximal_5 : Reg := ⟨[⟨.mv (.v 1), none, false⟩, ⟨.bin .add (.t 0) (.c (.int (1))), none, false⟩, ⟨.mv (.t 0), none, false⟩], [(1, 0)], [], none⟩
abbrev b_ref02_Maximal_0 : IC := (.seq (.seq (.reg r_ref02_Maximal_4)
 (.cond 13 .skip (.exit 0)))
 (.seq (.block 1 (.seq (.reg r_ref02_Maximal_6)
 (.seq (.seq (.reg r_ref02_Maximal_7)
 (.block 2 (.loop b_ref02_Maximal_2)))
 (.seq (.reg r_ref02_Maximal_11)
 (.cond 50 (.reg r_ref02_Maximal_12) .skip)))))
 (.reg r_ref02_Maximal_5)))
abbrev r_ref02_Maximal_13 : Reg := ⟨[⟨.mv (.v 5), none, false⟩, ⟨.mv (.t 0), none, false⟩], [(6, 0)], [1, 2, 5], none⟩
abbrev ir_ref02_Maximal : Fn := { np := 1, nv := 7, res := [(6, none)], body :=
(.seq (.reg r_ref02_Maximal_0)
 (.seq (.reg r_ref02_Maximal_1)
 (.seq (.reg r_ref02_Maximal_2)
 (.seq (.seq (.reg r_ref02_Maximal_3)
 (.block 0 (.loop b_ref02_Maximal_0)))
 (.seq (.reg r_ref02_Maximal_13)
 .ret))))) }
/- f33 ref06_Valid : 0:m 1:m 2:s 3:e 4:_ -/
abbrev r_ref06_Valid_0 : Reg := ⟨[⟨.bxi (.v 0), none, false⟩, ⟨.mv (.c (.int (0))), none, false⟩], [(1, 1)], [0, 4], none⟩
abbrev r_ref06_Valid_1 : Reg := ⟨[⟨.fad (.v 1) 0 none, none, false⟩, ⟨.ldi (.t 0) none, none, false⟩, ⟨.bin .lss (.t 0) (.c (.int (1))), none, false⟩, ⟨.mv (.t 0), none, false⟩, ⟨.fad (.v 1) 0 none, some (.t 0, false), false⟩, ⟨.ldi (.t 0) none, some (.t 1, false), false⟩, ⟨.bin .gtr (.t 0) (.c (.int (64))), some (.t 2, false), false⟩, ⟨.pick (.t 3) (.c (.bool true)) (.t 0), none, false⟩], [], [], some (12, 0)⟩
abbrev r_ref06_Valid_2 : Reg := ⟨[⟨.mv (.c (.int (2))), none, false⟩], [(4, 0)], [1], none⟩
abbrev r_ref06_Valid_3 : Reg := ⟨[⟨.fad (.v 1) 2 none, none, false⟩, ⟨.ldi (.t 0) none, none, false⟩, ⟨.len (.t 0), none, false⟩, ⟨.bin .eql (.t 0) (.c (.int (0))), none, false⟩], [], [], some (16, 0)⟩
abbrev r_ref06_Valid_4 : Reg := ⟨[⟨.mv (.c (.int (19))), none, false⟩], [(4, 0)], [1], none⟩
abbrev r_ref06_Valid_5 : Reg := ⟨[⟨.fad (.v 1) 2 none, none, false⟩, ⟨.ldi (.t 0) none, none, false⟩, ⟨.len (.t 0), none, false⟩, ⟨.bin .gtr (.t 0) (.c (.int (128))), none, false⟩], [], [], some (20, 0)⟩
abbrev r_ref06_Valid_6 : Reg := ⟨[⟨.mv (.c (.int (11))), none, false⟩], [(4, 0)], [1], none⟩
abbrev r_ref06_Valid_7 : Reg := ⟨[⟨.fad (.v 1) 1 none, none, false⟩, ⟨.ldi (.t 0) none, none, false⟩, ⟨.bin .lss (.t 0) (.c (.int (0))), none, false⟩, ⟨.mv (.t 0), none, false⟩, ⟨.fad (.v 1) 1 none, some (.t 0, false), false⟩, ⟨.ldi (.t 0) none, some (.t 1, false), false⟩, ⟨.fad (.v 1) 2 none, some (.t 2, false), false⟩, ⟨.ldi (.t 0) none, some (.t 3, false), false⟩, ⟨.len (.t 0), some (.t 4, false), false⟩, ⟨.bin .geq (.t 3) (.t 0), some (.t 5, false), false⟩, ⟨.pick (.t 6) (.c (.bool true)) (.t 0), none, false⟩], [], [], some (31, 0)⟩
abbrev r_ref06_Valid_8 : Reg := ⟨[⟨.mv (.c (.int (2))), none, false⟩], [(4, 0)], [1], none⟩
abbrev r_ref06_Valid_9 : Reg := ⟨[⟨.fad (.v 1) 3 none, none, false⟩, ⟨.ldi (.t 0) none, none, false⟩, ⟨.len (.t 0), none, false⟩, ⟨.fad (.v 1) 2 none, none, false⟩, ⟨.ldi (.t 0) none, none, false⟩, ⟨.len (.t 0), none, false⟩, ⟨.bin .neq (.t 3) (.t 0), none, false⟩], [], [], some (38, 0)⟩
abbrev r_ref06_Valid_10 : Reg := ⟨[⟨.mv (.c (.int (1))), none, false⟩], [(4, 0)], [1], none⟩
abbrev r_ref06_Valid_11 : Reg := ⟨[⟨.mv (.c (.int (0))), none, false⟩], [(2, 0)], [], none⟩
abbrev r_ref06_Valid_12 : Reg := ⟨[⟨.mv (.v 2), none, false⟩, ⟨.fad (.v 1) 2 none, none, false⟩, ⟨.ldi (.t 0) none, none, false⟩, ⟨.len (.t 0), none, false⟩, ⟨.bin .lss (.t 3) (.t 0), none, false⟩], [], [], some (43, 0)⟩
abbrev r_ref06_Valid_14 : Reg := ⟨[⟨.ldi (.v 1) (some 4), none, false⟩, ⟨.mv (.v 2), none, false⟩, ⟨.cal F_ref06_row [(.t 1), (.t 0)], none, false⟩, ⟨.mv (.t 0), none, false⟩], [(3, 0)], [], none⟩
abbrev r_ref06_Valid_15 : Reg := ⟨[⟨.mv (.v 3), none, false⟩, ⟨.bin .neq (.t 0) (.c (.int (0))), none, false⟩], [], [], some (50, 0)⟩
abbrev r_ref06_Valid_16 : Reg := ⟨[⟨.mv (.v 3), none, false⟩, ⟨.mv (.t 0), none, false⟩], [(4, 0)], [1, 2, 3], none⟩
abbrev r_ref06_Valid_13 : Reg := ⟨[⟨.mv (.v 2), none, false⟩, ⟨.bin .add (.t 0) (.c (.int (1))), none, false⟩, ⟨.mv (.t 0), none, false⟩], [(2, 0)], [3], none⟩
abbrev b_ref06_Valid_0 : IC := (.seq (.seq (.reg r_ref06_Valid_12)
 (.cond 43 .skip (.exit 0)))
 (.seq (.block 1 (.seq (.reg r_ref06_Valid_14)
 (.seq (.reg r_ref06_Valid_15)
 (.cond 50 (.seq (.reg r_ref06_Valid_16)
 .ret) .skip))))
 (.reg r_ref06_Valid_13)))
abbrev r_ref06_Valid_17 : Reg := ⟨[⟨.mv (.c (.int (0))), none, false⟩], [(4, 0)], [1, 2], none⟩
abbrev ir_ref06_Valid : Fn := { np := 1, nv := 5, res := [(4, none)], body :=
(.seq (.reg r_ref06_Valid_0)
 (.seq (.seq (.reg r_ref06_Valid_1)
 (.cond 12 (.seq (.reg r_ref06_Valid_2)
 .ret) .skip))
 (.seq (.seq (.reg r_ref06_Valid_3)
 (.cond 16 (.seq (.reg r_ref06_Valid_4)
 .ret) .skip))
 (.seq (.seq (.reg r_ref06_Valid_5)
 (.cond 20 (.seq (.reg r_ref06_Valid_6)
 .ret) .skip))
 (.seq (.seq (.reg r_ref06_Valid_7)
 (.cond 31 (.seq (.reg r_ref06_Valid_8)
 .ret) .skip))
 (.seq (.seq (.reg r_ref06_Valid_9)
 (.cond 38 (.seq (.reg r_ref06_Valid_10)
 .ret) .skip))
 (.seq (.seq (.reg r_ref06_Valid_11)
 (.block 0 (.loop b_ref06_Valid_0)))
 (.seq (.reg r_ref06_Valid_17)
 .ret)))))))) }
/- f34 ref01_Check : 0:w 1:inputs 2:i 3:_ -/
abbrev r_ref01_Check_0 : Reg := ⟨[⟨.mv (.c (.int (0))), none, false⟩], [], [3], none⟩
abbrev r_ref01_Check_1 : Reg := ⟨[⟨.mv (.v 1), none, false⟩, ⟨.cal F_ref01_Size [(.t 0)], none, false⟩, ⟨.not (.t 0), none, false⟩], [], [], some (8, 0)⟩
abbrev r_ref01_Check_2 : Reg := ⟨[⟨.mv (.c (.int (2))), none, false⟩], [(3, 0)], [0, 1], none⟩
abbrev r_ref01_Check_3 : Reg := ⟨[⟨.mv (.v 0), none, false⟩, ⟨.len (.t 0), none, false⟩, ⟨.bin .gtr (.t 0) (.c (.int (1024))), none, false⟩], [], [], some (11, 0)⟩
abbrev r_ref01_Check_4 : Reg := ⟨[⟨.mv (.c (.int (3))), none, false⟩], [(3, 0)], [0, 1], none⟩
abbrev r_ref01_Check_5 : Reg := ⟨[⟨.mv (.c (.int (0))), none, false⟩], [(2, 0)], [], none⟩
abbrev r_ref01_Check_6 : Reg := ⟨[⟨.mv (.v 2), none, false⟩, ⟨.mv (.v 0), none, false⟩, ⟨.len (.t 0), none, false⟩, ⟨.bin .lss (.t 2) (.t 0), none, false⟩], [], [], some (15, 0)⟩
abbrev r_ref01_Check_8 : Reg := ⟨[⟨.mv (.v 0), none, false⟩, ⟨.mv (.v 2), none, false⟩, ⟨.iad (.t 1) (.t 0) 1, none, false⟩, ⟨.ld (.t 0) none, none, false⟩, ⟨.bin .lss (.t 0) (.c (.int (0))), none, false⟩, ⟨.mv (.t 0), none, false⟩, ⟨.mv (.v 0), some (.t 0, false), false⟩, ⟨.mv (.v 2), some (.t 1, false), false⟩, ⟨.iad (.t 1) (.t 0) 1, some (.t 2, false), false⟩, ⟨.ld (.t 0) none, some (.t 3, false), false⟩, ⟨.mv (.v 1), some (.t 4, false), false⟩, ⟨.bin .geq (.t 1) (.t 0), some (.t 5, false), false⟩, ⟨.pick (.t 6) (.c (.bool true)) (.t 0), none, false⟩], [], [], some (30, 0)⟩
abbrev r_ref01_Check_9 : Reg := ⟨[⟨.mv (.c (.int (1))), none, false⟩], [(3, 0)], [0, 1, 2], none⟩
abbrev r_ref01_Check_7 : Reg := ⟨[⟨.mv (.v 2), none, false⟩, ⟨.bin .add (.t 0) (.c (.int (1))), none, false⟩, ⟨.mv (.t 0), none, false⟩], [(2, 0)], [], none⟩
abbrev b_ref01_Check_0 : IC := (.seq (.seq (.reg r_ref01_Check_6)
 (.cond 15 .skip (.exit 0)))
 (.seq (.block 1 (.seq (.reg r_ref01_Check_8)
 (.cond 30 (.seq (.reg r_ref01_Check_9)
 .ret) .skip)))
 (.reg r_ref01_Check_7)))
abbrev r_ref01_Check_10 : Reg := ⟨[⟨.mv (.c (.int (0))), none, false⟩], [(3, 0)], [0, 1, 2], none⟩
abbrev ir_ref01_Check : Fn := { np := 2, nv := 4, res := [(3, none)], body :=
(.seq (.reg r_ref01_Check_0)
 (.seq (.seq (.reg r_ref01_Check_1)
 (.cond 8 (.seq (.reg r_ref01_Check_2)
 .ret) .skip))
 (.seq (.seq (.reg r_ref01_Check_3)
 (.cond 11 (.seq (.reg r_ref01_Check_4)
 .ret) .skip))
 (.seq (.seq (.reg r_ref01_Check_5)
 (.block 0 (.loop b_ref01_Check_0)))
 (.seq (.reg r_ref01_Check_10)
 .ret))))) }
/- f35 ref01_Same : 0:a 1:b 2:_ -/
abbrev r_ref01_Same_0 : Reg := ⟨[⟨.mv (.c (.bool false)), none, false⟩], [], [2], none⟩
abbrev r_ref01_Same_1 : Reg := ⟨[⟨.mv (.v 0), none, false⟩, ⟨.len (.t 0), none, false⟩, ⟨.mv (.v 1), none, false⟩, ⟨.len (.t 0), none, false⟩, ⟨.bin .eql (.t 2) (.t 0), none, false⟩, ⟨.mv (.t 0), none, false⟩, ⟨.mv (.v 0), some (.t 0, true), false⟩, ⟨.mv (.v 1), some (.t 1, true), false⟩, ⟨.cal F_ref01_Common [(.t 1), (.t 0)], some (.t 2, true), false⟩, ⟨.mv (.v 0), some (.t 3, true), false⟩, ⟨.len (.t 0), some (.t 4, true), false⟩, ⟨.bin .eql (.t 2) (.t 0), some (.t 5, true), false⟩, ⟨.pick (.t 6) (.t 0) (.c (.bool false)), none, false⟩, ⟨.mv (.t 0), none, false⟩], [(2, 0)], [0, 1], none⟩
abbrev ir_ref01_Same : Fn := { np := 2, nv := 3, res := [(2, none)], body :=
(.seq (.reg r_ref01_Same_0)
 (.seq (.reg r_ref01_Same_1)
 .ret)) }
/- f36 ref16_Proper : 0:t 1:inputs 2:t 3:e 4:i 5:_ -/
abbrev r_ref16_Proper_0 : Reg := ⟨[⟨.bxi (.v 0), none, false⟩, ⟨.mv (.c (.int (0))), none, false⟩], [(2, 1)], [0, 5], none⟩
abbrev r_ref16_Proper_1 : Reg := ⟨[⟨.fad (.v 2) 0 none, none, false⟩, ⟨.ldi (.t 0) none, none, false⟩, ⟨.mv (.v 1), none, false⟩, ⟨.cal F_ref01_Check [(.t 1), (.t 0)], none, false⟩, ⟨.mv (.t 0), none, false⟩], [(3, 0)], [1], none⟩
abbrev r_ref16_Proper_2 : Reg := ⟨[⟨.mv (.v 3), none, false⟩, ⟨.bin .neq (.t 0) (.c (.int (0))), none, false⟩], [], [], some (12, 0)⟩
abbrev r_ref16_Proper_3 : Reg := ⟨[⟨.mv (.v 3), none, false⟩, ⟨.mv (.t 0), none, false⟩], [(5, 0)], [2, 3], none⟩
abbrev r_ref16_Proper_4 : Reg := ⟨[⟨.fad (.v 2) 1 none, none, false⟩, ⟨.ldi (.t 0) none, none, false⟩, ⟨.len (.t 0), none, false⟩, ⟨.fad (.v 2) 0 none, none, false⟩, ⟨.ldi (.t 0) none, none, false⟩, ⟨.len (.t 0), none, false⟩, ⟨.bin .neq (.t 3) (.t 0), none, false⟩], [], [3], some (20, 0)⟩
abbrev r_ref16_Proper_5 : Reg := ⟨[⟨.mv (.c (.int (1))), none, false⟩], [(5, 0)], [2], none⟩
abbrev r_ref16_Proper_6 : Reg := ⟨[⟨.mv (.c (.int (0))), none, false⟩], [(4, 0)], [], none⟩
abbrev r_ref16_Proper_7 : Reg := ⟨[⟨.mv (.v 4), none, false⟩, ⟨.fad (.v 2) 1 none, none, false⟩, ⟨.ldi (.t 0) none, none, false⟩, ⟨.len (.t 0), none, false⟩, ⟨.bin .lss (.t 3) (.t 0), none, false⟩], [], [], some (25, 0)⟩
abbrev r_ref16_Proper_9 : Reg := ⟨[⟨.fad (.v 2) 1 none, none, false⟩, ⟨.ldi (.t 0) none, none, false⟩, ⟨.mv (.v 4), none, false⟩, ⟨.iad (.t 1) (.t 0) 1, none, false⟩, ⟨.ldi (.t 0) none, none, false⟩, ⟨.bin .lss (.t 0) (.c (.int (0))), none, false⟩, ⟨.mv (.t 0), none, false⟩, ⟨.fad (.v 2) 1 none, some (.t 0, false), false⟩, ⟨.ldi (.t 0) none, some (.t 1, false), false⟩, ⟨.mv (.v 4), some (.t 2, false), false⟩, ⟨.iad (.t 1) (.t 0) 1, some (.t 3, false), false⟩, ⟨.ldi (.t 0) none, some (.t 4, false), false⟩, ⟨.bin .gtr (.t 0) (.c (.int (1048576))), some (.t 5, false), false⟩, ⟨.pick (.t 6) (.c (.bool true)) (.t 0), none, false⟩], [], [], some (41, 0)⟩
abbrev r_ref16_Proper_10 : Reg := ⟨[⟨.mv (.c (.int (2))), none, false⟩], [(5, 0)], [2, 4], none⟩
abbrev r_ref16_Proper_8 : Reg := ⟨[⟨.mv (.v 4), none, false⟩, ⟨.bin .add (.t 0) (.c (.int (1))), none, false⟩, ⟨.mv (.t 0), none, false⟩], [(4, 0)], [], none⟩
abbrev b_ref16_Proper_0 : IC := (.seq (.seq (.reg r_ref16_Proper_7)
 (.cond 25 .skip (.exit 0)))
 (.seq (.block 1 (.seq (.reg r_ref16_Proper_9)
 (.cond 41 (.seq (.reg r_ref16_Proper_10)
 .ret) .skip)))
 (.reg r_ref16_Proper_8)))
abbrev r_ref16_Proper_11 : Reg := ⟨[⟨.mv (.c (.int (0))), none, false⟩], [(5, 0)], [2, 4], none⟩
abbrev ir_ref16_Proper : Fn := { np := 2, nv := 6, res := [(5, none)], body :=
(.seq (.reg r_ref16_Proper_0)
 (.seq (.seq (.reg r_ref16_Proper_1)
 (.seq (.reg r_ref16_Proper_2)
 (.cond 12 (.seq (.reg r_ref16_Proper_3)
 .ret) .skip)))
 (.seq (.seq (.reg r_ref16_Proper_4)
 (.cond 20 (.seq (.reg r_ref16_Proper_5)
 .ret) .skip))
 (.seq (.seq (.reg r_ref16_Proper_6)
 (.block 0 (.loop b_ref16_Proper_0)))
 (.seq (.reg r_ref16_Proper_11)
 .ret))))) }
/- f37 ref16_apart : 0:o 1:i 2:o 3:k 4:prefix 5:clash 6:_ -/
abbrev r_ref16_apart_0 : Reg := ⟨[⟨.bxi (.v 0), none, false⟩, ⟨.mv (.c (.int (0))), none, false⟩], [(2, 1)], [0, 6], none⟩
abbrev r_ref16_apart_1 : Reg := ⟨[⟨.mv (.c (.int (0))), none, false⟩], [(1, 0)], [], none⟩
abbrev r_ref16_apart_2 : Reg := ⟨[⟨.mv (.v 1), none, false⟩, ⟨.fad (.v 2) 1 none, none, false⟩, ⟨.ldi (.t 0) none, none, false⟩, ⟨.len (.t 0), none, false⟩, ⟨.bin .lss (.t 3) (.t 0), none, false⟩], [], [], some (11, 0)⟩
abbrev r_ref16_apart_4 : Reg := ⟨[⟨.mv (.c (.bool false)), none, false⟩, ⟨.mv (.c (.bool false)), none, false⟩], [(4, 1), (5, 0)], [], none⟩
abbrev r_ref16_apart_5 : Reg := ⟨[⟨.mv (.v 1), none, false⟩, ⟨.bin .add (.t 0) (.c (.int (1))), none, false⟩, ⟨.mv (.t 0), none, false⟩], [(3, 0)], [], none⟩
abbrev r_ref16_apart_6 : Reg := ⟨[⟨.mv (.v 3), none, false⟩, ⟨.fad (.v 2) 1 none, none, false⟩, ⟨.ldi (.t 0) none, none, false⟩, ⟨.len (.t 0), none, false⟩, ⟨.bin .lss (.t 3) (.t 0), none, false⟩], [], [], some (20, 0)⟩
abbrev r_ref16_apart_8 : Reg := ⟨[⟨.mv (.v 4), none, false⟩, ⟨.mv (.t 0), none, false⟩, ⟨.fad (.v 2) 1 none, some (.t 0, false), false⟩, ⟨.ldi (.t 0) none, some (.t 1, false), false⟩, ⟨.mv (.v 3), some (.t 2, false), false⟩, ⟨.iad (.t 1) (.t 0) 2, some (.t 3, false), false⟩, ⟨.fad (.t 0) 0 none, some (.t 4, false), false⟩, ⟨.ldi (.t 0) none, some (.t 5, false), false⟩, ⟨.fad (.v 2) 1 none, some (.t 6, false), false⟩, ⟨.ldi (.t 0) none, some (.t 7, false), false⟩, ⟨.mv (.v 1), some (.t 8, false), false⟩, ⟨.iad (.t 1) (.t 0) 2, some (.t 9, false), false⟩, ⟨.fad (.t 0) 0 none, some (.t 10, false), false⟩, ⟨.ldi (.t 0) none, some (.t 11, false), false⟩, ⟨.cal F_ref01_HasPrefix [(.t 6), (.t 0)], some (.t 12, false), false⟩, ⟨.pick (.t 13) (.c (.bool true)) (.t 0), none, false⟩, ⟨.mv (.t 0), none, false⟩], [(4, 0)], [], none⟩
abbrev r_ref16_apart_9 : Reg := ⟨[⟨.mv (.v 5), none, false⟩, ⟨.mv (.t 0), none, false⟩, ⟨.fad (.v 2) 1 none, some (.t 0, false), false⟩, ⟨.ldi (.t 0) none, some (.t 1, false), false⟩, ⟨.mv (.v 1), some (.t 2, false), false⟩, ⟨.iad (.t 1) (.t 0) 2, some (.t 3, false), false⟩, ⟨.ldi (.t 0) (some 2), some (.t 4, false), false⟩, ⟨.fad (.v 2) 1 none, some (.t 5, false), false⟩, ⟨.ldi (.t 0) none, some (.t 6, false), false⟩, ⟨.mv (.v 3), some (.t 7, false), false⟩, ⟨.iad (.t 1) (.t 0) 2, some (.t 8, false), false⟩, ⟨.ldi (.t 0) (some 2), some (.t 9, false), false⟩, ⟨.cal F_ref16_Differ [(.t 5), (.t 0)], some (.t 10, false), false⟩, ⟨.bin .geq (.t 0) (.c (.int (0))), some (.t 11, false), false⟩, ⟨.pick (.t 12) (.c (.bool true)) (.t 0), none, false⟩, ⟨.mv (.t 0), none, false⟩], [(5, 0)], [], none⟩
abbrev r_ref16_apart_7 : Reg := ⟨[⟨.mv (.v 3), none, false⟩, ⟨.bin .add (.t 0) (.c (.int (1))), none, false⟩, ⟨.mv (.t 0), none, false⟩], [(3, 0)], [], none⟩
abbrev b_ref16_apart_2 : IC := (.seq (.seq (.reg r_ref16_apart_6)
 (.cond 20 .skip (.exit 2)))
 (.seq (.block 3 (.seq (.reg r_ref16_apart_8)
 (.reg r_ref16_apart_9)))
 (.reg r_ref16_apart_7)))
abbrev r_ref16_apart_10 : Reg := ⟨[⟨.mv (.v 4), none, false⟩], [], [3, 4], some (54, 0)⟩
abbrev r_ref16_apart_11 : Reg := ⟨[⟨.mv (.c (.int (7))), none, false⟩], [(6, 0)], [1, 2, 5], none⟩
abbrev r_ref16_apart_12 : Reg := ⟨[⟨.mv (.v 5), none, false⟩], [], [5], some (55, 0)⟩
abbrev r_ref16_apart_13 : Reg := ⟨[⟨.mv (.c (.int (13))), none, false⟩], [(6, 0)], [1, 2], none⟩
abbrev r_ref16_apart_3 : Reg := ⟨[⟨.mv (.v 1), none, false⟩, ⟨.bin .add (.t 0) (.c (.int (1))), none, false⟩, ⟨.mv (.t 0), none, false⟩], [(1, 0)], [], none⟩
abbrev b_ref16_apart_0 : IC := (.seq (.seq (.reg r_ref16_apart_2)
 (.cond 11 .skip (.exit 0)))
 (.seq (.block 1 (.seq (.reg r_ref16_apart_4)
 (.seq (.seq (.reg r_ref16_apart_5)
 (.block 2 (.loop b_ref16_apart_2)))
 (.seq (.seq (.reg r_ref16_apart_10)
 (.cond 54 (.seq (.reg r_ref16_apart_11)
 .ret) .skip))
 (.seq (.reg r_ref16_apart_12)
 (.cond 55 (.seq (.reg r_ref16_apart_13)
 .ret) .skip))))))
 (.reg r_ref16_apart_3)))
abbrev r_ref16_apart_14 : Reg := ⟨[⟨.mv (.c (.int (0))), none, false⟩], [(6, 0)], [1, 2], none⟩
abbrev ir_ref16_apart : Fn := { np := 1, nv := 7, res := [(6, none)], body :=
(.seq (.reg r_ref16_apart_0)
 (.seq (.seq (.reg r_ref16_apart_1)
 (.block 0 (.loop b_ref16_apart_0)))
 (.seq (.reg r_ref16_apart_14)
 .ret))) }
/- f38 word_Check : 0:w 1:inputs 2:inputs 3:_ -/
abbrev r_word_Check_0 : Reg := ⟨[⟨.bxi (.v 1), none, false⟩, ⟨.mv (.c (.int (0))), none, false⟩], [(2, 1)], [1, 3], none⟩
abbrev r_word_Check_1 : Reg := ⟨[⟨.ldi (.v 2) none, none, false⟩, ⟨.cal F_word_permitted [(.t 0)], none, false⟩, ⟨.not (.t 0), none, false⟩, ⟨.mv (.t 0), none, false⟩], [], [], some (5, 0)⟩
abbrev r_word_Check_2 : Reg := ⟨[⟨.mv (.c (.int (2))), none, false⟩], [(3, 0)], [0, 2], none⟩
abbrev r_word_Check_3 : Reg := ⟨[⟨.mv (.v 0), none, false⟩, ⟨.len (.t 0), none, false⟩, ⟨.bin .gtr (.t 0) (.c (.int (1024))), none, false⟩, ⟨.mv (.t 0), none, false⟩], [], [], some (9, 0)⟩
abbrev r_word_Check_4 : Reg := ⟨[⟨.mv (.c (.int (3))), none, false⟩], [(3, 0)], [0, 2], none⟩
abbrev r_word_Check_5 : Reg := ⟨[⟨.mv (.v 0), none, false⟩, ⟨.mkf F_word_Check_1 [(.v 2)], none, false⟩, ⟨.cal F_slices_ContainsFunc_Sint_int [(.t 1), (.t 0)], none, false⟩, ⟨.mv (.t 0), none, false⟩], [], [0, 2], some (13, 0)⟩
abbrev r_word_Check_6 : Reg := ⟨[⟨.mv (.c (.int (1))), none, false⟩], [(3, 0)], [], none⟩
abbrev r_word_Check_7 : Reg := ⟨[⟨.mv (.c (.int (0))), none, false⟩], [(3, 0)], [], none⟩
abbrev ir_word_Check : Fn := { np := 2, nv := 4, res := [(3, none)], body :=
(.seq (.reg r_word_Check_0)
 (.seq (.block 0 (.seq (.reg r_word_Check_1)
 (.cond 5 (.seq (.reg r_word_Check_2)
 .ret) (.seq (.reg r_word_Check_3)
 (.cond 9 (.seq (.reg r_word_Check_4)
 .ret) (.seq (.reg r_word_Check_5)
 (.cond 13 (.seq (.reg r_word_Check_6)
 .ret) .skip)))))))
 (.seq (.reg r_word_Check_7)
 .ret))) }
/- f39 observe_Answer : 0:o 1:w 2:w 3:o 4:i 5:outs 6:_ 7:_ -/
abbrev r_observe_Answer_0 : Reg := ⟨[⟨.bxi (.v 0), none, false⟩, ⟨.bxi (.v 1), none, false⟩, ⟨.mv (.c (.snil)), none, false⟩, ⟨.mv (.c (.bool false)), none, false⟩], [(3, 3), (2, 2)], [0, 1, 6, 7], none⟩
abbrev r_observe_Answer_1 : Reg := ⟨[⟨.ldi (.v 2) none, none, false⟩, ⟨.len (.t 0), none, false⟩, ⟨.bin .eql (.t 0) (.c (.int (0))), none, false⟩], [], [], some (10, 0)⟩
abbrev r_observe_Answer_2 : Reg := ⟨[⟨.mv (.c (.snil)), none, false⟩, ⟨.mv (.c (.bool true)), none, false⟩], [(6, 1), (7, 0)], [2, 3], none⟩
abbrev r_observe_Answer_3 : Reg := ⟨[⟨.fad (.v 3) 1 none, none, false⟩, ⟨.ldi (.t 0) none, none, false⟩, ⟨.mkf F_observe_Answer_1 [(.v 2)], none, false⟩, ⟨.cal F_slices_IndexFunc_Sapi_Trace_api_Trace [(.t 1), (.t 0)], none, false⟩, ⟨.mv (.t 0), none, false⟩], [(4, 0)], [], none⟩
abbrev r_observe_Answer_4 : Reg := ⟨[⟨.mv (.v 4), none, false⟩, ⟨.bin .lss (.t 0) (.c (.int (0))), none, false⟩], [], [], some (16, 0)⟩
abbrev r_observe_Answer_5 : Reg := ⟨[⟨.mv (.c (.snil)), none, false⟩, ⟨.mv (.c (.bool false)), none, false⟩], [(6, 1), (7, 0)], [2, 3, 4], none⟩
abbrev r_observe_Answer_6 : Reg := ⟨[⟨.fad (.v 3) 1 none, none, false⟩, ⟨.ldi (.t 0) none, none, false⟩, ⟨.mv (.v 4), none, false⟩, ⟨.iad (.t 1) (.t 0) 2, none, false⟩, ⟨.fad (.t 0) 1 none, none, false⟩, ⟨.ldi (.t 0) none, none, false⟩, ⟨.mv (.t 0), none, false⟩], [(5, 0)], [3, 4], none⟩
abbrev r_observe_Answer_7 : Reg := ⟨[⟨.mv (.v 5), none, false⟩, ⟨.ldi (.v 2) none, none, false⟩, ⟨.len (.t 0), none, false⟩, ⟨.mv (.v 5), none, false⟩, ⟨.len (.t 0), none, false⟩, ⟨.mx false (.t 2) (.t 0), none, false⟩, ⟨.slc (.t 5) none (some (.t 0)) 1, none, false⟩, ⟨.cal F_slices_Clone_Sint_int [(.t 0)], none, false⟩, ⟨.mv (.t 0), none, false⟩, ⟨.mv (.c (.bool true)), none, false⟩], [(6, 1), (7, 0)], [2, 5], none⟩
abbrev ir_observe_Answer : Fn := { np := 2, nv := 8, res := [(6, none), (7, none)], body :=
(.seq (.reg r_observe_Answer_0)
 (.seq (.seq (.reg r_observe_Answer_1)
 (.cond 10 (.seq (.reg r_observe_Answer_2)
 .ret) .skip))
 (.seq (.reg r_observe_Answer_3)
 (.seq (.seq (.reg r_observe_Answer_4)
 (.cond 16 (.seq (.reg r_observe_Answer_5)
 .ret) .skip))
 (.seq (.reg r_observe_Answer_6)
 (.seq (.reg r_observe_Answer_7)
 .ret)))))) }
/- f40 wordset_Maximal : 0:l 1:all 2:_ 3:_ 4:_ 5:i 6:w 7:out 8:_ -/
abbrev r_wordset_Maximal_0 : Reg := ⟨[⟨.mv (.c (.snil)), none, false⟩], [], [8], none⟩
abbrev r_wordset_Maximal_1 : Reg := ⟨[⟨.mv (.v 0), none, false⟩, ⟨.cal F_wordset_ordered [(.t 0), (.c (.func F_word_Lex []))], none, false⟩, ⟨.mv (.t 0), none, false⟩], [(1, 0)], [0], none⟩
abbrev r_wordset_Maximal_2 : Reg := ⟨[⟨.nl none, none, false⟩], [(7, 0)], [], none⟩
abbrev r_wordset_Maximal_3 : Reg := ⟨[⟨.mv (.v 1), none, false⟩, ⟨.len (.t 0), none, false⟩, ⟨.mv (.c (.int (0))), none, false⟩], [(4, 2), (3, 1), (2, 0)], [], none⟩
abbrev r_wordset_Maximal_4 : Reg := ⟨[⟨.bin .lss (.v 2) (.v 3), none, false⟩], [], [], some (12, 0)⟩
abbrev r_wordset_Maximal_5 : Reg := ⟨[⟨.mv (.v 2), none, false⟩, ⟨.iad (.v 4) (.v 2) 1, none, false⟩, ⟨.ld (.t 0) none, none, false⟩, ⟨.mv (.t 2), none, false⟩, ⟨.mv (.t 1), none, false⟩], [(5, 1), (6, 0)], [], none⟩
abbrev r_wordset_Maximal_6 : Reg := ⟨[⟨.mv (.v 5), none, false⟩, ⟨.bin .add (.t 0) (.c (.int (1))), none, false⟩, ⟨.mv (.v 1), none, false⟩, ⟨.len (.t 0), none, false⟩, ⟨.bin .eql (.t 2) (.t 0), none, false⟩, ⟨.mv (.t 0), none, false⟩, ⟨.mv (.v 1), some (.t 0, false), false⟩, ⟨.mv (.v 5), some (.t 1, false), false⟩, ⟨.bin .add (.t 0) (.c (.int (1))), some (.t 2, false), false⟩, ⟨.iad (.t 2) (.t 0) 1, some (.t 3, false), false⟩, ⟨.ld (.t 0) none, some (.t 4, false), false⟩, ⟨.mv (.v 6), some (.t 5, false), false⟩, ⟨.cal F_word_HasPrefix [(.t 1), (.t 0)], some (.t 6, false), false⟩, ⟨.not (.t 0), some (.t 7, false), false⟩, ⟨.pick (.t 8) (.c (.bool true)) (.t 0), none, false⟩], [], [5], some (30, 0)⟩
abbrev r_wordset_Maximal_7 : Reg := ⟨[⟨.mv (.v 7), none, false⟩, ⟨.mv (.v 6), none, false⟩, ⟨.lita [(.t 0)] 1, none, false⟩, ⟨.appw (.t 2) (.t 0) none, none, false⟩, ⟨.mv (.t 0), none, false⟩], [(7, 0)], [6], none⟩
abbrev r_wordset_Maximal_8 : Reg := ⟨[⟨.bin .add (.v 2) (.c (.int (1))), none, false⟩, ⟨.mv (.t 0), none, false⟩], [(2, 0)], [6], none⟩
abbrev b_wordset_Maximal_0 : IC := (.seq (.reg r_wordset_Maximal_4)
 (.seq (.cond 12 .skip (.exit 0))
 (.seq (.block 1 (.seq (.reg r_wordset_Maximal_5)
 (.seq (.reg r_wordset_Maximal_6)
 (.cond 30 (.reg r_wordset_Maximal_7) .skip))))
 (.reg r_wordset_Maximal_8))))
abbrev r_wordset_Maximal_9 : Reg := ⟨[⟨.mv (.v 7), none, false⟩, ⟨.cal F_wordset_Sorted [(.t 0)], none, false⟩, ⟨.mv (.t 0), none, false⟩], [(8, 0)], [1, 2, 3, 4, 7], none⟩
abbrev ir_wordset_Maximal : Fn := { np := 1, nv := 9, res := [(8, none)], body :=
(.seq (.reg r_wordset_Maximal_0)
 (.seq (.reg r_wordset_Maximal_1)
 (.seq (.reg r_wordset_Maximal_2)
 (.seq (.seq (.reg r_wordset_Maximal_3)
 (.seq (.block 0 (.loop b_wordset_Maximal_0)) (.frz 7)))
 (.seq (.reg r_wordset_Maximal_9)
 .ret))))) }
/- f41 ref20_check : 0:words 1:inputs 2:i 3:e 4:_ -/
abbrev r_ref20_check_0 : Reg := ⟨[⟨.mv (.c (.int (0))), none, false⟩], [], [4], none⟩
abbrev r_ref20_check_1 : Reg := ⟨[⟨.mv (.c (.int (0))), none, false⟩], [(2, 0)], [], none⟩
abbrev r_ref20_check_2 : Reg := ⟨[⟨.mv (.v 2), none, false⟩, ⟨.mv (.v 0), none, false⟩, ⟨.len (.t 0), none, false⟩, ⟨.bin .lss (.t 2) (.t 0), none, false⟩], [], [], some (10, 0)⟩
abbrev r_ref20_check_4 : Reg := ⟨[⟨.mv (.v 0), none, false⟩, ⟨.mv (.v 2), none, false⟩, ⟨.iad (.t 1) (.t 0) 1, none, false⟩, ⟨.ld (.t 0) none, none, false⟩, ⟨.mv (.v 1), none, false⟩, ⟨.cal F_ref01_Check [(.t 1), (.t 0)], none, false⟩, ⟨.mv (.t 0), none, false⟩], [(3, 0)], [], none⟩
abbrev r_ref20_check_5 : Reg := ⟨[⟨.mv (.v 3), none, false⟩, ⟨.bin .neq (.t 0) (.c (.int (0))), none, false⟩], [], [], some (20, 0)⟩
abbrev r_ref20_check_6 : Reg := ⟨[⟨.mv (.v 3), none, false⟩, ⟨.mv (.t 0), none, false⟩], [(4, 0)], [0, 1, 2, 3], none⟩
abbrev r_ref20_check_3 : Reg := ⟨[⟨.mv (.v 2), none, false⟩, ⟨.bin .add (.t 0) (.c (.int (1))), none, false⟩, ⟨.mv (.t 0), none, false⟩], [(2, 0)], [3], none⟩
abbrev b_ref20_check_0 : IC := (.seq (.seq (.reg r_ref20_check_2)
 (.cond 10 .skip (.exit 0)))
 (.seq (.block 1 (.seq (.reg r_ref20_check_4)
 (.seq (.reg r_ref20_check_5)
 (.cond 20 (.seq (.reg r_ref20_check_6)
 .ret) .skip))))
 (.reg r_ref20_check_3)))
abbrev r_ref20_check_7 : Reg := ⟨[⟨.mv (.c (.int (0))), none, false⟩], [(4, 0)], [0, 1, 2], none⟩
abbrev ir_ref20_check : Fn := { np := 2, nv := 5, res := [(4, none)], body :=
(.seq (.reg r_ref20_check_0)
 (.seq (.seq (.reg r_ref20_check_1)
 (.block 0 (.loop b_ref20_check_0)))
 (.seq (.reg r_ref20_check_7)
 .ret))) }
/- f42 device_Cost : 0:l 1:w 2:l 3:e 4:e 5:_ 6:_ 7:_ 8:sum 9:a 10:_ 11:_ -/
abbrev r_device_Cost_0 : Reg := ⟨[⟨.bxi (.v 0), none, false⟩, ⟨.mv (.c (.int (0))), none, false⟩, ⟨.mv (.c (.int (0))), none, false⟩], [(2, 2)], [0, 10, 11], none⟩
abbrev r_device_Cost_1 : Reg := ⟨[⟨.fad (.v 2) 0 none, none, false⟩, ⟨.ldi (.t 0) none, none, false⟩, ⟨.len (.t 0), none, false⟩, ⟨.bin .lss (.t 0) (.c (.int (1))), none, false⟩, ⟨.mv (.t 0), none, false⟩, ⟨.fad (.v 2) 0 none, some (.t 0, false), false⟩, ⟨.ldi (.t 0) none, some (.t 1, false), false⟩, ⟨.len (.t 0), some (.t 2, false), false⟩, ⟨.bin .gtr (.t 0) (.c (.int (64))), some (.t 3, false), false⟩, ⟨.pick (.t 4) (.c (.bool true)) (.t 0), none, false⟩], [], [], some (20, 0)⟩
abbrev r_device_Cost_2 : Reg := ⟨[⟨.mv (.c (.int (0))), none, false⟩, ⟨.mv (.c (.int (2))), none, false⟩], [(10, 1), (11, 0)], [1, 2], none⟩
abbrev r_device_Cost_3 : Reg := ⟨[⟨.ldi (.v 2) (some 2), none, false⟩, ⟨.cal F_device_costs [(.t 0)], none, false⟩, ⟨.mv (.t 0), none, false⟩], [(3, 0)], [], none⟩
abbrev r_device_Cost_4 : Reg := ⟨[⟨.mv (.v 3), none, false⟩, ⟨.bin .neq (.t 0) (.c (.int (0))), none, false⟩], [], [], some (24, 0)⟩
abbrev r_device_Cost_5 : Reg := ⟨[⟨.mv (.v 3), none, false⟩, ⟨.mv (.c (.int (0))), none, false⟩, ⟨.mv (.t 1), none, false⟩], [(10, 1), (11, 0)], [1, 2, 3], none⟩
abbrev r_device_Cost_6 : Reg := ⟨[⟨.mv (.v 1), none, false⟩, ⟨.fad (.v 2) 0 none, none, false⟩, ⟨.ldi (.t 0) none, none, false⟩, ⟨.len (.t 0), none, false⟩, ⟨.cal F_word_Check [(.t 3), (.t 0)], none, false⟩, ⟨.mv (.t 0), none, false⟩], [(4, 0)], [3], none⟩
abbrev r_device_Cost_7 : Reg := ⟨[⟨.mv (.v 4), none, false⟩, ⟨.bin .neq (.t 0) (.c (.int (0))), none, false⟩], [], [], some (32, 0)⟩
abbrev r_device_Cost_8 : Reg := ⟨[⟨.mv (.v 4), none, false⟩, ⟨.mv (.c (.int (0))), none, false⟩, ⟨.mv (.t 1), none, false⟩], [(10, 1), (11, 0)], [1, 2, 4], none⟩
abbrev r_device_Cost_9 : Reg := ⟨[⟨.fad (.v 2) 1 none, none, false⟩, ⟨.ldi (.t 0) none, none, false⟩, ⟨.mv (.t 0), none, false⟩], [(8, 0)], [4], none⟩
abbrev r_device_Cost_10 : Reg := ⟨[⟨.mv (.v 1), none, false⟩, ⟨.len (.t 0), none, false⟩, ⟨.mv (.c (.int (0))), none, false⟩], [(7, 2), (6, 1), (5, 0)], [1], none⟩
abbrev r_device_Cost_11 : Reg := ⟨[⟨.bin .lss (.v 5) (.v 6), none, false⟩], [], [], some (39, 0)⟩
abbrev r_device_Cost_12 : Reg := ⟨[⟨.iad (.v 7) (.v 5) 1, none, false⟩, ⟨.ld (.t 0) none, none, false⟩, ⟨.mv (.t 0), none, false⟩], [(9, 0)], [], none⟩
abbrev r_device_Cost_13 : Reg := ⟨[⟨.mv (.v 8), none, false⟩, ⟨.fad (.v 2) 0 none, none, false⟩, ⟨.ldi (.t 0) none, none, false⟩, ⟨.mv (.v 9), none, false⟩, ⟨.iad (.t 1) (.t 0) 1, none, false⟩, ⟨.ldi (.t 0) none, none, false⟩, ⟨.bin .add (.t 5) (.t 0), none, false⟩, ⟨.mv (.t 0), none, false⟩], [(8, 0)], [9], none⟩
abbrev r_device_Cost_14 : Reg := ⟨[⟨.bin .add (.v 5) (.c (.int (1))), none, false⟩, ⟨.mv (.t 0), none, false⟩], [(5, 0)], [], none⟩
abbrev b_device_Cost_0 : IC := (.seq (.reg r_device_Cost_11)
 (.seq (.cond 39 .skip (.exit 0))
 (.seq (.block 1 (.seq (.reg r_device_Cost_12)
 (.reg r_device_Cost_13)))
 (.reg r_device_Cost_14))))
abbrev r_device_Cost_15 : Reg := ⟨[⟨.mv (.v 8), none, false⟩, ⟨.mv (.t 0), none, false⟩, ⟨.mv (.c (.int (0))), none, false⟩], [(10, 1), (11, 0)], [2, 5, 6, 7, 8], none⟩
abbrev ir_device_Cost : Fn := { np := 2, nv := 12, res := [(10, none), (11, none)], body :=
(.seq (.reg r_device_Cost_0)
 (.seq (.seq (.reg r_device_Cost_1)
 (.cond 20 (.seq (.reg r_device_Cost_2)
 .ret) .skip))
 (.seq (.seq (.reg r_device_Cost_3)
 (.seq (.reg r_device_Cost_4)
 (.cond 24 (.seq (.reg r_device_Cost_5)
 .ret) .skip)))
 (.seq (.seq (.reg r_device_Cost_6)
 (.seq (.reg r_device_Cost_7)
 (.cond 32 (.seq (.reg r_device_Cost_8)
 .ret) .skip)))
 (.seq (.reg r_device_Cost_9)
 (.seq (.seq (.reg r_device_Cost_10)
 (.block 0 (.loop b_device_Cost_0)))
 (.seq (.reg r_device_Cost_15)
 .ret))))))) }
/- f43 ref19_Cost : 0:l 1:w 2:l 3:e 4:i 5:n 6:_ 7:_ -/
abbrev r_ref19_Cost_0 : Reg := ⟨[⟨.bxi (.v 0), none, false⟩, ⟨.mv (.c (.int (0))), none, false⟩, ⟨.mv (.c (.int (0))), none, false⟩], [(2, 2)], [0, 6, 7], none⟩
abbrev r_ref19_Cost_1 : Reg := ⟨[⟨.fad (.v 2) 0 none, none, false⟩, ⟨.ldi (.t 0) none, none, false⟩, ⟨.len (.t 0), none, false⟩, ⟨.bin .lss (.t 0) (.c (.int (1))), none, false⟩, ⟨.mv (.t 0), none, false⟩, ⟨.fad (.v 2) 0 none, some (.t 0, false), false⟩, ⟨.ldi (.t 0) none, some (.t 1, false), false⟩, ⟨.len (.t 0), some (.t 2, false), false⟩, ⟨.bin .gtr (.t 0) (.c (.int (64))), some (.t 3, false), false⟩, ⟨.pick (.t 4) (.c (.bool true)) (.t 0), none, false⟩, ⟨.mv (.t 0), none, false⟩, ⟨.ldi (.v 2) (some 2), some (.t 0, false), false⟩, ⟨.cal F_ref19_costs [(.t 0)], some (.t 1, false), false⟩, ⟨.not (.t 0), some (.t 2, false), false⟩, ⟨.pick (.t 3) (.c (.bool true)) (.t 0), none, false⟩], [], [], some (23, 0)⟩
abbrev r_ref19_Cost_2 : Reg := ⟨[⟨.mv (.c (.int (0))), none, false⟩, ⟨.mv (.c (.int (2))), none, false⟩], [(6, 1), (7, 0)], [1, 2], none⟩
abbrev r_ref19_Cost_3 : Reg := ⟨[⟨.mv (.v 1), none, false⟩, ⟨.fad (.v 2) 0 none, none, false⟩, ⟨.ldi (.t 0) none, none, false⟩, ⟨.len (.t 0), none, false⟩, ⟨.cal F_ref01_Check [(.t 3), (.t 0)], none, false⟩, ⟨.mv (.t 0), none, false⟩], [(3, 0)], [], none⟩
abbrev r_ref19_Cost_4 : Reg := ⟨[⟨.mv (.v 3), none, false⟩, ⟨.bin .neq (.t 0) (.c (.int (0))), none, false⟩], [], [], some (30, 0)⟩
abbrev r_ref19_Cost_5 : Reg := ⟨[⟨.mv (.v 3), none, false⟩, ⟨.mv (.c (.int (0))), none, false⟩, ⟨.mv (.t 1), none, false⟩], [(6, 1), (7, 0)], [1, 2, 3], none⟩
abbrev r_ref19_Cost_6 : Reg := ⟨[⟨.fad (.v 2) 1 none, none, false⟩, ⟨.ldi (.t 0) none, none, false⟩, ⟨.mv (.t 0), none, false⟩], [(5, 0)], [3], none⟩
abbrev r_ref19_Cost_7 : Reg := ⟨[⟨.mv (.c (.int (0))), none, false⟩], [(4, 0)], [], none⟩
abbrev r_ref19_Cost_8 : Reg := ⟨[⟨.mv (.v 4), none, false⟩, ⟨.mv (.v 1), none, false⟩, ⟨.len (.t 0), none, false⟩, ⟨.bin .lss (.t 2) (.t 0), none, false⟩], [], [], some (37, 0)⟩
abbrev r_ref19_Cost_10 : Reg := ⟨[⟨.mv (.v 5), none, false⟩, ⟨.fad (.v 2) 0 none, none, false⟩, ⟨.ldi (.t 0) none, none, false⟩, ⟨.mv (.v 1), none, false⟩, ⟨.mv (.v 4), none, false⟩, ⟨.iad (.t 1) (.t 0) 1, none, false⟩, ⟨.ld (.t 0) none, none, false⟩, ⟨.iad (.t 4) (.t 0) 1, none, false⟩, ⟨.ldi (.t 0) none, none, false⟩, ⟨.bin .add (.t 8) (.t 0), none, false⟩, ⟨.mv (.t 0), none, false⟩], [(5, 0)], [], none⟩
abbrev r_ref19_Cost_9 : Reg := ⟨[⟨.mv (.v 4), none, false⟩, ⟨.bin .add (.t 0) (.c (.int (1))), none, false⟩, ⟨.mv (.t 0), none, false⟩], [(4, 0)], [], none⟩
abbrev b_ref19_Cost_0 : IC := (.seq (.seq (.reg r_ref19_Cost_8)
 (.cond 37 .skip (.exit 0)))
 (.seq (.block 1 (.reg r_ref19_Cost_10))
 (.reg r_ref19_Cost_9)))
abbrev r_ref19_Cost_11 : Reg := ⟨[⟨.mv (.v 5), none, false⟩, ⟨.mv (.t 0), none, false⟩, ⟨.mv (.c (.int (0))), none, false⟩], [(6, 1), (7, 0)], [1, 2, 4, 5], none⟩
abbrev ir_ref19_Cost : Fn := { np := 2, nv := 8, res := [(6, none), (7, none)], body :=
(.seq (.reg r_ref19_Cost_0)
 (.seq (.seq (.reg r_ref19_Cost_1)
 (.cond 23 (.seq (.reg r_ref19_Cost_2)
 .ret) .skip))
 (.seq (.reg r_ref19_Cost_3)
 (.seq (.seq (.reg r_ref19_Cost_4)
 (.cond 30 (.seq (.reg r_ref19_Cost_5)
 .ret) .skip))
 (.seq (.reg r_ref19_Cost_6)
 (.seq (.seq (.reg r_ref19_Cost_7)
 (.block 0 (.loop b_ref19_Cost_0)))
 (.seq (.reg r_ref19_Cost_11)
 .ret))))))) }
/- f44 word_Join : 0:parts 1:_ -/
abbrev r_word_Join_0 : Reg := ⟨[⟨.mv (.c (.snil)), none, false⟩], [], [1], none⟩
abbrev r_word_Join_1 : Reg := ⟨[⟨.mv (.v 0), none, false⟩, ⟨.cal F_slices_Concat_Sint_int [(.t 0)], none, false⟩, ⟨.mv (.t 0), none, false⟩], [(1, 0)], [0], none⟩
abbrev ir_word_Join : Fn := { np := 1, nv := 2, res := [(1, none)], body :=
(.seq (.reg r_word_Join_0)
 (.seq (.reg r_word_Join_1)
 .ret)) }
/- f45 batch_first : 0:words 1:most 2:k 3:n 4:_ -/
abbrev r_batch_first_0 : Reg := ⟨[⟨.mv (.c (.int (0))), none, false⟩], [], [4], none⟩
abbrev r_batch_first_1 : Reg := ⟨[⟨.mv (.v 0), none, false⟩, ⟨.iad (.t 0) (.c (.int (0))) 1, none, false⟩, ⟨.ld (.t 0) none, none, false⟩, ⟨.len (.t 0), none, false⟩, ⟨.mv (.t 0), none, false⟩, ⟨.mv (.c (.int (1))), none, false⟩], [(3, 1), (2, 0)], [], none⟩
abbrev r_batch_first_2 : Reg := ⟨[⟨.mv (.v 2), none, false⟩, ⟨.mv (.v 0), none, false⟩, ⟨.len (.t 0), none, false⟩, ⟨.bin .lss (.t 2) (.t 0), none, false⟩, ⟨.mv (.t 0), none, false⟩, ⟨.mv (.v 0), some (.t 0, true), false⟩, ⟨.mv (.v 2), some (.t 1, true), false⟩, ⟨.iad (.t 1) (.t 0) 1, some (.t 2, true), false⟩, ⟨.ld (.t 0) none, some (.t 3, true), false⟩, ⟨.len (.t 0), some (.t 4, true), false⟩, ⟨.mv (.v 1), some (.t 5, true), false⟩, ⟨.mv (.v 3), some (.t 6, true), false⟩, ⟨.bin .sub (.t 1) (.t 0), some (.t 7, true), false⟩, ⟨.bin .leq (.t 3) (.t 0), some (.t 8, true), false⟩, ⟨.pick (.t 9) (.t 0) (.c (.bool false)), none, false⟩], [], [], some (25, 0)⟩
abbrev r_batch_first_3 : Reg := ⟨[⟨.mv (.v 3), none, false⟩, ⟨.mv (.v 0), none, false⟩, ⟨.mv (.v 2), none, false⟩, ⟨.iad (.t 1) (.t 0) 1, none, false⟩, ⟨.ld (.t 0) none, none, false⟩, ⟨.len (.t 0), none, false⟩, ⟨.bin .add (.t 5) (.t 0), none, false⟩, ⟨.mv (.t 0), none, false⟩], [(3, 0)], [], none⟩
abbrev r_batch_first_4 : Reg := ⟨[⟨.mv (.v 2), none, false⟩, ⟨.bin .add (.t 0) (.c (.int (1))), none, false⟩, ⟨.mv (.t 0), none, false⟩], [(2, 0)], [], none⟩
abbrev b_batch_first_0 : IC := (.seq (.seq (.reg r_batch_first_2)
 (.cond 25 .skip (.exit 0)))
 (.block 1 (.seq (.reg r_batch_first_3)
 (.reg r_batch_first_4))))
abbrev r_batch_first_5 : Reg := ⟨[⟨.mv (.v 2), none, false⟩, ⟨.mv (.t 0), none, false⟩], [(4, 0)], [0, 1, 2, 3], none⟩
abbrev ir_batch_first : Fn := { np := 2, nv := 5, res := [(4, none)], body :=
(.seq (.reg r_batch_first_0)
 (.seq (.reg r_batch_first_1)
 (.seq (.block 0 (.loop b_batch_first_0))
 (.seq (.reg r_batch_first_5)
 .ret)))) }
/- f46 mealy_Valid : 0:m 1:m 2:n 3:_ 4:_ 5:s 6:_ 7:_ 8:a 9:t 10:o 11:_ -/
abbrev r_mealy_Valid_0 : Reg := ⟨[⟨.bxi (.v 0), none, false⟩, ⟨.mv (.c (.int (0))), none, false⟩], [(1, 1)], [0, 11], none⟩
abbrev r_mealy_Valid_1 : Reg := ⟨[⟨.fad (.v 1) 2 none, none, false⟩, ⟨.ldi (.t 0) none, none, false⟩, ⟨.len (.t 0), none, false⟩, ⟨.mv (.t 0), none, false⟩], [(2, 0)], [], none⟩
abbrev r_mealy_Valid_2 : Reg := ⟨[⟨.fad (.v 1) 0 none, none, false⟩, ⟨.ldi (.t 0) none, none, false⟩, ⟨.bin .lss (.t 0) (.c (.int (1))), none, false⟩, ⟨.mv (.t 0), none, false⟩, ⟨.fad (.v 1) 0 none, some (.t 0, false), false⟩, ⟨.ldi (.t 0) none, some (.t 1, false), false⟩, ⟨.bin .gtr (.t 0) (.c (.int (64))), some (.t 2, false), false⟩, ⟨.pick (.t 3) (.c (.bool true)) (.t 0), none, false⟩, ⟨.mv (.t 0), none, false⟩], [], [], some (11, 0)⟩
abbrev r_mealy_Valid_3 : Reg := ⟨[⟨.mv (.c (.int (2))), none, false⟩], [(11, 0)], [1, 2], none⟩
abbrev r_mealy_Valid_4 : Reg := ⟨[⟨.mv (.v 2), none, false⟩, ⟨.bin .eql (.t 0) (.c (.int (0))), none, false⟩, ⟨.mv (.t 0), none, false⟩], [], [], some (20, 0)⟩
abbrev r_mealy_Valid_5 : Reg := ⟨[⟨.mv (.c (.int (19))), none, false⟩], [(11, 0)], [1, 2], none⟩
abbrev r_mealy_Valid_6 : Reg := ⟨[⟨.mv (.v 2), none, false⟩, ⟨.bin .gtr (.t 0) (.c (.int (128))), none, false⟩, ⟨.mv (.t 0), none, false⟩], [], [], some (23, 0)⟩
abbrev r_mealy_Valid_7 : Reg := ⟨[⟨.mv (.c (.int (11))), none, false⟩], [(11, 0)], [1, 2], none⟩
abbrev r_mealy_Valid_8 : Reg := ⟨[⟨.fad (.v 1) 1 none, none, false⟩, ⟨.ldi (.t 0) none, none, false⟩, ⟨.bin .lss (.t 0) (.c (.int (0))), none, false⟩, ⟨.mv (.t 0), none, false⟩, ⟨.fad (.v 1) 1 none, some (.t 0, false), false⟩, ⟨.ldi (.t 0) none, some (.t 1, false), false⟩, ⟨.mv (.v 2), some (.t 2, false), false⟩, ⟨.bin .geq (.t 1) (.t 0), some (.t 3, false), false⟩, ⟨.pick (.t 4) (.c (.bool true)) (.t 0), none, false⟩, ⟨.mv (.t 0), none, false⟩], [], [], some (26, 0)⟩
abbrev r_mealy_Valid_9 : Reg := ⟨[⟨.mv (.c (.int (2))), none, false⟩], [(11, 0)], [1, 2], none⟩
abbrev r_mealy_Valid_10 : Reg := ⟨[⟨.fad (.v 1) 3 none, none, false⟩, ⟨.ldi (.t 0) none, none, false⟩, ⟨.len (.t 0), none, false⟩, ⟨.mv (.v 2), none, false⟩, ⟨.bin .neq (.t 1) (.t 0), none, false⟩, ⟨.mv (.t 0), none, false⟩], [], [], some (36, 0)⟩
abbrev r_mealy_Valid_11 : Reg := ⟨[⟨.mv (.c (.int (1))), none, false⟩], [(11, 0)], [1, 2], none⟩
abbrev r_mealy_Valid_12 : Reg := ⟨[⟨.mv (.v 2), none, false⟩, ⟨.mv (.c (.int (0))), none, false⟩], [(4, 1), (3, 0)], [], none⟩
abbrev r_mealy_Valid_13 : Reg := ⟨[⟨.bin .lss (.v 3) (.v 4), none, false⟩], [], [], some (44, 0)⟩
abbrev r_mealy_Valid_14 : Reg := ⟨[⟨.mv (.v 3), none, false⟩, ⟨.mv (.t 0), none, false⟩], [(5, 0)], [], none⟩
abbrev r_mealy_Valid_15 : Reg := ⟨[⟨.fad (.v 1) 2 none, none, false⟩, ⟨.ldi (.t 0) none, none, false⟩, ⟨.mv (.v 5), none, false⟩, ⟨.iad (.t 1) (.t 0) 1, none, false⟩, ⟨.ldi (.t 0) none, none, false⟩, ⟨.len (.t 0), none, false⟩, ⟨.fad (.v 1) 0 none, none, false⟩, ⟨.ldi (.t 0) none, none, false⟩, ⟨.bin .neq (.t 2) (.t 0), none, false⟩, ⟨.mv (.t 0), none, false⟩, ⟨.fad (.v 1) 3 none, some (.t 0, false), false⟩, ⟨.ldi (.t 0) none, some (.t 1, false), false⟩, ⟨.mv (.v 5), some (.t 2, false), false⟩, ⟨.iad (.t 1) (.t 0) 1, some (.t 3, false), false⟩, ⟨.ldi (.t 0) none, some (.t 4, false), false⟩, ⟨.len (.t 0), some (.t 5, false), false⟩, ⟨.fad (.v 1) 0 none, some (.t 6, false), false⟩, ⟨.ldi (.t 0) none, some (.t 7, false), false⟩, ⟨.bin .neq (.t 2) (.t 0), some (.t 8, false), false⟩, ⟨.pick (.t 9) (.c (.bool true)) (.t 0), none, false⟩], [], [], some (65, 0)⟩
abbrev r_mealy_Valid_16 : Reg := ⟨[⟨.mv (.c (.int (1))), none, false⟩], [(11, 0)], [1, 2, 3, 4, 5], none⟩
abbrev r_mealy_Valid_17 : Reg := ⟨[⟨.fad (.v 1) 0 none, none, false⟩, ⟨.ldi (.t 0) none, none, false⟩, ⟨.mv (.c (.int (0))), none, false⟩], [(7, 1), (6, 0)], [], none⟩
abbrev r_mealy_Valid_18 : Reg := ⟨[⟨.bin .lss (.v 6) (.v 7), none, false⟩], [], [], some (69, 0)⟩
abbrev r_mealy_Valid_19 : Reg := ⟨[⟨.mv (.v 6), none, false⟩, ⟨.mv (.t 0), none, false⟩], [(8, 0)], [], none⟩
abbrev r_mealy_Valid_20 : Reg := ⟨[⟨.fad (.v 1) 2 none, none, false⟩, ⟨.ldi (.t 0) none, none, false⟩, ⟨.mv (.v 5), none, false⟩, ⟨.iad (.t 1) (.t 0) 1, none, false⟩, ⟨.ldi (.t 0) none, none, false⟩, ⟨.mv (.v 8), none, false⟩, ⟨.iad (.t 1) (.t 0) 1, none, false⟩, ⟨.ldi (.t 0) none, none, false⟩, ⟨.fad (.v 1) 3 none, none, false⟩, ⟨.ldi (.t 0) none, none, false⟩, ⟨.mv (.v 5), none, false⟩, ⟨.iad (.t 1) (.t 0) 1, none, false⟩, ⟨.ldi (.t 0) none, none, false⟩, ⟨.mv (.v 8), none, false⟩, ⟨.iad (.t 1) (.t 0) 1, none, false⟩, ⟨.ldi (.t 0) none, none, false⟩, ⟨.mv (.t 8), none, false⟩, ⟨.mv (.t 1), none, false⟩], [(9, 1), (10, 0)], [8], none⟩
abbrev r_mealy_Valid_21 : Reg := ⟨[⟨.mv (.v 9), none, false⟩, ⟨.bin .lss (.t 0) (.c (.int (0))), none, false⟩, ⟨.mv (.t 0), none, false⟩, ⟨.mv (.v 9), some (.t 0, false), false⟩, ⟨.mv (.v 2), some (.t 1, false), false⟩, ⟨.bin .geq (.t 1) (.t 0), some (.t 2, false), false⟩, ⟨.pick (.t 3) (.c (.bool true)) (.t 0), none, false⟩, ⟨.mv (.t 0), none, false⟩, ⟨.mv (.v 10), some (.t 0, false), false⟩, ⟨.bin .lss (.t 0) (.c (.int (0))), some (.t 1, false), false⟩, ⟨.pick (.t 2) (.c (.bool true)) (.t 0), none, false⟩, ⟨.mv (.t 0), none, false⟩, ⟨.mv (.v 10), some (.t 0, false), false⟩, ⟨.bin .gtr (.t 0) (.c (.int (1048576))), some (.t 1, false), false⟩, ⟨.pick (.t 2) (.c (.bool true)) (.t 0), none, false⟩], [], [9, 10], some (101, 0)⟩
abbrev r_mealy_Valid_22 : Reg := ⟨[⟨.mv (.c (.int (2))), none, false⟩], [(11, 0)], [1, 2, 3, 4, 5, 6, 7], none⟩
abbrev r_mealy_Valid_23 : Reg := ⟨[⟨.bin .add (.v 6) (.c (.int (1))), none, false⟩, ⟨.mv (.t 0), none, false⟩], [(6, 0)], [], none⟩
abbrev b_mealy_Valid_3 : IC := (.seq (.reg r_mealy_Valid_18)
 (.seq (.cond 69 .skip (.exit 3))
 (.seq (.block 4 (.seq (.reg r_mealy_Valid_19)
 (.seq (.reg r_mealy_Valid_20)
 (.seq (.reg r_mealy_Valid_21)
 (.cond 101 (.seq (.reg r_mealy_Valid_22)
 .ret) .skip)))))
 (.reg r_mealy_Valid_23))))
abbrev r_mealy_Valid_24 : Reg := ⟨[⟨.bin .add (.v 3) (.c (.int (1))), none, false⟩, ⟨.mv (.t 0), none, false⟩], [(3, 0)], [5, 6, 7], none⟩
abbrev b_mealy_Valid_1 : IC := (.seq (.reg r_mealy_Valid_13)
 (.seq (.cond 44 .skip (.exit 1))
 (.seq (.block 2 (.seq (.reg r_mealy_Valid_14)
 (.seq (.seq (.reg r_mealy_Valid_15)
 (.cond 65 (.seq (.reg r_mealy_Valid_16)
 .ret) .skip))
 (.seq (.reg r_mealy_Valid_17)
 (.block 3 (.loop b_mealy_Valid_3))))))
 (.reg r_mealy_Valid_24))))
abbrev r_mealy_Valid_25 : Reg := ⟨[⟨.mv (.c (.int (0))), none, false⟩], [(11, 0)], [1, 2, 3, 4], none⟩
abbrev ir_mealy_Valid : Fn := { np := 1, nv := 12, res := [(11, none)], body :=
(.seq (.reg r_mealy_Valid_0)
 (.seq (.reg r_mealy_Valid_1)
 (.seq (.block 0 (.seq (.reg r_mealy_Valid_2)
 (.cond 11 (.seq (.reg r_mealy_Valid_3)
 .ret) (.seq (.reg r_mealy_Valid_4)
 (.cond 20 (.seq (.reg r_mealy_Valid_5)
 .ret) (.seq (.reg r_mealy_Valid_6)
 (.cond 23 (.seq (.reg r_mealy_Valid_7)
 .ret) (.seq (.reg r_mealy_Valid_8)
 (.cond 26 (.seq (.reg r_mealy_Valid_9)
 .ret) (.seq (.reg r_mealy_Valid_10)
 (.cond 36 (.seq (.reg r_mealy_Valid_11)
 .ret) .skip)))))))))))
 (.seq (.seq (.reg r_mealy_Valid_12)
 (.block 1 (.loop b_mealy_Valid_1)))
 (.seq (.reg r_mealy_Valid_25)
 .ret))))) }
/- f47 batch_fits : 0:m 1:l 2:l 3:m 4:wrong 5:_ -/
abbrev r_batch_fits_0 : Reg := ⟨[⟨.bxi (.v 0), none, false⟩, ⟨.bxi (.v 1), none, false⟩, ⟨.mv (.c (.int (0))), none, false⟩], [(3, 2), (2, 1)], [0, 1, 5], none⟩
abbrev r_batch_fits_1 : Reg := ⟨[⟨.fad (.v 2) 0 none, none, false⟩, ⟨.ldi (.t 0) none, none, false⟩, ⟨.len (.t 0), none, false⟩, ⟨.fad (.v 3) 0 none, none, false⟩, ⟨.ldi (.t 0) none, none, false⟩, ⟨.bin .neq (.t 2) (.t 0), none, false⟩], [], [3], some (11, 0)⟩
abbrev r_batch_fits_2 : Reg := ⟨[⟨.mv (.c (.int (1))), none, false⟩], [(5, 0)], [2], none⟩
abbrev r_batch_fits_3 : Reg := ⟨[⟨.mv (.c (.func F_batch_fits_1 [])), none, false⟩], [(4, 0)], [], none⟩
abbrev r_batch_fits_4 : Reg := ⟨[⟨.mv (.v 4), none, false⟩, ⟨.fad (.v 2) 1 none, none, false⟩, ⟨.ldi (.t 0) none, none, false⟩, ⟨.cald (.t 2) [(.t 0)], none, false⟩, ⟨.mv (.t 0), none, false⟩, ⟨.fad (.v 2) 0 none, some (.t 0, false), false⟩, ⟨.ldi (.t 0) none, some (.t 1, false), false⟩, ⟨.mv (.v 4), some (.t 2, false), false⟩, ⟨.cal F_slices_ContainsFunc_Sint_int [(.t 1), (.t 0)], some (.t 3, false), false⟩, ⟨.pick (.t 4) (.c (.bool true)) (.t 0), none, false⟩], [], [2, 4], some (21, 0)⟩
abbrev r_batch_fits_5 : Reg := ⟨[⟨.mv (.c (.int (2))), none, false⟩], [(5, 0)], [], none⟩
abbrev r_batch_fits_6 : Reg := ⟨[⟨.mv (.c (.int (0))), none, false⟩], [(5, 0)], [], none⟩
abbrev ir_batch_fits : Fn := { np := 2, nv := 6, res := [(5, none)], body :=
(.seq (.reg r_batch_fits_0)
 (.seq (.seq (.reg r_batch_fits_1)
 (.cond 11 (.seq (.reg r_batch_fits_2)
 .ret) .skip))
 (.seq (.reg r_batch_fits_3)
 (.seq (.seq (.reg r_batch_fits_4)
 (.cond 21 (.seq (.reg r_batch_fits_5)
 .ret) .skip))
 (.seq (.reg r_batch_fits_6)
 .ret))))) }
/- f48 cover_Path : 0:m 1:s 2:t 3:m 4:e 5:_ 6:_ 7:_ 8:p 9:_ 10:_ 11:_ -/
abbrev r_cover_Path_0 : Reg := ⟨[⟨.bxi (.v 0), none, false⟩, ⟨.mv (.c (.snil)), none, false⟩, ⟨.mv (.c (.bool false)), none, false⟩, ⟨.mv (.c (.int (0))), none, false⟩], [(3, 3)], [0, 9, 10, 11], none⟩
abbrev r_cover_Path_1 : Reg := ⟨[⟨.ldi (.v 3) (some 4), none, false⟩, ⟨.cal F_mealy_Valid [(.t 0)], none, false⟩, ⟨.mv (.t 0), none, false⟩], [(4, 0)], [], none⟩
abbrev r_cover_Path_2 : Reg := ⟨[⟨.mv (.v 4), none, false⟩, ⟨.bin .neq (.t 0) (.c (.int (0))), none, false⟩], [], [], some (15, 0)⟩
abbrev r_cover_Path_3 : Reg := ⟨[⟨.mv (.v 4), none, false⟩, ⟨.mv (.c (.snil)), none, false⟩, ⟨.mv (.c (.bool false)), none, false⟩, ⟨.mv (.t 2), none, false⟩], [(9, 2), (10, 1), (11, 0)], [1, 2, 3, 4], none⟩
abbrev r_cover_Path_4 : Reg := ⟨[⟨.mv (.v 1), none, false⟩, ⟨.bin .lss (.t 0) (.c (.int (0))), none, false⟩, ⟨.mv (.t 0), none, false⟩, ⟨.mv (.v 1), some (.t 0, false), false⟩, ⟨.fad (.v 3) 2 none, some (.t 1, false), false⟩, ⟨.ldi (.t 0) none, some (.t 2, false), false⟩, ⟨.len (.t 0), some (.t 3, false), false⟩, ⟨.bin .geq (.t 3) (.t 0), some (.t 4, false), false⟩, ⟨.pick (.t 5) (.c (.bool true)) (.t 0), none, false⟩, ⟨.mv (.t 0), none, false⟩, ⟨.mv (.v 2), some (.t 0, false), false⟩, ⟨.bin .lss (.t 0) (.c (.int (0))), some (.t 1, false), false⟩, ⟨.pick (.t 2) (.c (.bool true)) (.t 0), none, false⟩, ⟨.mv (.t 0), none, false⟩, ⟨.mv (.v 2), some (.t 0, false), false⟩, ⟨.fad (.v 3) 2 none, some (.t 1, false), false⟩, ⟨.ldi (.t 0) none, some (.t 2, false), false⟩, ⟨.len (.t 0), some (.t 3, false), false⟩, ⟨.bin .geq (.t 3) (.t 0), some (.t 4, false), false⟩, ⟨.pick (.t 5) (.c (.bool true)) (.t 0), none, false⟩], [], [4], some (36, 0)⟩
abbrev r_cover_Path_5 : Reg := ⟨[⟨.mv (.c (.snil)), none, false⟩, ⟨.mv (.c (.bool false)), none, false⟩, ⟨.mv (.c (.int (2))), none, false⟩], [(9, 2), (10, 1), (11, 0)], [1, 2, 3], none⟩
abbrev r_cover_Path_6 : Reg := ⟨[⟨.ldi (.v 3) (some 4), none, false⟩, ⟨.mv (.v 1), none, false⟩, ⟨.cal F_cover_places [(.t 1), (.t 0)], none, false⟩, ⟨.len (.t 0), none, false⟩, ⟨.mv (.c (.int (0))), none, false⟩], [(7, 2), (6, 1), (5, 0)], [1, 3], none⟩
abbrev r_cover_Path_7 : Reg := ⟨[⟨.bin .lss (.v 5) (.v 6), none, false⟩], [], [], some (42, 0)⟩
abbrev r_cover_Path_8 : Reg := ⟨[⟨.iad (.v 7) (.v 5) 2, none, false⟩, ⟨.ld (.t 0) (some 2), none, false⟩, ⟨.alc0 2, none, false⟩, ⟨.ini (.t 0) (.t 1) 2, none, false⟩], [(8, 0)], [], none⟩
abbrev r_cover_Path_9 : Reg := ⟨[⟨.fad (.v 8) 0 none, none, false⟩, ⟨.ldi (.t 0) none, none, false⟩, ⟨.mv (.v 2), none, false⟩, ⟨.bin .eql (.t 1) (.t 0), none, false⟩], [], [], some (48, 0)⟩
abbrev r_cover_Path_10 : Reg := ⟨[⟨.fad (.v 8) 1 none, none, false⟩, ⟨.ldi (.t 0) none, none, false⟩, ⟨.mv (.t 0), none, false⟩, ⟨.mv (.c (.bool true)), none, false⟩, ⟨.mv (.c (.int (0))), none, false⟩], [(9, 2), (10, 1), (11, 0)], [2, 5, 6, 7, 8], none⟩
abbrev r_cover_Path_11 : Reg := ⟨[⟨.bin .add (.v 5) (.c (.int (1))), none, false⟩, ⟨.mv (.t 0), none, false⟩], [(5, 0)], [8], none⟩
abbrev b_cover_Path_0 : IC := (.seq (.reg r_cover_Path_7)
 (.seq (.cond 42 .skip (.exit 0))
 (.seq (.block 1 (.seq (.reg r_cover_Path_8)
 (.seq (.reg r_cover_Path_9)
 (.cond 48 (.seq (.reg r_cover_Path_10)
 .ret) .skip))))
 (.reg r_cover_Path_11))))
abbrev r_cover_Path_12 : Reg := ⟨[⟨.mv (.c (.snil)), none, false⟩, ⟨.mv (.c (.bool false)), none, false⟩, ⟨.mv (.c (.int (0))), none, false⟩], [(9, 2), (10, 1), (11, 0)], [2, 5, 6, 7], none⟩
abbrev ir_cover_Path : Fn := { np := 3, nv := 12, res := [(9, none), (10, none), (11, none)], body :=
(.seq (.reg r_cover_Path_0)
 (.seq (.seq (.reg r_cover_Path_1)
 (.seq (.reg r_cover_Path_2)
 (.cond 15 (.seq (.reg r_cover_Path_3)
 .ret) .skip)))
 (.seq (.seq (.reg r_cover_Path_4)
 (.cond 36 (.seq (.reg r_cover_Path_5)
 .ret) .skip))
 (.seq (.seq (.reg r_cover_Path_6)
 (.block 0 (.loop b_cover_Path_0)))
 (.seq (.reg r_cover_Path_12)
 .ret))))) }
/- f49 batch_steps : 0:l 1:w 2:_ 3:_ 4:_ 5:n 6:l 7:a 8:_ -/
abbrev r_batch_steps_0 : Reg := ⟨[⟨.bxi (.v 0), none, false⟩, ⟨.mv (.c (.int (0))), none, false⟩], [(6, 1)], [0, 8], none⟩
abbrev r_batch_steps_1 : Reg := ⟨[⟨.mv (.c (.int (0))), none, false⟩], [(5, 0)], [], none⟩
abbrev r_batch_steps_2 : Reg := ⟨[⟨.mv (.v 1), none, false⟩, ⟨.len (.t 0), none, false⟩, ⟨.mv (.c (.int (0))), none, false⟩], [(4, 2), (3, 1), (2, 0)], [1], none⟩
abbrev r_batch_steps_3 : Reg := ⟨[⟨.bin .lss (.v 2) (.v 3), none, false⟩], [], [], some (11, 0)⟩
abbrev r_batch_steps_4 : Reg := ⟨[⟨.iad (.v 4) (.v 2) 1, none, false⟩, ⟨.ld (.t 0) none, none, false⟩, ⟨.mv (.t 0), none, false⟩], [(7, 0)], [], none⟩
abbrev r_batch_steps_5 : Reg := ⟨[⟨.mv (.v 5), none, false⟩, ⟨.fad (.v 6) 0 none, none, false⟩, ⟨.ldi (.t 0) none, none, false⟩, ⟨.mv (.v 7), none, false⟩, ⟨.iad (.t 1) (.t 0) 1, none, false⟩, ⟨.ldi (.t 0) none, none, false⟩, ⟨.bin .add (.t 5) (.t 0), none, false⟩, ⟨.mv (.t 0), none, false⟩], [(5, 0)], [7], none⟩
abbrev r_batch_steps_6 : Reg := ⟨[⟨.bin .add (.v 2) (.c (.int (1))), none, false⟩, ⟨.mv (.t 0), none, false⟩], [(2, 0)], [], none⟩
abbrev b_batch_steps_0 : IC := (.seq (.reg r_batch_steps_3)
 (.seq (.cond 11 .skip (.exit 0))
 (.seq (.block 1 (.seq (.reg r_batch_steps_4)
 (.reg r_batch_steps_5)))
 (.reg r_batch_steps_6))))
abbrev r_batch_steps_7 : Reg := ⟨[⟨.mv (.v 5), none, false⟩, ⟨.mv (.t 0), none, false⟩], [(8, 0)], [2, 3, 4, 5, 6], none⟩
abbrev ir_batch_steps : Fn := { np := 2, nv := 9, res := [(8, none)], body :=
(.seq (.reg r_batch_steps_0)
 (.seq (.reg r_batch_steps_1)
 (.seq (.seq (.reg r_batch_steps_2)
 (.block 0 (.loop b_batch_steps_0)))
 (.seq (.reg r_batch_steps_7)
 .ret)))) }
/- f50 mealy_From : 0:m 1:s 2:w 3:m 4:e 5:e 6:r 7:out 8:_ 9:_ 10:_ -/
abbrev r_mealy_From_0 : Reg := ⟨[⟨.bxi (.v 0), none, false⟩, ⟨.mv (.c (.snil)), none, false⟩, ⟨.mv (.c (.int (0))), none, false⟩, ⟨.mv (.c (.int (0))), none, false⟩], [(3, 3)], [0, 8, 9, 10], none⟩
abbrev r_mealy_From_1 : Reg := ⟨[⟨.ldi (.v 3) (some 4), none, false⟩, ⟨.mv (.v 1), none, false⟩, ⟨.cal F_mealy_state [(.t 1), (.t 0)], none, false⟩, ⟨.mv (.t 0), none, false⟩], [(4, 0)], [], none⟩
abbrev r_mealy_From_2 : Reg := ⟨[⟨.mv (.v 4), none, false⟩, ⟨.bin .neq (.t 0) (.c (.int (0))), none, false⟩], [], [], some (17, 0)⟩
abbrev r_mealy_From_3 : Reg := ⟨[⟨.mv (.v 4), none, false⟩, ⟨.mv (.c (.snil)), none, false⟩, ⟨.mv (.c (.int (0))), none, false⟩, ⟨.mv (.t 2), none, false⟩], [(8, 2), (9, 1), (10, 0)], [1, 2, 3, 4], none⟩
abbrev r_mealy_From_4 : Reg := ⟨[⟨.mv (.v 2), none, false⟩, ⟨.fad (.v 3) 0 none, none, false⟩, ⟨.ldi (.t 0) none, none, false⟩, ⟨.cal F_word_Check [(.t 2), (.t 0)], none, false⟩, ⟨.mv (.t 0), none, false⟩], [(5, 0)], [4], none⟩
abbrev r_mealy_From_5 : Reg := ⟨[⟨.mv (.v 5), none, false⟩, ⟨.bin .neq (.t 0) (.c (.int (0))), none, false⟩], [], [], some (24, 0)⟩
abbrev r_mealy_From_6 : Reg := ⟨[⟨.mv (.v 5), none, false⟩, ⟨.mv (.c (.snil)), none, false⟩, ⟨.mv (.c (.int (0))), none, false⟩, ⟨.mv (.t 2), none, false⟩], [(8, 2), (9, 1), (10, 0)], [1, 2, 3, 5], none⟩
abbrev r_mealy_From_7 : Reg := ⟨[⟨.ldi (.v 3) (some 4), none, false⟩, ⟨.bld [.int 0, .int 0, .snil, .snil] [(0, 4, (.t 0))], none, false⟩, ⟨.mv (.v 1), none, false⟩, ⟨.bld [.int 0, .int 0, .snil, .snil, .int 0] [(0, 4, (.t 1)), (4, 1, (.t 0))], none, false⟩, ⟨.bxm (.t 0) (some 5), none, false⟩, ⟨.mv (.t 0), none, false⟩], [(6, 0)], [1, 3, 5], none⟩
abbrev r_mealy_From_8 : Reg := ⟨[⟨.mv (.v 6), none, false⟩, ⟨.mv (.v 2), none, false⟩, ⟨.cam F_mealy_runner_run [(.t 1), (.t 0)], none, false⟩, ⟨.mv (.t 0), none, false⟩], [(7, 0)], [2], none⟩
abbrev r_mealy_From_9 : Reg := ⟨[⟨.mv (.v 7), none, false⟩, ⟨.mv (.v 6), none, false⟩, ⟨.nck (.t 0), none, false⟩, ⟨.fad (.t 0) 4 none, none, false⟩, ⟨.ld (.t 0) none, none, false⟩, ⟨.mv (.t 4), none, false⟩, ⟨.mv (.t 1), none, false⟩, ⟨.mv (.c (.int (0))), none, false⟩], [(8, 2), (9, 1), (10, 0)], [6, 7], none⟩
abbrev ir_mealy_From : Fn := { np := 3, nv := 11, res := [(8, none), (9, none), (10, none)], body :=
(.seq (.reg r_mealy_From_0)
 (.seq (.seq (.reg r_mealy_From_1)
 (.seq (.reg r_mealy_From_2)
 (.cond 17 (.seq (.reg r_mealy_From_3)
 .ret) .skip)))
 (.seq (.seq (.reg r_mealy_From_4)
 (.seq (.reg r_mealy_From_5)
 (.cond 24 (.seq (.reg r_mealy_From_6)
 .ret) .skip)))
 (.seq (.reg r_mealy_From_7)
 (.seq (.reg r_mealy_From_8)
 (.seq (.reg r_mealy_From_9)
 .ret)))))) }
/- f51 ref19_Fits : 0:l 1:inputs 2:l 3:_ -/
abbrev r_ref19_Fits_0 : Reg := ⟨[⟨.bxi (.v 0), none, false⟩, ⟨.mv (.c (.int (0))), none, false⟩], [(2, 1)], [0, 3], none⟩
abbrev r_ref19_Fits_1 : Reg := ⟨[⟨.fad (.v 2) 0 none, none, false⟩, ⟨.ldi (.t 0) none, none, false⟩, ⟨.len (.t 0), none, false⟩, ⟨.mv (.v 1), none, false⟩, ⟨.bin .neq (.t 1) (.t 0), none, false⟩], [], [1], some (9, 0)⟩
abbrev r_ref19_Fits_2 : Reg := ⟨[⟨.mv (.c (.int (1))), none, false⟩], [(3, 0)], [2], none⟩
abbrev r_ref19_Fits_3 : Reg := ⟨[⟨.ldi (.v 2) (some 2), none, false⟩, ⟨.cal F_ref19_costs [(.t 0)], none, false⟩, ⟨.not (.t 0), none, false⟩], [], [2], some (12, 0)⟩
abbrev r_ref19_Fits_4 : Reg := ⟨[⟨.mv (.c (.int (2))), none, false⟩], [(3, 0)], [], none⟩
abbrev r_ref19_Fits_5 : Reg := ⟨[⟨.mv (.c (.int (0))), none, false⟩], [(3, 0)], [], none⟩
abbrev ir_ref19_Fits : Fn := { np := 2, nv := 4, res := [(3, none)], body :=
(.seq (.reg r_ref19_Fits_0)
 (.seq (.seq (.reg r_ref19_Fits_1)
 (.cond 9 (.seq (.reg r_ref19_Fits_2)
 .ret) .skip))
 (.seq (.seq (.reg r_ref19_Fits_3)
 (.cond 12 (.seq (.reg r_ref19_Fits_4)
 .ret) .skip))
 (.seq (.reg r_ref19_Fits_5)
 .ret)))) }
/- f52 ref10_Path : 0:m 1:s 2:t 3:m 4:e 5:i 6:states 7:words 8:_ 9:_ 10:_ -/
abbrev r_ref10_Path_0 : Reg := ⟨[⟨.bxi (.v 0), none, false⟩, ⟨.mv (.c (.snil)), none, false⟩, ⟨.mv (.c (.bool false)), none, false⟩, ⟨.mv (.c (.int (0))), none, false⟩], [(3, 3)], [0, 8, 9, 10], none⟩
abbrev r_ref10_Path_1 : Reg := ⟨[⟨.ldi (.v 3) (some 4), none, false⟩, ⟨.cal F_ref06_Valid [(.t 0)], none, false⟩, ⟨.mv (.t 0), none, false⟩], [(4, 0)], [], none⟩
abbrev r_ref10_Path_2 : Reg := ⟨[⟨.mv (.v 4), none, false⟩, ⟨.bin .neq (.t 0) (.c (.int (0))), none, false⟩], [], [], some (17, 0)⟩
abbrev r_ref10_Path_3 : Reg := ⟨[⟨.mv (.v 4), none, false⟩, ⟨.mv (.c (.snil)), none, false⟩, ⟨.mv (.c (.bool false)), none, false⟩, ⟨.mv (.t 2), none, false⟩], [(8, 2), (9, 1), (10, 0)], [1, 2, 3, 4], none⟩
abbrev r_ref10_Path_4 : Reg := ⟨[⟨.mv (.v 1), none, false⟩, ⟨.bin .lss (.t 0) (.c (.int (0))), none, false⟩, ⟨.mv (.t 0), none, false⟩, ⟨.mv (.v 1), some (.t 0, false), false⟩, ⟨.fad (.v 3) 2 none, some (.t 1, false), false⟩, ⟨.ldi (.t 0) none, some (.t 2, false), false⟩, ⟨.len (.t 0), some (.t 3, false), false⟩, ⟨.bin .geq (.t 3) (.t 0), some (.t 4, false), false⟩, ⟨.pick (.t 5) (.c (.bool true)) (.t 0), none, false⟩, ⟨.mv (.t 0), none, false⟩, ⟨.mv (.v 2), some (.t 0, false), false⟩, ⟨.bin .lss (.t 0) (.c (.int (0))), some (.t 1, false), false⟩, ⟨.pick (.t 2) (.c (.bool true)) (.t 0), none, false⟩, ⟨.mv (.t 0), none, false⟩, ⟨.mv (.v 2), some (.t 0, false), false⟩, ⟨.fad (.v 3) 2 none, some (.t 1, false), false⟩, ⟨.ldi (.t 0) none, some (.t 2, false), false⟩, ⟨.len (.t 0), some (.t 3, false), false⟩, ⟨.bin .geq (.t 3) (.t 0), some (.t 4, false), false⟩, ⟨.pick (.t 5) (.c (.bool true)) (.t 0), none, false⟩], [], [4], some (38, 0)⟩
abbrev r_ref10_Path_5 : Reg := ⟨[⟨.mv (.c (.snil)), none, false⟩, ⟨.mv (.c (.bool false)), none, false⟩, ⟨.mv (.c (.int (2))), none, false⟩], [(8, 2), (9, 1), (10, 0)], [1, 2, 3], none⟩
abbrev r_ref10_Path_6 : Reg := ⟨[⟨.fad (.v 3) 0 none, none, false⟩, ⟨.ldi (.t 0) none, none, false⟩, ⟨.mv (.v 1), none, false⟩, ⟨.fad (.v 3) 2 none, none, false⟩, ⟨.ldi (.t 0) none, none, false⟩, ⟨.fad (.v 3) 3 none, none, false⟩, ⟨.ldi (.t 0) none, none, false⟩, ⟨.bld [.int 0, .int 0, .snil, .snil] [(0, 1, (.t 5)), (1, 1, (.t 4)), (2, 1, (.t 2)), (3, 1, (.t 0))], none, false⟩, ⟨.cal F_ref10_Access [(.t 0)], none, false⟩, ⟨.mv (.t 0), none, false⟩, ⟨.ext (.t 0) 0, none, false⟩, ⟨.ext (.t 1) 1, none, false⟩, ⟨.ext (.t 2) 2, none, false⟩, ⟨.mv (.t 2), none, false⟩, ⟨.mv (.t 2), none, false⟩, ⟨.mv (.t 2), none, false⟩], [(6, 2), (7, 1)], [1, 3], none⟩
abbrev r_ref10_Path_7 : Reg := ⟨[⟨.mv (.c (.int (0))), none, false⟩], [(5, 0)], [], none⟩
abbrev r_ref10_Path_8 : Reg := ⟨[⟨.mv (.v 5), none, false⟩, ⟨.mv (.v 6), none, false⟩, ⟨.len (.t 0), none, false⟩, ⟨.bin .lss (.t 2) (.t 0), none, false⟩], [], [], some (55, 0)⟩
abbrev r_ref10_Path_10 : Reg := ⟨[⟨.mv (.v 6), none, false⟩, ⟨.mv (.v 5), none, false⟩, ⟨.iad (.t 1) (.t 0) 1, none, false⟩, ⟨.ld (.t 0) none, none, false⟩, ⟨.mv (.v 2), none, false⟩, ⟨.bin .eql (.t 1) (.t 0), none, false⟩], [], [], some (63, 0)⟩
abbrev r_ref10_Path_11 : Reg := ⟨[⟨.mv (.v 7), none, false⟩, ⟨.mv (.v 5), none, false⟩, ⟨.iad (.t 1) (.t 0) 1, none, false⟩, ⟨.ld (.t 0) none, none, false⟩, ⟨.mv (.t 0), none, false⟩, ⟨.mv (.c (.bool true)), none, false⟩, ⟨.mv (.c (.int (0))), none, false⟩], [(8, 2), (9, 1), (10, 0)], [2, 5, 6, 7], none⟩
abbrev r_ref10_Path_9 : Reg := ⟨[⟨.mv (.v 5), none, false⟩, ⟨.bin .add (.t 0) (.c (.int (1))), none, false⟩, ⟨.mv (.t 0), none, false⟩], [(5, 0)], [], none⟩
abbrev b_ref10_Path_0 : IC := (.seq (.seq (.reg r_ref10_Path_8)
 (.cond 55 .skip (.exit 0)))
 (.seq (.block 1 (.seq (.reg r_ref10_Path_10)
 (.cond 63 (.seq (.reg r_ref10_Path_11)
 .ret) .skip)))
 (.reg r_ref10_Path_9)))
abbrev r_ref10_Path_12 : Reg := ⟨[⟨.mv (.c (.snil)), none, false⟩, ⟨.mv (.c (.bool false)), none, false⟩, ⟨.mv (.c (.int (0))), none, false⟩], [(8, 2), (9, 1), (10, 0)], [2, 5, 6, 7], none⟩
abbrev ir_ref10_Path : Fn := { np := 3, nv := 11, res := [(8, none), (9, none), (10, none)], body :=
(.seq (.reg r_ref10_Path_0)
 (.seq (.seq (.reg r_ref10_Path_1)
 (.seq (.reg r_ref10_Path_2)
 (.cond 17 (.seq (.reg r_ref10_Path_3)
 .ret) .skip)))
 (.seq (.seq (.reg r_ref10_Path_4)
 (.cond 38 (.seq (.reg r_ref10_Path_5)
 .ret) .skip))
 (.seq (.reg r_ref10_Path_6)
 (.seq (.seq (.reg r_ref10_Path_7)
 (.block 0 (.loop b_ref10_Path_0)))
 (.seq (.reg r_ref10_Path_12)
 .ret)))))) }
/- f53 ref20_steps : 0:l 1:w 2:i 3:n 4:l 5:_ -/
abbrev r_ref20_steps_0 : Reg := ⟨[⟨.bxi (.v 0), none, false⟩, ⟨.mv (.c (.int (0))), none, false⟩], [(4, 1)], [0, 5], none⟩
abbrev r_ref20_steps_1 : Reg := ⟨[⟨.mv (.c (.int (0))), none, false⟩], [(3, 0)], [], none⟩
abbrev r_ref20_steps_2 : Reg := ⟨[⟨.mv (.c (.int (0))), none, false⟩], [(2, 0)], [], none⟩
abbrev r_ref20_steps_3 : Reg := ⟨[⟨.mv (.v 2), none, false⟩, ⟨.mv (.v 1), none, false⟩, ⟨.len (.t 0), none, false⟩, ⟨.bin .lss (.t 2) (.t 0), none, false⟩], [], [], some (10, 0)⟩
abbrev r_ref20_steps_5 : Reg := ⟨[⟨.mv (.v 3), none, false⟩, ⟨.fad (.v 4) 0 none, none, false⟩, ⟨.ldi (.t 0) none, none, false⟩, ⟨.mv (.v 1), none, false⟩, ⟨.mv (.v 2), none, false⟩, ⟨.iad (.t 1) (.t 0) 1, none, false⟩, ⟨.ld (.t 0) none, none, false⟩, ⟨.iad (.t 4) (.t 0) 1, none, false⟩, ⟨.ldi (.t 0) none, none, false⟩, ⟨.bin .add (.t 8) (.t 0), none, false⟩, ⟨.mv (.t 0), none, false⟩], [(3, 0)], [], none⟩
abbrev r_ref20_steps_4 : Reg := ⟨[⟨.mv (.v 2), none, false⟩, ⟨.bin .add (.t 0) (.c (.int (1))), none, false⟩, ⟨.mv (.t 0), none, false⟩], [(2, 0)], [], none⟩
abbrev b_ref20_steps_0 : IC := (.seq (.seq (.reg r_ref20_steps_3)
 (.cond 10 .skip (.exit 0)))
 (.seq (.block 1 (.reg r_ref20_steps_5))
 (.reg r_ref20_steps_4)))
abbrev r_ref20_steps_6 : Reg := ⟨[⟨.mv (.v 3), none, false⟩, ⟨.mv (.t 0), none, false⟩], [(5, 0)], [1, 2, 3, 4], none⟩
abbrev ir_ref20_steps : Fn := { np := 2, nv := 6, res := [(5, none)], body :=
(.seq (.reg r_ref20_steps_0)
 (.seq (.reg r_ref20_steps_1)
 (.seq (.seq (.reg r_ref20_steps_2)
 (.block 0 (.loop b_ref20_steps_0)))
 (.seq (.reg r_ref20_steps_6)
 .ret)))) }
/- f54 ref06_Outs : 0:m 1:s 2:w 3:i 4:out 5:m 6:_ 7:_ -/
abbrev r_ref06_Outs_0 : Reg := ⟨[⟨.bxi (.v 0), none, false⟩, ⟨.mv (.c (.snil)), none, false⟩, ⟨.mv (.c (.int (0))), none, false⟩], [(5, 2)], [0, 6, 7], none⟩
abbrev r_ref06_Outs_1 : Reg := ⟨[⟨.nl none, none, false⟩], [(4, 0)], [], none⟩
abbrev r_ref06_Outs_2 : Reg := ⟨[⟨.mv (.c (.int (0))), none, false⟩], [(3, 0)], [], none⟩
abbrev r_ref06_Outs_3 : Reg := ⟨[⟨.mv (.v 3), none, false⟩, ⟨.mv (.v 2), none, false⟩, ⟨.len (.t 0), none, false⟩, ⟨.bin .lss (.t 2) (.t 0), none, false⟩], [], [], some (13, 0)⟩
abbrev r_ref06_Outs_5 : Reg := ⟨[⟨.mv (.v 4), none, false⟩, ⟨.fad (.v 5) 3 none, none, false⟩, ⟨.ldi (.t 0) none, none, false⟩, ⟨.mv (.v 1), none, false⟩, ⟨.iad (.t 1) (.t 0) 1, none, false⟩, ⟨.ldi (.t 0) none, none, false⟩, ⟨.mv (.v 2), none, false⟩, ⟨.mv (.v 3), none, false⟩, ⟨.iad (.t 1) (.t 0) 1, none, false⟩, ⟨.ld (.t 0) none, none, false⟩, ⟨.iad (.t 4) (.t 0) 1, none, false⟩, ⟨.ldi (.t 0) none, none, false⟩, ⟨.lita [(.t 0)] 1, none, false⟩, ⟨.app (.t 12) (.t 0) none, none, false⟩, ⟨.mv (.t 0), none, false⟩], [(4, 0)], [], none⟩
abbrev r_ref06_Outs_6 : Reg := ⟨[⟨.fad (.v 5) 2 none, none, false⟩, ⟨.ldi (.t 0) none, none, false⟩, ⟨.mv (.v 1), none, false⟩, ⟨.iad (.t 1) (.t 0) 1, none, false⟩, ⟨.ldi (.t 0) none, none, false⟩, ⟨.mv (.v 2), none, false⟩, ⟨.mv (.v 3), none, false⟩, ⟨.iad (.t 1) (.t 0) 1, none, false⟩, ⟨.ld (.t 0) none, none, false⟩, ⟨.iad (.t 4) (.t 0) 1, none, false⟩, ⟨.ldi (.t 0) none, none, false⟩, ⟨.mv (.t 0), none, false⟩], [(1, 0)], [], none⟩
abbrev r_ref06_Outs_4 : Reg := ⟨[⟨.mv (.v 3), none, false⟩, ⟨.bin .add (.t 0) (.c (.int (1))), none, false⟩, ⟨.mv (.t 0), none, false⟩], [(3, 0)], [], none⟩
abbrev b_ref06_Outs_0 : IC := (.seq (.seq (.reg r_ref06_Outs_3)
 (.cond 13 .skip (.exit 0)))
 (.seq (.block 1 (.seq (.reg r_ref06_Outs_5)
 (.reg r_ref06_Outs_6)))
 (.reg r_ref06_Outs_4)))
abbrev r_ref06_Outs_7 : Reg := ⟨[⟨.mv (.v 4), none, false⟩, ⟨.mv (.v 1), none, false⟩, ⟨.mv (.t 1), none, false⟩, ⟨.mv (.t 1), none, false⟩], [(6, 1), (7, 0)], [1, 2, 3, 4, 5], none⟩
abbrev ir_ref06_Outs : Fn := { np := 3, nv := 8, res := [(6, none), (7, none)], body :=
(.seq (.reg r_ref06_Outs_0)
 (.seq (.reg r_ref06_Outs_1)
 (.seq (.seq (.reg r_ref06_Outs_2)
 (.block 0 (.loop b_ref06_Outs_0)))
 (.seq (.reg r_ref06_Outs_7)
 .ret)))) }
/- f55 ref01_Join : 0:parts 1:i 2:out 3:_ -/
abbrev r_ref01_Join_0 : Reg := ⟨[⟨.mv (.c (.snil)), none, false⟩], [], [3], none⟩
abbrev r_ref01_Join_1 : Reg := ⟨[⟨.nl none, none, false⟩], [(2, 0)], [], none⟩
abbrev r_ref01_Join_2 : Reg := ⟨[⟨.mv (.c (.int (0))), none, false⟩], [(1, 0)], [], none⟩
abbrev r_ref01_Join_3 : Reg := ⟨[⟨.mv (.v 1), none, false⟩, ⟨.mv (.v 0), none, false⟩, ⟨.len (.t 0), none, false⟩, ⟨.bin .lss (.t 2) (.t 0), none, false⟩], [], [], some (8, 0)⟩
abbrev r_ref01_Join_5 : Reg := ⟨[⟨.mv (.v 2), none, false⟩, ⟨.mv (.v 0), none, false⟩, ⟨.mv (.v 1), none, false⟩, ⟨.iad (.t 1) (.t 0) 1, none, false⟩, ⟨.ld (.t 0) none, none, false⟩, ⟨.appw (.t 4) (.t 0) none, none, false⟩, ⟨.mv (.t 0), none, false⟩], [(2, 0)], [], none⟩
abbrev r_ref01_Join_4 : Reg := ⟨[⟨.mv (.v 1), none, false⟩, ⟨.bin .add (.t 0) (.c (.int (1))), none, false⟩, ⟨.mv (.t 0), none, false⟩], [(1, 0)], [], none⟩
abbrev b_ref01_Join_0 : IC := (.seq (.seq (.reg r_ref01_Join_3)
 (.cond 8 .skip (.exit 0)))
 (.seq (.block 1 (.reg r_ref01_Join_5))
 (.reg r_ref01_Join_4)))
abbrev r_ref01_Join_6 : Reg := ⟨[⟨.mv (.v 2), none, false⟩, ⟨.mv (.t 0), none, false⟩], [(3, 0)], [0, 1, 2], none⟩
abbrev ir_ref01_Join : Fn := { np := 1, nv := 4, res := [(3, none)], body :=
(.seq (.reg r_ref01_Join_0)
 (.seq (.reg r_ref01_Join_1)
 (.seq (.seq (.reg r_ref01_Join_2)
 (.block 0 (.loop b_ref01_Join_0)))
 (.seq (.reg r_ref01_Join_6)
 .ret)))) }
/- f56 ref01_Lex : 0:a 1:b 2:i 3:_ 4:_ -/
abbrev r_ref01_Lex_0 : Reg := ⟨[⟨.mv (.c (.int (0))), none, false⟩], [], [3], none⟩
abbrev r_ref01_Lex_1 : Reg := ⟨[⟨.mv (.v 0), none, false⟩, ⟨.mv (.v 1), none, false⟩, ⟨.cal F_ref01_Common [(.t 1), (.t 0)], none, false⟩, ⟨.mv (.t 0), none, false⟩], [(2, 0)], [], none⟩
abbrev r_ref01_Lex_2 : Reg := ⟨[⟨.mv (.v 2), none, false⟩, ⟨.mv (.v 0), none, false⟩, ⟨.len (.t 0), none, false⟩, ⟨.bin .eql (.t 2) (.t 0), none, false⟩, ⟨.mv (.t 0), none, false⟩, ⟨.mv (.v 2), some (.t 0, true), false⟩, ⟨.mv (.v 1), some (.t 1, true), false⟩, ⟨.len (.t 0), some (.t 2, true), false⟩, ⟨.bin .eql (.t 2) (.t 0), some (.t 3, true), false⟩, ⟨.pick (.t 4) (.t 0) (.c (.bool false)), none, false⟩, ⟨.mv (.t 0), none, false⟩], [], [], some (9, 0)⟩
abbrev r_ref01_Lex_3 : Reg := ⟨[⟨.mv (.c (.int (0))), none, false⟩], [(3, 0)], [0, 1, 2], none⟩
abbrev r_ref01_Lex_4 : Reg := ⟨[⟨.mv (.v 2), none, false⟩, ⟨.mv (.v 0), none, false⟩, ⟨.len (.t 0), none, false⟩, ⟨.bin .eql (.t 2) (.t 0), none, false⟩, ⟨.mv (.t 0), none, false⟩], [(4, 0)], [], none⟩
abbrev r_ref01_Lex_5 : Reg := ⟨[⟨.mv (.v 2), none, false⟩, ⟨.mv (.v 1), none, false⟩, ⟨.len (.t 0), none, false⟩, ⟨.bin .lss (.t 2) (.t 0), none, false⟩, ⟨.mv (.t 0), none, false⟩, ⟨.mv (.v 0), some (.t 0, true), false⟩, ⟨.mv (.v 2), some (.t 1, true), false⟩, ⟨.iad (.t 1) (.t 0) 1, some (.t 2, true), false⟩, ⟨.ld (.t 0) none, some (.t 3, true), false⟩, ⟨.mv (.v 1), some (.t 4, true), false⟩, ⟨.mv (.v 2), some (.t 5, true), false⟩, ⟨.iad (.t 1) (.t 0) 1, some (.t 6, true), false⟩, ⟨.ld (.t 0) none, some (.t 7, true), false⟩, ⟨.bin .lss (.t 4) (.t 0), some (.t 8, true), false⟩, ⟨.pick (.t 9) (.t 0) (.c (.bool false)), none, false⟩, ⟨.mv (.t 0), none, false⟩], [(4, 0)], [0, 1, 2], none⟩
abbrev r_ref01_Lex_6 : Reg := ⟨[⟨.mv (.c (.int (-1))), none, false⟩], [(3, 0)], [0, 1, 2, 4], none⟩
abbrev r_ref01_Lex_7 : Reg := ⟨[⟨.mv (.c (.int (1))), none, false⟩], [(3, 0)], [0, 1, 2, 4], none⟩
abbrev ir_ref01_Lex : Fn := { np := 2, nv := 5, res := [(3, none)], body :=
(.seq (.reg r_ref01_Lex_0)
 (.seq (.reg r_ref01_Lex_1)
 (.seq (.block 0 (.seq (.reg r_ref01_Lex_2)
 (.cond 9 (.seq (.reg r_ref01_Lex_3)
 .ret) (.seq (.seq (.reg r_ref01_Lex_4)
 (.condv 4 .skip (.reg r_ref01_Lex_5)))
 (.condv 4 (.seq (.reg r_ref01_Lex_6)
 .ret) .skip)))))
 (.seq (.reg r_ref01_Lex_7)
 .ret)))) }
/- f57 ref01_Common : 0:a 1:b 2:i 3:_ -/
abbrev r_ref01_Common_0 : Reg := ⟨[⟨.mv (.c (.int (0))), none, false⟩], [], [3], none⟩
abbrev r_ref01_Common_1 : Reg := ⟨[⟨.mv (.c (.int (0))), none, false⟩], [(2, 0)], [], none⟩
abbrev r_ref01_Common_2 : Reg := ⟨[⟨.mv (.v 2), none, false⟩, ⟨.mv (.v 0), none, false⟩, ⟨.len (.t 0), none, false⟩, ⟨.bin .lss (.t 2) (.t 0), none, false⟩, ⟨.mv (.t 0), none, false⟩, ⟨.mv (.v 2), some (.t 0, true), false⟩, ⟨.mv (.v 1), some (.t 1, true), false⟩, ⟨.len (.t 0), some (.t 2, true), false⟩, ⟨.bin .lss (.t 2) (.t 0), some (.t 3, true), false⟩, ⟨.pick (.t 4) (.t 0) (.c (.bool false)), none, false⟩, ⟨.mv (.t 0), none, false⟩, ⟨.mv (.v 0), some (.t 0, true), false⟩, ⟨.mv (.v 2), some (.t 1, true), false⟩, ⟨.iad (.t 1) (.t 0) 1, some (.t 2, true), false⟩, ⟨.ld (.t 0) none, some (.t 3, true), false⟩, ⟨.mv (.v 1), some (.t 4, true), false⟩, ⟨.mv (.v 2), some (.t 5, true), false⟩, ⟨.iad (.t 1) (.t 0) 1, some (.t 6, true), false⟩, ⟨.ld (.t 0) none, some (.t 7, true), false⟩, ⟨.bin .eql (.t 4) (.t 0), some (.t 8, true), false⟩, ⟨.pick (.t 9) (.t 0) (.c (.bool false)), none, false⟩], [], [], some (26, 0)⟩
abbrev r_ref01_Common_3 : Reg := ⟨[⟨.mv (.v 2), none, false⟩, ⟨.bin .add (.t 0) (.c (.int (1))), none, false⟩, ⟨.mv (.t 0), none, false⟩], [(2, 0)], [], none⟩
abbrev b_ref01_Common_0 : IC := (.seq (.seq (.reg r_ref01_Common_2)
 (.cond 26 .skip (.exit 0)))
 (.block 1 (.reg r_ref01_Common_3)))
abbrev r_ref01_Common_4 : Reg := ⟨[⟨.mv (.v 2), none, false⟩, ⟨.mv (.t 0), none, false⟩], [(3, 0)], [0, 1, 2], none⟩
abbrev ir_ref01_Common : Fn := { np := 2, nv := 4, res := [(3, none)], body :=
(.seq (.reg r_ref01_Common_0)
 (.seq (.reg r_ref01_Common_1)
 (.seq (.block 0 (.loop b_ref01_Common_0))
 (.seq (.reg r_ref01_Common_4)
 .ret)))) }
/- f58 ref16_Add : 0:o 1:t 2:t 3:o 4:e 5:_ 6:i 7:out 8:_ -/
abbrev r_ref16_Add_0 : Reg := ⟨[⟨.bxi (.v 0), none, false⟩, ⟨.bxi (.v 1), none, false⟩, ⟨.alc [.int 0, .snil] (some 2), none, false⟩, ⟨.mv (.c (.int (0))), none, false⟩], [(3, 3), (2, 2), (5, 1)], [0, 1, 8], none⟩
abbrev r_ref16_Add_1 : Reg := ⟨[⟨.ldi (.v 2) (some 2), none, false⟩, ⟨.fad (.v 3) 0 none, none, false⟩, ⟨.ldi (.t 0) none, none, false⟩, ⟨.cal F_ref16_Proper [(.t 2), (.t 0)], none, false⟩, ⟨.mv (.t 0), none, false⟩], [(4, 0)], [], none⟩
abbrev r_ref16_Add_2 : Reg := ⟨[⟨.mv (.v 4), none, false⟩, ⟨.bin .neq (.t 0) (.c (.int (0))), none, false⟩], [], [], some (14, 0)⟩
abbrev r_ref16_Add_3 : Reg := ⟨[⟨.ldi (.v 3) (some 2), none, false⟩, ⟨.mv (.v 4), none, false⟩, ⟨.st (.v 5) (.t 1) 2, none, false⟩, ⟨.mv (.t 1), none, false⟩], [(8, 0)], [2, 3, 4], none⟩
abbrev r_ref16_Add_4 : Reg := ⟨[⟨.mv (.c (.int (0))), none, false⟩], [(6, 0)], [4], none⟩
abbrev r_ref16_Add_5 : Reg := ⟨[⟨.mv (.v 6), none, false⟩, ⟨.fad (.v 3) 1 none, none, false⟩, ⟨.ldi (.t 0) none, none, false⟩, ⟨.len (.t 0), none, false⟩, ⟨.bin .lss (.t 3) (.t 0), none, false⟩], [], [], some (21, 0)⟩
abbrev r_ref16_Add_7 : Reg := ⟨[⟨.fad (.v 3) 1 none, none, false⟩, ⟨.ldi (.t 0) none, none, false⟩, ⟨.mv (.v 6), none, false⟩, ⟨.iad (.t 1) (.t 0) 2, none, false⟩, ⟨.ldi (.t 0) (some 2), none, false⟩, ⟨.ldi (.v 2) (some 2), none, false⟩, ⟨.cal F_ref16_Differ [(.t 1), (.t 0)], none, false⟩, ⟨.bin .geq (.t 0) (.c (.int (0))), none, false⟩], [], [], some (31, 0)⟩
abbrev r_ref16_Add_8 : Reg := ⟨[⟨.ldi (.v 3) (some 2), none, false⟩, ⟨.st (.v 5) (.t 0) 2, none, false⟩, ⟨.mv (.c (.int (13))), none, false⟩], [(8, 0)], [2, 3, 6], none⟩
abbrev r_ref16_Add_6 : Reg := ⟨[⟨.mv (.v 6), none, false⟩, ⟨.bin .add (.t 0) (.c (.int (1))), none, false⟩, ⟨.mv (.t 0), none, false⟩], [(6, 0)], [], none⟩
abbrev b_ref16_Add_0 : IC := (.seq (.seq (.reg r_ref16_Add_5)
 (.cond 21 .skip (.exit 0)))
 (.seq (.block 1 (.seq (.reg r_ref16_Add_7)
 (.cond 31 (.seq (.reg r_ref16_Add_8)
 .ret) .skip)))
 (.reg r_ref16_Add_6)))
abbrev r_ref16_Add_9 : Reg := ⟨[⟨.ldi (.v 3) (some 2), none, false⟩, ⟨.ldi (.v 2) (some 2), none, false⟩, ⟨.cal F_ref16_add [(.t 1), (.t 0)], none, false⟩, ⟨.alc0 2, none, false⟩, ⟨.ini (.t 0) (.t 1) 2, none, false⟩], [(7, 0)], [2, 6], none⟩
abbrev r_ref16_Add_10 : Reg := ⟨[⟨.fad (.v 7) 1 none, none, false⟩, ⟨.ldi (.t 0) none, none, false⟩, ⟨.len (.t 0), none, false⟩, ⟨.bin .gtr (.t 0) (.c (.int (10000))), none, false⟩], [], [], some (39, 0)⟩
abbrev r_ref16_Add_11 : Reg := ⟨[⟨.ldi (.v 3) (some 2), none, false⟩, ⟨.st (.v 5) (.t 0) 2, none, false⟩, ⟨.mv (.c (.int (11))), none, false⟩], [(8, 0)], [3, 7], none⟩
abbrev r_ref16_Add_12 : Reg := ⟨[⟨.ldi (.v 7) (some 2), none, false⟩, ⟨.st (.v 5) (.t 0) 2, none, false⟩, ⟨.mv (.c (.int (0))), none, false⟩], [(8, 0)], [3, 7], none⟩
abbrev ir_ref16_Add : Fn := { np := 2, nv := 9, res := [(5, some (some 2)), (8, none)], body :=
(.seq (.reg r_ref16_Add_0)
 (.seq (.seq (.reg r_ref16_Add_1)
 (.seq (.reg r_ref16_Add_2)
 (.cond 14 (.seq (.reg r_ref16_Add_3)
 .ret) .skip)))
 (.seq (.seq (.reg r_ref16_Add_4)
 (.block 0 (.loop b_ref16_Add_0)))
 (.seq (.reg r_ref16_Add_9)
 (.seq (.seq (.reg r_ref16_Add_10)
 (.cond 39 (.seq (.reg r_ref16_Add_11)
 .ret) .skip))
 (.seq (.reg r_ref16_Add_12)
 .ret)))))) }
/- f59 ref02_Sorted : 0:l 1:i 2:out 3:_ -/
abbrev r_ref02_Sorted_0 : Reg := ⟨[⟨.mv (.c (.snil)), none, false⟩], [], [3], none⟩
abbrev r_ref02_Sorted_1 : Reg := ⟨[⟨.mv (.c (.snil)), none, false⟩], [(2, 0)], [], none⟩
abbrev r_ref02_Sorted_2 : Reg := ⟨[⟨.mv (.c (.int (0))), none, false⟩], [(1, 0)], [], none⟩
abbrev r_ref02_Sorted_3 : Reg := ⟨[⟨.mv (.v 1), none, false⟩, ⟨.mv (.v 0), none, false⟩, ⟨.len (.t 0), none, false⟩, ⟨.bin .lss (.t 2) (.t 0), none, false⟩], [], [], some (8, 0)⟩
abbrev r_ref02_Sorted_5 : Reg := ⟨[⟨.mv (.v 2), none, false⟩, ⟨.mv (.v 0), none, false⟩, ⟨.mv (.v 1), none, false⟩, ⟨.iad (.t 1) (.t 0) 1, none, false⟩, ⟨.ld (.t 0) none, none, false⟩, ⟨.cam F_ref02_with [(.t 4), (.t 0)], none, false⟩, ⟨.mv (.t 0), none, false⟩], [(2, 0)], [], none⟩
abbrev r_ref02_Sorted_4 : Reg := ⟨[⟨.mv (.v 1), none, false⟩, ⟨.bin .add (.t 0) (.c (.int (1))), none, false⟩, ⟨.mv (.t 0), none, false⟩], [(1, 0)], [], none⟩
abbrev b_ref02_Sorted_0 : IC := (.seq (.seq (.reg r_ref02_Sorted_3)
 (.cond 8 .skip (.exit 0)))
 (.seq (.block 1 (.reg r_ref02_Sorted_5))
 (.reg r_ref02_Sorted_4)))
abbrev r_ref02_Sorted_6 : Reg := ⟨[⟨.mv (.v 2), none, false⟩, ⟨.mv (.t 0), none, false⟩], [(3, 0)], [0, 1, 2], none⟩
abbrev ir_ref02_Sorted : Fn := { np := 1, nv := 4, res := [(3, none)], body :=
(.seq (.reg r_ref02_Sorted_0)
 (.seq (.reg r_ref02_Sorted_1)
 (.seq (.seq (.reg r_ref02_Sorted_2)
 (.block 0 (.loop b_ref02_Sorted_0)))
 (.seq (.reg r_ref02_Sorted_6)
 .ret)))) }
/- f60 ref06_row : 0:m 1:s 2:m 3:a 4:_ -/
abbrev r_ref06_row_0 : Reg := ⟨[⟨.bxi (.v 0), none, false⟩, ⟨.mv (.c (.int (0))), none, false⟩], [(2, 1)], [0, 4], none⟩
abbrev r_ref06_row_1 : Reg := ⟨[⟨.fad (.v 2) 2 none, none, false⟩, ⟨.ldi (.t 0) none, none, false⟩, ⟨.mv (.v 1), none, false⟩, ⟨.iad (.t 1) (.t 0) 1, none, false⟩, ⟨.ldi (.t 0) none, none, false⟩, ⟨.len (.t 0), none, false⟩, ⟨.fad (.v 2) 0 none, none, false⟩, ⟨.ldi (.t 0) none, none, false⟩, ⟨.bin .neq (.t 2) (.t 0), none, false⟩, ⟨.mv (.t 0), none, false⟩, ⟨.fad (.v 2) 3 none, some (.t 0, false), false⟩, ⟨.ldi (.t 0) none, some (.t 1, false), false⟩, ⟨.mv (.v 1), some (.t 2, false), false⟩, ⟨.iad (.t 1) (.t 0) 1, some (.t 3, false), false⟩, ⟨.ldi (.t 0) none, some (.t 4, false), false⟩, ⟨.len (.t 0), some (.t 5, false), false⟩, ⟨.fad (.v 2) 0 none, some (.t 6, false), false⟩, ⟨.ldi (.t 0) none, some (.t 7, false), false⟩, ⟨.bin .neq (.t 2) (.t 0), some (.t 8, false), false⟩, ⟨.pick (.t 9) (.c (.bool true)) (.t 0), none, false⟩], [], [], some (25, 0)⟩
abbrev r_ref06_row_2 : Reg := ⟨[⟨.mv (.c (.int (1))), none, false⟩], [(4, 0)], [1, 2], none⟩
abbrev r_ref06_row_3 : Reg := ⟨[⟨.mv (.c (.int (0))), none, false⟩], [(3, 0)], [], none⟩
abbrev r_ref06_row_4 : Reg := ⟨[⟨.mv (.v 3), none, false⟩, ⟨.fad (.v 2) 0 none, none, false⟩, ⟨.ldi (.t 0) none, none, false⟩, ⟨.bin .lss (.t 2) (.t 0), none, false⟩], [], [], some (29, 0)⟩
abbrev r_ref06_row_6 : Reg := ⟨[⟨.fad (.v 2) 2 none, none, false⟩, ⟨.ldi (.t 0) none, none, false⟩, ⟨.mv (.v 1), none, false⟩, ⟨.iad (.t 1) (.t 0) 1, none, false⟩, ⟨.ldi (.t 0) none, none, false⟩, ⟨.mv (.v 3), none, false⟩, ⟨.iad (.t 1) (.t 0) 1, none, false⟩, ⟨.ldi (.t 0) none, none, false⟩, ⟨.bin .lss (.t 0) (.c (.int (0))), none, false⟩, ⟨.mv (.t 0), none, false⟩, ⟨.fad (.v 2) 2 none, some (.t 0, false), false⟩, ⟨.ldi (.t 0) none, some (.t 1, false), false⟩, ⟨.mv (.v 1), some (.t 2, false), false⟩, ⟨.iad (.t 1) (.t 0) 1, some (.t 3, false), false⟩, ⟨.ldi (.t 0) none, some (.t 4, false), false⟩, ⟨.mv (.v 3), some (.t 5, false), false⟩, ⟨.iad (.t 1) (.t 0) 1, some (.t 6, false), false⟩, ⟨.ldi (.t 0) none, some (.t 7, false), false⟩, ⟨.fad (.v 2) 2 none, some (.t 8, false), false⟩, ⟨.ldi (.t 0) none, some (.t 9, false), false⟩, ⟨.len (.t 0), some (.t 10, false), false⟩, ⟨.bin .geq (.t 3) (.t 0), some (.t 11, false), false⟩, ⟨.pick (.t 12) (.c (.bool true)) (.t 0), none, false⟩, ⟨.mv (.t 0), none, false⟩, ⟨.fad (.v 2) 3 none, some (.t 0, false), false⟩, ⟨.ldi (.t 0) none, some (.t 1, false), false⟩, ⟨.mv (.v 1), some (.t 2, false), false⟩, ⟨.iad (.t 1) (.t 0) 1, some (.t 3, false), false⟩, ⟨.ldi (.t 0) none, some (.t 4, false), false⟩, ⟨.mv (.v 3), some (.t 5, false), false⟩, ⟨.iad (.t 1) (.t 0) 1, some (.t 6, false), false⟩, ⟨.ldi (.t 0) none, some (.t 7, false), false⟩, ⟨.bin .lss (.t 0) (.c (.int (0))), some (.t 8, false), false⟩, ⟨.pick (.t 9) (.c (.bool true)) (.t 0), none, false⟩, ⟨.mv (.t 0), none, false⟩, ⟨.fad (.v 2) 3 none, some (.t 0, false), false⟩, ⟨.ldi (.t 0) none, some (.t 1, false), false⟩, ⟨.mv (.v 1), some (.t 2, false), false⟩, ⟨.iad (.t 1) (.t 0) 1, some (.t 3, false), false⟩, ⟨.ldi (.t 0) none, some (.t 4, false), false⟩, ⟨.mv (.v 3), some (.t 5, false), false⟩, ⟨.iad (.t 1) (.t 0) 1, some (.t 6, false), false⟩, ⟨.ldi (.t 0) none, some (.t 7, false), false⟩, ⟨.bin .gtr (.t 0) (.c (.int (1048576))), some (.t 8, false), false⟩, ⟨.pick (.t 9) (.c (.bool true)) (.t 0), none, false⟩], [], [], some (76, 0)⟩
abbrev r_ref06_row_7 : Reg := ⟨[⟨.mv (.c (.int (2))), none, false⟩], [(4, 0)], [1, 2, 3], none⟩
abbrev r_ref06_row_5 : Reg := ⟨[⟨.mv (.v 3), none, false⟩, ⟨.bin .add (.t 0) (.c (.int (1))), none, false⟩, ⟨.mv (.t 0), none, false⟩], [(3, 0)], [], none⟩
abbrev b_ref06_row_0 : IC := (.seq (.seq (.reg r_ref06_row_4)
 (.cond 29 .skip (.exit 0)))
 (.seq (.block 1 (.seq (.reg r_ref06_row_6)
 (.cond 76 (.seq (.reg r_ref06_row_7)
 .ret) .skip)))
 (.reg r_ref06_row_5)))
abbrev r_ref06_row_8 : Reg := ⟨[⟨.mv (.c (.int (0))), none, false⟩], [(4, 0)], [1, 2, 3], none⟩
abbrev ir_ref06_row : Fn := { np := 2, nv := 5, res := [(4, none)], body :=
(.seq (.reg r_ref06_row_0)
 (.seq (.seq (.reg r_ref06_row_1)
 (.cond 25 (.seq (.reg r_ref06_row_2)
 .ret) .skip))
 (.seq (.seq (.reg r_ref06_row_3)
 (.block 0 (.loop b_ref06_row_0)))
 (.seq (.reg r_ref06_row_8)
 .ret)))) }
/- f61 ref01_Size : 0:inputs 1:_ -/
abbrev r_ref01_Size_0 : Reg := ⟨[⟨.mv (.c (.bool false)), none, false⟩], [], [1], none⟩
abbrev r_ref01_Size_1 : Reg := ⟨[⟨.mv (.v 0), none, false⟩, ⟨.bin .geq (.t 0) (.c (.int (1))), none, false⟩, ⟨.mv (.t 0), none, false⟩, ⟨.mv (.v 0), some (.t 0, true), false⟩, ⟨.bin .leq (.t 0) (.c (.int (1024))), some (.t 1, true), false⟩, ⟨.pick (.t 2) (.t 0) (.c (.bool false)), none, false⟩, ⟨.mv (.t 0), none, false⟩], [(1, 0)], [0], none⟩
abbrev ir_ref01_Size : Fn := { np := 1, nv := 2, res := [(1, none)], body :=
(.seq (.reg r_ref01_Size_0)
 (.seq (.reg r_ref01_Size_1)
 .ret)) }
/- f62 ref16_Differ : 0:a 1:b 2:a 3:b 4:i 5:n 6:_ -/
abbrev r_ref16_Differ_0 : Reg := ⟨[⟨.bxi (.v 0), none, false⟩, ⟨.bxi (.v 1), none, false⟩, ⟨.mv (.c (.int (0))), none, false⟩], [(2, 2), (3, 1)], [0, 1, 6], none⟩
abbrev r_ref16_Differ_1 : Reg := ⟨[⟨.fad (.v 2) 0 none, none, false⟩, ⟨.ldi (.t 0) none, none, false⟩, ⟨.fad (.v 3) 0 none, none, false⟩, ⟨.ldi (.t 0) none, none, false⟩, ⟨.cal F_ref01_Common [(.t 2), (.t 0)], none, false⟩, ⟨.mv (.t 0), none, false⟩], [(5, 0)], [], none⟩
abbrev r_ref16_Differ_2 : Reg := ⟨[⟨.mv (.c (.int (0))), none, false⟩], [(4, 0)], [], none⟩
abbrev r_ref16_Differ_3 : Reg := ⟨[⟨.mv (.v 4), none, false⟩, ⟨.mv (.v 5), none, false⟩, ⟨.bin .lss (.t 1) (.t 0), none, false⟩], [], [], some (14, 0)⟩
abbrev r_ref16_Differ_5 : Reg := ⟨[⟨.fad (.v 2) 1 none, none, false⟩, ⟨.ldi (.t 0) none, none, false⟩, ⟨.mv (.v 4), none, false⟩, ⟨.iad (.t 1) (.t 0) 1, none, false⟩, ⟨.ldi (.t 0) none, none, false⟩, ⟨.fad (.v 3) 1 none, none, false⟩, ⟨.ldi (.t 0) none, none, false⟩, ⟨.mv (.v 4), none, false⟩, ⟨.iad (.t 1) (.t 0) 1, none, false⟩, ⟨.ldi (.t 0) none, none, false⟩, ⟨.bin .neq (.t 5) (.t 0), none, false⟩], [], [], some (27, 0)⟩
abbrev r_ref16_Differ_6 : Reg := ⟨[⟨.mv (.v 4), none, false⟩, ⟨.mv (.t 0), none, false⟩], [(6, 0)], [2, 3, 4, 5], none⟩
abbrev r_ref16_Differ_4 : Reg := ⟨[⟨.mv (.v 4), none, false⟩, ⟨.bin .add (.t 0) (.c (.int (1))), none, false⟩, ⟨.mv (.t 0), none, false⟩], [(4, 0)], [], none⟩
abbrev b_ref16_Differ_0 : IC := (.seq (.seq (.reg r_ref16_Differ_3)
 (.cond 14 .skip (.exit 0)))
 (.seq (.block 1 (.seq (.reg r_ref16_Differ_5)
 (.cond 27 (.seq (.reg r_ref16_Differ_6)
 .ret) .skip)))
 (.reg r_ref16_Differ_4)))
abbrev r_ref16_Differ_7 : Reg := ⟨[⟨.mv (.c (.int (-1))), none, false⟩], [(6, 0)], [2, 3, 4, 5], none⟩
abbrev ir_ref16_Differ : Fn := { np := 2, nv := 7, res := [(6, none)], body :=
(.seq (.reg r_ref16_Differ_0)
 (.seq (.reg r_ref16_Differ_1)
 (.seq (.seq (.reg r_ref16_Differ_2)
 (.block 0 (.loop b_ref16_Differ_0)))
 (.seq (.reg r_ref16_Differ_7)
 .ret)))) }
/- f63 word_permitted : 0:inputs 1:_ -/
abbrev r_word_permitted_0 : Reg := ⟨[⟨.mv (.c (.bool false)), none, false⟩], [], [1], none⟩
abbrev r_word_permitted_1 : Reg := ⟨[⟨.mv (.v 0), none, false⟩, ⟨.bin .geq (.t 0) (.c (.int (1))), none, false⟩, ⟨.mv (.t 0), none, false⟩, ⟨.mv (.v 0), some (.t 0, true), false⟩, ⟨.bin .leq (.t 0) (.c (.int (1024))), some (.t 1, true), false⟩, ⟨.pick (.t 2) (.t 0) (.c (.bool false)), none, false⟩, ⟨.mv (.t 0), none, false⟩], [(1, 0)], [0], none⟩
abbrev ir_word_permitted : Fn := { np := 1, nv := 2, res := [(1, none)], body :=
(.seq (.reg r_word_permitted_0)
 (.seq (.reg r_word_permitted_1)
 .ret)) }
/- f64 slices_ContainsFunc_Sint_int : 0:s 1:f 2:_ -/
abbrev r_slices_ContainsFunc_Sint_int_0 : Reg := ⟨[⟨.mv (.c (.bool false)), none, false⟩], [], [2], none⟩
abbrev r_slices_ContainsFunc_Sint_int_1 : Reg := ⟨[⟨.mv (.v 0), none, false⟩, ⟨.mv (.v 1), none, false⟩, ⟨.cal F_slices_IndexFunc_Sint_int [(.t 1), (.t 0)], none, false⟩, ⟨.bin .geq (.t 0) (.c (.int (0))), none, false⟩, ⟨.mv (.t 0), none, false⟩], [(2, 0)], [0, 1], none⟩
abbrev ir_slices_ContainsFunc_Sint_int : Fn := { np := 2, nv := 3, res := [(2, none)], body :=
(.seq (.reg r_slices_ContainsFunc_Sint_int_0)
 (.seq (.reg r_slices_ContainsFunc_Sint_int_1)
 .ret)) }
/- f65 word_Check_1 : 0:a 1:_ 2:_ -/
abbrev r_word_Check_1_0 : Reg := ⟨[⟨.mv (.c (.bool false)), none, false⟩], [], [2], none⟩
abbrev r_word_Check_1_1 : Reg := ⟨[⟨.mv (.v 0), none, false⟩, ⟨.bin .lss (.t 0) (.c (.int (0))), none, false⟩, ⟨.mv (.t 0), none, false⟩, ⟨.mv (.v 0), some (.t 0, false), false⟩, ⟨.ld (.v 1) none, some (.t 1, false), false⟩, ⟨.bin .geq (.t 1) (.t 0), some (.t 2, false), false⟩, ⟨.pick (.t 3) (.c (.bool true)) (.t 0), none, false⟩, ⟨.mv (.t 0), none, false⟩], [(2, 0)], [0, 1], none⟩
abbrev ir_word_Check_1 : Fn := { np := 2, nv := 3, res := [(2, none)], body :=
(.seq (.reg r_word_Check_1_0)
 (.seq (.reg r_word_Check_1_1)
 .ret)) }
/- f66 slices_IndexFunc_Sapi_Trace_api_Trace : 0:s 1:f 2:_ 3:_ 4:i 5:_ -/
abbrev r_slices_IndexFunc_Sapi_Trace_api_Trace_0 : Reg := ⟨[⟨.mv (.c (.int (0))), none, false⟩], [], [5], none⟩
abbrev r_slices_IndexFunc_Sapi_Trace_api_Trace_1 : Reg := ⟨[⟨.mv (.v 0), none, false⟩, ⟨.len (.t 0), none, false⟩, ⟨.mv (.c (.int (0))), none, false⟩], [(3, 1), (2, 0)], [], none⟩
abbrev r_slices_IndexFunc_Sapi_Trace_api_Trace_2 : Reg := ⟨[⟨.bin .lss (.v 2) (.v 3), none, false⟩], [], [], some (9, 0)⟩
abbrev r_slices_IndexFunc_Sapi_Trace_api_Trace_3 : Reg := ⟨[⟨.mv (.v 2), none, false⟩, ⟨.mv (.t 0), none, false⟩], [(4, 0)], [], none⟩
abbrev r_slices_IndexFunc_Sapi_Trace_api_Trace_4 : Reg := ⟨[⟨.mv (.v 1), none, false⟩, ⟨.mv (.v 0), none, false⟩, ⟨.mv (.v 4), none, false⟩, ⟨.iad (.t 1) (.t 0) 2, none, false⟩, ⟨.ld (.t 0) (some 2), none, false⟩, ⟨.cald (.t 4) [(.t 0)], none, false⟩], [], [], some (16, 0)⟩
abbrev r_slices_IndexFunc_Sapi_Trace_api_Trace_5 : Reg := ⟨[⟨.mv (.v 4), none, false⟩, ⟨.mv (.t 0), none, false⟩], [(5, 0)], [0, 1, 2, 3, 4], none⟩
abbrev r_slices_IndexFunc_Sapi_Trace_api_Trace_6 : Reg := ⟨[⟨.bin .add (.v 2) (.c (.int (1))), none, false⟩, ⟨.mv (.t 0), none, false⟩], [(2, 0)], [4], none⟩
abbrev b_slices_IndexFunc_Sapi_Trace_api_Trace_0 : IC := (.seq (.reg r_slices_IndexFunc_Sapi_Trace_api_Trace_2)
 (.seq (.cond 9 .skip (.exit 0))
 (.seq (.block 1 (.seq (.reg r_slices_IndexFunc_Sapi_Trace_api_Trace_3)
 (.seq (.reg r_slices_IndexFunc_Sapi_Trace_api_Trace_4)
 (.cond 16 (.seq (.reg r_slices_IndexFunc_Sapi_Trace_api_Trace_5)
 .ret) .skip))))
 (.reg r_slices_IndexFunc_Sapi_Trace_api_Trace_6))))
abbrev r_slices_IndexFunc_Sapi_Trace_api_Trace_7 : Reg := ⟨[⟨.mv (.c (.int (-1))), none, false⟩], [(5, 0)], [0, 1, 2, 3], none⟩
abbrev ir_slices_IndexFunc_Sapi_Trace_api_Trace : Fn := { np := 2, nv := 6, res := [(5, none)], body :=
(.seq (.reg r_slices_IndexFunc_Sapi_Trace_api_Trace_0)
 (.seq (.seq (.reg r_slices_IndexFunc_Sapi_Trace_api_Trace_1)
 (.block 0 (.loop b_slices_IndexFunc_Sapi_Trace_api_Trace_0)))
 (.seq (.reg r_slices_IndexFunc_Sapi_Trace_api_Trace_7)
 .ret))) }
/- f67 observe_Answer_1 : 0:t 1:_ 2:t 3:_ -/
abbrev r_observe_Answer_1_0 : Reg := ⟨[⟨.bxi (.v 0), none, false⟩, ⟨.mv (.c (.bool false)), none, false⟩], [(2, 1)], [0, 3], none⟩
abbrev r_observe_Answer_1_1 : Reg := ⟨[⟨.fad (.v 2) 0 none, none, false⟩, ⟨.ldi (.t 0) none, none, false⟩, ⟨.ld (.v 1) none, none, false⟩, ⟨.cal F_word_HasPrefix [(.t 1), (.t 0)], none, false⟩, ⟨.mv (.t 0), none, false⟩], [(3, 0)], [1, 2], none⟩
abbrev ir_observe_Answer_1 : Fn := { np := 2, nv := 4, res := [(3, none)], body :=
(.seq (.reg r_observe_Answer_1_0)
 (.seq (.reg r_observe_Answer_1_1)
 .ret)) }
/- f68 word_HasPrefix : 0:w 1:p 2:_ -/
abbrev r_word_HasPrefix_0 : Reg := ⟨[⟨.mv (.c (.bool false)), none, false⟩], [], [2], none⟩
abbrev r_word_HasPrefix_1 : Reg := ⟨[⟨.mv (.v 0), none, false⟩, ⟨.mv (.v 1), none, false⟩, ⟨.cal F_word_Common [(.t 1), (.t 0)], none, false⟩, ⟨.mv (.v 1), none, false⟩, ⟨.len (.t 0), none, false⟩, ⟨.bin .eql (.t 2) (.t 0), none, false⟩, ⟨.mv (.t 0), none, false⟩], [(2, 0)], [0, 1], none⟩
abbrev ir_word_HasPrefix : Fn := { np := 2, nv := 3, res := [(2, none)], body :=
(.seq (.reg r_word_HasPrefix_0)
 (.seq (.reg r_word_HasPrefix_1)
 .ret)) }
/- f69 slices_Clone_Sint_int : 0:s 1:_ -/
abbrev r_slices_Clone_Sint_int_0 : Reg := ⟨[⟨.mv (.c (.snil)), none, false⟩], [], [1], none⟩
abbrev r_slices_Clone_Sint_int_1 : Reg := ⟨[⟨.mv (.v 0), none, false⟩, ⟨.bnl false (.t 0), none, false⟩], [], [], some (4, 0)⟩
abbrev r_slices_Clone_Sint_int_2 : Reg := ⟨[⟨.mv (.c (.snil)), none, false⟩], [(1, 0)], [0], none⟩
abbrev r_slices_Clone_Sint_int_3 : Reg := ⟨[⟨.lita [] 1, none, false⟩, ⟨.mv (.v 0), none, false⟩, ⟨.appw (.t 1) (.t 0) none, none, false⟩, ⟨.mv (.t 0), none, false⟩], [(1, 0)], [0], none⟩
abbrev ir_slices_Clone_Sint_int : Fn := { np := 1, nv := 2, res := [(1, none)], body :=
(.seq (.reg r_slices_Clone_Sint_int_0)
 (.seq (.seq (.reg r_slices_Clone_Sint_int_1)
 (.cond 4 (.seq (.reg r_slices_Clone_Sint_int_2)
 .ret) .skip))
 (.seq (.reg r_slices_Clone_Sint_int_3)
 .ret))) }
/- f70 wordset_ordered : 0:l 1:order 2:out 3:order 4:_ 5:_ 6:_ 7:i 8:w 9:_ -/
abbrev r_wordset_ordered_0 : Reg := ⟨[⟨.bxi (.v 1), none, false⟩, ⟨.mv (.c (.snil)), none, false⟩], [(3, 1)], [1, 9], none⟩
abbrev r_wordset_ordered_1 : Reg := ⟨[⟨.mv (.v 0), none, false⟩, ⟨.can F_slices_Clone_SSint_Sint [(.t 0)], none, false⟩, ⟨.mv (.t 0), none, false⟩], [(2, 0)], [0], none⟩
abbrev r_wordset_ordered_2 : Reg := ⟨[⟨.mv (.v 2), none, false⟩, ⟨.ldi (.v 3) none, none, false⟩, ⟨.cam F_slices_SortFunc_SSint_Sint [(.t 1), (.t 0)], none, false⟩], [], [], none⟩
abbrev r_wordset_ordered_3 : Reg := ⟨[⟨.mv (.v 2), none, false⟩, ⟨.mkf F_wordset_ordered_1 [(.v 3)], none, false⟩, ⟨.cam F_slices_CompactFunc_SSint_Sint [(.t 1), (.t 0)], none, false⟩, ⟨.mv (.t 0), none, false⟩], [(2, 0)], [3], none⟩
abbrev r_wordset_ordered_4 : Reg := ⟨[⟨.mv (.v 2), none, false⟩, ⟨.len (.t 0), none, false⟩, ⟨.mv (.c (.int (0))), none, false⟩], [(6, 2), (5, 1), (4, 0)], [], none⟩
abbrev r_wordset_ordered_5 : Reg := ⟨[⟨.bin .lss (.v 4) (.v 5), none, false⟩], [], [], some (19, 0)⟩
abbrev r_wordset_ordered_6 : Reg := ⟨[⟨.mv (.v 4), none, false⟩, ⟨.iad (.v 6) (.v 4) 1, none, false⟩, ⟨.ld (.t 0) none, none, false⟩, ⟨.mv (.t 2), none, false⟩, ⟨.mv (.t 1), none, false⟩], [(7, 1), (8, 0)], [], none⟩
abbrev r_wordset_ordered_7 : Reg := ⟨[⟨.mv (.v 2), none, false⟩, ⟨.mv (.v 7), none, false⟩, ⟨.mv (.v 8), none, false⟩, ⟨.cal F_slices_Clone_Sint_int [(.t 0)], none, false⟩, ⟨.iad (.t 3) (.t 2) 1, none, false⟩, ⟨.st (.t 0) (.t 1) 1, none, false⟩], [], [7, 8], none⟩
abbrev r_wordset_ordered_8 : Reg := ⟨[⟨.bin .add (.v 4) (.c (.int (1))), none, false⟩, ⟨.mv (.t 0), none, false⟩], [(4, 0)], [], none⟩
abbrev b_wordset_ordered_0 : IC := (.seq (.reg r_wordset_ordered_5)
 (.seq (.cond 19 .skip (.exit 0))
 (.seq (.block 1 (.seq (.reg r_wordset_ordered_6)
 (.reg r_wordset_ordered_7)))
 (.reg r_wordset_ordered_8))))
abbrev r_wordset_ordered_9 : Reg := ⟨[⟨.mv (.v 2), none, false⟩, ⟨.mv (.t 0), none, false⟩], [(9, 0)], [2, 4, 5, 6], none⟩
abbrev ir_wordset_ordered : Fn := { np := 2, nv := 10, res := [(9, none)], body :=
(.seq (.reg r_wordset_ordered_0)
 (.seq (.reg r_wordset_ordered_1)
 (.seq (.reg r_wordset_ordered_2)
 (.seq (.reg r_wordset_ordered_3)
 (.seq (.seq (.reg r_wordset_ordered_4)
 (.block 0 (.loop b_wordset_ordered_0)))
 (.seq (.reg r_wordset_ordered_9)
 .ret)))))) }
/- f71 word_Lex : 0:a 1:b 2:_ -/
abbrev r_word_Lex_0 : Reg := ⟨[⟨.mv (.c (.int (0))), none, false⟩], [], [2], none⟩
abbrev r_word_Lex_1 : Reg := ⟨[⟨.mv (.v 0), none, false⟩, ⟨.mv (.v 1), none, false⟩, ⟨.cal F_slices_Compare_Sint_int [(.t 1), (.t 0)], none, false⟩, ⟨.mv (.t 0), none, false⟩], [(2, 0)], [0, 1], none⟩
abbrev ir_word_Lex : Fn := { np := 2, nv := 3, res := [(2, none)], body :=
(.seq (.reg r_word_Lex_0)
 (.seq (.reg r_word_Lex_1)
 .ret)) }
/- f72 wordset_Sorted : 0:l 1:_ -/
abbrev r_wordset_Sorted_0 : Reg := ⟨[⟨.mv (.c (.snil)), none, false⟩], [], [1], none⟩
abbrev r_wordset_Sorted_1 : Reg := ⟨[⟨.mv (.v 0), none, false⟩, ⟨.cal F_wordset_ordered [(.t 0), (.c (.func F_word_Compare []))], none, false⟩, ⟨.mv (.t 0), none, false⟩], [(1, 0)], [0], none⟩
abbrev ir_wordset_Sorted : Fn := { np := 1, nv := 2, res := [(1, none)], body :=
(.seq (.reg r_wordset_Sorted_0)
 (.seq (.reg r_wordset_Sorted_1)
 .ret)) }
/- f73 device_costs : 0:l 1:wrong 2:l 3:_ -/
abbrev r_device_costs_0 : Reg := ⟨[⟨.bxi (.v 0), none, false⟩, ⟨.mv (.c (.int (0))), none, false⟩], [(2, 1)], [0, 3], none⟩
abbrev r_device_costs_1 : Reg := ⟨[⟨.mv (.c (.func F_device_costs_1 [])), none, false⟩], [(1, 0)], [], none⟩
abbrev r_device_costs_2 : Reg := ⟨[⟨.mv (.v 1), none, false⟩, ⟨.fad (.v 2) 1 none, none, false⟩, ⟨.ldi (.t 0) none, none, false⟩, ⟨.cald (.t 2) [(.t 0)], none, false⟩, ⟨.mv (.t 0), none, false⟩, ⟨.fad (.v 2) 0 none, some (.t 0, false), false⟩, ⟨.ldi (.t 0) none, some (.t 1, false), false⟩, ⟨.mv (.v 1), some (.t 2, false), false⟩, ⟨.cal F_slices_ContainsFunc_Sint_int [(.t 1), (.t 0)], some (.t 3, false), false⟩, ⟨.pick (.t 4) (.c (.bool true)) (.t 0), none, false⟩], [], [1, 2], some (13, 0)⟩
abbrev r_device_costs_3 : Reg := ⟨[⟨.mv (.c (.int (2))), none, false⟩], [(3, 0)], [], none⟩
abbrev r_device_costs_4 : Reg := ⟨[⟨.mv (.c (.int (0))), none, false⟩], [(3, 0)], [], none⟩
abbrev ir_device_costs : Fn := { np := 1, nv := 4, res := [(3, none)], body :=
(.seq (.reg r_device_costs_0)
 (.seq (.reg r_device_costs_1)
 (.seq (.seq (.reg r_device_costs_2)
 (.cond 13 (.seq (.reg r_device_costs_3)
 .ret) .skip))
 (.seq (.reg r_device_costs_4)
 .ret)))) }
/- f74 ref19_costs : 0:l 1:i 2:l 3:_ -/
abbrev r_ref19_costs_0 : Reg := ⟨[⟨.bxi (.v 0), none, false⟩, ⟨.mv (.c (.bool false)), none, false⟩], [(2, 1)], [0, 3], none⟩
abbrev r_ref19_costs_1 : Reg := ⟨[⟨.mv (.c (.int (0))), none, false⟩], [(1, 0)], [], none⟩
abbrev r_ref19_costs_2 : Reg := ⟨[⟨.mv (.v 1), none, false⟩, ⟨.fad (.v 2) 0 none, none, false⟩, ⟨.ldi (.t 0) none, none, false⟩, ⟨.len (.t 0), none, false⟩, ⟨.bin .lss (.t 3) (.t 0), none, false⟩], [], [], some (8, 0)⟩
abbrev r_ref19_costs_4 : Reg := ⟨[⟨.fad (.v 2) 0 none, none, false⟩, ⟨.ldi (.t 0) none, none, false⟩, ⟨.mv (.v 1), none, false⟩, ⟨.iad (.t 1) (.t 0) 1, none, false⟩, ⟨.ldi (.t 0) none, none, false⟩, ⟨.bin .lss (.t 0) (.c (.int (0))), none, false⟩, ⟨.mv (.t 0), none, false⟩, ⟨.fad (.v 2) 0 none, some (.t 0, false), false⟩, ⟨.ldi (.t 0) none, some (.t 1, false), false⟩, ⟨.mv (.v 1), some (.t 2, false), false⟩, ⟨.iad (.t 1) (.t 0) 1, some (.t 3, false), false⟩, ⟨.ldi (.t 0) none, some (.t 4, false), false⟩, ⟨.bin .gtr (.t 0) (.c (.int (1048576))), some (.t 5, false), false⟩, ⟨.pick (.t 6) (.c (.bool true)) (.t 0), none, false⟩], [], [], some (24, 0)⟩
abbrev r_ref19_costs_5 : Reg := ⟨[⟨.mv (.c (.bool false)), none, false⟩], [(3, 0)], [1, 2], none⟩
abbrev r_ref19_costs_3 : Reg := ⟨[⟨.mv (.v 1), none, false⟩, ⟨.bin .add (.t 0) (.c (.int (1))), none, false⟩, ⟨.mv (.t 0), none, false⟩], [(1, 0)], [], none⟩
abbrev b_ref19_costs_0 : IC := (.seq (.seq (.reg r_ref19_costs_2)
 (.cond 8 .skip (.exit 0)))
 (.seq (.block 1 (.seq (.reg r_ref19_costs_4)
 (.cond 24 (.seq (.reg r_ref19_costs_5)
 .ret) .skip)))
 (.reg r_ref19_costs_3)))
abbrev r_ref19_costs_6 : Reg := ⟨[⟨.fad (.v 2) 1 none, none, false⟩, ⟨.ldi (.t 0) none, none, false⟩, ⟨.bin .geq (.t 0) (.c (.int (0))), none, false⟩, ⟨.mv (.t 0), none, false⟩, ⟨.fad (.v 2) 1 none, some (.t 0, true), false⟩, ⟨.ldi (.t 0) none, some (.t 1, true), false⟩, ⟨.bin .leq (.t 0) (.c (.int (1048576))), some (.t 2, true), false⟩, ⟨.pick (.t 3) (.t 0) (.c (.bool false)), none, false⟩, ⟨.mv (.t 0), none, false⟩], [(3, 0)], [1, 2], none⟩
abbrev ir_ref19_costs : Fn := { np := 1, nv := 4, res := [(3, none)], body :=
(.seq (.reg r_ref19_costs_0)
 (.seq (.seq (.reg r_ref19_costs_1)
 (.block 0 (.loop b_ref19_costs_0)))
 (.seq (.reg r_ref19_costs_6)
 .ret))) }
/- f75 slices_Concat_Sint_int : 0:slices 1:_ 2:_ 3:_ 4:size 5:s 6:_ 7:_ 8:_ 9:newslice 10:s 11:_ -/
abbrev r_slices_Concat_Sint_int_0 : Reg := ⟨[⟨.mv (.c (.snil)), none, false⟩], [], [11], none⟩
abbrev r_slices_Concat_Sint_int_1 : Reg := ⟨[⟨.mv (.c (.int (0))), none, false⟩], [(4, 0)], [], none⟩
abbrev r_slices_Concat_Sint_int_2 : Reg := ⟨[⟨.mv (.v 0), none, false⟩, ⟨.len (.t 0), none, false⟩, ⟨.mv (.c (.int (0))), none, false⟩], [(3, 2), (2, 1), (1, 0)], [], none⟩
abbrev r_slices_Concat_Sint_int_3 : Reg := ⟨[⟨.bin .lss (.v 1) (.v 2), none, false⟩], [], [], some (12, 0)⟩
abbrev r_slices_Concat_Sint_int_4 : Reg := ⟨[⟨.iad (.v 3) (.v 1) 1, none, false⟩, ⟨.ld (.t 0) none, none, false⟩, ⟨.mv (.t 0), none, false⟩], [(5, 0)], [], none⟩
abbrev r_slices_Concat_Sint_int_5 : Reg := ⟨[⟨.mv (.v 4), none, false⟩, ⟨.mv (.v 5), none, false⟩, ⟨.len (.t 0), none, false⟩, ⟨.bin .add (.t 2) (.t 0), none, false⟩, ⟨.mv (.t 0), none, false⟩], [(4, 0)], [5], none⟩
abbrev r_slices_Concat_Sint_int_6 : Reg := ⟨[⟨.mv (.v 4), none, false⟩, ⟨.bin .lss (.t 0) (.c (.int (0))), none, false⟩], [], [], some (20, 0)⟩
abbrev r_slices_Concat_Sint_int_8 : Reg := ⟨[⟨.bin .add (.v 1) (.c (.int (1))), none, false⟩, ⟨.mv (.t 0), none, false⟩], [(1, 0)], [], none⟩
abbrev b_slices_Concat_Sint_int_0 : IC := (.seq (.reg r_slices_Concat_Sint_int_3)
 (.seq (.cond 12 .skip (.exit 0))
 (.seq (.block 1 (.seq (.reg r_slices_Concat_Sint_int_4)
 (.seq (.reg r_slices_Concat_Sint_int_5)
 (.seq (.reg r_slices_Concat_Sint_int_6)
 (.cond 20 .bad .skip)))))
 (.reg r_slices_Concat_Sint_int_8))))
abbrev r_slices_Concat_Sint_int_9 : Reg := ⟨[⟨.mv (.v 4), none, false⟩, ⟨.can F_slices_Grow_Sint_int [(.c (.snil)), (.t 0)], none, false⟩, ⟨.mv (.t 0), none, false⟩], [(9, 0)], [1, 2, 3, 4], none⟩
abbrev r_slices_Concat_Sint_int_10 : Reg := ⟨[⟨.mv (.v 0), none, false⟩, ⟨.len (.t 0), none, false⟩, ⟨.mv (.c (.int (0))), none, false⟩], [(8, 2), (7, 1), (6, 0)], [0], none⟩
abbrev r_slices_Concat_Sint_int_11 : Reg := ⟨[⟨.bin .lss (.v 6) (.v 7), none, false⟩], [], [], some (28, 0)⟩
abbrev r_slices_Concat_Sint_int_12 : Reg := ⟨[⟨.iad (.v 8) (.v 6) 1, none, false⟩, ⟨.ld (.t 0) none, none, false⟩, ⟨.mv (.t 0), none, false⟩], [(10, 0)], [], none⟩
abbrev r_slices_Concat_Sint_int_13 : Reg := ⟨[⟨.mv (.v 9), none, false⟩, ⟨.mv (.v 10), none, false⟩, ⟨.appw (.t 1) (.t 0) none, none, false⟩, ⟨.mv (.t 0), none, false⟩], [(9, 0)], [10], none⟩
abbrev r_slices_Concat_Sint_int_14 : Reg := ⟨[⟨.bin .add (.v 6) (.c (.int (1))), none, false⟩, ⟨.mv (.t 0), none, false⟩], [(6, 0)], [], none⟩
abbrev b_slices_Concat_Sint_int_2 : IC := (.seq (.reg r_slices_Concat_Sint_int_11)
 (.seq (.cond 28 .skip (.exit 2))
 (.seq (.block 3 (.seq (.reg r_slices_Concat_Sint_int_12)
 (.reg r_slices_Concat_Sint_int_13)))
 (.reg r_slices_Concat_Sint_int_14))))
abbrev r_slices_Concat_Sint_int_15 : Reg := ⟨[⟨.mv (.v 9), none, false⟩, ⟨.mv (.t 0), none, false⟩], [(11, 0)], [6, 7, 8, 9], none⟩
abbrev ir_slices_Concat_Sint_int : Fn := { np := 1, nv := 12, res := [(11, none)], body :=
(.seq (.reg r_slices_Concat_Sint_int_0)
 (.seq (.reg r_slices_Concat_Sint_int_1)
 (.seq (.seq (.reg r_slices_Concat_Sint_int_2)
 (.block 0 (.loop b_slices_Concat_Sint_int_0)))
 (.seq (.reg r_slices_Concat_Sint_int_9)
 (.seq (.seq (.reg r_slices_Concat_Sint_int_10)
 (.block 2 (.loop b_slices_Concat_Sint_int_2)))
 (.seq (.reg r_slices_Concat_Sint_int_15)
 .ret)))))) }
/- f76 batch_fits_1 : 0:n 1:_ -/
abbrev r_batch_fits_1_0 : Reg := ⟨[⟨.mv (.c (.bool false)), none, false⟩], [], [1], none⟩
abbrev r_batch_fits_1_1 : Reg := ⟨[⟨.mv (.v 0), none, false⟩, ⟨.bin .lss (.t 0) (.c (.int (0))), none, false⟩, ⟨.mv (.t 0), none, false⟩, ⟨.mv (.v 0), some (.t 0, false), false⟩, ⟨.bin .gtr (.t 0) (.c (.int (1048576))), some (.t 1, false), false⟩, ⟨.pick (.t 2) (.c (.bool true)) (.t 0), none, false⟩, ⟨.mv (.t 0), none, false⟩], [(1, 0)], [0], none⟩
abbrev ir_batch_fits_1 : Fn := { np := 1, nv := 2, res := [(1, none)], body :=
(.seq (.reg r_batch_fits_1_0)
 (.seq (.reg r_batch_fits_1_1)
 .ret)) }
end Ab
