/- The functions of the program as small texts, printed by a tool of mine. Condition: none. -/
import Derived.Test.YtchamabaodnjkaaAbBase
set_option linter.all false
namespace Ab
abbrev T_string : Nat := 9
def F_law33_MutantApplies : Nat := 3
def F_law33_MutantAlls : Nat := 4
def F_law33_MutantSurvivors : Nat := 5
def F_law33_MutantDiffers : Nat := 6
def F_law33_MutantDetects : Nat := 7
def F_law08_Great : Nat := 8
def F_law33_exampleHolds : Nat := 9
def F_mutant_Apply : Nat := 10
def F_ref33_Apply : Nat := 11
def F_ref06_Same : Nat := 12
def F_mutant_All : Nat := 13
def F_ref33_All : Nat := 14
def F_ref33_Same : Nat := 15
def F_law11_Small : Nat := 16
def F_law33_few : Nat := 17
def F_mutant_Survivors : Nat := 18
def F_ref33_Survivors : Nat := 19
def F_ref06_Valid : Nat := 20
def F_mealy_Outputs : Nat := 21
def F_mealy_Valid : Nat := 22
def F_equiv_Distinguish : Nat := 23
def F_mutant_fits : Nat := 24
def F_mutant_changed : Nat := 25
def F_ref33_fits : Nat := 26
def F_ref33_changed : Nat := 27
def F_ref06_Lists : Nat := 28
def F_mealy_Reach : Nat := 29
def F_slices_Sort_Sint_int : Nat := 30
def F_mutant_transition : Nat := 31
def F_ref06_Reach : Nat := 32
def F_ref06_Outputs : Nat := 33
def F_ref33_single : Nat := 34
def F_word_Check : Nat := 35
def F_mutant_passes : Nat := 36
def F_equiv_Equal : Nat := 37
def F_ref01_Check : Nat := 38
def F_ref09_Equal : Nat := 39
def F_ref33_passes : Nat := 40
def F_ref06_row : Nat := 41
def F_slices_Compact_Sint_int : Nat := 42
def F_equiv_check : Nat := 43
def F_equiv_search : Nat := 44
def F_mutant_clone : Nat := 45
def F_slices_Clone_Sint_int : Nat := 46
def F_ref06_Ints : Nat := 47
def F_slices_pdqsortOrdered_int : Nat := 48
def F_math_bits_Len : Nat := 49
def F_ref06_has : Nat := 50
def F_ref06_insert : Nat := 51
def F_word_permitted : Nat := 52
def F_slices_ContainsFunc_Sint_int : Nat := 53
def F_word_Check_1 : Nat := 54
def F_mealy_Run : Nat := 55
def F_slices_Equal_Sint_int : Nat := 56
def F_ref01_Size : Nat := 57
def F_ref09_Distinguish : Nat := 58
def F_ref06_Run : Nat := 59
def F_word_Join : Nat := 60
def F_slices_insertionSortOrdered_int : Nat := 61
def F_slices_heapSortOrdered_int : Nat := 62
def F_slices_breakPatternsOrdered_int : Nat := 63
def F_slices_choosePivotOrdered_int : Nat := 64
def F_slices_reverseRangeOrdered_int : Nat := 65
def F_slices_partialInsertionSortOrdered_int : Nat := 66
def F_cmp_Less_int : Nat := 67
def F_slices_partitionEqualOrdered_int : Nat := 68
def F_slices_partitionOrdered_int : Nat := 69
def F_math_bits_Len32 : Nat := 70
def F_math_bits_Len64 : Nat := 71
def F_slices_IndexFunc_Sint_int : Nat := 72
def F_mealy_From : Nat := 73
def F_ref09_Check : Nat := 74
def F_ref09_first : Nat := 75
def F_ref06_From : Nat := 76
def F_slices_Concat_Sint_int : Nat := 77
def F_slices_siftDownOrdered_int : Nat := 78
def F_slices_nextPowerOfTwo : Nat := 79
def F_slices_xorshift_Next : Nat := 80
def F_slices_medianAdjacentOrdered_int : Nat := 81
def F_slices_medianOrdered_int : Nat := 82
def F_cmp_isNaN_int : Nat := 83
def F_mealy_state : Nat := 84
def F_mealy_runner_run : Nat := 85
def F_ref09_Extended : Nat := 86
def F_ref06_Outs : Nat := 87
def F_slices_Grow_Sint_int : Nat := 88
def F_slices_order2Ordered_int : Nat := 89
def F_mealy_machine_move : Nat := 90
/- f3 law33_MutantApplies : 0:m 1:x 2:m 3:x 4:a 5:b 6:e 7:f 8:_ -/
abbrev r_law33_MutantApplies_0 : Reg := ⟨[⟨.bxi (.v 0), none, false⟩, ⟨.bxi (.v 1), none, false⟩, ⟨.mv (.c (.bool false)), none, false⟩], [(2, 2), (3, 1)], [0, 1, 8], none⟩
abbrev r_law33_MutantApplies_1 : Reg := ⟨[⟨.ldi (.v 2) (some 4), none, false⟩, ⟨.cal F_law08_Great [(.t 0)], none, false⟩], [], [], some (10, 0)⟩
abbrev r_law33_MutantApplies_2 : Reg := ⟨[⟨.cal F_law33_exampleHolds [], none, false⟩, ⟨.mv (.t 0), none, false⟩], [(8, 0)], [2, 3], none⟩
abbrev r_law33_MutantApplies_3 : Reg := ⟨[⟨.ldi (.v 2) (some 4), none, false⟩, ⟨.ldi (.v 3) (some 5), none, false⟩, ⟨.cal F_mutant_Apply [(.t 1), (.t 0)], none, false⟩, ⟨.mv (.t 0), none, false⟩, ⟨.ext (.t 0) 0, none, false⟩, ⟨.ext (.t 1) 1, none, false⟩, ⟨.alc0 4, none, false⟩, ⟨.ini (.t 0) (.t 2) 4, none, false⟩, ⟨.mv (.t 2), none, false⟩], [(4, 1), (6, 0)], [], none⟩
abbrev r_law33_MutantApplies_4 : Reg := ⟨[⟨.ldi (.v 2) (some 4), none, false⟩, ⟨.ldi (.v 3) (some 5), none, false⟩, ⟨.cal F_ref33_Apply [(.t 1), (.t 0)], none, false⟩, ⟨.mv (.t 0), none, false⟩, ⟨.ext (.t 0) 0, none, false⟩, ⟨.ext (.t 1) 1, none, false⟩, ⟨.alc0 4, none, false⟩, ⟨.ini (.t 0) (.t 2) 4, none, false⟩, ⟨.mv (.t 2), none, false⟩], [(5, 1), (7, 0)], [2, 3], none⟩
abbrev r_law33_MutantApplies_5 : Reg := ⟨[⟨.ldi (.v 4) (some 4), none, false⟩, ⟨.ldi (.v 5) (some 4), none, false⟩, ⟨.cal F_ref06_Same [(.t 1), (.t 0)], none, false⟩, ⟨.mv (.t 0), none, false⟩, ⟨.mv (.v 6), some (.t 0, true), false⟩, ⟨.mv (.v 7), some (.t 1, true), false⟩, ⟨.bin .eql (.t 1) (.t 0), some (.t 2, true), false⟩, ⟨.pick (.t 3) (.t 0) (.c (.bool false)), none, false⟩, ⟨.mv (.t 0), none, false⟩, ⟨.cal F_law33_exampleHolds [], some (.t 0, true), false⟩, ⟨.pick (.t 1) (.t 0) (.c (.bool false)), none, false⟩, ⟨.mv (.t 0), none, false⟩], [(8, 0)], [4, 5, 6, 7], none⟩
abbrev ir_law33_MutantApplies : Fn := { np := 2, nv := 9, res := [(8, none)], body :=
(.seq (.reg r_law33_MutantApplies_0)
 (.seq (.seq (.reg r_law33_MutantApplies_1)
 (.cond 10 (.seq (.reg r_law33_MutantApplies_2)
 .ret) .skip))
 (.seq (.reg r_law33_MutantApplies_3)
 (.seq (.reg r_law33_MutantApplies_4)
 (.seq (.reg r_law33_MutantApplies_5)
 .ret))))) }
/- f4 law33_MutantAlls : 0:m 1:m 2:a 3:b 4:e 5:f 6:_ -/
abbrev r_law33_MutantAlls_0 : Reg := ⟨[⟨.bxi (.v 0), none, false⟩, ⟨.mv (.c (.bool false)), none, false⟩], [(1, 1)], [0, 6], none⟩
abbrev r_law33_MutantAlls_1 : Reg := ⟨[⟨.ldi (.v 1) (some 4), none, false⟩, ⟨.cal F_law08_Great [(.t 0)], none, false⟩], [], [], some (8, 0)⟩
abbrev r_law33_MutantAlls_2 : Reg := ⟨[⟨.cal F_law33_exampleHolds [], none, false⟩, ⟨.mv (.t 0), none, false⟩], [(6, 0)], [1], none⟩
abbrev r_law33_MutantAlls_3 : Reg := ⟨[⟨.ldi (.v 1) (some 4), none, false⟩, ⟨.cal F_mutant_All [(.t 0)], none, false⟩, ⟨.mv (.t 0), none, false⟩, ⟨.ext (.t 0) 0, none, false⟩, ⟨.ext (.t 1) 1, none, false⟩, ⟨.mv (.t 1), none, false⟩, ⟨.mv (.t 1), none, false⟩], [(2, 1), (4, 0)], [], none⟩
abbrev r_law33_MutantAlls_4 : Reg := ⟨[⟨.ldi (.v 1) (some 4), none, false⟩, ⟨.cal F_ref33_All [(.t 0)], none, false⟩, ⟨.mv (.t 0), none, false⟩, ⟨.ext (.t 0) 0, none, false⟩, ⟨.ext (.t 1) 1, none, false⟩, ⟨.mv (.t 1), none, false⟩, ⟨.mv (.t 1), none, false⟩], [(3, 1), (5, 0)], [1], none⟩
abbrev r_law33_MutantAlls_5 : Reg := ⟨[⟨.mv (.v 2), none, false⟩, ⟨.mv (.v 3), none, false⟩, ⟨.cal F_ref33_Same [(.t 1), (.t 0)], none, false⟩, ⟨.mv (.t 0), none, false⟩, ⟨.mv (.v 4), some (.t 0, true), false⟩, ⟨.mv (.v 5), some (.t 1, true), false⟩, ⟨.bin .eql (.t 1) (.t 0), some (.t 2, true), false⟩, ⟨.pick (.t 3) (.t 0) (.c (.bool false)), none, false⟩, ⟨.mv (.t 0), none, false⟩, ⟨.cal F_law33_exampleHolds [], some (.t 0, true), false⟩, ⟨.pick (.t 1) (.t 0) (.c (.bool false)), none, false⟩, ⟨.mv (.t 0), none, false⟩], [(6, 0)], [2, 3, 4, 5], none⟩
abbrev ir_law33_MutantAlls : Fn := { np := 1, nv := 7, res := [(6, none)], body :=
(.seq (.reg r_law33_MutantAlls_0)
 (.seq (.seq (.reg r_law33_MutantAlls_1)
 (.cond 8 (.seq (.reg r_law33_MutantAlls_2)
 .ret) .skip))
 (.seq (.reg r_law33_MutantAlls_3)
 (.seq (.reg r_law33_MutantAlls_4)
 (.seq (.reg r_law33_MutantAlls_5)
 .ret))))) }
/- f5 law33_MutantSurvivors : 0:m 1:words 2:m 3:a 4:b 5:e 6:f 7:_ -/
abbrev r_law33_MutantSurvivors_0 : Reg := ⟨[⟨.bxi (.v 0), none, false⟩, ⟨.mv (.c (.bool false)), none, false⟩], [(2, 1)], [0, 7], none⟩
abbrev r_law33_MutantSurvivors_1 : Reg := ⟨[⟨.ldi (.v 2) (some 4), none, false⟩, ⟨.cal F_law11_Small [(.t 0)], none, false⟩, ⟨.not (.t 0), none, false⟩, ⟨.mv (.t 0), none, false⟩, ⟨.fad (.v 2) 2 none, some (.t 0, false), false⟩, ⟨.ldi (.t 0) none, some (.t 1, false), false⟩, ⟨.len (.t 0), some (.t 2, false), false⟩, ⟨.bin .gtr (.t 0) (.c (.int (6))), some (.t 3, false), false⟩, ⟨.pick (.t 4) (.c (.bool true)) (.t 0), none, false⟩, ⟨.mv (.t 0), none, false⟩, ⟨.fad (.v 2) 0 none, some (.t 0, false), false⟩, ⟨.ldi (.t 0) none, some (.t 1, false), false⟩, ⟨.bin .gtr (.t 0) (.c (.int (3))), some (.t 2, false), false⟩, ⟨.pick (.t 3) (.c (.bool true)) (.t 0), none, false⟩, ⟨.mv (.t 0), none, false⟩, ⟨.mv (.v 1), some (.t 0, false), false⟩, ⟨.cal F_law33_few [(.t 0)], some (.t 1, false), false⟩, ⟨.not (.t 0), some (.t 2, false), false⟩, ⟨.pick (.t 3) (.c (.bool true)) (.t 0), none, false⟩], [], [], some (27, 0)⟩
abbrev r_law33_MutantSurvivors_2 : Reg := ⟨[⟨.cal F_law33_exampleHolds [], none, false⟩, ⟨.mv (.t 0), none, false⟩], [(7, 0)], [1, 2], none⟩
abbrev r_law33_MutantSurvivors_3 : Reg := ⟨[⟨.ldi (.v 2) (some 4), none, false⟩, ⟨.mv (.v 1), none, false⟩, ⟨.cal F_mutant_Survivors [(.t 1), (.t 0)], none, false⟩, ⟨.mv (.t 0), none, false⟩, ⟨.ext (.t 0) 0, none, false⟩, ⟨.ext (.t 1) 1, none, false⟩, ⟨.mv (.t 1), none, false⟩, ⟨.mv (.t 1), none, false⟩], [(3, 1), (5, 0)], [], none⟩
abbrev r_law33_MutantSurvivors_4 : Reg := ⟨[⟨.ldi (.v 2) (some 4), none, false⟩, ⟨.mv (.v 1), none, false⟩, ⟨.cal F_ref33_Survivors [(.t 1), (.t 0)], none, false⟩, ⟨.mv (.t 0), none, false⟩, ⟨.ext (.t 0) 0, none, false⟩, ⟨.ext (.t 1) 1, none, false⟩, ⟨.mv (.t 1), none, false⟩, ⟨.mv (.t 1), none, false⟩], [(4, 1), (6, 0)], [1, 2], none⟩
abbrev r_law33_MutantSurvivors_5 : Reg := ⟨[⟨.mv (.v 3), none, false⟩, ⟨.mv (.v 4), none, false⟩, ⟨.cal F_ref33_Same [(.t 1), (.t 0)], none, false⟩, ⟨.mv (.t 0), none, false⟩, ⟨.mv (.v 5), some (.t 0, true), false⟩, ⟨.mv (.v 6), some (.t 1, true), false⟩, ⟨.bin .eql (.t 1) (.t 0), some (.t 2, true), false⟩, ⟨.pick (.t 3) (.t 0) (.c (.bool false)), none, false⟩, ⟨.mv (.t 0), none, false⟩, ⟨.cal F_law33_exampleHolds [], some (.t 0, true), false⟩, ⟨.pick (.t 1) (.t 0) (.c (.bool false)), none, false⟩, ⟨.mv (.t 0), none, false⟩], [(7, 0)], [3, 4, 5, 6], none⟩
abbrev ir_law33_MutantSurvivors : Fn := { np := 2, nv := 8, res := [(7, none)], body :=
(.seq (.reg r_law33_MutantSurvivors_0)
 (.seq (.seq (.reg r_law33_MutantSurvivors_1)
 (.cond 27 (.seq (.reg r_law33_MutantSurvivors_2)
 .ret) .skip))
 (.seq (.reg r_law33_MutantSurvivors_3)
 (.seq (.reg r_law33_MutantSurvivors_4)
 (.seq (.reg r_law33_MutantSurvivors_5)
 .ret))))) }
/- f6 law33_MutantDiffers : 0:m 1:number 2:m 3:e 4:l 5:x 6:f 7:n 8:more 9:_ 10:_ 11:_ 12:_ 13:s 14:a 15:differ 16:_ -/
abbrev r_law33_MutantDiffers_0 : Reg := ⟨[⟨.bxi (.v 0), none, false⟩, ⟨.mv (.c (.bool false)), none, false⟩], [(2, 1)], [0, 16], none⟩
abbrev r_law33_MutantDiffers_1 : Reg := ⟨[⟨.ldi (.v 2) (some 4), none, false⟩, ⟨.cal F_law11_Small [(.t 0)], none, false⟩, ⟨.not (.t 0), none, false⟩, ⟨.mv (.t 0), none, false⟩, ⟨.ldi (.v 2) (some 4), some (.t 0, false), false⟩, ⟨.cal F_ref06_Valid [(.t 0)], some (.t 1, false), false⟩, ⟨.bin .neq (.t 0) (.c (.int (0))), some (.t 2, false), false⟩, ⟨.pick (.t 3) (.c (.bool true)) (.t 0), none, false⟩], [], [], some (21, 0)⟩
abbrev r_law33_MutantDiffers_2 : Reg := ⟨[⟨.cal F_law33_exampleHolds [], none, false⟩, ⟨.mv (.t 0), none, false⟩], [(16, 0)], [1, 2], none⟩
abbrev r_law33_MutantDiffers_3 : Reg := ⟨[⟨.ldi (.v 2) (some 4), none, false⟩, ⟨.cal F_mutant_All [(.t 0)], none, false⟩, ⟨.mv (.t 0), none, false⟩, ⟨.ext (.t 0) 0, none, false⟩, ⟨.ext (.t 1) 1, none, false⟩, ⟨.mv (.t 1), none, false⟩, ⟨.mv (.t 1), none, false⟩], [(4, 1), (3, 0)], [], none⟩
abbrev r_law33_MutantDiffers_4 : Reg := ⟨[⟨.mv (.v 3), none, false⟩, ⟨.bin .neq (.t 0) (.c (.int (0))), none, false⟩], [], [], some (29, 0)⟩
abbrev r_law33_MutantDiffers_5 : Reg := ⟨[⟨.mv (.v 3), none, false⟩, ⟨.bin .eql (.t 0) (.c (.int (11))), none, false⟩, ⟨.mv (.t 0), none, false⟩, ⟨.cal F_law33_exampleHolds [], some (.t 0, true), false⟩, ⟨.pick (.t 1) (.t 0) (.c (.bool false)), none, false⟩, ⟨.mv (.t 0), none, false⟩], [(16, 0)], [1, 2, 3, 4], none⟩
abbrev r_law33_MutantDiffers_6 : Reg := ⟨[⟨.mv (.v 4), none, false⟩, ⟨.len (.t 0), none, false⟩, ⟨.bin .eql (.t 0) (.c (.int (0))), none, false⟩], [], [3], some (37, 0)⟩
abbrev r_law33_MutantDiffers_7 : Reg := ⟨[⟨.fad (.v 2) 2 none, none, false⟩, ⟨.ldi (.t 0) none, none, false⟩, ⟨.len (.t 0), none, false⟩, ⟨.bin .eql (.t 0) (.c (.int (1))), none, false⟩, ⟨.mv (.t 0), none, false⟩, ⟨.ldi (.v 2) (some 4), some (.t 0, true), false⟩, ⟨.cal F_mealy_Outputs [(.t 0)], some (.t 1, true), false⟩, ⟨.len (.t 0), some (.t 2, true), false⟩, ⟨.bin .eql (.t 0) (.c (.int (1))), some (.t 3, true), false⟩, ⟨.pick (.t 4) (.t 0) (.c (.bool false)), none, false⟩, ⟨.mv (.t 0), none, false⟩, ⟨.cal F_law33_exampleHolds [], some (.t 0, true), false⟩, ⟨.pick (.t 1) (.t 0) (.c (.bool false)), none, false⟩, ⟨.mv (.t 0), none, false⟩], [(16, 0)], [1, 2, 4], none⟩
abbrev r_law33_MutantDiffers_8 : Reg := ⟨[⟨.mv (.v 4), none, false⟩, ⟨.mv (.v 1), none, false⟩, ⟨.cvi (.t 0), none, false⟩, ⟨.mv (.v 4), none, false⟩, ⟨.len (.t 0), none, false⟩, ⟨.bin .rem (.t 2) (.t 0), none, false⟩, ⟨.iad (.t 5) (.t 0) 5, none, false⟩, ⟨.ld (.t 0) (some 5), none, false⟩, ⟨.alc0 5, none, false⟩, ⟨.ini (.t 0) (.t 1) 5, none, false⟩], [(5, 0)], [1, 4], none⟩
abbrev r_law33_MutantDiffers_9 : Reg := ⟨[⟨.ldi (.v 2) (some 4), none, false⟩, ⟨.ldi (.v 5) (some 5), none, false⟩, ⟨.cal F_mutant_Apply [(.t 1), (.t 0)], none, false⟩, ⟨.mv (.t 0), none, false⟩, ⟨.ext (.t 0) 0, none, false⟩, ⟨.ext (.t 1) 1, none, false⟩, ⟨.alc0 4, none, false⟩, ⟨.ini (.t 0) (.t 2) 4, none, false⟩, ⟨.mv (.t 2), none, false⟩], [(7, 1), (6, 0)], [], none⟩
abbrev r_law33_MutantDiffers_10 : Reg := ⟨[⟨.mv (.c (.int (0))), none, false⟩], [(8, 0)], [], none⟩
abbrev r_law33_MutantDiffers_11 : Reg := ⟨[⟨.fad (.v 5) 0 none, none, false⟩, ⟨.ldi (.t 0) none, none, false⟩, ⟨.bin .eql (.t 0) (.c (.int (3))), none, false⟩], [], [], some (67, 0)⟩
abbrev r_law33_MutantDiffers_12 : Reg := ⟨[⟨.mv (.c (.int (1))), none, false⟩], [(8, 0)], [], none⟩
abbrev r_law33_MutantDiffers_13 : Reg := ⟨[⟨.mv (.v 6), none, false⟩, ⟨.bin .neq (.t 0) (.c (.int (0))), none, false⟩, ⟨.mv (.t 0), none, false⟩, ⟨.ldi (.v 7) (some 4), some (.t 0, false), false⟩, ⟨.cal F_mealy_Valid [(.t 0)], some (.t 1, false), false⟩, ⟨.bin .neq (.t 0) (.c (.int (0))), some (.t 2, false), false⟩, ⟨.pick (.t 3) (.c (.bool true)) (.t 0), none, false⟩, ⟨.mv (.t 0), none, false⟩, ⟨.ldi (.v 7) (some 4), some (.t 0, false), false⟩, ⟨.cal F_ref06_Valid [(.t 0)], some (.t 1, false), false⟩, ⟨.bin .neq (.t 0) (.c (.int (0))), some (.t 2, false), false⟩, ⟨.pick (.t 3) (.c (.bool true)) (.t 0), none, false⟩, ⟨.mv (.t 0), none, false⟩, ⟨.fad (.v 7) 2 none, some (.t 0, false), false⟩, ⟨.ldi (.t 0) none, some (.t 1, false), false⟩, ⟨.len (.t 0), some (.t 2, false), false⟩, ⟨.fad (.v 2) 2 none, some (.t 3, false), false⟩, ⟨.ldi (.t 0) none, some (.t 4, false), false⟩, ⟨.len (.t 0), some (.t 5, false), false⟩, ⟨.mv (.v 8), some (.t 6, false), false⟩, ⟨.bin .add (.t 1) (.t 0), some (.t 7, false), false⟩, ⟨.bin .neq (.t 5) (.t 0), some (.t 8, false), false⟩, ⟨.pick (.t 9) (.c (.bool true)) (.t 0), none, false⟩, ⟨.mv (.t 0), none, false⟩, ⟨.fad (.v 7) 0 none, some (.t 0, false), false⟩, ⟨.ldi (.t 0) none, some (.t 1, false), false⟩, ⟨.fad (.v 2) 0 none, some (.t 2, false), false⟩, ⟨.ldi (.t 0) none, some (.t 3, false), false⟩, ⟨.bin .neq (.t 2) (.t 0), some (.t 4, false), false⟩, ⟨.pick (.t 5) (.c (.bool true)) (.t 0), none, false⟩, ⟨.mv (.t 0), none, false⟩, ⟨.fad (.v 7) 1 none, some (.t 0, false), false⟩, ⟨.ldi (.t 0) none, some (.t 1, false), false⟩, ⟨.fad (.v 2) 1 none, some (.t 2, false), false⟩, ⟨.ldi (.t 0) none, some (.t 3, false), false⟩, ⟨.bin .neq (.t 2) (.t 0), some (.t 4, false), false⟩, ⟨.pick (.t 5) (.c (.bool true)) (.t 0), none, false⟩], [], [6, 8], some (104, 0)⟩
abbrev r_law33_MutantDiffers_14 : Reg := ⟨[⟨.mv (.c (.bool false)), none, false⟩], [(16, 0)], [2, 5, 7], none⟩
abbrev r_law33_MutantDiffers_15 : Reg := ⟨[⟨.mv (.c (.int (0))), none, false⟩], [(15, 0)], [], none⟩
abbrev r_law33_MutantDiffers_16 : Reg := ⟨[⟨.fad (.v 2) 2 none, none, false⟩, ⟨.ldi (.t 0) none, none, false⟩, ⟨.len (.t 0), none, false⟩, ⟨.mv (.c (.int (0))), none, false⟩], [(10, 1), (9, 0)], [], none⟩
abbrev r_law33_MutantDiffers_17 : Reg := ⟨[⟨.bin .lss (.v 9) (.v 10), none, false⟩], [], [], some (109, 0)⟩
abbrev r_law33_MutantDiffers_18 : Reg := ⟨[⟨.mv (.v 9), none, false⟩, ⟨.mv (.t 0), none, false⟩], [(13, 0)], [], none⟩
abbrev r_law33_MutantDiffers_19 : Reg := ⟨[⟨.fad (.v 2) 0 none, none, false⟩, ⟨.ldi (.t 0) none, none, false⟩, ⟨.mv (.c (.int (0))), none, false⟩], [(12, 1), (11, 0)], [], none⟩
abbrev r_law33_MutantDiffers_20 : Reg := ⟨[⟨.bin .lss (.v 11) (.v 12), none, false⟩], [], [], some (114, 0)⟩
abbrev r_law33_MutantDiffers_21 : Reg := ⟨[⟨.mv (.v 11), none, false⟩, ⟨.mv (.t 0), none, false⟩], [(14, 0)], [], none⟩
abbrev r_law33_MutantDiffers_22 : Reg := ⟨[⟨.fad (.v 7) 2 none, none, false⟩, ⟨.ldi (.t 0) none, none, false⟩, ⟨.mv (.v 13), none, false⟩, ⟨.iad (.t 1) (.t 0) 1, none, false⟩, ⟨.ldi (.t 0) none, none, false⟩, ⟨.mv (.v 14), none, false⟩, ⟨.iad (.t 1) (.t 0) 1, none, false⟩, ⟨.ldi (.t 0) none, none, false⟩, ⟨.fad (.v 2) 2 none, none, false⟩, ⟨.ldi (.t 0) none, none, false⟩, ⟨.mv (.v 13), none, false⟩, ⟨.iad (.t 1) (.t 0) 1, none, false⟩, ⟨.ldi (.t 0) none, none, false⟩, ⟨.mv (.v 14), none, false⟩, ⟨.iad (.t 1) (.t 0) 1, none, false⟩, ⟨.ldi (.t 0) none, none, false⟩, ⟨.bin .neq (.t 8) (.t 0), none, false⟩, ⟨.mv (.t 0), none, false⟩, ⟨.fad (.v 7) 3 none, some (.t 0, false), false⟩, ⟨.ldi (.t 0) none, some (.t 1, false), false⟩, ⟨.mv (.v 13), some (.t 2, false), false⟩, ⟨.iad (.t 1) (.t 0) 1, some (.t 3, false), false⟩, ⟨.ldi (.t 0) none, some (.t 4, false), false⟩, ⟨.mv (.v 14), some (.t 5, false), false⟩, ⟨.iad (.t 1) (.t 0) 1, some (.t 6, false), false⟩, ⟨.ldi (.t 0) none, some (.t 7, false), false⟩, ⟨.fad (.v 2) 3 none, some (.t 8, false), false⟩, ⟨.ldi (.t 0) none, some (.t 9, false), false⟩, ⟨.mv (.v 13), some (.t 10, false), false⟩, ⟨.iad (.t 1) (.t 0) 1, some (.t 11, false), false⟩, ⟨.ldi (.t 0) none, some (.t 12, false), false⟩, ⟨.mv (.v 14), some (.t 13, false), false⟩, ⟨.iad (.t 1) (.t 0) 1, some (.t 14, false), false⟩, ⟨.ldi (.t 0) none, some (.t 15, false), false⟩, ⟨.bin .neq (.t 8) (.t 0), some (.t 16, false), false⟩, ⟨.pick (.t 17) (.c (.bool true)) (.t 0), none, false⟩], [], [], some (151, 0)⟩
abbrev r_law33_MutantDiffers_23 : Reg := ⟨[⟨.mv (.v 15), none, false⟩, ⟨.bin .add (.t 0) (.c (.int (1))), none, false⟩, ⟨.mv (.t 0), none, false⟩], [(15, 0)], [], none⟩
abbrev r_law33_MutantDiffers_24 : Reg := ⟨[⟨.mv (.v 13), none, false⟩, ⟨.fad (.v 5) 1 none, none, false⟩, ⟨.ldi (.t 0) none, none, false⟩, ⟨.bin .neq (.t 2) (.t 0), none, false⟩, ⟨.mv (.t 0), none, false⟩, ⟨.mv (.v 14), some (.t 0, false), false⟩, ⟨.fad (.v 5) 2 none, some (.t 1, false), false⟩, ⟨.ldi (.t 0) none, some (.t 2, false), false⟩, ⟨.bin .neq (.t 2) (.t 0), some (.t 3, false), false⟩, ⟨.pick (.t 4) (.c (.bool true)) (.t 0), none, false⟩], [], [14], some (163, 0)⟩
abbrev r_law33_MutantDiffers_25 : Reg := ⟨[⟨.mv (.c (.bool false)), none, false⟩], [(16, 0)], [2, 5, 7, 9, 10, 11, 12, 13, 15], none⟩
abbrev r_law33_MutantDiffers_26 : Reg := ⟨[⟨.bin .add (.v 11) (.c (.int (1))), none, false⟩, ⟨.mv (.t 0), none, false⟩], [(11, 0)], [14], none⟩
abbrev b_law33_MutantDiffers_2 : IC := (.seq (.reg r_law33_MutantDiffers_20)
 (.seq (.cond 114 .skip (.exit 2))
 (.seq (.block 3 (.seq (.reg r_law33_MutantDiffers_21)
 (.seq (.reg r_law33_MutantDiffers_22)
 (.cond 151 (.seq (.reg r_law33_MutantDiffers_23)
 (.seq (.reg r_law33_MutantDiffers_24)
 (.cond 163 (.seq (.reg r_law33_MutantDiffers_25)
 .ret) .skip))) .skip))))
 (.reg r_law33_MutantDiffers_26))))
abbrev r_law33_MutantDiffers_27 : Reg := ⟨[⟨.bin .add (.v 9) (.c (.int (1))), none, false⟩, ⟨.mv (.t 0), none, false⟩], [(9, 0)], [11, 12, 13], none⟩
abbrev b_law33_MutantDiffers_0 : IC := (.seq (.reg r_law33_MutantDiffers_17)
 (.seq (.cond 109 .skip (.exit 0))
 (.seq (.block 1 (.seq (.reg r_law33_MutantDiffers_18)
 (.seq (.reg r_law33_MutantDiffers_19)
 (.block 2 (.loop b_law33_MutantDiffers_2)))))
 (.reg r_law33_MutantDiffers_27))))
abbrev r_law33_MutantDiffers_28 : Reg := ⟨[⟨.mv (.v 15), none, false⟩, ⟨.bin .eql (.t 0) (.c (.int (1))), none, false⟩, ⟨.mv (.t 0), none, false⟩, ⟨.cal F_law33_exampleHolds [], some (.t 0, true), false⟩, ⟨.pick (.t 1) (.t 0) (.c (.bool false)), none, false⟩, ⟨.mv (.t 0), none, false⟩], [(16, 0)], [2, 5, 7, 9, 10, 15], none⟩
abbrev ir_law33_MutantDiffers : Fn := { np := 2, nv := 17, res := [(16, none)], body :=
(.seq (.reg r_law33_MutantDiffers_0)
 (.seq (.seq (.reg r_law33_MutantDiffers_1)
 (.cond 21 (.seq (.reg r_law33_MutantDiffers_2)
 .ret) .skip))
 (.seq (.reg r_law33_MutantDiffers_3)
 (.seq (.seq (.reg r_law33_MutantDiffers_4)
 (.cond 29 (.seq (.reg r_law33_MutantDiffers_5)
 .ret) .skip))
 (.seq (.seq (.reg r_law33_MutantDiffers_6)
 (.cond 37 (.seq (.reg r_law33_MutantDiffers_7)
 .ret) .skip))
 (.seq (.reg r_law33_MutantDiffers_8)
 (.seq (.reg r_law33_MutantDiffers_9)
 (.seq (.reg r_law33_MutantDiffers_10)
 (.seq (.seq (.reg r_law33_MutantDiffers_11)
 (.cond 67 (.reg r_law33_MutantDiffers_12) .skip))
 (.seq (.seq (.reg r_law33_MutantDiffers_13)
 (.cond 104 (.seq (.reg r_law33_MutantDiffers_14)
 .ret) .skip))
 (.seq (.reg r_law33_MutantDiffers_15)
 (.seq (.seq (.reg r_law33_MutantDiffers_16)
 (.block 0 (.loop b_law33_MutantDiffers_0)))
 (.seq (.reg r_law33_MutantDiffers_28)
 .ret))))))))))))) }
/- f7 law33_MutantDetects : 0:m 1:words 2:m 3:e 4:l 5:n 6:f 7:g 8:ok 9:w 10:h 11:more 12:_ 13:_ 14:k 15:i 16:_ -/
abbrev r_law33_MutantDetects_0 : Reg := ⟨[⟨.bxi (.v 0), none, false⟩, ⟨.mv (.c (.bool false)), none, false⟩], [(2, 1)], [0, 16], none⟩
abbrev r_law33_MutantDetects_1 : Reg := ⟨[⟨.ldi (.v 2) (some 4), none, false⟩, ⟨.cal F_law11_Small [(.t 0)], none, false⟩, ⟨.not (.t 0), none, false⟩, ⟨.mv (.t 0), none, false⟩, ⟨.fad (.v 2) 2 none, some (.t 0, false), false⟩, ⟨.ldi (.t 0) none, some (.t 1, false), false⟩, ⟨.len (.t 0), some (.t 2, false), false⟩, ⟨.bin .gtr (.t 0) (.c (.int (6))), some (.t 3, false), false⟩, ⟨.pick (.t 4) (.c (.bool true)) (.t 0), none, false⟩, ⟨.mv (.t 0), none, false⟩, ⟨.fad (.v 2) 0 none, some (.t 0, false), false⟩, ⟨.ldi (.t 0) none, some (.t 1, false), false⟩, ⟨.bin .gtr (.t 0) (.c (.int (3))), some (.t 2, false), false⟩, ⟨.pick (.t 3) (.c (.bool true)) (.t 0), none, false⟩, ⟨.mv (.t 0), none, false⟩, ⟨.mv (.v 1), some (.t 0, false), false⟩, ⟨.cal F_law33_few [(.t 0)], some (.t 1, false), false⟩, ⟨.not (.t 0), some (.t 2, false), false⟩, ⟨.pick (.t 3) (.c (.bool true)) (.t 0), none, false⟩, ⟨.mv (.t 0), none, false⟩, ⟨.ldi (.v 2) (some 4), some (.t 0, false), false⟩, ⟨.cal F_ref06_Valid [(.t 0)], some (.t 1, false), false⟩, ⟨.bin .neq (.t 0) (.c (.int (0))), some (.t 2, false), false⟩, ⟨.pick (.t 3) (.c (.bool true)) (.t 0), none, false⟩], [], [], some (39, 0)⟩
abbrev r_law33_MutantDetects_2 : Reg := ⟨[⟨.cal F_law33_exampleHolds [], none, false⟩, ⟨.mv (.t 0), none, false⟩], [(16, 0)], [1, 2], none⟩
abbrev r_law33_MutantDetects_3 : Reg := ⟨[⟨.ldi (.v 2) (some 4), none, false⟩, ⟨.mv (.v 1), none, false⟩, ⟨.cab F_mutant_Survivors [(.t 1), (.t 0)], none, false⟩, ⟨.mv (.t 0), none, false⟩, ⟨.ext (.t 0) 0, none, false⟩, ⟨.ext (.t 1) 1, none, false⟩, ⟨.mv (.t 1), none, false⟩, ⟨.mv (.t 1), none, false⟩], [(4, 1), (3, 0)], [], none⟩
abbrev r_law33_MutantDetects_4 : Reg := ⟨[⟨.mv (.v 3), none, false⟩, ⟨.bin .neq (.t 0) (.c (.int (0))), none, false⟩, ⟨.mv (.t 0), none, false⟩, ⟨.mv (.v 4), some (.t 0, false), false⟩, ⟨.len (.t 0), some (.t 1, false), false⟩, ⟨.bin .eql (.t 0) (.c (.int (0))), some (.t 2, false), false⟩, ⟨.pick (.t 3) (.c (.bool true)) (.t 0), none, false⟩], [], [3], some (53, 0)⟩
abbrev r_law33_MutantDetects_5 : Reg := ⟨[⟨.mv (.v 4), none, false⟩, ⟨.len (.t 0), none, false⟩, ⟨.bin .eql (.t 0) (.c (.int (0))), none, false⟩, ⟨.mv (.t 0), none, false⟩, ⟨.cal F_law33_exampleHolds [], some (.t 0, true), false⟩, ⟨.pick (.t 1) (.t 0) (.c (.bool false)), none, false⟩, ⟨.mv (.t 0), none, false⟩], [(16, 0)], [1, 2, 4], none⟩
abbrev r_law33_MutantDetects_6 : Reg := ⟨[⟨.ldi (.v 2) (some 4), none, false⟩, ⟨.mv (.v 4), none, false⟩, ⟨.iad (.t 0) (.c (.int (0))) 5, none, false⟩, ⟨.ld (.t 0) (some 5), none, false⟩, ⟨.cal F_mutant_Apply [(.t 3), (.t 0)], none, false⟩, ⟨.mv (.t 0), none, false⟩, ⟨.ext (.t 0) 0, none, false⟩, ⟨.ext (.t 1) 1, none, false⟩, ⟨.alc0 4, none, false⟩, ⟨.ini (.t 0) (.t 2) 4, none, false⟩, ⟨.mv (.t 2), none, false⟩], [(5, 1), (6, 0)], [], none⟩
abbrev r_law33_MutantDetects_7 : Reg := ⟨[⟨.ldi (.v 2) (some 4), none, false⟩, ⟨.ldi (.v 5) (some 4), none, false⟩, ⟨.cal F_equiv_Distinguish [(.t 1), (.t 0)], none, false⟩, ⟨.mv (.t 0), none, false⟩, ⟨.ext (.t 0) 0, none, false⟩, ⟨.ext (.t 1) 1, none, false⟩, ⟨.ext (.t 2) 2, none, false⟩, ⟨.mv (.t 2), none, false⟩, ⟨.mv (.t 2), none, false⟩, ⟨.mv (.t 2), none, false⟩], [(9, 2), (8, 1), (7, 0)], [5], none⟩
abbrev r_law33_MutantDetects_8 : Reg := ⟨[⟨.mv (.v 6), none, false⟩, ⟨.bin .neq (.t 0) (.c (.int (0))), none, false⟩, ⟨.mv (.t 0), none, false⟩, ⟨.mv (.v 7), some (.t 0, false), false⟩, ⟨.bin .neq (.t 0) (.c (.int (0))), some (.t 1, false), false⟩, ⟨.pick (.t 2) (.c (.bool true)) (.t 0), none, false⟩, ⟨.mv (.t 0), none, false⟩, ⟨.mv (.v 8), some (.t 0, false), false⟩, ⟨.not (.t 0), some (.t 1, false), false⟩, ⟨.pick (.t 2) (.c (.bool true)) (.t 0), none, false⟩], [], [6, 7, 8], some (84, 0)⟩
abbrev r_law33_MutantDetects_9 : Reg := ⟨[⟨.mv (.c (.bool false)), none, false⟩], [(16, 0)], [1, 2, 4, 9], none⟩
abbrev r_law33_MutantDetects_10 : Reg := ⟨[⟨.ldi (.v 2) (some 4), none, false⟩, ⟨.litm [] none, none, false⟩, ⟨.mv (.v 1), none, false⟩, ⟨.app (.t 1) (.t 0) none, none, false⟩, ⟨.mv (.v 9), none, false⟩, ⟨.lita [(.t 0)] 1, none, false⟩, ⟨.app (.t 2) (.t 0) none, none, false⟩, ⟨.cab F_mutant_Survivors [(.t 6), (.t 0)], none, false⟩, ⟨.mv (.t 0), none, false⟩, ⟨.ext (.t 0) 0, none, false⟩, ⟨.ext (.t 1) 1, none, false⟩, ⟨.mv (.t 1), none, false⟩, ⟨.mv (.t 1), none, false⟩], [(11, 1), (10, 0)], [1, 2, 9], none⟩
abbrev r_law33_MutantDetects_11 : Reg := ⟨[⟨.mv (.v 10), none, false⟩, ⟨.bin .neq (.t 0) (.c (.int (0))), none, false⟩, ⟨.mv (.t 0), none, false⟩, ⟨.mv (.v 11), some (.t 0, false), false⟩, ⟨.len (.t 0), some (.t 1, false), false⟩, ⟨.mv (.v 4), some (.t 2, false), false⟩, ⟨.len (.t 0), some (.t 3, false), false⟩, ⟨.bin .geq (.t 2) (.t 0), some (.t 4, false), false⟩, ⟨.pick (.t 5) (.c (.bool true)) (.t 0), none, false⟩], [], [10], some (104, 0)⟩
abbrev r_law33_MutantDetects_12 : Reg := ⟨[⟨.mv (.c (.bool false)), none, false⟩], [(16, 0)], [4, 11], none⟩
abbrev r_law33_MutantDetects_13 : Reg := ⟨[⟨.mv (.c (.int (0))), none, false⟩], [(14, 0)], [], none⟩
abbrev r_law33_MutantDetects_14 : Reg := ⟨[⟨.mv (.v 4), none, false⟩, ⟨.len (.t 0), none, false⟩, ⟨.mv (.c (.int (0))), none, false⟩], [(13, 1), (12, 0)], [], none⟩
abbrev r_law33_MutantDetects_15 : Reg := ⟨[⟨.bin .lss (.v 12) (.v 13), none, false⟩], [], [], some (108, 0)⟩
abbrev r_law33_MutantDetects_16 : Reg := ⟨[⟨.mv (.v 12), none, false⟩, ⟨.mv (.t 0), none, false⟩], [(15, 0)], [], none⟩
abbrev r_law33_MutantDetects_17 : Reg := ⟨[⟨.mv (.v 14), none, false⟩, ⟨.mv (.v 11), none, false⟩, ⟨.len (.t 0), none, false⟩, ⟨.bin .lss (.t 2) (.t 0), none, false⟩, ⟨.mv (.t 0), none, false⟩, ⟨.mv (.v 4), some (.t 0, true), false⟩, ⟨.mv (.v 15), some (.t 1, true), false⟩, ⟨.iad (.t 1) (.t 0) 5, some (.t 2, true), false⟩, ⟨.ld (.t 0) (some 5), some (.t 3, true), false⟩, ⟨.mv (.v 11), some (.t 4, true), false⟩, ⟨.mv (.v 14), some (.t 5, true), false⟩, ⟨.iad (.t 1) (.t 0) 5, some (.t 6, true), false⟩, ⟨.ld (.t 0) (some 5), some (.t 7, true), false⟩, ⟨.seq false 5 (.t 4) (.t 0), some (.t 8, true), false⟩, ⟨.pick (.t 9) (.t 0) (.c (.bool false)), none, false⟩], [], [15], some (124, 0)⟩
abbrev r_law33_MutantDetects_18 : Reg := ⟨[⟨.mv (.v 14), none, false⟩, ⟨.bin .add (.t 0) (.c (.int (1))), none, false⟩, ⟨.mv (.t 0), none, false⟩], [(14, 0)], [], none⟩
abbrev r_law33_MutantDetects_19 : Reg := ⟨[⟨.bin .add (.v 12) (.c (.int (1))), none, false⟩, ⟨.mv (.t 0), none, false⟩], [(12, 0)], [], none⟩
abbrev b_law33_MutantDetects_0 : IC := (.seq (.reg r_law33_MutantDetects_15)
 (.seq (.cond 108 .skip (.exit 0))
 (.seq (.block 1 (.seq (.reg r_law33_MutantDetects_16)
 (.seq (.reg r_law33_MutantDetects_17)
 (.cond 124 (.reg r_law33_MutantDetects_18) .skip))))
 (.reg r_law33_MutantDetects_19))))
abbrev r_law33_MutantDetects_20 : Reg := ⟨[⟨.mv (.v 14), none, false⟩, ⟨.mv (.v 11), none, false⟩, ⟨.len (.t 0), none, false⟩, ⟨.bin .eql (.t 2) (.t 0), none, false⟩, ⟨.mv (.t 0), none, false⟩, ⟨.mv (.v 11), some (.t 0, true), false⟩, ⟨.len (.t 0), some (.t 1, true), false⟩, ⟨.bin .eql (.t 0) (.c (.int (0))), some (.t 2, true), false⟩, ⟨.mv (.t 0), some (.t 3, true), false⟩, ⟨.mv (.v 11), some (.t 0, false), false⟩, ⟨.iad (.t 0) (.c (.int (0))) 5, some (.t 1, false), false⟩, ⟨.ld (.t 0) (some 5), some (.t 2, false), false⟩, ⟨.mv (.v 4), some (.t 3, false), false⟩, ⟨.iad (.t 0) (.c (.int (0))) 5, some (.t 4, false), false⟩, ⟨.ld (.t 0) (some 5), some (.t 5, false), false⟩, ⟨.seq true 5 (.t 3) (.t 0), some (.t 6, false), false⟩, ⟨.pick (.t 7) (.c (.bool true)) (.t 0), some (.t 11, true), false⟩, ⟨.pick (.t 12) (.t 0) (.c (.bool false)), none, false⟩, ⟨.mv (.t 0), none, false⟩, ⟨.cal F_law33_exampleHolds [], some (.t 0, true), false⟩, ⟨.pick (.t 1) (.t 0) (.c (.bool false)), none, false⟩, ⟨.mv (.t 0), none, false⟩], [(16, 0)], [4, 11, 12, 13, 14], none⟩
abbrev ir_law33_MutantDetects : Fn := { np := 2, nv := 17, res := [(16, none)], body :=
(.seq (.reg r_law33_MutantDetects_0)
 (.seq (.seq (.reg r_law33_MutantDetects_1)
 (.cond 39 (.seq (.reg r_law33_MutantDetects_2)
 .ret) .skip))
 (.seq (.reg r_law33_MutantDetects_3)
 (.seq (.seq (.reg r_law33_MutantDetects_4)
 (.cond 53 (.seq (.reg r_law33_MutantDetects_5)
 .ret) .skip))
 (.seq (.reg r_law33_MutantDetects_6)
 (.seq (.reg r_law33_MutantDetects_7)
 (.seq (.seq (.reg r_law33_MutantDetects_8)
 (.cond 84 (.seq (.reg r_law33_MutantDetects_9)
 .ret) .skip))
 (.seq (.reg r_law33_MutantDetects_10)
 (.seq (.seq (.reg r_law33_MutantDetects_11)
 (.cond 104 (.seq (.reg r_law33_MutantDetects_12)
 .ret) .skip))
 (.seq (.reg r_law33_MutantDetects_13)
 (.seq (.seq (.reg r_law33_MutantDetects_14)
 (.block 0 (.loop b_law33_MutantDetects_0)))
 (.seq (.reg r_law33_MutantDetects_20)
 .ret)))))))))))) }
/- f8 law08_Great : 0:m 1:m 2:_ 3:_ 4:i 5:_ 6:_ 7:i 8:_ -/
abbrev r_law08_Great_0 : Reg := ⟨[⟨.bxi (.v 0), none, false⟩, ⟨.mv (.c (.bool false)), none, false⟩], [(1, 1)], [0, 8], none⟩
abbrev r_law08_Great_1 : Reg := ⟨[⟨.fad (.v 1) 2 none, none, false⟩, ⟨.ldi (.t 0) none, none, false⟩, ⟨.len (.t 0), none, false⟩, ⟨.bin .gtr (.t 0) (.c (.int (12))), none, false⟩, ⟨.mv (.t 0), none, false⟩, ⟨.fad (.v 1) 3 none, some (.t 0, false), false⟩, ⟨.ldi (.t 0) none, some (.t 1, false), false⟩, ⟨.len (.t 0), some (.t 2, false), false⟩, ⟨.bin .gtr (.t 0) (.c (.int (12))), some (.t 3, false), false⟩, ⟨.pick (.t 4) (.c (.bool true)) (.t 0), none, false⟩, ⟨.mv (.t 0), none, false⟩, ⟨.fad (.v 1) 0 none, some (.t 0, false), false⟩, ⟨.ldi (.t 0) none, some (.t 1, false), false⟩, ⟨.bin .gtr (.t 0) (.c (.int (6))), some (.t 2, false), false⟩, ⟨.pick (.t 3) (.c (.bool true)) (.t 0), none, false⟩], [], [], some (19, 0)⟩
abbrev r_law08_Great_2 : Reg := ⟨[⟨.mv (.c (.bool true)), none, false⟩], [(8, 0)], [1], none⟩
abbrev r_law08_Great_3 : Reg := ⟨[⟨.fad (.v 1) 2 none, none, false⟩, ⟨.ldi (.t 0) none, none, false⟩, ⟨.len (.t 0), none, false⟩, ⟨.mv (.c (.int (0))), none, false⟩], [(3, 1), (2, 0)], [], none⟩
abbrev r_law08_Great_4 : Reg := ⟨[⟨.bin .lss (.v 2) (.v 3), none, false⟩], [], [], some (24, 0)⟩
abbrev r_law08_Great_5 : Reg := ⟨[⟨.mv (.v 2), none, false⟩, ⟨.mv (.t 0), none, false⟩], [(4, 0)], [], none⟩
abbrev r_law08_Great_6 : Reg := ⟨[⟨.fad (.v 1) 2 none, none, false⟩, ⟨.ldi (.t 0) none, none, false⟩, ⟨.mv (.v 4), none, false⟩, ⟨.iad (.t 1) (.t 0) 1, none, false⟩, ⟨.ldi (.t 0) none, none, false⟩, ⟨.len (.t 0), none, false⟩, ⟨.bin .gtr (.t 0) (.c (.int (12))), none, false⟩], [], [4], some (32, 0)⟩
abbrev r_law08_Great_7 : Reg := ⟨[⟨.mv (.c (.bool true)), none, false⟩], [(8, 0)], [1, 2, 3], none⟩
abbrev r_law08_Great_8 : Reg := ⟨[⟨.bin .add (.v 2) (.c (.int (1))), none, false⟩, ⟨.mv (.t 0), none, false⟩], [(2, 0)], [], none⟩
abbrev b_law08_Great_0 : IC := (.seq (.reg r_law08_Great_4)
 (.seq (.cond 24 .skip (.exit 0))
 (.seq (.block 1 (.seq (.reg r_law08_Great_5)
 (.seq (.reg r_law08_Great_6)
 (.cond 32 (.seq (.reg r_law08_Great_7)
 .ret) .skip))))
 (.reg r_law08_Great_8))))
abbrev r_law08_Great_9 : Reg := ⟨[⟨.fad (.v 1) 3 none, none, false⟩, ⟨.ldi (.t 0) none, none, false⟩, ⟨.len (.t 0), none, false⟩, ⟨.mv (.c (.int (0))), none, false⟩], [(6, 1), (5, 0)], [2, 3], none⟩
abbrev r_law08_Great_10 : Reg := ⟨[⟨.bin .lss (.v 5) (.v 6), none, false⟩], [], [], some (38, 0)⟩
abbrev r_law08_Great_11 : Reg := ⟨[⟨.mv (.v 5), none, false⟩, ⟨.mv (.t 0), none, false⟩], [(7, 0)], [], none⟩
abbrev r_law08_Great_12 : Reg := ⟨[⟨.fad (.v 1) 3 none, none, false⟩, ⟨.ldi (.t 0) none, none, false⟩, ⟨.mv (.v 7), none, false⟩, ⟨.iad (.t 1) (.t 0) 1, none, false⟩, ⟨.ldi (.t 0) none, none, false⟩, ⟨.len (.t 0), none, false⟩, ⟨.bin .gtr (.t 0) (.c (.int (12))), none, false⟩], [], [7], some (46, 0)⟩
abbrev r_law08_Great_13 : Reg := ⟨[⟨.mv (.c (.bool true)), none, false⟩], [(8, 0)], [1, 5, 6], none⟩
abbrev r_law08_Great_14 : Reg := ⟨[⟨.bin .add (.v 5) (.c (.int (1))), none, false⟩, ⟨.mv (.t 0), none, false⟩], [(5, 0)], [], none⟩
abbrev b_law08_Great_2 : IC := (.seq (.reg r_law08_Great_10)
 (.seq (.cond 38 .skip (.exit 2))
 (.seq (.block 3 (.seq (.reg r_law08_Great_11)
 (.seq (.reg r_law08_Great_12)
 (.cond 46 (.seq (.reg r_law08_Great_13)
 .ret) .skip))))
 (.reg r_law08_Great_14))))
abbrev r_law08_Great_15 : Reg := ⟨[⟨.mv (.c (.bool false)), none, false⟩], [(8, 0)], [1, 5, 6], none⟩
abbrev ir_law08_Great : Fn := { np := 1, nv := 9, res := [(8, none)], body :=
(.seq (.reg r_law08_Great_0)
 (.seq (.seq (.reg r_law08_Great_1)
 (.cond 19 (.seq (.reg r_law08_Great_2)
 .ret) .skip))
 (.seq (.seq (.reg r_law08_Great_3)
 (.block 0 (.loop b_law08_Great_0)))
 (.seq (.seq (.reg r_law08_Great_9)
 (.block 2 (.loop b_law08_Great_2)))
 (.seq (.reg r_law08_Great_15)
 .ret))))) }
/- f9 law33_exampleHolds : 0:m 1:e 2:f 3:g 4:h 5:l 6:want 7:a 8:s 9:_ -/
abbrev r_law33_exampleHolds_0 : Reg := ⟨[⟨.mv (.c (.bool false)), none, false⟩], [], [9], none⟩
abbrev r_law33_exampleHolds_1 : Reg := ⟨[⟨.liti [(.c (.int (1)))] 1, none, false⟩, ⟨.liti [(.c (.int (0)))] 1, none, false⟩, ⟨.liti [(.t 1), (.t 0)] 1, none, false⟩, ⟨.liti [(.c (.int (0)))] 1, none, false⟩, ⟨.liti [(.c (.int (1)))] 1, none, false⟩, ⟨.liti [(.t 1), (.t 0)] 1, none, false⟩, ⟨.bld [.int 0, .int 0, .snil, .snil] [(0, 1, (.c (.int (1)))), (2, 1, (.t 3)), (3, 1, (.t 0))], none, false⟩, ⟨.alc0 4, none, false⟩, ⟨.ini (.t 0) (.t 1) 4, none, false⟩], [(0, 0)], [], none⟩
abbrev r_law33_exampleHolds_2 : Reg := ⟨[⟨.ldi (.v 0) (some 4), none, false⟩, ⟨.cal F_mutant_All [(.t 0)], none, false⟩, ⟨.mv (.t 0), none, false⟩, ⟨.ext (.t 0) 0, none, false⟩, ⟨.ext (.t 1) 1, none, false⟩, ⟨.mv (.t 1), none, false⟩, ⟨.mv (.t 1), none, false⟩], [(5, 1), (1, 0)], [], none⟩
abbrev r_law33_exampleHolds_3 : Reg := ⟨[⟨.bld [.int 0, .int 0, .int 0, .int 0, .int 0] [(0, 1, (.c (.int (1)))), (3, 1, (.c (.int (1))))], none, false⟩, ⟨.bld [.int 0, .int 0, .int 0, .int 0, .int 0] [(0, 1, (.c (.int (2))))], none, false⟩, ⟨.bld [.int 0, .int 0, .int 0, .int 0, .int 0] [(0, 1, (.c (.int (3))))], none, false⟩, ⟨.bld [.int 0, .int 0, .int 0, .int 0, .int 0] [(0, 1, (.c (.int (1)))), (1, 1, (.c (.int (1))))], none, false⟩, ⟨.bld [.int 0, .int 0, .int 0, .int 0, .int 0] [(0, 1, (.c (.int (2)))), (1, 1, (.c (.int (1)))), (3, 1, (.c (.int (1))))], none, false⟩, ⟨.bld [.int 0, .int 0, .int 0, .int 0, .int 0] [(0, 1, (.c (.int (3)))), (1, 1, (.c (.int (1)))), (3, 1, (.c (.int (1))))], none, false⟩, ⟨.liti [(.t 5), (.t 4), (.t 3), (.t 2), (.t 1), (.t 0)] 5, none, false⟩, ⟨.mv (.t 0), none, false⟩], [(6, 0)], [], none⟩
abbrev r_law33_exampleHolds_4 : Reg := ⟨[⟨.ldi (.v 0) (some 4), none, false⟩, ⟨.bld [.int 0, .int 0, .int 0, .int 0, .int 0] [(0, 1, (.c (.int (3))))], none, false⟩, ⟨.cal F_mutant_Apply [(.t 1), (.t 0)], none, false⟩, ⟨.mv (.t 0), none, false⟩, ⟨.ext (.t 0) 0, none, false⟩, ⟨.ext (.t 1) 1, none, false⟩, ⟨.alc0 4, none, false⟩, ⟨.ini (.t 0) (.t 2) 4, none, false⟩, ⟨.mv (.t 2), none, false⟩], [(7, 1), (2, 0)], [], none⟩
abbrev r_law33_exampleHolds_5 : Reg := ⟨[⟨.ldi (.v 0) (some 4), none, false⟩, ⟨.liti [(.c (.int (0)))] 1, none, false⟩, ⟨.liti [(.t 0)] 1, none, false⟩, ⟨.cal F_mutant_Survivors [(.t 2), (.t 0)], none, false⟩, ⟨.mv (.t 0), none, false⟩, ⟨.ext (.t 0) 0, none, false⟩, ⟨.ext (.t 1) 1, none, false⟩, ⟨.mv (.t 1), none, false⟩, ⟨.mv (.t 1), none, false⟩], [(8, 1), (3, 0)], [], none⟩
abbrev r_law33_exampleHolds_6 : Reg := ⟨[⟨.ldi (.v 0) (some 4), none, false⟩, ⟨.bld [.int 0, .int 0, .int 0, .int 0, .int 0] [(0, 1, (.c (.int (2)))), (4, 1, (.c (.int (1))))], none, false⟩, ⟨.cal F_mutant_Apply [(.t 1), (.t 0)], none, false⟩, ⟨.mv (.t 0), none, false⟩, ⟨.ext (.t 0) 0, none, false⟩, ⟨.ext (.t 1) 1, none, false⟩, ⟨.alc0 4, none, false⟩, ⟨.ini (.t 0) (.t 2) 4, none, false⟩, ⟨.mv (.t 2), none, false⟩], [(4, 0)], [0], none⟩
abbrev r_law33_exampleHolds_7 : Reg := ⟨[⟨.mv (.v 1), none, false⟩, ⟨.bin .eql (.t 0) (.c (.int (0))), none, false⟩, ⟨.mv (.t 0), none, false⟩, ⟨.mv (.v 2), some (.t 0, true), false⟩, ⟨.bin .eql (.t 0) (.c (.int (0))), some (.t 1, true), false⟩, ⟨.pick (.t 2) (.t 0) (.c (.bool false)), none, false⟩, ⟨.mv (.t 0), none, false⟩, ⟨.mv (.v 3), some (.t 0, true), false⟩, ⟨.bin .eql (.t 0) (.c (.int (0))), some (.t 1, true), false⟩, ⟨.pick (.t 2) (.t 0) (.c (.bool false)), none, false⟩, ⟨.mv (.t 0), none, false⟩, ⟨.mv (.v 4), some (.t 0, true), false⟩, ⟨.bin .eql (.t 0) (.c (.int (1))), some (.t 1, true), false⟩, ⟨.pick (.t 2) (.t 0) (.c (.bool false)), none, false⟩, ⟨.mv (.t 0), none, false⟩, ⟨.mv (.v 5), some (.t 0, true), false⟩, ⟨.mv (.v 6), some (.t 1, true), false⟩, ⟨.cal F_ref33_Same [(.t 1), (.t 0)], some (.t 2, true), false⟩, ⟨.pick (.t 3) (.t 0) (.c (.bool false)), none, false⟩, ⟨.mv (.t 0), none, false⟩, ⟨.ldi (.v 7) (some 4), some (.t 0, true), false⟩, ⟨.liti [(.c (.int (2)))] 1, some (.t 1, true), false⟩, ⟨.liti [(.c (.int (0)))] 1, some (.t 2, true), false⟩, ⟨.liti [(.c (.int (0)))] 1, some (.t 3, true), false⟩, ⟨.liti [(.t 2), (.t 1), (.t 0)] 1, some (.t 4, true), false⟩, ⟨.liti [(.c (.int (0)))] 1, some (.t 5, true), false⟩, ⟨.liti [(.c (.int (1)))] 1, some (.t 6, true), false⟩, ⟨.liti [(.c (.int (0)))] 1, some (.t 7, true), false⟩, ⟨.liti [(.t 2), (.t 1), (.t 0)] 1, some (.t 8, true), false⟩, ⟨.bld [.int 0, .int 0, .snil, .snil] [(0, 1, (.c (.int (1)))), (2, 1, (.t 4)), (3, 1, (.t 0))], some (.t 9, true), false⟩, ⟨.cal F_ref06_Same [(.t 9), (.t 0)], some (.t 10, true), false⟩, ⟨.pick (.t 11) (.t 0) (.c (.bool false)), none, false⟩, ⟨.mv (.t 0), none, false⟩, ⟨.mv (.v 8), some (.t 0, true), false⟩, ⟨.mv (.v 6), some (.t 1, true), false⟩, ⟨.slc (.t 0) (some (.c (.int (1)))) none 5, some (.t 2, true), false⟩, ⟨.cal F_ref33_Same [(.t 2), (.t 0)], some (.t 3, true), false⟩, ⟨.pick (.t 4) (.t 0) (.c (.bool false)), none, false⟩, ⟨.mv (.t 0), none, false⟩], [(9, 0)], [1, 2, 3, 4, 5, 6, 7, 8], none⟩
abbrev ir_law33_exampleHolds : Fn := { np := 0, nv := 10, res := [(9, none)], body :=
(.seq (.reg r_law33_exampleHolds_0)
 (.seq (.reg r_law33_exampleHolds_1)
 (.seq (.reg r_law33_exampleHolds_2)
 (.seq (.reg r_law33_exampleHolds_3)
 (.seq (.reg r_law33_exampleHolds_4)
 (.seq (.reg r_law33_exampleHolds_5)
 (.seq (.reg r_law33_exampleHolds_6)
 (.seq (.reg r_law33_exampleHolds_7)
 .ret)))))))) }
/- f10 mutant_Apply : 0:m 1:x 2:m 3:e 4:_ 5:x 6:_ -/
abbrev r_mutant_Apply_0 : Reg := ⟨[⟨.bxi (.v 0), none, false⟩, ⟨.bxi (.v 1), none, false⟩, ⟨.alc [.int 0, .int 0, .snil, .snil] (some 4), none, false⟩, ⟨.mv (.c (.int (0))), none, false⟩], [(2, 3), (5, 2), (4, 1)], [0, 1, 6], none⟩
abbrev r_mutant_Apply_1 : Reg := ⟨[⟨.ldi (.v 2) (some 4), none, false⟩, ⟨.cal F_mealy_Valid [(.t 0)], none, false⟩, ⟨.mv (.t 0), none, false⟩], [(3, 0)], [], none⟩
abbrev r_mutant_Apply_2 : Reg := ⟨[⟨.mv (.v 3), none, false⟩, ⟨.bin .neq (.t 0) (.c (.int (0))), none, false⟩], [], [], some (10, 0)⟩
abbrev r_mutant_Apply_3 : Reg := ⟨[⟨.bld [.int 0, .int 0, .snil, .snil] [], none, false⟩, ⟨.mv (.v 3), none, false⟩, ⟨.st (.v 4) (.t 1) 4, none, false⟩, ⟨.mv (.t 1), none, false⟩], [(6, 0)], [2, 3, 5], none⟩
abbrev r_mutant_Apply_4 : Reg := ⟨[⟨.ldi (.v 2) (some 4), none, false⟩, ⟨.ldi (.v 5) (some 5), none, false⟩, ⟨.cal F_mutant_fits [(.t 1), (.t 0)], none, false⟩, ⟨.not (.t 0), none, false⟩], [], [3], some (16, 0)⟩
abbrev r_mutant_Apply_5 : Reg := ⟨[⟨.bld [.int 0, .int 0, .snil, .snil] [], none, false⟩, ⟨.st (.v 4) (.t 0) 4, none, false⟩, ⟨.mv (.c (.int (1))), none, false⟩], [(6, 0)], [2, 5], none⟩
abbrev r_mutant_Apply_6 : Reg := ⟨[⟨.fad (.v 5) 0 none, none, false⟩, ⟨.ldi (.t 0) none, none, false⟩, ⟨.bin .eql (.t 0) (.c (.int (3))), none, false⟩, ⟨.mv (.t 0), none, false⟩, ⟨.fad (.v 2) 2 none, some (.t 0, true), false⟩, ⟨.ldi (.t 0) none, some (.t 1, true), false⟩, ⟨.len (.t 0), some (.t 2, true), false⟩, ⟨.bin .geq (.t 0) (.c (.int (128))), some (.t 3, true), false⟩, ⟨.pick (.t 4) (.t 0) (.c (.bool false)), none, false⟩], [], [], some (26, 0)⟩
abbrev r_mutant_Apply_7 : Reg := ⟨[⟨.bld [.int 0, .int 0, .snil, .snil] [], none, false⟩, ⟨.st (.v 4) (.t 0) 4, none, false⟩, ⟨.mv (.c (.int (11))), none, false⟩], [(6, 0)], [2, 5], none⟩
abbrev r_mutant_Apply_8 : Reg := ⟨[⟨.ldi (.v 2) (some 4), none, false⟩, ⟨.ldi (.v 5) (some 5), none, false⟩, ⟨.cal F_mutant_changed [(.t 1), (.t 0)], none, false⟩, ⟨.st (.v 4) (.t 0) 4, none, false⟩, ⟨.mv (.c (.int (0))), none, false⟩], [(6, 0)], [2, 5], none⟩
abbrev ir_mutant_Apply : Fn := { np := 2, nv := 7, res := [(4, some (some 4)), (6, none)], body :=
(.seq (.reg r_mutant_Apply_0)
 (.seq (.seq (.reg r_mutant_Apply_1)
 (.seq (.reg r_mutant_Apply_2)
 (.cond 10 (.seq (.reg r_mutant_Apply_3)
 .ret) .skip)))
 (.seq (.seq (.reg r_mutant_Apply_4)
 (.cond 16 (.seq (.reg r_mutant_Apply_5)
 .ret) .skip))
 (.seq (.seq (.reg r_mutant_Apply_6)
 (.cond 26 (.seq (.reg r_mutant_Apply_7)
 .ret) .skip))
 (.seq (.reg r_mutant_Apply_8)
 .ret))))) }
/- f11 ref33_Apply : 0:m 1:x 2:m 3:e 4:_ 5:x 6:s 7:outs 8:next 9:out 10:t 11:_ -/
abbrev r_ref33_Apply_0 : Reg := ⟨[⟨.bxi (.v 0), none, false⟩, ⟨.bxi (.v 1), none, false⟩, ⟨.alc [.int 0, .int 0, .snil, .snil] (some 4), none, false⟩, ⟨.mv (.c (.int (0))), none, false⟩], [(2, 3), (5, 2), (4, 1)], [0, 1, 11], none⟩
abbrev r_ref33_Apply_1 : Reg := ⟨[⟨.ldi (.v 2) (some 4), none, false⟩, ⟨.cal F_ref06_Valid [(.t 0)], none, false⟩, ⟨.mv (.t 0), none, false⟩], [(3, 0)], [], none⟩
abbrev r_ref33_Apply_2 : Reg := ⟨[⟨.mv (.v 3), none, false⟩, ⟨.bin .neq (.t 0) (.c (.int (0))), none, false⟩], [], [], some (15, 0)⟩
abbrev r_ref33_Apply_3 : Reg := ⟨[⟨.bld [.int 0, .int 0, .snil, .snil] [], none, false⟩, ⟨.mv (.v 3), none, false⟩, ⟨.st (.v 4) (.t 1) 4, none, false⟩, ⟨.mv (.t 1), none, false⟩], [(11, 0)], [2, 3, 5], none⟩
abbrev r_ref33_Apply_4 : Reg := ⟨[⟨.ldi (.v 2) (some 4), none, false⟩, ⟨.ldi (.v 5) (some 5), none, false⟩, ⟨.cal F_ref33_fits [(.t 1), (.t 0)], none, false⟩, ⟨.not (.t 0), none, false⟩], [], [3], some (21, 0)⟩
abbrev r_ref33_Apply_5 : Reg := ⟨[⟨.bld [.int 0, .int 0, .snil, .snil] [], none, false⟩, ⟨.st (.v 4) (.t 0) 4, none, false⟩, ⟨.mv (.c (.int (1))), none, false⟩], [(11, 0)], [2, 5], none⟩
abbrev r_ref33_Apply_6 : Reg := ⟨[⟨.fad (.v 5) 0 none, none, false⟩, ⟨.ldi (.t 0) none, none, false⟩, ⟨.bin .eql (.t 0) (.c (.int (3))), none, false⟩, ⟨.mv (.t 0), none, false⟩, ⟨.fad (.v 2) 2 none, some (.t 0, true), false⟩, ⟨.ldi (.t 0) none, some (.t 1, true), false⟩, ⟨.len (.t 0), some (.t 2, true), false⟩, ⟨.bin .eql (.t 0) (.c (.int (128))), some (.t 3, true), false⟩, ⟨.pick (.t 4) (.t 0) (.c (.bool false)), none, false⟩], [], [], some (31, 0)⟩
abbrev r_ref33_Apply_7 : Reg := ⟨[⟨.bld [.int 0, .int 0, .snil, .snil] [], none, false⟩, ⟨.st (.v 4) (.t 0) 4, none, false⟩, ⟨.mv (.c (.int (11))), none, false⟩], [(11, 0)], [2, 5], none⟩
abbrev r_ref33_Apply_8 : Reg := ⟨[⟨.fad (.v 2) 0 none, none, false⟩, ⟨.ldi (.t 0) none, none, false⟩, ⟨.fad (.v 2) 1 none, none, false⟩, ⟨.ldi (.t 0) none, none, false⟩, ⟨.bld [.int 0, .int 0, .snil, .snil] [(0, 1, (.t 2)), (1, 1, (.t 0))], none, false⟩, ⟨.alc [.int 0, .int 0, .snil, .snil] (some 4), none, false⟩, ⟨.st (.t 0) (.t 1) 4, none, false⟩], [(9, 1)], [], none⟩
abbrev r_ref33_Apply_9 : Reg := ⟨[⟨.mv (.c (.int (0))), none, false⟩], [(6, 0)], [], none⟩
abbrev r_ref33_Apply_10 : Reg := ⟨[⟨.mv (.v 6), none, false⟩, ⟨.fad (.v 2) 2 none, none, false⟩, ⟨.ldi (.t 0) none, none, false⟩, ⟨.len (.t 0), none, false⟩, ⟨.bin .lss (.t 3) (.t 0), none, false⟩], [], [], some (42, 0)⟩
abbrev r_ref33_Apply_12 : Reg := ⟨[⟨.fad (.v 2) 2 none, none, false⟩, ⟨.ldi (.t 0) none, none, false⟩, ⟨.mv (.v 6), none, false⟩, ⟨.iad (.t 1) (.t 0) 1, none, false⟩, ⟨.ldi (.t 0) none, none, false⟩, ⟨.fad (.v 2) 3 none, none, false⟩, ⟨.ldi (.t 0) none, none, false⟩, ⟨.mv (.v 6), none, false⟩, ⟨.iad (.t 1) (.t 0) 1, none, false⟩, ⟨.ldi (.t 0) none, none, false⟩, ⟨.mv (.t 5), none, false⟩, ⟨.mv (.t 1), none, false⟩], [(8, 1), (7, 0)], [], none⟩
abbrev r_ref33_Apply_13 : Reg := ⟨[⟨.mv (.v 6), none, false⟩, ⟨.fad (.v 5) 1 none, none, false⟩, ⟨.ldi (.t 0) none, none, false⟩, ⟨.bin .eql (.t 2) (.t 0), none, false⟩, ⟨.mv (.t 0), none, false⟩, ⟨.fad (.v 5) 0 none, some (.t 0, true), false⟩, ⟨.ldi (.t 0) none, some (.t 1, true), false⟩, ⟨.bin .eql (.t 0) (.c (.int (1))), some (.t 2, true), false⟩, ⟨.pick (.t 3) (.t 0) (.c (.bool false)), none, false⟩], [], [], some (63, 0)⟩
abbrev r_ref33_Apply_14 : Reg := ⟨[⟨.mv (.v 7), none, false⟩, ⟨.fad (.v 5) 2 none, none, false⟩, ⟨.ldi (.t 0) none, none, false⟩, ⟨.fad (.v 5) 3 none, none, false⟩, ⟨.ldi (.t 0) none, none, false⟩, ⟨.cal F_ref33_changed [(.t 4), (.t 2), (.t 0)], none, false⟩, ⟨.mv (.t 0), none, false⟩], [(7, 0)], [], none⟩
abbrev r_ref33_Apply_15 : Reg := ⟨[⟨.mv (.v 6), none, false⟩, ⟨.fad (.v 5) 1 none, none, false⟩, ⟨.ldi (.t 0) none, none, false⟩, ⟨.bin .eql (.t 2) (.t 0), none, false⟩, ⟨.mv (.t 0), none, false⟩, ⟨.fad (.v 5) 0 none, some (.t 0, true), false⟩, ⟨.ldi (.t 0) none, some (.t 1, true), false⟩, ⟨.bin .eql (.t 0) (.c (.int (2))), some (.t 2, true), false⟩, ⟨.pick (.t 3) (.t 0) (.c (.bool false)), none, false⟩], [], [], some (78, 0)⟩
abbrev r_ref33_Apply_16 : Reg := ⟨[⟨.mv (.v 8), none, false⟩, ⟨.fad (.v 5) 2 none, none, false⟩, ⟨.ldi (.t 0) none, none, false⟩, ⟨.fad (.v 5) 3 none, none, false⟩, ⟨.ldi (.t 0) none, none, false⟩, ⟨.cal F_ref33_changed [(.t 4), (.t 2), (.t 0)], none, false⟩, ⟨.mv (.t 0), none, false⟩], [(8, 0)], [], none⟩
abbrev r_ref33_Apply_17 : Reg := ⟨[⟨.mv (.v 6), none, false⟩, ⟨.fad (.v 5) 1 none, none, false⟩, ⟨.ldi (.t 0) none, none, false⟩, ⟨.bin .eql (.t 2) (.t 0), none, false⟩, ⟨.mv (.t 0), none, false⟩, ⟨.fad (.v 5) 0 none, some (.t 0, true), false⟩, ⟨.ldi (.t 0) none, some (.t 1, true), false⟩, ⟨.bin .eql (.t 0) (.c (.int (3))), some (.t 2, true), false⟩, ⟨.pick (.t 3) (.t 0) (.c (.bool false)), none, false⟩], [], [], some (93, 0)⟩
abbrev r_ref33_Apply_18 : Reg := ⟨[⟨.mv (.v 8), none, false⟩, ⟨.fad (.v 5) 2 none, none, false⟩, ⟨.ldi (.t 0) none, none, false⟩, ⟨.fad (.v 2) 2 none, none, false⟩, ⟨.ldi (.t 0) none, none, false⟩, ⟨.len (.t 0), none, false⟩, ⟨.cal F_ref33_changed [(.t 5), (.t 3), (.t 0)], none, false⟩, ⟨.mv (.t 0), none, false⟩], [(8, 0)], [], none⟩
abbrev r_ref33_Apply_19 : Reg := ⟨[⟨.fad (.v 9) 2 none, none, false⟩, ⟨.ld (.t 0) none, none, false⟩, ⟨.mv (.v 8), none, false⟩, ⟨.lita [(.t 0)] 1, none, false⟩, ⟨.appw (.t 2) (.t 0) none, none, false⟩, ⟨.fad (.v 9) 2 none, none, false⟩, ⟨.st (.t 0) (.t 1) 1, none, false⟩], [], [8], none⟩
abbrev r_ref33_Apply_20 : Reg := ⟨[⟨.fad (.v 9) 3 none, none, false⟩, ⟨.ld (.t 0) none, none, false⟩, ⟨.mv (.v 7), none, false⟩, ⟨.lita [(.t 0)] 1, none, false⟩, ⟨.appw (.t 2) (.t 0) none, none, false⟩, ⟨.fad (.v 9) 3 none, none, false⟩, ⟨.st (.t 0) (.t 1) 1, none, false⟩], [], [7], none⟩
abbrev r_ref33_Apply_11 : Reg := ⟨[⟨.mv (.v 6), none, false⟩, ⟨.bin .add (.t 0) (.c (.int (1))), none, false⟩, ⟨.mv (.t 0), none, false⟩], [(6, 0)], [], none⟩
abbrev b_ref33_Apply_0 : IC := (.seq (.seq (.reg r_ref33_Apply_10)
 (.cond 42 .skip (.exit 0)))
 (.seq (.block 1 (.seq (.reg r_ref33_Apply_12)
 (.seq (.seq (.reg r_ref33_Apply_13)
 (.cond 63 (.reg r_ref33_Apply_14) .skip))
 (.seq (.seq (.reg r_ref33_Apply_15)
 (.cond 78 (.reg r_ref33_Apply_16) .skip))
 (.seq (.seq (.reg r_ref33_Apply_17)
 (.cond 93 (.reg r_ref33_Apply_18) .skip))
 (.seq (.reg r_ref33_Apply_19)
 (.reg r_ref33_Apply_20)))))))
 (.reg r_ref33_Apply_11)))
abbrev r_ref33_Apply_21 : Reg := ⟨[⟨.fad (.v 5) 0 none, none, false⟩, ⟨.ldi (.t 0) none, none, false⟩, ⟨.bin .eql (.t 0) (.c (.int (3))), none, false⟩], [], [6], some (115, 0)⟩
abbrev r_ref33_Apply_22 : Reg := ⟨[⟨.fad (.v 2) 2 none, none, false⟩, ⟨.ldi (.t 0) none, none, false⟩, ⟨.fad (.v 5) 1 none, none, false⟩, ⟨.ldi (.t 0) none, none, false⟩, ⟨.iad (.t 2) (.t 0) 1, none, false⟩, ⟨.ldi (.t 0) none, none, false⟩, ⟨.fad (.v 5) 2 none, none, false⟩, ⟨.ldi (.t 0) none, none, false⟩, ⟨.iad (.t 2) (.t 0) 1, none, false⟩, ⟨.ldi (.t 0) none, none, false⟩, ⟨.mv (.t 0), none, false⟩], [(10, 0)], [], none⟩
abbrev r_ref33_Apply_23 : Reg := ⟨[⟨.fad (.v 9) 2 none, none, false⟩, ⟨.ld (.t 0) none, none, false⟩, ⟨.fad (.v 2) 2 none, none, false⟩, ⟨.ldi (.t 0) none, none, false⟩, ⟨.mv (.v 10), none, false⟩, ⟨.iad (.t 1) (.t 0) 1, none, false⟩, ⟨.ldi (.t 0) none, none, false⟩, ⟨.lita [(.t 0)] 1, none, false⟩, ⟨.app (.t 6) (.t 0) none, none, false⟩, ⟨.fad (.v 9) 2 none, none, false⟩, ⟨.st (.t 0) (.t 1) 1, none, false⟩], [], [], none⟩
abbrev r_ref33_Apply_24 : Reg := ⟨[⟨.fad (.v 9) 3 none, none, false⟩, ⟨.ld (.t 0) none, none, false⟩, ⟨.fad (.v 2) 3 none, none, false⟩, ⟨.ldi (.t 0) none, none, false⟩, ⟨.mv (.v 10), none, false⟩, ⟨.iad (.t 1) (.t 0) 1, none, false⟩, ⟨.ldi (.t 0) none, none, false⟩, ⟨.fad (.v 5) 4 none, none, false⟩, ⟨.ldi (.t 0) none, none, false⟩, ⟨.fad (.v 5) 3 none, none, false⟩, ⟨.ldi (.t 0) none, none, false⟩, ⟨.cal F_ref33_changed [(.t 4), (.t 2), (.t 0)], none, false⟩, ⟨.lita [(.t 0)] 1, none, false⟩, ⟨.app (.t 11) (.t 0) none, none, false⟩, ⟨.fad (.v 9) 3 none, none, false⟩, ⟨.st (.t 0) (.t 1) 1, none, false⟩], [], [2, 5, 10], none⟩
abbrev r_ref33_Apply_25 : Reg := ⟨[⟨.ld (.v 9) (some 4), none, false⟩, ⟨.st (.v 4) (.t 0) 4, none, false⟩, ⟨.mv (.c (.int (0))), none, false⟩], [(11, 0)], [2, 5, 9], none⟩
abbrev ir_ref33_Apply : Fn := { np := 2, nv := 12, res := [(4, some (some 4)), (11, none)], body :=
(.seq (.reg r_ref33_Apply_0)
 (.seq (.seq (.reg r_ref33_Apply_1)
 (.seq (.reg r_ref33_Apply_2)
 (.cond 15 (.seq (.reg r_ref33_Apply_3)
 .ret) .skip)))
 (.seq (.seq (.reg r_ref33_Apply_4)
 (.cond 21 (.seq (.reg r_ref33_Apply_5)
 .ret) .skip))
 (.seq (.seq (.reg r_ref33_Apply_6)
 (.cond 31 (.seq (.reg r_ref33_Apply_7)
 .ret) .skip))
 (.seq (.reg r_ref33_Apply_8)
 (.seq (.seq (.reg r_ref33_Apply_9)
 (.block 0 (.loop b_ref33_Apply_0)))
 (.seq (.seq (.reg r_ref33_Apply_21)
 (.cond 115 (.seq (.reg r_ref33_Apply_22)
 (.seq (.reg r_ref33_Apply_23)
 (.reg r_ref33_Apply_24))) .skip))
 (.seq (.reg r_ref33_Apply_25)
 .ret)))))))) }
/- f12 ref06_Same : 0:a 1:b 2:a 3:b 4:_ -/
abbrev r_ref06_Same_0 : Reg := ⟨[⟨.bxi (.v 0), none, false⟩, ⟨.bxi (.v 1), none, false⟩, ⟨.mv (.c (.bool false)), none, false⟩], [(2, 2), (3, 1)], [0, 1, 4], none⟩
abbrev r_ref06_Same_1 : Reg := ⟨[⟨.fad (.v 2) 0 none, none, false⟩, ⟨.ldi (.t 0) none, none, false⟩, ⟨.fad (.v 3) 0 none, none, false⟩, ⟨.ldi (.t 0) none, none, false⟩, ⟨.bin .eql (.t 2) (.t 0), none, false⟩, ⟨.mv (.t 0), none, false⟩, ⟨.fad (.v 2) 1 none, some (.t 0, true), false⟩, ⟨.ldi (.t 0) none, some (.t 1, true), false⟩, ⟨.fad (.v 3) 1 none, some (.t 2, true), false⟩, ⟨.ldi (.t 0) none, some (.t 3, true), false⟩, ⟨.bin .eql (.t 2) (.t 0), some (.t 4, true), false⟩, ⟨.pick (.t 5) (.t 0) (.c (.bool false)), none, false⟩, ⟨.mv (.t 0), none, false⟩, ⟨.fad (.v 2) 2 none, some (.t 0, true), false⟩, ⟨.ldi (.t 0) none, some (.t 1, true), false⟩, ⟨.fad (.v 3) 2 none, some (.t 2, true), false⟩, ⟨.ldi (.t 0) none, some (.t 3, true), false⟩, ⟨.cal F_ref06_Lists [(.t 2), (.t 0)], some (.t 4, true), false⟩, ⟨.pick (.t 5) (.t 0) (.c (.bool false)), none, false⟩, ⟨.mv (.t 0), none, false⟩, ⟨.fad (.v 2) 3 none, some (.t 0, true), false⟩, ⟨.ldi (.t 0) none, some (.t 1, true), false⟩, ⟨.fad (.v 3) 3 none, some (.t 2, true), false⟩, ⟨.ldi (.t 0) none, some (.t 3, true), false⟩, ⟨.cal F_ref06_Lists [(.t 2), (.t 0)], some (.t 4, true), false⟩, ⟨.pick (.t 5) (.t 0) (.c (.bool false)), none, false⟩, ⟨.mv (.t 0), none, false⟩], [(4, 0)], [2, 3], none⟩
abbrev ir_ref06_Same : Fn := { np := 2, nv := 5, res := [(4, none)], body :=
(.seq (.reg r_ref06_Same_0)
 (.seq (.reg r_ref06_Same_1)
 .ret)) }
/- f13 mutant_All : 0:m 1:m 2:e 3:states 4:_ 5:_ 6:_ 7:_ 8:_ 9:l 10:s 11:a 12:outs 13:_ 14:_ -/
abbrev r_mutant_All_0 : Reg := ⟨[⟨.bxi (.v 0), none, false⟩, ⟨.mv (.c (.snil)), none, false⟩, ⟨.mv (.c (.int (0))), none, false⟩], [(1, 2)], [0, 13, 14], none⟩
abbrev r_mutant_All_1 : Reg := ⟨[⟨.ldi (.v 1) (some 4), none, false⟩, ⟨.cal F_mealy_Valid [(.t 0)], none, false⟩, ⟨.mv (.t 0), none, false⟩], [(2, 0)], [], none⟩
abbrev r_mutant_All_2 : Reg := ⟨[⟨.mv (.v 2), none, false⟩, ⟨.bin .neq (.t 0) (.c (.int (0))), none, false⟩], [], [], some (14, 0)⟩
abbrev r_mutant_All_3 : Reg := ⟨[⟨.mv (.v 2), none, false⟩, ⟨.mv (.c (.snil)), none, false⟩, ⟨.mv (.t 1), none, false⟩], [(13, 1), (14, 0)], [1, 2], none⟩
abbrev r_mutant_All_4 : Reg := ⟨[⟨.ldi (.v 1) (some 4), none, false⟩, ⟨.can F_mealy_Reach [(.t 0)], none, false⟩, ⟨.mv (.t 0), none, false⟩], [(3, 0)], [2], none⟩
abbrev r_mutant_All_5 : Reg := ⟨[⟨.mv (.v 3), none, false⟩, ⟨.cam F_slices_Sort_Sint_int [(.t 0)], none, false⟩], [], [], none⟩
abbrev r_mutant_All_6 : Reg := ⟨[⟨.ldi (.v 1) (some 4), none, false⟩, ⟨.cal F_mealy_Outputs [(.t 0)], none, false⟩, ⟨.mv (.t 0), none, false⟩], [(12, 0)], [], none⟩
abbrev r_mutant_All_7 : Reg := ⟨[⟨.nl (some 5), none, false⟩], [(9, 0)], [], none⟩
abbrev r_mutant_All_8 : Reg := ⟨[⟨.mv (.v 3), none, false⟩, ⟨.len (.t 0), none, false⟩, ⟨.mv (.c (.int (0))), none, false⟩], [(6, 2), (5, 1), (4, 0)], [3], none⟩
abbrev r_mutant_All_9 : Reg := ⟨[⟨.bin .lss (.v 4) (.v 5), none, false⟩], [], [], some (25, 0)⟩
abbrev r_mutant_All_10 : Reg := ⟨[⟨.iad (.v 6) (.v 4) 1, none, false⟩, ⟨.ld (.t 0) none, none, false⟩, ⟨.mv (.t 0), none, false⟩], [(10, 0)], [], none⟩
abbrev r_mutant_All_11 : Reg := ⟨[⟨.fad (.v 1) 0 none, none, false⟩, ⟨.ldi (.t 0) none, none, false⟩, ⟨.mv (.c (.int (0))), none, false⟩], [(8, 1), (7, 0)], [], none⟩
abbrev r_mutant_All_12 : Reg := ⟨[⟨.bin .lss (.v 7) (.v 8), none, false⟩], [], [], some (31, 0)⟩
abbrev r_mutant_All_13 : Reg := ⟨[⟨.mv (.v 7), none, false⟩, ⟨.mv (.t 0), none, false⟩], [(11, 0)], [], none⟩
abbrev r_mutant_All_14 : Reg := ⟨[⟨.mv (.v 9), none, false⟩, ⟨.ldi (.v 1) (some 4), none, false⟩, ⟨.mv (.v 10), none, false⟩, ⟨.mv (.v 11), none, false⟩, ⟨.mv (.v 12), none, false⟩, ⟨.cal F_mutant_transition [(.t 3), (.t 2), (.t 1), (.t 0)], none, false⟩, ⟨.appw (.t 5) (.t 0) (some 5), none, false⟩, ⟨.mv (.t 0), none, false⟩], [(9, 0)], [11], none⟩
abbrev r_mutant_All_15 : Reg := ⟨[⟨.mv (.v 9), none, false⟩, ⟨.len (.t 0), none, false⟩, ⟨.bin .gtr (.t 0) (.c (.int (10000))), none, false⟩], [], [], some (42, 0)⟩
abbrev r_mutant_All_16 : Reg := ⟨[⟨.mv (.c (.snil)), none, false⟩, ⟨.mv (.c (.int (11))), none, false⟩], [(13, 1), (14, 0)], [1, 4, 5, 6, 7, 8, 9, 10, 12], none⟩
abbrev r_mutant_All_17 : Reg := ⟨[⟨.bin .add (.v 7) (.c (.int (1))), none, false⟩, ⟨.mv (.t 0), none, false⟩], [(7, 0)], [], none⟩
abbrev b_mutant_All_2 : IC := (.seq (.reg r_mutant_All_12)
 (.seq (.cond 31 .skip (.exit 2))
 (.seq (.block 3 (.seq (.reg r_mutant_All_13)
 (.seq (.reg r_mutant_All_14)
 (.seq (.reg r_mutant_All_15)
 (.cond 42 (.seq (.reg r_mutant_All_16)
 .ret) .skip)))))
 (.reg r_mutant_All_17))))
abbrev r_mutant_All_18 : Reg := ⟨[⟨.bin .add (.v 4) (.c (.int (1))), none, false⟩, ⟨.mv (.t 0), none, false⟩], [(4, 0)], [7, 8, 10], none⟩
abbrev b_mutant_All_0 : IC := (.seq (.reg r_mutant_All_9)
 (.seq (.cond 25 .skip (.exit 0))
 (.seq (.block 1 (.seq (.reg r_mutant_All_10)
 (.seq (.reg r_mutant_All_11)
 (.block 2 (.loop b_mutant_All_2)))))
 (.reg r_mutant_All_18))))
abbrev r_mutant_All_19 : Reg := ⟨[⟨.mv (.v 9), none, false⟩, ⟨.mv (.t 0), none, false⟩, ⟨.mv (.c (.int (0))), none, false⟩], [(13, 1), (14, 0)], [1, 4, 5, 6, 9, 12], none⟩
abbrev ir_mutant_All : Fn := { np := 1, nv := 15, res := [(13, none), (14, none)], body :=
(.seq (.reg r_mutant_All_0)
 (.seq (.seq (.reg r_mutant_All_1)
 (.seq (.reg r_mutant_All_2)
 (.cond 14 (.seq (.reg r_mutant_All_3)
 .ret) .skip)))
 (.seq (.reg r_mutant_All_4)
 (.seq (.reg r_mutant_All_5)
 (.seq (.reg r_mutant_All_6)
 (.seq (.reg r_mutant_All_7)
 (.seq (.seq (.reg r_mutant_All_8)
 (.block 0 (.loop b_mutant_All_0)))
 (.seq (.reg r_mutant_All_19)
 .ret)))))))) }
/- f14 ref33_All : 0:m 1:m 2:e 3:i 4:l 5:reach 6:s 7:a 8:out 9:outputs 10:_ 11:_ -/
abbrev r_ref33_All_0 : Reg := ⟨[⟨.bxi (.v 0), none, false⟩, ⟨.mv (.c (.snil)), none, false⟩, ⟨.mv (.c (.int (0))), none, false⟩], [(1, 2)], [0, 10, 11], none⟩
abbrev r_ref33_All_1 : Reg := ⟨[⟨.ldi (.v 1) (some 4), none, false⟩, ⟨.cal F_ref06_Valid [(.t 0)], none, false⟩, ⟨.mv (.t 0), none, false⟩], [(2, 0)], [], none⟩
abbrev r_ref33_All_2 : Reg := ⟨[⟨.mv (.v 2), none, false⟩, ⟨.bin .neq (.t 0) (.c (.int (0))), none, false⟩], [], [], some (15, 0)⟩
abbrev r_ref33_All_3 : Reg := ⟨[⟨.mv (.v 2), none, false⟩, ⟨.mv (.c (.snil)), none, false⟩, ⟨.mv (.t 1), none, false⟩], [(10, 1), (11, 0)], [1, 2], none⟩
abbrev r_ref33_All_4 : Reg := ⟨[⟨.fad (.v 1) 2 none, none, false⟩, ⟨.ldi (.t 0) none, none, false⟩, ⟨.len (.t 0), none, false⟩, ⟨.mks (.t 0) (.t 0) [.bool false] none, none, false⟩, ⟨.mv (.t 0), none, false⟩], [(5, 0)], [2], none⟩
abbrev r_ref33_All_5 : Reg := ⟨[⟨.ldi (.v 1) (some 4), none, false⟩, ⟨.cal F_ref06_Reach [(.t 0)], none, false⟩, ⟨.mv (.t 0), none, false⟩], [(4, 0)], [], none⟩
abbrev r_ref33_All_6 : Reg := ⟨[⟨.mv (.c (.int (0))), none, false⟩], [(3, 0)], [], none⟩
abbrev r_ref33_All_7 : Reg := ⟨[⟨.mv (.v 3), none, false⟩, ⟨.mv (.v 4), none, false⟩, ⟨.len (.t 0), none, false⟩, ⟨.bin .lss (.t 2) (.t 0), none, false⟩], [], [], some (26, 0)⟩
abbrev r_ref33_All_9 : Reg := ⟨[⟨.mv (.v 5), none, false⟩, ⟨.mv (.v 4), none, false⟩, ⟨.mv (.v 3), none, false⟩, ⟨.iad (.t 1) (.t 0) 1, none, false⟩, ⟨.ld (.t 0) none, none, false⟩, ⟨.iad (.t 4) (.t 0) 1, none, false⟩, ⟨.st (.t 0) (.c (.bool true)) 1, none, false⟩], [], [], none⟩
abbrev r_ref33_All_8 : Reg := ⟨[⟨.mv (.v 3), none, false⟩, ⟨.bin .add (.t 0) (.c (.int (1))), none, false⟩, ⟨.mv (.t 0), none, false⟩], [(3, 0)], [], none⟩
abbrev b_ref33_All_0 : IC := (.seq (.seq (.reg r_ref33_All_7)
 (.cond 26 .skip (.exit 0)))
 (.seq (.block 1 (.reg r_ref33_All_9))
 (.reg r_ref33_All_8)))
abbrev r_ref33_All_10 : Reg := ⟨[⟨.ldi (.v 1) (some 4), none, false⟩, ⟨.cal F_ref06_Outputs [(.t 0)], none, false⟩, ⟨.mv (.t 0), none, false⟩], [(9, 0)], [3, 4], none⟩
abbrev r_ref33_All_11 : Reg := ⟨[⟨.nl (some 5), none, false⟩], [(8, 0)], [], none⟩
abbrev r_ref33_All_12 : Reg := ⟨[⟨.mv (.c (.int (0))), none, false⟩], [(6, 0)], [], none⟩
abbrev r_ref33_All_13 : Reg := ⟨[⟨.mv (.v 6), none, false⟩, ⟨.fad (.v 1) 2 none, none, false⟩, ⟨.ldi (.t 0) none, none, false⟩, ⟨.len (.t 0), none, false⟩, ⟨.bin .lss (.t 3) (.t 0), none, false⟩], [], [], some (41, 0)⟩
abbrev r_ref33_All_15 : Reg := ⟨[⟨.mv (.c (.int (0))), none, false⟩], [(7, 0)], [], none⟩
abbrev r_ref33_All_16 : Reg := ⟨[⟨.mv (.v 7), none, false⟩, ⟨.fad (.v 1) 0 none, none, false⟩, ⟨.ldi (.t 0) none, none, false⟩, ⟨.bin .lss (.t 2) (.t 0), none, false⟩, ⟨.mv (.t 0), none, false⟩, ⟨.mv (.v 5), some (.t 0, true), false⟩, ⟨.mv (.v 6), some (.t 1, true), false⟩, ⟨.iad (.t 1) (.t 0) 1, some (.t 2, true), false⟩, ⟨.ld (.t 0) none, some (.t 3, true), false⟩, ⟨.pick (.t 4) (.t 0) (.c (.bool false)), none, false⟩], [], [], some (53, 0)⟩
abbrev r_ref33_All_18 : Reg := ⟨[⟨.mv (.v 8), none, false⟩, ⟨.ldi (.v 1) (some 4), none, false⟩, ⟨.mv (.v 6), none, false⟩, ⟨.mv (.v 7), none, false⟩, ⟨.mv (.v 9), none, false⟩, ⟨.cal F_ref33_single [(.t 3), (.t 2), (.t 1), (.t 0)], none, false⟩, ⟨.appw (.t 5) (.t 0) (some 5), none, false⟩, ⟨.mv (.t 0), none, false⟩], [(8, 0)], [], none⟩
abbrev r_ref33_All_19 : Reg := ⟨[⟨.mv (.v 8), none, false⟩, ⟨.len (.t 0), none, false⟩, ⟨.bin .gtr (.t 0) (.c (.int (10000))), none, false⟩], [], [], some (65, 0)⟩
abbrev r_ref33_All_20 : Reg := ⟨[⟨.mv (.c (.snil)), none, false⟩, ⟨.mv (.c (.int (11))), none, false⟩], [(10, 1), (11, 0)], [1, 5, 6, 7, 8, 9], none⟩
abbrev r_ref33_All_17 : Reg := ⟨[⟨.mv (.v 7), none, false⟩, ⟨.bin .add (.t 0) (.c (.int (1))), none, false⟩, ⟨.mv (.t 0), none, false⟩], [(7, 0)], [], none⟩
abbrev b_ref33_All_4 : IC := (.seq (.seq (.reg r_ref33_All_16)
 (.cond 53 .skip (.exit 4)))
 (.seq (.block 5 (.seq (.reg r_ref33_All_18)
 (.seq (.reg r_ref33_All_19)
 (.cond 65 (.seq (.reg r_ref33_All_20)
 .ret) .skip))))
 (.reg r_ref33_All_17)))
abbrev r_ref33_All_14 : Reg := ⟨[⟨.mv (.v 6), none, false⟩, ⟨.bin .add (.t 0) (.c (.int (1))), none, false⟩, ⟨.mv (.t 0), none, false⟩], [(6, 0)], [7], none⟩
abbrev b_ref33_All_2 : IC := (.seq (.seq (.reg r_ref33_All_13)
 (.cond 41 .skip (.exit 2)))
 (.seq (.block 3 (.seq (.reg r_ref33_All_15)
 (.block 4 (.loop b_ref33_All_4))))
 (.reg r_ref33_All_14)))
abbrev r_ref33_All_21 : Reg := ⟨[⟨.mv (.v 8), none, false⟩, ⟨.mv (.t 0), none, false⟩, ⟨.mv (.c (.int (0))), none, false⟩], [(10, 1), (11, 0)], [1, 5, 6, 8, 9], none⟩
abbrev ir_ref33_All : Fn := { np := 1, nv := 12, res := [(10, none), (11, none)], body :=
(.seq (.reg r_ref33_All_0)
 (.seq (.seq (.reg r_ref33_All_1)
 (.seq (.reg r_ref33_All_2)
 (.cond 15 (.seq (.reg r_ref33_All_3)
 .ret) .skip)))
 (.seq (.reg r_ref33_All_4)
 (.seq (.reg r_ref33_All_5)
 (.seq (.seq (.reg r_ref33_All_6)
 (.block 0 (.loop b_ref33_All_0)))
 (.seq (.reg r_ref33_All_10)
 (.seq (.reg r_ref33_All_11)
 (.seq (.seq (.reg r_ref33_All_12)
 (.block 2 (.loop b_ref33_All_2)))
 (.seq (.reg r_ref33_All_21)
 .ret))))))))) }
/- f15 ref33_Same : 0:a 1:b 2:i 3:_ -/
abbrev r_ref33_Same_0 : Reg := ⟨[⟨.mv (.c (.bool false)), none, false⟩], [], [3], none⟩
abbrev r_ref33_Same_1 : Reg := ⟨[⟨.mv (.v 0), none, false⟩, ⟨.len (.t 0), none, false⟩, ⟨.mv (.v 1), none, false⟩, ⟨.len (.t 0), none, false⟩, ⟨.bin .neq (.t 2) (.t 0), none, false⟩], [], [], some (10, 0)⟩
abbrev r_ref33_Same_2 : Reg := ⟨[⟨.mv (.c (.bool false)), none, false⟩], [(3, 0)], [0, 1], none⟩
abbrev r_ref33_Same_3 : Reg := ⟨[⟨.mv (.c (.int (0))), none, false⟩], [(2, 0)], [], none⟩
abbrev r_ref33_Same_4 : Reg := ⟨[⟨.mv (.v 2), none, false⟩, ⟨.mv (.v 0), none, false⟩, ⟨.len (.t 0), none, false⟩, ⟨.bin .lss (.t 2) (.t 0), none, false⟩], [], [], some (14, 0)⟩
abbrev r_ref33_Same_6 : Reg := ⟨[⟨.mv (.v 0), none, false⟩, ⟨.mv (.v 2), none, false⟩, ⟨.iad (.t 1) (.t 0) 5, none, false⟩, ⟨.ld (.t 0) (some 5), none, false⟩, ⟨.mv (.v 1), none, false⟩, ⟨.mv (.v 2), none, false⟩, ⟨.iad (.t 1) (.t 0) 5, none, false⟩, ⟨.ld (.t 0) (some 5), none, false⟩, ⟨.seq true 5 (.t 4) (.t 0), none, false⟩], [], [], some (25, 0)⟩
abbrev r_ref33_Same_7 : Reg := ⟨[⟨.mv (.c (.bool false)), none, false⟩], [(3, 0)], [0, 1, 2], none⟩
abbrev r_ref33_Same_5 : Reg := ⟨[⟨.mv (.v 2), none, false⟩, ⟨.bin .add (.t 0) (.c (.int (1))), none, false⟩, ⟨.mv (.t 0), none, false⟩], [(2, 0)], [], none⟩
abbrev b_ref33_Same_0 : IC := (.seq (.seq (.reg r_ref33_Same_4)
 (.cond 14 .skip (.exit 0)))
 (.seq (.block 1 (.seq (.reg r_ref33_Same_6)
 (.cond 25 (.seq (.reg r_ref33_Same_7)
 .ret) .skip)))
 (.reg r_ref33_Same_5)))
abbrev r_ref33_Same_8 : Reg := ⟨[⟨.mv (.c (.bool true)), none, false⟩], [(3, 0)], [0, 1, 2], none⟩
abbrev ir_ref33_Same : Fn := { np := 2, nv := 4, res := [(3, none)], body :=
(.seq (.reg r_ref33_Same_0)
 (.seq (.seq (.reg r_ref33_Same_1)
 (.cond 10 (.seq (.reg r_ref33_Same_2)
 .ret) .skip))
 (.seq (.seq (.reg r_ref33_Same_3)
 (.block 0 (.loop b_ref33_Same_0)))
 (.seq (.reg r_ref33_Same_8)
 .ret)))) }
/- f16 law11_Small : 0:m 1:m 2:_ -/
abbrev r_law11_Small_0 : Reg := ⟨[⟨.bxi (.v 0), none, false⟩, ⟨.mv (.c (.bool false)), none, false⟩], [(1, 1)], [0, 2], none⟩
abbrev r_law11_Small_1 : Reg := ⟨[⟨.ldi (.v 1) (some 4), none, false⟩, ⟨.cal F_law08_Great [(.t 0)], none, false⟩, ⟨.not (.t 0), none, false⟩, ⟨.mv (.t 0), none, false⟩, ⟨.fad (.v 1) 2 none, some (.t 0, true), false⟩, ⟨.ldi (.t 0) none, some (.t 1, true), false⟩, ⟨.len (.t 0), some (.t 2, true), false⟩, ⟨.bin .leq (.t 0) (.c (.int (8))), some (.t 3, true), false⟩, ⟨.pick (.t 4) (.t 0) (.c (.bool false)), none, false⟩, ⟨.mv (.t 0), none, false⟩, ⟨.fad (.v 1) 0 none, some (.t 0, true), false⟩, ⟨.ldi (.t 0) none, some (.t 1, true), false⟩, ⟨.bin .leq (.t 0) (.c (.int (4))), some (.t 2, true), false⟩, ⟨.pick (.t 3) (.t 0) (.c (.bool false)), none, false⟩, ⟨.mv (.t 0), none, false⟩], [(2, 0)], [1], none⟩
abbrev ir_law11_Small : Fn := { np := 1, nv := 3, res := [(2, none)], body :=
(.seq (.reg r_law11_Small_0)
 (.seq (.reg r_law11_Small_1)
 .ret)) }
/- f17 law33_few : 0:words 1:_ 2:_ 3:i 4:_ -/
abbrev r_law33_few_0 : Reg := ⟨[⟨.mv (.c (.bool false)), none, false⟩], [], [4], none⟩
abbrev r_law33_few_1 : Reg := ⟨[⟨.mv (.v 0), none, false⟩, ⟨.len (.t 0), none, false⟩, ⟨.bin .gtr (.t 0) (.c (.int (30))), none, false⟩], [], [], some (6, 0)⟩
abbrev r_law33_few_2 : Reg := ⟨[⟨.mv (.c (.bool false)), none, false⟩], [(4, 0)], [0], none⟩
abbrev r_law33_few_3 : Reg := ⟨[⟨.mv (.v 0), none, false⟩, ⟨.len (.t 0), none, false⟩, ⟨.mv (.c (.int (0))), none, false⟩], [(2, 1), (1, 0)], [], none⟩
abbrev r_law33_few_4 : Reg := ⟨[⟨.bin .lss (.v 1) (.v 2), none, false⟩], [], [], some (10, 0)⟩
abbrev r_law33_few_5 : Reg := ⟨[⟨.mv (.v 1), none, false⟩, ⟨.mv (.t 0), none, false⟩], [(3, 0)], [], none⟩
abbrev r_law33_few_6 : Reg := ⟨[⟨.mv (.v 0), none, false⟩, ⟨.mv (.v 3), none, false⟩, ⟨.iad (.t 1) (.t 0) 1, none, false⟩, ⟨.ld (.t 0) none, none, false⟩, ⟨.len (.t 0), none, false⟩, ⟨.bin .gtr (.t 0) (.c (.int (30))), none, false⟩], [], [3], some (17, 0)⟩
abbrev r_law33_few_7 : Reg := ⟨[⟨.mv (.c (.bool false)), none, false⟩], [(4, 0)], [0, 1, 2], none⟩
abbrev r_law33_few_8 : Reg := ⟨[⟨.bin .add (.v 1) (.c (.int (1))), none, false⟩, ⟨.mv (.t 0), none, false⟩], [(1, 0)], [], none⟩
abbrev b_law33_few_0 : IC := (.seq (.reg r_law33_few_4)
 (.seq (.cond 10 .skip (.exit 0))
 (.seq (.block 1 (.seq (.reg r_law33_few_5)
 (.seq (.reg r_law33_few_6)
 (.cond 17 (.seq (.reg r_law33_few_7)
 .ret) .skip))))
 (.reg r_law33_few_8))))
abbrev r_law33_few_9 : Reg := ⟨[⟨.mv (.c (.bool true)), none, false⟩], [(4, 0)], [0, 1, 2], none⟩
abbrev ir_law33_few : Fn := { np := 1, nv := 5, res := [(4, none)], body :=
(.seq (.reg r_law33_few_0)
 (.seq (.seq (.reg r_law33_few_1)
 (.cond 6 (.seq (.reg r_law33_few_2)
 .ret) .skip))
 (.seq (.seq (.reg r_law33_few_3)
 (.block 0 (.loop b_law33_few_0)))
 (.seq (.reg r_law33_few_9)
 .ret)))) }
/- f18 mutant_Survivors : 0:m 1:words 2:m 3:e 4:_ 5:_ 6:_ 7:w 8:e 9:l 10:_ 11:_ 12:_ 13:x 14:n 15:e 16:same 17:out 18:_ 19:_ -/
abbrev r_mutant_Survivors_0 : Reg := ⟨[⟨.bxi (.v 0), none, false⟩, ⟨.mv (.c (.snil)), none, false⟩, ⟨.mv (.c (.int (0))), none, false⟩], [(2, 2)], [0, 18, 19], none⟩
abbrev r_mutant_Survivors_1 : Reg := ⟨[⟨.ldi (.v 2) (some 4), none, false⟩, ⟨.cal F_mutant_All [(.t 0)], none, false⟩, ⟨.mv (.t 0), none, false⟩, ⟨.ext (.t 0) 0, none, false⟩, ⟨.ext (.t 1) 1, none, false⟩, ⟨.mv (.t 1), none, false⟩, ⟨.mv (.t 1), none, false⟩], [(9, 1), (3, 0)], [], none⟩
abbrev r_mutant_Survivors_2 : Reg := ⟨[⟨.mv (.v 3), none, false⟩, ⟨.bin .neq (.t 0) (.c (.int (0))), none, false⟩], [], [], some (23, 0)⟩
abbrev r_mutant_Survivors_3 : Reg := ⟨[⟨.mv (.v 3), none, false⟩, ⟨.mv (.c (.snil)), none, false⟩, ⟨.mv (.t 1), none, false⟩], [(18, 1), (19, 0)], [1, 2, 3, 9], none⟩
abbrev r_mutant_Survivors_4 : Reg := ⟨[⟨.mv (.v 1), none, false⟩, ⟨.len (.t 0), none, false⟩, ⟨.mv (.c (.int (0))), none, false⟩], [(6, 2), (5, 1), (4, 0)], [3], none⟩
abbrev r_mutant_Survivors_5 : Reg := ⟨[⟨.bin .lss (.v 4) (.v 5), none, false⟩], [], [], some (28, 0)⟩
abbrev r_mutant_Survivors_6 : Reg := ⟨[⟨.iad (.v 6) (.v 4) 1, none, false⟩, ⟨.ld (.t 0) none, none, false⟩, ⟨.mv (.t 0), none, false⟩], [(7, 0)], [], none⟩
abbrev r_mutant_Survivors_7 : Reg := ⟨[⟨.mv (.v 7), none, false⟩, ⟨.fad (.v 2) 0 none, none, false⟩, ⟨.ldi (.t 0) none, none, false⟩, ⟨.cal F_word_Check [(.t 2), (.t 0)], none, false⟩, ⟨.mv (.t 0), none, false⟩], [(8, 0)], [7], none⟩
abbrev r_mutant_Survivors_8 : Reg := ⟨[⟨.mv (.v 8), none, false⟩, ⟨.bin .neq (.t 0) (.c (.int (0))), none, false⟩], [], [], some (36, 0)⟩
abbrev r_mutant_Survivors_9 : Reg := ⟨[⟨.mv (.v 8), none, false⟩, ⟨.mv (.c (.snil)), none, false⟩, ⟨.mv (.t 1), none, false⟩], [(18, 1), (19, 0)], [1, 2, 4, 5, 6, 8, 9], none⟩
abbrev r_mutant_Survivors_10 : Reg := ⟨[⟨.bin .add (.v 4) (.c (.int (1))), none, false⟩, ⟨.mv (.t 0), none, false⟩], [(4, 0)], [8], none⟩
abbrev b_mutant_Survivors_0 : IC := (.seq (.reg r_mutant_Survivors_5)
 (.seq (.cond 28 .skip (.exit 0))
 (.seq (.block 1 (.seq (.reg r_mutant_Survivors_6)
 (.seq (.reg r_mutant_Survivors_7)
 (.seq (.reg r_mutant_Survivors_8)
 (.cond 36 (.seq (.reg r_mutant_Survivors_9)
 .ret) .skip)))))
 (.reg r_mutant_Survivors_10))))
abbrev r_mutant_Survivors_11 : Reg := ⟨[⟨.nl (some 5), none, false⟩], [(17, 0)], [4, 5, 6], none⟩
abbrev r_mutant_Survivors_12 : Reg := ⟨[⟨.mv (.v 9), none, false⟩, ⟨.len (.t 0), none, false⟩, ⟨.mv (.c (.int (0))), none, false⟩], [(12, 2), (11, 1), (10, 0)], [9], none⟩
abbrev r_mutant_Survivors_13 : Reg := ⟨[⟨.bin .lss (.v 10) (.v 11), none, false⟩], [], [], some (42, 0)⟩
abbrev r_mutant_Survivors_14 : Reg := ⟨[⟨.iad (.v 12) (.v 10) 5, none, false⟩, ⟨.ld (.t 0) (some 5), none, false⟩, ⟨.alc0 5, none, false⟩, ⟨.ini (.t 0) (.t 1) 5, none, false⟩], [(13, 0)], [], none⟩
abbrev r_mutant_Survivors_15 : Reg := ⟨[⟨.ldi (.v 2) (some 4), none, false⟩, ⟨.ldi (.v 13) (some 5), none, false⟩, ⟨.cal F_mutant_changed [(.t 1), (.t 0)], none, false⟩, ⟨.alc0 4, none, false⟩, ⟨.ini (.t 0) (.t 1) 4, none, false⟩], [(14, 0)], [], none⟩
abbrev r_mutant_Survivors_16 : Reg := ⟨[⟨.ldi (.v 2) (some 4), none, false⟩, ⟨.ldi (.v 14) (some 4), none, false⟩, ⟨.mv (.v 1), none, false⟩, ⟨.cal F_mutant_passes [(.t 2), (.t 1), (.t 0)], none, false⟩, ⟨.not (.t 0), none, false⟩], [], [], some (52, 0)⟩
abbrev r_mutant_Survivors_17 : Reg := ⟨[⟨.ldi (.v 2) (some 4), none, false⟩, ⟨.ldi (.v 14) (some 4), none, false⟩, ⟨.cal F_equiv_Equal [(.t 1), (.t 0)], none, false⟩, ⟨.mv (.t 0), none, false⟩, ⟨.ext (.t 0) 0, none, false⟩, ⟨.ext (.t 1) 1, none, false⟩, ⟨.mv (.t 1), none, false⟩, ⟨.mv (.t 1), none, false⟩], [(16, 1), (15, 0)], [14], none⟩
abbrev r_mutant_Survivors_18 : Reg := ⟨[⟨.mv (.v 15), none, false⟩, ⟨.bin .neq (.t 0) (.c (.int (0))), none, false⟩], [], [], some (60, 0)⟩
abbrev r_mutant_Survivors_19 : Reg := ⟨[⟨.mv (.v 15), none, false⟩, ⟨.mv (.c (.snil)), none, false⟩, ⟨.mv (.t 1), none, false⟩], [(18, 1), (19, 0)], [1, 2, 10, 11, 12, 13, 15, 16, 17], none⟩
abbrev r_mutant_Survivors_20 : Reg := ⟨[⟨.mv (.v 16), none, false⟩, ⟨.not (.t 0), none, false⟩], [], [15, 16], some (63, 0)⟩
abbrev r_mutant_Survivors_21 : Reg := ⟨[⟨.mv (.v 17), none, false⟩, ⟨.ldi (.v 13) (some 5), none, false⟩, ⟨.lita [(.t 0)] 5, none, false⟩, ⟨.appw (.t 2) (.t 0) (some 5), none, false⟩, ⟨.mv (.t 0), none, false⟩], [(17, 0)], [13], none⟩
abbrev r_mutant_Survivors_22 : Reg := ⟨[⟨.bin .add (.v 10) (.c (.int (1))), none, false⟩, ⟨.mv (.t 0), none, false⟩], [(10, 0)], [13, 14], none⟩
abbrev b_mutant_Survivors_2 : IC := (.seq (.reg r_mutant_Survivors_13)
 (.seq (.cond 42 .skip (.exit 2))
 (.seq (.block 3 (.seq (.reg r_mutant_Survivors_14)
 (.seq (.reg r_mutant_Survivors_15)
 (.seq (.seq (.reg r_mutant_Survivors_16)
 (.cond 52 (.exit 3) .skip))
 (.seq (.reg r_mutant_Survivors_17)
 (.seq (.seq (.reg r_mutant_Survivors_18)
 (.cond 60 (.seq (.reg r_mutant_Survivors_19)
 .ret) .skip))
 (.seq (.reg r_mutant_Survivors_20)
 (.cond 63 (.reg r_mutant_Survivors_21) .skip))))))))
 (.reg r_mutant_Survivors_22))))
abbrev r_mutant_Survivors_23 : Reg := ⟨[⟨.mv (.v 17), none, false⟩, ⟨.mv (.t 0), none, false⟩, ⟨.mv (.c (.int (0))), none, false⟩], [(18, 1), (19, 0)], [1, 2, 10, 11, 12, 17], none⟩
abbrev ir_mutant_Survivors : Fn := { np := 2, nv := 20, res := [(18, none), (19, none)], body :=
(.seq (.reg r_mutant_Survivors_0)
 (.seq (.reg r_mutant_Survivors_1)
 (.seq (.seq (.reg r_mutant_Survivors_2)
 (.cond 23 (.seq (.reg r_mutant_Survivors_3)
 .ret) .skip))
 (.seq (.seq (.reg r_mutant_Survivors_4)
 (.block 0 (.loop b_mutant_Survivors_0)))
 (.seq (.reg r_mutant_Survivors_11)
 (.seq (.seq (.reg r_mutant_Survivors_12)
 (.block 2 (.loop b_mutant_Survivors_2)))
 (.seq (.reg r_mutant_Survivors_23)
 .ret))))))) }
/- f19 ref33_Survivors : 0:m 1:words 2:m 3:e 4:i 5:f 6:i 7:l 8:n 9:same 10:out 11:_ 12:_ -/
abbrev r_ref33_Survivors_0 : Reg := ⟨[⟨.bxi (.v 0), none, false⟩, ⟨.mv (.c (.snil)), none, false⟩, ⟨.mv (.c (.int (0))), none, false⟩], [(2, 2)], [0, 11, 12], none⟩
abbrev r_ref33_Survivors_1 : Reg := ⟨[⟨.ldi (.v 2) (some 4), none, false⟩, ⟨.cal F_ref33_All [(.t 0)], none, false⟩, ⟨.mv (.t 0), none, false⟩, ⟨.ext (.t 0) 0, none, false⟩, ⟨.ext (.t 1) 1, none, false⟩, ⟨.mv (.t 1), none, false⟩, ⟨.mv (.t 1), none, false⟩], [(7, 1), (3, 0)], [], none⟩
abbrev r_ref33_Survivors_2 : Reg := ⟨[⟨.mv (.v 3), none, false⟩, ⟨.bin .neq (.t 0) (.c (.int (0))), none, false⟩], [], [], some (22, 0)⟩
abbrev r_ref33_Survivors_3 : Reg := ⟨[⟨.mv (.v 3), none, false⟩, ⟨.mv (.c (.snil)), none, false⟩, ⟨.mv (.t 1), none, false⟩], [(11, 1), (12, 0)], [1, 2, 3, 7], none⟩
abbrev r_ref33_Survivors_4 : Reg := ⟨[⟨.mv (.c (.int (0))), none, false⟩], [(4, 0)], [3], none⟩
abbrev r_ref33_Survivors_5 : Reg := ⟨[⟨.mv (.v 4), none, false⟩, ⟨.mv (.v 1), none, false⟩, ⟨.len (.t 0), none, false⟩, ⟨.bin .lss (.t 2) (.t 0), none, false⟩], [], [], some (27, 0)⟩
abbrev r_ref33_Survivors_7 : Reg := ⟨[⟨.mv (.v 1), none, false⟩, ⟨.mv (.v 4), none, false⟩, ⟨.iad (.t 1) (.t 0) 1, none, false⟩, ⟨.ld (.t 0) none, none, false⟩, ⟨.fad (.v 2) 0 none, none, false⟩, ⟨.ldi (.t 0) none, none, false⟩, ⟨.cal F_ref01_Check [(.t 2), (.t 0)], none, false⟩, ⟨.mv (.t 0), none, false⟩], [(5, 0)], [], none⟩
abbrev r_ref33_Survivors_8 : Reg := ⟨[⟨.mv (.v 5), none, false⟩, ⟨.bin .neq (.t 0) (.c (.int (0))), none, false⟩], [], [], some (38, 0)⟩
abbrev r_ref33_Survivors_9 : Reg := ⟨[⟨.mv (.v 5), none, false⟩, ⟨.mv (.c (.snil)), none, false⟩, ⟨.mv (.t 1), none, false⟩], [(11, 1), (12, 0)], [1, 2, 4, 5, 7], none⟩
abbrev r_ref33_Survivors_6 : Reg := ⟨[⟨.mv (.v 4), none, false⟩, ⟨.bin .add (.t 0) (.c (.int (1))), none, false⟩, ⟨.mv (.t 0), none, false⟩], [(4, 0)], [5], none⟩
abbrev b_ref33_Survivors_0 : IC := (.seq (.seq (.reg r_ref33_Survivors_5)
 (.cond 27 .skip (.exit 0)))
 (.seq (.block 1 (.seq (.reg r_ref33_Survivors_7)
 (.seq (.reg r_ref33_Survivors_8)
 (.cond 38 (.seq (.reg r_ref33_Survivors_9)
 .ret) .skip))))
 (.reg r_ref33_Survivors_6)))
abbrev r_ref33_Survivors_10 : Reg := ⟨[⟨.nl (some 5), none, false⟩], [(10, 0)], [4], none⟩
abbrev r_ref33_Survivors_11 : Reg := ⟨[⟨.mv (.c (.int (0))), none, false⟩], [(6, 0)], [], none⟩
abbrev r_ref33_Survivors_12 : Reg := ⟨[⟨.mv (.v 6), none, false⟩, ⟨.mv (.v 7), none, false⟩, ⟨.len (.t 0), none, false⟩, ⟨.bin .lss (.t 2) (.t 0), none, false⟩], [], [], some (43, 0)⟩
abbrev r_ref33_Survivors_14 : Reg := ⟨[⟨.ldi (.v 2) (some 4), none, false⟩, ⟨.mv (.v 7), none, false⟩, ⟨.mv (.v 6), none, false⟩, ⟨.iad (.t 1) (.t 0) 5, none, false⟩, ⟨.ld (.t 0) (some 5), none, false⟩, ⟨.cal F_ref33_Apply [(.t 4), (.t 0)], none, false⟩, ⟨.mv (.t 0), none, false⟩, ⟨.ext (.t 0) 0, none, false⟩, ⟨.ext (.t 1) 1, none, false⟩, ⟨.alc0 4, none, false⟩, ⟨.ini (.t 0) (.t 2) 4, none, false⟩, ⟨.mv (.t 2), none, false⟩], [(8, 1)], [], none⟩
abbrev r_ref33_Survivors_15 : Reg := ⟨[⟨.ldi (.v 2) (some 4), none, false⟩, ⟨.ldi (.v 8) (some 4), none, false⟩, ⟨.cal F_ref09_Equal [(.t 1), (.t 0)], none, false⟩, ⟨.mv (.t 0), none, false⟩, ⟨.ext (.t 0) 0, none, false⟩, ⟨.ext (.t 1) 1, none, false⟩, ⟨.mv (.t 1), none, false⟩, ⟨.mv (.t 1), none, false⟩], [(9, 1)], [], none⟩
abbrev r_ref33_Survivors_16 : Reg := ⟨[⟨.mv (.v 9), none, false⟩, ⟨.not (.t 0), none, false⟩, ⟨.mv (.t 0), none, false⟩, ⟨.ldi (.v 2) (some 4), some (.t 0, true), false⟩, ⟨.ldi (.v 8) (some 4), some (.t 1, true), false⟩, ⟨.mv (.v 1), some (.t 2, true), false⟩, ⟨.cal F_ref33_passes [(.t 2), (.t 1), (.t 0)], some (.t 3, true), false⟩, ⟨.pick (.t 4) (.t 0) (.c (.bool false)), none, false⟩], [], [8, 9], some (68, 0)⟩
abbrev r_ref33_Survivors_17 : Reg := ⟨[⟨.mv (.v 10), none, false⟩, ⟨.mv (.v 7), none, false⟩, ⟨.mv (.v 6), none, false⟩, ⟨.iad (.t 1) (.t 0) 5, none, false⟩, ⟨.ld (.t 0) (some 5), none, false⟩, ⟨.lita [(.t 0)] 5, none, false⟩, ⟨.appw (.t 5) (.t 0) (some 5), none, false⟩, ⟨.mv (.t 0), none, false⟩], [(10, 0)], [], none⟩
abbrev r_ref33_Survivors_13 : Reg := ⟨[⟨.mv (.v 6), none, false⟩, ⟨.bin .add (.t 0) (.c (.int (1))), none, false⟩, ⟨.mv (.t 0), none, false⟩], [(6, 0)], [], none⟩
abbrev b_ref33_Survivors_2 : IC := (.seq (.seq (.reg r_ref33_Survivors_12)
 (.cond 43 .skip (.exit 2)))
 (.seq (.block 3 (.seq (.reg r_ref33_Survivors_14)
 (.seq (.reg r_ref33_Survivors_15)
 (.seq (.reg r_ref33_Survivors_16)
 (.cond 68 (.reg r_ref33_Survivors_17) .skip)))))
 (.reg r_ref33_Survivors_13)))
abbrev r_ref33_Survivors_18 : Reg := ⟨[⟨.mv (.v 10), none, false⟩, ⟨.mv (.t 0), none, false⟩, ⟨.mv (.c (.int (0))), none, false⟩], [(11, 1), (12, 0)], [1, 2, 6, 7, 10], none⟩
abbrev ir_ref33_Survivors : Fn := { np := 2, nv := 13, res := [(11, none), (12, none)], body :=
(.seq (.reg r_ref33_Survivors_0)
 (.seq (.reg r_ref33_Survivors_1)
 (.seq (.seq (.reg r_ref33_Survivors_2)
 (.cond 22 (.seq (.reg r_ref33_Survivors_3)
 .ret) .skip))
 (.seq (.seq (.reg r_ref33_Survivors_4)
 (.block 0 (.loop b_ref33_Survivors_0)))
 (.seq (.reg r_ref33_Survivors_10)
 (.seq (.seq (.reg r_ref33_Survivors_11)
 (.block 2 (.loop b_ref33_Survivors_2)))
 (.seq (.reg r_ref33_Survivors_18)
 .ret))))))) }
/- f20 ref06_Valid : 0:m 1:m 2:s 3:e 4:_ -/
abbrev r_ref06_Valid_0 : Reg := ⟨[⟨.bxi (.v 0), none, false⟩, ⟨.mv (.c (.int (0))), none, false⟩], [(1, 1)], [0, 4], none⟩
abbrev r_ref06_Valid_1 : Reg := ⟨[⟨.fad (.v 1) 0 none, none, false⟩, ⟨.ldi (.t 0) none, none, false⟩, ⟨.bin .lss (.t 0) (.c (.int (1))), none, false⟩, ⟨.mv (.t 0), none, false⟩, ⟨.fad (.v 1) 0 none, some (.t 0, false), false⟩, ⟨.ldi (.t 0) none, some (.t 1, false), false⟩, ⟨.bin .gtr (.t 0) (.c (.int (64))), some (.t 2, false), false⟩, ⟨.pick (.t 3) (.c (.bool true)) (.t 0), none, false⟩], [], [], some (12, 0)⟩
abbrev r_ref06_Valid_2 : Reg := ⟨[⟨.mv (.c (.int (2))), none, false⟩], [(4, 0)], [1], none⟩
abbrev r_ref06_Valid_3 : Reg := ⟨[⟨.fad (.v 1) 2 none, none, false⟩, ⟨.ldi (.t 0) none, none, false⟩, ⟨.len (.t 0), none, false⟩, ⟨.bin .eql (.t 0) (.c (.int (0))), none, false⟩], [], [], some (16, 0)⟩
abbrev r_ref06_Valid_4 : Reg := ⟨[⟨.mv (.c (.int (19))), none, false⟩], [(4, 0)], [1], none⟩
abbrev r_ref06_Valid_5 : Reg := ⟨[⟨.fad (.v 1) 2 none, none, false⟩, ⟨.ldi (.t 0) none, none, false⟩, ⟨.len (.t 0), none, false⟩, ⟨.bin .gtr (.t 0) (.c (.int (128))), none, false⟩], [], [], some (20, 0)⟩
abbrev r_ref06_Valid_6 : Reg := ⟨[⟨.mv (.c (.int (11))), none, false⟩], [(4, 0)], [1], none⟩
abbrev r_ref06_Valid_7 : Reg := ⟨[⟨.fad (.v 1) 1 none, none, false⟩, ⟨.ldi (.t 0) none, none, false⟩, ⟨.bin .lss (.t 0) (.c (.int (0))), none, false⟩, ⟨.mv (.t 0), none, false⟩, ⟨.fad (.v 1) 1 none, some (.t 0, false), false⟩, ⟨.ldi (.t 0) none, some (.t 1, false), false⟩, ⟨.fad (.v 1) 2 none, some (.t 2, false), false⟩, ⟨.ldi (.t 0) none, some (.t 3, false), false⟩, ⟨.len (.t 0), some (.t 4, false), false⟩, ⟨.bin .geq (.t 3) (.t 0), some (.t 5, false), false⟩, ⟨.pick (.t 6) (.c (.bool true)) (.t 0), none, false⟩], [], [], some (31, 0)⟩
abbrev r_ref06_Valid_8 : Reg := ⟨[⟨.mv (.c (.int (2))), none, false⟩], [(4, 0)], [1], none⟩
abbrev r_ref06_Valid_9 : Reg := ⟨[⟨.fad (.v 1) 3 none, none, false⟩, ⟨.ldi (.t 0) none, none, false⟩, ⟨.len (.t 0), none, false⟩, ⟨.fad (.v 1) 2 none, none, false⟩, ⟨.ldi (.t 0) none, none, false⟩, ⟨.len (.t 0), none, false⟩, ⟨.bin .neq (.t 3) (.t 0), none, false⟩], [], [], some (38, 0)⟩
abbrev r_ref06_Valid_10 : Reg := ⟨[⟨.mv (.c (.int (1))), none, false⟩], [(4, 0)], [1], none⟩
abbrev r_ref06_Valid_11 : Reg := ⟨[⟨.mv (.c (.int (0))), none, false⟩], [(2, 0)], [], none⟩
abbrev r_ref06_Valid_12 : Reg := ⟨[⟨.mv (.v 2), none, false⟩, ⟨.fad (.v 1) 2 none, none, false⟩, ⟨.ldi (.t 0) none, none, false⟩, ⟨.len (.t 0), none, false⟩, ⟨.bin .lss (.t 3) (.t 0), none, false⟩], [], [], some (43, 0)⟩
abbrev r_ref06_Valid_14 : Reg := ⟨[⟨.ldi (.v 1) (some 4), none, false⟩, ⟨.mv (.v 2), none, false⟩, ⟨.cal F_ref06_row [(.t 1), (.t 0)], none, false⟩, ⟨.mv (.t 0), none, false⟩], [(3, 0)], [], none⟩
abbrev r_ref06_Valid_15 : Reg := ⟨[⟨.mv (.v 3), none, false⟩, ⟨.bin .neq (.t 0) (.c (.int (0))), none, false⟩], [], [], some (50, 0)⟩
abbrev r_ref06_Valid_16 : Reg := ⟨[⟨.mv (.v 3), none, false⟩, ⟨.mv (.t 0), none, false⟩], [(4, 0)], [1, 2, 3], none⟩
abbrev r_ref06_Valid_13 : Reg := ⟨[⟨.mv (.v 2), none, false⟩, ⟨.bin .add (.t 0) (.c (.int (1))), none, false⟩, ⟨.mv (.t 0), none, false⟩], [(2, 0)], [3], none⟩
abbrev b_ref06_Valid_0 : IC := (.seq (.seq (.reg r_ref06_Valid_12)
 (.cond 43 .skip (.exit 0)))
 (.seq (.block 1 (.seq (.reg r_ref06_Valid_14)
 (.seq (.reg r_ref06_Valid_15)
 (.cond 50 (.seq (.reg r_ref06_Valid_16)
 .ret) .skip))))
 (.reg r_ref06_Valid_13)))
abbrev r_ref06_Valid_17 : Reg := ⟨[⟨.mv (.c (.int (0))), none, false⟩], [(4, 0)], [1, 2], none⟩
abbrev ir_ref06_Valid : Fn := { np := 1, nv := 5, res := [(4, none)], body :=
(.seq (.reg r_ref06_Valid_0)
 (.seq (.seq (.reg r_ref06_Valid_1)
 (.cond 12 (.seq (.reg r_ref06_Valid_2)
 .ret) .skip))
 (.seq (.seq (.reg r_ref06_Valid_3)
 (.cond 16 (.seq (.reg r_ref06_Valid_4)
 .ret) .skip))
 (.seq (.seq (.reg r_ref06_Valid_5)
 (.cond 20 (.seq (.reg r_ref06_Valid_6)
 .ret) .skip))
 (.seq (.seq (.reg r_ref06_Valid_7)
 (.cond 31 (.seq (.reg r_ref06_Valid_8)
 .ret) .skip))
 (.seq (.seq (.reg r_ref06_Valid_9)
 (.cond 38 (.seq (.reg r_ref06_Valid_10)
 .ret) .skip))
 (.seq (.seq (.reg r_ref06_Valid_11)
 (.block 0 (.loop b_ref06_Valid_0)))
 (.seq (.reg r_ref06_Valid_17)
 .ret)))))))) }
/- f21 mealy_Outputs : 0:m 1:m 2:_ 3:_ 4:_ 5:out 6:row 7:_ -/
abbrev r_mealy_Outputs_0 : Reg := ⟨[⟨.bxi (.v 0), none, false⟩, ⟨.mv (.c (.snil)), none, false⟩], [(1, 1)], [0, 7], none⟩
abbrev r_mealy_Outputs_1 : Reg := ⟨[⟨.ldi (.v 1) (some 4), none, false⟩, ⟨.cal F_mealy_Valid [(.t 0)], none, false⟩, ⟨.bin .neq (.t 0) (.c (.int (0))), none, false⟩], [], [], some (8, 0)⟩
abbrev r_mealy_Outputs_2 : Reg := ⟨[⟨.mv (.c (.snil)), none, false⟩], [(7, 0)], [1], none⟩
abbrev r_mealy_Outputs_3 : Reg := ⟨[⟨.nl none, none, false⟩], [(5, 0)], [], none⟩
abbrev r_mealy_Outputs_4 : Reg := ⟨[⟨.fad (.v 1) 3 none, none, false⟩, ⟨.ldi (.t 0) none, none, false⟩, ⟨.len (.t 0), none, false⟩, ⟨.mv (.c (.int (0))), none, false⟩], [(4, 2), (3, 1), (2, 0)], [1], none⟩
abbrev r_mealy_Outputs_5 : Reg := ⟨[⟨.bin .lss (.v 2) (.v 3), none, false⟩], [], [], some (13, 0)⟩
abbrev r_mealy_Outputs_6 : Reg := ⟨[⟨.iad (.v 4) (.v 2) 1, none, false⟩, ⟨.ld (.t 0) none, none, false⟩, ⟨.mv (.t 0), none, false⟩], [(6, 0)], [], none⟩
abbrev r_mealy_Outputs_7 : Reg := ⟨[⟨.mv (.v 5), none, false⟩, ⟨.mv (.v 6), none, false⟩, ⟨.appw (.t 1) (.t 0) none, none, false⟩, ⟨.mv (.t 0), none, false⟩], [(5, 0)], [6], none⟩
abbrev r_mealy_Outputs_8 : Reg := ⟨[⟨.bin .add (.v 2) (.c (.int (1))), none, false⟩, ⟨.mv (.t 0), none, false⟩], [(2, 0)], [], none⟩
abbrev b_mealy_Outputs_0 : IC := (.seq (.reg r_mealy_Outputs_5)
 (.seq (.cond 13 .skip (.exit 0))
 (.seq (.block 1 (.seq (.reg r_mealy_Outputs_6)
 (.reg r_mealy_Outputs_7)))
 (.reg r_mealy_Outputs_8))))
abbrev r_mealy_Outputs_9 : Reg := ⟨[⟨.mv (.v 5), none, false⟩, ⟨.cam F_slices_Sort_Sint_int [(.t 0)], none, false⟩], [], [2, 3, 4], none⟩
abbrev r_mealy_Outputs_10 : Reg := ⟨[⟨.mv (.v 5), none, false⟩, ⟨.cam F_slices_Compact_Sint_int [(.t 0)], none, false⟩, ⟨.mv (.t 0), none, false⟩], [(7, 0)], [5], none⟩
abbrev ir_mealy_Outputs : Fn := { np := 1, nv := 8, res := [(7, none)], body :=
(.seq (.reg r_mealy_Outputs_0)
 (.seq (.seq (.reg r_mealy_Outputs_1)
 (.cond 8 (.seq (.reg r_mealy_Outputs_2)
 .ret) .skip))
 (.seq (.reg r_mealy_Outputs_3)
 (.seq (.seq (.reg r_mealy_Outputs_4)
 (.block 0 (.loop b_mealy_Outputs_0)))
 (.seq (.reg r_mealy_Outputs_9)
 (.seq (.reg r_mealy_Outputs_10)
 .ret)))))) }
/- f22 mealy_Valid : 0:m 1:m 2:n 3:_ 4:_ 5:s 6:_ 7:_ 8:a 9:t 10:o 11:_ -/
abbrev r_mealy_Valid_0 : Reg := ⟨[⟨.bxi (.v 0), none, false⟩, ⟨.mv (.c (.int (0))), none, false⟩], [(1, 1)], [0, 11], none⟩
abbrev r_mealy_Valid_1 : Reg := ⟨[⟨.fad (.v 1) 2 none, none, false⟩, ⟨.ldi (.t 0) none, none, false⟩, ⟨.len (.t 0), none, false⟩, ⟨.mv (.t 0), none, false⟩], [(2, 0)], [], none⟩
abbrev r_mealy_Valid_2 : Reg := ⟨[⟨.fad (.v 1) 0 none, none, false⟩, ⟨.ldi (.t 0) none, none, false⟩, ⟨.bin .lss (.t 0) (.c (.int (1))), none, false⟩, ⟨.mv (.t 0), none, false⟩, ⟨.fad (.v 1) 0 none, some (.t 0, false), false⟩, ⟨.ldi (.t 0) none, some (.t 1, false), false⟩, ⟨.bin .gtr (.t 0) (.c (.int (64))), some (.t 2, false), false⟩, ⟨.pick (.t 3) (.c (.bool true)) (.t 0), none, false⟩, ⟨.mv (.t 0), none, false⟩], [], [], some (11, 0)⟩
abbrev r_mealy_Valid_3 : Reg := ⟨[⟨.mv (.c (.int (2))), none, false⟩], [(11, 0)], [1, 2], none⟩
abbrev r_mealy_Valid_4 : Reg := ⟨[⟨.mv (.v 2), none, false⟩, ⟨.bin .eql (.t 0) (.c (.int (0))), none, false⟩, ⟨.mv (.t 0), none, false⟩], [], [], some (20, 0)⟩
abbrev r_mealy_Valid_5 : Reg := ⟨[⟨.mv (.c (.int (19))), none, false⟩], [(11, 0)], [1, 2], none⟩
abbrev r_mealy_Valid_6 : Reg := ⟨[⟨.mv (.v 2), none, false⟩, ⟨.bin .gtr (.t 0) (.c (.int (128))), none, false⟩, ⟨.mv (.t 0), none, false⟩], [], [], some (23, 0)⟩
abbrev r_mealy_Valid_7 : Reg := ⟨[⟨.mv (.c (.int (11))), none, false⟩], [(11, 0)], [1, 2], none⟩
abbrev r_mealy_Valid_8 : Reg := ⟨[⟨.fad (.v 1) 1 none, none, false⟩, ⟨.ldi (.t 0) none, none, false⟩, ⟨.bin .lss (.t 0) (.c (.int (0))), none, false⟩, ⟨.mv (.t 0), none, false⟩, ⟨.fad (.v 1) 1 none, some (.t 0, false), false⟩, ⟨.ldi (.t 0) none, some (.t 1, false), false⟩, ⟨.mv (.v 2), some (.t 2, false), false⟩, ⟨.bin .geq (.t 1) (.t 0), some (.t 3, false), false⟩, ⟨.pick (.t 4) (.c (.bool true)) (.t 0), none, false⟩, ⟨.mv (.t 0), none, false⟩], [], [], some (26, 0)⟩
abbrev r_mealy_Valid_9 : Reg := ⟨[⟨.mv (.c (.int (2))), none, false⟩], [(11, 0)], [1, 2], none⟩
abbrev r_mealy_Valid_10 : Reg := ⟨[⟨.fad (.v 1) 3 none, none, false⟩, ⟨.ldi (.t 0) none, none, false⟩, ⟨.len (.t 0), none, false⟩, ⟨.mv (.v 2), none, false⟩, ⟨.bin .neq (.t 1) (.t 0), none, false⟩, ⟨.mv (.t 0), none, false⟩], [], [], some (36, 0)⟩
abbrev r_mealy_Valid_11 : Reg := ⟨[⟨.mv (.c (.int (1))), none, false⟩], [(11, 0)], [1, 2], none⟩
abbrev r_mealy_Valid_12 : Reg := ⟨[⟨.mv (.v 2), none, false⟩, ⟨.mv (.c (.int (0))), none, false⟩], [(4, 1), (3, 0)], [], none⟩
abbrev r_mealy_Valid_13 : Reg := ⟨[⟨.bin .lss (.v 3) (.v 4), none, false⟩], [], [], some (44, 0)⟩
abbrev r_mealy_Valid_14 : Reg := ⟨[⟨.mv (.v 3), none, false⟩, ⟨.mv (.t 0), none, false⟩], [(5, 0)], [], none⟩
abbrev r_mealy_Valid_15 : Reg := ⟨[⟨.fad (.v 1) 2 none, none, false⟩, ⟨.ldi (.t 0) none, none, false⟩, ⟨.mv (.v 5), none, false⟩, ⟨.iad (.t 1) (.t 0) 1, none, false⟩, ⟨.ldi (.t 0) none, none, false⟩, ⟨.len (.t 0), none, false⟩, ⟨.fad (.v 1) 0 none, none, false⟩, ⟨.ldi (.t 0) none, none, false⟩, ⟨.bin .neq (.t 2) (.t 0), none, false⟩, ⟨.mv (.t 0), none, false⟩, ⟨.fad (.v 1) 3 none, some (.t 0, false), false⟩, ⟨.ldi (.t 0) none, some (.t 1, false), false⟩, ⟨.mv (.v 5), some (.t 2, false), false⟩, ⟨.iad (.t 1) (.t 0) 1, some (.t 3, false), false⟩, ⟨.ldi (.t 0) none, some (.t 4, false), false⟩, ⟨.len (.t 0), some (.t 5, false), false⟩, ⟨.fad (.v 1) 0 none, some (.t 6, false), false⟩, ⟨.ldi (.t 0) none, some (.t 7, false), false⟩, ⟨.bin .neq (.t 2) (.t 0), some (.t 8, false), false⟩, ⟨.pick (.t 9) (.c (.bool true)) (.t 0), none, false⟩], [], [], some (65, 0)⟩
abbrev r_mealy_Valid_16 : Reg := ⟨[⟨.mv (.c (.int (1))), none, false⟩], [(11, 0)], [1, 2, 3, 4, 5], none⟩
abbrev r_mealy_Valid_17 : Reg := ⟨[⟨.fad (.v 1) 0 none, none, false⟩, ⟨.ldi (.t 0) none, none, false⟩, ⟨.mv (.c (.int (0))), none, false⟩], [(7, 1), (6, 0)], [], none⟩
abbrev r_mealy_Valid_18 : Reg := ⟨[⟨.bin .lss (.v 6) (.v 7), none, false⟩], [], [], some (69, 0)⟩
abbrev r_mealy_Valid_19 : Reg := ⟨[⟨.mv (.v 6), none, false⟩, ⟨.mv (.t 0), none, false⟩], [(8, 0)], [], none⟩
abbrev r_mealy_Valid_20 : Reg := ⟨[⟨.fad (.v 1) 2 none, none, false⟩, ⟨.ldi (.t 0) none, none, false⟩, ⟨.mv (.v 5), none, false⟩, ⟨.iad (.t 1) (.t 0) 1, none, false⟩, ⟨.ldi (.t 0) none, none, false⟩, ⟨.mv (.v 8), none, false⟩, ⟨.iad (.t 1) (.t 0) 1, none, false⟩, ⟨.ldi (.t 0) none, none, false⟩, ⟨.fad (.v 1) 3 none, none, false⟩, ⟨.ldi (.t 0) none, none, false⟩, ⟨.mv (.v 5), none, false⟩, ⟨.iad (.t 1) (.t 0) 1, none, false⟩, ⟨.ldi (.t 0) none, none, false⟩, ⟨.mv (.v 8), none, false⟩, ⟨.iad (.t 1) (.t 0) 1, none, false⟩, ⟨.ldi (.t 0) none, none, false⟩, ⟨.mv (.t 8), none, false⟩, ⟨.mv (.t 1), none, false⟩], [(9, 1), (10, 0)], [8], none⟩
abbrev r_mealy_Valid_21 : Reg := ⟨[⟨.mv (.v 9), none, false⟩, ⟨.bin .lss (.t 0) (.c (.int (0))), none, false⟩, ⟨.mv (.t 0), none, false⟩, ⟨.mv (.v 9), some (.t 0, false), false⟩, ⟨.mv (.v 2), some (.t 1, false), false⟩, ⟨.bin .geq (.t 1) (.t 0), some (.t 2, false), false⟩, ⟨.pick (.t 3) (.c (.bool true)) (.t 0), none, false⟩, ⟨.mv (.t 0), none, false⟩, ⟨.mv (.v 10), some (.t 0, false), false⟩, ⟨.bin .lss (.t 0) (.c (.int (0))), some (.t 1, false), false⟩, ⟨.pick (.t 2) (.c (.bool true)) (.t 0), none, false⟩, ⟨.mv (.t 0), none, false⟩, ⟨.mv (.v 10), some (.t 0, false), false⟩, ⟨.bin .gtr (.t 0) (.c (.int (1048576))), some (.t 1, false), false⟩, ⟨.pick (.t 2) (.c (.bool true)) (.t 0), none, false⟩], [], [9, 10], some (101, 0)⟩
abbrev r_mealy_Valid_22 : Reg := ⟨[⟨.mv (.c (.int (2))), none, false⟩], [(11, 0)], [1, 2, 3, 4, 5, 6, 7], none⟩
abbrev r_mealy_Valid_23 : Reg := ⟨[⟨.bin .add (.v 6) (.c (.int (1))), none, false⟩, ⟨.mv (.t 0), none, false⟩], [(6, 0)], [], none⟩
abbrev b_mealy_Valid_3 : IC := (.seq (.reg r_mealy_Valid_18)
 (.seq (.cond 69 .skip (.exit 3))
 (.seq (.block 4 (.seq (.reg r_mealy_Valid_19)
 (.seq (.reg r_mealy_Valid_20)
 (.seq (.reg r_mealy_Valid_21)
 (.cond 101 (.seq (.reg r_mealy_Valid_22)
 .ret) .skip)))))
 (.reg r_mealy_Valid_23))))
abbrev r_mealy_Valid_24 : Reg := ⟨[⟨.bin .add (.v 3) (.c (.int (1))), none, false⟩, ⟨.mv (.t 0), none, false⟩], [(3, 0)], [5, 6, 7], none⟩
abbrev b_mealy_Valid_1 : IC := (.seq (.reg r_mealy_Valid_13)
 (.seq (.cond 44 .skip (.exit 1))
 (.seq (.block 2 (.seq (.reg r_mealy_Valid_14)
 (.seq (.seq (.reg r_mealy_Valid_15)
 (.cond 65 (.seq (.reg r_mealy_Valid_16)
 .ret) .skip))
 (.seq (.reg r_mealy_Valid_17)
 (.block 3 (.loop b_mealy_Valid_3))))))
 (.reg r_mealy_Valid_24))))
abbrev r_mealy_Valid_25 : Reg := ⟨[⟨.mv (.c (.int (0))), none, false⟩], [(11, 0)], [1, 2, 3, 4], none⟩
abbrev ir_mealy_Valid : Fn := { np := 1, nv := 12, res := [(11, none)], body :=
(.seq (.reg r_mealy_Valid_0)
 (.seq (.reg r_mealy_Valid_1)
 (.seq (.block 0 (.seq (.reg r_mealy_Valid_2)
 (.cond 11 (.seq (.reg r_mealy_Valid_3)
 .ret) (.seq (.reg r_mealy_Valid_4)
 (.cond 20 (.seq (.reg r_mealy_Valid_5)
 .ret) (.seq (.reg r_mealy_Valid_6)
 (.cond 23 (.seq (.reg r_mealy_Valid_7)
 .ret) (.seq (.reg r_mealy_Valid_8)
 (.cond 26 (.seq (.reg r_mealy_Valid_9)
 .ret) (.seq (.reg r_mealy_Valid_10)
 (.cond 36 (.seq (.reg r_mealy_Valid_11)
 .ret) .skip)))))))))))
 (.seq (.seq (.reg r_mealy_Valid_12)
 (.block 1 (.loop b_mealy_Valid_1)))
 (.seq (.reg r_mealy_Valid_25)
 .ret))))) }
/- f23 equiv_Distinguish : 0:a 1:b 2:a 3:b 4:e 5:w 6:found 7:_ 8:_ 9:_ -/
abbrev r_equiv_Distinguish_0 : Reg := ⟨[⟨.bxi (.v 0), none, false⟩, ⟨.bxi (.v 1), none, false⟩, ⟨.mv (.c (.snil)), none, false⟩, ⟨.mv (.c (.bool false)), none, false⟩, ⟨.mv (.c (.int (0))), none, false⟩], [(2, 4), (3, 3)], [0, 1, 7, 8, 9], none⟩
abbrev r_equiv_Distinguish_1 : Reg := ⟨[⟨.ldi (.v 2) (some 4), none, false⟩, ⟨.ldi (.v 3) (some 4), none, false⟩, ⟨.cal F_equiv_check [(.t 1), (.t 0)], none, false⟩, ⟨.mv (.t 0), none, false⟩], [(4, 0)], [], none⟩
abbrev r_equiv_Distinguish_2 : Reg := ⟨[⟨.mv (.v 4), none, false⟩, ⟨.bin .neq (.t 0) (.c (.int (0))), none, false⟩], [], [], some (14, 0)⟩
abbrev r_equiv_Distinguish_3 : Reg := ⟨[⟨.mv (.v 4), none, false⟩, ⟨.mv (.c (.snil)), none, false⟩, ⟨.mv (.c (.bool false)), none, false⟩, ⟨.mv (.t 2), none, false⟩], [(7, 2), (8, 1), (9, 0)], [2, 3, 4], none⟩
abbrev r_equiv_Distinguish_4 : Reg := ⟨[⟨.ldi (.v 2) (some 4), none, false⟩, ⟨.ldi (.v 3) (some 4), none, false⟩, ⟨.fad (.v 2) 1 none, none, false⟩, ⟨.ldi (.t 0) none, none, false⟩, ⟨.fad (.v 3) 1 none, none, false⟩, ⟨.ldi (.t 0) none, none, false⟩, ⟨.bld [.int 0, .int 0] [(0, 1, (.t 2)), (1, 1, (.t 0))], none, false⟩, ⟨.cal F_equiv_search [(.t 6), (.t 5), (.t 0)], none, false⟩, ⟨.mv (.t 0), none, false⟩, ⟨.ext (.t 0) 0, none, false⟩, ⟨.ext (.t 1) 1, none, false⟩, ⟨.mv (.t 1), none, false⟩, ⟨.mv (.t 1), none, false⟩], [(5, 1), (6, 0)], [2, 3, 4], none⟩
abbrev r_equiv_Distinguish_5 : Reg := ⟨[⟨.mv (.v 5), none, false⟩, ⟨.mv (.v 6), none, false⟩, ⟨.mv (.t 1), none, false⟩, ⟨.mv (.t 1), none, false⟩, ⟨.mv (.c (.int (0))), none, false⟩], [(7, 2), (8, 1), (9, 0)], [5, 6], none⟩
abbrev ir_equiv_Distinguish : Fn := { np := 2, nv := 10, res := [(7, none), (8, none), (9, none)], body :=
(.seq (.reg r_equiv_Distinguish_0)
 (.seq (.seq (.reg r_equiv_Distinguish_1)
 (.seq (.reg r_equiv_Distinguish_2)
 (.cond 14 (.seq (.reg r_equiv_Distinguish_3)
 .ret) .skip)))
 (.seq (.reg r_equiv_Distinguish_4)
 (.seq (.reg r_equiv_Distinguish_5)
 .ret)))) }
/- f24 mutant_fits : 0:m 1:x 2:x 3:m 4:_ 5:_ -/
abbrev r_mutant_fits_0 : Reg := ⟨[⟨.bxi (.v 0), none, false⟩, ⟨.bxm (.v 1) (some 5), none, false⟩, ⟨.mv (.c (.bool false)), none, false⟩], [(3, 2), (2, 1)], [0, 1, 5], none⟩
abbrev r_mutant_fits_1 : Reg := ⟨[⟨.fad (.v 2) 1 none, none, false⟩, ⟨.ld (.t 0) none, none, false⟩, ⟨.bin .lss (.t 0) (.c (.int (0))), none, false⟩, ⟨.mv (.t 0), none, false⟩, ⟨.fad (.v 2) 1 none, some (.t 0, false), false⟩, ⟨.ld (.t 0) none, some (.t 1, false), false⟩, ⟨.fad (.v 3) 2 none, some (.t 2, false), false⟩, ⟨.ldi (.t 0) none, some (.t 3, false), false⟩, ⟨.len (.t 0), some (.t 4, false), false⟩, ⟨.bin .geq (.t 3) (.t 0), some (.t 5, false), false⟩, ⟨.pick (.t 6) (.c (.bool true)) (.t 0), none, false⟩, ⟨.mv (.t 0), none, false⟩, ⟨.fad (.v 2) 2 none, some (.t 0, false), false⟩, ⟨.ld (.t 0) none, some (.t 1, false), false⟩, ⟨.bin .lss (.t 0) (.c (.int (0))), some (.t 2, false), false⟩, ⟨.pick (.t 3) (.c (.bool true)) (.t 0), none, false⟩, ⟨.mv (.t 0), none, false⟩, ⟨.fad (.v 2) 2 none, some (.t 0, false), false⟩, ⟨.ld (.t 0) none, some (.t 1, false), false⟩, ⟨.fad (.v 3) 0 none, some (.t 2, false), false⟩, ⟨.ldi (.t 0) none, some (.t 3, false), false⟩, ⟨.bin .geq (.t 2) (.t 0), some (.t 4, false), false⟩, ⟨.pick (.t 5) (.c (.bool true)) (.t 0), none, false⟩], [], [], some (27, 0)⟩
abbrev r_mutant_fits_2 : Reg := ⟨[⟨.mv (.c (.bool false)), none, false⟩], [(5, 0)], [2, 3], none⟩
abbrev r_mutant_fits_3 : Reg := ⟨[⟨.fad (.v 2) 0 none, none, false⟩, ⟨.ld (.t 0) none, none, false⟩], [(4, 0)], [], none⟩
abbrev r_mutant_fits_4 : Reg := ⟨[⟨.bin .eql (.v 4) (.c (.int (2))), none, false⟩, ⟨.mv (.t 0), none, false⟩], [], [], some (30, 0)⟩
abbrev r_mutant_fits_5 : Reg := ⟨[⟨.bin .eql (.v 4) (.c (.int (3))), none, false⟩, ⟨.mv (.t 0), none, false⟩], [], [], some (32, 0)⟩
abbrev r_mutant_fits_6 : Reg := ⟨[⟨.bin .eql (.v 4) (.c (.int (1))), none, false⟩, ⟨.mv (.t 0), none, false⟩], [], [3, 4], some (34, 0)⟩
abbrev r_mutant_fits_7 : Reg := ⟨[⟨.fad (.v 2) 3 none, none, false⟩, ⟨.ld (.t 0) none, none, false⟩, ⟨.bin .geq (.t 0) (.c (.int (0))), none, false⟩, ⟨.mv (.t 0), none, false⟩, ⟨.fad (.v 2) 3 none, some (.t 0, true), false⟩, ⟨.ld (.t 0) none, some (.t 1, true), false⟩, ⟨.fad (.v 3) 2 none, some (.t 2, true), false⟩, ⟨.ldi (.t 0) none, some (.t 3, true), false⟩, ⟨.len (.t 0), some (.t 4, true), false⟩, ⟨.bin .lss (.t 3) (.t 0), some (.t 5, true), false⟩, ⟨.pick (.t 6) (.t 0) (.c (.bool false)), none, false⟩, ⟨.mv (.t 0), none, false⟩, ⟨.fad (.v 2) 4 none, some (.t 0, true), false⟩, ⟨.ld (.t 0) none, some (.t 1, true), false⟩, ⟨.bin .eql (.t 0) (.c (.int (0))), some (.t 2, true), false⟩, ⟨.pick (.t 3) (.t 0) (.c (.bool false)), none, false⟩, ⟨.mv (.t 0), none, false⟩], [(5, 0)], [2, 3, 4], none⟩
abbrev r_mutant_fits_8 : Reg := ⟨[⟨.fad (.v 2) 4 none, none, false⟩, ⟨.ld (.t 0) none, none, false⟩, ⟨.bin .lss (.t 0) (.c (.int (0))), none, false⟩, ⟨.mv (.t 0), none, false⟩, ⟨.fad (.v 2) 4 none, some (.t 0, false), false⟩, ⟨.ld (.t 0) none, some (.t 1, false), false⟩, ⟨.fad (.v 3) 0 none, some (.t 2, false), false⟩, ⟨.ldi (.t 0) none, some (.t 3, false), false⟩, ⟨.bin .geq (.t 2) (.t 0), some (.t 4, false), false⟩, ⟨.pick (.t 5) (.c (.bool true)) (.t 0), none, false⟩], [], [3, 4], some (61, 0)⟩
abbrev r_mutant_fits_9 : Reg := ⟨[⟨.mv (.c (.bool false)), none, false⟩], [(5, 0)], [2], none⟩
abbrev r_mutant_fits_10 : Reg := ⟨[⟨.fad (.v 2) 4 none, none, false⟩, ⟨.st (.t 0) (.c (.int (0))) 1, none, false⟩], [], [], none⟩
abbrev r_mutant_fits_11 : Reg := ⟨[⟨.fad (.v 2) 3 none, none, false⟩, ⟨.ld (.t 0) none, none, false⟩, ⟨.bin .geq (.t 0) (.c (.int (0))), none, false⟩, ⟨.mv (.t 0), none, false⟩, ⟨.fad (.v 2) 3 none, some (.t 0, true), false⟩, ⟨.ld (.t 0) none, some (.t 1, true), false⟩, ⟨.bin .leq (.t 0) (.c (.int (1048576))), some (.t 2, true), false⟩, ⟨.pick (.t 3) (.t 0) (.c (.bool false)), none, false⟩, ⟨.mv (.t 0), none, false⟩, ⟨.fad (.v 2) 4 none, some (.t 0, true), false⟩, ⟨.ld (.t 0) none, some (.t 1, true), false⟩, ⟨.bin .eql (.t 0) (.c (.int (0))), some (.t 2, true), false⟩, ⟨.pick (.t 3) (.t 0) (.c (.bool false)), none, false⟩, ⟨.mv (.t 0), none, false⟩], [(5, 0)], [2], none⟩
abbrev r_mutant_fits_12 : Reg := ⟨[⟨.mv (.c (.bool false)), none, false⟩], [(5, 0)], [2], none⟩
abbrev ir_mutant_fits : Fn := { np := 2, nv := 6, res := [(5, none)], body :=
(.seq (.reg r_mutant_fits_0)
 (.seq (.seq (.reg r_mutant_fits_1)
 (.cond 27 (.seq (.reg r_mutant_fits_2)
 .ret) .skip))
 (.seq (.seq (.reg r_mutant_fits_3)
 (.block 0 (.seq (.block 3 (.seq (.block 2 (.seq (.block 1 (.seq (.seq (.seq (.reg r_mutant_fits_4)
 (.cond 30 (.exit 1) .skip))
 (.seq (.seq (.reg r_mutant_fits_5)
 (.cond 32 (.exit 2) .skip))
 (.seq (.reg r_mutant_fits_6)
 (.cond 34 (.exit 3) .skip))))
 (.exit 0)))
 (.seq (.seq (.reg r_mutant_fits_7)
 .ret)
 (.exit 0))))
 (.seq (.seq (.reg r_mutant_fits_8)
 (.cond 61 (.seq (.reg r_mutant_fits_9)
 .ret) .skip))
 (.reg r_mutant_fits_10))))
 (.seq (.seq (.reg r_mutant_fits_11)
 .ret)
 (.exit 0)))))
 (.seq (.reg r_mutant_fits_12)
 .ret)))) }
/- f25 mutant_changed : 0:m 1:x 2:m 3:x 4:_ 5:out 6:t 7:row 8:_ -/
abbrev r_mutant_changed_0 : Reg := ⟨[⟨.bxi (.v 0), none, false⟩, ⟨.bxi (.v 1), none, false⟩, ⟨.alc [.int 0, .int 0, .snil, .snil] (some 4), none, false⟩], [(2, 2), (3, 1), (8, 0)], [0, 1], none⟩
abbrev r_mutant_changed_1 : Reg := ⟨[⟨.ldi (.v 2) (some 4), none, false⟩, ⟨.can F_mutant_clone [(.t 0)], none, false⟩, ⟨.alc [.int 0, .int 0, .snil, .snil] (some 4), none, false⟩, ⟨.st (.t 0) (.t 1) 4, none, false⟩], [(5, 1)], [], none⟩
abbrev r_mutant_changed_2 : Reg := ⟨[⟨.fad (.v 3) 0 none, none, false⟩, ⟨.ldi (.t 0) none, none, false⟩], [(4, 0)], [], none⟩
abbrev r_mutant_changed_3 : Reg := ⟨[⟨.bin .eql (.v 4) (.c (.int (1))), none, false⟩, ⟨.mv (.t 0), none, false⟩], [], [], some (12, 0)⟩
abbrev r_mutant_changed_4 : Reg := ⟨[⟨.fad (.v 5) 3 none, none, false⟩, ⟨.ld (.t 0) none, none, false⟩, ⟨.fad (.v 3) 1 none, none, false⟩, ⟨.ldi (.t 0) none, none, false⟩, ⟨.iad (.t 2) (.t 0) 1, none, false⟩, ⟨.ld (.t 0) none, none, false⟩, ⟨.fad (.v 3) 2 none, none, false⟩, ⟨.ldi (.t 0) none, none, false⟩, ⟨.fad (.v 3) 3 none, none, false⟩, ⟨.ldi (.t 0) none, none, false⟩, ⟨.iad (.t 4) (.t 2) 1, none, false⟩, ⟨.st (.t 0) (.t 1) 1, none, false⟩], [], [2, 3, 4], none⟩
abbrev r_mutant_changed_5 : Reg := ⟨[⟨.bin .eql (.v 4) (.c (.int (2))), none, false⟩, ⟨.mv (.t 0), none, false⟩], [], [], some (25, 0)⟩
abbrev r_mutant_changed_6 : Reg := ⟨[⟨.fad (.v 5) 2 none, none, false⟩, ⟨.ld (.t 0) none, none, false⟩, ⟨.fad (.v 3) 1 none, none, false⟩, ⟨.ldi (.t 0) none, none, false⟩, ⟨.iad (.t 2) (.t 0) 1, none, false⟩, ⟨.ld (.t 0) none, none, false⟩, ⟨.fad (.v 3) 2 none, none, false⟩, ⟨.ldi (.t 0) none, none, false⟩, ⟨.fad (.v 3) 3 none, none, false⟩, ⟨.ldi (.t 0) none, none, false⟩, ⟨.iad (.t 4) (.t 2) 1, none, false⟩, ⟨.st (.t 0) (.t 1) 1, none, false⟩], [], [2, 3, 4], none⟩
abbrev r_mutant_changed_7 : Reg := ⟨[⟨.bin .eql (.v 4) (.c (.int (3))), none, false⟩, ⟨.mv (.t 0), none, false⟩], [], [4], some (38, 0)⟩
abbrev r_mutant_changed_8 : Reg := ⟨[⟨.fad (.v 2) 2 none, none, false⟩, ⟨.ldi (.t 0) none, none, false⟩, ⟨.fad (.v 3) 1 none, none, false⟩, ⟨.ldi (.t 0) none, none, false⟩, ⟨.iad (.t 2) (.t 0) 1, none, false⟩, ⟨.ldi (.t 0) none, none, false⟩, ⟨.fad (.v 3) 2 none, none, false⟩, ⟨.ldi (.t 0) none, none, false⟩, ⟨.iad (.t 2) (.t 0) 1, none, false⟩, ⟨.ldi (.t 0) none, none, false⟩, ⟨.mv (.t 0), none, false⟩], [(6, 0)], [], none⟩
abbrev r_mutant_changed_9 : Reg := ⟨[⟨.fad (.v 2) 3 none, none, false⟩, ⟨.ldi (.t 0) none, none, false⟩, ⟨.mv (.v 6), none, false⟩, ⟨.iad (.t 1) (.t 0) 1, none, false⟩, ⟨.ldi (.t 0) none, none, false⟩, ⟨.can F_slices_Clone_Sint_int [(.t 0)], none, false⟩, ⟨.mv (.t 0), none, false⟩], [(7, 0)], [], none⟩
abbrev r_mutant_changed_10 : Reg := ⟨[⟨.mv (.v 7), none, false⟩, ⟨.fad (.v 3) 4 none, none, false⟩, ⟨.ldi (.t 0) none, none, false⟩, ⟨.fad (.v 3) 3 none, none, false⟩, ⟨.ldi (.t 0) none, none, false⟩, ⟨.iad (.t 4) (.t 2) 1, none, false⟩, ⟨.st (.t 0) (.t 1) 1, none, false⟩], [], [], none⟩
abbrev r_mutant_changed_11 : Reg := ⟨[⟨.fad (.v 5) 2 none, none, false⟩, ⟨.ld (.t 0) none, none, false⟩, ⟨.fad (.v 2) 2 none, none, false⟩, ⟨.ldi (.t 0) none, none, false⟩, ⟨.mv (.v 6), none, false⟩, ⟨.iad (.t 1) (.t 0) 1, none, false⟩, ⟨.ldi (.t 0) none, none, false⟩, ⟨.can F_slices_Clone_Sint_int [(.t 0)], none, false⟩, ⟨.lita [(.t 0)] 1, none, false⟩, ⟨.app (.t 7) (.t 0) none, none, false⟩, ⟨.fad (.v 5) 2 none, none, false⟩, ⟨.st (.t 0) (.t 1) 1, none, false⟩], [], [6], none⟩
abbrev r_mutant_changed_12 : Reg := ⟨[⟨.fad (.v 5) 3 none, none, false⟩, ⟨.ld (.t 0) none, none, false⟩, ⟨.mv (.v 7), none, false⟩, ⟨.lita [(.t 0)] 1, none, false⟩, ⟨.appw (.t 2) (.t 0) none, none, false⟩, ⟨.fad (.v 5) 3 none, none, false⟩, ⟨.st (.t 0) (.t 1) 1, none, false⟩], [], [7], none⟩
abbrev r_mutant_changed_13 : Reg := ⟨[⟨.fad (.v 5) 2 none, none, false⟩, ⟨.ld (.t 0) none, none, false⟩, ⟨.fad (.v 3) 1 none, none, false⟩, ⟨.ldi (.t 0) none, none, false⟩, ⟨.iad (.t 2) (.t 0) 1, none, false⟩, ⟨.ld (.t 0) none, none, false⟩, ⟨.fad (.v 3) 2 none, none, false⟩, ⟨.ldi (.t 0) none, none, false⟩, ⟨.fad (.v 2) 2 none, none, false⟩, ⟨.ldi (.t 0) none, none, false⟩, ⟨.len (.t 0), none, false⟩, ⟨.iad (.t 5) (.t 3) 1, none, false⟩, ⟨.st (.t 0) (.t 1) 1, none, false⟩], [], [2, 3], none⟩
abbrev r_mutant_changed_14 : Reg := ⟨[⟨.ld (.v 5) (some 4), none, false⟩, ⟨.st (.v 8) (.t 0) 4, none, false⟩], [], [2, 3, 5], none⟩
abbrev ir_mutant_changed : Fn := { np := 2, nv := 9, res := [(8, some (some 4))], body :=
(.seq (.reg r_mutant_changed_0)
 (.seq (.reg r_mutant_changed_1)
 (.seq (.seq (.reg r_mutant_changed_2)
 (.block 0 (.seq (.reg r_mutant_changed_3)
 (.cond 12 (.reg r_mutant_changed_4) (.seq (.reg r_mutant_changed_5)
 (.cond 25 (.reg r_mutant_changed_6) (.seq (.reg r_mutant_changed_7)
 (.cond 38 (.seq (.reg r_mutant_changed_8)
 (.seq (.reg r_mutant_changed_9)
 (.seq (.reg r_mutant_changed_10)
 (.seq (.reg r_mutant_changed_11)
 (.seq (.reg r_mutant_changed_12)
 (.reg r_mutant_changed_13)))))) .skip))))))))
 (.seq (.reg r_mutant_changed_14)
 .ret)))) }
/- f26 ref33_fits : 0:m 1:x 2:x 3:m 4:_ 5:_ -/
abbrev r_ref33_fits_0 : Reg := ⟨[⟨.bxi (.v 0), none, false⟩, ⟨.bxi (.v 1), none, false⟩, ⟨.mv (.c (.bool false)), none, false⟩], [(3, 2), (2, 1)], [0, 1, 5], none⟩
abbrev r_ref33_fits_1 : Reg := ⟨[⟨.fad (.v 2) 1 none, none, false⟩, ⟨.ldi (.t 0) none, none, false⟩, ⟨.bin .lss (.t 0) (.c (.int (0))), none, false⟩, ⟨.mv (.t 0), none, false⟩, ⟨.fad (.v 2) 1 none, some (.t 0, false), false⟩, ⟨.ldi (.t 0) none, some (.t 1, false), false⟩, ⟨.fad (.v 3) 2 none, some (.t 2, false), false⟩, ⟨.ldi (.t 0) none, some (.t 3, false), false⟩, ⟨.len (.t 0), some (.t 4, false), false⟩, ⟨.bin .geq (.t 3) (.t 0), some (.t 5, false), false⟩, ⟨.pick (.t 6) (.c (.bool true)) (.t 0), none, false⟩, ⟨.mv (.t 0), none, false⟩, ⟨.fad (.v 2) 2 none, some (.t 0, false), false⟩, ⟨.ldi (.t 0) none, some (.t 1, false), false⟩, ⟨.bin .lss (.t 0) (.c (.int (0))), some (.t 2, false), false⟩, ⟨.pick (.t 3) (.c (.bool true)) (.t 0), none, false⟩, ⟨.mv (.t 0), none, false⟩, ⟨.fad (.v 2) 2 none, some (.t 0, false), false⟩, ⟨.ldi (.t 0) none, some (.t 1, false), false⟩, ⟨.fad (.v 3) 0 none, some (.t 2, false), false⟩, ⟨.ldi (.t 0) none, some (.t 3, false), false⟩, ⟨.bin .geq (.t 2) (.t 0), some (.t 4, false), false⟩, ⟨.pick (.t 5) (.c (.bool true)) (.t 0), none, false⟩, ⟨.mv (.t 0), none, false⟩, ⟨.fad (.v 2) 3 none, some (.t 0, false), false⟩, ⟨.ldi (.t 0) none, some (.t 1, false), false⟩, ⟨.bin .lss (.t 0) (.c (.int (0))), some (.t 2, false), false⟩, ⟨.pick (.t 3) (.c (.bool true)) (.t 0), none, false⟩], [], [], some (32, 0)⟩
abbrev r_ref33_fits_2 : Reg := ⟨[⟨.mv (.c (.bool false)), none, false⟩], [(5, 0)], [2, 3], none⟩
abbrev r_ref33_fits_3 : Reg := ⟨[⟨.fad (.v 2) 0 none, none, false⟩, ⟨.ldi (.t 0) none, none, false⟩], [(4, 0)], [], none⟩
abbrev r_ref33_fits_4 : Reg := ⟨[⟨.bin .eql (.v 4) (.c (.int (1))), none, false⟩, ⟨.mv (.t 0), none, false⟩], [], [], some (35, 0)⟩
abbrev r_ref33_fits_5 : Reg := ⟨[⟨.fad (.v 2) 3 none, none, false⟩, ⟨.ldi (.t 0) none, none, false⟩, ⟨.bin .leq (.t 0) (.c (.int (1048576))), none, false⟩, ⟨.mv (.t 0), none, false⟩, ⟨.fad (.v 2) 4 none, some (.t 0, true), false⟩, ⟨.ldi (.t 0) none, some (.t 1, true), false⟩, ⟨.bin .eql (.t 0) (.c (.int (0))), some (.t 2, true), false⟩, ⟨.pick (.t 3) (.t 0) (.c (.bool false)), none, false⟩, ⟨.mv (.t 0), none, false⟩], [(5, 0)], [2, 3, 4], none⟩
abbrev r_ref33_fits_6 : Reg := ⟨[⟨.bin .eql (.v 4) (.c (.int (2))), none, false⟩, ⟨.mv (.t 0), none, false⟩], [], [], some (45, 0)⟩
abbrev r_ref33_fits_7 : Reg := ⟨[⟨.fad (.v 2) 3 none, none, false⟩, ⟨.ldi (.t 0) none, none, false⟩, ⟨.fad (.v 3) 2 none, none, false⟩, ⟨.ldi (.t 0) none, none, false⟩, ⟨.len (.t 0), none, false⟩, ⟨.bin .lss (.t 3) (.t 0), none, false⟩, ⟨.mv (.t 0), none, false⟩, ⟨.fad (.v 2) 4 none, some (.t 0, true), false⟩, ⟨.ldi (.t 0) none, some (.t 1, true), false⟩, ⟨.bin .eql (.t 0) (.c (.int (0))), some (.t 2, true), false⟩, ⟨.pick (.t 3) (.t 0) (.c (.bool false)), none, false⟩, ⟨.mv (.t 0), none, false⟩], [(5, 0)], [2, 3, 4], none⟩
abbrev r_ref33_fits_8 : Reg := ⟨[⟨.bin .eql (.v 4) (.c (.int (3))), none, false⟩, ⟨.mv (.t 0), none, false⟩], [], [4], some (58, 0)⟩
abbrev r_ref33_fits_9 : Reg := ⟨[⟨.fad (.v 2) 3 none, none, false⟩, ⟨.ldi (.t 0) none, none, false⟩, ⟨.bin .leq (.t 0) (.c (.int (1048576))), none, false⟩, ⟨.mv (.t 0), none, false⟩, ⟨.fad (.v 2) 4 none, some (.t 0, true), false⟩, ⟨.ldi (.t 0) none, some (.t 1, true), false⟩, ⟨.bin .geq (.t 0) (.c (.int (0))), some (.t 2, true), false⟩, ⟨.pick (.t 3) (.t 0) (.c (.bool false)), none, false⟩, ⟨.mv (.t 0), none, false⟩, ⟨.fad (.v 2) 4 none, some (.t 0, true), false⟩, ⟨.ldi (.t 0) none, some (.t 1, true), false⟩, ⟨.fad (.v 3) 0 none, some (.t 2, true), false⟩, ⟨.ldi (.t 0) none, some (.t 3, true), false⟩, ⟨.bin .lss (.t 2) (.t 0), some (.t 4, true), false⟩, ⟨.pick (.t 5) (.t 0) (.c (.bool false)), none, false⟩, ⟨.mv (.t 0), none, false⟩], [(5, 0)], [2, 3], none⟩
abbrev r_ref33_fits_10 : Reg := ⟨[⟨.mv (.c (.bool false)), none, false⟩], [(5, 0)], [2, 3], none⟩
abbrev ir_ref33_fits : Fn := { np := 2, nv := 6, res := [(5, none)], body :=
(.seq (.reg r_ref33_fits_0)
 (.seq (.seq (.reg r_ref33_fits_1)
 (.cond 32 (.seq (.reg r_ref33_fits_2)
 .ret) .skip))
 (.seq (.seq (.reg r_ref33_fits_3)
 (.block 0 (.seq (.reg r_ref33_fits_4)
 (.cond 35 (.seq (.reg r_ref33_fits_5)
 .ret) (.seq (.reg r_ref33_fits_6)
 (.cond 45 (.seq (.reg r_ref33_fits_7)
 .ret) (.seq (.reg r_ref33_fits_8)
 (.cond 58 (.seq (.reg r_ref33_fits_9)
 .ret) .skip))))))))
 (.seq (.reg r_ref33_fits_10)
 .ret)))) }
/- f27 ref33_changed : 0:row 1:at 2:value 3:i 4:out 5:_ -/
abbrev r_ref33_changed_0 : Reg := ⟨[⟨.mv (.c (.snil)), none, false⟩], [], [5], none⟩
abbrev r_ref33_changed_1 : Reg := ⟨[⟨.nl none, none, false⟩], [(4, 0)], [], none⟩
abbrev r_ref33_changed_2 : Reg := ⟨[⟨.mv (.c (.int (0))), none, false⟩], [(3, 0)], [], none⟩
abbrev r_ref33_changed_3 : Reg := ⟨[⟨.mv (.v 3), none, false⟩, ⟨.mv (.v 0), none, false⟩, ⟨.len (.t 0), none, false⟩, ⟨.bin .lss (.t 2) (.t 0), none, false⟩], [], [], some (12, 0)⟩
abbrev r_ref33_changed_5 : Reg := ⟨[⟨.mv (.v 3), none, false⟩, ⟨.mv (.v 1), none, false⟩, ⟨.bin .eql (.t 1) (.t 0), none, false⟩], [], [], some (17, 0)⟩
abbrev r_ref33_changed_6 : Reg := ⟨[⟨.mv (.v 4), none, false⟩, ⟨.mv (.v 2), none, false⟩, ⟨.lita [(.t 0)] 1, none, false⟩, ⟨.appw (.t 2) (.t 0) none, none, false⟩, ⟨.mv (.t 0), none, false⟩], [(4, 0)], [], none⟩
abbrev r_ref33_changed_7 : Reg := ⟨[⟨.mv (.v 4), none, false⟩, ⟨.mv (.v 0), none, false⟩, ⟨.mv (.v 3), none, false⟩, ⟨.iad (.t 1) (.t 0) 1, none, false⟩, ⟨.ld (.t 0) none, none, false⟩, ⟨.lita [(.t 0)] 1, none, false⟩, ⟨.appw (.t 5) (.t 0) none, none, false⟩, ⟨.mv (.t 0), none, false⟩], [(4, 0)], [], none⟩
abbrev r_ref33_changed_4 : Reg := ⟨[⟨.mv (.v 3), none, false⟩, ⟨.bin .add (.t 0) (.c (.int (1))), none, false⟩, ⟨.mv (.t 0), none, false⟩], [(3, 0)], [], none⟩
abbrev b_ref33_changed_0 : IC := (.seq (.seq (.reg r_ref33_changed_3)
 (.cond 12 .skip (.exit 0)))
 (.seq (.block 1 (.seq (.reg r_ref33_changed_5)
 (.cond 17 (.reg r_ref33_changed_6) (.reg r_ref33_changed_7))))
 (.reg r_ref33_changed_4)))
abbrev r_ref33_changed_8 : Reg := ⟨[⟨.mv (.v 4), none, false⟩, ⟨.mv (.t 0), none, false⟩], [(5, 0)], [0, 1, 2, 3, 4], none⟩
abbrev ir_ref33_changed : Fn := { np := 3, nv := 6, res := [(5, none)], body :=
(.seq (.reg r_ref33_changed_0)
 (.seq (.reg r_ref33_changed_1)
 (.seq (.seq (.reg r_ref33_changed_2)
 (.block 0 (.loop b_ref33_changed_0)))
 (.seq (.reg r_ref33_changed_8)
 .ret)))) }
/- f28 ref06_Lists : 0:a 1:b 2:i 3:_ -/
abbrev r_ref06_Lists_0 : Reg := ⟨[⟨.mv (.c (.bool false)), none, false⟩], [], [3], none⟩
abbrev r_ref06_Lists_1 : Reg := ⟨[⟨.mv (.v 0), none, false⟩, ⟨.len (.t 0), none, false⟩, ⟨.mv (.v 1), none, false⟩, ⟨.len (.t 0), none, false⟩, ⟨.bin .neq (.t 2) (.t 0), none, false⟩], [], [], some (10, 0)⟩
abbrev r_ref06_Lists_2 : Reg := ⟨[⟨.mv (.c (.bool false)), none, false⟩], [(3, 0)], [0, 1], none⟩
abbrev r_ref06_Lists_3 : Reg := ⟨[⟨.mv (.c (.int (0))), none, false⟩], [(2, 0)], [], none⟩
abbrev r_ref06_Lists_4 : Reg := ⟨[⟨.mv (.v 2), none, false⟩, ⟨.mv (.v 0), none, false⟩, ⟨.len (.t 0), none, false⟩, ⟨.bin .lss (.t 2) (.t 0), none, false⟩], [], [], some (14, 0)⟩
abbrev r_ref06_Lists_6 : Reg := ⟨[⟨.mv (.v 0), none, false⟩, ⟨.mv (.v 2), none, false⟩, ⟨.iad (.t 1) (.t 0) 1, none, false⟩, ⟨.ld (.t 0) none, none, false⟩, ⟨.mv (.v 1), none, false⟩, ⟨.mv (.v 2), none, false⟩, ⟨.iad (.t 1) (.t 0) 1, none, false⟩, ⟨.ld (.t 0) none, none, false⟩, ⟨.cal F_ref06_Ints [(.t 4), (.t 0)], none, false⟩, ⟨.not (.t 0), none, false⟩], [], [], some (26, 0)⟩
abbrev r_ref06_Lists_7 : Reg := ⟨[⟨.mv (.c (.bool false)), none, false⟩], [(3, 0)], [0, 1, 2], none⟩
abbrev r_ref06_Lists_5 : Reg := ⟨[⟨.mv (.v 2), none, false⟩, ⟨.bin .add (.t 0) (.c (.int (1))), none, false⟩, ⟨.mv (.t 0), none, false⟩], [(2, 0)], [], none⟩
abbrev b_ref06_Lists_0 : IC := (.seq (.seq (.reg r_ref06_Lists_4)
 (.cond 14 .skip (.exit 0)))
 (.seq (.block 1 (.seq (.reg r_ref06_Lists_6)
 (.cond 26 (.seq (.reg r_ref06_Lists_7)
 .ret) .skip)))
 (.reg r_ref06_Lists_5)))
abbrev r_ref06_Lists_8 : Reg := ⟨[⟨.mv (.c (.bool true)), none, false⟩], [(3, 0)], [0, 1, 2], none⟩
abbrev ir_ref06_Lists : Fn := { np := 2, nv := 4, res := [(3, none)], body :=
(.seq (.reg r_ref06_Lists_0)
 (.seq (.seq (.reg r_ref06_Lists_1)
 (.cond 10 (.seq (.reg r_ref06_Lists_2)
 .ret) .skip))
 (.seq (.seq (.reg r_ref06_Lists_3)
 (.block 0 (.loop b_ref06_Lists_0)))
 (.seq (.reg r_ref06_Lists_8)
 .ret)))) }
/- f29 mealy_Reach : 0:m 1:m 2:seen 3:i 4:out 5:_ 6:_ 7:_ 8:t 9:_ -/
abbrev r_mealy_Reach_0 : Reg := ⟨[⟨.bxi (.v 0), none, false⟩, ⟨.mv (.c (.snil)), none, false⟩], [(1, 1)], [0, 9], none⟩
abbrev r_mealy_Reach_1 : Reg := ⟨[⟨.ldi (.v 1) (some 4), none, false⟩, ⟨.cal F_mealy_Valid [(.t 0)], none, false⟩, ⟨.bin .neq (.t 0) (.c (.int (0))), none, false⟩], [], [], some (10, 0)⟩
abbrev r_mealy_Reach_2 : Reg := ⟨[⟨.mv (.c (.snil)), none, false⟩], [(9, 0)], [1], none⟩
abbrev r_mealy_Reach_3 : Reg := ⟨[⟨.fad (.v 1) 2 none, none, false⟩, ⟨.ldi (.t 0) none, none, false⟩, ⟨.len (.t 0), none, false⟩, ⟨.mks (.t 0) (.t 0) [.bool false] none, none, false⟩, ⟨.mv (.t 0), none, false⟩], [(2, 0)], [], none⟩
abbrev r_mealy_Reach_4 : Reg := ⟨[⟨.mv (.v 2), none, false⟩, ⟨.fad (.v 1) 1 none, none, false⟩, ⟨.ldi (.t 0) none, none, false⟩, ⟨.iad (.t 2) (.t 0) 1, none, false⟩, ⟨.st (.t 0) (.c (.bool true)) 1, none, false⟩], [], [], none⟩
abbrev r_mealy_Reach_5 : Reg := ⟨[⟨.fad (.v 1) 1 none, none, false⟩, ⟨.ldi (.t 0) none, none, false⟩, ⟨.litm [(.t 0)] none, none, false⟩, ⟨.mv (.t 0), none, false⟩], [(4, 0)], [], none⟩
abbrev r_mealy_Reach_6 : Reg := ⟨[⟨.mv (.c (.int (0))), none, false⟩], [(3, 0)], [], none⟩
abbrev r_mealy_Reach_7 : Reg := ⟨[⟨.mv (.v 3), none, false⟩, ⟨.mv (.v 4), none, false⟩, ⟨.len (.t 0), none, false⟩, ⟨.bin .lss (.t 2) (.t 0), none, false⟩], [], [], some (25, 0)⟩
abbrev r_mealy_Reach_9 : Reg := ⟨[⟨.fad (.v 1) 2 none, none, false⟩, ⟨.ldi (.t 0) none, none, false⟩, ⟨.mv (.v 4), none, false⟩, ⟨.mv (.v 3), none, false⟩, ⟨.iad (.t 1) (.t 0) 1, none, false⟩, ⟨.ld (.t 0) none, none, false⟩, ⟨.iad (.t 4) (.t 0) 1, none, false⟩, ⟨.ldi (.t 0) none, none, false⟩, ⟨.len (.t 0), none, false⟩, ⟨.mv (.c (.int (0))), none, false⟩], [(7, 2), (6, 1), (5, 0)], [], none⟩
abbrev r_mealy_Reach_10 : Reg := ⟨[⟨.bin .lss (.v 5) (.v 6), none, false⟩], [], [], some (38, 0)⟩
abbrev r_mealy_Reach_11 : Reg := ⟨[⟨.iad (.v 7) (.v 5) 1, none, false⟩, ⟨.ld (.t 0) none, none, false⟩, ⟨.mv (.t 0), none, false⟩], [(8, 0)], [], none⟩
abbrev r_mealy_Reach_12 : Reg := ⟨[⟨.mv (.v 2), none, false⟩, ⟨.mv (.v 8), none, false⟩, ⟨.iad (.t 1) (.t 0) 1, none, false⟩, ⟨.ld (.t 0) none, none, false⟩, ⟨.not (.t 0), none, false⟩], [], [], some (45, 0)⟩
abbrev r_mealy_Reach_13 : Reg := ⟨[⟨.mv (.v 2), none, false⟩, ⟨.mv (.v 8), none, false⟩, ⟨.iad (.t 1) (.t 0) 1, none, false⟩, ⟨.st (.t 0) (.c (.bool true)) 1, none, false⟩], [], [], none⟩
abbrev r_mealy_Reach_14 : Reg := ⟨[⟨.mv (.v 4), none, false⟩, ⟨.mv (.v 8), none, false⟩, ⟨.lita [(.t 0)] 1, none, false⟩, ⟨.appw (.t 2) (.t 0) none, none, false⟩, ⟨.mv (.t 0), none, false⟩], [(4, 0)], [8], none⟩
abbrev r_mealy_Reach_15 : Reg := ⟨[⟨.bin .add (.v 5) (.c (.int (1))), none, false⟩, ⟨.mv (.t 0), none, false⟩], [(5, 0)], [8], none⟩
abbrev b_mealy_Reach_2 : IC := (.seq (.reg r_mealy_Reach_10)
 (.seq (.cond 38 .skip (.exit 2))
 (.seq (.block 3 (.seq (.reg r_mealy_Reach_11)
 (.seq (.reg r_mealy_Reach_12)
 (.cond 45 (.seq (.reg r_mealy_Reach_13)
 (.reg r_mealy_Reach_14)) .skip))))
 (.reg r_mealy_Reach_15))))
abbrev r_mealy_Reach_8 : Reg := ⟨[⟨.mv (.v 3), none, false⟩, ⟨.bin .add (.t 0) (.c (.int (1))), none, false⟩, ⟨.mv (.t 0), none, false⟩], [(3, 0)], [5, 6, 7], none⟩
abbrev b_mealy_Reach_0 : IC := (.seq (.seq (.reg r_mealy_Reach_7)
 (.cond 25 .skip (.exit 0)))
 (.seq (.block 1 (.seq (.reg r_mealy_Reach_9)
 (.block 2 (.loop b_mealy_Reach_2))))
 (.reg r_mealy_Reach_8)))
abbrev r_mealy_Reach_16 : Reg := ⟨[⟨.mv (.v 4), none, false⟩, ⟨.mv (.t 0), none, false⟩], [(9, 0)], [1, 2, 3, 4], none⟩
abbrev ir_mealy_Reach : Fn := { np := 1, nv := 10, res := [(9, none)], body :=
(.seq (.reg r_mealy_Reach_0)
 (.seq (.seq (.reg r_mealy_Reach_1)
 (.cond 10 (.seq (.reg r_mealy_Reach_2)
 .ret) .skip))
 (.seq (.reg r_mealy_Reach_3)
 (.seq (.reg r_mealy_Reach_4)
 (.seq (.reg r_mealy_Reach_5)
 (.seq (.seq (.reg r_mealy_Reach_6)
 (.block 0 (.loop b_mealy_Reach_0)))
 (.seq (.reg r_mealy_Reach_16)
 .ret))))))) }
/- f31 mutant_transition : 0:m 1:s 2:a 3:outs 4:m 5:_ 6:_ 7:_ 8:o 9:l 10:_ 11:_ 12:n 13:t 14:_ 15:_ 16:_ 17:_ 18:_ 19:o 20:b 21:_ -/
abbrev r_mutant_transition_0 : Reg := ⟨[⟨.bxi (.v 0), none, false⟩, ⟨.mv (.c (.snil)), none, false⟩], [(4, 1)], [0, 21], none⟩
abbrev r_mutant_transition_1 : Reg := ⟨[⟨.nl (some 5), none, false⟩], [(9, 0)], [], none⟩
abbrev r_mutant_transition_2 : Reg := ⟨[⟨.fad (.v 4) 2 none, none, false⟩, ⟨.ldi (.t 0) none, none, false⟩, ⟨.mv (.v 1), none, false⟩, ⟨.iad (.t 1) (.t 0) 1, none, false⟩, ⟨.ldi (.t 0) none, none, false⟩, ⟨.mv (.v 2), none, false⟩, ⟨.iad (.t 1) (.t 0) 1, none, false⟩, ⟨.ldi (.t 0) none, none, false⟩, ⟨.mv (.t 0), none, false⟩], [(13, 0)], [], none⟩
abbrev r_mutant_transition_3 : Reg := ⟨[⟨.mv (.v 3), none, false⟩, ⟨.len (.t 0), none, false⟩, ⟨.mv (.c (.int (0))), none, false⟩], [(7, 2), (6, 1), (5, 0)], [], none⟩
abbrev r_mutant_transition_4 : Reg := ⟨[⟨.bin .lss (.v 5) (.v 6), none, false⟩], [], [], some (28, 0)⟩
abbrev r_mutant_transition_5 : Reg := ⟨[⟨.iad (.v 7) (.v 5) 1, none, false⟩, ⟨.ld (.t 0) none, none, false⟩, ⟨.mv (.t 0), none, false⟩], [(8, 0)], [], none⟩
abbrev r_mutant_transition_6 : Reg := ⟨[⟨.mv (.v 8), none, false⟩, ⟨.fad (.v 4) 3 none, none, false⟩, ⟨.ldi (.t 0) none, none, false⟩, ⟨.mv (.v 1), none, false⟩, ⟨.iad (.t 1) (.t 0) 1, none, false⟩, ⟨.ldi (.t 0) none, none, false⟩, ⟨.mv (.v 2), none, false⟩, ⟨.iad (.t 1) (.t 0) 1, none, false⟩, ⟨.ldi (.t 0) none, none, false⟩, ⟨.bin .neq (.t 8) (.t 0), none, false⟩], [], [], some (40, 0)⟩
abbrev r_mutant_transition_7 : Reg := ⟨[⟨.mv (.v 9), none, false⟩, ⟨.mv (.v 1), none, false⟩, ⟨.mv (.v 2), none, false⟩, ⟨.mv (.v 8), none, false⟩, ⟨.bld [.int 0, .int 0, .int 0, .int 0, .int 0] [(0, 1, (.c (.int (1)))), (1, 1, (.t 2)), (2, 1, (.t 1)), (3, 1, (.t 0))], none, false⟩, ⟨.lita [(.t 0)] 5, none, false⟩, ⟨.appw (.t 5) (.t 0) (some 5), none, false⟩, ⟨.mv (.t 0), none, false⟩], [(9, 0)], [8], none⟩
abbrev r_mutant_transition_8 : Reg := ⟨[⟨.bin .add (.v 5) (.c (.int (1))), none, false⟩, ⟨.mv (.t 0), none, false⟩], [(5, 0)], [8], none⟩
abbrev b_mutant_transition_0 : IC := (.seq (.reg r_mutant_transition_4)
 (.seq (.cond 28 .skip (.exit 0))
 (.seq (.block 1 (.seq (.reg r_mutant_transition_5)
 (.seq (.reg r_mutant_transition_6)
 (.cond 40 (.reg r_mutant_transition_7) .skip))))
 (.reg r_mutant_transition_8))))
abbrev r_mutant_transition_9 : Reg := ⟨[⟨.fad (.v 4) 2 none, none, false⟩, ⟨.ldi (.t 0) none, none, false⟩, ⟨.len (.t 0), none, false⟩, ⟨.mv (.c (.int (0))), none, false⟩], [(11, 1), (10, 0)], [5, 6, 7], none⟩
abbrev r_mutant_transition_10 : Reg := ⟨[⟨.bin .lss (.v 10) (.v 11), none, false⟩], [], [], some (53, 0)⟩
abbrev r_mutant_transition_11 : Reg := ⟨[⟨.mv (.v 10), none, false⟩, ⟨.mv (.t 0), none, false⟩], [(12, 0)], [], none⟩
abbrev r_mutant_transition_12 : Reg := ⟨[⟨.mv (.v 12), none, false⟩, ⟨.mv (.v 13), none, false⟩, ⟨.bin .neq (.t 1) (.t 0), none, false⟩], [], [], some (57, 0)⟩
abbrev r_mutant_transition_13 : Reg := ⟨[⟨.mv (.v 9), none, false⟩, ⟨.mv (.v 1), none, false⟩, ⟨.mv (.v 2), none, false⟩, ⟨.mv (.v 12), none, false⟩, ⟨.bld [.int 0, .int 0, .int 0, .int 0, .int 0] [(0, 1, (.c (.int (2)))), (1, 1, (.t 2)), (2, 1, (.t 1)), (3, 1, (.t 0))], none, false⟩, ⟨.lita [(.t 0)] 5, none, false⟩, ⟨.appw (.t 5) (.t 0) (some 5), none, false⟩, ⟨.mv (.t 0), none, false⟩], [(9, 0)], [12], none⟩
abbrev r_mutant_transition_14 : Reg := ⟨[⟨.bin .add (.v 10) (.c (.int (1))), none, false⟩, ⟨.mv (.t 0), none, false⟩], [(10, 0)], [12], none⟩
abbrev b_mutant_transition_2 : IC := (.seq (.reg r_mutant_transition_10)
 (.seq (.cond 53 .skip (.exit 2))
 (.seq (.block 3 (.seq (.reg r_mutant_transition_11)
 (.seq (.reg r_mutant_transition_12)
 (.cond 57 (.reg r_mutant_transition_13) .skip))))
 (.reg r_mutant_transition_14))))
abbrev r_mutant_transition_15 : Reg := ⟨[⟨.fad (.v 4) 2 none, none, false⟩, ⟨.ldi (.t 0) none, none, false⟩, ⟨.len (.t 0), none, false⟩, ⟨.bin .geq (.t 0) (.c (.int (128))), none, false⟩], [], [10, 11], some (69, 0)⟩
abbrev r_mutant_transition_16 : Reg := ⟨[⟨.mv (.v 9), none, false⟩, ⟨.mv (.t 0), none, false⟩], [(21, 0)], [1, 2, 3, 4, 9, 13], none⟩
abbrev r_mutant_transition_17 : Reg := ⟨[⟨.fad (.v 4) 0 none, none, false⟩, ⟨.ldi (.t 0) none, none, false⟩, ⟨.mv (.c (.int (0))), none, false⟩], [(15, 1), (14, 0)], [], none⟩
abbrev r_mutant_transition_18 : Reg := ⟨[⟨.bin .lss (.v 14) (.v 15), none, false⟩], [], [], some (74, 0)⟩
abbrev r_mutant_transition_19 : Reg := ⟨[⟨.mv (.v 14), none, false⟩, ⟨.mv (.t 0), none, false⟩], [(20, 0)], [], none⟩
abbrev r_mutant_transition_20 : Reg := ⟨[⟨.mv (.v 3), none, false⟩, ⟨.len (.t 0), none, false⟩, ⟨.mv (.c (.int (0))), none, false⟩], [(18, 2), (17, 1), (16, 0)], [], none⟩
abbrev r_mutant_transition_21 : Reg := ⟨[⟨.bin .lss (.v 16) (.v 17), none, false⟩], [], [], some (79, 0)⟩
abbrev r_mutant_transition_22 : Reg := ⟨[⟨.iad (.v 18) (.v 16) 1, none, false⟩, ⟨.ld (.t 0) none, none, false⟩, ⟨.mv (.t 0), none, false⟩], [(19, 0)], [], none⟩
abbrev r_mutant_transition_23 : Reg := ⟨[⟨.mv (.v 19), none, false⟩, ⟨.fad (.v 4) 3 none, none, false⟩, ⟨.ldi (.t 0) none, none, false⟩, ⟨.mv (.v 13), none, false⟩, ⟨.iad (.t 1) (.t 0) 1, none, false⟩, ⟨.ldi (.t 0) none, none, false⟩, ⟨.mv (.v 20), none, false⟩, ⟨.iad (.t 1) (.t 0) 1, none, false⟩, ⟨.ldi (.t 0) none, none, false⟩, ⟨.bin .neq (.t 8) (.t 0), none, false⟩], [], [], some (91, 0)⟩
abbrev r_mutant_transition_24 : Reg := ⟨[⟨.mv (.v 9), none, false⟩, ⟨.mv (.v 1), none, false⟩, ⟨.mv (.v 2), none, false⟩, ⟨.mv (.v 19), none, false⟩, ⟨.mv (.v 20), none, false⟩, ⟨.bld [.int 0, .int 0, .int 0, .int 0, .int 0] [(0, 1, (.c (.int (3)))), (1, 1, (.t 3)), (2, 1, (.t 2)), (3, 1, (.t 1)), (4, 1, (.t 0))], none, false⟩, ⟨.lita [(.t 0)] 5, none, false⟩, ⟨.appw (.t 6) (.t 0) (some 5), none, false⟩, ⟨.mv (.t 0), none, false⟩], [(9, 0)], [19], none⟩
abbrev r_mutant_transition_25 : Reg := ⟨[⟨.bin .add (.v 16) (.c (.int (1))), none, false⟩, ⟨.mv (.t 0), none, false⟩], [(16, 0)], [19], none⟩
abbrev b_mutant_transition_6 : IC := (.seq (.reg r_mutant_transition_21)
 (.seq (.cond 79 .skip (.exit 6))
 (.seq (.block 7 (.seq (.reg r_mutant_transition_22)
 (.seq (.reg r_mutant_transition_23)
 (.cond 91 (.reg r_mutant_transition_24) .skip))))
 (.reg r_mutant_transition_25))))
abbrev r_mutant_transition_26 : Reg := ⟨[⟨.bin .add (.v 14) (.c (.int (1))), none, false⟩, ⟨.mv (.t 0), none, false⟩], [(14, 0)], [16, 17, 18, 20], none⟩
abbrev b_mutant_transition_4 : IC := (.seq (.reg r_mutant_transition_18)
 (.seq (.cond 74 .skip (.exit 4))
 (.seq (.block 5 (.seq (.reg r_mutant_transition_19)
 (.seq (.reg r_mutant_transition_20)
 (.block 6 (.loop b_mutant_transition_6)))))
 (.reg r_mutant_transition_26))))
abbrev r_mutant_transition_27 : Reg := ⟨[⟨.mv (.v 9), none, false⟩, ⟨.mv (.t 0), none, false⟩], [(21, 0)], [1, 2, 3, 4, 9, 13, 14, 15], none⟩
abbrev ir_mutant_transition : Fn := { np := 4, nv := 22, res := [(21, none)], body :=
(.seq (.reg r_mutant_transition_0)
 (.seq (.reg r_mutant_transition_1)
 (.seq (.reg r_mutant_transition_2)
 (.seq (.seq (.reg r_mutant_transition_3)
 (.block 0 (.loop b_mutant_transition_0)))
 (.seq (.seq (.reg r_mutant_transition_9)
 (.block 2 (.loop b_mutant_transition_2)))
 (.seq (.seq (.reg r_mutant_transition_15)
 (.cond 69 (.seq (.reg r_mutant_transition_16)
 .ret) .skip))
 (.seq (.seq (.reg r_mutant_transition_17)
 (.block 4 (.loop b_mutant_transition_4)))
 (.seq (.reg r_mutant_transition_27)
 .ret)))))))) }
/- f32 ref06_Reach : 0:m 1:m 2:i 3:l 4:a 5:_ -/
abbrev r_ref06_Reach_0 : Reg := ⟨[⟨.bxi (.v 0), none, false⟩, ⟨.mv (.c (.snil)), none, false⟩], [(1, 1)], [0, 5], none⟩
abbrev r_ref06_Reach_1 : Reg := ⟨[⟨.ldi (.v 1) (some 4), none, false⟩, ⟨.cal F_ref06_Valid [(.t 0)], none, false⟩, ⟨.bin .neq (.t 0) (.c (.int (0))), none, false⟩], [], [], some (8, 0)⟩
abbrev r_ref06_Reach_2 : Reg := ⟨[⟨.mv (.c (.snil)), none, false⟩], [(5, 0)], [1], none⟩
abbrev r_ref06_Reach_3 : Reg := ⟨[⟨.fad (.v 1) 1 none, none, false⟩, ⟨.ldi (.t 0) none, none, false⟩, ⟨.litm [(.t 0)] none, none, false⟩, ⟨.mv (.t 0), none, false⟩], [(3, 0)], [], none⟩
abbrev r_ref06_Reach_4 : Reg := ⟨[⟨.mv (.c (.int (0))), none, false⟩], [(2, 0)], [], none⟩
abbrev r_ref06_Reach_5 : Reg := ⟨[⟨.mv (.v 2), none, false⟩, ⟨.mv (.v 3), none, false⟩, ⟨.len (.t 0), none, false⟩, ⟨.bin .lss (.t 2) (.t 0), none, false⟩], [], [], some (15, 0)⟩
abbrev r_ref06_Reach_7 : Reg := ⟨[⟨.mv (.c (.int (0))), none, false⟩], [(4, 0)], [], none⟩
abbrev r_ref06_Reach_8 : Reg := ⟨[⟨.mv (.v 4), none, false⟩, ⟨.fad (.v 1) 0 none, none, false⟩, ⟨.ldi (.t 0) none, none, false⟩, ⟨.bin .lss (.t 2) (.t 0), none, false⟩], [], [], some (21, 0)⟩
abbrev r_ref06_Reach_10 : Reg := ⟨[⟨.mv (.v 3), none, false⟩, ⟨.fad (.v 1) 2 none, none, false⟩, ⟨.ldi (.t 0) none, none, false⟩, ⟨.mv (.v 3), none, false⟩, ⟨.mv (.v 2), none, false⟩, ⟨.iad (.t 1) (.t 0) 1, none, false⟩, ⟨.ld (.t 0) none, none, false⟩, ⟨.iad (.t 4) (.t 0) 1, none, false⟩, ⟨.ldi (.t 0) none, none, false⟩, ⟨.mv (.v 4), none, false⟩, ⟨.iad (.t 1) (.t 0) 1, none, false⟩, ⟨.ldi (.t 0) none, none, false⟩, ⟨.cab F_ref06_has [(.t 11), (.t 0)], none, false⟩, ⟨.not (.t 0), none, false⟩], [], [], some (37, 0)⟩
abbrev r_ref06_Reach_11 : Reg := ⟨[⟨.mv (.v 3), none, false⟩, ⟨.fad (.v 1) 2 none, none, false⟩, ⟨.ldi (.t 0) none, none, false⟩, ⟨.mv (.v 3), none, false⟩, ⟨.mv (.v 2), none, false⟩, ⟨.iad (.t 1) (.t 0) 1, none, false⟩, ⟨.ld (.t 0) none, none, false⟩, ⟨.iad (.t 4) (.t 0) 1, none, false⟩, ⟨.ldi (.t 0) none, none, false⟩, ⟨.mv (.v 4), none, false⟩, ⟨.iad (.t 1) (.t 0) 1, none, false⟩, ⟨.ldi (.t 0) none, none, false⟩, ⟨.lita [(.t 0)] 1, none, false⟩, ⟨.app (.t 12) (.t 0) none, none, false⟩, ⟨.mv (.t 0), none, false⟩], [(3, 0)], [], none⟩
abbrev r_ref06_Reach_9 : Reg := ⟨[⟨.mv (.v 4), none, false⟩, ⟨.bin .add (.t 0) (.c (.int (1))), none, false⟩, ⟨.mv (.t 0), none, false⟩], [(4, 0)], [], none⟩
abbrev b_ref06_Reach_2 : IC := (.seq (.seq (.reg r_ref06_Reach_8)
 (.cond 21 .skip (.exit 2)))
 (.seq (.block 3 (.seq (.reg r_ref06_Reach_10)
 (.cond 37 (.reg r_ref06_Reach_11) .skip)))
 (.reg r_ref06_Reach_9)))
abbrev r_ref06_Reach_6 : Reg := ⟨[⟨.mv (.v 2), none, false⟩, ⟨.bin .add (.t 0) (.c (.int (1))), none, false⟩, ⟨.mv (.t 0), none, false⟩], [(2, 0)], [4], none⟩
abbrev b_ref06_Reach_0 : IC := (.seq (.seq (.reg r_ref06_Reach_5)
 (.cond 15 .skip (.exit 0)))
 (.seq (.block 1 (.seq (.reg r_ref06_Reach_7)
 (.block 2 (.loop b_ref06_Reach_2))))
 (.reg r_ref06_Reach_6)))
abbrev r_ref06_Reach_12 : Reg := ⟨[⟨.mv (.v 3), none, false⟩, ⟨.mv (.t 0), none, false⟩], [(5, 0)], [1, 2, 3], none⟩
abbrev ir_ref06_Reach : Fn := { np := 1, nv := 6, res := [(5, none)], body :=
(.seq (.reg r_ref06_Reach_0)
 (.seq (.seq (.reg r_ref06_Reach_1)
 (.cond 8 (.seq (.reg r_ref06_Reach_2)
 .ret) .skip))
 (.seq (.reg r_ref06_Reach_3)
 (.seq (.seq (.reg r_ref06_Reach_4)
 (.block 0 (.loop b_ref06_Reach_0)))
 (.seq (.reg r_ref06_Reach_12)
 .ret))))) }
/- f33 ref06_Outputs : 0:m 1:m 2:s 3:a 4:l 5:_ -/
abbrev r_ref06_Outputs_0 : Reg := ⟨[⟨.bxi (.v 0), none, false⟩, ⟨.mv (.c (.snil)), none, false⟩], [(1, 1)], [0, 5], none⟩
abbrev r_ref06_Outputs_1 : Reg := ⟨[⟨.ldi (.v 1) (some 4), none, false⟩, ⟨.cal F_ref06_Valid [(.t 0)], none, false⟩, ⟨.bin .neq (.t 0) (.c (.int (0))), none, false⟩], [], [], some (8, 0)⟩
abbrev r_ref06_Outputs_2 : Reg := ⟨[⟨.mv (.c (.snil)), none, false⟩], [(5, 0)], [1], none⟩
abbrev r_ref06_Outputs_3 : Reg := ⟨[⟨.mv (.c (.snil)), none, false⟩], [(4, 0)], [], none⟩
abbrev r_ref06_Outputs_4 : Reg := ⟨[⟨.mv (.c (.int (0))), none, false⟩], [(2, 0)], [], none⟩
abbrev r_ref06_Outputs_5 : Reg := ⟨[⟨.mv (.v 2), none, false⟩, ⟨.fad (.v 1) 3 none, none, false⟩, ⟨.ldi (.t 0) none, none, false⟩, ⟨.len (.t 0), none, false⟩, ⟨.bin .lss (.t 3) (.t 0), none, false⟩], [], [], some (13, 0)⟩
abbrev r_ref06_Outputs_7 : Reg := ⟨[⟨.mv (.c (.int (0))), none, false⟩], [(3, 0)], [], none⟩
abbrev r_ref06_Outputs_8 : Reg := ⟨[⟨.mv (.v 3), none, false⟩, ⟨.fad (.v 1) 0 none, none, false⟩, ⟨.ldi (.t 0) none, none, false⟩, ⟨.bin .lss (.t 2) (.t 0), none, false⟩], [], [], some (19, 0)⟩
abbrev r_ref06_Outputs_10 : Reg := ⟨[⟨.mv (.v 4), none, false⟩, ⟨.fad (.v 1) 3 none, none, false⟩, ⟨.ldi (.t 0) none, none, false⟩, ⟨.mv (.v 2), none, false⟩, ⟨.iad (.t 1) (.t 0) 1, none, false⟩, ⟨.ldi (.t 0) none, none, false⟩, ⟨.mv (.v 3), none, false⟩, ⟨.iad (.t 1) (.t 0) 1, none, false⟩, ⟨.ldi (.t 0) none, none, false⟩, ⟨.cal F_ref06_insert [(.t 8), (.t 0)], none, false⟩, ⟨.mv (.t 0), none, false⟩], [(4, 0)], [], none⟩
abbrev r_ref06_Outputs_9 : Reg := ⟨[⟨.mv (.v 3), none, false⟩, ⟨.bin .add (.t 0) (.c (.int (1))), none, false⟩, ⟨.mv (.t 0), none, false⟩], [(3, 0)], [], none⟩
abbrev b_ref06_Outputs_2 : IC := (.seq (.seq (.reg r_ref06_Outputs_8)
 (.cond 19 .skip (.exit 2)))
 (.seq (.block 3 (.reg r_ref06_Outputs_10))
 (.reg r_ref06_Outputs_9)))
abbrev r_ref06_Outputs_6 : Reg := ⟨[⟨.mv (.v 2), none, false⟩, ⟨.bin .add (.t 0) (.c (.int (1))), none, false⟩, ⟨.mv (.t 0), none, false⟩], [(2, 0)], [3], none⟩
abbrev b_ref06_Outputs_0 : IC := (.seq (.seq (.reg r_ref06_Outputs_5)
 (.cond 13 .skip (.exit 0)))
 (.seq (.block 1 (.seq (.reg r_ref06_Outputs_7)
 (.block 2 (.loop b_ref06_Outputs_2))))
 (.reg r_ref06_Outputs_6)))
abbrev r_ref06_Outputs_11 : Reg := ⟨[⟨.mv (.v 4), none, false⟩, ⟨.mv (.t 0), none, false⟩], [(5, 0)], [1, 2, 4], none⟩
abbrev ir_ref06_Outputs : Fn := { np := 1, nv := 6, res := [(5, none)], body :=
(.seq (.reg r_ref06_Outputs_0)
 (.seq (.seq (.reg r_ref06_Outputs_1)
 (.cond 8 (.seq (.reg r_ref06_Outputs_2)
 .ret) .skip))
 (.seq (.reg r_ref06_Outputs_3)
 (.seq (.seq (.reg r_ref06_Outputs_4)
 (.block 0 (.loop b_ref06_Outputs_0)))
 (.seq (.reg r_ref06_Outputs_11)
 .ret))))) }
/- f34 ref33_single : 0:m 1:s 2:a 3:outputs 4:i 5:m 6:out 7:u 8:t 9:b 10:i 11:_ -/
abbrev r_ref33_single_0 : Reg := ⟨[⟨.bxi (.v 0), none, false⟩, ⟨.mv (.c (.snil)), none, false⟩], [(5, 1)], [0, 11], none⟩
abbrev r_ref33_single_1 : Reg := ⟨[⟨.nl (some 5), none, false⟩], [(6, 0)], [], none⟩
abbrev r_ref33_single_2 : Reg := ⟨[⟨.mv (.c (.int (0))), none, false⟩], [(4, 0)], [], none⟩
abbrev r_ref33_single_3 : Reg := ⟨[⟨.mv (.v 4), none, false⟩, ⟨.mv (.v 3), none, false⟩, ⟨.len (.t 0), none, false⟩, ⟨.bin .lss (.t 2) (.t 0), none, false⟩], [], [], some (18, 0)⟩
abbrev r_ref33_single_5 : Reg := ⟨[⟨.mv (.v 3), none, false⟩, ⟨.mv (.v 4), none, false⟩, ⟨.iad (.t 1) (.t 0) 1, none, false⟩, ⟨.ld (.t 0) none, none, false⟩, ⟨.fad (.v 5) 3 none, none, false⟩, ⟨.ldi (.t 0) none, none, false⟩, ⟨.mv (.v 1), none, false⟩, ⟨.iad (.t 1) (.t 0) 1, none, false⟩, ⟨.ldi (.t 0) none, none, false⟩, ⟨.mv (.v 2), none, false⟩, ⟨.iad (.t 1) (.t 0) 1, none, false⟩, ⟨.ldi (.t 0) none, none, false⟩, ⟨.bin .neq (.t 8) (.t 0), none, false⟩], [], [], some (33, 0)⟩
abbrev r_ref33_single_6 : Reg := ⟨[⟨.mv (.v 6), none, false⟩, ⟨.mv (.v 1), none, false⟩, ⟨.mv (.v 2), none, false⟩, ⟨.mv (.v 3), none, false⟩, ⟨.mv (.v 4), none, false⟩, ⟨.iad (.t 1) (.t 0) 1, none, false⟩, ⟨.ld (.t 0) none, none, false⟩, ⟨.bld [.int 0, .int 0, .int 0, .int 0, .int 0] [(0, 1, (.c (.int (1)))), (1, 1, (.t 5)), (2, 1, (.t 4)), (3, 1, (.t 0))], none, false⟩, ⟨.lita [(.t 0)] 5, none, false⟩, ⟨.appw (.t 8) (.t 0) (some 5), none, false⟩, ⟨.mv (.t 0), none, false⟩], [(6, 0)], [], none⟩
abbrev r_ref33_single_4 : Reg := ⟨[⟨.mv (.v 4), none, false⟩, ⟨.bin .add (.t 0) (.c (.int (1))), none, false⟩, ⟨.mv (.t 0), none, false⟩], [(4, 0)], [], none⟩
abbrev b_ref33_single_0 : IC := (.seq (.seq (.reg r_ref33_single_3)
 (.cond 18 .skip (.exit 0)))
 (.seq (.block 1 (.seq (.reg r_ref33_single_5)
 (.cond 33 (.reg r_ref33_single_6) .skip)))
 (.reg r_ref33_single_4)))
abbrev r_ref33_single_7 : Reg := ⟨[⟨.fad (.v 5) 2 none, none, false⟩, ⟨.ldi (.t 0) none, none, false⟩, ⟨.mv (.v 1), none, false⟩, ⟨.iad (.t 1) (.t 0) 1, none, false⟩, ⟨.ldi (.t 0) none, none, false⟩, ⟨.mv (.v 2), none, false⟩, ⟨.iad (.t 1) (.t 0) 1, none, false⟩, ⟨.ldi (.t 0) none, none, false⟩, ⟨.mv (.t 0), none, false⟩], [(8, 0)], [4], none⟩
abbrev r_ref33_single_8 : Reg := ⟨[⟨.mv (.c (.int (0))), none, false⟩], [(7, 0)], [], none⟩
abbrev r_ref33_single_9 : Reg := ⟨[⟨.mv (.v 7), none, false⟩, ⟨.fad (.v 5) 2 none, none, false⟩, ⟨.ldi (.t 0) none, none, false⟩, ⟨.len (.t 0), none, false⟩, ⟨.bin .lss (.t 3) (.t 0), none, false⟩], [], [], some (56, 0)⟩
abbrev r_ref33_single_11 : Reg := ⟨[⟨.mv (.v 7), none, false⟩, ⟨.mv (.v 8), none, false⟩, ⟨.bin .neq (.t 1) (.t 0), none, false⟩], [], [], some (61, 0)⟩
abbrev r_ref33_single_12 : Reg := ⟨[⟨.mv (.v 6), none, false⟩, ⟨.mv (.v 1), none, false⟩, ⟨.mv (.v 2), none, false⟩, ⟨.mv (.v 7), none, false⟩, ⟨.bld [.int 0, .int 0, .int 0, .int 0, .int 0] [(0, 1, (.c (.int (2)))), (1, 1, (.t 2)), (2, 1, (.t 1)), (3, 1, (.t 0))], none, false⟩, ⟨.lita [(.t 0)] 5, none, false⟩, ⟨.appw (.t 5) (.t 0) (some 5), none, false⟩, ⟨.mv (.t 0), none, false⟩], [(6, 0)], [], none⟩
abbrev r_ref33_single_10 : Reg := ⟨[⟨.mv (.v 7), none, false⟩, ⟨.bin .add (.t 0) (.c (.int (1))), none, false⟩, ⟨.mv (.t 0), none, false⟩], [(7, 0)], [], none⟩
abbrev b_ref33_single_2 : IC := (.seq (.seq (.reg r_ref33_single_9)
 (.cond 56 .skip (.exit 2)))
 (.seq (.block 3 (.seq (.reg r_ref33_single_11)
 (.cond 61 (.reg r_ref33_single_12) .skip)))
 (.reg r_ref33_single_10)))
abbrev r_ref33_single_13 : Reg := ⟨[⟨.mv (.c (.int (0))), none, false⟩], [(9, 0)], [7], none⟩
abbrev r_ref33_single_14 : Reg := ⟨[⟨.mv (.v 9), none, false⟩, ⟨.fad (.v 5) 0 none, none, false⟩, ⟨.ldi (.t 0) none, none, false⟩, ⟨.bin .lss (.t 2) (.t 0), none, false⟩, ⟨.mv (.t 0), none, false⟩, ⟨.fad (.v 5) 2 none, some (.t 0, true), false⟩, ⟨.ldi (.t 0) none, some (.t 1, true), false⟩, ⟨.len (.t 0), some (.t 2, true), false⟩, ⟨.bin .lss (.t 0) (.c (.int (128))), some (.t 3, true), false⟩, ⟨.pick (.t 4) (.t 0) (.c (.bool false)), none, false⟩], [], [], some (78, 0)⟩
abbrev r_ref33_single_16 : Reg := ⟨[⟨.mv (.c (.int (0))), none, false⟩], [(10, 0)], [], none⟩
abbrev r_ref33_single_17 : Reg := ⟨[⟨.mv (.v 10), none, false⟩, ⟨.mv (.v 3), none, false⟩, ⟨.len (.t 0), none, false⟩, ⟨.bin .lss (.t 2) (.t 0), none, false⟩], [], [], some (84, 0)⟩
abbrev r_ref33_single_19 : Reg := ⟨[⟨.mv (.v 3), none, false⟩, ⟨.mv (.v 10), none, false⟩, ⟨.iad (.t 1) (.t 0) 1, none, false⟩, ⟨.ld (.t 0) none, none, false⟩, ⟨.fad (.v 5) 3 none, none, false⟩, ⟨.ldi (.t 0) none, none, false⟩, ⟨.mv (.v 8), none, false⟩, ⟨.iad (.t 1) (.t 0) 1, none, false⟩, ⟨.ldi (.t 0) none, none, false⟩, ⟨.mv (.v 9), none, false⟩, ⟨.iad (.t 1) (.t 0) 1, none, false⟩, ⟨.ldi (.t 0) none, none, false⟩, ⟨.bin .neq (.t 8) (.t 0), none, false⟩], [], [], some (99, 0)⟩
abbrev r_ref33_single_20 : Reg := ⟨[⟨.mv (.v 6), none, false⟩, ⟨.mv (.v 1), none, false⟩, ⟨.mv (.v 2), none, false⟩, ⟨.mv (.v 3), none, false⟩, ⟨.mv (.v 10), none, false⟩, ⟨.iad (.t 1) (.t 0) 1, none, false⟩, ⟨.ld (.t 0) none, none, false⟩, ⟨.mv (.v 9), none, false⟩, ⟨.bld [.int 0, .int 0, .int 0, .int 0, .int 0] [(0, 1, (.c (.int (3)))), (1, 1, (.t 6)), (2, 1, (.t 5)), (3, 1, (.t 1)), (4, 1, (.t 0))], none, false⟩, ⟨.lita [(.t 0)] 5, none, false⟩, ⟨.appw (.t 9) (.t 0) (some 5), none, false⟩, ⟨.mv (.t 0), none, false⟩], [(6, 0)], [], none⟩
abbrev r_ref33_single_18 : Reg := ⟨[⟨.mv (.v 10), none, false⟩, ⟨.bin .add (.t 0) (.c (.int (1))), none, false⟩, ⟨.mv (.t 0), none, false⟩], [(10, 0)], [], none⟩
abbrev b_ref33_single_6 : IC := (.seq (.seq (.reg r_ref33_single_17)
 (.cond 84 .skip (.exit 6)))
 (.seq (.block 7 (.seq (.reg r_ref33_single_19)
 (.cond 99 (.reg r_ref33_single_20) .skip)))
 (.reg r_ref33_single_18)))
abbrev r_ref33_single_15 : Reg := ⟨[⟨.mv (.v 9), none, false⟩, ⟨.bin .add (.t 0) (.c (.int (1))), none, false⟩, ⟨.mv (.t 0), none, false⟩], [(9, 0)], [10], none⟩
abbrev b_ref33_single_4 : IC := (.seq (.seq (.reg r_ref33_single_14)
 (.cond 78 .skip (.exit 4)))
 (.seq (.block 5 (.seq (.reg r_ref33_single_16)
 (.block 6 (.loop b_ref33_single_6))))
 (.reg r_ref33_single_15)))
abbrev r_ref33_single_21 : Reg := ⟨[⟨.mv (.v 6), none, false⟩, ⟨.mv (.t 0), none, false⟩], [(11, 0)], [1, 2, 3, 5, 6, 8, 9], none⟩
abbrev ir_ref33_single : Fn := { np := 4, nv := 12, res := [(11, none)], body :=
(.seq (.reg r_ref33_single_0)
 (.seq (.reg r_ref33_single_1)
 (.seq (.seq (.reg r_ref33_single_2)
 (.block 0 (.loop b_ref33_single_0)))
 (.seq (.reg r_ref33_single_7)
 (.seq (.seq (.reg r_ref33_single_8)
 (.block 2 (.loop b_ref33_single_2)))
 (.seq (.seq (.reg r_ref33_single_13)
 (.block 4 (.loop b_ref33_single_4)))
 (.seq (.reg r_ref33_single_21)
 .ret))))))) }
/- f35 word_Check : 0:w 1:inputs 2:inputs 3:_ -/
abbrev r_word_Check_0 : Reg := ⟨[⟨.bxi (.v 1), none, false⟩, ⟨.mv (.c (.int (0))), none, false⟩], [(2, 1)], [1, 3], none⟩
abbrev r_word_Check_1 : Reg := ⟨[⟨.ldi (.v 2) none, none, false⟩, ⟨.cal F_word_permitted [(.t 0)], none, false⟩, ⟨.not (.t 0), none, false⟩, ⟨.mv (.t 0), none, false⟩], [], [], some (5, 0)⟩
abbrev r_word_Check_2 : Reg := ⟨[⟨.mv (.c (.int (2))), none, false⟩], [(3, 0)], [0, 2], none⟩
abbrev r_word_Check_3 : Reg := ⟨[⟨.mv (.v 0), none, false⟩, ⟨.len (.t 0), none, false⟩, ⟨.bin .gtr (.t 0) (.c (.int (1024))), none, false⟩, ⟨.mv (.t 0), none, false⟩], [], [], some (9, 0)⟩
abbrev r_word_Check_4 : Reg := ⟨[⟨.mv (.c (.int (3))), none, false⟩], [(3, 0)], [0, 2], none⟩
abbrev r_word_Check_5 : Reg := ⟨[⟨.mv (.v 0), none, false⟩, ⟨.mkf F_word_Check_1 [(.v 2)], none, false⟩, ⟨.cal F_slices_ContainsFunc_Sint_int [(.t 1), (.t 0)], none, false⟩, ⟨.mv (.t 0), none, false⟩], [], [0, 2], some (13, 0)⟩
abbrev r_word_Check_6 : Reg := ⟨[⟨.mv (.c (.int (1))), none, false⟩], [(3, 0)], [], none⟩
abbrev r_word_Check_7 : Reg := ⟨[⟨.mv (.c (.int (0))), none, false⟩], [(3, 0)], [], none⟩
abbrev ir_word_Check : Fn := { np := 2, nv := 4, res := [(3, none)], body :=
(.seq (.reg r_word_Check_0)
 (.seq (.block 0 (.seq (.reg r_word_Check_1)
 (.cond 5 (.seq (.reg r_word_Check_2)
 .ret) (.seq (.reg r_word_Check_3)
 (.cond 9 (.seq (.reg r_word_Check_4)
 .ret) (.seq (.reg r_word_Check_5)
 (.cond 13 (.seq (.reg r_word_Check_6)
 .ret) .skip)))))))
 (.seq (.reg r_word_Check_7)
 .ret))) }
/- f36 mutant_passes : 0:m 1:n 2:words 3:_ 4:_ 5:_ 6:m 7:w 8:n 9:a 10:b 11:_ -/
abbrev r_mutant_passes_0 : Reg := ⟨[⟨.bxi (.v 0), none, false⟩, ⟨.bxi (.v 1), none, false⟩, ⟨.mv (.c (.bool false)), none, false⟩], [(6, 2), (8, 1)], [0, 1, 11], none⟩
abbrev r_mutant_passes_1 : Reg := ⟨[⟨.mv (.v 2), none, false⟩, ⟨.len (.t 0), none, false⟩, ⟨.mv (.c (.int (0))), none, false⟩], [(5, 2), (4, 1), (3, 0)], [2], none⟩
abbrev r_mutant_passes_2 : Reg := ⟨[⟨.bin .lss (.v 3) (.v 4), none, false⟩], [], [], some (16, 0)⟩
abbrev r_mutant_passes_3 : Reg := ⟨[⟨.iad (.v 5) (.v 3) 1, none, false⟩, ⟨.ld (.t 0) none, none, false⟩, ⟨.mv (.t 0), none, false⟩], [(7, 0)], [], none⟩
abbrev r_mutant_passes_4 : Reg := ⟨[⟨.ldi (.v 6) (some 4), none, false⟩, ⟨.mv (.v 7), none, false⟩, ⟨.cal F_mealy_Run [(.t 1), (.t 0)], none, false⟩, ⟨.mv (.t 0), none, false⟩, ⟨.ext (.t 0) 0, none, false⟩, ⟨.ext (.t 1) 1, none, false⟩, ⟨.mv (.t 1), none, false⟩, ⟨.mv (.t 1), none, false⟩], [(9, 1)], [], none⟩
abbrev r_mutant_passes_5 : Reg := ⟨[⟨.ldi (.v 8) (some 4), none, false⟩, ⟨.mv (.v 7), none, false⟩, ⟨.cal F_mealy_Run [(.t 1), (.t 0)], none, false⟩, ⟨.mv (.t 0), none, false⟩, ⟨.ext (.t 0) 0, none, false⟩, ⟨.ext (.t 1) 1, none, false⟩, ⟨.mv (.t 1), none, false⟩, ⟨.mv (.t 1), none, false⟩], [(10, 1)], [7], none⟩
abbrev r_mutant_passes_6 : Reg := ⟨[⟨.mv (.v 9), none, false⟩, ⟨.mv (.v 10), none, false⟩, ⟨.cal F_slices_Equal_Sint_int [(.t 1), (.t 0)], none, false⟩, ⟨.not (.t 0), none, false⟩], [], [9, 10], some (34, 0)⟩
abbrev r_mutant_passes_7 : Reg := ⟨[⟨.mv (.c (.bool false)), none, false⟩], [(11, 0)], [3, 4, 5, 6, 8], none⟩
abbrev r_mutant_passes_8 : Reg := ⟨[⟨.bin .add (.v 3) (.c (.int (1))), none, false⟩, ⟨.mv (.t 0), none, false⟩], [(3, 0)], [], none⟩
abbrev b_mutant_passes_0 : IC := (.seq (.reg r_mutant_passes_2)
 (.seq (.cond 16 .skip (.exit 0))
 (.seq (.block 1 (.seq (.reg r_mutant_passes_3)
 (.seq (.reg r_mutant_passes_4)
 (.seq (.reg r_mutant_passes_5)
 (.seq (.reg r_mutant_passes_6)
 (.cond 34 (.seq (.reg r_mutant_passes_7)
 .ret) .skip))))))
 (.reg r_mutant_passes_8))))
abbrev r_mutant_passes_9 : Reg := ⟨[⟨.mv (.c (.bool true)), none, false⟩], [(11, 0)], [3, 4, 5, 6, 8], none⟩
abbrev ir_mutant_passes : Fn := { np := 3, nv := 12, res := [(11, none)], body :=
(.seq (.reg r_mutant_passes_0)
 (.seq (.seq (.reg r_mutant_passes_1)
 (.block 0 (.loop b_mutant_passes_0)))
 (.seq (.reg r_mutant_passes_9)
 .ret))) }
/- f37 equiv_Equal : 0:a 1:b 2:a 3:b 4:e 5:found 6:_ 7:_ -/
abbrev r_equiv_Equal_0 : Reg := ⟨[⟨.bxi (.v 0), none, false⟩, ⟨.bxi (.v 1), none, false⟩, ⟨.mv (.c (.bool false)), none, false⟩, ⟨.mv (.c (.int (0))), none, false⟩], [(2, 3), (3, 2)], [0, 1, 6, 7], none⟩
abbrev r_equiv_Equal_1 : Reg := ⟨[⟨.ldi (.v 2) (some 4), none, false⟩, ⟨.ldi (.v 3) (some 4), none, false⟩, ⟨.cal F_equiv_Distinguish [(.t 1), (.t 0)], none, false⟩, ⟨.mv (.t 0), none, false⟩, ⟨.ext (.t 0) 0, none, false⟩, ⟨.ext (.t 1) 1, none, false⟩, ⟨.ext (.t 2) 2, none, false⟩, ⟨.mv (.t 2), none, false⟩, ⟨.mv (.t 2), none, false⟩, ⟨.mv (.t 2), none, false⟩], [(5, 1), (4, 0)], [2, 3], none⟩
abbrev r_equiv_Equal_2 : Reg := ⟨[⟨.mv (.v 4), none, false⟩, ⟨.bin .eql (.t 0) (.c (.int (0))), none, false⟩, ⟨.mv (.t 0), none, false⟩, ⟨.mv (.v 5), some (.t 0, true), false⟩, ⟨.not (.t 0), some (.t 1, true), false⟩, ⟨.pick (.t 2) (.t 0) (.c (.bool false)), none, false⟩, ⟨.mv (.v 4), none, false⟩, ⟨.mv (.t 1), none, false⟩, ⟨.mv (.t 1), none, false⟩], [(6, 1), (7, 0)], [4, 5], none⟩
abbrev ir_equiv_Equal : Fn := { np := 2, nv := 8, res := [(6, none), (7, none)], body :=
(.seq (.reg r_equiv_Equal_0)
 (.seq (.reg r_equiv_Equal_1)
 (.seq (.reg r_equiv_Equal_2)
 .ret))) }
/- f38 ref01_Check : 0:w 1:inputs 2:i 3:_ -/
abbrev r_ref01_Check_0 : Reg := ⟨[⟨.mv (.c (.int (0))), none, false⟩], [], [3], none⟩
abbrev r_ref01_Check_1 : Reg := ⟨[⟨.mv (.v 1), none, false⟩, ⟨.cal F_ref01_Size [(.t 0)], none, false⟩, ⟨.not (.t 0), none, false⟩], [], [], some (8, 0)⟩
abbrev r_ref01_Check_2 : Reg := ⟨[⟨.mv (.c (.int (2))), none, false⟩], [(3, 0)], [0, 1], none⟩
abbrev r_ref01_Check_3 : Reg := ⟨[⟨.mv (.v 0), none, false⟩, ⟨.len (.t 0), none, false⟩, ⟨.bin .gtr (.t 0) (.c (.int (1024))), none, false⟩], [], [], some (11, 0)⟩
abbrev r_ref01_Check_4 : Reg := ⟨[⟨.mv (.c (.int (3))), none, false⟩], [(3, 0)], [0, 1], none⟩
abbrev r_ref01_Check_5 : Reg := ⟨[⟨.mv (.c (.int (0))), none, false⟩], [(2, 0)], [], none⟩
abbrev r_ref01_Check_6 : Reg := ⟨[⟨.mv (.v 2), none, false⟩, ⟨.mv (.v 0), none, false⟩, ⟨.len (.t 0), none, false⟩, ⟨.bin .lss (.t 2) (.t 0), none, false⟩], [], [], some (15, 0)⟩
abbrev r_ref01_Check_8 : Reg := ⟨[⟨.mv (.v 0), none, false⟩, ⟨.mv (.v 2), none, false⟩, ⟨.iad (.t 1) (.t 0) 1, none, false⟩, ⟨.ld (.t 0) none, none, false⟩, ⟨.bin .lss (.t 0) (.c (.int (0))), none, false⟩, ⟨.mv (.t 0), none, false⟩, ⟨.mv (.v 0), some (.t 0, false), false⟩, ⟨.mv (.v 2), some (.t 1, false), false⟩, ⟨.iad (.t 1) (.t 0) 1, some (.t 2, false), false⟩, ⟨.ld (.t 0) none, some (.t 3, false), false⟩, ⟨.mv (.v 1), some (.t 4, false), false⟩, ⟨.bin .geq (.t 1) (.t 0), some (.t 5, false), false⟩, ⟨.pick (.t 6) (.c (.bool true)) (.t 0), none, false⟩], [], [], some (30, 0)⟩
abbrev r_ref01_Check_9 : Reg := ⟨[⟨.mv (.c (.int (1))), none, false⟩], [(3, 0)], [0, 1, 2], none⟩
abbrev r_ref01_Check_7 : Reg := ⟨[⟨.mv (.v 2), none, false⟩, ⟨.bin .add (.t 0) (.c (.int (1))), none, false⟩, ⟨.mv (.t 0), none, false⟩], [(2, 0)], [], none⟩
abbrev b_ref01_Check_0 : IC := (.seq (.seq (.reg r_ref01_Check_6)
 (.cond 15 .skip (.exit 0)))
 (.seq (.block 1 (.seq (.reg r_ref01_Check_8)
 (.cond 30 (.seq (.reg r_ref01_Check_9)
 .ret) .skip)))
 (.reg r_ref01_Check_7)))
abbrev r_ref01_Check_10 : Reg := ⟨[⟨.mv (.c (.int (0))), none, false⟩], [(3, 0)], [0, 1, 2], none⟩
abbrev ir_ref01_Check : Fn := { np := 2, nv := 4, res := [(3, none)], body :=
(.seq (.reg r_ref01_Check_0)
 (.seq (.seq (.reg r_ref01_Check_1)
 (.cond 8 (.seq (.reg r_ref01_Check_2)
 .ret) .skip))
 (.seq (.seq (.reg r_ref01_Check_3)
 (.cond 11 (.seq (.reg r_ref01_Check_4)
 .ret) .skip))
 (.seq (.seq (.reg r_ref01_Check_5)
 (.block 0 (.loop b_ref01_Check_0)))
 (.seq (.reg r_ref01_Check_10)
 .ret))))) }
/- f39 ref09_Equal : 0:a 1:b 2:a 3:b 4:e 5:ok 6:_ 7:_ -/
abbrev r_ref09_Equal_0 : Reg := ⟨[⟨.bxi (.v 0), none, false⟩, ⟨.bxi (.v 1), none, false⟩, ⟨.mv (.c (.bool false)), none, false⟩, ⟨.mv (.c (.int (0))), none, false⟩], [(2, 3), (3, 2)], [0, 1, 6, 7], none⟩
abbrev r_ref09_Equal_1 : Reg := ⟨[⟨.ldi (.v 2) (some 4), none, false⟩, ⟨.ldi (.v 3) (some 4), none, false⟩, ⟨.cal F_ref09_Distinguish [(.t 1), (.t 0)], none, false⟩, ⟨.mv (.t 0), none, false⟩, ⟨.ext (.t 0) 0, none, false⟩, ⟨.ext (.t 1) 1, none, false⟩, ⟨.ext (.t 2) 2, none, false⟩, ⟨.mv (.t 2), none, false⟩, ⟨.mv (.t 2), none, false⟩, ⟨.mv (.t 2), none, false⟩], [(5, 1), (4, 0)], [2, 3], none⟩
abbrev r_ref09_Equal_2 : Reg := ⟨[⟨.mv (.v 4), none, false⟩, ⟨.bin .eql (.t 0) (.c (.int (0))), none, false⟩, ⟨.mv (.t 0), none, false⟩, ⟨.mv (.v 5), some (.t 0, true), false⟩, ⟨.not (.t 0), some (.t 1, true), false⟩, ⟨.pick (.t 2) (.t 0) (.c (.bool false)), none, false⟩, ⟨.mv (.v 4), none, false⟩, ⟨.mv (.t 1), none, false⟩, ⟨.mv (.t 1), none, false⟩], [(6, 1), (7, 0)], [4, 5], none⟩
abbrev ir_ref09_Equal : Fn := { np := 2, nv := 8, res := [(6, none), (7, none)], body :=
(.seq (.reg r_ref09_Equal_0)
 (.seq (.reg r_ref09_Equal_1)
 (.seq (.reg r_ref09_Equal_2)
 .ret))) }
/- f40 ref33_passes : 0:a 1:b 2:words 3:i 4:a 5:b 6:x 7:y 8:_ -/
abbrev r_ref33_passes_0 : Reg := ⟨[⟨.bxi (.v 0), none, false⟩, ⟨.bxi (.v 1), none, false⟩, ⟨.mv (.c (.bool false)), none, false⟩], [(4, 2), (5, 1)], [0, 1, 8], none⟩
abbrev r_ref33_passes_1 : Reg := ⟨[⟨.mv (.c (.int (0))), none, false⟩], [(3, 0)], [], none⟩
abbrev r_ref33_passes_2 : Reg := ⟨[⟨.mv (.v 3), none, false⟩, ⟨.mv (.v 2), none, false⟩, ⟨.len (.t 0), none, false⟩, ⟨.bin .lss (.t 2) (.t 0), none, false⟩], [], [], some (15, 0)⟩
abbrev r_ref33_passes_4 : Reg := ⟨[⟨.ldi (.v 4) (some 4), none, false⟩, ⟨.mv (.v 2), none, false⟩, ⟨.mv (.v 3), none, false⟩, ⟨.iad (.t 1) (.t 0) 1, none, false⟩, ⟨.ld (.t 0) none, none, false⟩, ⟨.cal F_ref06_Run [(.t 4), (.t 0)], none, false⟩, ⟨.mv (.t 0), none, false⟩, ⟨.ext (.t 0) 0, none, false⟩, ⟨.ext (.t 1) 1, none, false⟩, ⟨.mv (.t 1), none, false⟩, ⟨.mv (.t 1), none, false⟩], [(6, 1)], [], none⟩
abbrev r_ref33_passes_5 : Reg := ⟨[⟨.ldi (.v 5) (some 4), none, false⟩, ⟨.mv (.v 2), none, false⟩, ⟨.mv (.v 3), none, false⟩, ⟨.iad (.t 1) (.t 0) 1, none, false⟩, ⟨.ld (.t 0) none, none, false⟩, ⟨.cal F_ref06_Run [(.t 4), (.t 0)], none, false⟩, ⟨.mv (.t 0), none, false⟩, ⟨.ext (.t 0) 0, none, false⟩, ⟨.ext (.t 1) 1, none, false⟩, ⟨.mv (.t 1), none, false⟩, ⟨.mv (.t 1), none, false⟩], [(7, 1)], [], none⟩
abbrev r_ref33_passes_6 : Reg := ⟨[⟨.mv (.v 6), none, false⟩, ⟨.mv (.v 7), none, false⟩, ⟨.cal F_ref06_Ints [(.t 1), (.t 0)], none, false⟩, ⟨.not (.t 0), none, false⟩], [], [6, 7], some (39, 0)⟩
abbrev r_ref33_passes_7 : Reg := ⟨[⟨.mv (.c (.bool false)), none, false⟩], [(8, 0)], [2, 3, 4, 5], none⟩
abbrev r_ref33_passes_3 : Reg := ⟨[⟨.mv (.v 3), none, false⟩, ⟨.bin .add (.t 0) (.c (.int (1))), none, false⟩, ⟨.mv (.t 0), none, false⟩], [(3, 0)], [], none⟩
abbrev b_ref33_passes_0 : IC := (.seq (.seq (.reg r_ref33_passes_2)
 (.cond 15 .skip (.exit 0)))
 (.seq (.block 1 (.seq (.reg r_ref33_passes_4)
 (.seq (.reg r_ref33_passes_5)
 (.seq (.reg r_ref33_passes_6)
 (.cond 39 (.seq (.reg r_ref33_passes_7)
 .ret) .skip)))))
 (.reg r_ref33_passes_3)))
abbrev r_ref33_passes_8 : Reg := ⟨[⟨.mv (.c (.bool true)), none, false⟩], [(8, 0)], [2, 3, 4, 5], none⟩
abbrev ir_ref33_passes : Fn := { np := 3, nv := 9, res := [(8, none)], body :=
(.seq (.reg r_ref33_passes_0)
 (.seq (.seq (.reg r_ref33_passes_1)
 (.block 0 (.loop b_ref33_passes_0)))
 (.seq (.reg r_ref33_passes_8)
 .ret))) }
/- f41 ref06_row : 0:m 1:s 2:m 3:a 4:_ -/
abbrev r_ref06_row_0 : Reg := ⟨[⟨.bxi (.v 0), none, false⟩, ⟨.mv (.c (.int (0))), none, false⟩], [(2, 1)], [0, 4], none⟩
abbrev r_ref06_row_1 : Reg := ⟨[⟨.fad (.v 2) 2 none, none, false⟩, ⟨.ldi (.t 0) none, none, false⟩, ⟨.mv (.v 1), none, false⟩, ⟨.iad (.t 1) (.t 0) 1, none, false⟩, ⟨.ldi (.t 0) none, none, false⟩, ⟨.len (.t 0), none, false⟩, ⟨.fad (.v 2) 0 none, none, false⟩, ⟨.ldi (.t 0) none, none, false⟩, ⟨.bin .neq (.t 2) (.t 0), none, false⟩, ⟨.mv (.t 0), none, false⟩, ⟨.fad (.v 2) 3 none, some (.t 0, false), false⟩, ⟨.ldi (.t 0) none, some (.t 1, false), false⟩, ⟨.mv (.v 1), some (.t 2, false), false⟩, ⟨.iad (.t 1) (.t 0) 1, some (.t 3, false), false⟩, ⟨.ldi (.t 0) none, some (.t 4, false), false⟩, ⟨.len (.t 0), some (.t 5, false), false⟩, ⟨.fad (.v 2) 0 none, some (.t 6, false), false⟩, ⟨.ldi (.t 0) none, some (.t 7, false), false⟩, ⟨.bin .neq (.t 2) (.t 0), some (.t 8, false), false⟩, ⟨.pick (.t 9) (.c (.bool true)) (.t 0), none, false⟩], [], [], some (25, 0)⟩
abbrev r_ref06_row_2 : Reg := ⟨[⟨.mv (.c (.int (1))), none, false⟩], [(4, 0)], [1, 2], none⟩
abbrev r_ref06_row_3 : Reg := ⟨[⟨.mv (.c (.int (0))), none, false⟩], [(3, 0)], [], none⟩
abbrev r_ref06_row_4 : Reg := ⟨[⟨.mv (.v 3), none, false⟩, ⟨.fad (.v 2) 0 none, none, false⟩, ⟨.ldi (.t 0) none, none, false⟩, ⟨.bin .lss (.t 2) (.t 0), none, false⟩], [], [], some (29, 0)⟩
abbrev r_ref06_row_6 : Reg := ⟨[⟨.fad (.v 2) 2 none, none, false⟩, ⟨.ldi (.t 0) none, none, false⟩, ⟨.mv (.v 1), none, false⟩, ⟨.iad (.t 1) (.t 0) 1, none, false⟩, ⟨.ldi (.t 0) none, none, false⟩, ⟨.mv (.v 3), none, false⟩, ⟨.iad (.t 1) (.t 0) 1, none, false⟩, ⟨.ldi (.t 0) none, none, false⟩, ⟨.bin .lss (.t 0) (.c (.int (0))), none, false⟩, ⟨.mv (.t 0), none, false⟩, ⟨.fad (.v 2) 2 none, some (.t 0, false), false⟩, ⟨.ldi (.t 0) none, some (.t 1, false), false⟩, ⟨.mv (.v 1), some (.t 2, false), false⟩, ⟨.iad (.t 1) (.t 0) 1, some (.t 3, false), false⟩, ⟨.ldi (.t 0) none, some (.t 4, false), false⟩, ⟨.mv (.v 3), some (.t 5, false), false⟩, ⟨.iad (.t 1) (.t 0) 1, some (.t 6, false), false⟩, ⟨.ldi (.t 0) none, some (.t 7, false), false⟩, ⟨.fad (.v 2) 2 none, some (.t 8, false), false⟩, ⟨.ldi (.t 0) none, some (.t 9, false), false⟩, ⟨.len (.t 0), some (.t 10, false), false⟩, ⟨.bin .geq (.t 3) (.t 0), some (.t 11, false), false⟩, ⟨.pick (.t 12) (.c (.bool true)) (.t 0), none, false⟩, ⟨.mv (.t 0), none, false⟩, ⟨.fad (.v 2) 3 none, some (.t 0, false), false⟩, ⟨.ldi (.t 0) none, some (.t 1, false), false⟩, ⟨.mv (.v 1), some (.t 2, false), false⟩, ⟨.iad (.t 1) (.t 0) 1, some (.t 3, false), false⟩, ⟨.ldi (.t 0) none, some (.t 4, false), false⟩, ⟨.mv (.v 3), some (.t 5, false), false⟩, ⟨.iad (.t 1) (.t 0) 1, some (.t 6, false), false⟩, ⟨.ldi (.t 0) none, some (.t 7, false), false⟩, ⟨.bin .lss (.t 0) (.c (.int (0))), some (.t 8, false), false⟩, ⟨.pick (.t 9) (.c (.bool true)) (.t 0), none, false⟩, ⟨.mv (.t 0), none, false⟩, ⟨.fad (.v 2) 3 none, some (.t 0, false), false⟩, ⟨.ldi (.t 0) none, some (.t 1, false), false⟩, ⟨.mv (.v 1), some (.t 2, false), false⟩, ⟨.iad (.t 1) (.t 0) 1, some (.t 3, false), false⟩, ⟨.ldi (.t 0) none, some (.t 4, false), false⟩, ⟨.mv (.v 3), some (.t 5, false), false⟩, ⟨.iad (.t 1) (.t 0) 1, some (.t 6, false), false⟩, ⟨.ldi (.t 0) none, some (.t 7, false), false⟩, ⟨.bin .gtr (.t 0) (.c (.int (1048576))), some (.t 8, false), false⟩, ⟨.pick (.t 9) (.c (.bool true)) (.t 0), none, false⟩], [], [], some (76, 0)⟩
abbrev r_ref06_row_7 : Reg := ⟨[⟨.mv (.c (.int (2))), none, false⟩], [(4, 0)], [1, 2, 3], none⟩
abbrev r_ref06_row_5 : Reg := ⟨[⟨.mv (.v 3), none, false⟩, ⟨.bin .add (.t 0) (.c (.int (1))), none, false⟩, ⟨.mv (.t 0), none, false⟩], [(3, 0)], [], none⟩
abbrev b_ref06_row_0 : IC := (.seq (.seq (.reg r_ref06_row_4)
 (.cond 29 .skip (.exit 0)))
 (.seq (.block 1 (.seq (.reg r_ref06_row_6)
 (.cond 76 (.seq (.reg r_ref06_row_7)
 .ret) .skip)))
 (.reg r_ref06_row_5)))
abbrev r_ref06_row_8 : Reg := ⟨[⟨.mv (.c (.int (0))), none, false⟩], [(4, 0)], [1, 2, 3], none⟩
abbrev ir_ref06_row : Fn := { np := 2, nv := 5, res := [(4, none)], body :=
(.seq (.reg r_ref06_row_0)
 (.seq (.seq (.reg r_ref06_row_1)
 (.cond 25 (.seq (.reg r_ref06_row_2)
 .ret) .skip))
 (.seq (.seq (.reg r_ref06_row_3)
 (.block 0 (.loop b_ref06_row_0)))
 (.seq (.reg r_ref06_row_8)
 .ret)))) }
/- f42 slices_Compact_Sint_int : 0:s 1:k 2:k2 3:s2 4:_ -/
abbrev r_slices_Compact_Sint_int_0 : Reg := ⟨[⟨.mv (.c (.snil)), none, false⟩], [], [4], none⟩
abbrev r_slices_Compact_Sint_int_1 : Reg := ⟨[⟨.mv (.v 0), none, false⟩, ⟨.len (.t 0), none, false⟩, ⟨.bin .lss (.t 0) (.c (.int (2))), none, false⟩], [], [], some (8, 0)⟩
abbrev r_slices_Compact_Sint_int_2 : Reg := ⟨[⟨.mv (.v 0), none, false⟩, ⟨.mv (.t 0), none, false⟩], [(4, 0)], [0], none⟩
abbrev r_slices_Compact_Sint_int_3 : Reg := ⟨[⟨.mv (.c (.int (1))), none, false⟩], [(1, 0)], [], none⟩
abbrev r_slices_Compact_Sint_int_4 : Reg := ⟨[⟨.mv (.v 1), none, false⟩, ⟨.mv (.v 0), none, false⟩, ⟨.len (.t 0), none, false⟩, ⟨.bin .lss (.t 2) (.t 0), none, false⟩], [], [], some (13, 0)⟩
abbrev r_slices_Compact_Sint_int_6 : Reg := ⟨[⟨.mv (.v 0), none, false⟩, ⟨.mv (.v 1), none, false⟩, ⟨.iad (.t 1) (.t 0) 1, none, false⟩, ⟨.ld (.t 0) none, none, false⟩, ⟨.mv (.v 0), none, false⟩, ⟨.mv (.v 1), none, false⟩, ⟨.bin .sub (.t 0) (.c (.int (1))), none, false⟩, ⟨.iad (.t 2) (.t 0) 1, none, false⟩, ⟨.ld (.t 0) none, none, false⟩, ⟨.bin .eql (.t 5) (.t 0), none, false⟩], [], [], some (25, 0)⟩
abbrev r_slices_Compact_Sint_int_7 : Reg := ⟨[⟨.mv (.v 0), none, false⟩, ⟨.mv (.v 1), none, false⟩, ⟨.slc (.t 1) (some (.t 0)) none 1, none, false⟩, ⟨.mv (.t 0), none, false⟩], [(3, 0)], [], none⟩
abbrev r_slices_Compact_Sint_int_8 : Reg := ⟨[⟨.mv (.c (.int (1))), none, false⟩], [(2, 0)], [], none⟩
abbrev r_slices_Compact_Sint_int_9 : Reg := ⟨[⟨.mv (.v 2), none, false⟩, ⟨.mv (.v 3), none, false⟩, ⟨.len (.t 0), none, false⟩, ⟨.bin .lss (.t 2) (.t 0), none, false⟩], [], [], some (32, 0)⟩
abbrev r_slices_Compact_Sint_int_11 : Reg := ⟨[⟨.mv (.v 3), none, false⟩, ⟨.mv (.v 2), none, false⟩, ⟨.iad (.t 1) (.t 0) 1, none, false⟩, ⟨.ld (.t 0) none, none, false⟩, ⟨.mv (.v 3), none, false⟩, ⟨.mv (.v 2), none, false⟩, ⟨.bin .sub (.t 0) (.c (.int (1))), none, false⟩, ⟨.iad (.t 2) (.t 0) 1, none, false⟩, ⟨.ld (.t 0) none, none, false⟩, ⟨.bin .neq (.t 5) (.t 0), none, false⟩], [], [], some (44, 0)⟩
abbrev r_slices_Compact_Sint_int_12 : Reg := ⟨[⟨.mv (.v 0), none, false⟩, ⟨.mv (.v 1), none, false⟩, ⟨.mv (.v 3), none, false⟩, ⟨.mv (.v 2), none, false⟩, ⟨.iad (.t 1) (.t 0) 1, none, false⟩, ⟨.ld (.t 0) none, none, false⟩, ⟨.iad (.t 5) (.t 4) 1, none, false⟩, ⟨.st (.t 0) (.t 1) 1, none, false⟩], [], [], none⟩
abbrev r_slices_Compact_Sint_int_13 : Reg := ⟨[⟨.mv (.v 1), none, false⟩, ⟨.bin .add (.t 0) (.c (.int (1))), none, false⟩, ⟨.mv (.t 0), none, false⟩], [(1, 0)], [], none⟩
abbrev r_slices_Compact_Sint_int_10 : Reg := ⟨[⟨.mv (.v 2), none, false⟩, ⟨.bin .add (.t 0) (.c (.int (1))), none, false⟩, ⟨.mv (.t 0), none, false⟩], [(2, 0)], [], none⟩
abbrev b_slices_Compact_Sint_int_2 : IC := (.seq (.seq (.reg r_slices_Compact_Sint_int_9)
 (.cond 32 .skip (.exit 2)))
 (.seq (.block 3 (.seq (.reg r_slices_Compact_Sint_int_11)
 (.cond 44 (.seq (.reg r_slices_Compact_Sint_int_12)
 (.reg r_slices_Compact_Sint_int_13)) .skip)))
 (.reg r_slices_Compact_Sint_int_10)))
abbrev r_slices_Compact_Sint_int_14 : Reg := ⟨[⟨.mv (.v 0), none, false⟩, ⟨.mv (.v 1), none, false⟩, ⟨.slc (.t 1) (some (.t 0)) none 1, none, false⟩, ⟨.clr (.t 0) [.int 0] none, none, false⟩], [], [2, 3], none⟩
abbrev r_slices_Compact_Sint_int_15 : Reg := ⟨[⟨.mv (.v 0), none, false⟩, ⟨.mv (.v 1), none, false⟩, ⟨.slc (.t 1) none (some (.t 0)) 1, none, false⟩, ⟨.mv (.t 0), none, false⟩], [(4, 0)], [0, 1], none⟩
abbrev r_slices_Compact_Sint_int_5 : Reg := ⟨[⟨.mv (.v 1), none, false⟩, ⟨.bin .add (.t 0) (.c (.int (1))), none, false⟩, ⟨.mv (.t 0), none, false⟩], [(1, 0)], [], none⟩
abbrev b_slices_Compact_Sint_int_0 : IC := (.seq (.seq (.reg r_slices_Compact_Sint_int_4)
 (.cond 13 .skip (.exit 0)))
 (.seq (.block 1 (.seq (.reg r_slices_Compact_Sint_int_6)
 (.cond 25 (.seq (.reg r_slices_Compact_Sint_int_7)
 (.seq (.seq (.reg r_slices_Compact_Sint_int_8)
 (.block 2 (.loop b_slices_Compact_Sint_int_2)))
 (.seq (.reg r_slices_Compact_Sint_int_14)
 (.seq (.reg r_slices_Compact_Sint_int_15)
 .ret)))) .skip)))
 (.reg r_slices_Compact_Sint_int_5)))
abbrev r_slices_Compact_Sint_int_16 : Reg := ⟨[⟨.mv (.v 0), none, false⟩, ⟨.mv (.t 0), none, false⟩], [(4, 0)], [0, 1], none⟩
abbrev ir_slices_Compact_Sint_int : Fn := { np := 1, nv := 5, res := [(4, none)], body :=
(.seq (.reg r_slices_Compact_Sint_int_0)
 (.seq (.seq (.reg r_slices_Compact_Sint_int_1)
 (.cond 8 (.seq (.reg r_slices_Compact_Sint_int_2)
 .ret) .skip))
 (.seq (.seq (.reg r_slices_Compact_Sint_int_3)
 (.block 0 (.loop b_slices_Compact_Sint_int_0)))
 (.seq (.reg r_slices_Compact_Sint_int_16)
 .ret)))) }
/- f43 equiv_check : 0:a 1:b 2:a 3:b 4:_ 5:_ 6:m 7:e 8:_ -/
abbrev r_equiv_check_0 : Reg := ⟨[⟨.bxi (.v 0), none, false⟩, ⟨.bxi (.v 1), none, false⟩, ⟨.mv (.c (.int (0))), none, false⟩], [(2, 2), (3, 1)], [0, 1, 8], none⟩
abbrev r_equiv_check_1 : Reg := ⟨[⟨.ldi (.v 2) (some 4), none, false⟩, ⟨.ldi (.v 3) (some 4), none, false⟩, ⟨.bld [.int 0, .int 0, .snil, .snil, .int 0, .int 0, .snil, .snil] [(0, 4, (.t 1)), (4, 4, (.t 0))], none, false⟩, ⟨.mv (.c (.int (0))), none, false⟩], [(5, 1), (4, 0)], [], none⟩
abbrev r_equiv_check_2 : Reg := ⟨[⟨.bin .lss (.v 4) (.c (.int (2))), none, false⟩], [], [], some (12, 0)⟩
abbrev r_equiv_check_3 : Reg := ⟨[⟨.idx (.v 5) (.v 4) 2 (some 4), none, false⟩, ⟨.alc0 4, none, false⟩, ⟨.ini (.t 0) (.t 1) 4, none, false⟩], [(6, 0)], [], none⟩
abbrev r_equiv_check_4 : Reg := ⟨[⟨.ldi (.v 6) (some 4), none, false⟩, ⟨.cal F_mealy_Valid [(.t 0)], none, false⟩, ⟨.mv (.t 0), none, false⟩], [(7, 0)], [6], none⟩
abbrev r_equiv_check_5 : Reg := ⟨[⟨.mv (.v 7), none, false⟩, ⟨.bin .neq (.t 0) (.c (.int (0))), none, false⟩], [], [], some (17, 0)⟩
abbrev r_equiv_check_6 : Reg := ⟨[⟨.mv (.v 7), none, false⟩, ⟨.mv (.t 0), none, false⟩], [(8, 0)], [2, 3, 4, 5, 7], none⟩
abbrev r_equiv_check_7 : Reg := ⟨[⟨.bin .add (.v 4) (.c (.int (1))), none, false⟩, ⟨.mv (.t 0), none, false⟩], [(4, 0)], [7], none⟩
abbrev b_equiv_check_0 : IC := (.seq (.reg r_equiv_check_2)
 (.seq (.cond 12 .skip (.exit 0))
 (.seq (.block 1 (.seq (.reg r_equiv_check_3)
 (.seq (.reg r_equiv_check_4)
 (.seq (.reg r_equiv_check_5)
 (.cond 17 (.seq (.reg r_equiv_check_6)
 .ret) .skip)))))
 (.reg r_equiv_check_7))))
abbrev r_equiv_check_8 : Reg := ⟨[⟨.fad (.v 2) 0 none, none, false⟩, ⟨.ldi (.t 0) none, none, false⟩, ⟨.fad (.v 3) 0 none, none, false⟩, ⟨.ldi (.t 0) none, none, false⟩, ⟨.bin .neq (.t 2) (.t 0), none, false⟩], [], [2, 3, 4, 5], some (24, 0)⟩
abbrev r_equiv_check_9 : Reg := ⟨[⟨.mv (.c (.int (15))), none, false⟩], [(8, 0)], [], none⟩
abbrev r_equiv_check_10 : Reg := ⟨[⟨.mv (.c (.int (0))), none, false⟩], [(8, 0)], [], none⟩
abbrev ir_equiv_check : Fn := { np := 2, nv := 9, res := [(8, none)], body :=
(.seq (.reg r_equiv_check_0)
 (.seq (.seq (.reg r_equiv_check_1)
 (.block 0 (.loop b_equiv_check_0)))
 (.seq (.seq (.reg r_equiv_check_8)
 (.cond 24 (.seq (.reg r_equiv_check_9)
 .ret) .skip))
 (.seq (.reg r_equiv_check_10)
 .ret)))) }
/- f44 equiv_search : 0:a 1:b 2:first 3:a 4:seen 5:_ 6:_ 7:s 8:b 9:first 10:i 11:queue 12:_ 13:_ 14:p 15:x 16:next 17:_ 18:_ -/
abbrev r_equiv_search_0 : Reg := ⟨[⟨.bxi (.v 0), none, false⟩, ⟨.bxi (.v 1), none, false⟩, ⟨.bxi (.v 2), none, false⟩, ⟨.mv (.c (.snil)), none, false⟩, ⟨.mv (.c (.bool false)), none, false⟩], [(3, 4), (8, 3), (9, 2)], [0, 1, 2, 17, 18], none⟩
abbrev r_equiv_search_1 : Reg := ⟨[⟨.fad (.v 3) 2 none, none, false⟩, ⟨.ldi (.t 0) none, none, false⟩, ⟨.len (.t 0), none, false⟩, ⟨.mks (.t 0) (.t 0) [.snil] none, none, false⟩, ⟨.mv (.t 0), none, false⟩], [(4, 0)], [], none⟩
abbrev r_equiv_search_2 : Reg := ⟨[⟨.mv (.v 4), none, false⟩, ⟨.len (.t 0), none, false⟩, ⟨.mv (.c (.int (0))), none, false⟩], [(6, 1), (5, 0)], [], none⟩
abbrev r_equiv_search_3 : Reg := ⟨[⟨.bin .lss (.v 5) (.v 6), none, false⟩], [], [], some (22, 0)⟩
abbrev r_equiv_search_4 : Reg := ⟨[⟨.mv (.v 5), none, false⟩, ⟨.mv (.t 0), none, false⟩], [(7, 0)], [], none⟩
abbrev r_equiv_search_5 : Reg := ⟨[⟨.mv (.v 4), none, false⟩, ⟨.mv (.v 7), none, false⟩, ⟨.fad (.v 8) 2 none, none, false⟩, ⟨.ldi (.t 0) none, none, false⟩, ⟨.len (.t 0), none, false⟩, ⟨.mks (.t 0) (.t 0) [.bool false] none, none, false⟩, ⟨.iad (.t 5) (.t 4) 1, none, false⟩, ⟨.st (.t 0) (.t 1) 1, none, false⟩], [], [7], none⟩
abbrev r_equiv_search_6 : Reg := ⟨[⟨.bin .add (.v 5) (.c (.int (1))), none, false⟩, ⟨.mv (.t 0), none, false⟩], [(5, 0)], [], none⟩
abbrev b_equiv_search_0 : IC := (.seq (.reg r_equiv_search_3)
 (.seq (.cond 22 .skip (.exit 0))
 (.seq (.block 1 (.seq (.reg r_equiv_search_4)
 (.reg r_equiv_search_5)))
 (.reg r_equiv_search_6))))
abbrev r_equiv_search_7 : Reg := ⟨[⟨.mv (.v 4), none, false⟩, ⟨.fad (.v 9) 0 none, none, false⟩, ⟨.ldi (.t 0) none, none, false⟩, ⟨.iad (.t 2) (.t 0) 1, none, false⟩, ⟨.ld (.t 0) none, none, false⟩, ⟨.fad (.v 9) 1 none, none, false⟩, ⟨.ldi (.t 0) none, none, false⟩, ⟨.iad (.t 2) (.t 0) 1, none, false⟩, ⟨.st (.t 0) (.c (.bool true)) 1, none, false⟩], [], [5, 6], none⟩
abbrev r_equiv_search_8 : Reg := ⟨[⟨.ldi (.v 9) (some 2), none, false⟩, ⟨.bld [.int 0, .int 0, .snil] [(0, 2, (.t 0))], none, false⟩, ⟨.litm [(.t 0)] (some 3), none, false⟩, ⟨.mv (.t 0), none, false⟩], [(11, 0)], [9], none⟩
abbrev r_equiv_search_9 : Reg := ⟨[⟨.mv (.c (.int (0))), none, false⟩], [(10, 0)], [], none⟩
abbrev r_equiv_search_10 : Reg := ⟨[⟨.mv (.v 10), none, false⟩, ⟨.mv (.v 11), none, false⟩, ⟨.len (.t 0), none, false⟩, ⟨.bin .lss (.t 2) (.t 0), none, false⟩], [], [], some (46, 0)⟩
abbrev r_equiv_search_12 : Reg := ⟨[⟨.mv (.v 11), none, false⟩, ⟨.mv (.v 10), none, false⟩, ⟨.iad (.t 1) (.t 0) 3, none, false⟩, ⟨.fad (.t 0) 0 (some 2), none, false⟩, ⟨.ld (.t 0) (some 2), none, false⟩, ⟨.alc0 2, none, false⟩, ⟨.ini (.t 0) (.t 1) 2, none, false⟩], [(14, 0)], [], none⟩
abbrev r_equiv_search_13 : Reg := ⟨[⟨.fad (.v 3) 0 none, none, false⟩, ⟨.ldi (.t 0) none, none, false⟩, ⟨.mv (.c (.int (0))), none, false⟩], [(13, 1), (12, 0)], [], none⟩
abbrev r_equiv_search_14 : Reg := ⟨[⟨.bin .lss (.v 12) (.v 13), none, false⟩], [], [], some (57, 0)⟩
abbrev r_equiv_search_15 : Reg := ⟨[⟨.mv (.v 12), none, false⟩, ⟨.mv (.t 0), none, false⟩], [(15, 0)], [], none⟩
abbrev r_equiv_search_16 : Reg := ⟨[⟨.fad (.v 3) 3 none, none, false⟩, ⟨.ldi (.t 0) none, none, false⟩, ⟨.fad (.v 14) 0 none, none, false⟩, ⟨.ldi (.t 0) none, none, false⟩, ⟨.iad (.t 2) (.t 0) 1, none, false⟩, ⟨.ldi (.t 0) none, none, false⟩, ⟨.mv (.v 15), none, false⟩, ⟨.iad (.t 1) (.t 0) 1, none, false⟩, ⟨.ldi (.t 0) none, none, false⟩, ⟨.fad (.v 8) 3 none, none, false⟩, ⟨.ldi (.t 0) none, none, false⟩, ⟨.fad (.v 14) 1 none, none, false⟩, ⟨.ldi (.t 0) none, none, false⟩, ⟨.iad (.t 2) (.t 0) 1, none, false⟩, ⟨.ldi (.t 0) none, none, false⟩, ⟨.mv (.v 15), none, false⟩, ⟨.iad (.t 1) (.t 0) 1, none, false⟩, ⟨.ldi (.t 0) none, none, false⟩, ⟨.bin .neq (.t 9) (.t 0), none, false⟩], [], [], some (77, 0)⟩
abbrev r_equiv_search_17 : Reg := ⟨[⟨.mv (.v 11), none, false⟩, ⟨.mv (.v 10), none, false⟩, ⟨.iad (.t 1) (.t 0) 3, none, false⟩, ⟨.fad (.t 0) 2 none, none, false⟩, ⟨.ld (.t 0) none, none, false⟩, ⟨.mv (.v 15), none, false⟩, ⟨.liti [(.t 0)] 1, none, false⟩, ⟨.liti [(.t 2), (.t 0)] 1, none, false⟩, ⟨.cal F_word_Join [(.t 0)], none, false⟩, ⟨.mv (.t 0), none, false⟩, ⟨.mv (.c (.bool true)), none, false⟩], [(17, 1), (18, 0)], [3, 4, 8, 10, 11, 12, 13, 14, 15], none⟩
abbrev r_equiv_search_18 : Reg := ⟨[⟨.fad (.v 3) 2 none, none, false⟩, ⟨.ldi (.t 0) none, none, false⟩, ⟨.fad (.v 14) 0 none, none, false⟩, ⟨.ldi (.t 0) none, none, false⟩, ⟨.iad (.t 2) (.t 0) 1, none, false⟩, ⟨.ldi (.t 0) none, none, false⟩, ⟨.mv (.v 15), none, false⟩, ⟨.iad (.t 1) (.t 0) 1, none, false⟩, ⟨.ldi (.t 0) none, none, false⟩, ⟨.fad (.v 8) 2 none, none, false⟩, ⟨.ldi (.t 0) none, none, false⟩, ⟨.fad (.v 14) 1 none, none, false⟩, ⟨.ldi (.t 0) none, none, false⟩, ⟨.iad (.t 2) (.t 0) 1, none, false⟩, ⟨.ldi (.t 0) none, none, false⟩, ⟨.mv (.v 15), none, false⟩, ⟨.iad (.t 1) (.t 0) 1, none, false⟩, ⟨.ldi (.t 0) none, none, false⟩, ⟨.bld [.int 0, .int 0] [(0, 1, (.t 9)), (1, 1, (.t 0))], none, false⟩, ⟨.alc0 2, none, false⟩, ⟨.ini (.t 0) (.t 1) 2, none, false⟩], [(16, 0)], [], none⟩
abbrev r_equiv_search_19 : Reg := ⟨[⟨.ldi (.v 16) (some 2), none, false⟩, ⟨.ldi (.v 14) (some 2), none, false⟩, ⟨.seq true 2 (.t 1) (.t 0), none, false⟩, ⟨.mv (.t 0), none, false⟩, ⟨.mv (.v 4), some (.t 0, true), false⟩, ⟨.fad (.v 16) 0 none, some (.t 1, true), false⟩, ⟨.ldi (.t 0) none, some (.t 2, true), false⟩, ⟨.iad (.t 2) (.t 0) 1, some (.t 3, true), false⟩, ⟨.ld (.t 0) none, some (.t 4, true), false⟩, ⟨.fad (.v 16) 1 none, some (.t 5, true), false⟩, ⟨.ldi (.t 0) none, some (.t 6, true), false⟩, ⟨.iad (.t 2) (.t 0) 1, some (.t 7, true), false⟩, ⟨.ld (.t 0) none, some (.t 8, true), false⟩, ⟨.not (.t 0), some (.t 9, true), false⟩, ⟨.pick (.t 10) (.t 0) (.c (.bool false)), none, false⟩], [], [], some (120, 0)⟩
abbrev r_equiv_search_20 : Reg := ⟨[⟨.mv (.v 4), none, false⟩, ⟨.fad (.v 16) 0 none, none, false⟩, ⟨.ldi (.t 0) none, none, false⟩, ⟨.iad (.t 2) (.t 0) 1, none, false⟩, ⟨.ld (.t 0) none, none, false⟩, ⟨.fad (.v 16) 1 none, none, false⟩, ⟨.ldi (.t 0) none, none, false⟩, ⟨.iad (.t 2) (.t 0) 1, none, false⟩, ⟨.st (.t 0) (.c (.bool true)) 1, none, false⟩], [], [], none⟩
abbrev r_equiv_search_21 : Reg := ⟨[⟨.mv (.v 11), none, false⟩, ⟨.ldi (.v 16) (some 2), none, false⟩, ⟨.mv (.v 11), none, false⟩, ⟨.mv (.v 10), none, false⟩, ⟨.iad (.t 1) (.t 0) 3, none, false⟩, ⟨.fad (.t 0) 2 none, none, false⟩, ⟨.ld (.t 0) none, none, false⟩, ⟨.mv (.v 15), none, false⟩, ⟨.liti [(.t 0)] 1, none, false⟩, ⟨.liti [(.t 2), (.t 0)] 1, none, false⟩, ⟨.cal F_word_Join [(.t 0)], none, false⟩, ⟨.bld [.int 0, .int 0, .snil] [(0, 2, (.t 9)), (2, 1, (.t 0))], none, false⟩, ⟨.lita [(.t 0)] 3, none, false⟩, ⟨.app (.t 12) (.t 0) (some 3), none, false⟩, ⟨.mv (.t 0), none, false⟩], [(11, 0)], [15, 16], none⟩
abbrev r_equiv_search_22 : Reg := ⟨[⟨.bin .add (.v 12) (.c (.int (1))), none, false⟩, ⟨.mv (.t 0), none, false⟩], [(12, 0)], [15, 16], none⟩
abbrev b_equiv_search_4 : IC := (.seq (.reg r_equiv_search_14)
 (.seq (.cond 57 .skip (.exit 4))
 (.seq (.block 5 (.seq (.reg r_equiv_search_15)
 (.seq (.seq (.reg r_equiv_search_16)
 (.cond 77 (.seq (.reg r_equiv_search_17)
 .ret) .skip))
 (.seq (.reg r_equiv_search_18)
 (.seq (.reg r_equiv_search_19)
 (.cond 120 (.seq (.reg r_equiv_search_20)
 (.reg r_equiv_search_21)) .skip))))))
 (.reg r_equiv_search_22))))
abbrev r_equiv_search_11 : Reg := ⟨[⟨.mv (.v 10), none, false⟩, ⟨.bin .add (.t 0) (.c (.int (1))), none, false⟩, ⟨.mv (.t 0), none, false⟩], [(10, 0)], [12, 13, 14], none⟩
abbrev b_equiv_search_2 : IC := (.seq (.seq (.reg r_equiv_search_10)
 (.cond 46 .skip (.exit 2)))
 (.seq (.block 3 (.seq (.reg r_equiv_search_12)
 (.seq (.reg r_equiv_search_13)
 (.block 4 (.loop b_equiv_search_4)))))
 (.reg r_equiv_search_11)))
abbrev r_equiv_search_23 : Reg := ⟨[⟨.mv (.c (.snil)), none, false⟩, ⟨.mv (.c (.bool false)), none, false⟩], [(17, 1), (18, 0)], [3, 4, 8, 10, 11], none⟩
abbrev ir_equiv_search : Fn := { np := 3, nv := 19, res := [(17, none), (18, none)], body :=
(.seq (.reg r_equiv_search_0)
 (.seq (.reg r_equiv_search_1)
 (.seq (.seq (.reg r_equiv_search_2)
 (.block 0 (.loop b_equiv_search_0)))
 (.seq (.reg r_equiv_search_7)
 (.seq (.reg r_equiv_search_8)
 (.seq (.seq (.reg r_equiv_search_9)
 (.block 2 (.loop b_equiv_search_2)))
 (.seq (.reg r_equiv_search_23)
 .ret))))))) }
/- f45 mutant_clone : 0:m 1:m 2:_ 3:_ 4:out 5:s 6:_ -/
abbrev r_mutant_clone_0 : Reg := ⟨[⟨.bxi (.v 0), none, false⟩, ⟨.alc [.int 0, .int 0, .snil, .snil] (some 4), none, false⟩], [(1, 1), (6, 0)], [0], none⟩
abbrev r_mutant_clone_1 : Reg := ⟨[⟨.fad (.v 1) 0 none, none, false⟩, ⟨.ldi (.t 0) none, none, false⟩, ⟨.fad (.v 1) 1 none, none, false⟩, ⟨.ldi (.t 0) none, none, false⟩, ⟨.bld [.int 0, .int 0, .snil, .snil] [(0, 1, (.t 2)), (1, 1, (.t 0))], none, false⟩, ⟨.alc [.int 0, .int 0, .snil, .snil] (some 4), none, false⟩, ⟨.st (.t 0) (.t 1) 4, none, false⟩], [(4, 1)], [], none⟩
abbrev r_mutant_clone_2 : Reg := ⟨[⟨.fad (.v 1) 2 none, none, false⟩, ⟨.ldi (.t 0) none, none, false⟩, ⟨.len (.t 0), none, false⟩, ⟨.mv (.c (.int (0))), none, false⟩], [(3, 1), (2, 0)], [], none⟩
abbrev r_mutant_clone_3 : Reg := ⟨[⟨.bin .lss (.v 2) (.v 3), none, false⟩], [], [], some (14, 0)⟩
abbrev r_mutant_clone_4 : Reg := ⟨[⟨.mv (.v 2), none, false⟩, ⟨.mv (.t 0), none, false⟩], [(5, 0)], [], none⟩
abbrev r_mutant_clone_5 : Reg := ⟨[⟨.fad (.v 4) 2 none, none, false⟩, ⟨.ld (.t 0) none, none, false⟩, ⟨.fad (.v 1) 2 none, none, false⟩, ⟨.ldi (.t 0) none, none, false⟩, ⟨.mv (.v 5), none, false⟩, ⟨.iad (.t 1) (.t 0) 1, none, false⟩, ⟨.ldi (.t 0) none, none, false⟩, ⟨.can F_slices_Clone_Sint_int [(.t 0)], none, false⟩, ⟨.lita [(.t 0)] 1, none, false⟩, ⟨.app (.t 7) (.t 0) none, none, false⟩, ⟨.fad (.v 4) 2 none, none, false⟩, ⟨.st (.t 0) (.t 1) 1, none, false⟩], [], [], none⟩
abbrev r_mutant_clone_6 : Reg := ⟨[⟨.fad (.v 4) 3 none, none, false⟩, ⟨.ld (.t 0) none, none, false⟩, ⟨.fad (.v 1) 3 none, none, false⟩, ⟨.ldi (.t 0) none, none, false⟩, ⟨.mv (.v 5), none, false⟩, ⟨.iad (.t 1) (.t 0) 1, none, false⟩, ⟨.ldi (.t 0) none, none, false⟩, ⟨.can F_slices_Clone_Sint_int [(.t 0)], none, false⟩, ⟨.lita [(.t 0)] 1, none, false⟩, ⟨.app (.t 7) (.t 0) none, none, false⟩, ⟨.fad (.v 4) 3 none, none, false⟩, ⟨.st (.t 0) (.t 1) 1, none, false⟩], [], [5], none⟩
abbrev r_mutant_clone_7 : Reg := ⟨[⟨.bin .add (.v 2) (.c (.int (1))), none, false⟩, ⟨.mv (.t 0), none, false⟩], [(2, 0)], [], none⟩
abbrev b_mutant_clone_0 : IC := (.seq (.reg r_mutant_clone_3)
 (.seq (.cond 14 .skip (.exit 0))
 (.seq (.block 1 (.seq (.reg r_mutant_clone_4)
 (.seq (.reg r_mutant_clone_5)
 (.reg r_mutant_clone_6))))
 (.reg r_mutant_clone_7))))
abbrev r_mutant_clone_8 : Reg := ⟨[⟨.ld (.v 4) (some 4), none, false⟩, ⟨.st (.v 6) (.t 0) 4, none, false⟩], [], [1, 2, 3, 4], none⟩
abbrev ir_mutant_clone : Fn := { np := 1, nv := 7, res := [(6, some (some 4))], body :=
(.seq (.reg r_mutant_clone_0)
 (.seq (.reg r_mutant_clone_1)
 (.seq (.seq (.reg r_mutant_clone_2)
 (.block 0 (.loop b_mutant_clone_0)))
 (.seq (.reg r_mutant_clone_8)
 .ret)))) }
/- f46 slices_Clone_Sint_int : 0:s 1:_ -/
abbrev r_slices_Clone_Sint_int_0 : Reg := ⟨[⟨.mv (.c (.snil)), none, false⟩], [], [1], none⟩
abbrev r_slices_Clone_Sint_int_1 : Reg := ⟨[⟨.mv (.v 0), none, false⟩, ⟨.bnl false (.t 0), none, false⟩], [], [], some (4, 0)⟩
abbrev r_slices_Clone_Sint_int_2 : Reg := ⟨[⟨.mv (.c (.snil)), none, false⟩], [(1, 0)], [0], none⟩
abbrev r_slices_Clone_Sint_int_3 : Reg := ⟨[⟨.lita [] 1, none, false⟩, ⟨.mv (.v 0), none, false⟩, ⟨.appw (.t 1) (.t 0) none, none, false⟩, ⟨.mv (.t 0), none, false⟩], [(1, 0)], [0], none⟩
abbrev ir_slices_Clone_Sint_int : Fn := { np := 1, nv := 2, res := [(1, none)], body :=
(.seq (.reg r_slices_Clone_Sint_int_0)
 (.seq (.seq (.reg r_slices_Clone_Sint_int_1)
 (.cond 4 (.seq (.reg r_slices_Clone_Sint_int_2)
 .ret) .skip))
 (.seq (.reg r_slices_Clone_Sint_int_3)
 .ret))) }
/- f47 ref06_Ints : 0:a 1:b 2:i 3:_ -/
abbrev r_ref06_Ints_0 : Reg := ⟨[⟨.mv (.c (.bool false)), none, false⟩], [], [3], none⟩
abbrev r_ref06_Ints_1 : Reg := ⟨[⟨.mv (.v 0), none, false⟩, ⟨.len (.t 0), none, false⟩, ⟨.mv (.v 1), none, false⟩, ⟨.len (.t 0), none, false⟩, ⟨.bin .neq (.t 2) (.t 0), none, false⟩], [], [], some (10, 0)⟩
abbrev r_ref06_Ints_2 : Reg := ⟨[⟨.mv (.c (.bool false)), none, false⟩], [(3, 0)], [0, 1], none⟩
abbrev r_ref06_Ints_3 : Reg := ⟨[⟨.mv (.c (.int (0))), none, false⟩], [(2, 0)], [], none⟩
abbrev r_ref06_Ints_4 : Reg := ⟨[⟨.mv (.v 2), none, false⟩, ⟨.mv (.v 0), none, false⟩, ⟨.len (.t 0), none, false⟩, ⟨.bin .lss (.t 2) (.t 0), none, false⟩], [], [], some (14, 0)⟩
abbrev r_ref06_Ints_6 : Reg := ⟨[⟨.mv (.v 0), none, false⟩, ⟨.mv (.v 2), none, false⟩, ⟨.iad (.t 1) (.t 0) 1, none, false⟩, ⟨.ld (.t 0) none, none, false⟩, ⟨.mv (.v 1), none, false⟩, ⟨.mv (.v 2), none, false⟩, ⟨.iad (.t 1) (.t 0) 1, none, false⟩, ⟨.ld (.t 0) none, none, false⟩, ⟨.bin .neq (.t 4) (.t 0), none, false⟩], [], [], some (25, 0)⟩
abbrev r_ref06_Ints_7 : Reg := ⟨[⟨.mv (.c (.bool false)), none, false⟩], [(3, 0)], [0, 1, 2], none⟩
abbrev r_ref06_Ints_5 : Reg := ⟨[⟨.mv (.v 2), none, false⟩, ⟨.bin .add (.t 0) (.c (.int (1))), none, false⟩, ⟨.mv (.t 0), none, false⟩], [(2, 0)], [], none⟩
abbrev b_ref06_Ints_0 : IC := (.seq (.seq (.reg r_ref06_Ints_4)
 (.cond 14 .skip (.exit 0)))
 (.seq (.block 1 (.seq (.reg r_ref06_Ints_6)
 (.cond 25 (.seq (.reg r_ref06_Ints_7)
 .ret) .skip)))
 (.reg r_ref06_Ints_5)))
abbrev r_ref06_Ints_8 : Reg := ⟨[⟨.mv (.c (.bool true)), none, false⟩], [(3, 0)], [0, 1, 2], none⟩
abbrev ir_ref06_Ints : Fn := { np := 2, nv := 4, res := [(3, none)], body :=
(.seq (.reg r_ref06_Ints_0)
 (.seq (.seq (.reg r_ref06_Ints_1)
 (.cond 10 (.seq (.reg r_ref06_Ints_2)
 .ret) .skip))
 (.seq (.seq (.reg r_ref06_Ints_3)
 (.block 0 (.loop b_ref06_Ints_0)))
 (.seq (.reg r_ref06_Ints_8)
 .ret)))) }
/- f50 ref06_has : 0:l 1:n 2:i 3:_ -/
abbrev r_ref06_has_0 : Reg := ⟨[⟨.mv (.c (.bool false)), none, false⟩], [], [3], none⟩
abbrev r_ref06_has_1 : Reg := ⟨[⟨.mv (.c (.int (0))), none, false⟩], [(2, 0)], [], none⟩
abbrev r_ref06_has_2 : Reg := ⟨[⟨.mv (.v 2), none, false⟩, ⟨.mv (.v 0), none, false⟩, ⟨.len (.t 0), none, false⟩, ⟨.bin .lss (.t 2) (.t 0), none, false⟩], [], [], some (9, 0)⟩
abbrev r_ref06_has_4 : Reg := ⟨[⟨.mv (.v 0), none, false⟩, ⟨.mv (.v 2), none, false⟩, ⟨.iad (.t 1) (.t 0) 1, none, false⟩, ⟨.ld (.t 0) none, none, false⟩, ⟨.mv (.v 1), none, false⟩, ⟨.bin .eql (.t 1) (.t 0), none, false⟩], [], [], some (17, 0)⟩
abbrev r_ref06_has_5 : Reg := ⟨[⟨.mv (.c (.bool true)), none, false⟩], [(3, 0)], [0, 1, 2], none⟩
abbrev r_ref06_has_3 : Reg := ⟨[⟨.mv (.v 2), none, false⟩, ⟨.bin .add (.t 0) (.c (.int (1))), none, false⟩, ⟨.mv (.t 0), none, false⟩], [(2, 0)], [], none⟩
abbrev b_ref06_has_0 : IC := (.seq (.seq (.reg r_ref06_has_2)
 (.cond 9 .skip (.exit 0)))
 (.seq (.block 1 (.seq (.reg r_ref06_has_4)
 (.cond 17 (.seq (.reg r_ref06_has_5)
 .ret) .skip)))
 (.reg r_ref06_has_3)))
abbrev r_ref06_has_6 : Reg := ⟨[⟨.mv (.c (.bool false)), none, false⟩], [(3, 0)], [0, 1, 2], none⟩
abbrev ir_ref06_has : Fn := { np := 2, nv := 4, res := [(3, none)], body :=
(.seq (.reg r_ref06_has_0)
 (.seq (.seq (.reg r_ref06_has_1)
 (.block 0 (.loop b_ref06_has_0)))
 (.seq (.reg r_ref06_has_6)
 .ret))) }
/- f51 ref06_insert : 0:l 1:n 2:i 3:done 4:out 5:_ -/
abbrev r_ref06_insert_0 : Reg := ⟨[⟨.mv (.c (.snil)), none, false⟩], [], [5], none⟩
abbrev r_ref06_insert_1 : Reg := ⟨[⟨.mv (.v 0), none, false⟩, ⟨.mv (.v 1), none, false⟩, ⟨.cal F_ref06_has [(.t 1), (.t 0)], none, false⟩], [], [], some (10, 0)⟩
abbrev r_ref06_insert_2 : Reg := ⟨[⟨.mv (.v 0), none, false⟩, ⟨.mv (.t 0), none, false⟩], [(5, 0)], [0, 1], none⟩
abbrev r_ref06_insert_3 : Reg := ⟨[⟨.nl none, none, false⟩], [(4, 0)], [], none⟩
abbrev r_ref06_insert_4 : Reg := ⟨[⟨.mv (.c (.bool false)), none, false⟩], [(3, 0)], [], none⟩
abbrev r_ref06_insert_5 : Reg := ⟨[⟨.mv (.c (.int (0))), none, false⟩], [(2, 0)], [], none⟩
abbrev r_ref06_insert_6 : Reg := ⟨[⟨.mv (.v 2), none, false⟩, ⟨.mv (.v 0), none, false⟩, ⟨.len (.t 0), none, false⟩, ⟨.bin .lss (.t 2) (.t 0), none, false⟩], [], [], some (15, 0)⟩
abbrev r_ref06_insert_8 : Reg := ⟨[⟨.mv (.v 3), none, false⟩, ⟨.not (.t 0), none, false⟩, ⟨.mv (.t 0), none, false⟩, ⟨.mv (.v 1), some (.t 0, true), false⟩, ⟨.mv (.v 0), some (.t 1, true), false⟩, ⟨.mv (.v 2), some (.t 2, true), false⟩, ⟨.iad (.t 1) (.t 0) 1, some (.t 3, true), false⟩, ⟨.ld (.t 0) none, some (.t 4, true), false⟩, ⟨.bin .lss (.t 4) (.t 0), some (.t 5, true), false⟩, ⟨.pick (.t 6) (.t 0) (.c (.bool false)), none, false⟩], [], [], some (27, 0)⟩
abbrev r_ref06_insert_9 : Reg := ⟨[⟨.mv (.v 4), none, false⟩, ⟨.mv (.v 1), none, false⟩, ⟨.lita [(.t 0)] 1, none, false⟩, ⟨.appw (.t 2) (.t 0) none, none, false⟩, ⟨.mv (.t 0), none, false⟩], [(4, 0)], [3], none⟩
abbrev r_ref06_insert_10 : Reg := ⟨[⟨.mv (.c (.bool true)), none, false⟩], [(3, 0)], [], none⟩
abbrev r_ref06_insert_11 : Reg := ⟨[⟨.mv (.v 4), none, false⟩, ⟨.mv (.v 0), none, false⟩, ⟨.mv (.v 2), none, false⟩, ⟨.iad (.t 1) (.t 0) 1, none, false⟩, ⟨.ld (.t 0) none, none, false⟩, ⟨.lita [(.t 0)] 1, none, false⟩, ⟨.appw (.t 5) (.t 0) none, none, false⟩, ⟨.mv (.t 0), none, false⟩], [(4, 0)], [], none⟩
abbrev r_ref06_insert_7 : Reg := ⟨[⟨.mv (.v 2), none, false⟩, ⟨.bin .add (.t 0) (.c (.int (1))), none, false⟩, ⟨.mv (.t 0), none, false⟩], [(2, 0)], [], none⟩
abbrev b_ref06_insert_0 : IC := (.seq (.seq (.reg r_ref06_insert_6)
 (.cond 15 .skip (.exit 0)))
 (.seq (.block 1 (.seq (.seq (.reg r_ref06_insert_8)
 (.cond 27 (.seq (.reg r_ref06_insert_9)
 (.reg r_ref06_insert_10)) .skip))
 (.reg r_ref06_insert_11)))
 (.reg r_ref06_insert_7)))
abbrev r_ref06_insert_12 : Reg := ⟨[⟨.mv (.v 3), none, false⟩, ⟨.not (.t 0), none, false⟩], [], [0, 2, 3], some (40, 0)⟩
abbrev r_ref06_insert_13 : Reg := ⟨[⟨.mv (.v 4), none, false⟩, ⟨.mv (.v 1), none, false⟩, ⟨.lita [(.t 0)] 1, none, false⟩, ⟨.appw (.t 2) (.t 0) none, none, false⟩, ⟨.mv (.t 0), none, false⟩], [(4, 0)], [1], none⟩
abbrev r_ref06_insert_14 : Reg := ⟨[⟨.mv (.v 4), none, false⟩, ⟨.mv (.t 0), none, false⟩], [(5, 0)], [1, 4], none⟩
abbrev ir_ref06_insert : Fn := { np := 2, nv := 6, res := [(5, none)], body :=
(.seq (.reg r_ref06_insert_0)
 (.seq (.seq (.reg r_ref06_insert_1)
 (.cond 10 (.seq (.reg r_ref06_insert_2)
 .ret) .skip))
 (.seq (.reg r_ref06_insert_3)
 (.seq (.reg r_ref06_insert_4)
 (.seq (.seq (.reg r_ref06_insert_5)
 (.block 0 (.loop b_ref06_insert_0)))
 (.seq (.seq (.reg r_ref06_insert_12)
 (.cond 40 (.reg r_ref06_insert_13) .skip))
 (.seq (.reg r_ref06_insert_14)
 .ret))))))) }
/- f52 word_permitted : 0:inputs 1:_ -/
abbrev r_word_permitted_0 : Reg := ⟨[⟨.mv (.c (.bool false)), none, false⟩], [], [1], none⟩
abbrev r_word_permitted_1 : Reg := ⟨[⟨.mv (.v 0), none, false⟩, ⟨.bin .geq (.t 0) (.c (.int (1))), none, false⟩, ⟨.mv (.t 0), none, false⟩, ⟨.mv (.v 0), some (.t 0, true), false⟩, ⟨.bin .leq (.t 0) (.c (.int (1024))), some (.t 1, true), false⟩, ⟨.pick (.t 2) (.t 0) (.c (.bool false)), none, false⟩, ⟨.mv (.t 0), none, false⟩], [(1, 0)], [0], none⟩
abbrev ir_word_permitted : Fn := { np := 1, nv := 2, res := [(1, none)], body :=
(.seq (.reg r_word_permitted_0)
 (.seq (.reg r_word_permitted_1)
 .ret)) }
/- f53 slices_ContainsFunc_Sint_int : 0:s 1:f 2:_ -/
abbrev r_slices_ContainsFunc_Sint_int_0 : Reg := ⟨[⟨.mv (.c (.bool false)), none, false⟩], [], [2], none⟩
abbrev r_slices_ContainsFunc_Sint_int_1 : Reg := ⟨[⟨.mv (.v 0), none, false⟩, ⟨.mv (.v 1), none, false⟩, ⟨.cal F_slices_IndexFunc_Sint_int [(.t 1), (.t 0)], none, false⟩, ⟨.bin .geq (.t 0) (.c (.int (0))), none, false⟩, ⟨.mv (.t 0), none, false⟩], [(2, 0)], [0, 1], none⟩
abbrev ir_slices_ContainsFunc_Sint_int : Fn := { np := 2, nv := 3, res := [(2, none)], body :=
(.seq (.reg r_slices_ContainsFunc_Sint_int_0)
 (.seq (.reg r_slices_ContainsFunc_Sint_int_1)
 .ret)) }
/- f54 word_Check_1 : 0:a 1:_ 2:_ -/
abbrev r_word_Check_1_0 : Reg := ⟨[⟨.mv (.c (.bool false)), none, false⟩], [], [2], none⟩
abbrev r_word_Check_1_1 : Reg := ⟨[⟨.mv (.v 0), none, false⟩, ⟨.bin .lss (.t 0) (.c (.int (0))), none, false⟩, ⟨.mv (.t 0), none, false⟩, ⟨.mv (.v 0), some (.t 0, false), false⟩, ⟨.ld (.v 1) none, some (.t 1, false), false⟩, ⟨.bin .geq (.t 1) (.t 0), some (.t 2, false), false⟩, ⟨.pick (.t 3) (.c (.bool true)) (.t 0), none, false⟩, ⟨.mv (.t 0), none, false⟩], [(2, 0)], [0, 1], none⟩
abbrev ir_word_Check_1 : Fn := { np := 2, nv := 3, res := [(2, none)], body :=
(.seq (.reg r_word_Check_1_0)
 (.seq (.reg r_word_Check_1_1)
 .ret)) }
/- f55 mealy_Run : 0:m 1:w 2:m 3:out 4:e 5:_ 6:_ -/
abbrev r_mealy_Run_0 : Reg := ⟨[⟨.bxi (.v 0), none, false⟩, ⟨.mv (.c (.snil)), none, false⟩, ⟨.mv (.c (.int (0))), none, false⟩], [(2, 2)], [0, 5, 6], none⟩
abbrev r_mealy_Run_1 : Reg := ⟨[⟨.ldi (.v 2) (some 4), none, false⟩, ⟨.fad (.v 2) 1 none, none, false⟩, ⟨.ldi (.t 0) none, none, false⟩, ⟨.mv (.v 1), none, false⟩, ⟨.cal F_mealy_From [(.t 3), (.t 1), (.t 0)], none, false⟩, ⟨.mv (.t 0), none, false⟩, ⟨.ext (.t 0) 0, none, false⟩, ⟨.ext (.t 1) 1, none, false⟩, ⟨.ext (.t 2) 2, none, false⟩, ⟨.mv (.t 2), none, false⟩, ⟨.mv (.t 2), none, false⟩, ⟨.mv (.t 2), none, false⟩], [(3, 2), (4, 0)], [1, 2], none⟩
abbrev r_mealy_Run_2 : Reg := ⟨[⟨.mv (.v 3), none, false⟩, ⟨.mv (.v 4), none, false⟩, ⟨.mv (.t 1), none, false⟩, ⟨.mv (.t 1), none, false⟩], [(5, 1), (6, 0)], [3, 4], none⟩
abbrev ir_mealy_Run : Fn := { np := 2, nv := 7, res := [(5, none), (6, none)], body :=
(.seq (.reg r_mealy_Run_0)
 (.seq (.reg r_mealy_Run_1)
 (.seq (.reg r_mealy_Run_2)
 .ret))) }
/- f56 slices_Equal_Sint_int : 0:s1 1:s2 2:_ 3:_ 4:i 5:_ -/
abbrev r_slices_Equal_Sint_int_0 : Reg := ⟨[⟨.mv (.c (.bool false)), none, false⟩], [], [5], none⟩
abbrev r_slices_Equal_Sint_int_1 : Reg := ⟨[⟨.mv (.v 0), none, false⟩, ⟨.len (.t 0), none, false⟩, ⟨.mv (.v 1), none, false⟩, ⟨.len (.t 0), none, false⟩, ⟨.bin .neq (.t 2) (.t 0), none, false⟩], [], [], some (10, 0)⟩
abbrev r_slices_Equal_Sint_int_2 : Reg := ⟨[⟨.mv (.c (.bool false)), none, false⟩], [(5, 0)], [0, 1], none⟩
abbrev r_slices_Equal_Sint_int_3 : Reg := ⟨[⟨.mv (.v 0), none, false⟩, ⟨.len (.t 0), none, false⟩, ⟨.mv (.c (.int (0))), none, false⟩], [(3, 1), (2, 0)], [], none⟩
abbrev r_slices_Equal_Sint_int_4 : Reg := ⟨[⟨.bin .lss (.v 2) (.v 3), none, false⟩], [], [], some (14, 0)⟩
abbrev r_slices_Equal_Sint_int_5 : Reg := ⟨[⟨.mv (.v 2), none, false⟩, ⟨.mv (.t 0), none, false⟩], [(4, 0)], [], none⟩
abbrev r_slices_Equal_Sint_int_6 : Reg := ⟨[⟨.mv (.v 0), none, false⟩, ⟨.mv (.v 4), none, false⟩, ⟨.iad (.t 1) (.t 0) 1, none, false⟩, ⟨.ld (.t 0) none, none, false⟩, ⟨.mv (.v 1), none, false⟩, ⟨.mv (.v 4), none, false⟩, ⟨.iad (.t 1) (.t 0) 1, none, false⟩, ⟨.ld (.t 0) none, none, false⟩, ⟨.bin .neq (.t 4) (.t 0), none, false⟩], [], [4], some (24, 0)⟩
abbrev r_slices_Equal_Sint_int_7 : Reg := ⟨[⟨.mv (.c (.bool false)), none, false⟩], [(5, 0)], [0, 1, 2, 3], none⟩
abbrev r_slices_Equal_Sint_int_8 : Reg := ⟨[⟨.bin .add (.v 2) (.c (.int (1))), none, false⟩, ⟨.mv (.t 0), none, false⟩], [(2, 0)], [], none⟩
abbrev b_slices_Equal_Sint_int_0 : IC := (.seq (.reg r_slices_Equal_Sint_int_4)
 (.seq (.cond 14 .skip (.exit 0))
 (.seq (.block 1 (.seq (.reg r_slices_Equal_Sint_int_5)
 (.seq (.reg r_slices_Equal_Sint_int_6)
 (.cond 24 (.seq (.reg r_slices_Equal_Sint_int_7)
 .ret) .skip))))
 (.reg r_slices_Equal_Sint_int_8))))
abbrev r_slices_Equal_Sint_int_9 : Reg := ⟨[⟨.mv (.c (.bool true)), none, false⟩], [(5, 0)], [0, 1, 2, 3], none⟩
abbrev ir_slices_Equal_Sint_int : Fn := { np := 2, nv := 6, res := [(5, none)], body :=
(.seq (.reg r_slices_Equal_Sint_int_0)
 (.seq (.seq (.reg r_slices_Equal_Sint_int_1)
 (.cond 10 (.seq (.reg r_slices_Equal_Sint_int_2)
 .ret) .skip))
 (.seq (.seq (.reg r_slices_Equal_Sint_int_3)
 (.block 0 (.loop b_slices_Equal_Sint_int_0)))
 (.seq (.reg r_slices_Equal_Sint_int_9)
 .ret)))) }
/- f57 ref01_Size : 0:inputs 1:_ -/
abbrev r_ref01_Size_0 : Reg := ⟨[⟨.mv (.c (.bool false)), none, false⟩], [], [1], none⟩
abbrev r_ref01_Size_1 : Reg := ⟨[⟨.mv (.v 0), none, false⟩, ⟨.bin .geq (.t 0) (.c (.int (1))), none, false⟩, ⟨.mv (.t 0), none, false⟩, ⟨.mv (.v 0), some (.t 0, true), false⟩, ⟨.bin .leq (.t 0) (.c (.int (1024))), some (.t 1, true), false⟩, ⟨.pick (.t 2) (.t 0) (.c (.bool false)), none, false⟩, ⟨.mv (.t 0), none, false⟩], [(1, 0)], [0], none⟩
abbrev ir_ref01_Size : Fn := { np := 1, nv := 2, res := [(1, none)], body :=
(.seq (.reg r_ref01_Size_0)
 (.seq (.reg r_ref01_Size_1)
 .ret)) }
/- f58 ref09_Distinguish : 0:a 1:b 2:a 3:b 4:e 5:w 6:ok 7:_ 8:_ 9:_ -/
abbrev r_ref09_Distinguish_0 : Reg := ⟨[⟨.bxi (.v 0), none, false⟩, ⟨.bxi (.v 1), none, false⟩, ⟨.mv (.c (.snil)), none, false⟩, ⟨.mv (.c (.bool false)), none, false⟩, ⟨.mv (.c (.int (0))), none, false⟩], [(2, 4), (3, 3)], [0, 1, 7, 8, 9], none⟩
abbrev r_ref09_Distinguish_1 : Reg := ⟨[⟨.ldi (.v 2) (some 4), none, false⟩, ⟨.ldi (.v 3) (some 4), none, false⟩, ⟨.cal F_ref09_Check [(.t 1), (.t 0)], none, false⟩, ⟨.mv (.t 0), none, false⟩], [(4, 0)], [], none⟩
abbrev r_ref09_Distinguish_2 : Reg := ⟨[⟨.mv (.v 4), none, false⟩, ⟨.bin .neq (.t 0) (.c (.int (0))), none, false⟩], [], [], some (14, 0)⟩
abbrev r_ref09_Distinguish_3 : Reg := ⟨[⟨.mv (.v 4), none, false⟩, ⟨.mv (.c (.snil)), none, false⟩, ⟨.mv (.c (.bool false)), none, false⟩, ⟨.mv (.t 2), none, false⟩], [(7, 2), (8, 1), (9, 0)], [2, 3, 4], none⟩
abbrev r_ref09_Distinguish_4 : Reg := ⟨[⟨.ldi (.v 2) (some 4), none, false⟩, ⟨.ldi (.v 3) (some 4), none, false⟩, ⟨.fad (.v 2) 1 none, none, false⟩, ⟨.ldi (.t 0) none, none, false⟩, ⟨.fad (.v 3) 1 none, none, false⟩, ⟨.ldi (.t 0) none, none, false⟩, ⟨.cal F_ref09_first [(.t 5), (.t 4), (.t 2), (.t 0)], none, false⟩, ⟨.mv (.t 0), none, false⟩, ⟨.ext (.t 0) 0, none, false⟩, ⟨.ext (.t 1) 1, none, false⟩, ⟨.mv (.t 1), none, false⟩, ⟨.mv (.t 1), none, false⟩], [(5, 1), (6, 0)], [2, 3, 4], none⟩
abbrev r_ref09_Distinguish_5 : Reg := ⟨[⟨.mv (.v 5), none, false⟩, ⟨.mv (.v 6), none, false⟩, ⟨.mv (.t 1), none, false⟩, ⟨.mv (.t 1), none, false⟩, ⟨.mv (.c (.int (0))), none, false⟩], [(7, 2), (8, 1), (9, 0)], [5, 6], none⟩
abbrev ir_ref09_Distinguish : Fn := { np := 2, nv := 10, res := [(7, none), (8, none), (9, none)], body :=
(.seq (.reg r_ref09_Distinguish_0)
 (.seq (.seq (.reg r_ref09_Distinguish_1)
 (.seq (.reg r_ref09_Distinguish_2)
 (.cond 14 (.seq (.reg r_ref09_Distinguish_3)
 .ret) .skip)))
 (.seq (.reg r_ref09_Distinguish_4)
 (.seq (.reg r_ref09_Distinguish_5)
 .ret)))) }
/- f59 ref06_Run : 0:m 1:w 2:m 3:out 4:e 5:_ 6:_ -/
abbrev r_ref06_Run_0 : Reg := ⟨[⟨.bxi (.v 0), none, false⟩, ⟨.mv (.c (.snil)), none, false⟩, ⟨.mv (.c (.int (0))), none, false⟩], [(2, 2)], [0, 5, 6], none⟩
abbrev r_ref06_Run_1 : Reg := ⟨[⟨.ldi (.v 2) (some 4), none, false⟩, ⟨.fad (.v 2) 1 none, none, false⟩, ⟨.ldi (.t 0) none, none, false⟩, ⟨.mv (.v 1), none, false⟩, ⟨.cal F_ref06_From [(.t 3), (.t 1), (.t 0)], none, false⟩, ⟨.mv (.t 0), none, false⟩, ⟨.ext (.t 0) 0, none, false⟩, ⟨.ext (.t 1) 1, none, false⟩, ⟨.ext (.t 2) 2, none, false⟩, ⟨.mv (.t 2), none, false⟩, ⟨.mv (.t 2), none, false⟩, ⟨.mv (.t 2), none, false⟩], [(3, 2), (4, 0)], [1, 2], none⟩
abbrev r_ref06_Run_2 : Reg := ⟨[⟨.mv (.v 3), none, false⟩, ⟨.mv (.v 4), none, false⟩, ⟨.mv (.t 1), none, false⟩, ⟨.mv (.t 1), none, false⟩], [(5, 1), (6, 0)], [3, 4], none⟩
abbrev ir_ref06_Run : Fn := { np := 2, nv := 7, res := [(5, none), (6, none)], body :=
(.seq (.reg r_ref06_Run_0)
 (.seq (.reg r_ref06_Run_1)
 (.seq (.reg r_ref06_Run_2)
 .ret))) }
/- f60 word_Join : 0:parts 1:_ -/
abbrev r_word_Join_0 : Reg := ⟨[⟨.mv (.c (.snil)), none, false⟩], [], [1], none⟩
abbrev r_word_Join_1 : Reg := ⟨[⟨.mv (.v 0), none, false⟩, ⟨.cal F_slices_Concat_Sint_int [(.t 0)], none, false⟩, ⟨.mv (.t 0), none, false⟩], [(1, 0)], [0], none⟩
abbrev ir_word_Join : Fn := { np := 1, nv := 2, res := [(1, none)], body :=
(.seq (.reg r_word_Join_0)
 (.seq (.reg r_word_Join_1)
 .ret)) }
/- f72 slices_IndexFunc_Sint_int : 0:s 1:f 2:_ 3:_ 4:i 5:_ -/
abbrev r_slices_IndexFunc_Sint_int_0 : Reg := ⟨[⟨.mv (.c (.int (0))), none, false⟩], [], [5], none⟩
abbrev r_slices_IndexFunc_Sint_int_1 : Reg := ⟨[⟨.mv (.v 0), none, false⟩, ⟨.len (.t 0), none, false⟩, ⟨.mv (.c (.int (0))), none, false⟩], [(3, 1), (2, 0)], [], none⟩
abbrev r_slices_IndexFunc_Sint_int_2 : Reg := ⟨[⟨.bin .lss (.v 2) (.v 3), none, false⟩], [], [], some (9, 0)⟩
abbrev r_slices_IndexFunc_Sint_int_3 : Reg := ⟨[⟨.mv (.v 2), none, false⟩, ⟨.mv (.t 0), none, false⟩], [(4, 0)], [], none⟩
abbrev r_slices_IndexFunc_Sint_int_4 : Reg := ⟨[⟨.mv (.v 1), none, false⟩, ⟨.mv (.v 0), none, false⟩, ⟨.mv (.v 4), none, false⟩, ⟨.iad (.t 1) (.t 0) 1, none, false⟩, ⟨.ld (.t 0) none, none, false⟩, ⟨.cald (.t 4) [(.t 0)], none, false⟩], [], [], some (16, 0)⟩
abbrev r_slices_IndexFunc_Sint_int_5 : Reg := ⟨[⟨.mv (.v 4), none, false⟩, ⟨.mv (.t 0), none, false⟩], [(5, 0)], [0, 1, 2, 3, 4], none⟩
abbrev r_slices_IndexFunc_Sint_int_6 : Reg := ⟨[⟨.bin .add (.v 2) (.c (.int (1))), none, false⟩, ⟨.mv (.t 0), none, false⟩], [(2, 0)], [4], none⟩
abbrev b_slices_IndexFunc_Sint_int_0 : IC := (.seq (.reg r_slices_IndexFunc_Sint_int_2)
 (.seq (.cond 9 .skip (.exit 0))
 (.seq (.block 1 (.seq (.reg r_slices_IndexFunc_Sint_int_3)
 (.seq (.reg r_slices_IndexFunc_Sint_int_4)
 (.cond 16 (.seq (.reg r_slices_IndexFunc_Sint_int_5)
 .ret) .skip))))
 (.reg r_slices_IndexFunc_Sint_int_6))))
abbrev r_slices_IndexFunc_Sint_int_7 : Reg := ⟨[⟨.mv (.c (.int (-1))), none, false⟩], [(5, 0)], [0, 1, 2, 3], none⟩
abbrev ir_slices_IndexFunc_Sint_int : Fn := { np := 2, nv := 6, res := [(5, none)], body :=
(.seq (.reg r_slices_IndexFunc_Sint_int_0)
 (.seq (.seq (.reg r_slices_IndexFunc_Sint_int_1)
 (.block 0 (.loop b_slices_IndexFunc_Sint_int_0)))
 (.seq (.reg r_slices_IndexFunc_Sint_int_7)
 .ret))) }
/- f73 mealy_From : 0:m 1:s 2:w 3:m 4:e 5:e 6:r 7:out 8:_ 9:_ 10:_ -/
abbrev r_mealy_From_0 : Reg := ⟨[⟨.bxi (.v 0), none, false⟩, ⟨.mv (.c (.snil)), none, false⟩, ⟨.mv (.c (.int (0))), none, false⟩, ⟨.mv (.c (.int (0))), none, false⟩], [(3, 3)], [0, 8, 9, 10], none⟩
abbrev r_mealy_From_1 : Reg := ⟨[⟨.ldi (.v 3) (some 4), none, false⟩, ⟨.mv (.v 1), none, false⟩, ⟨.cal F_mealy_state [(.t 1), (.t 0)], none, false⟩, ⟨.mv (.t 0), none, false⟩], [(4, 0)], [], none⟩
abbrev r_mealy_From_2 : Reg := ⟨[⟨.mv (.v 4), none, false⟩, ⟨.bin .neq (.t 0) (.c (.int (0))), none, false⟩], [], [], some (17, 0)⟩
abbrev r_mealy_From_3 : Reg := ⟨[⟨.mv (.v 4), none, false⟩, ⟨.mv (.c (.snil)), none, false⟩, ⟨.mv (.c (.int (0))), none, false⟩, ⟨.mv (.t 2), none, false⟩], [(8, 2), (9, 1), (10, 0)], [1, 2, 3, 4], none⟩
abbrev r_mealy_From_4 : Reg := ⟨[⟨.mv (.v 2), none, false⟩, ⟨.fad (.v 3) 0 none, none, false⟩, ⟨.ldi (.t 0) none, none, false⟩, ⟨.cal F_word_Check [(.t 2), (.t 0)], none, false⟩, ⟨.mv (.t 0), none, false⟩], [(5, 0)], [4], none⟩
abbrev r_mealy_From_5 : Reg := ⟨[⟨.mv (.v 5), none, false⟩, ⟨.bin .neq (.t 0) (.c (.int (0))), none, false⟩], [], [], some (24, 0)⟩
abbrev r_mealy_From_6 : Reg := ⟨[⟨.mv (.v 5), none, false⟩, ⟨.mv (.c (.snil)), none, false⟩, ⟨.mv (.c (.int (0))), none, false⟩, ⟨.mv (.t 2), none, false⟩], [(8, 2), (9, 1), (10, 0)], [1, 2, 3, 5], none⟩
abbrev r_mealy_From_7 : Reg := ⟨[⟨.ldi (.v 3) (some 4), none, false⟩, ⟨.bld [.int 0, .int 0, .snil, .snil] [(0, 4, (.t 0))], none, false⟩, ⟨.mv (.v 1), none, false⟩, ⟨.bld [.int 0, .int 0, .snil, .snil, .int 0] [(0, 4, (.t 1)), (4, 1, (.t 0))], none, false⟩, ⟨.bxm (.t 0) (some 5), none, false⟩, ⟨.mv (.t 0), none, false⟩], [(6, 0)], [1, 3, 5], none⟩
abbrev r_mealy_From_8 : Reg := ⟨[⟨.mv (.v 6), none, false⟩, ⟨.mv (.v 2), none, false⟩, ⟨.cam F_mealy_runner_run [(.t 1), (.t 0)], none, false⟩, ⟨.mv (.t 0), none, false⟩], [(7, 0)], [2], none⟩
abbrev r_mealy_From_9 : Reg := ⟨[⟨.mv (.v 7), none, false⟩, ⟨.mv (.v 6), none, false⟩, ⟨.nck (.t 0), none, false⟩, ⟨.fad (.t 0) 4 none, none, false⟩, ⟨.ld (.t 0) none, none, false⟩, ⟨.mv (.t 4), none, false⟩, ⟨.mv (.t 1), none, false⟩, ⟨.mv (.c (.int (0))), none, false⟩], [(8, 2), (9, 1), (10, 0)], [6, 7], none⟩
abbrev ir_mealy_From : Fn := { np := 3, nv := 11, res := [(8, none), (9, none), (10, none)], body :=
(.seq (.reg r_mealy_From_0)
 (.seq (.seq (.reg r_mealy_From_1)
 (.seq (.reg r_mealy_From_2)
 (.cond 17 (.seq (.reg r_mealy_From_3)
 .ret) .skip)))
 (.seq (.seq (.reg r_mealy_From_4)
 (.seq (.reg r_mealy_From_5)
 (.cond 24 (.seq (.reg r_mealy_From_6)
 .ret) .skip)))
 (.seq (.reg r_mealy_From_7)
 (.seq (.reg r_mealy_From_8)
 (.seq (.reg r_mealy_From_9)
 .ret)))))) }
/- f74 ref09_Check : 0:a 1:b 2:a 3:e 4:b 5:e 6:_ -/
abbrev r_ref09_Check_0 : Reg := ⟨[⟨.bxi (.v 0), none, false⟩, ⟨.bxi (.v 1), none, false⟩, ⟨.mv (.c (.int (0))), none, false⟩], [(2, 2), (4, 1)], [0, 1, 6], none⟩
abbrev r_ref09_Check_1 : Reg := ⟨[⟨.ldi (.v 2) (some 4), none, false⟩, ⟨.cal F_ref06_Valid [(.t 0)], none, false⟩, ⟨.mv (.t 0), none, false⟩], [(3, 0)], [], none⟩
abbrev r_ref09_Check_2 : Reg := ⟨[⟨.mv (.v 3), none, false⟩, ⟨.bin .neq (.t 0) (.c (.int (0))), none, false⟩], [], [], some (10, 0)⟩
abbrev r_ref09_Check_3 : Reg := ⟨[⟨.mv (.v 3), none, false⟩, ⟨.mv (.t 0), none, false⟩], [(6, 0)], [2, 3, 4], none⟩
abbrev r_ref09_Check_4 : Reg := ⟨[⟨.ldi (.v 4) (some 4), none, false⟩, ⟨.cal F_ref06_Valid [(.t 0)], none, false⟩, ⟨.mv (.t 0), none, false⟩], [(5, 0)], [3], none⟩
abbrev r_ref09_Check_5 : Reg := ⟨[⟨.mv (.v 5), none, false⟩, ⟨.bin .neq (.t 0) (.c (.int (0))), none, false⟩], [], [], some (15, 0)⟩
abbrev r_ref09_Check_6 : Reg := ⟨[⟨.mv (.v 5), none, false⟩, ⟨.mv (.t 0), none, false⟩], [(6, 0)], [2, 4, 5], none⟩
abbrev r_ref09_Check_7 : Reg := ⟨[⟨.fad (.v 2) 0 none, none, false⟩, ⟨.ldi (.t 0) none, none, false⟩, ⟨.fad (.v 4) 0 none, none, false⟩, ⟨.ldi (.t 0) none, none, false⟩, ⟨.bin .neq (.t 2) (.t 0), none, false⟩], [], [2, 4, 5], some (21, 0)⟩
abbrev r_ref09_Check_8 : Reg := ⟨[⟨.mv (.c (.int (15))), none, false⟩], [(6, 0)], [], none⟩
abbrev r_ref09_Check_9 : Reg := ⟨[⟨.mv (.c (.int (0))), none, false⟩], [(6, 0)], [], none⟩
abbrev ir_ref09_Check : Fn := { np := 2, nv := 7, res := [(6, none)], body :=
(.seq (.reg r_ref09_Check_0)
 (.seq (.seq (.reg r_ref09_Check_1)
 (.seq (.reg r_ref09_Check_2)
 (.cond 10 (.seq (.reg r_ref09_Check_3)
 .ret) .skip)))
 (.seq (.seq (.reg r_ref09_Check_4)
 (.seq (.reg r_ref09_Check_5)
 (.cond 15 (.seq (.reg r_ref09_Check_6)
 .ret) .skip)))
 (.seq (.seq (.reg r_ref09_Check_7)
 (.cond 21 (.seq (.reg r_ref09_Check_8)
 .ret) .skip))
 (.seq (.reg r_ref09_Check_9)
 .ret))))) }
/- f75 ref09_first : 0:a 1:b 2:s 3:t 4:i 5:l 6:x 7:a 8:b 9:w 10:k 11:known 12:p 13:q 14:_ 15:_ -/
abbrev r_ref09_first_0 : Reg := ⟨[⟨.bxi (.v 0), none, false⟩, ⟨.bxi (.v 1), none, false⟩, ⟨.mv (.c (.snil)), none, false⟩, ⟨.mv (.c (.bool false)), none, false⟩], [(7, 3), (8, 2)], [0, 1, 14, 15], none⟩
abbrev r_ref09_first_1 : Reg := ⟨[⟨.mv (.v 2), none, false⟩, ⟨.mv (.v 3), none, false⟩, ⟨.bld [.int 0, .int 0, .snil] [(0, 1, (.t 1)), (1, 1, (.t 0))], none, false⟩, ⟨.litm [(.t 0)] (some 3), none, false⟩, ⟨.mv (.t 0), none, false⟩], [(5, 0)], [2, 3], none⟩
abbrev r_ref09_first_2 : Reg := ⟨[⟨.mv (.c (.int (0))), none, false⟩], [(4, 0)], [], none⟩
abbrev r_ref09_first_3 : Reg := ⟨[⟨.mv (.v 4), none, false⟩, ⟨.mv (.v 5), none, false⟩, ⟨.len (.t 0), none, false⟩, ⟨.bin .lss (.t 2) (.t 0), none, false⟩], [], [], some (25, 0)⟩
abbrev r_ref09_first_5 : Reg := ⟨[⟨.mv (.c (.int (0))), none, false⟩], [(6, 0)], [], none⟩
abbrev r_ref09_first_6 : Reg := ⟨[⟨.mv (.v 6), none, false⟩, ⟨.fad (.v 7) 0 none, none, false⟩, ⟨.ldi (.t 0) none, none, false⟩, ⟨.bin .lss (.t 2) (.t 0), none, false⟩], [], [], some (31, 0)⟩
abbrev r_ref09_first_8 : Reg := ⟨[⟨.mv (.v 5), none, false⟩, ⟨.mv (.v 4), none, false⟩, ⟨.iad (.t 1) (.t 0) 3, none, false⟩, ⟨.fad (.t 0) 2 none, none, false⟩, ⟨.ld (.t 0) none, none, false⟩, ⟨.mv (.v 6), none, false⟩, ⟨.cal F_ref09_Extended [(.t 1), (.t 0)], none, false⟩, ⟨.mv (.t 0), none, false⟩], [(9, 0)], [], none⟩
abbrev r_ref09_first_9 : Reg := ⟨[⟨.fad (.v 7) 3 none, none, false⟩, ⟨.ldi (.t 0) none, none, false⟩, ⟨.mv (.v 5), none, false⟩, ⟨.mv (.v 4), none, false⟩, ⟨.iad (.t 1) (.t 0) 3, none, false⟩, ⟨.fad (.t 0) 0 none, none, false⟩, ⟨.ld (.t 0) none, none, false⟩, ⟨.iad (.t 5) (.t 0) 1, none, false⟩, ⟨.ldi (.t 0) none, none, false⟩, ⟨.mv (.v 6), none, false⟩, ⟨.iad (.t 1) (.t 0) 1, none, false⟩, ⟨.ldi (.t 0) none, none, false⟩, ⟨.fad (.v 8) 3 none, none, false⟩, ⟨.ldi (.t 0) none, none, false⟩, ⟨.mv (.v 5), none, false⟩, ⟨.mv (.v 4), none, false⟩, ⟨.iad (.t 1) (.t 0) 3, none, false⟩, ⟨.fad (.t 0) 1 none, none, false⟩, ⟨.ld (.t 0) none, none, false⟩, ⟨.iad (.t 5) (.t 0) 1, none, false⟩, ⟨.ldi (.t 0) none, none, false⟩, ⟨.mv (.v 6), none, false⟩, ⟨.iad (.t 1) (.t 0) 1, none, false⟩, ⟨.ldi (.t 0) none, none, false⟩, ⟨.bin .neq (.t 12) (.t 0), none, false⟩], [], [], some (65, 0)⟩
abbrev r_ref09_first_10 : Reg := ⟨[⟨.mv (.v 9), none, false⟩, ⟨.mv (.t 0), none, false⟩, ⟨.mv (.c (.bool true)), none, false⟩], [(14, 1), (15, 0)], [4, 5, 6, 7, 8, 9], none⟩
abbrev r_ref09_first_11 : Reg := ⟨[⟨.fad (.v 7) 2 none, none, false⟩, ⟨.ldi (.t 0) none, none, false⟩, ⟨.mv (.v 5), none, false⟩, ⟨.mv (.v 4), none, false⟩, ⟨.iad (.t 1) (.t 0) 3, none, false⟩, ⟨.fad (.t 0) 0 none, none, false⟩, ⟨.ld (.t 0) none, none, false⟩, ⟨.iad (.t 5) (.t 0) 1, none, false⟩, ⟨.ldi (.t 0) none, none, false⟩, ⟨.mv (.v 6), none, false⟩, ⟨.iad (.t 1) (.t 0) 1, none, false⟩, ⟨.ldi (.t 0) none, none, false⟩, ⟨.fad (.v 8) 2 none, none, false⟩, ⟨.ldi (.t 0) none, none, false⟩, ⟨.mv (.v 5), none, false⟩, ⟨.mv (.v 4), none, false⟩, ⟨.iad (.t 1) (.t 0) 3, none, false⟩, ⟨.fad (.t 0) 1 none, none, false⟩, ⟨.ld (.t 0) none, none, false⟩, ⟨.iad (.t 5) (.t 0) 1, none, false⟩, ⟨.ldi (.t 0) none, none, false⟩, ⟨.mv (.v 6), none, false⟩, ⟨.iad (.t 1) (.t 0) 1, none, false⟩, ⟨.ldi (.t 0) none, none, false⟩, ⟨.mv (.t 12), none, false⟩, ⟨.mv (.t 1), none, false⟩], [(12, 1), (13, 0)], [], none⟩
abbrev r_ref09_first_12 : Reg := ⟨[⟨.mv (.c (.bool false)), none, false⟩], [(11, 0)], [], none⟩
abbrev r_ref09_first_13 : Reg := ⟨[⟨.mv (.c (.int (0))), none, false⟩], [(10, 0)], [], none⟩
abbrev r_ref09_first_14 : Reg := ⟨[⟨.mv (.v 10), none, false⟩, ⟨.mv (.v 5), none, false⟩, ⟨.len (.t 0), none, false⟩, ⟨.bin .lss (.t 2) (.t 0), none, false⟩], [], [], some (94, 0)⟩
abbrev r_ref09_first_16 : Reg := ⟨[⟨.mv (.v 11), none, false⟩, ⟨.mv (.t 0), none, false⟩, ⟨.mv (.v 5), some (.t 0, false), false⟩, ⟨.mv (.v 10), some (.t 1, false), false⟩, ⟨.iad (.t 1) (.t 0) 3, some (.t 2, false), false⟩, ⟨.fad (.t 0) 0 none, some (.t 3, false), false⟩, ⟨.ld (.t 0) none, some (.t 4, false), false⟩, ⟨.mv (.v 12), some (.t 5, false), false⟩, ⟨.bin .eql (.t 1) (.t 0), some (.t 6, false), false⟩, ⟨.mv (.t 0), some (.t 7, false), false⟩, ⟨.mv (.v 5), some (.t 0, true), false⟩, ⟨.mv (.v 10), some (.t 1, true), false⟩, ⟨.iad (.t 1) (.t 0) 3, some (.t 2, true), false⟩, ⟨.fad (.t 0) 1 none, some (.t 3, true), false⟩, ⟨.ld (.t 0) none, some (.t 4, true), false⟩, ⟨.mv (.v 13), some (.t 5, true), false⟩, ⟨.bin .eql (.t 1) (.t 0), some (.t 6, true), false⟩, ⟨.pick (.t 7) (.t 0) (.c (.bool false)), some (.t 15, false), false⟩, ⟨.pick (.t 16) (.c (.bool true)) (.t 0), none, false⟩, ⟨.mv (.t 0), none, false⟩], [(11, 0)], [], none⟩
abbrev r_ref09_first_15 : Reg := ⟨[⟨.mv (.v 10), none, false⟩, ⟨.bin .add (.t 0) (.c (.int (1))), none, false⟩, ⟨.mv (.t 0), none, false⟩], [(10, 0)], [], none⟩
abbrev b_ref09_first_4 : IC := (.seq (.seq (.reg r_ref09_first_14)
 (.cond 94 .skip (.exit 4)))
 (.seq (.block 5 (.reg r_ref09_first_16))
 (.reg r_ref09_first_15)))
abbrev r_ref09_first_17 : Reg := ⟨[⟨.mv (.v 11), none, false⟩, ⟨.not (.t 0), none, false⟩], [], [10, 11], some (117, 0)⟩
abbrev r_ref09_first_18 : Reg := ⟨[⟨.mv (.v 5), none, false⟩, ⟨.mv (.v 12), none, false⟩, ⟨.mv (.v 13), none, false⟩, ⟨.mv (.v 9), none, false⟩, ⟨.bld [.int 0, .int 0, .snil] [(0, 1, (.t 2)), (1, 1, (.t 1)), (2, 1, (.t 0))], none, false⟩, ⟨.lita [(.t 0)] 3, none, false⟩, ⟨.appw (.t 5) (.t 0) (some 3), none, false⟩, ⟨.mv (.t 0), none, false⟩], [(5, 0)], [9, 12, 13], none⟩
abbrev r_ref09_first_7 : Reg := ⟨[⟨.mv (.v 6), none, false⟩, ⟨.bin .add (.t 0) (.c (.int (1))), none, false⟩, ⟨.mv (.t 0), none, false⟩], [(6, 0)], [9, 12, 13], none⟩
abbrev b_ref09_first_2 : IC := (.seq (.seq (.reg r_ref09_first_6)
 (.cond 31 .skip (.exit 2)))
 (.seq (.block 3 (.seq (.reg r_ref09_first_8)
 (.seq (.seq (.reg r_ref09_first_9)
 (.cond 65 (.seq (.reg r_ref09_first_10)
 .ret) .skip))
 (.seq (.reg r_ref09_first_11)
 (.seq (.reg r_ref09_first_12)
 (.seq (.seq (.reg r_ref09_first_13)
 (.block 4 (.loop b_ref09_first_4)))
 (.seq (.reg r_ref09_first_17)
 (.cond 117 (.reg r_ref09_first_18) .skip))))))))
 (.reg r_ref09_first_7)))
abbrev r_ref09_first_4 : Reg := ⟨[⟨.mv (.v 4), none, false⟩, ⟨.bin .add (.t 0) (.c (.int (1))), none, false⟩, ⟨.mv (.t 0), none, false⟩], [(4, 0)], [6], none⟩
abbrev b_ref09_first_0 : IC := (.seq (.seq (.reg r_ref09_first_3)
 (.cond 25 .skip (.exit 0)))
 (.seq (.block 1 (.seq (.reg r_ref09_first_5)
 (.block 2 (.loop b_ref09_first_2))))
 (.reg r_ref09_first_4)))
abbrev r_ref09_first_19 : Reg := ⟨[⟨.mv (.c (.snil)), none, false⟩, ⟨.mv (.c (.bool false)), none, false⟩], [(14, 1), (15, 0)], [4, 5, 7, 8], none⟩
abbrev ir_ref09_first : Fn := { np := 4, nv := 16, res := [(14, none), (15, none)], body :=
(.seq (.reg r_ref09_first_0)
 (.seq (.reg r_ref09_first_1)
 (.seq (.seq (.reg r_ref09_first_2)
 (.block 0 (.loop b_ref09_first_0)))
 (.seq (.reg r_ref09_first_19)
 .ret)))) }
/- f76 ref06_From : 0:m 1:s 2:w 3:m 4:e 5:e 6:out 7:end 8:_ 9:_ 10:_ -/
abbrev r_ref06_From_0 : Reg := ⟨[⟨.bxi (.v 0), none, false⟩, ⟨.mv (.c (.snil)), none, false⟩, ⟨.mv (.c (.int (0))), none, false⟩, ⟨.mv (.c (.int (0))), none, false⟩], [(3, 3)], [0, 8, 9, 10], none⟩
abbrev r_ref06_From_1 : Reg := ⟨[⟨.ldi (.v 3) (some 4), none, false⟩, ⟨.cal F_ref06_Valid [(.t 0)], none, false⟩, ⟨.mv (.t 0), none, false⟩], [(4, 0)], [], none⟩
abbrev r_ref06_From_2 : Reg := ⟨[⟨.mv (.v 4), none, false⟩, ⟨.bin .neq (.t 0) (.c (.int (0))), none, false⟩], [], [], some (16, 0)⟩
abbrev r_ref06_From_3 : Reg := ⟨[⟨.mv (.v 4), none, false⟩, ⟨.mv (.c (.snil)), none, false⟩, ⟨.mv (.c (.int (0))), none, false⟩, ⟨.mv (.t 2), none, false⟩], [(8, 2), (9, 1), (10, 0)], [1, 2, 3, 4], none⟩
abbrev r_ref06_From_4 : Reg := ⟨[⟨.mv (.v 1), none, false⟩, ⟨.bin .lss (.t 0) (.c (.int (0))), none, false⟩, ⟨.mv (.t 0), none, false⟩, ⟨.mv (.v 1), some (.t 0, false), false⟩, ⟨.fad (.v 3) 2 none, some (.t 1, false), false⟩, ⟨.ldi (.t 0) none, some (.t 2, false), false⟩, ⟨.len (.t 0), some (.t 3, false), false⟩, ⟨.bin .geq (.t 3) (.t 0), some (.t 4, false), false⟩, ⟨.pick (.t 5) (.c (.bool true)) (.t 0), none, false⟩], [], [4], some (26, 0)⟩
abbrev r_ref06_From_5 : Reg := ⟨[⟨.mv (.c (.snil)), none, false⟩, ⟨.mv (.c (.int (0))), none, false⟩, ⟨.mv (.c (.int (2))), none, false⟩], [(8, 2), (9, 1), (10, 0)], [1, 2, 3], none⟩
abbrev r_ref06_From_6 : Reg := ⟨[⟨.mv (.v 2), none, false⟩, ⟨.fad (.v 3) 0 none, none, false⟩, ⟨.ldi (.t 0) none, none, false⟩, ⟨.cal F_ref01_Check [(.t 2), (.t 0)], none, false⟩, ⟨.mv (.t 0), none, false⟩], [(5, 0)], [], none⟩
abbrev r_ref06_From_7 : Reg := ⟨[⟨.mv (.v 5), none, false⟩, ⟨.bin .neq (.t 0) (.c (.int (0))), none, false⟩], [], [], some (32, 0)⟩
abbrev r_ref06_From_8 : Reg := ⟨[⟨.mv (.v 5), none, false⟩, ⟨.mv (.c (.snil)), none, false⟩, ⟨.mv (.c (.int (0))), none, false⟩, ⟨.mv (.t 2), none, false⟩], [(8, 2), (9, 1), (10, 0)], [1, 2, 3, 5], none⟩
abbrev r_ref06_From_9 : Reg := ⟨[⟨.ldi (.v 3) (some 4), none, false⟩, ⟨.mv (.v 1), none, false⟩, ⟨.mv (.v 2), none, false⟩, ⟨.cal F_ref06_Outs [(.t 2), (.t 1), (.t 0)], none, false⟩, ⟨.mv (.t 0), none, false⟩, ⟨.ext (.t 0) 0, none, false⟩, ⟨.ext (.t 1) 1, none, false⟩, ⟨.mv (.t 1), none, false⟩, ⟨.mv (.t 1), none, false⟩], [(6, 1), (7, 0)], [1, 2, 3, 5], none⟩
abbrev r_ref06_From_10 : Reg := ⟨[⟨.mv (.v 6), none, false⟩, ⟨.mv (.v 7), none, false⟩, ⟨.mv (.t 1), none, false⟩, ⟨.mv (.t 1), none, false⟩, ⟨.mv (.c (.int (0))), none, false⟩], [(8, 2), (9, 1), (10, 0)], [6, 7], none⟩
abbrev ir_ref06_From : Fn := { np := 3, nv := 11, res := [(8, none), (9, none), (10, none)], body :=
(.seq (.reg r_ref06_From_0)
 (.seq (.seq (.reg r_ref06_From_1)
 (.seq (.reg r_ref06_From_2)
 (.cond 16 (.seq (.reg r_ref06_From_3)
 .ret) .skip)))
 (.seq (.seq (.reg r_ref06_From_4)
 (.cond 26 (.seq (.reg r_ref06_From_5)
 .ret) .skip))
 (.seq (.seq (.reg r_ref06_From_6)
 (.seq (.reg r_ref06_From_7)
 (.cond 32 (.seq (.reg r_ref06_From_8)
 .ret) .skip)))
 (.seq (.reg r_ref06_From_9)
 (.seq (.reg r_ref06_From_10)
 .ret)))))) }
/- f77 slices_Concat_Sint_int : 0:slices 1:_ 2:_ 3:_ 4:size 5:s 6:_ 7:_ 8:_ 9:newslice 10:s 11:_ -/
abbrev r_slices_Concat_Sint_int_0 : Reg := ⟨[⟨.mv (.c (.snil)), none, false⟩], [], [11], none⟩
abbrev r_slices_Concat_Sint_int_1 : Reg := ⟨[⟨.mv (.c (.int (0))), none, false⟩], [(4, 0)], [], none⟩
abbrev r_slices_Concat_Sint_int_2 : Reg := ⟨[⟨.mv (.v 0), none, false⟩, ⟨.len (.t 0), none, false⟩, ⟨.mv (.c (.int (0))), none, false⟩], [(3, 2), (2, 1), (1, 0)], [], none⟩
abbrev r_slices_Concat_Sint_int_3 : Reg := ⟨[⟨.bin .lss (.v 1) (.v 2), none, false⟩], [], [], some (12, 0)⟩
abbrev r_slices_Concat_Sint_int_4 : Reg := ⟨[⟨.iad (.v 3) (.v 1) 1, none, false⟩, ⟨.ld (.t 0) none, none, false⟩, ⟨.mv (.t 0), none, false⟩], [(5, 0)], [], none⟩
abbrev r_slices_Concat_Sint_int_5 : Reg := ⟨[⟨.mv (.v 4), none, false⟩, ⟨.mv (.v 5), none, false⟩, ⟨.len (.t 0), none, false⟩, ⟨.bin .add (.t 2) (.t 0), none, false⟩, ⟨.mv (.t 0), none, false⟩], [(4, 0)], [5], none⟩
abbrev r_slices_Concat_Sint_int_6 : Reg := ⟨[⟨.mv (.v 4), none, false⟩, ⟨.bin .lss (.t 0) (.c (.int (0))), none, false⟩], [], [], some (20, 0)⟩
abbrev r_slices_Concat_Sint_int_8 : Reg := ⟨[⟨.bin .add (.v 1) (.c (.int (1))), none, false⟩, ⟨.mv (.t 0), none, false⟩], [(1, 0)], [], none⟩
abbrev b_slices_Concat_Sint_int_0 : IC := (.seq (.reg r_slices_Concat_Sint_int_3)
 (.seq (.cond 12 .skip (.exit 0))
 (.seq (.block 1 (.seq (.reg r_slices_Concat_Sint_int_4)
 (.seq (.reg r_slices_Concat_Sint_int_5)
 (.seq (.reg r_slices_Concat_Sint_int_6)
 (.cond 20 .bad .skip)))))
 (.reg r_slices_Concat_Sint_int_8))))
abbrev r_slices_Concat_Sint_int_9 : Reg := ⟨[⟨.mv (.v 4), none, false⟩, ⟨.can F_slices_Grow_Sint_int [(.c (.snil)), (.t 0)], none, false⟩, ⟨.mv (.t 0), none, false⟩], [(9, 0)], [1, 2, 3, 4], none⟩
abbrev r_slices_Concat_Sint_int_10 : Reg := ⟨[⟨.mv (.v 0), none, false⟩, ⟨.len (.t 0), none, false⟩, ⟨.mv (.c (.int (0))), none, false⟩], [(8, 2), (7, 1), (6, 0)], [0], none⟩
abbrev r_slices_Concat_Sint_int_11 : Reg := ⟨[⟨.bin .lss (.v 6) (.v 7), none, false⟩], [], [], some (28, 0)⟩
abbrev r_slices_Concat_Sint_int_12 : Reg := ⟨[⟨.iad (.v 8) (.v 6) 1, none, false⟩, ⟨.ld (.t 0) none, none, false⟩, ⟨.mv (.t 0), none, false⟩], [(10, 0)], [], none⟩
abbrev r_slices_Concat_Sint_int_13 : Reg := ⟨[⟨.mv (.v 9), none, false⟩, ⟨.mv (.v 10), none, false⟩, ⟨.appw (.t 1) (.t 0) none, none, false⟩, ⟨.mv (.t 0), none, false⟩], [(9, 0)], [10], none⟩
abbrev r_slices_Concat_Sint_int_14 : Reg := ⟨[⟨.bin .add (.v 6) (.c (.int (1))), none, false⟩, ⟨.mv (.t 0), none, false⟩], [(6, 0)], [], none⟩
abbrev b_slices_Concat_Sint_int_2 : IC := (.seq (.reg r_slices_Concat_Sint_int_11)
 (.seq (.cond 28 .skip (.exit 2))
 (.seq (.block 3 (.seq (.reg r_slices_Concat_Sint_int_12)
 (.reg r_slices_Concat_Sint_int_13)))
 (.reg r_slices_Concat_Sint_int_14))))
abbrev r_slices_Concat_Sint_int_15 : Reg := ⟨[⟨.mv (.v 9), none, false⟩, ⟨.mv (.t 0), none, false⟩], [(11, 0)], [6, 7, 8, 9], none⟩
abbrev ir_slices_Concat_Sint_int : Fn := { np := 1, nv := 12, res := [(11, none)], body :=
(.seq (.reg r_slices_Concat_Sint_int_0)
 (.seq (.reg r_slices_Concat_Sint_int_1)
 (.seq (.seq (.reg r_slices_Concat_Sint_int_2)
 (.block 0 (.loop b_slices_Concat_Sint_int_0)))
 (.seq (.reg r_slices_Concat_Sint_int_9)
 (.seq (.seq (.reg r_slices_Concat_Sint_int_10)
 (.block 2 (.loop b_slices_Concat_Sint_int_2)))
 (.seq (.reg r_slices_Concat_Sint_int_15)
 .ret)))))) }
/- f84 mealy_state : 0:m 1:s 2:m 3:e 4:_ -/
abbrev r_mealy_state_0 : Reg := ⟨[⟨.bxi (.v 0), none, false⟩, ⟨.mv (.c (.int (0))), none, false⟩], [(2, 1)], [0, 4], none⟩
abbrev r_mealy_state_1 : Reg := ⟨[⟨.ldi (.v 2) (some 4), none, false⟩, ⟨.cal F_mealy_Valid [(.t 0)], none, false⟩, ⟨.mv (.t 0), none, false⟩], [(3, 0)], [], none⟩
abbrev r_mealy_state_2 : Reg := ⟨[⟨.mv (.v 3), none, false⟩, ⟨.bin .neq (.t 0) (.c (.int (0))), none, false⟩], [], [], some (9, 0)⟩
abbrev r_mealy_state_3 : Reg := ⟨[⟨.mv (.v 3), none, false⟩, ⟨.mv (.t 0), none, false⟩], [(4, 0)], [1, 2, 3], none⟩
abbrev r_mealy_state_4 : Reg := ⟨[⟨.mv (.v 1), none, false⟩, ⟨.bin .lss (.t 0) (.c (.int (0))), none, false⟩, ⟨.mv (.t 0), none, false⟩, ⟨.mv (.v 1), some (.t 0, false), false⟩, ⟨.fad (.v 2) 2 none, some (.t 1, false), false⟩, ⟨.ldi (.t 0) none, some (.t 2, false), false⟩, ⟨.len (.t 0), some (.t 3, false), false⟩, ⟨.bin .geq (.t 3) (.t 0), some (.t 4, false), false⟩, ⟨.pick (.t 5) (.c (.bool true)) (.t 0), none, false⟩], [], [1, 2, 3], some (19, 0)⟩
abbrev r_mealy_state_5 : Reg := ⟨[⟨.mv (.c (.int (2))), none, false⟩], [(4, 0)], [], none⟩
abbrev r_mealy_state_6 : Reg := ⟨[⟨.mv (.c (.int (0))), none, false⟩], [(4, 0)], [], none⟩
abbrev ir_mealy_state : Fn := { np := 2, nv := 5, res := [(4, none)], body :=
(.seq (.reg r_mealy_state_0)
 (.seq (.seq (.reg r_mealy_state_1)
 (.seq (.reg r_mealy_state_2)
 (.cond 9 (.seq (.reg r_mealy_state_3)
 .ret) .skip)))
 (.seq (.seq (.reg r_mealy_state_4)
 (.cond 19 (.seq (.reg r_mealy_state_5)
 .ret) .skip))
 (.seq (.reg r_mealy_state_6)
 .ret)))) }
/- f85 mealy_runner_run : 0:r 1:w 2:_ 3:_ 4:_ 5:a 6:next 7:out 8:o 9:_ -/
abbrev r_mealy_runner_run_0 : Reg := ⟨[⟨.mv (.c (.snil)), none, false⟩], [], [9], none⟩
abbrev r_mealy_runner_run_1 : Reg := ⟨[⟨.nl none, none, false⟩], [(7, 0)], [], none⟩
abbrev r_mealy_runner_run_2 : Reg := ⟨[⟨.mv (.v 1), none, false⟩, ⟨.len (.t 0), none, false⟩, ⟨.mv (.c (.int (0))), none, false⟩], [(4, 2), (3, 1), (2, 0)], [1], none⟩
abbrev r_mealy_runner_run_3 : Reg := ⟨[⟨.bin .lss (.v 2) (.v 3), none, false⟩], [], [], some (13, 0)⟩
abbrev r_mealy_runner_run_4 : Reg := ⟨[⟨.iad (.v 4) (.v 2) 1, none, false⟩, ⟨.ld (.t 0) none, none, false⟩, ⟨.mv (.t 0), none, false⟩], [(5, 0)], [], none⟩
abbrev r_mealy_runner_run_5 : Reg := ⟨[⟨.mv (.v 0), none, false⟩, ⟨.nck (.t 0), none, false⟩, ⟨.fad (.t 0) 0 (some 4), none, false⟩, ⟨.ld (.t 0) (some 4), none, false⟩, ⟨.mv (.v 0), none, false⟩, ⟨.nck (.t 0), none, false⟩, ⟨.fad (.t 0) 4 none, none, false⟩, ⟨.ld (.t 0) none, none, false⟩, ⟨.mv (.v 5), none, false⟩, ⟨.cal F_mealy_machine_move [(.t 5), (.t 1), (.t 0)], none, false⟩, ⟨.mv (.t 0), none, false⟩, ⟨.ext (.t 0) 0, none, false⟩, ⟨.ext (.t 1) 1, none, false⟩, ⟨.mv (.t 1), none, false⟩, ⟨.mv (.t 1), none, false⟩], [(6, 1), (8, 0)], [5], none⟩
abbrev r_mealy_runner_run_6 : Reg := ⟨[⟨.mv (.v 0), none, false⟩, ⟨.mv (.v 6), none, false⟩, ⟨.nck (.t 1), none, false⟩, ⟨.fad (.t 0) 4 none, none, false⟩, ⟨.st (.t 0) (.t 2) 1, none, false⟩], [], [6], none⟩
abbrev r_mealy_runner_run_7 : Reg := ⟨[⟨.mv (.v 7), none, false⟩, ⟨.mv (.v 8), none, false⟩, ⟨.lita [(.t 0)] 1, none, false⟩, ⟨.appw (.t 2) (.t 0) none, none, false⟩, ⟨.mv (.t 0), none, false⟩], [(7, 0)], [8], none⟩
abbrev r_mealy_runner_run_8 : Reg := ⟨[⟨.bin .add (.v 2) (.c (.int (1))), none, false⟩, ⟨.mv (.t 0), none, false⟩], [(2, 0)], [], none⟩
abbrev b_mealy_runner_run_0 : IC := (.seq (.reg r_mealy_runner_run_3)
 (.seq (.cond 13 .skip (.exit 0))
 (.seq (.block 1 (.seq (.reg r_mealy_runner_run_4)
 (.seq (.reg r_mealy_runner_run_5)
 (.seq (.reg r_mealy_runner_run_6)
 (.reg r_mealy_runner_run_7)))))
 (.reg r_mealy_runner_run_8))))
abbrev r_mealy_runner_run_9 : Reg := ⟨[⟨.mv (.v 7), none, false⟩, ⟨.mv (.t 0), none, false⟩], [(9, 0)], [0, 2, 3, 4, 7], none⟩
abbrev ir_mealy_runner_run : Fn := { np := 2, nv := 10, res := [(9, none)], body :=
(.seq (.reg r_mealy_runner_run_0)
 (.seq (.reg r_mealy_runner_run_1)
 (.seq (.seq (.reg r_mealy_runner_run_2)
 (.block 0 (.loop b_mealy_runner_run_0)))
 (.seq (.reg r_mealy_runner_run_9)
 .ret)))) }
/- f86 ref09_Extended : 0:w 1:a 2:out 3:_ -/
abbrev r_ref09_Extended_0 : Reg := ⟨[⟨.mv (.c (.snil)), none, false⟩], [], [3], none⟩
abbrev r_ref09_Extended_1 : Reg := ⟨[⟨.nl none, none, false⟩], [(2, 0)], [], none⟩
abbrev r_ref09_Extended_2 : Reg := ⟨[⟨.mv (.v 2), none, false⟩, ⟨.mv (.v 0), none, false⟩, ⟨.appw (.t 1) (.t 0) none, none, false⟩, ⟨.mv (.t 0), none, false⟩], [(2, 0)], [0], none⟩
abbrev r_ref09_Extended_3 : Reg := ⟨[⟨.mv (.v 2), none, false⟩, ⟨.mv (.v 1), none, false⟩, ⟨.lita [(.t 0)] 1, none, false⟩, ⟨.appw (.t 2) (.t 0) none, none, false⟩, ⟨.mv (.t 0), none, false⟩], [(2, 0)], [1], none⟩
abbrev r_ref09_Extended_4 : Reg := ⟨[⟨.mv (.v 2), none, false⟩, ⟨.mv (.t 0), none, false⟩], [(3, 0)], [2], none⟩
abbrev ir_ref09_Extended : Fn := { np := 2, nv := 4, res := [(3, none)], body :=
(.seq (.reg r_ref09_Extended_0)
 (.seq (.reg r_ref09_Extended_1)
 (.seq (.reg r_ref09_Extended_2)
 (.seq (.reg r_ref09_Extended_3)
 (.seq (.reg r_ref09_Extended_4)
 .ret))))) }
/- f87 ref06_Outs : 0:m 1:s 2:w 3:i 4:out 5:m 6:_ 7:_ -/
abbrev r_ref06_Outs_0 : Reg := ⟨[⟨.bxi (.v 0), none, false⟩, ⟨.mv (.c (.snil)), none, false⟩, ⟨.mv (.c (.int (0))), none, false⟩], [(5, 2)], [0, 6, 7], none⟩
abbrev r_ref06_Outs_1 : Reg := ⟨[⟨.nl none, none, false⟩], [(4, 0)], [], none⟩
abbrev r_ref06_Outs_2 : Reg := ⟨[⟨.mv (.c (.int (0))), none, false⟩], [(3, 0)], [], none⟩
abbrev r_ref06_Outs_3 : Reg := ⟨[⟨.mv (.v 3), none, false⟩, ⟨.mv (.v 2), none, false⟩, ⟨.len (.t 0), none, false⟩, ⟨.bin .lss (.t 2) (.t 0), none, false⟩], [], [], some (13, 0)⟩
abbrev r_ref06_Outs_5 : Reg := ⟨[⟨.mv (.v 4), none, false⟩, ⟨.fad (.v 5) 3 none, none, false⟩, ⟨.ldi (.t 0) none, none, false⟩, ⟨.mv (.v 1), none, false⟩, ⟨.iad (.t 1) (.t 0) 1, none, false⟩, ⟨.ldi (.t 0) none, none, false⟩, ⟨.mv (.v 2), none, false⟩, ⟨.mv (.v 3), none, false⟩, ⟨.iad (.t 1) (.t 0) 1, none, false⟩, ⟨.ld (.t 0) none, none, false⟩, ⟨.iad (.t 4) (.t 0) 1, none, false⟩, ⟨.ldi (.t 0) none, none, false⟩, ⟨.lita [(.t 0)] 1, none, false⟩, ⟨.app (.t 12) (.t 0) none, none, false⟩, ⟨.mv (.t 0), none, false⟩], [(4, 0)], [], none⟩
abbrev r_ref06_Outs_6 : Reg := ⟨[⟨.fad (.v 5) 2 none, none, false⟩, ⟨.ldi (.t 0) none, none, false⟩, ⟨.mv (.v 1), none, false⟩, ⟨.iad (.t 1) (.t 0) 1, none, false⟩, ⟨.ldi (.t 0) none, none, false⟩, ⟨.mv (.v 2), none, false⟩, ⟨.mv (.v 3), none, false⟩, ⟨.iad (.t 1) (.t 0) 1, none, false⟩, ⟨.ld (.t 0) none, none, false⟩, ⟨.iad (.t 4) (.t 0) 1, none, false⟩, ⟨.ldi (.t 0) none, none, false⟩, ⟨.mv (.t 0), none, false⟩], [(1, 0)], [], none⟩
abbrev r_ref06_Outs_4 : Reg := ⟨[⟨.mv (.v 3), none, false⟩, ⟨.bin .add (.t 0) (.c (.int (1))), none, false⟩, ⟨.mv (.t 0), none, false⟩], [(3, 0)], [], none⟩
abbrev b_ref06_Outs_0 : IC := (.seq (.seq (.reg r_ref06_Outs_3)
 (.cond 13 .skip (.exit 0)))
 (.seq (.block 1 (.seq (.reg r_ref06_Outs_5)
 (.reg r_ref06_Outs_6)))
 (.reg r_ref06_Outs_4)))
abbrev r_ref06_Outs_7 : Reg := ⟨[⟨.mv (.v 4), none, false⟩, ⟨.mv (.v 1), none, false⟩, ⟨.mv (.t 1), none, false⟩, ⟨.mv (.t 1), none, false⟩], [(6, 1), (7, 0)], [1, 2, 3, 4, 5], none⟩
abbrev ir_ref06_Outs : Fn := { np := 3, nv := 8, res := [(6, none), (7, none)], body :=
(.seq (.reg r_ref06_Outs_0)
 (.seq (.reg r_ref06_Outs_1)
 (.seq (.seq (.reg r_ref06_Outs_2)
 (.block 0 (.loop b_ref06_Outs_0)))
 (.seq (.reg r_ref06_Outs_7)
 .ret)))) }
/- f90 mealy_machine_move : 0:m 1:s 2:a 3:m 4:_ 5:_ -/
abbrev r_mealy_machine_move_0 : Reg := ⟨[⟨.bxi (.v 0), none, false⟩, ⟨.mv (.c (.int (0))), none, false⟩, ⟨.mv (.c (.int (0))), none, false⟩], [(3, 2)], [0, 4, 5], none⟩
abbrev r_mealy_machine_move_1 : Reg := ⟨[⟨.fad (.v 3) 0 (some 4), none, false⟩, ⟨.fad (.t 0) 2 none, none, false⟩, ⟨.ldi (.t 0) none, none, false⟩, ⟨.mv (.v 1), none, false⟩, ⟨.iad (.t 1) (.t 0) 1, none, false⟩, ⟨.ldi (.t 0) none, none, false⟩, ⟨.mv (.v 2), none, false⟩, ⟨.iad (.t 1) (.t 0) 1, none, false⟩, ⟨.ldi (.t 0) none, none, false⟩, ⟨.fad (.v 3) 0 (some 4), none, false⟩, ⟨.fad (.t 0) 3 none, none, false⟩, ⟨.ldi (.t 0) none, none, false⟩, ⟨.mv (.v 1), none, false⟩, ⟨.iad (.t 1) (.t 0) 1, none, false⟩, ⟨.ldi (.t 0) none, none, false⟩, ⟨.mv (.v 2), none, false⟩, ⟨.iad (.t 1) (.t 0) 1, none, false⟩, ⟨.ldi (.t 0) none, none, false⟩, ⟨.mv (.t 9), none, false⟩, ⟨.mv (.t 1), none, false⟩], [(4, 1), (5, 0)], [1, 2, 3], none⟩
abbrev ir_mealy_machine_move : Fn := { np := 3, nv := 6, res := [(4, none), (5, none)], body :=
(.seq (.reg r_mealy_machine_move_0)
 (.seq (.reg r_mealy_machine_move_1)
 .ret)) }
end Ab
