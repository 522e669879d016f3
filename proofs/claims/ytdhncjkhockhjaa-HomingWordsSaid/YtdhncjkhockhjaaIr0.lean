/- The functions of the program as small texts, printed by a tool of mine. Condition: none. -/
import Derived.Test.YtdhncjkhockhjaaAbBase
set_option linter.all false
namespace Ab
abbrev T_string : Nat := 9
def F_law13_HomingWords : Nat := 3
def F_law13_HomingTraces : Nat := 4
def F_law13_HomingKnown : Nat := 5
def F_law13_HomingSteps : Nat := 6
def F_law13_HomingResolves : Nat := 7
def F_law11_Small : Nat := 8
def F_law13_exampleHolds : Nat := 9
def F_homing_Word : Nat := 10
def F_ref13_Word : Nat := 11
def F_ref08_Equal : Nat := 12
def F_homing_Resolves : Nat := 13
def F_ref13_Resolves : Nat := 14
def F_homing_Possible : Nat := 15
def F_ref13_Possible : Nat := 16
def F_homing_Final : Nat := 17
def F_ref13_Final : Nat := 18
def F_ref11_Check : Nat := 19
def F_mealy_From : Nat := 20
def F_ref06_Valid : Nat := 21
def F_mealy_Run : Nat := 22
def F_law08_Great : Nat := 23
def F_mealy_Valid : Nat := 24
def F_minimize_Minimal : Nat := 25
def F_homing_groups : Nat := 26
def F_homing_open : Nat := 27
def F_equiv_States : Nat := 28
def F_word_Join : Nat := 29
def F_ref13_open : Nat := 30
def F_ref09_States : Nat := 31
def F_homing_check : Nat := 32
def F_ref13_check : Nat := 33
def F_slices_Equal_Sint_int : Nat := 34
def F_ref13_current : Nat := 35
def F_ref08_Minimal : Nat := 36
def F_mealy_state : Nat := 37
def F_word_Check : Nat := 38
def F_mealy_runner_run : Nat := 39
def F_ref06_row : Nat := 40
def F_mealy_Reach : Nat := 41
def F_minimize_Min : Nat := 42
def F_slices_IndexFunc_Shoming_group_homing_group : Nat := 43
def F_homing_groups_1 : Nat := 44
def F_homing_put : Nat := 45
def F_slices_SortFunc_Shoming_group_homing_group : Nat := 46
def F_homing_groups_2 : Nat := 47
def F_word_Lex : Nat := 48
def F_homing_open_1 : Nat := 49
def F_equiv_search : Nat := 50
def F_slices_Concat_Sint_int : Nat := 51
def F_ref13_run : Nat := 52
def F_ref01_Lex : Nat := 53
def F_ref09_first : Nat := 54
def F_ref01_Check : Nat := 55
def F_ref06_Ints : Nat := 56
def F_ref08_Min : Nat := 57
def F_word_permitted : Nat := 58
def F_slices_ContainsFunc_Sint_int : Nat := 59
def F_word_Check_1 : Nat := 60
def F_mealy_machine_move : Nat := 61
def F_mealy_Trim : Nat := 62
def F_minimize_Classes : Nat := 63
def F_slices_BinarySearch_Sint_int : Nat := 64
def F_slices_pdqsortCmpFunc_homing_group : Nat := 65
def F_math_bits_Len : Nat := 66
def F_slices_Compare_Sint_int : Nat := 67
def F_slices_Grow_Sint_int : Nat := 68
def F_ref01_Common : Nat := 69
def F_ref09_Extended : Nat := 70
def F_ref01_Size : Nat := 71
def F_ref08_Classes : Nat := 72
def F_slices_IndexFunc_Sint_int : Nat := 73
def F_slices_Clone_Sint_int : Nat := 74
def F_minimize_Partition : Nat := 75
def F_cmp_Less_int : Nat := 76
def F_slices_isNaN_int : Nat := 77
def F_slices_insertionSortCmpFunc_homing_group : Nat := 78
def F_slices_heapSortCmpFunc_homing_group : Nat := 79
def F_slices_breakPatternsCmpFunc_homing_group : Nat := 80
def F_slices_choosePivotCmpFunc_homing_group : Nat := 81
def F_slices_reverseRangeCmpFunc_homing_group : Nat := 82
def F_slices_partialInsertionSortCmpFunc_homing_group : Nat := 83
def F_slices_partitionEqualCmpFunc_homing_group : Nat := 84
def F_slices_partitionCmpFunc_homing_group : Nat := 85
def F_math_bits_Len32 : Nat := 86
def F_math_bits_Len64 : Nat := 87
def F_cmp_Compare_int : Nat := 88
def F_ref08_Partition : Nat := 89
def F_minimize_refine : Nat := 90
def F_cmp_isNaN_int : Nat := 91
def F_slices_siftDownCmpFunc_homing_group : Nat := 92
def F_slices_nextPowerOfTwo : Nat := 93
def F_slices_xorshift_Next : Nat := 94
def F_slices_medianAdjacentCmpFunc_homing_group : Nat := 95
def F_slices_medianCmpFunc_homing_group : Nat := 96
def F_ref08_finer : Nat := 97
def F_minimize_next : Nat := 98
def F_slices_order2CmpFunc_homing_group : Nat := 99
/- f3 law13_HomingWords : 0:m 1:m 2:a 3:b 4:e 5:f 6:_ -/
abbrev r_law13_HomingWords_0 : Reg := ⟨[⟨.bxi (.v 0), none, false⟩, ⟨.mv (.c (.bool false)), none, false⟩], [(1, 1)], [0, 6], none⟩
abbrev r_law13_HomingWords_1 : Reg := ⟨[⟨.ldi (.v 1) (some 4), none, false⟩, ⟨.cal F_law11_Small [(.t 0)], none, false⟩, ⟨.not (.t 0), none, false⟩], [], [], some (9, 0)⟩
abbrev r_law13_HomingWords_2 : Reg := ⟨[⟨.cal F_law13_exampleHolds [], none, false⟩, ⟨.mv (.t 0), none, false⟩], [(6, 0)], [1], none⟩
abbrev r_law13_HomingWords_3 : Reg := ⟨[⟨.ldi (.v 1) (some 4), none, false⟩, ⟨.cal F_homing_Word [(.t 0)], none, false⟩, ⟨.mv (.t 0), none, false⟩, ⟨.ext (.t 0) 0, none, false⟩, ⟨.ext (.t 1) 1, none, false⟩, ⟨.mv (.t 1), none, false⟩, ⟨.mv (.t 1), none, false⟩], [(2, 1), (4, 0)], [], none⟩
abbrev r_law13_HomingWords_4 : Reg := ⟨[⟨.ldi (.v 1) (some 4), none, false⟩, ⟨.cal F_ref13_Word [(.t 0)], none, false⟩, ⟨.mv (.t 0), none, false⟩, ⟨.ext (.t 0) 0, none, false⟩, ⟨.ext (.t 1) 1, none, false⟩, ⟨.mv (.t 1), none, false⟩, ⟨.mv (.t 1), none, false⟩], [(3, 1), (5, 0)], [1], none⟩
abbrev r_law13_HomingWords_5 : Reg := ⟨[⟨.mv (.v 2), none, false⟩, ⟨.mv (.v 3), none, false⟩, ⟨.cal F_ref08_Equal [(.t 1), (.t 0)], none, false⟩, ⟨.mv (.t 0), none, false⟩, ⟨.mv (.v 4), some (.t 0, true), false⟩, ⟨.mv (.v 5), some (.t 1, true), false⟩, ⟨.bin .eql (.t 1) (.t 0), some (.t 2, true), false⟩, ⟨.pick (.t 3) (.t 0) (.c (.bool false)), none, false⟩, ⟨.mv (.t 0), none, false⟩, ⟨.cal F_law13_exampleHolds [], some (.t 0, true), false⟩, ⟨.pick (.t 1) (.t 0) (.c (.bool false)), none, false⟩, ⟨.mv (.t 0), none, false⟩], [(6, 0)], [2, 3, 4, 5], none⟩
abbrev ir_law13_HomingWords : Fn := { np := 1, nv := 7, res := [(6, none)], body :=
(.seq (.reg r_law13_HomingWords_0)
 (.seq (.seq (.reg r_law13_HomingWords_1)
 (.cond 9 (.seq (.reg r_law13_HomingWords_2)
 .ret) .skip))
 (.seq (.reg r_law13_HomingWords_3)
 (.seq (.reg r_law13_HomingWords_4)
 (.seq (.reg r_law13_HomingWords_5)
 .ret))))) }
/- f4 law13_HomingTraces : 0:m 1:w 2:outs 3:m 4:a 5:b 6:e 7:f 8:c 9:d 10:g 11:h 12:s 13:t 14:ok 15:is 16:i 17:j 18:_ -/
abbrev r_law13_HomingTraces_0 : Reg := ⟨[⟨.bxi (.v 0), none, false⟩, ⟨.mv (.c (.bool false)), none, false⟩], [(3, 1)], [0, 18], none⟩
abbrev r_law13_HomingTraces_1 : Reg := ⟨[⟨.ldi (.v 3) (some 4), none, false⟩, ⟨.cal F_law11_Small [(.t 0)], none, false⟩, ⟨.not (.t 0), none, false⟩, ⟨.mv (.t 0), none, false⟩, ⟨.mv (.v 1), some (.t 0, false), false⟩, ⟨.len (.t 0), some (.t 1, false), false⟩, ⟨.bin .gtr (.t 0) (.c (.int (60))), some (.t 2, false), false⟩, ⟨.pick (.t 3) (.c (.bool true)) (.t 0), none, false⟩, ⟨.mv (.t 0), none, false⟩, ⟨.mv (.v 2), some (.t 0, false), false⟩, ⟨.len (.t 0), some (.t 1, false), false⟩, ⟨.bin .gtr (.t 0) (.c (.int (60))), some (.t 2, false), false⟩, ⟨.pick (.t 3) (.c (.bool true)) (.t 0), none, false⟩], [], [], some (33, 0)⟩
abbrev r_law13_HomingTraces_2 : Reg := ⟨[⟨.cal F_law13_exampleHolds [], none, false⟩, ⟨.mv (.t 0), none, false⟩], [(18, 0)], [1, 2, 3], none⟩
abbrev r_law13_HomingTraces_3 : Reg := ⟨[⟨.ldi (.v 3) (some 4), none, false⟩, ⟨.mv (.v 1), none, false⟩, ⟨.cal F_homing_Resolves [(.t 1), (.t 0)], none, false⟩, ⟨.mv (.t 0), none, false⟩, ⟨.ext (.t 0) 0, none, false⟩, ⟨.ext (.t 1) 1, none, false⟩, ⟨.mv (.t 1), none, false⟩, ⟨.mv (.t 1), none, false⟩], [(4, 1), (6, 0)], [], none⟩
abbrev r_law13_HomingTraces_4 : Reg := ⟨[⟨.ldi (.v 3) (some 4), none, false⟩, ⟨.mv (.v 1), none, false⟩, ⟨.cal F_ref13_Resolves [(.t 1), (.t 0)], none, false⟩, ⟨.mv (.t 0), none, false⟩, ⟨.ext (.t 0) 0, none, false⟩, ⟨.ext (.t 1) 1, none, false⟩, ⟨.mv (.t 1), none, false⟩, ⟨.mv (.t 1), none, false⟩], [(5, 1), (7, 0)], [], none⟩
abbrev r_law13_HomingTraces_5 : Reg := ⟨[⟨.ldi (.v 3) (some 4), none, false⟩, ⟨.mv (.v 1), none, false⟩, ⟨.mv (.v 2), none, false⟩, ⟨.cal F_homing_Possible [(.t 2), (.t 1), (.t 0)], none, false⟩, ⟨.mv (.t 0), none, false⟩, ⟨.ext (.t 0) 0, none, false⟩, ⟨.ext (.t 1) 1, none, false⟩, ⟨.mv (.t 1), none, false⟩, ⟨.mv (.t 1), none, false⟩], [(8, 1), (10, 0)], [], none⟩
abbrev r_law13_HomingTraces_6 : Reg := ⟨[⟨.ldi (.v 3) (some 4), none, false⟩, ⟨.mv (.v 1), none, false⟩, ⟨.mv (.v 2), none, false⟩, ⟨.cal F_ref13_Possible [(.t 2), (.t 1), (.t 0)], none, false⟩, ⟨.mv (.t 0), none, false⟩, ⟨.ext (.t 0) 0, none, false⟩, ⟨.ext (.t 1) 1, none, false⟩, ⟨.mv (.t 1), none, false⟩, ⟨.mv (.t 1), none, false⟩], [(9, 1), (11, 0)], [], none⟩
abbrev r_law13_HomingTraces_7 : Reg := ⟨[⟨.ldi (.v 3) (some 4), none, false⟩, ⟨.mv (.v 1), none, false⟩, ⟨.mv (.v 2), none, false⟩, ⟨.cal F_homing_Final [(.t 2), (.t 1), (.t 0)], none, false⟩, ⟨.mv (.t 0), none, false⟩, ⟨.ext (.t 0) 0, none, false⟩, ⟨.ext (.t 1) 1, none, false⟩, ⟨.ext (.t 2) 2, none, false⟩, ⟨.mv (.t 2), none, false⟩, ⟨.mv (.t 2), none, false⟩, ⟨.mv (.t 2), none, false⟩], [(12, 2), (14, 1), (16, 0)], [], none⟩
abbrev r_law13_HomingTraces_8 : Reg := ⟨[⟨.ldi (.v 3) (some 4), none, false⟩, ⟨.mv (.v 1), none, false⟩, ⟨.mv (.v 2), none, false⟩, ⟨.cal F_ref13_Final [(.t 2), (.t 1), (.t 0)], none, false⟩, ⟨.mv (.t 0), none, false⟩, ⟨.ext (.t 0) 0, none, false⟩, ⟨.ext (.t 1) 1, none, false⟩, ⟨.ext (.t 2) 2, none, false⟩, ⟨.mv (.t 2), none, false⟩, ⟨.mv (.t 2), none, false⟩, ⟨.mv (.t 2), none, false⟩], [(13, 2), (15, 1), (17, 0)], [1, 2, 3], none⟩
abbrev r_law13_HomingTraces_9 : Reg := ⟨[⟨.mv (.v 4), none, false⟩, ⟨.mv (.v 5), none, false⟩, ⟨.beq false (.t 1) (.t 0), none, false⟩, ⟨.mv (.t 0), none, false⟩, ⟨.mv (.v 6), some (.t 0, true), false⟩, ⟨.mv (.v 7), some (.t 1, true), false⟩, ⟨.bin .eql (.t 1) (.t 0), some (.t 2, true), false⟩, ⟨.pick (.t 3) (.t 0) (.c (.bool false)), none, false⟩, ⟨.mv (.t 0), none, false⟩, ⟨.mv (.v 8), some (.t 0, true), false⟩, ⟨.mv (.v 9), some (.t 1, true), false⟩, ⟨.cal F_ref08_Equal [(.t 1), (.t 0)], some (.t 2, true), false⟩, ⟨.pick (.t 3) (.t 0) (.c (.bool false)), none, false⟩, ⟨.mv (.t 0), none, false⟩, ⟨.mv (.v 10), some (.t 0, true), false⟩, ⟨.mv (.v 11), some (.t 1, true), false⟩, ⟨.bin .eql (.t 1) (.t 0), some (.t 2, true), false⟩, ⟨.pick (.t 3) (.t 0) (.c (.bool false)), none, false⟩, ⟨.mv (.t 0), none, false⟩, ⟨.mv (.v 12), some (.t 0, true), false⟩, ⟨.mv (.v 13), some (.t 1, true), false⟩, ⟨.bin .eql (.t 1) (.t 0), some (.t 2, true), false⟩, ⟨.pick (.t 3) (.t 0) (.c (.bool false)), none, false⟩, ⟨.mv (.t 0), none, false⟩, ⟨.mv (.v 14), some (.t 0, true), false⟩, ⟨.mv (.v 15), some (.t 1, true), false⟩, ⟨.beq false (.t 1) (.t 0), some (.t 2, true), false⟩, ⟨.pick (.t 3) (.t 0) (.c (.bool false)), none, false⟩, ⟨.mv (.t 0), none, false⟩, ⟨.mv (.v 16), some (.t 0, true), false⟩, ⟨.mv (.v 17), some (.t 1, true), false⟩, ⟨.bin .eql (.t 1) (.t 0), some (.t 2, true), false⟩, ⟨.pick (.t 3) (.t 0) (.c (.bool false)), none, false⟩, ⟨.mv (.t 0), none, false⟩, ⟨.cal F_law13_exampleHolds [], some (.t 0, true), false⟩, ⟨.pick (.t 1) (.t 0) (.c (.bool false)), none, false⟩, ⟨.mv (.t 0), none, false⟩], [(18, 0)], [4, 5, 6, 7, 8, 9, 10, 11, 12, 13, 14, 15, 16, 17], none⟩
abbrev ir_law13_HomingTraces : Fn := { np := 3, nv := 19, res := [(18, none)], body :=
(.seq (.reg r_law13_HomingTraces_0)
 (.seq (.seq (.reg r_law13_HomingTraces_1)
 (.cond 33 (.seq (.reg r_law13_HomingTraces_2)
 .ret) .skip))
 (.seq (.reg r_law13_HomingTraces_3)
 (.seq (.reg r_law13_HomingTraces_4)
 (.seq (.reg r_law13_HomingTraces_5)
 (.seq (.reg r_law13_HomingTraces_6)
 (.seq (.reg r_law13_HomingTraces_7)
 (.seq (.reg r_law13_HomingTraces_8)
 (.seq (.reg r_law13_HomingTraces_9)
 .ret))))))))) }
/- f5 law13_HomingKnown : 0:m 1:state 2:more 3:m 4:w 5:s 6:outs 7:e 8:f 9:g 10:h 11:ok 12:is 13:t 14:last 15:v 16:_ -/
abbrev r_law13_HomingKnown_0 : Reg := ⟨[⟨.bxi (.v 0), none, false⟩, ⟨.mv (.c (.bool false)), none, false⟩], [(3, 1)], [0, 16], none⟩
abbrev r_law13_HomingKnown_1 : Reg := ⟨[⟨.ldi (.v 3) (some 4), none, false⟩, ⟨.cal F_law11_Small [(.t 0)], none, false⟩, ⟨.not (.t 0), none, false⟩, ⟨.mv (.t 0), none, false⟩, ⟨.ldi (.v 3) (some 4), some (.t 0, false), false⟩, ⟨.cal F_ref11_Check [(.t 0)], some (.t 1, false), false⟩, ⟨.bin .neq (.t 0) (.c (.int (0))), some (.t 2, false), false⟩, ⟨.pick (.t 3) (.c (.bool true)) (.t 0), none, false⟩, ⟨.mv (.t 0), none, false⟩, ⟨.mv (.v 2), some (.t 0, false), false⟩, ⟨.len (.t 0), some (.t 1, false), false⟩, ⟨.bin .gtr (.t 0) (.c (.int (60))), some (.t 2, false), false⟩, ⟨.pick (.t 3) (.c (.bool true)) (.t 0), none, false⟩], [], [], some (31, 0)⟩
abbrev r_law13_HomingKnown_2 : Reg := ⟨[⟨.cal F_law13_exampleHolds [], none, false⟩, ⟨.mv (.t 0), none, false⟩], [(16, 0)], [1, 2, 3], none⟩
abbrev r_law13_HomingKnown_3 : Reg := ⟨[⟨.mv (.v 1), none, false⟩, ⟨.cvi (.t 0), none, false⟩, ⟨.fad (.v 3) 2 none, none, false⟩, ⟨.ldi (.t 0) none, none, false⟩, ⟨.len (.t 0), none, false⟩, ⟨.bin .rem (.t 3) (.t 0), none, false⟩, ⟨.mv (.t 0), none, false⟩], [(5, 0)], [1], none⟩
abbrev r_law13_HomingKnown_4 : Reg := ⟨[⟨.ldi (.v 3) (some 4), none, false⟩, ⟨.cal F_homing_Word [(.t 0)], none, false⟩, ⟨.mv (.t 0), none, false⟩, ⟨.ext (.t 0) 0, none, false⟩, ⟨.ext (.t 1) 1, none, false⟩, ⟨.mv (.t 1), none, false⟩, ⟨.mv (.t 1), none, false⟩], [(4, 1), (7, 0)], [], none⟩
abbrev r_law13_HomingKnown_5 : Reg := ⟨[⟨.ldi (.v 3) (some 4), none, false⟩, ⟨.mv (.v 4), none, false⟩, ⟨.cal F_homing_Resolves [(.t 1), (.t 0)], none, false⟩, ⟨.mv (.t 0), none, false⟩, ⟨.ext (.t 0) 0, none, false⟩, ⟨.ext (.t 1) 1, none, false⟩, ⟨.mv (.t 1), none, false⟩, ⟨.mv (.t 1), none, false⟩], [(11, 1), (8, 0)], [], none⟩
abbrev r_law13_HomingKnown_6 : Reg := ⟨[⟨.ldi (.v 3) (some 4), none, false⟩, ⟨.mv (.v 5), none, false⟩, ⟨.mv (.v 4), none, false⟩, ⟨.cal F_mealy_From [(.t 2), (.t 1), (.t 0)], none, false⟩, ⟨.mv (.t 0), none, false⟩, ⟨.ext (.t 0) 0, none, false⟩, ⟨.ext (.t 1) 1, none, false⟩, ⟨.ext (.t 2) 2, none, false⟩, ⟨.mv (.t 2), none, false⟩, ⟨.mv (.t 2), none, false⟩, ⟨.mv (.t 2), none, false⟩], [(6, 2), (14, 1), (9, 0)], [], none⟩
abbrev r_law13_HomingKnown_7 : Reg := ⟨[⟨.ldi (.v 3) (some 4), none, false⟩, ⟨.mv (.v 4), none, false⟩, ⟨.mv (.v 6), none, false⟩, ⟨.cal F_homing_Final [(.t 2), (.t 1), (.t 0)], none, false⟩, ⟨.mv (.t 0), none, false⟩, ⟨.ext (.t 0) 0, none, false⟩, ⟨.ext (.t 1) 1, none, false⟩, ⟨.ext (.t 2) 2, none, false⟩, ⟨.mv (.t 2), none, false⟩, ⟨.mv (.t 2), none, false⟩, ⟨.mv (.t 2), none, false⟩], [(13, 2), (12, 1), (10, 0)], [6], none⟩
abbrev r_law13_HomingKnown_8 : Reg := ⟨[⟨.mv (.v 7), none, false⟩, ⟨.bin .neq (.t 0) (.c (.int (0))), none, false⟩, ⟨.mv (.t 0), none, false⟩, ⟨.mv (.v 8), some (.t 0, false), false⟩, ⟨.bin .neq (.t 0) (.c (.int (0))), some (.t 1, false), false⟩, ⟨.pick (.t 2) (.c (.bool true)) (.t 0), none, false⟩, ⟨.mv (.t 0), none, false⟩, ⟨.mv (.v 9), some (.t 0, false), false⟩, ⟨.bin .neq (.t 0) (.c (.int (0))), some (.t 1, false), false⟩, ⟨.pick (.t 2) (.c (.bool true)) (.t 0), none, false⟩, ⟨.mv (.t 0), none, false⟩, ⟨.mv (.v 10), some (.t 0, false), false⟩, ⟨.bin .neq (.t 0) (.c (.int (0))), some (.t 1, false), false⟩, ⟨.pick (.t 2) (.c (.bool true)) (.t 0), none, false⟩, ⟨.mv (.t 0), none, false⟩, ⟨.mv (.v 11), some (.t 0, false), false⟩, ⟨.not (.t 0), some (.t 1, false), false⟩, ⟨.pick (.t 2) (.c (.bool true)) (.t 0), none, false⟩, ⟨.mv (.t 0), none, false⟩, ⟨.mv (.v 12), some (.t 0, false), false⟩, ⟨.not (.t 0), some (.t 1, false), false⟩, ⟨.pick (.t 2) (.c (.bool true)) (.t 0), none, false⟩, ⟨.mv (.t 0), none, false⟩, ⟨.mv (.v 13), some (.t 0, false), false⟩, ⟨.mv (.v 14), some (.t 1, false), false⟩, ⟨.bin .neq (.t 1) (.t 0), some (.t 2, false), false⟩, ⟨.pick (.t 3) (.c (.bool true)) (.t 0), none, false⟩], [], [7, 8, 9, 10, 11, 12, 13, 14], some (92, 0)⟩
abbrev r_law13_HomingKnown_9 : Reg := ⟨[⟨.mv (.c (.bool false)), none, false⟩], [(16, 0)], [2, 3, 4, 5], none⟩
abbrev r_law13_HomingKnown_10 : Reg := ⟨[⟨.litm [] none, none, false⟩, ⟨.mv (.v 4), none, false⟩, ⟨.appw (.t 1) (.t 0) none, none, false⟩, ⟨.mv (.v 2), none, false⟩, ⟨.appw (.t 1) (.t 0) none, none, false⟩, ⟨.mv (.t 0), none, false⟩], [(15, 0)], [2, 4], none⟩
abbrev r_law13_HomingKnown_11 : Reg := ⟨[⟨.ldi (.v 3) (some 4), none, false⟩, ⟨.mv (.v 5), none, false⟩, ⟨.mv (.v 15), none, false⟩, ⟨.cal F_mealy_From [(.t 2), (.t 1), (.t 0)], none, false⟩, ⟨.mv (.t 0), none, false⟩, ⟨.ext (.t 0) 0, none, false⟩, ⟨.ext (.t 1) 1, none, false⟩, ⟨.ext (.t 2) 2, none, false⟩, ⟨.mv (.t 2), none, false⟩, ⟨.mv (.t 2), none, false⟩, ⟨.mv (.t 2), none, false⟩], [(6, 2), (14, 1), (9, 0)], [5], none⟩
abbrev r_law13_HomingKnown_12 : Reg := ⟨[⟨.mv (.v 9), none, false⟩, ⟨.bin .neq (.t 0) (.c (.int (0))), none, false⟩], [], [9], some (107, 0)⟩
abbrev r_law13_HomingKnown_13 : Reg := ⟨[⟨.cal F_law13_exampleHolds [], none, false⟩, ⟨.mv (.t 0), none, false⟩], [(16, 0)], [3, 6, 14, 15], none⟩
abbrev r_law13_HomingKnown_14 : Reg := ⟨[⟨.ldi (.v 3) (some 4), none, false⟩, ⟨.mv (.v 15), none, false⟩, ⟨.cal F_homing_Resolves [(.t 1), (.t 0)], none, false⟩, ⟨.mv (.t 0), none, false⟩, ⟨.ext (.t 0) 0, none, false⟩, ⟨.ext (.t 1) 1, none, false⟩, ⟨.mv (.t 1), none, false⟩, ⟨.mv (.t 1), none, false⟩], [(11, 1), (8, 0)], [], none⟩
abbrev r_law13_HomingKnown_15 : Reg := ⟨[⟨.ldi (.v 3) (some 4), none, false⟩, ⟨.mv (.v 15), none, false⟩, ⟨.mv (.v 6), none, false⟩, ⟨.cal F_homing_Final [(.t 2), (.t 1), (.t 0)], none, false⟩, ⟨.mv (.t 0), none, false⟩, ⟨.ext (.t 0) 0, none, false⟩, ⟨.ext (.t 1) 1, none, false⟩, ⟨.ext (.t 2) 2, none, false⟩, ⟨.mv (.t 2), none, false⟩, ⟨.mv (.t 2), none, false⟩, ⟨.mv (.t 2), none, false⟩], [(13, 2), (12, 1), (10, 0)], [3, 6, 15], none⟩
abbrev r_law13_HomingKnown_16 : Reg := ⟨[⟨.mv (.v 11), none, false⟩, ⟨.mv (.t 0), none, false⟩, ⟨.mv (.v 8), some (.t 0, true), false⟩, ⟨.bin .eql (.t 0) (.c (.int (0))), some (.t 1, true), false⟩, ⟨.pick (.t 2) (.t 0) (.c (.bool false)), none, false⟩, ⟨.mv (.t 0), none, false⟩, ⟨.mv (.v 12), some (.t 0, true), false⟩, ⟨.pick (.t 1) (.t 0) (.c (.bool false)), none, false⟩, ⟨.mv (.t 0), none, false⟩, ⟨.mv (.v 10), some (.t 0, true), false⟩, ⟨.bin .eql (.t 0) (.c (.int (0))), some (.t 1, true), false⟩, ⟨.pick (.t 2) (.t 0) (.c (.bool false)), none, false⟩, ⟨.mv (.t 0), none, false⟩, ⟨.mv (.v 13), some (.t 0, true), false⟩, ⟨.mv (.v 14), some (.t 1, true), false⟩, ⟨.bin .eql (.t 1) (.t 0), some (.t 2, true), false⟩, ⟨.pick (.t 3) (.t 0) (.c (.bool false)), none, false⟩, ⟨.mv (.t 0), none, false⟩, ⟨.cal F_law13_exampleHolds [], some (.t 0, true), false⟩, ⟨.pick (.t 1) (.t 0) (.c (.bool false)), none, false⟩, ⟨.mv (.t 0), none, false⟩], [(16, 0)], [8, 10, 11, 12, 13, 14], none⟩
abbrev ir_law13_HomingKnown : Fn := { np := 3, nv := 17, res := [(16, none)], body :=
(.seq (.reg r_law13_HomingKnown_0)
 (.seq (.seq (.reg r_law13_HomingKnown_1)
 (.cond 31 (.seq (.reg r_law13_HomingKnown_2)
 .ret) .skip))
 (.seq (.reg r_law13_HomingKnown_3)
 (.seq (.reg r_law13_HomingKnown_4)
 (.seq (.reg r_law13_HomingKnown_5)
 (.seq (.reg r_law13_HomingKnown_6)
 (.seq (.reg r_law13_HomingKnown_7)
 (.seq (.seq (.reg r_law13_HomingKnown_8)
 (.cond 92 (.seq (.reg r_law13_HomingKnown_9)
 .ret) .skip))
 (.seq (.seq (.reg r_law13_HomingKnown_10) (.frz 15))
 (.seq (.reg r_law13_HomingKnown_11)
 (.seq (.seq (.reg r_law13_HomingKnown_12)
 (.cond 107 (.seq (.reg r_law13_HomingKnown_13)
 .ret) .skip))
 (.seq (.reg r_law13_HomingKnown_14)
 (.seq (.reg r_law13_HomingKnown_15)
 (.seq (.reg r_law13_HomingKnown_16)
 .ret)))))))))))))) }
/- f6 law13_HomingSteps : 0:m 1:state 2:w 3:m 4:s 5:e 6:outs 7:n 8:f 9:g 10:before 11:_ 12:_ 13:_ 14:t 15:in 16:_ 17:_ 18:t 19:k 20:after 21:last 22:_ -/
abbrev r_law13_HomingSteps_0 : Reg := ⟨[⟨.bxi (.v 0), none, false⟩, ⟨.mv (.c (.bool false)), none, false⟩], [(3, 1)], [0, 22], none⟩
abbrev r_law13_HomingSteps_1 : Reg := ⟨[⟨.ldi (.v 3) (some 4), none, false⟩, ⟨.cal F_law11_Small [(.t 0)], none, false⟩, ⟨.not (.t 0), none, false⟩, ⟨.mv (.t 0), none, false⟩, ⟨.ldi (.v 3) (some 4), some (.t 0, false), false⟩, ⟨.cal F_ref06_Valid [(.t 0)], some (.t 1, false), false⟩, ⟨.bin .neq (.t 0) (.c (.int (0))), some (.t 2, false), false⟩, ⟨.pick (.t 3) (.c (.bool true)) (.t 0), none, false⟩, ⟨.mv (.t 0), none, false⟩, ⟨.mv (.v 2), some (.t 0, false), false⟩, ⟨.len (.t 0), some (.t 1, false), false⟩, ⟨.bin .gtr (.t 0) (.c (.int (60))), some (.t 2, false), false⟩, ⟨.pick (.t 3) (.c (.bool true)) (.t 0), none, false⟩, ⟨.mv (.t 0), none, false⟩, ⟨.mv (.v 2), some (.t 0, false), false⟩, ⟨.len (.t 0), some (.t 1, false), false⟩, ⟨.bin .eql (.t 0) (.c (.int (0))), some (.t 2, false), false⟩, ⟨.pick (.t 3) (.c (.bool true)) (.t 0), none, false⟩], [], [], some (38, 0)⟩
abbrev r_law13_HomingSteps_2 : Reg := ⟨[⟨.cal F_law13_exampleHolds [], none, false⟩, ⟨.mv (.t 0), none, false⟩], [(22, 0)], [1, 2, 3], none⟩
abbrev r_law13_HomingSteps_3 : Reg := ⟨[⟨.mv (.v 1), none, false⟩, ⟨.cvi (.t 0), none, false⟩, ⟨.fad (.v 3) 2 none, none, false⟩, ⟨.ldi (.t 0) none, none, false⟩, ⟨.len (.t 0), none, false⟩, ⟨.bin .rem (.t 3) (.t 0), none, false⟩, ⟨.mv (.t 0), none, false⟩], [(4, 0)], [1], none⟩
abbrev r_law13_HomingSteps_4 : Reg := ⟨[⟨.ldi (.v 3) (some 4), none, false⟩, ⟨.mv (.v 4), none, false⟩, ⟨.mv (.v 2), none, false⟩, ⟨.cal F_mealy_From [(.t 2), (.t 1), (.t 0)], none, false⟩, ⟨.mv (.t 0), none, false⟩, ⟨.ext (.t 0) 0, none, false⟩, ⟨.ext (.t 1) 1, none, false⟩, ⟨.ext (.t 2) 2, none, false⟩, ⟨.mv (.t 2), none, false⟩, ⟨.mv (.t 2), none, false⟩, ⟨.mv (.t 2), none, false⟩], [(6, 2), (21, 1), (5, 0)], [4], none⟩
abbrev r_law13_HomingSteps_5 : Reg := ⟨[⟨.mv (.v 5), none, false⟩, ⟨.bin .neq (.t 0) (.c (.int (0))), none, false⟩], [], [5], some (55, 0)⟩
abbrev r_law13_HomingSteps_6 : Reg := ⟨[⟨.cal F_law13_exampleHolds [], none, false⟩, ⟨.mv (.t 0), none, false⟩], [(22, 0)], [2, 3, 6, 21], none⟩
abbrev r_law13_HomingSteps_7 : Reg := ⟨[⟨.mv (.v 2), none, false⟩, ⟨.len (.t 0), none, false⟩, ⟨.bin .sub (.t 0) (.c (.int (1))), none, false⟩, ⟨.mv (.t 0), none, false⟩], [(7, 0)], [], none⟩
abbrev r_law13_HomingSteps_8 : Reg := ⟨[⟨.mv (.v 6), none, false⟩, ⟨.len (.t 0), none, false⟩, ⟨.mv (.v 7), none, false⟩, ⟨.bin .add (.t 0) (.c (.int (1))), none, false⟩, ⟨.bin .neq (.t 2) (.t 0), none, false⟩], [], [], some (64, 0)⟩
abbrev r_law13_HomingSteps_9 : Reg := ⟨[⟨.mv (.c (.bool false)), none, false⟩], [(22, 0)], [2, 3, 6, 7, 21], none⟩
abbrev r_law13_HomingSteps_10 : Reg := ⟨[⟨.ldi (.v 3) (some 4), none, false⟩, ⟨.mv (.v 2), none, false⟩, ⟨.mv (.v 7), none, false⟩, ⟨.slc (.t 1) none (some (.t 0)) 1, none, false⟩, ⟨.mv (.v 6), none, false⟩, ⟨.mv (.v 7), none, false⟩, ⟨.slc (.t 1) none (some (.t 0)) 1, none, false⟩, ⟨.cal F_homing_Possible [(.t 6), (.t 3), (.t 0)], none, false⟩, ⟨.mv (.t 0), none, false⟩, ⟨.ext (.t 0) 0, none, false⟩, ⟨.ext (.t 1) 1, none, false⟩, ⟨.mv (.t 1), none, false⟩, ⟨.mv (.t 1), none, false⟩], [(10, 1), (8, 0)], [], none⟩
abbrev r_law13_HomingSteps_11 : Reg := ⟨[⟨.ldi (.v 3) (some 4), none, false⟩, ⟨.mv (.v 2), none, false⟩, ⟨.mv (.v 6), none, false⟩, ⟨.cal F_homing_Possible [(.t 2), (.t 1), (.t 0)], none, false⟩, ⟨.mv (.t 0), none, false⟩, ⟨.ext (.t 0) 0, none, false⟩, ⟨.ext (.t 1) 1, none, false⟩, ⟨.mv (.t 1), none, false⟩, ⟨.mv (.t 1), none, false⟩], [(20, 1), (9, 0)], [], none⟩
abbrev r_law13_HomingSteps_12 : Reg := ⟨[⟨.mv (.v 8), none, false⟩, ⟨.bin .neq (.t 0) (.c (.int (0))), none, false⟩, ⟨.mv (.t 0), none, false⟩, ⟨.mv (.v 9), some (.t 0, false), false⟩, ⟨.bin .neq (.t 0) (.c (.int (0))), some (.t 1, false), false⟩, ⟨.pick (.t 2) (.c (.bool true)) (.t 0), none, false⟩], [], [8, 9], some (88, 0)⟩
abbrev r_law13_HomingSteps_13 : Reg := ⟨[⟨.mv (.c (.bool false)), none, false⟩], [(22, 0)], [2, 3, 6, 7, 10, 20, 21], none⟩
abbrev r_law13_HomingSteps_14 : Reg := ⟨[⟨.fad (.v 3) 2 none, none, false⟩, ⟨.ldi (.t 0) none, none, false⟩, ⟨.len (.t 0), none, false⟩, ⟨.mks (.t 0) (.t 0) [.bool false] none, none, false⟩, ⟨.mv (.t 0), none, false⟩], [(15, 0)], [], none⟩
abbrev r_law13_HomingSteps_15 : Reg := ⟨[⟨.mv (.v 10), none, false⟩, ⟨.len (.t 0), none, false⟩, ⟨.mv (.c (.int (0))), none, false⟩], [(13, 2), (12, 1), (11, 0)], [10], none⟩
abbrev r_law13_HomingSteps_16 : Reg := ⟨[⟨.bin .lss (.v 11) (.v 12), none, false⟩], [], [], some (96, 0)⟩
abbrev r_law13_HomingSteps_17 : Reg := ⟨[⟨.iad (.v 13) (.v 11) 1, none, false⟩, ⟨.ld (.t 0) none, none, false⟩, ⟨.mv (.t 0), none, false⟩], [(14, 0)], [], none⟩
abbrev r_law13_HomingSteps_18 : Reg := ⟨[⟨.mv (.v 14), none, false⟩, ⟨.bin .lss (.t 0) (.c (.int (0))), none, false⟩, ⟨.mv (.t 0), none, false⟩, ⟨.mv (.v 14), some (.t 0, false), false⟩, ⟨.mv (.v 15), some (.t 1, false), false⟩, ⟨.len (.t 0), some (.t 2, false), false⟩, ⟨.bin .geq (.t 2) (.t 0), some (.t 3, false), false⟩, ⟨.pick (.t 4) (.c (.bool true)) (.t 0), none, false⟩], [], [], some (106, 0)⟩
abbrev r_law13_HomingSteps_19 : Reg := ⟨[⟨.mv (.c (.bool false)), none, false⟩], [(22, 0)], [2, 3, 6, 7, 11, 12, 13, 14, 15, 20, 21], none⟩
abbrev r_law13_HomingSteps_20 : Reg := ⟨[⟨.fad (.v 3) 3 none, none, false⟩, ⟨.ldi (.t 0) none, none, false⟩, ⟨.mv (.v 14), none, false⟩, ⟨.iad (.t 1) (.t 0) 1, none, false⟩, ⟨.ldi (.t 0) none, none, false⟩, ⟨.mv (.v 2), none, false⟩, ⟨.mv (.v 7), none, false⟩, ⟨.iad (.t 1) (.t 0) 1, none, false⟩, ⟨.ld (.t 0) none, none, false⟩, ⟨.iad (.t 4) (.t 0) 1, none, false⟩, ⟨.ldi (.t 0) none, none, false⟩, ⟨.mv (.v 6), none, false⟩, ⟨.mv (.v 7), none, false⟩, ⟨.iad (.t 1) (.t 0) 1, none, false⟩, ⟨.ld (.t 0) none, none, false⟩, ⟨.bin .eql (.t 4) (.t 0), none, false⟩], [], [], some (122, 0)⟩
abbrev r_law13_HomingSteps_21 : Reg := ⟨[⟨.mv (.v 15), none, false⟩, ⟨.fad (.v 3) 2 none, none, false⟩, ⟨.ldi (.t 0) none, none, false⟩, ⟨.mv (.v 14), none, false⟩, ⟨.iad (.t 1) (.t 0) 1, none, false⟩, ⟨.ldi (.t 0) none, none, false⟩, ⟨.mv (.v 2), none, false⟩, ⟨.mv (.v 7), none, false⟩, ⟨.iad (.t 1) (.t 0) 1, none, false⟩, ⟨.ld (.t 0) none, none, false⟩, ⟨.iad (.t 4) (.t 0) 1, none, false⟩, ⟨.ldi (.t 0) none, none, false⟩, ⟨.iad (.t 11) (.t 0) 1, none, false⟩, ⟨.st (.t 0) (.c (.bool true)) 1, none, false⟩], [], [14], none⟩
abbrev r_law13_HomingSteps_22 : Reg := ⟨[⟨.bin .add (.v 11) (.c (.int (1))), none, false⟩, ⟨.mv (.t 0), none, false⟩], [(11, 0)], [14], none⟩
abbrev b_law13_HomingSteps_0 : IC := (.seq (.reg r_law13_HomingSteps_16)
 (.seq (.cond 96 .skip (.exit 0))
 (.seq (.block 1 (.seq (.reg r_law13_HomingSteps_17)
 (.seq (.seq (.reg r_law13_HomingSteps_18)
 (.cond 106 (.seq (.reg r_law13_HomingSteps_19)
 .ret) .skip))
 (.seq (.reg r_law13_HomingSteps_20)
 (.cond 122 (.reg r_law13_HomingSteps_21) .skip)))))
 (.reg r_law13_HomingSteps_22))))
abbrev r_law13_HomingSteps_23 : Reg := ⟨[⟨.mv (.c (.int (0))), none, false⟩], [(19, 0)], [2, 3, 6, 7, 11, 12, 13], none⟩
abbrev r_law13_HomingSteps_24 : Reg := ⟨[⟨.mv (.v 15), none, false⟩, ⟨.len (.t 0), none, false⟩, ⟨.mv (.c (.int (0))), none, false⟩], [(17, 1), (16, 0)], [], none⟩
abbrev r_law13_HomingSteps_25 : Reg := ⟨[⟨.bin .lss (.v 16) (.v 17), none, false⟩], [], [], some (140, 0)⟩
abbrev r_law13_HomingSteps_26 : Reg := ⟨[⟨.mv (.v 16), none, false⟩, ⟨.mv (.t 0), none, false⟩], [(18, 0)], [], none⟩
abbrev r_law13_HomingSteps_27 : Reg := ⟨[⟨.mv (.v 15), none, false⟩, ⟨.mv (.v 18), none, false⟩, ⟨.iad (.t 1) (.t 0) 1, none, false⟩, ⟨.ld (.t 0) none, none, false⟩, ⟨.not (.t 0), none, false⟩], [], [], some (146, 0)⟩
abbrev r_law13_HomingSteps_28 : Reg := ⟨[⟨.mv (.v 19), none, false⟩, ⟨.mv (.v 20), none, false⟩, ⟨.len (.t 0), none, false⟩, ⟨.bin .geq (.t 2) (.t 0), none, false⟩, ⟨.mv (.t 0), none, false⟩, ⟨.mv (.v 20), some (.t 0, false), false⟩, ⟨.mv (.v 19), some (.t 1, false), false⟩, ⟨.iad (.t 1) (.t 0) 1, some (.t 2, false), false⟩, ⟨.ld (.t 0) none, some (.t 3, false), false⟩, ⟨.mv (.v 18), some (.t 4, false), false⟩, ⟨.bin .neq (.t 1) (.t 0), some (.t 5, false), false⟩, ⟨.pick (.t 6) (.c (.bool true)) (.t 0), none, false⟩], [], [18], some (158, 0)⟩
abbrev r_law13_HomingSteps_29 : Reg := ⟨[⟨.mv (.c (.bool false)), none, false⟩], [(22, 0)], [15, 16, 17, 19, 20, 21], none⟩
abbrev r_law13_HomingSteps_30 : Reg := ⟨[⟨.mv (.v 19), none, false⟩, ⟨.bin .add (.t 0) (.c (.int (1))), none, false⟩, ⟨.mv (.t 0), none, false⟩], [(19, 0)], [], none⟩
abbrev r_law13_HomingSteps_31 : Reg := ⟨[⟨.bin .add (.v 16) (.c (.int (1))), none, false⟩, ⟨.mv (.t 0), none, false⟩], [(16, 0)], [18], none⟩
abbrev b_law13_HomingSteps_2 : IC := (.seq (.reg r_law13_HomingSteps_25)
 (.seq (.cond 140 .skip (.exit 2))
 (.seq (.block 3 (.seq (.reg r_law13_HomingSteps_26)
 (.seq (.seq (.reg r_law13_HomingSteps_27)
 (.cond 146 (.exit 3) .skip))
 (.seq (.seq (.reg r_law13_HomingSteps_28)
 (.cond 158 (.seq (.reg r_law13_HomingSteps_29)
 .ret) .skip))
 (.reg r_law13_HomingSteps_30)))))
 (.reg r_law13_HomingSteps_31))))
abbrev r_law13_HomingSteps_32 : Reg := ⟨[⟨.mv (.v 19), none, false⟩, ⟨.mv (.v 20), none, false⟩, ⟨.len (.t 0), none, false⟩, ⟨.bin .eql (.t 2) (.t 0), none, false⟩, ⟨.mv (.t 0), none, false⟩, ⟨.mv (.v 15), some (.t 0, true), false⟩, ⟨.mv (.v 21), some (.t 1, true), false⟩, ⟨.iad (.t 1) (.t 0) 1, some (.t 2, true), false⟩, ⟨.ld (.t 0) none, some (.t 3, true), false⟩, ⟨.pick (.t 4) (.t 0) (.c (.bool false)), none, false⟩, ⟨.mv (.t 0), none, false⟩, ⟨.cal F_law13_exampleHolds [], some (.t 0, true), false⟩, ⟨.pick (.t 1) (.t 0) (.c (.bool false)), none, false⟩, ⟨.mv (.t 0), none, false⟩], [(22, 0)], [15, 16, 17, 19, 20, 21], none⟩
abbrev ir_law13_HomingSteps : Fn := { np := 3, nv := 23, res := [(22, none)], body :=
(.seq (.reg r_law13_HomingSteps_0)
 (.seq (.seq (.reg r_law13_HomingSteps_1)
 (.cond 38 (.seq (.reg r_law13_HomingSteps_2)
 .ret) .skip))
 (.seq (.reg r_law13_HomingSteps_3)
 (.seq (.reg r_law13_HomingSteps_4)
 (.seq (.seq (.reg r_law13_HomingSteps_5)
 (.cond 55 (.seq (.reg r_law13_HomingSteps_6)
 .ret) .skip))
 (.seq (.reg r_law13_HomingSteps_7)
 (.seq (.seq (.reg r_law13_HomingSteps_8)
 (.cond 64 (.seq (.reg r_law13_HomingSteps_9)
 .ret) .skip))
 (.seq (.reg r_law13_HomingSteps_10)
 (.seq (.reg r_law13_HomingSteps_11)
 (.seq (.seq (.reg r_law13_HomingSteps_12)
 (.cond 88 (.seq (.reg r_law13_HomingSteps_13)
 .ret) .skip))
 (.seq (.reg r_law13_HomingSteps_14)
 (.seq (.seq (.reg r_law13_HomingSteps_15)
 (.block 0 (.loop b_law13_HomingSteps_0)))
 (.seq (.reg r_law13_HomingSteps_23)
 (.seq (.seq (.reg r_law13_HomingSteps_24)
 (.block 2 (.loop b_law13_HomingSteps_2)))
 (.seq (.reg r_law13_HomingSteps_32)
 .ret))))))))))))))) }
/- f7 law13_HomingResolves : 0:m 1:w 2:m 3:e 4:ok 5:f 6:_ 7:_ 8:s 9:outs 10:f 11:g 12:is 13:t 14:last 15:known 16:_ -/
abbrev r_law13_HomingResolves_0 : Reg := ⟨[⟨.bxi (.v 0), none, false⟩, ⟨.mv (.c (.bool false)), none, false⟩], [(2, 1)], [0, 16], none⟩
abbrev r_law13_HomingResolves_1 : Reg := ⟨[⟨.ldi (.v 2) (some 4), none, false⟩, ⟨.cal F_law11_Small [(.t 0)], none, false⟩, ⟨.not (.t 0), none, false⟩, ⟨.mv (.t 0), none, false⟩, ⟨.ldi (.v 2) (some 4), some (.t 0, false), false⟩, ⟨.cal F_ref06_Valid [(.t 0)], some (.t 1, false), false⟩, ⟨.bin .neq (.t 0) (.c (.int (0))), some (.t 2, false), false⟩, ⟨.pick (.t 3) (.c (.bool true)) (.t 0), none, false⟩, ⟨.mv (.t 0), none, false⟩, ⟨.mv (.v 1), some (.t 0, false), false⟩, ⟨.len (.t 0), some (.t 1, false), false⟩, ⟨.bin .gtr (.t 0) (.c (.int (60))), some (.t 2, false), false⟩, ⟨.pick (.t 3) (.c (.bool true)) (.t 0), none, false⟩], [], [], some (29, 0)⟩
abbrev r_law13_HomingResolves_2 : Reg := ⟨[⟨.cal F_law13_exampleHolds [], none, false⟩, ⟨.mv (.t 0), none, false⟩], [(16, 0)], [1, 2], none⟩
abbrev r_law13_HomingResolves_3 : Reg := ⟨[⟨.ldi (.v 2) (some 4), none, false⟩, ⟨.mv (.v 1), none, false⟩, ⟨.cal F_homing_Resolves [(.t 1), (.t 0)], none, false⟩, ⟨.mv (.t 0), none, false⟩, ⟨.ext (.t 0) 0, none, false⟩, ⟨.ext (.t 1) 1, none, false⟩, ⟨.mv (.t 1), none, false⟩, ⟨.mv (.t 1), none, false⟩], [(4, 1), (3, 0)], [], none⟩
abbrev r_law13_HomingResolves_4 : Reg := ⟨[⟨.mv (.v 3), none, false⟩, ⟨.bin .neq (.t 0) (.c (.int (0))), none, false⟩], [], [], some (38, 0)⟩
abbrev r_law13_HomingResolves_5 : Reg := ⟨[⟨.ldi (.v 2) (some 4), none, false⟩, ⟨.mv (.v 1), none, false⟩, ⟨.cal F_mealy_Run [(.t 1), (.t 0)], none, false⟩, ⟨.mv (.t 0), none, false⟩, ⟨.ext (.t 0) 0, none, false⟩, ⟨.ext (.t 1) 1, none, false⟩, ⟨.mv (.t 1), none, false⟩, ⟨.mv (.t 1), none, false⟩], [(5, 0)], [1, 2], none⟩
abbrev r_law13_HomingResolves_6 : Reg := ⟨[⟨.mv (.v 4), none, false⟩, ⟨.not (.t 0), none, false⟩, ⟨.mv (.t 0), none, false⟩, ⟨.mv (.v 5), some (.t 0, true), false⟩, ⟨.mv (.v 3), some (.t 1, true), false⟩, ⟨.bin .eql (.t 1) (.t 0), some (.t 2, true), false⟩, ⟨.pick (.t 3) (.t 0) (.c (.bool false)), none, false⟩, ⟨.mv (.t 0), none, false⟩, ⟨.cal F_law13_exampleHolds [], some (.t 0, true), false⟩, ⟨.pick (.t 1) (.t 0) (.c (.bool false)), none, false⟩, ⟨.mv (.t 0), none, false⟩], [(16, 0)], [3, 4, 5], none⟩
abbrev r_law13_HomingResolves_7 : Reg := ⟨[⟨.mv (.c (.bool true)), none, false⟩], [(15, 0)], [3], none⟩
abbrev r_law13_HomingResolves_8 : Reg := ⟨[⟨.fad (.v 2) 2 none, none, false⟩, ⟨.ldi (.t 0) none, none, false⟩, ⟨.len (.t 0), none, false⟩, ⟨.mv (.c (.int (0))), none, false⟩], [(7, 1), (6, 0)], [], none⟩
abbrev r_law13_HomingResolves_9 : Reg := ⟨[⟨.bin .lss (.v 6) (.v 7), none, false⟩], [], [], some (59, 0)⟩
abbrev r_law13_HomingResolves_10 : Reg := ⟨[⟨.mv (.v 6), none, false⟩, ⟨.mv (.t 0), none, false⟩], [(8, 0)], [], none⟩
abbrev r_law13_HomingResolves_11 : Reg := ⟨[⟨.ldi (.v 2) (some 4), none, false⟩, ⟨.mv (.v 8), none, false⟩, ⟨.mv (.v 1), none, false⟩, ⟨.cal F_mealy_From [(.t 2), (.t 1), (.t 0)], none, false⟩, ⟨.mv (.t 0), none, false⟩, ⟨.ext (.t 0) 0, none, false⟩, ⟨.ext (.t 1) 1, none, false⟩, ⟨.ext (.t 2) 2, none, false⟩, ⟨.mv (.t 2), none, false⟩, ⟨.mv (.t 2), none, false⟩, ⟨.mv (.t 2), none, false⟩], [(9, 2), (14, 1), (10, 0)], [8], none⟩
abbrev r_law13_HomingResolves_12 : Reg := ⟨[⟨.ldi (.v 2) (some 4), none, false⟩, ⟨.mv (.v 1), none, false⟩, ⟨.mv (.v 9), none, false⟩, ⟨.cal F_homing_Final [(.t 2), (.t 1), (.t 0)], none, false⟩, ⟨.mv (.t 0), none, false⟩, ⟨.ext (.t 0) 0, none, false⟩, ⟨.ext (.t 1) 1, none, false⟩, ⟨.ext (.t 2) 2, none, false⟩, ⟨.mv (.t 2), none, false⟩, ⟨.mv (.t 2), none, false⟩, ⟨.mv (.t 2), none, false⟩], [(13, 2), (12, 1), (11, 0)], [9], none⟩
abbrev r_law13_HomingResolves_13 : Reg := ⟨[⟨.mv (.v 10), none, false⟩, ⟨.bin .neq (.t 0) (.c (.int (0))), none, false⟩, ⟨.mv (.t 0), none, false⟩, ⟨.mv (.v 11), some (.t 0, false), false⟩, ⟨.bin .neq (.t 0) (.c (.int (0))), some (.t 1, false), false⟩, ⟨.pick (.t 2) (.c (.bool true)) (.t 0), none, false⟩, ⟨.mv (.t 0), none, false⟩, ⟨.mv (.v 12), some (.t 0, false), false⟩, ⟨.mv (.t 0), some (.t 1, false), false⟩, ⟨.mv (.v 13), some (.t 0, true), false⟩, ⟨.mv (.v 14), some (.t 1, true), false⟩, ⟨.bin .neq (.t 1) (.t 0), some (.t 2, true), false⟩, ⟨.pick (.t 3) (.t 0) (.c (.bool false)), some (.t 5, false), false⟩, ⟨.pick (.t 6) (.c (.bool true)) (.t 0), none, false⟩], [], [10, 11, 13, 14], some (90, 0)⟩
abbrev r_law13_HomingResolves_14 : Reg := ⟨[⟨.mv (.c (.bool false)), none, false⟩], [(16, 0)], [1, 2, 4, 6, 7, 12, 15], none⟩
abbrev r_law13_HomingResolves_15 : Reg := ⟨[⟨.mv (.v 15), none, false⟩, ⟨.mv (.t 0), none, false⟩, ⟨.mv (.v 12), some (.t 0, true), false⟩, ⟨.pick (.t 1) (.t 0) (.c (.bool false)), none, false⟩, ⟨.mv (.t 0), none, false⟩], [(15, 0)], [12], none⟩
abbrev r_law13_HomingResolves_16 : Reg := ⟨[⟨.bin .add (.v 6) (.c (.int (1))), none, false⟩, ⟨.mv (.t 0), none, false⟩], [(6, 0)], [], none⟩
abbrev b_law13_HomingResolves_0 : IC := (.seq (.reg r_law13_HomingResolves_9)
 (.seq (.cond 59 .skip (.exit 0))
 (.seq (.block 1 (.seq (.reg r_law13_HomingResolves_10)
 (.seq (.reg r_law13_HomingResolves_11)
 (.seq (.reg r_law13_HomingResolves_12)
 (.seq (.seq (.reg r_law13_HomingResolves_13)
 (.cond 90 (.seq (.reg r_law13_HomingResolves_14)
 .ret) .skip))
 (.reg r_law13_HomingResolves_15))))))
 (.reg r_law13_HomingResolves_16))))
abbrev r_law13_HomingResolves_17 : Reg := ⟨[⟨.mv (.v 4), none, false⟩, ⟨.mv (.v 15), none, false⟩, ⟨.beq false (.t 1) (.t 0), none, false⟩, ⟨.mv (.t 0), none, false⟩, ⟨.cal F_law13_exampleHolds [], some (.t 0, true), false⟩, ⟨.pick (.t 1) (.t 0) (.c (.bool false)), none, false⟩, ⟨.mv (.t 0), none, false⟩], [(16, 0)], [1, 2, 4, 6, 7, 15], none⟩
abbrev ir_law13_HomingResolves : Fn := { np := 2, nv := 17, res := [(16, none)], body :=
(.seq (.reg r_law13_HomingResolves_0)
 (.seq (.seq (.reg r_law13_HomingResolves_1)
 (.cond 29 (.seq (.reg r_law13_HomingResolves_2)
 .ret) .skip))
 (.seq (.reg r_law13_HomingResolves_3)
 (.seq (.seq (.reg r_law13_HomingResolves_4)
 (.cond 38 (.seq (.reg r_law13_HomingResolves_5)
 (.seq (.reg r_law13_HomingResolves_6)
 .ret)) .skip))
 (.seq (.reg r_law13_HomingResolves_7)
 (.seq (.seq (.reg r_law13_HomingResolves_8)
 (.block 0 (.loop b_law13_HomingResolves_0)))
 (.seq (.reg r_law13_HomingResolves_17)
 .ret))))))) }
/- f8 law11_Small : 0:m 1:m 2:_ -/
abbrev r_law11_Small_0 : Reg := ⟨[⟨.bxi (.v 0), none, false⟩, ⟨.mv (.c (.bool false)), none, false⟩], [(1, 1)], [0, 2], none⟩
abbrev r_law11_Small_1 : Reg := ⟨[⟨.ldi (.v 1) (some 4), none, false⟩, ⟨.cal F_law08_Great [(.t 0)], none, false⟩, ⟨.not (.t 0), none, false⟩, ⟨.mv (.t 0), none, false⟩, ⟨.fad (.v 1) 2 none, some (.t 0, true), false⟩, ⟨.ldi (.t 0) none, some (.t 1, true), false⟩, ⟨.len (.t 0), some (.t 2, true), false⟩, ⟨.bin .leq (.t 0) (.c (.int (8))), some (.t 3, true), false⟩, ⟨.pick (.t 4) (.t 0) (.c (.bool false)), none, false⟩, ⟨.mv (.t 0), none, false⟩, ⟨.fad (.v 1) 0 none, some (.t 0, true), false⟩, ⟨.ldi (.t 0) none, some (.t 1, true), false⟩, ⟨.bin .leq (.t 0) (.c (.int (4))), some (.t 2, true), false⟩, ⟨.pick (.t 3) (.t 0) (.c (.bool false)), none, false⟩, ⟨.mv (.t 0), none, false⟩], [(2, 0)], [1], none⟩
abbrev ir_law11_Small : Fn := { np := 1, nv := 3, res := [(2, none)], body :=
(.seq (.reg r_law11_Small_0)
 (.seq (.reg r_law11_Small_1)
 .ret)) }
/- f9 law13_exampleHolds : 0:m 1:w 2:e 3:f 4:g 5:h 6:i 7:j 8:ok 9:no 10:l 11:s 12:is 13:_ -/
abbrev r_law13_exampleHolds_0 : Reg := ⟨[⟨.mv (.c (.bool false)), none, false⟩], [], [13], none⟩
abbrev r_law13_exampleHolds_1 : Reg := ⟨[⟨.liti [(.c (.int (1)))] 1, none, false⟩, ⟨.liti [(.c (.int (2)))] 1, none, false⟩, ⟨.liti [(.c (.int (0)))] 1, none, false⟩, ⟨.liti [(.t 2), (.t 1), (.t 0)] 1, none, false⟩, ⟨.liti [(.c (.int (0)))] 1, none, false⟩, ⟨.liti [(.c (.int (0)))] 1, none, false⟩, ⟨.liti [(.c (.int (1)))] 1, none, false⟩, ⟨.liti [(.t 2), (.t 1), (.t 0)] 1, none, false⟩, ⟨.bld [.int 0, .int 0, .snil, .snil] [(0, 1, (.c (.int (1)))), (2, 1, (.t 4)), (3, 1, (.t 0))], none, false⟩, ⟨.alc0 4, none, false⟩, ⟨.ini (.t 0) (.t 1) 4, none, false⟩], [(0, 0)], [], none⟩
abbrev r_law13_exampleHolds_2 : Reg := ⟨[⟨.ldi (.v 0) (some 4), none, false⟩, ⟨.cal F_homing_Word [(.t 0)], none, false⟩, ⟨.mv (.t 0), none, false⟩, ⟨.ext (.t 0) 0, none, false⟩, ⟨.ext (.t 1) 1, none, false⟩, ⟨.mv (.t 1), none, false⟩, ⟨.mv (.t 1), none, false⟩], [(1, 1), (2, 0)], [], none⟩
abbrev r_law13_exampleHolds_3 : Reg := ⟨[⟨.ldi (.v 0) (some 4), none, false⟩, ⟨.mv (.v 1), none, false⟩, ⟨.cal F_homing_Resolves [(.t 1), (.t 0)], none, false⟩, ⟨.mv (.t 0), none, false⟩, ⟨.ext (.t 0) 0, none, false⟩, ⟨.ext (.t 1) 1, none, false⟩, ⟨.mv (.t 1), none, false⟩, ⟨.mv (.t 1), none, false⟩], [(8, 1), (3, 0)], [], none⟩
abbrev r_law13_exampleHolds_4 : Reg := ⟨[⟨.ldi (.v 0) (some 4), none, false⟩, ⟨.liti [(.c (.int (0)))] 1, none, false⟩, ⟨.cal F_homing_Resolves [(.t 1), (.t 0)], none, false⟩, ⟨.mv (.t 0), none, false⟩, ⟨.ext (.t 0) 0, none, false⟩, ⟨.ext (.t 1) 1, none, false⟩, ⟨.mv (.t 1), none, false⟩, ⟨.mv (.t 1), none, false⟩], [(9, 1), (4, 0)], [], none⟩
abbrev r_law13_exampleHolds_5 : Reg := ⟨[⟨.ldi (.v 0) (some 4), none, false⟩, ⟨.liti [(.c (.int (0)))] 1, none, false⟩, ⟨.liti [(.c (.int (0)))] 1, none, false⟩, ⟨.cal F_homing_Possible [(.t 2), (.t 1), (.t 0)], none, false⟩, ⟨.mv (.t 0), none, false⟩, ⟨.ext (.t 0) 0, none, false⟩, ⟨.ext (.t 1) 1, none, false⟩, ⟨.mv (.t 1), none, false⟩, ⟨.mv (.t 1), none, false⟩], [(10, 1), (5, 0)], [], none⟩
abbrev r_law13_exampleHolds_6 : Reg := ⟨[⟨.ldi (.v 0) (some 4), none, false⟩, ⟨.liti [(.c (.int (0))), (.c (.int (0)))] 1, none, false⟩, ⟨.liti [(.c (.int (0))), (.c (.int (1)))] 1, none, false⟩, ⟨.cal F_homing_Final [(.t 2), (.t 1), (.t 0)], none, false⟩, ⟨.mv (.t 0), none, false⟩, ⟨.ext (.t 0) 0, none, false⟩, ⟨.ext (.t 1) 1, none, false⟩, ⟨.ext (.t 2) 2, none, false⟩, ⟨.mv (.t 2), none, false⟩, ⟨.mv (.t 2), none, false⟩, ⟨.mv (.t 2), none, false⟩], [(11, 2), (12, 1), (6, 0)], [], none⟩
abbrev r_law13_exampleHolds_7 : Reg := ⟨[⟨.ldi (.v 0) (some 4), none, false⟩, ⟨.liti [(.c (.int (0)))] 1, none, false⟩, ⟨.cal F_homing_Possible [(.t 1), (.t 0), (.c (.snil))], none, false⟩, ⟨.mv (.t 0), none, false⟩, ⟨.ext (.t 0) 0, none, false⟩, ⟨.ext (.t 1) 1, none, false⟩, ⟨.mv (.t 1), none, false⟩, ⟨.mv (.t 1), none, false⟩], [(7, 0)], [0], none⟩
abbrev r_law13_exampleHolds_8 : Reg := ⟨[⟨.mv (.v 2), none, false⟩, ⟨.bin .eql (.t 0) (.c (.int (0))), none, false⟩, ⟨.mv (.t 0), none, false⟩, ⟨.mv (.v 3), some (.t 0, true), false⟩, ⟨.bin .eql (.t 0) (.c (.int (0))), some (.t 1, true), false⟩, ⟨.pick (.t 2) (.t 0) (.c (.bool false)), none, false⟩, ⟨.mv (.t 0), none, false⟩, ⟨.mv (.v 4), some (.t 0, true), false⟩, ⟨.bin .eql (.t 0) (.c (.int (0))), some (.t 1, true), false⟩, ⟨.pick (.t 2) (.t 0) (.c (.bool false)), none, false⟩, ⟨.mv (.t 0), none, false⟩, ⟨.mv (.v 5), some (.t 0, true), false⟩, ⟨.bin .eql (.t 0) (.c (.int (0))), some (.t 1, true), false⟩, ⟨.pick (.t 2) (.t 0) (.c (.bool false)), none, false⟩, ⟨.mv (.t 0), none, false⟩, ⟨.mv (.v 6), some (.t 0, true), false⟩, ⟨.bin .eql (.t 0) (.c (.int (0))), some (.t 1, true), false⟩, ⟨.pick (.t 2) (.t 0) (.c (.bool false)), none, false⟩, ⟨.mv (.t 0), none, false⟩, ⟨.mv (.v 7), some (.t 0, true), false⟩, ⟨.bin .eql (.t 0) (.c (.int (1))), some (.t 1, true), false⟩, ⟨.pick (.t 2) (.t 0) (.c (.bool false)), none, false⟩, ⟨.mv (.t 0), none, false⟩, ⟨.mv (.v 1), some (.t 0, true), false⟩, ⟨.liti [(.c (.int (0))), (.c (.int (0)))] 1, some (.t 1, true), false⟩, ⟨.cal F_ref08_Equal [(.t 1), (.t 0)], some (.t 2, true), false⟩, ⟨.pick (.t 3) (.t 0) (.c (.bool false)), none, false⟩, ⟨.mv (.t 0), none, false⟩, ⟨.mv (.v 8), some (.t 0, true), false⟩, ⟨.pick (.t 1) (.t 0) (.c (.bool false)), none, false⟩, ⟨.mv (.t 0), none, false⟩, ⟨.mv (.v 9), some (.t 0, true), false⟩, ⟨.not (.t 0), some (.t 1, true), false⟩, ⟨.pick (.t 2) (.t 0) (.c (.bool false)), none, false⟩, ⟨.mv (.t 0), none, false⟩, ⟨.mv (.v 10), some (.t 0, true), false⟩, ⟨.liti [(.c (.int (1))), (.c (.int (2)))] 1, some (.t 1, true), false⟩, ⟨.cal F_ref08_Equal [(.t 1), (.t 0)], some (.t 2, true), false⟩, ⟨.pick (.t 3) (.t 0) (.c (.bool false)), none, false⟩, ⟨.mv (.t 0), none, false⟩, ⟨.mv (.v 11), some (.t 0, true), false⟩, ⟨.bin .eql (.t 0) (.c (.int (0))), some (.t 1, true), false⟩, ⟨.pick (.t 2) (.t 0) (.c (.bool false)), none, false⟩, ⟨.mv (.t 0), none, false⟩, ⟨.mv (.v 12), some (.t 0, true), false⟩, ⟨.pick (.t 1) (.t 0) (.c (.bool false)), none, false⟩, ⟨.mv (.t 0), none, false⟩], [(13, 0)], [1, 2, 3, 4, 5, 6, 7, 8, 9, 10, 11, 12], none⟩
abbrev ir_law13_exampleHolds : Fn := { np := 0, nv := 14, res := [(13, none)], body :=
(.seq (.reg r_law13_exampleHolds_0)
 (.seq (.reg r_law13_exampleHolds_1)
 (.seq (.reg r_law13_exampleHolds_2)
 (.seq (.reg r_law13_exampleHolds_3)
 (.seq (.reg r_law13_exampleHolds_4)
 (.seq (.reg r_law13_exampleHolds_5)
 (.seq (.reg r_law13_exampleHolds_6)
 (.seq (.reg r_law13_exampleHolds_7)
 (.seq (.reg r_law13_exampleHolds_8)
 .ret))))))))) }
/- f10 homing_Word : 0:m 1:m 2:e 3:w 4:l 5:i 6:e 7:ok 8:v 9:_ 10:_ -/
abbrev r_homing_Word_0 : Reg := ⟨[⟨.bxi (.v 0), none, false⟩, ⟨.mv (.c (.snil)), none, false⟩, ⟨.mv (.c (.int (0))), none, false⟩], [(1, 2)], [0, 9, 10], none⟩
abbrev r_homing_Word_1 : Reg := ⟨[⟨.ldi (.v 1) (some 4), none, false⟩, ⟨.cal F_mealy_Valid [(.t 0)], none, false⟩, ⟨.mv (.t 0), none, false⟩], [(2, 0)], [], none⟩
abbrev r_homing_Word_2 : Reg := ⟨[⟨.mv (.v 2), none, false⟩, ⟨.bin .neq (.t 0) (.c (.int (0))), none, false⟩], [], [], some (14, 0)⟩
abbrev r_homing_Word_3 : Reg := ⟨[⟨.mv (.v 2), none, false⟩, ⟨.mv (.c (.snil)), none, false⟩, ⟨.mv (.t 1), none, false⟩], [(9, 1), (10, 0)], [1, 2], none⟩
abbrev r_homing_Word_4 : Reg := ⟨[⟨.ldi (.v 1) (some 4), none, false⟩, ⟨.cal F_minimize_Minimal [(.t 0)], none, false⟩, ⟨.not (.t 0), none, false⟩], [], [2], some (18, 0)⟩
abbrev r_homing_Word_5 : Reg := ⟨[⟨.mv (.c (.snil)), none, false⟩, ⟨.mv (.c (.int (1))), none, false⟩], [(9, 1), (10, 0)], [1], none⟩
abbrev r_homing_Word_6 : Reg := ⟨[⟨.mv (.c (.snil)), none, false⟩], [(3, 0)], [], none⟩
abbrev r_homing_Word_7 : Reg := ⟨[⟨.ldi (.v 1) (some 4), none, false⟩, ⟨.mv (.v 3), none, false⟩, ⟨.cal F_homing_groups [(.t 1), (.t 0)], none, false⟩, ⟨.mv (.t 0), none, false⟩], [(4, 0)], [], none⟩
abbrev r_homing_Word_8 : Reg := ⟨[⟨.mv (.v 4), none, false⟩, ⟨.cal F_homing_open [(.t 0)], none, false⟩, ⟨.mv (.t 0), none, false⟩], [(5, 0)], [], none⟩
abbrev r_homing_Word_9 : Reg := ⟨[⟨.mv (.v 5), none, false⟩, ⟨.bin .lss (.t 0) (.c (.int (0))), none, false⟩], [], [], some (25, 0)⟩
abbrev r_homing_Word_10 : Reg := ⟨[⟨.mv (.v 3), none, false⟩, ⟨.mv (.t 0), none, false⟩, ⟨.mv (.c (.int (0))), none, false⟩], [(9, 1), (10, 0)], [1, 3, 4, 5], none⟩
abbrev r_homing_Word_11 : Reg := ⟨[⟨.ldi (.v 1) (some 4), none, false⟩, ⟨.mv (.v 4), none, false⟩, ⟨.mv (.v 5), none, false⟩, ⟨.iad (.t 1) (.t 0) 2, none, false⟩, ⟨.fad (.t 0) 1 none, none, false⟩, ⟨.ld (.t 0) none, none, false⟩, ⟨.iad (.t 0) (.c (.int (0))) 1, none, false⟩, ⟨.ld (.t 0) none, none, false⟩, ⟨.mv (.v 4), none, false⟩, ⟨.mv (.v 5), none, false⟩, ⟨.iad (.t 1) (.t 0) 2, none, false⟩, ⟨.fad (.t 0) 1 none, none, false⟩, ⟨.ld (.t 0) none, none, false⟩, ⟨.iad (.t 0) (.c (.int (1))) 1, none, false⟩, ⟨.ld (.t 0) none, none, false⟩, ⟨.cal F_equiv_States [(.t 14), (.t 7), (.t 0)], none, false⟩, ⟨.mv (.t 0), none, false⟩, ⟨.ext (.t 0) 0, none, false⟩, ⟨.ext (.t 1) 1, none, false⟩, ⟨.ext (.t 2) 2, none, false⟩, ⟨.mv (.t 2), none, false⟩, ⟨.mv (.t 2), none, false⟩, ⟨.mv (.t 2), none, false⟩], [(8, 2), (7, 1), (6, 0)], [4, 5], none⟩
abbrev r_homing_Word_12 : Reg := ⟨[⟨.mv (.v 6), none, false⟩, ⟨.bin .neq (.t 0) (.c (.int (0))), none, false⟩], [], [], some (48, 0)⟩
abbrev r_homing_Word_13 : Reg := ⟨[⟨.mv (.v 6), none, false⟩, ⟨.mv (.c (.snil)), none, false⟩, ⟨.mv (.t 1), none, false⟩], [(9, 1), (10, 0)], [1, 3, 6, 7, 8], none⟩
abbrev r_homing_Word_14 : Reg := ⟨[⟨.mv (.v 7), none, false⟩, ⟨.not (.t 0), none, false⟩], [], [6, 7], some (51, 0)⟩
abbrev r_homing_Word_15 : Reg := ⟨[⟨.mv (.c (.snil)), none, false⟩, ⟨.mv (.c (.int (1))), none, false⟩], [(9, 1), (10, 0)], [1, 3, 8], none⟩
abbrev r_homing_Word_16 : Reg := ⟨[⟨.mv (.v 3), none, false⟩, ⟨.mv (.v 8), none, false⟩, ⟨.liti [(.t 1), (.t 0)] 1, none, false⟩, ⟨.cal F_word_Join [(.t 0)], none, false⟩, ⟨.mv (.t 0), none, false⟩], [(3, 0)], [8], none⟩
abbrev r_homing_Word_17 : Reg := ⟨[⟨.mv (.v 3), none, false⟩, ⟨.len (.t 0), none, false⟩, ⟨.bin .gtr (.t 0) (.c (.int (1024))), none, false⟩], [], [], some (58, 0)⟩
abbrev r_homing_Word_18 : Reg := ⟨[⟨.mv (.c (.snil)), none, false⟩, ⟨.mv (.c (.int (3))), none, false⟩], [(9, 1), (10, 0)], [1, 3], none⟩
abbrev b_homing_Word_0 : IC := (.block 1 (.seq (.reg r_homing_Word_7)
 (.seq (.reg r_homing_Word_8)
 (.seq (.seq (.reg r_homing_Word_9)
 (.cond 25 (.seq (.reg r_homing_Word_10)
 .ret) .skip))
 (.seq (.reg r_homing_Word_11)
 (.seq (.seq (.reg r_homing_Word_12)
 (.cond 48 (.seq (.reg r_homing_Word_13)
 .ret) .skip))
 (.seq (.seq (.reg r_homing_Word_14)
 (.cond 51 (.seq (.reg r_homing_Word_15)
 .ret) .skip))
 (.seq (.reg r_homing_Word_16)
 (.seq (.reg r_homing_Word_17)
 (.cond 58 (.seq (.reg r_homing_Word_18)
 .ret) .skip))))))))))
abbrev ir_homing_Word : Fn := { np := 1, nv := 11, res := [(9, none), (10, none)], body :=
(.seq (.reg r_homing_Word_0)
 (.seq (.seq (.reg r_homing_Word_1)
 (.seq (.reg r_homing_Word_2)
 (.cond 14 (.seq (.reg r_homing_Word_3)
 .ret) .skip)))
 (.seq (.seq (.reg r_homing_Word_4)
 (.cond 18 (.seq (.reg r_homing_Word_5)
 .ret) .skip))
 (.seq (.reg r_homing_Word_6)
 (.block 0 (.loop b_homing_Word_0)))))) }
/- f11 ref13_Word : 0:m 1:m 2:e 3:w 4:l 5:v 6:_ 7:_ -/
abbrev r_ref13_Word_0 : Reg := ⟨[⟨.bxi (.v 0), none, false⟩, ⟨.mv (.c (.snil)), none, false⟩, ⟨.mv (.c (.int (0))), none, false⟩], [(1, 2)], [0, 6, 7], none⟩
abbrev r_ref13_Word_1 : Reg := ⟨[⟨.ldi (.v 1) (some 4), none, false⟩, ⟨.cal F_ref11_Check [(.t 0)], none, false⟩, ⟨.mv (.t 0), none, false⟩], [(2, 0)], [], none⟩
abbrev r_ref13_Word_2 : Reg := ⟨[⟨.mv (.v 2), none, false⟩, ⟨.bin .neq (.t 0) (.c (.int (0))), none, false⟩], [], [], some (13, 0)⟩
abbrev r_ref13_Word_3 : Reg := ⟨[⟨.mv (.v 2), none, false⟩, ⟨.mv (.c (.snil)), none, false⟩, ⟨.mv (.t 1), none, false⟩], [(6, 1), (7, 0)], [1, 2], none⟩
abbrev r_ref13_Word_4 : Reg := ⟨[⟨.nl none, none, false⟩], [(3, 0)], [2], none⟩
abbrev r_ref13_Word_5 : Reg := ⟨[⟨.ldi (.v 1) (some 4), none, false⟩, ⟨.mv (.v 3), none, false⟩, ⟨.cab F_ref13_open [(.t 1), (.t 0)], none, false⟩, ⟨.mv (.t 0), none, false⟩], [(4, 0)], [], none⟩
abbrev r_ref13_Word_6 : Reg := ⟨[⟨.mv (.v 4), none, false⟩, ⟨.len (.t 0), none, false⟩, ⟨.bin .eql (.t 0) (.c (.int (0))), none, false⟩], [], [], some (20, 0)⟩
abbrev r_ref13_Word_7 : Reg := ⟨[⟨.mv (.v 3), none, false⟩, ⟨.mv (.t 0), none, false⟩, ⟨.mv (.c (.int (0))), none, false⟩], [(6, 1), (7, 0)], [1, 3, 4], none⟩
abbrev r_ref13_Word_8 : Reg := ⟨[⟨.ldi (.v 1) (some 4), none, false⟩, ⟨.mv (.v 4), none, false⟩, ⟨.iad (.t 0) (.c (.int (0))) 1, none, false⟩, ⟨.ld (.t 0) none, none, false⟩, ⟨.mv (.v 4), none, false⟩, ⟨.iad (.t 0) (.c (.int (1))) 1, none, false⟩, ⟨.ld (.t 0) none, none, false⟩, ⟨.cal F_ref09_States [(.t 6), (.t 3), (.t 0)], none, false⟩, ⟨.mv (.t 0), none, false⟩, ⟨.ext (.t 0) 0, none, false⟩, ⟨.ext (.t 1) 1, none, false⟩, ⟨.ext (.t 2) 2, none, false⟩, ⟨.mv (.t 2), none, false⟩, ⟨.mv (.t 2), none, false⟩, ⟨.mv (.t 2), none, false⟩], [(5, 2)], [4], none⟩
abbrev r_ref13_Word_9 : Reg := ⟨[⟨.mv (.v 3), none, false⟩, ⟨.len (.t 0), none, false⟩, ⟨.mv (.v 5), none, false⟩, ⟨.len (.t 0), none, false⟩, ⟨.bin .add (.t 2) (.t 0), none, false⟩, ⟨.bin .gtr (.t 0) (.c (.int (1024))), none, false⟩], [], [], some (39, 0)⟩
abbrev r_ref13_Word_10 : Reg := ⟨[⟨.mv (.c (.snil)), none, false⟩, ⟨.mv (.c (.int (3))), none, false⟩], [(6, 1), (7, 0)], [1, 3, 5], none⟩
abbrev r_ref13_Word_11 : Reg := ⟨[⟨.mv (.v 3), none, false⟩, ⟨.mv (.v 5), none, false⟩, ⟨.appw (.t 1) (.t 0) none, none, false⟩, ⟨.mv (.t 0), none, false⟩], [(3, 0)], [5], none⟩
abbrev b_ref13_Word_0 : IC := (.block 1 (.seq (.reg r_ref13_Word_5)
 (.seq (.seq (.reg r_ref13_Word_6)
 (.cond 20 (.seq (.reg r_ref13_Word_7)
 .ret) .skip))
 (.seq (.reg r_ref13_Word_8)
 (.seq (.seq (.reg r_ref13_Word_9)
 (.cond 39 (.seq (.reg r_ref13_Word_10)
 .ret) .skip))
 (.reg r_ref13_Word_11))))))
abbrev ir_ref13_Word : Fn := { np := 1, nv := 8, res := [(6, none), (7, none)], body :=
(.seq (.reg r_ref13_Word_0)
 (.seq (.seq (.reg r_ref13_Word_1)
 (.seq (.reg r_ref13_Word_2)
 (.cond 13 (.seq (.reg r_ref13_Word_3)
 .ret) .skip)))
 (.seq (.reg r_ref13_Word_4)
 (.block 0 (.loop b_ref13_Word_0))))) }
/- f12 ref08_Equal : 0:a 1:b 2:i 3:_ -/
abbrev r_ref08_Equal_0 : Reg := ⟨[⟨.mv (.c (.bool false)), none, false⟩], [], [3], none⟩
abbrev r_ref08_Equal_1 : Reg := ⟨[⟨.mv (.v 0), none, false⟩, ⟨.len (.t 0), none, false⟩, ⟨.mv (.v 1), none, false⟩, ⟨.len (.t 0), none, false⟩, ⟨.bin .neq (.t 2) (.t 0), none, false⟩], [], [], some (10, 0)⟩
abbrev r_ref08_Equal_2 : Reg := ⟨[⟨.mv (.c (.bool false)), none, false⟩], [(3, 0)], [0, 1], none⟩
abbrev r_ref08_Equal_3 : Reg := ⟨[⟨.mv (.c (.int (0))), none, false⟩], [(2, 0)], [], none⟩
abbrev r_ref08_Equal_4 : Reg := ⟨[⟨.mv (.v 2), none, false⟩, ⟨.mv (.v 0), none, false⟩, ⟨.len (.t 0), none, false⟩, ⟨.bin .lss (.t 2) (.t 0), none, false⟩], [], [], some (14, 0)⟩
abbrev r_ref08_Equal_6 : Reg := ⟨[⟨.mv (.v 0), none, false⟩, ⟨.mv (.v 2), none, false⟩, ⟨.iad (.t 1) (.t 0) 1, none, false⟩, ⟨.ld (.t 0) none, none, false⟩, ⟨.mv (.v 1), none, false⟩, ⟨.mv (.v 2), none, false⟩, ⟨.iad (.t 1) (.t 0) 1, none, false⟩, ⟨.ld (.t 0) none, none, false⟩, ⟨.bin .neq (.t 4) (.t 0), none, false⟩], [], [], some (25, 0)⟩
abbrev r_ref08_Equal_7 : Reg := ⟨[⟨.mv (.c (.bool false)), none, false⟩], [(3, 0)], [0, 1, 2], none⟩
abbrev r_ref08_Equal_5 : Reg := ⟨[⟨.mv (.v 2), none, false⟩, ⟨.bin .add (.t 0) (.c (.int (1))), none, false⟩, ⟨.mv (.t 0), none, false⟩], [(2, 0)], [], none⟩
abbrev b_ref08_Equal_0 : IC := (.seq (.seq (.reg r_ref08_Equal_4)
 (.cond 14 .skip (.exit 0)))
 (.seq (.block 1 (.seq (.reg r_ref08_Equal_6)
 (.cond 25 (.seq (.reg r_ref08_Equal_7)
 .ret) .skip)))
 (.reg r_ref08_Equal_5)))
abbrev r_ref08_Equal_8 : Reg := ⟨[⟨.mv (.c (.bool true)), none, false⟩], [(3, 0)], [0, 1, 2], none⟩
abbrev ir_ref08_Equal : Fn := { np := 2, nv := 4, res := [(3, none)], body :=
(.seq (.reg r_ref08_Equal_0)
 (.seq (.seq (.reg r_ref08_Equal_1)
 (.cond 10 (.seq (.reg r_ref08_Equal_2)
 .ret) .skip))
 (.seq (.seq (.reg r_ref08_Equal_3)
 (.block 0 (.loop b_ref08_Equal_0)))
 (.seq (.reg r_ref08_Equal_8)
 .ret)))) }
/- f13 homing_Resolves : 0:m 1:w 2:m 3:e 4:_ 5:_ -/
abbrev r_homing_Resolves_0 : Reg := ⟨[⟨.bxi (.v 0), none, false⟩, ⟨.mv (.c (.bool false)), none, false⟩, ⟨.mv (.c (.int (0))), none, false⟩], [(2, 2)], [0, 4, 5], none⟩
abbrev r_homing_Resolves_1 : Reg := ⟨[⟨.ldi (.v 2) (some 4), none, false⟩, ⟨.mv (.v 1), none, false⟩, ⟨.cal F_homing_check [(.t 1), (.t 0)], none, false⟩, ⟨.mv (.t 0), none, false⟩], [(3, 0)], [], none⟩
abbrev r_homing_Resolves_2 : Reg := ⟨[⟨.mv (.v 3), none, false⟩, ⟨.bin .neq (.t 0) (.c (.int (0))), none, false⟩], [], [], some (11, 0)⟩
abbrev r_homing_Resolves_3 : Reg := ⟨[⟨.mv (.v 3), none, false⟩, ⟨.mv (.c (.bool false)), none, false⟩, ⟨.mv (.t 1), none, false⟩], [(4, 1), (5, 0)], [1, 2, 3], none⟩
abbrev r_homing_Resolves_4 : Reg := ⟨[⟨.ldi (.v 2) (some 4), none, false⟩, ⟨.mv (.v 1), none, false⟩, ⟨.cal F_homing_groups [(.t 1), (.t 0)], none, false⟩, ⟨.cal F_homing_open [(.t 0)], none, false⟩, ⟨.bin .lss (.t 0) (.c (.int (0))), none, false⟩, ⟨.mv (.t 0), none, false⟩, ⟨.mv (.c (.int (0))), none, false⟩], [(4, 1), (5, 0)], [1, 2, 3], none⟩
abbrev ir_homing_Resolves : Fn := { np := 2, nv := 6, res := [(4, none), (5, none)], body :=
(.seq (.reg r_homing_Resolves_0)
 (.seq (.seq (.reg r_homing_Resolves_1)
 (.seq (.reg r_homing_Resolves_2)
 (.cond 11 (.seq (.reg r_homing_Resolves_3)
 .ret) .skip)))
 (.seq (.reg r_homing_Resolves_4)
 .ret))) }
/- f14 ref13_Resolves : 0:m 1:w 2:m 3:e 4:_ 5:_ -/
abbrev r_ref13_Resolves_0 : Reg := ⟨[⟨.bxi (.v 0), none, false⟩, ⟨.mv (.c (.bool false)), none, false⟩, ⟨.mv (.c (.int (0))), none, false⟩], [(2, 2)], [0, 4, 5], none⟩
abbrev r_ref13_Resolves_1 : Reg := ⟨[⟨.ldi (.v 2) (some 4), none, false⟩, ⟨.mv (.v 1), none, false⟩, ⟨.cal F_ref13_check [(.t 1), (.t 0)], none, false⟩, ⟨.mv (.t 0), none, false⟩], [(3, 0)], [], none⟩
abbrev r_ref13_Resolves_2 : Reg := ⟨[⟨.mv (.v 3), none, false⟩, ⟨.bin .neq (.t 0) (.c (.int (0))), none, false⟩], [], [], some (11, 0)⟩
abbrev r_ref13_Resolves_3 : Reg := ⟨[⟨.mv (.v 3), none, false⟩, ⟨.mv (.c (.bool false)), none, false⟩, ⟨.mv (.t 1), none, false⟩], [(4, 1), (5, 0)], [1, 2, 3], none⟩
abbrev r_ref13_Resolves_4 : Reg := ⟨[⟨.ldi (.v 2) (some 4), none, false⟩, ⟨.mv (.v 1), none, false⟩, ⟨.cal F_ref13_open [(.t 1), (.t 0)], none, false⟩, ⟨.len (.t 0), none, false⟩, ⟨.bin .eql (.t 0) (.c (.int (0))), none, false⟩, ⟨.mv (.t 0), none, false⟩, ⟨.mv (.c (.int (0))), none, false⟩], [(4, 1), (5, 0)], [1, 2, 3], none⟩
abbrev ir_ref13_Resolves : Fn := { np := 2, nv := 6, res := [(4, none), (5, none)], body :=
(.seq (.reg r_ref13_Resolves_0)
 (.seq (.seq (.reg r_ref13_Resolves_1)
 (.seq (.reg r_ref13_Resolves_2)
 (.cond 11 (.seq (.reg r_ref13_Resolves_3)
 .ret) .skip)))
 (.seq (.reg r_ref13_Resolves_4)
 .ret))) }
/- f15 homing_Possible : 0:m 1:w 2:outs 3:m 4:e 5:_ 6:_ 7:_ 8:g 9:_ 10:_ -/
abbrev r_homing_Possible_0 : Reg := ⟨[⟨.bxi (.v 0), none, false⟩, ⟨.mv (.c (.snil)), none, false⟩, ⟨.mv (.c (.int (0))), none, false⟩], [(3, 2)], [0, 9, 10], none⟩
abbrev r_homing_Possible_1 : Reg := ⟨[⟨.ldi (.v 3) (some 4), none, false⟩, ⟨.mv (.v 1), none, false⟩, ⟨.cal F_homing_check [(.t 1), (.t 0)], none, false⟩, ⟨.mv (.t 0), none, false⟩], [(4, 0)], [], none⟩
abbrev r_homing_Possible_2 : Reg := ⟨[⟨.mv (.v 4), none, false⟩, ⟨.bin .neq (.t 0) (.c (.int (0))), none, false⟩], [], [], some (15, 0)⟩
abbrev r_homing_Possible_3 : Reg := ⟨[⟨.mv (.v 4), none, false⟩, ⟨.mv (.c (.snil)), none, false⟩, ⟨.mv (.t 1), none, false⟩], [(9, 1), (10, 0)], [1, 2, 3, 4], none⟩
abbrev r_homing_Possible_4 : Reg := ⟨[⟨.mv (.v 1), none, false⟩, ⟨.len (.t 0), none, false⟩, ⟨.mv (.v 2), none, false⟩, ⟨.len (.t 0), none, false⟩, ⟨.bin .neq (.t 2) (.t 0), none, false⟩], [], [4], some (21, 0)⟩
abbrev r_homing_Possible_5 : Reg := ⟨[⟨.mv (.c (.snil)), none, false⟩, ⟨.mv (.c (.int (1))), none, false⟩], [(9, 1), (10, 0)], [1, 2, 3], none⟩
abbrev r_homing_Possible_6 : Reg := ⟨[⟨.ldi (.v 3) (some 4), none, false⟩, ⟨.mv (.v 1), none, false⟩, ⟨.cal F_homing_groups [(.t 1), (.t 0)], none, false⟩, ⟨.len (.t 0), none, false⟩, ⟨.mv (.c (.int (0))), none, false⟩], [(7, 2), (6, 1), (5, 0)], [1, 3], none⟩
abbrev r_homing_Possible_7 : Reg := ⟨[⟨.bin .lss (.v 5) (.v 6), none, false⟩], [], [], some (27, 0)⟩
abbrev r_homing_Possible_8 : Reg := ⟨[⟨.iad (.v 7) (.v 5) 2, none, false⟩, ⟨.ld (.t 0) (some 2), none, false⟩, ⟨.alc0 2, none, false⟩, ⟨.ini (.t 0) (.t 1) 2, none, false⟩], [(8, 0)], [], none⟩
abbrev r_homing_Possible_9 : Reg := ⟨[⟨.fad (.v 8) 0 none, none, false⟩, ⟨.ldi (.t 0) none, none, false⟩, ⟨.mv (.v 2), none, false⟩, ⟨.cal F_slices_Equal_Sint_int [(.t 1), (.t 0)], none, false⟩], [], [], some (33, 0)⟩
abbrev r_homing_Possible_10 : Reg := ⟨[⟨.fad (.v 8) 1 none, none, false⟩, ⟨.ldi (.t 0) none, none, false⟩, ⟨.mv (.t 0), none, false⟩, ⟨.mv (.c (.int (0))), none, false⟩], [(9, 1), (10, 0)], [2, 5, 6, 7, 8], none⟩
abbrev r_homing_Possible_11 : Reg := ⟨[⟨.bin .add (.v 5) (.c (.int (1))), none, false⟩, ⟨.mv (.t 0), none, false⟩], [(5, 0)], [8], none⟩
abbrev b_homing_Possible_0 : IC := (.seq (.reg r_homing_Possible_7)
 (.seq (.cond 27 .skip (.exit 0))
 (.seq (.block 1 (.seq (.reg r_homing_Possible_8)
 (.seq (.reg r_homing_Possible_9)
 (.cond 33 (.seq (.reg r_homing_Possible_10)
 .ret) .skip))))
 (.reg r_homing_Possible_11))))
abbrev r_homing_Possible_12 : Reg := ⟨[⟨.mv (.c (.snil)), none, false⟩, ⟨.mv (.c (.int (0))), none, false⟩], [(9, 1), (10, 0)], [2, 5, 6, 7], none⟩
abbrev ir_homing_Possible : Fn := { np := 3, nv := 11, res := [(9, none), (10, none)], body :=
(.seq (.reg r_homing_Possible_0)
 (.seq (.seq (.reg r_homing_Possible_1)
 (.seq (.reg r_homing_Possible_2)
 (.cond 15 (.seq (.reg r_homing_Possible_3)
 .ret) .skip)))
 (.seq (.seq (.reg r_homing_Possible_4)
 (.cond 21 (.seq (.reg r_homing_Possible_5)
 .ret) .skip))
 (.seq (.seq (.reg r_homing_Possible_6)
 (.block 0 (.loop b_homing_Possible_0)))
 (.seq (.reg r_homing_Possible_12)
 .ret))))) }
/- f16 ref13_Possible : 0:m 1:w 2:outs 3:m 4:e 5:_ 6:_ -/
abbrev r_ref13_Possible_0 : Reg := ⟨[⟨.bxi (.v 0), none, false⟩, ⟨.mv (.c (.snil)), none, false⟩, ⟨.mv (.c (.int (0))), none, false⟩], [(3, 2)], [0, 5, 6], none⟩
abbrev r_ref13_Possible_1 : Reg := ⟨[⟨.ldi (.v 3) (some 4), none, false⟩, ⟨.mv (.v 1), none, false⟩, ⟨.cal F_ref13_check [(.t 1), (.t 0)], none, false⟩, ⟨.mv (.t 0), none, false⟩], [(4, 0)], [], none⟩
abbrev r_ref13_Possible_2 : Reg := ⟨[⟨.mv (.v 4), none, false⟩, ⟨.bin .neq (.t 0) (.c (.int (0))), none, false⟩], [], [], some (13, 0)⟩
abbrev r_ref13_Possible_3 : Reg := ⟨[⟨.mv (.v 4), none, false⟩, ⟨.mv (.c (.snil)), none, false⟩, ⟨.mv (.t 1), none, false⟩], [(5, 1), (6, 0)], [1, 2, 3, 4], none⟩
abbrev r_ref13_Possible_4 : Reg := ⟨[⟨.mv (.v 1), none, false⟩, ⟨.len (.t 0), none, false⟩, ⟨.mv (.v 2), none, false⟩, ⟨.len (.t 0), none, false⟩, ⟨.bin .neq (.t 2) (.t 0), none, false⟩], [], [4], some (19, 0)⟩
abbrev r_ref13_Possible_5 : Reg := ⟨[⟨.mv (.c (.snil)), none, false⟩, ⟨.mv (.c (.int (1))), none, false⟩], [(5, 1), (6, 0)], [1, 2, 3], none⟩
abbrev r_ref13_Possible_6 : Reg := ⟨[⟨.ldi (.v 3) (some 4), none, false⟩, ⟨.mv (.v 1), none, false⟩, ⟨.mv (.v 2), none, false⟩, ⟨.cal F_ref13_current [(.t 2), (.t 1), (.t 0)], none, false⟩, ⟨.mv (.t 0), none, false⟩, ⟨.mv (.c (.int (0))), none, false⟩], [(5, 1), (6, 0)], [1, 2, 3], none⟩
abbrev ir_ref13_Possible : Fn := { np := 3, nv := 7, res := [(5, none), (6, none)], body :=
(.seq (.reg r_ref13_Possible_0)
 (.seq (.seq (.reg r_ref13_Possible_1)
 (.seq (.reg r_ref13_Possible_2)
 (.cond 13 (.seq (.reg r_ref13_Possible_3)
 .ret) .skip)))
 (.seq (.seq (.reg r_ref13_Possible_4)
 (.cond 19 (.seq (.reg r_ref13_Possible_5)
 .ret) .skip))
 (.seq (.reg r_ref13_Possible_6)
 .ret)))) }
/- f17 homing_Final : 0:m 1:w 2:outs 3:m 4:e 5:l 6:_ 7:_ 8:_ -/
abbrev r_homing_Final_0 : Reg := ⟨[⟨.bxi (.v 0), none, false⟩, ⟨.mv (.c (.int (0))), none, false⟩, ⟨.mv (.c (.bool false)), none, false⟩, ⟨.mv (.c (.int (0))), none, false⟩], [(3, 3)], [0, 6, 7, 8], none⟩
abbrev r_homing_Final_1 : Reg := ⟨[⟨.ldi (.v 3) (some 4), none, false⟩, ⟨.mv (.v 1), none, false⟩, ⟨.mv (.v 2), none, false⟩, ⟨.cal F_homing_Possible [(.t 2), (.t 1), (.t 0)], none, false⟩, ⟨.mv (.t 0), none, false⟩, ⟨.ext (.t 0) 0, none, false⟩, ⟨.ext (.t 1) 1, none, false⟩, ⟨.mv (.t 1), none, false⟩, ⟨.mv (.t 1), none, false⟩], [(5, 1), (4, 0)], [1, 2, 3], none⟩
abbrev r_homing_Final_2 : Reg := ⟨[⟨.mv (.v 4), none, false⟩, ⟨.bin .neq (.t 0) (.c (.int (0))), none, false⟩, ⟨.mv (.t 0), none, false⟩, ⟨.mv (.v 5), some (.t 0, false), false⟩, ⟨.len (.t 0), some (.t 1, false), false⟩, ⟨.bin .neq (.t 0) (.c (.int (1))), some (.t 2, false), false⟩, ⟨.pick (.t 3) (.c (.bool true)) (.t 0), none, false⟩], [], [], some (24, 0)⟩
abbrev r_homing_Final_3 : Reg := ⟨[⟨.mv (.v 4), none, false⟩, ⟨.mv (.c (.int (0))), none, false⟩, ⟨.mv (.c (.bool false)), none, false⟩, ⟨.mv (.t 2), none, false⟩], [(6, 2), (7, 1), (8, 0)], [4, 5], none⟩
abbrev r_homing_Final_4 : Reg := ⟨[⟨.mv (.v 5), none, false⟩, ⟨.iad (.t 0) (.c (.int (0))) 1, none, false⟩, ⟨.ld (.t 0) none, none, false⟩, ⟨.mv (.t 0), none, false⟩, ⟨.mv (.c (.bool true)), none, false⟩, ⟨.mv (.c (.int (0))), none, false⟩], [(6, 2), (7, 1), (8, 0)], [4, 5], none⟩
abbrev ir_homing_Final : Fn := { np := 3, nv := 9, res := [(6, none), (7, none), (8, none)], body :=
(.seq (.reg r_homing_Final_0)
 (.seq (.reg r_homing_Final_1)
 (.seq (.seq (.reg r_homing_Final_2)
 (.cond 24 (.seq (.reg r_homing_Final_3)
 .ret) .skip))
 (.seq (.reg r_homing_Final_4)
 .ret)))) }
/- f18 ref13_Final : 0:m 1:w 2:outs 3:m 4:e 5:l 6:_ 7:_ 8:_ -/
abbrev r_ref13_Final_0 : Reg := ⟨[⟨.bxi (.v 0), none, false⟩, ⟨.mv (.c (.int (0))), none, false⟩, ⟨.mv (.c (.bool false)), none, false⟩, ⟨.mv (.c (.int (0))), none, false⟩], [(3, 3)], [0, 6, 7, 8], none⟩
abbrev r_ref13_Final_1 : Reg := ⟨[⟨.ldi (.v 3) (some 4), none, false⟩, ⟨.mv (.v 1), none, false⟩, ⟨.mv (.v 2), none, false⟩, ⟨.cal F_ref13_Possible [(.t 2), (.t 1), (.t 0)], none, false⟩, ⟨.mv (.t 0), none, false⟩, ⟨.ext (.t 0) 0, none, false⟩, ⟨.ext (.t 1) 1, none, false⟩, ⟨.mv (.t 1), none, false⟩, ⟨.mv (.t 1), none, false⟩], [(5, 1), (4, 0)], [1, 2, 3], none⟩
abbrev r_ref13_Final_2 : Reg := ⟨[⟨.mv (.v 4), none, false⟩, ⟨.bin .neq (.t 0) (.c (.int (0))), none, false⟩, ⟨.mv (.t 0), none, false⟩, ⟨.mv (.v 5), some (.t 0, false), false⟩, ⟨.len (.t 0), some (.t 1, false), false⟩, ⟨.bin .neq (.t 0) (.c (.int (1))), some (.t 2, false), false⟩, ⟨.pick (.t 3) (.c (.bool true)) (.t 0), none, false⟩], [], [], some (24, 0)⟩
abbrev r_ref13_Final_3 : Reg := ⟨[⟨.mv (.v 4), none, false⟩, ⟨.mv (.c (.int (0))), none, false⟩, ⟨.mv (.c (.bool false)), none, false⟩, ⟨.mv (.t 2), none, false⟩], [(6, 2), (7, 1), (8, 0)], [4, 5], none⟩
abbrev r_ref13_Final_4 : Reg := ⟨[⟨.mv (.v 5), none, false⟩, ⟨.iad (.t 0) (.c (.int (0))) 1, none, false⟩, ⟨.ld (.t 0) none, none, false⟩, ⟨.mv (.t 0), none, false⟩, ⟨.mv (.c (.bool true)), none, false⟩, ⟨.mv (.c (.int (0))), none, false⟩], [(6, 2), (7, 1), (8, 0)], [4, 5], none⟩
abbrev ir_ref13_Final : Fn := { np := 3, nv := 9, res := [(6, none), (7, none), (8, none)], body :=
(.seq (.reg r_ref13_Final_0)
 (.seq (.reg r_ref13_Final_1)
 (.seq (.seq (.reg r_ref13_Final_2)
 (.cond 24 (.seq (.reg r_ref13_Final_3)
 .ret) .skip))
 (.seq (.reg r_ref13_Final_4)
 .ret)))) }
/- f19 ref11_Check : 0:m 1:m 2:e 3:_ -/
abbrev r_ref11_Check_0 : Reg := ⟨[⟨.bxi (.v 0), none, false⟩, ⟨.mv (.c (.int (0))), none, false⟩], [(1, 1)], [0, 3], none⟩
abbrev r_ref11_Check_1 : Reg := ⟨[⟨.ldi (.v 1) (some 4), none, false⟩, ⟨.cal F_ref06_Valid [(.t 0)], none, false⟩, ⟨.mv (.t 0), none, false⟩], [(2, 0)], [], none⟩
abbrev r_ref11_Check_2 : Reg := ⟨[⟨.mv (.v 2), none, false⟩, ⟨.bin .neq (.t 0) (.c (.int (0))), none, false⟩], [], [], some (7, 0)⟩
abbrev r_ref11_Check_3 : Reg := ⟨[⟨.mv (.v 2), none, false⟩, ⟨.mv (.t 0), none, false⟩], [(3, 0)], [1, 2], none⟩
abbrev r_ref11_Check_4 : Reg := ⟨[⟨.ldi (.v 1) (some 4), none, false⟩, ⟨.cal F_ref08_Minimal [(.t 0)], none, false⟩, ⟨.not (.t 0), none, false⟩], [], [1, 2], some (11, 0)⟩
abbrev r_ref11_Check_5 : Reg := ⟨[⟨.mv (.c (.int (1))), none, false⟩], [(3, 0)], [], none⟩
abbrev r_ref11_Check_6 : Reg := ⟨[⟨.mv (.c (.int (0))), none, false⟩], [(3, 0)], [], none⟩
abbrev ir_ref11_Check : Fn := { np := 1, nv := 4, res := [(3, none)], body :=
(.seq (.reg r_ref11_Check_0)
 (.seq (.seq (.reg r_ref11_Check_1)
 (.seq (.reg r_ref11_Check_2)
 (.cond 7 (.seq (.reg r_ref11_Check_3)
 .ret) .skip)))
 (.seq (.seq (.reg r_ref11_Check_4)
 (.cond 11 (.seq (.reg r_ref11_Check_5)
 .ret) .skip))
 (.seq (.reg r_ref11_Check_6)
 .ret)))) }
/- f20 mealy_From : 0:m 1:s 2:w 3:m 4:e 5:e 6:r 7:out 8:_ 9:_ 10:_ -/
abbrev r_mealy_From_0 : Reg := ⟨[⟨.bxi (.v 0), none, false⟩, ⟨.mv (.c (.snil)), none, false⟩, ⟨.mv (.c (.int (0))), none, false⟩, ⟨.mv (.c (.int (0))), none, false⟩], [(3, 3)], [0, 8, 9, 10], none⟩
abbrev r_mealy_From_1 : Reg := ⟨[⟨.ldi (.v 3) (some 4), none, false⟩, ⟨.mv (.v 1), none, false⟩, ⟨.cal F_mealy_state [(.t 1), (.t 0)], none, false⟩, ⟨.mv (.t 0), none, false⟩], [(4, 0)], [], none⟩
abbrev r_mealy_From_2 : Reg := ⟨[⟨.mv (.v 4), none, false⟩, ⟨.bin .neq (.t 0) (.c (.int (0))), none, false⟩], [], [], some (17, 0)⟩
abbrev r_mealy_From_3 : Reg := ⟨[⟨.mv (.v 4), none, false⟩, ⟨.mv (.c (.snil)), none, false⟩, ⟨.mv (.c (.int (0))), none, false⟩, ⟨.mv (.t 2), none, false⟩], [(8, 2), (9, 1), (10, 0)], [1, 2, 3, 4], none⟩
abbrev r_mealy_From_4 : Reg := ⟨[⟨.mv (.v 2), none, false⟩, ⟨.fad (.v 3) 0 none, none, false⟩, ⟨.ldi (.t 0) none, none, false⟩, ⟨.cal F_word_Check [(.t 2), (.t 0)], none, false⟩, ⟨.mv (.t 0), none, false⟩], [(5, 0)], [4], none⟩
abbrev r_mealy_From_5 : Reg := ⟨[⟨.mv (.v 5), none, false⟩, ⟨.bin .neq (.t 0) (.c (.int (0))), none, false⟩], [], [], some (24, 0)⟩
abbrev r_mealy_From_6 : Reg := ⟨[⟨.mv (.v 5), none, false⟩, ⟨.mv (.c (.snil)), none, false⟩, ⟨.mv (.c (.int (0))), none, false⟩, ⟨.mv (.t 2), none, false⟩], [(8, 2), (9, 1), (10, 0)], [1, 2, 3, 5], none⟩
abbrev r_mealy_From_7 : Reg := ⟨[⟨.ldi (.v 3) (some 4), none, false⟩, ⟨.bld [.int 0, .int 0, .snil, .snil] [(0, 4, (.t 0))], none, false⟩, ⟨.mv (.v 1), none, false⟩, ⟨.bld [.int 0, .int 0, .snil, .snil, .int 0] [(0, 4, (.t 1)), (4, 1, (.t 0))], none, false⟩, ⟨.bxm (.t 0) (some 5), none, false⟩, ⟨.mv (.t 0), none, false⟩], [(6, 0)], [1, 3, 5], none⟩
abbrev r_mealy_From_8 : Reg := ⟨[⟨.mv (.v 6), none, false⟩, ⟨.mv (.v 2), none, false⟩, ⟨.cam F_mealy_runner_run [(.t 1), (.t 0)], none, false⟩, ⟨.mv (.t 0), none, false⟩], [(7, 0)], [2], none⟩
abbrev r_mealy_From_9 : Reg := ⟨[⟨.mv (.v 7), none, false⟩, ⟨.mv (.v 6), none, false⟩, ⟨.nck (.t 0), none, false⟩, ⟨.fad (.t 0) 4 none, none, false⟩, ⟨.ld (.t 0) none, none, false⟩, ⟨.mv (.t 4), none, false⟩, ⟨.mv (.t 1), none, false⟩, ⟨.mv (.c (.int (0))), none, false⟩], [(8, 2), (9, 1), (10, 0)], [6, 7], none⟩
abbrev ir_mealy_From : Fn := { np := 3, nv := 11, res := [(8, none), (9, none), (10, none)], body :=
(.seq (.reg r_mealy_From_0)
 (.seq (.seq (.reg r_mealy_From_1)
 (.seq (.reg r_mealy_From_2)
 (.cond 17 (.seq (.reg r_mealy_From_3)
 .ret) .skip)))
 (.seq (.seq (.reg r_mealy_From_4)
 (.seq (.reg r_mealy_From_5)
 (.cond 24 (.seq (.reg r_mealy_From_6)
 .ret) .skip)))
 (.seq (.reg r_mealy_From_7)
 (.seq (.reg r_mealy_From_8)
 (.seq (.reg r_mealy_From_9)
 .ret)))))) }
/- f21 ref06_Valid : 0:m 1:m 2:s 3:e 4:_ -/
abbrev r_ref06_Valid_0 : Reg := ⟨[⟨.bxi (.v 0), none, false⟩, ⟨.mv (.c (.int (0))), none, false⟩], [(1, 1)], [0, 4], none⟩
abbrev r_ref06_Valid_1 : Reg := ⟨[⟨.fad (.v 1) 0 none, none, false⟩, ⟨.ldi (.t 0) none, none, false⟩, ⟨.bin .lss (.t 0) (.c (.int (1))), none, false⟩, ⟨.mv (.t 0), none, false⟩, ⟨.fad (.v 1) 0 none, some (.t 0, false), false⟩, ⟨.ldi (.t 0) none, some (.t 1, false), false⟩, ⟨.bin .gtr (.t 0) (.c (.int (64))), some (.t 2, false), false⟩, ⟨.pick (.t 3) (.c (.bool true)) (.t 0), none, false⟩], [], [], some (12, 0)⟩
abbrev r_ref06_Valid_2 : Reg := ⟨[⟨.mv (.c (.int (2))), none, false⟩], [(4, 0)], [1], none⟩
abbrev r_ref06_Valid_3 : Reg := ⟨[⟨.fad (.v 1) 2 none, none, false⟩, ⟨.ldi (.t 0) none, none, false⟩, ⟨.len (.t 0), none, false⟩, ⟨.bin .eql (.t 0) (.c (.int (0))), none, false⟩], [], [], some (16, 0)⟩
abbrev r_ref06_Valid_4 : Reg := ⟨[⟨.mv (.c (.int (19))), none, false⟩], [(4, 0)], [1], none⟩
abbrev r_ref06_Valid_5 : Reg := ⟨[⟨.fad (.v 1) 2 none, none, false⟩, ⟨.ldi (.t 0) none, none, false⟩, ⟨.len (.t 0), none, false⟩, ⟨.bin .gtr (.t 0) (.c (.int (128))), none, false⟩], [], [], some (20, 0)⟩
abbrev r_ref06_Valid_6 : Reg := ⟨[⟨.mv (.c (.int (11))), none, false⟩], [(4, 0)], [1], none⟩
abbrev r_ref06_Valid_7 : Reg := ⟨[⟨.fad (.v 1) 1 none, none, false⟩, ⟨.ldi (.t 0) none, none, false⟩, ⟨.bin .lss (.t 0) (.c (.int (0))), none, false⟩, ⟨.mv (.t 0), none, false⟩, ⟨.fad (.v 1) 1 none, some (.t 0, false), false⟩, ⟨.ldi (.t 0) none, some (.t 1, false), false⟩, ⟨.fad (.v 1) 2 none, some (.t 2, false), false⟩, ⟨.ldi (.t 0) none, some (.t 3, false), false⟩, ⟨.len (.t 0), some (.t 4, false), false⟩, ⟨.bin .geq (.t 3) (.t 0), some (.t 5, false), false⟩, ⟨.pick (.t 6) (.c (.bool true)) (.t 0), none, false⟩], [], [], some (31, 0)⟩
abbrev r_ref06_Valid_8 : Reg := ⟨[⟨.mv (.c (.int (2))), none, false⟩], [(4, 0)], [1], none⟩
abbrev r_ref06_Valid_9 : Reg := ⟨[⟨.fad (.v 1) 3 none, none, false⟩, ⟨.ldi (.t 0) none, none, false⟩, ⟨.len (.t 0), none, false⟩, ⟨.fad (.v 1) 2 none, none, false⟩, ⟨.ldi (.t 0) none, none, false⟩, ⟨.len (.t 0), none, false⟩, ⟨.bin .neq (.t 3) (.t 0), none, false⟩], [], [], some (38, 0)⟩
abbrev r_ref06_Valid_10 : Reg := ⟨[⟨.mv (.c (.int (1))), none, false⟩], [(4, 0)], [1], none⟩
abbrev r_ref06_Valid_11 : Reg := ⟨[⟨.mv (.c (.int (0))), none, false⟩], [(2, 0)], [], none⟩
abbrev r_ref06_Valid_12 : Reg := ⟨[⟨.mv (.v 2), none, false⟩, ⟨.fad (.v 1) 2 none, none, false⟩, ⟨.ldi (.t 0) none, none, false⟩, ⟨.len (.t 0), none, false⟩, ⟨.bin .lss (.t 3) (.t 0), none, false⟩], [], [], some (43, 0)⟩
abbrev r_ref06_Valid_14 : Reg := ⟨[⟨.ldi (.v 1) (some 4), none, false⟩, ⟨.mv (.v 2), none, false⟩, ⟨.cal F_ref06_row [(.t 1), (.t 0)], none, false⟩, ⟨.mv (.t 0), none, false⟩], [(3, 0)], [], none⟩
abbrev r_ref06_Valid_15 : Reg := ⟨[⟨.mv (.v 3), none, false⟩, ⟨.bin .neq (.t 0) (.c (.int (0))), none, false⟩], [], [], some (50, 0)⟩
abbrev r_ref06_Valid_16 : Reg := ⟨[⟨.mv (.v 3), none, false⟩, ⟨.mv (.t 0), none, false⟩], [(4, 0)], [1, 2, 3], none⟩
abbrev r_ref06_Valid_13 : Reg := ⟨[⟨.mv (.v 2), none, false⟩, ⟨.bin .add (.t 0) (.c (.int (1))), none, false⟩, ⟨.mv (.t 0), none, false⟩], [(2, 0)], [3], none⟩
abbrev b_ref06_Valid_0 : IC := (.seq (.seq (.reg r_ref06_Valid_12)
 (.cond 43 .skip (.exit 0)))
 (.seq (.block 1 (.seq (.reg r_ref06_Valid_14)
 (.seq (.reg r_ref06_Valid_15)
 (.cond 50 (.seq (.reg r_ref06_Valid_16)
 .ret) .skip))))
 (.reg r_ref06_Valid_13)))
abbrev r_ref06_Valid_17 : Reg := ⟨[⟨.mv (.c (.int (0))), none, false⟩], [(4, 0)], [1, 2], none⟩
abbrev ir_ref06_Valid : Fn := { np := 1, nv := 5, res := [(4, none)], body :=
(.seq (.reg r_ref06_Valid_0)
 (.seq (.seq (.reg r_ref06_Valid_1)
 (.cond 12 (.seq (.reg r_ref06_Valid_2)
 .ret) .skip))
 (.seq (.seq (.reg r_ref06_Valid_3)
 (.cond 16 (.seq (.reg r_ref06_Valid_4)
 .ret) .skip))
 (.seq (.seq (.reg r_ref06_Valid_5)
 (.cond 20 (.seq (.reg r_ref06_Valid_6)
 .ret) .skip))
 (.seq (.seq (.reg r_ref06_Valid_7)
 (.cond 31 (.seq (.reg r_ref06_Valid_8)
 .ret) .skip))
 (.seq (.seq (.reg r_ref06_Valid_9)
 (.cond 38 (.seq (.reg r_ref06_Valid_10)
 .ret) .skip))
 (.seq (.seq (.reg r_ref06_Valid_11)
 (.block 0 (.loop b_ref06_Valid_0)))
 (.seq (.reg r_ref06_Valid_17)
 .ret)))))))) }
/- f22 mealy_Run : 0:m 1:w 2:m 3:out 4:e 5:_ 6:_ -/
abbrev r_mealy_Run_0 : Reg := ⟨[⟨.bxi (.v 0), none, false⟩, ⟨.mv (.c (.snil)), none, false⟩, ⟨.mv (.c (.int (0))), none, false⟩], [(2, 2)], [0, 5, 6], none⟩
abbrev r_mealy_Run_1 : Reg := ⟨[⟨.ldi (.v 2) (some 4), none, false⟩, ⟨.fad (.v 2) 1 none, none, false⟩, ⟨.ldi (.t 0) none, none, false⟩, ⟨.mv (.v 1), none, false⟩, ⟨.cal F_mealy_From [(.t 3), (.t 1), (.t 0)], none, false⟩, ⟨.mv (.t 0), none, false⟩, ⟨.ext (.t 0) 0, none, false⟩, ⟨.ext (.t 1) 1, none, false⟩, ⟨.ext (.t 2) 2, none, false⟩, ⟨.mv (.t 2), none, false⟩, ⟨.mv (.t 2), none, false⟩, ⟨.mv (.t 2), none, false⟩], [(3, 2), (4, 0)], [1, 2], none⟩
abbrev r_mealy_Run_2 : Reg := ⟨[⟨.mv (.v 3), none, false⟩, ⟨.mv (.v 4), none, false⟩, ⟨.mv (.t 1), none, false⟩, ⟨.mv (.t 1), none, false⟩], [(5, 1), (6, 0)], [3, 4], none⟩
abbrev ir_mealy_Run : Fn := { np := 2, nv := 7, res := [(5, none), (6, none)], body :=
(.seq (.reg r_mealy_Run_0)
 (.seq (.reg r_mealy_Run_1)
 (.seq (.reg r_mealy_Run_2)
 .ret))) }
/- f23 law08_Great : 0:m 1:m 2:_ 3:_ 4:i 5:_ 6:_ 7:i 8:_ -/
abbrev r_law08_Great_0 : Reg := ⟨[⟨.bxi (.v 0), none, false⟩, ⟨.mv (.c (.bool false)), none, false⟩], [(1, 1)], [0, 8], none⟩
abbrev r_law08_Great_1 : Reg := ⟨[⟨.fad (.v 1) 2 none, none, false⟩, ⟨.ldi (.t 0) none, none, false⟩, ⟨.len (.t 0), none, false⟩, ⟨.bin .gtr (.t 0) (.c (.int (12))), none, false⟩, ⟨.mv (.t 0), none, false⟩, ⟨.fad (.v 1) 3 none, some (.t 0, false), false⟩, ⟨.ldi (.t 0) none, some (.t 1, false), false⟩, ⟨.len (.t 0), some (.t 2, false), false⟩, ⟨.bin .gtr (.t 0) (.c (.int (12))), some (.t 3, false), false⟩, ⟨.pick (.t 4) (.c (.bool true)) (.t 0), none, false⟩, ⟨.mv (.t 0), none, false⟩, ⟨.fad (.v 1) 0 none, some (.t 0, false), false⟩, ⟨.ldi (.t 0) none, some (.t 1, false), false⟩, ⟨.bin .gtr (.t 0) (.c (.int (6))), some (.t 2, false), false⟩, ⟨.pick (.t 3) (.c (.bool true)) (.t 0), none, false⟩], [], [], some (19, 0)⟩
abbrev r_law08_Great_2 : Reg := ⟨[⟨.mv (.c (.bool true)), none, false⟩], [(8, 0)], [1], none⟩
abbrev r_law08_Great_3 : Reg := ⟨[⟨.fad (.v 1) 2 none, none, false⟩, ⟨.ldi (.t 0) none, none, false⟩, ⟨.len (.t 0), none, false⟩, ⟨.mv (.c (.int (0))), none, false⟩], [(3, 1), (2, 0)], [], none⟩
abbrev r_law08_Great_4 : Reg := ⟨[⟨.bin .lss (.v 2) (.v 3), none, false⟩], [], [], some (24, 0)⟩
abbrev r_law08_Great_5 : Reg := ⟨[⟨.mv (.v 2), none, false⟩, ⟨.mv (.t 0), none, false⟩], [(4, 0)], [], none⟩
abbrev r_law08_Great_6 : Reg := ⟨[⟨.fad (.v 1) 2 none, none, false⟩, ⟨.ldi (.t 0) none, none, false⟩, ⟨.mv (.v 4), none, false⟩, ⟨.iad (.t 1) (.t 0) 1, none, false⟩, ⟨.ldi (.t 0) none, none, false⟩, ⟨.len (.t 0), none, false⟩, ⟨.bin .gtr (.t 0) (.c (.int (12))), none, false⟩], [], [4], some (32, 0)⟩
abbrev r_law08_Great_7 : Reg := ⟨[⟨.mv (.c (.bool true)), none, false⟩], [(8, 0)], [1, 2, 3], none⟩
abbrev r_law08_Great_8 : Reg := ⟨[⟨.bin .add (.v 2) (.c (.int (1))), none, false⟩, ⟨.mv (.t 0), none, false⟩], [(2, 0)], [], none⟩
abbrev b_law08_Great_0 : IC := (.seq (.reg r_law08_Great_4)
 (.seq (.cond 24 .skip (.exit 0))
 (.seq (.block 1 (.seq (.reg r_law08_Great_5)
 (.seq (.reg r_law08_Great_6)
 (.cond 32 (.seq (.reg r_law08_Great_7)
 .ret) .skip))))
 (.reg r_law08_Great_8))))
abbrev r_law08_Great_9 : Reg := ⟨[⟨.fad (.v 1) 3 none, none, false⟩, ⟨.ldi (.t 0) none, none, false⟩, ⟨.len (.t 0), none, false⟩, ⟨.mv (.c (.int (0))), none, false⟩], [(6, 1), (5, 0)], [2, 3], none⟩
abbrev r_law08_Great_10 : Reg := ⟨[⟨.bin .lss (.v 5) (.v 6), none, false⟩], [], [], some (38, 0)⟩
abbrev r_law08_Great_11 : Reg := ⟨[⟨.mv (.v 5), none, false⟩, ⟨.mv (.t 0), none, false⟩], [(7, 0)], [], none⟩
abbrev r_law08_Great_12 : Reg := ⟨[⟨.fad (.v 1) 3 none, none, false⟩, ⟨.ldi (.t 0) none, none, false⟩, ⟨.mv (.v 7), none, false⟩, ⟨.iad (.t 1) (.t 0) 1, none, false⟩, ⟨.ldi (.t 0) none, none, false⟩, ⟨.len (.t 0), none, false⟩, ⟨.bin .gtr (.t 0) (.c (.int (12))), none, false⟩], [], [7], some (46, 0)⟩
abbrev r_law08_Great_13 : Reg := ⟨[⟨.mv (.c (.bool true)), none, false⟩], [(8, 0)], [1, 5, 6], none⟩
abbrev r_law08_Great_14 : Reg := ⟨[⟨.bin .add (.v 5) (.c (.int (1))), none, false⟩, ⟨.mv (.t 0), none, false⟩], [(5, 0)], [], none⟩
abbrev b_law08_Great_2 : IC := (.seq (.reg r_law08_Great_10)
 (.seq (.cond 38 .skip (.exit 2))
 (.seq (.block 3 (.seq (.reg r_law08_Great_11)
 (.seq (.reg r_law08_Great_12)
 (.cond 46 (.seq (.reg r_law08_Great_13)
 .ret) .skip))))
 (.reg r_law08_Great_14))))
abbrev r_law08_Great_15 : Reg := ⟨[⟨.mv (.c (.bool false)), none, false⟩], [(8, 0)], [1, 5, 6], none⟩
abbrev ir_law08_Great : Fn := { np := 1, nv := 9, res := [(8, none)], body :=
(.seq (.reg r_law08_Great_0)
 (.seq (.seq (.reg r_law08_Great_1)
 (.cond 19 (.seq (.reg r_law08_Great_2)
 .ret) .skip))
 (.seq (.seq (.reg r_law08_Great_3)
 (.block 0 (.loop b_law08_Great_0)))
 (.seq (.seq (.reg r_law08_Great_9)
 (.block 2 (.loop b_law08_Great_2)))
 (.seq (.reg r_law08_Great_15)
 .ret))))) }
/- f24 mealy_Valid : 0:m 1:m 2:n 3:_ 4:_ 5:s 6:_ 7:_ 8:a 9:t 10:o 11:_ -/
abbrev r_mealy_Valid_0 : Reg := ⟨[⟨.bxi (.v 0), none, false⟩, ⟨.mv (.c (.int (0))), none, false⟩], [(1, 1)], [0, 11], none⟩
abbrev r_mealy_Valid_1 : Reg := ⟨[⟨.fad (.v 1) 2 none, none, false⟩, ⟨.ldi (.t 0) none, none, false⟩, ⟨.len (.t 0), none, false⟩, ⟨.mv (.t 0), none, false⟩], [(2, 0)], [], none⟩
abbrev r_mealy_Valid_2 : Reg := ⟨[⟨.fad (.v 1) 0 none, none, false⟩, ⟨.ldi (.t 0) none, none, false⟩, ⟨.bin .lss (.t 0) (.c (.int (1))), none, false⟩, ⟨.mv (.t 0), none, false⟩, ⟨.fad (.v 1) 0 none, some (.t 0, false), false⟩, ⟨.ldi (.t 0) none, some (.t 1, false), false⟩, ⟨.bin .gtr (.t 0) (.c (.int (64))), some (.t 2, false), false⟩, ⟨.pick (.t 3) (.c (.bool true)) (.t 0), none, false⟩, ⟨.mv (.t 0), none, false⟩], [], [], some (11, 0)⟩
abbrev r_mealy_Valid_3 : Reg := ⟨[⟨.mv (.c (.int (2))), none, false⟩], [(11, 0)], [1, 2], none⟩
abbrev r_mealy_Valid_4 : Reg := ⟨[⟨.mv (.v 2), none, false⟩, ⟨.bin .eql (.t 0) (.c (.int (0))), none, false⟩, ⟨.mv (.t 0), none, false⟩], [], [], some (20, 0)⟩
abbrev r_mealy_Valid_5 : Reg := ⟨[⟨.mv (.c (.int (19))), none, false⟩], [(11, 0)], [1, 2], none⟩
abbrev r_mealy_Valid_6 : Reg := ⟨[⟨.mv (.v 2), none, false⟩, ⟨.bin .gtr (.t 0) (.c (.int (128))), none, false⟩, ⟨.mv (.t 0), none, false⟩], [], [], some (23, 0)⟩
abbrev r_mealy_Valid_7 : Reg := ⟨[⟨.mv (.c (.int (11))), none, false⟩], [(11, 0)], [1, 2], none⟩
abbrev r_mealy_Valid_8 : Reg := ⟨[⟨.fad (.v 1) 1 none, none, false⟩, ⟨.ldi (.t 0) none, none, false⟩, ⟨.bin .lss (.t 0) (.c (.int (0))), none, false⟩, ⟨.mv (.t 0), none, false⟩, ⟨.fad (.v 1) 1 none, some (.t 0, false), false⟩, ⟨.ldi (.t 0) none, some (.t 1, false), false⟩, ⟨.mv (.v 2), some (.t 2, false), false⟩, ⟨.bin .geq (.t 1) (.t 0), some (.t 3, false), false⟩, ⟨.pick (.t 4) (.c (.bool true)) (.t 0), none, false⟩, ⟨.mv (.t 0), none, false⟩], [], [], some (26, 0)⟩
abbrev r_mealy_Valid_9 : Reg := ⟨[⟨.mv (.c (.int (2))), none, false⟩], [(11, 0)], [1, 2], none⟩
abbrev r_mealy_Valid_10 : Reg := ⟨[⟨.fad (.v 1) 3 none, none, false⟩, ⟨.ldi (.t 0) none, none, false⟩, ⟨.len (.t 0), none, false⟩, ⟨.mv (.v 2), none, false⟩, ⟨.bin .neq (.t 1) (.t 0), none, false⟩, ⟨.mv (.t 0), none, false⟩], [], [], some (36, 0)⟩
abbrev r_mealy_Valid_11 : Reg := ⟨[⟨.mv (.c (.int (1))), none, false⟩], [(11, 0)], [1, 2], none⟩
abbrev r_mealy_Valid_12 : Reg := ⟨[⟨.mv (.v 2), none, false⟩, ⟨.mv (.c (.int (0))), none, false⟩], [(4, 1), (3, 0)], [], none⟩
abbrev r_mealy_Valid_13 : Reg := ⟨[⟨.bin .lss (.v 3) (.v 4), none, false⟩], [], [], some (44, 0)⟩
abbrev r_mealy_Valid_14 : Reg := ⟨[⟨.mv (.v 3), none, false⟩, ⟨.mv (.t 0), none, false⟩], [(5, 0)], [], none⟩
abbrev r_mealy_Valid_15 : Reg := ⟨[⟨.fad (.v 1) 2 none, none, false⟩, ⟨.ldi (.t 0) none, none, false⟩, ⟨.mv (.v 5), none, false⟩, ⟨.iad (.t 1) (.t 0) 1, none, false⟩, ⟨.ldi (.t 0) none, none, false⟩, ⟨.len (.t 0), none, false⟩, ⟨.fad (.v 1) 0 none, none, false⟩, ⟨.ldi (.t 0) none, none, false⟩, ⟨.bin .neq (.t 2) (.t 0), none, false⟩, ⟨.mv (.t 0), none, false⟩, ⟨.fad (.v 1) 3 none, some (.t 0, false), false⟩, ⟨.ldi (.t 0) none, some (.t 1, false), false⟩, ⟨.mv (.v 5), some (.t 2, false), false⟩, ⟨.iad (.t 1) (.t 0) 1, some (.t 3, false), false⟩, ⟨.ldi (.t 0) none, some (.t 4, false), false⟩, ⟨.len (.t 0), some (.t 5, false), false⟩, ⟨.fad (.v 1) 0 none, some (.t 6, false), false⟩, ⟨.ldi (.t 0) none, some (.t 7, false), false⟩, ⟨.bin .neq (.t 2) (.t 0), some (.t 8, false), false⟩, ⟨.pick (.t 9) (.c (.bool true)) (.t 0), none, false⟩], [], [], some (65, 0)⟩
abbrev r_mealy_Valid_16 : Reg := ⟨[⟨.mv (.c (.int (1))), none, false⟩], [(11, 0)], [1, 2, 3, 4, 5], none⟩
abbrev r_mealy_Valid_17 : Reg := ⟨[⟨.fad (.v 1) 0 none, none, false⟩, ⟨.ldi (.t 0) none, none, false⟩, ⟨.mv (.c (.int (0))), none, false⟩], [(7, 1), (6, 0)], [], none⟩
abbrev r_mealy_Valid_18 : Reg := ⟨[⟨.bin .lss (.v 6) (.v 7), none, false⟩], [], [], some (69, 0)⟩
abbrev r_mealy_Valid_19 : Reg := ⟨[⟨.mv (.v 6), none, false⟩, ⟨.mv (.t 0), none, false⟩], [(8, 0)], [], none⟩
abbrev r_mealy_Valid_20 : Reg := ⟨[⟨.fad (.v 1) 2 none, none, false⟩, ⟨.ldi (.t 0) none, none, false⟩, ⟨.mv (.v 5), none, false⟩, ⟨.iad (.t 1) (.t 0) 1, none, false⟩, ⟨.ldi (.t 0) none, none, false⟩, ⟨.mv (.v 8), none, false⟩, ⟨.iad (.t 1) (.t 0) 1, none, false⟩, ⟨.ldi (.t 0) none, none, false⟩, ⟨.fad (.v 1) 3 none, none, false⟩, ⟨.ldi (.t 0) none, none, false⟩, ⟨.mv (.v 5), none, false⟩, ⟨.iad (.t 1) (.t 0) 1, none, false⟩, ⟨.ldi (.t 0) none, none, false⟩, ⟨.mv (.v 8), none, false⟩, ⟨.iad (.t 1) (.t 0) 1, none, false⟩, ⟨.ldi (.t 0) none, none, false⟩, ⟨.mv (.t 8), none, false⟩, ⟨.mv (.t 1), none, false⟩], [(9, 1), (10, 0)], [8], none⟩
abbrev r_mealy_Valid_21 : Reg := ⟨[⟨.mv (.v 9), none, false⟩, ⟨.bin .lss (.t 0) (.c (.int (0))), none, false⟩, ⟨.mv (.t 0), none, false⟩, ⟨.mv (.v 9), some (.t 0, false), false⟩, ⟨.mv (.v 2), some (.t 1, false), false⟩, ⟨.bin .geq (.t 1) (.t 0), some (.t 2, false), false⟩, ⟨.pick (.t 3) (.c (.bool true)) (.t 0), none, false⟩, ⟨.mv (.t 0), none, false⟩, ⟨.mv (.v 10), some (.t 0, false), false⟩, ⟨.bin .lss (.t 0) (.c (.int (0))), some (.t 1, false), false⟩, ⟨.pick (.t 2) (.c (.bool true)) (.t 0), none, false⟩, ⟨.mv (.t 0), none, false⟩, ⟨.mv (.v 10), some (.t 0, false), false⟩, ⟨.bin .gtr (.t 0) (.c (.int (1048576))), some (.t 1, false), false⟩, ⟨.pick (.t 2) (.c (.bool true)) (.t 0), none, false⟩], [], [9, 10], some (101, 0)⟩
abbrev r_mealy_Valid_22 : Reg := ⟨[⟨.mv (.c (.int (2))), none, false⟩], [(11, 0)], [1, 2, 3, 4, 5, 6, 7], none⟩
abbrev r_mealy_Valid_23 : Reg := ⟨[⟨.bin .add (.v 6) (.c (.int (1))), none, false⟩, ⟨.mv (.t 0), none, false⟩], [(6, 0)], [], none⟩
abbrev b_mealy_Valid_3 : IC := (.seq (.reg r_mealy_Valid_18)
 (.seq (.cond 69 .skip (.exit 3))
 (.seq (.block 4 (.seq (.reg r_mealy_Valid_19)
 (.seq (.reg r_mealy_Valid_20)
 (.seq (.reg r_mealy_Valid_21)
 (.cond 101 (.seq (.reg r_mealy_Valid_22)
 .ret) .skip)))))
 (.reg r_mealy_Valid_23))))
abbrev r_mealy_Valid_24 : Reg := ⟨[⟨.bin .add (.v 3) (.c (.int (1))), none, false⟩, ⟨.mv (.t 0), none, false⟩], [(3, 0)], [5, 6, 7], none⟩
abbrev b_mealy_Valid_1 : IC := (.seq (.reg r_mealy_Valid_13)
 (.seq (.cond 44 .skip (.exit 1))
 (.seq (.block 2 (.seq (.reg r_mealy_Valid_14)
 (.seq (.seq (.reg r_mealy_Valid_15)
 (.cond 65 (.seq (.reg r_mealy_Valid_16)
 .ret) .skip))
 (.seq (.reg r_mealy_Valid_17)
 (.block 3 (.loop b_mealy_Valid_3))))))
 (.reg r_mealy_Valid_24))))
abbrev r_mealy_Valid_25 : Reg := ⟨[⟨.mv (.c (.int (0))), none, false⟩], [(11, 0)], [1, 2, 3, 4], none⟩
abbrev ir_mealy_Valid : Fn := { np := 1, nv := 12, res := [(11, none)], body :=
(.seq (.reg r_mealy_Valid_0)
 (.seq (.reg r_mealy_Valid_1)
 (.seq (.block 0 (.seq (.reg r_mealy_Valid_2)
 (.cond 11 (.seq (.reg r_mealy_Valid_3)
 .ret) (.seq (.reg r_mealy_Valid_4)
 (.cond 20 (.seq (.reg r_mealy_Valid_5)
 .ret) (.seq (.reg r_mealy_Valid_6)
 (.cond 23 (.seq (.reg r_mealy_Valid_7)
 .ret) (.seq (.reg r_mealy_Valid_8)
 (.cond 26 (.seq (.reg r_mealy_Valid_9)
 .ret) (.seq (.reg r_mealy_Valid_10)
 (.cond 36 (.seq (.reg r_mealy_Valid_11)
 .ret) .skip)))))))))))
 (.seq (.seq (.reg r_mealy_Valid_12)
 (.block 1 (.loop b_mealy_Valid_1)))
 (.seq (.reg r_mealy_Valid_25)
 .ret))))) }
/- f25 minimize_Minimal : 0:m 1:m 2:e 3:n 4:_ -/
abbrev r_minimize_Minimal_0 : Reg := ⟨[⟨.bxi (.v 0), none, false⟩, ⟨.mv (.c (.bool false)), none, false⟩], [(1, 1)], [0, 4], none⟩
abbrev r_minimize_Minimal_1 : Reg := ⟨[⟨.ldi (.v 1) (some 4), none, false⟩, ⟨.cal F_mealy_Valid [(.t 0)], none, false⟩, ⟨.bin .neq (.t 0) (.c (.int (0))), none, false⟩, ⟨.mv (.t 0), none, false⟩, ⟨.ldi (.v 1) (some 4), some (.t 0, false), false⟩, ⟨.cal F_mealy_Reach [(.t 0)], some (.t 1, false), false⟩, ⟨.len (.t 0), some (.t 2, false), false⟩, ⟨.fad (.v 1) 2 none, some (.t 3, false), false⟩, ⟨.ldi (.t 0) none, some (.t 4, false), false⟩, ⟨.len (.t 0), some (.t 5, false), false⟩, ⟨.bin .neq (.t 3) (.t 0), some (.t 6, false), false⟩, ⟨.pick (.t 7) (.c (.bool true)) (.t 0), none, false⟩], [], [], some (16, 0)⟩
abbrev r_minimize_Minimal_2 : Reg := ⟨[⟨.mv (.c (.bool false)), none, false⟩], [(4, 0)], [1], none⟩
abbrev r_minimize_Minimal_3 : Reg := ⟨[⟨.ldi (.v 1) (some 4), none, false⟩, ⟨.cal F_minimize_Min [(.t 0)], none, false⟩, ⟨.mv (.t 0), none, false⟩, ⟨.ext (.t 0) 0, none, false⟩, ⟨.ext (.t 1) 1, none, false⟩, ⟨.alc0 4, none, false⟩, ⟨.ini (.t 0) (.t 2) 4, none, false⟩, ⟨.mv (.t 2), none, false⟩], [(3, 1), (2, 0)], [], none⟩
abbrev r_minimize_Minimal_4 : Reg := ⟨[⟨.mv (.v 2), none, false⟩, ⟨.bin .eql (.t 0) (.c (.int (0))), none, false⟩, ⟨.mv (.t 0), none, false⟩, ⟨.fad (.v 3) 2 none, some (.t 0, true), false⟩, ⟨.ldi (.t 0) none, some (.t 1, true), false⟩, ⟨.len (.t 0), some (.t 2, true), false⟩, ⟨.fad (.v 1) 2 none, some (.t 3, true), false⟩, ⟨.ldi (.t 0) none, some (.t 4, true), false⟩, ⟨.len (.t 0), some (.t 5, true), false⟩, ⟨.bin .eql (.t 3) (.t 0), some (.t 6, true), false⟩, ⟨.pick (.t 7) (.t 0) (.c (.bool false)), none, false⟩, ⟨.mv (.t 0), none, false⟩], [(4, 0)], [1, 2, 3], none⟩
abbrev ir_minimize_Minimal : Fn := { np := 1, nv := 5, res := [(4, none)], body :=
(.seq (.reg r_minimize_Minimal_0)
 (.seq (.seq (.reg r_minimize_Minimal_1)
 (.cond 16 (.seq (.reg r_minimize_Minimal_2)
 .ret) .skip))
 (.seq (.reg r_minimize_Minimal_3)
 (.seq (.reg r_minimize_Minimal_4)
 .ret)))) }
/- f26 homing_groups : 0:m 1:w 2:m 3:_ 4:_ 5:s 6:l 7:outs 8:i 9:t 10:_ -/
abbrev r_homing_groups_0 : Reg := ⟨[⟨.bxi (.v 0), none, false⟩, ⟨.mv (.c (.snil)), none, false⟩], [(2, 1)], [0, 10], none⟩
abbrev r_homing_groups_1 : Reg := ⟨[⟨.nl (some 2), none, false⟩], [(6, 0)], [], none⟩
abbrev r_homing_groups_2 : Reg := ⟨[⟨.fad (.v 2) 2 none, none, false⟩, ⟨.ldi (.t 0) none, none, false⟩, ⟨.len (.t 0), none, false⟩, ⟨.mv (.c (.int (0))), none, false⟩], [(4, 1), (3, 0)], [], none⟩
abbrev r_homing_groups_3 : Reg := ⟨[⟨.bin .lss (.v 3) (.v 4), none, false⟩], [], [], some (15, 0)⟩
abbrev r_homing_groups_4 : Reg := ⟨[⟨.mv (.v 3), none, false⟩, ⟨.mv (.t 0), none, false⟩], [(5, 0)], [], none⟩
abbrev r_homing_groups_5 : Reg := ⟨[⟨.ldi (.v 2) (some 4), none, false⟩, ⟨.mv (.v 5), none, false⟩, ⟨.mv (.v 1), none, false⟩, ⟨.cal F_mealy_From [(.t 2), (.t 1), (.t 0)], none, false⟩, ⟨.mv (.t 0), none, false⟩, ⟨.ext (.t 0) 0, none, false⟩, ⟨.ext (.t 1) 1, none, false⟩, ⟨.ext (.t 2) 2, none, false⟩, ⟨.alc0 1, none, false⟩, ⟨.ini (.t 0) (.t 3) 1, none, false⟩, ⟨.mv (.t 3), none, false⟩, ⟨.mv (.t 3), none, false⟩], [(7, 2), (9, 1)], [5], none⟩
abbrev r_homing_groups_6 : Reg := ⟨[⟨.mv (.v 6), none, false⟩, ⟨.mkf F_homing_groups_1 [(.v 7)], none, false⟩, ⟨.cab F_slices_IndexFunc_Shoming_group_homing_group [(.t 1), (.t 0)], none, false⟩, ⟨.mv (.t 0), none, false⟩], [(8, 0)], [], none⟩
abbrev r_homing_groups_7 : Reg := ⟨[⟨.mv (.v 8), none, false⟩, ⟨.bin .lss (.t 0) (.c (.int (0))), none, false⟩], [], [], some (29, 0)⟩
abbrev r_homing_groups_8 : Reg := ⟨[⟨.mv (.v 6), none, false⟩, ⟨.ldi (.v 7) none, none, false⟩, ⟨.mv (.v 9), none, false⟩, ⟨.liti [(.t 0)] 1, none, false⟩, ⟨.bld [.snil, .snil] [(0, 1, (.t 2)), (1, 1, (.t 0))], none, false⟩, ⟨.lita [(.t 0)] 2, none, false⟩, ⟨.appw (.t 5) (.t 0) (some 2), none, false⟩, ⟨.mv (.t 0), none, false⟩], [(6, 0)], [7, 8, 9], none⟩
abbrev r_homing_groups_9 : Reg := ⟨[⟨.mv (.v 6), none, false⟩, ⟨.mv (.v 8), none, false⟩, ⟨.mv (.v 6), none, false⟩, ⟨.mv (.v 8), none, false⟩, ⟨.iad (.t 1) (.t 0) 2, none, false⟩, ⟨.fad (.t 0) 1 none, none, false⟩, ⟨.ld (.t 0) none, none, false⟩, ⟨.mv (.v 9), none, false⟩, ⟨.cal F_homing_put [(.t 1), (.t 0)], none, false⟩, ⟨.iad (.t 8) (.t 7) 2, none, false⟩, ⟨.fad (.t 0) 1 none, none, false⟩, ⟨.st (.t 0) (.t 2) 1, none, false⟩], [], [7, 8, 9], none⟩
abbrev r_homing_groups_10 : Reg := ⟨[⟨.bin .add (.v 3) (.c (.int (1))), none, false⟩, ⟨.mv (.t 0), none, false⟩], [(3, 0)], [], none⟩
abbrev b_homing_groups_0 : IC := (.seq (.reg r_homing_groups_3)
 (.seq (.cond 15 .skip (.exit 0))
 (.seq (.block 1 (.seq (.reg r_homing_groups_4)
 (.seq (.reg r_homing_groups_5)
 (.seq (.reg r_homing_groups_6)
 (.seq (.reg r_homing_groups_7)
 (.cond 29 (.reg r_homing_groups_8) (.reg r_homing_groups_9)))))))
 (.reg r_homing_groups_10))))
abbrev r_homing_groups_11 : Reg := ⟨[⟨.mv (.v 6), none, false⟩, ⟨.cam F_slices_SortFunc_Shoming_group_homing_group [(.t 0), (.c (.func F_homing_groups_2 []))], none, false⟩], [], [1, 2, 3, 4], none⟩
abbrev r_homing_groups_12 : Reg := ⟨[⟨.mv (.v 6), none, false⟩, ⟨.mv (.t 0), none, false⟩], [(10, 0)], [6], none⟩
abbrev ir_homing_groups : Fn := { np := 2, nv := 11, res := [(10, none)], body :=
(.seq (.reg r_homing_groups_0)
 (.seq (.reg r_homing_groups_1)
 (.seq (.seq (.reg r_homing_groups_2)
 (.block 0 (.loop b_homing_groups_0)))
 (.seq (.reg r_homing_groups_11)
 (.seq (.reg r_homing_groups_12)
 .ret))))) }
/- f27 homing_open : 0:l 1:_ -/
abbrev r_homing_open_0 : Reg := ⟨[⟨.mv (.c (.int (0))), none, false⟩], [], [1], none⟩
abbrev r_homing_open_1 : Reg := ⟨[⟨.mv (.v 0), none, false⟩, ⟨.cal F_slices_IndexFunc_Shoming_group_homing_group [(.t 0), (.c (.func F_homing_open_1 []))], none, false⟩, ⟨.mv (.t 0), none, false⟩], [(1, 0)], [0], none⟩
abbrev ir_homing_open : Fn := { np := 1, nv := 2, res := [(1, none)], body :=
(.seq (.reg r_homing_open_0)
 (.seq (.reg r_homing_open_1)
 .ret)) }
/- f28 equiv_States : 0:m 1:s 2:t 3:m 4:e 5:w 6:found 7:_ 8:_ 9:_ -/
abbrev r_equiv_States_0 : Reg := ⟨[⟨.bxi (.v 0), none, false⟩, ⟨.mv (.c (.snil)), none, false⟩, ⟨.mv (.c (.bool false)), none, false⟩, ⟨.mv (.c (.int (0))), none, false⟩], [(3, 3)], [0, 7, 8, 9], none⟩
abbrev r_equiv_States_1 : Reg := ⟨[⟨.ldi (.v 3) (some 4), none, false⟩, ⟨.cal F_mealy_Valid [(.t 0)], none, false⟩, ⟨.mv (.t 0), none, false⟩], [(4, 0)], [], none⟩
abbrev r_equiv_States_2 : Reg := ⟨[⟨.mv (.v 4), none, false⟩, ⟨.bin .neq (.t 0) (.c (.int (0))), none, false⟩], [], [], some (15, 0)⟩
abbrev r_equiv_States_3 : Reg := ⟨[⟨.mv (.v 4), none, false⟩, ⟨.mv (.c (.snil)), none, false⟩, ⟨.mv (.c (.bool false)), none, false⟩, ⟨.mv (.t 2), none, false⟩], [(7, 2), (8, 1), (9, 0)], [1, 2, 3, 4], none⟩
abbrev r_equiv_States_4 : Reg := ⟨[⟨.mv (.v 1), none, false⟩, ⟨.bin .lss (.t 0) (.c (.int (0))), none, false⟩, ⟨.mv (.t 0), none, false⟩, ⟨.mv (.v 1), some (.t 0, false), false⟩, ⟨.fad (.v 3) 2 none, some (.t 1, false), false⟩, ⟨.ldi (.t 0) none, some (.t 2, false), false⟩, ⟨.len (.t 0), some (.t 3, false), false⟩, ⟨.bin .geq (.t 3) (.t 0), some (.t 4, false), false⟩, ⟨.pick (.t 5) (.c (.bool true)) (.t 0), none, false⟩, ⟨.mv (.t 0), none, false⟩, ⟨.mv (.v 2), some (.t 0, false), false⟩, ⟨.bin .lss (.t 0) (.c (.int (0))), some (.t 1, false), false⟩, ⟨.pick (.t 2) (.c (.bool true)) (.t 0), none, false⟩, ⟨.mv (.t 0), none, false⟩, ⟨.mv (.v 2), some (.t 0, false), false⟩, ⟨.fad (.v 3) 2 none, some (.t 1, false), false⟩, ⟨.ldi (.t 0) none, some (.t 2, false), false⟩, ⟨.len (.t 0), some (.t 3, false), false⟩, ⟨.bin .geq (.t 3) (.t 0), some (.t 4, false), false⟩, ⟨.pick (.t 5) (.c (.bool true)) (.t 0), none, false⟩], [], [4], some (36, 0)⟩
abbrev r_equiv_States_5 : Reg := ⟨[⟨.mv (.c (.snil)), none, false⟩, ⟨.mv (.c (.bool false)), none, false⟩, ⟨.mv (.c (.int (2))), none, false⟩], [(7, 2), (8, 1), (9, 0)], [1, 2, 3], none⟩
abbrev r_equiv_States_6 : Reg := ⟨[⟨.ldi (.v 3) (some 4), none, false⟩, ⟨.ldi (.v 3) (some 4), none, false⟩, ⟨.mv (.v 1), none, false⟩, ⟨.mv (.v 2), none, false⟩, ⟨.bld [.int 0, .int 0] [(0, 1, (.t 1)), (1, 1, (.t 0))], none, false⟩, ⟨.cal F_equiv_search [(.t 4), (.t 3), (.t 0)], none, false⟩, ⟨.mv (.t 0), none, false⟩, ⟨.ext (.t 0) 0, none, false⟩, ⟨.ext (.t 1) 1, none, false⟩, ⟨.mv (.t 1), none, false⟩, ⟨.mv (.t 1), none, false⟩], [(5, 1), (6, 0)], [1, 2, 3], none⟩
abbrev r_equiv_States_7 : Reg := ⟨[⟨.mv (.v 5), none, false⟩, ⟨.mv (.v 6), none, false⟩, ⟨.mv (.t 1), none, false⟩, ⟨.mv (.t 1), none, false⟩, ⟨.mv (.c (.int (0))), none, false⟩], [(7, 2), (8, 1), (9, 0)], [5, 6], none⟩
abbrev ir_equiv_States : Fn := { np := 3, nv := 10, res := [(7, none), (8, none), (9, none)], body :=
(.seq (.reg r_equiv_States_0)
 (.seq (.seq (.reg r_equiv_States_1)
 (.seq (.reg r_equiv_States_2)
 (.cond 15 (.seq (.reg r_equiv_States_3)
 .ret) .skip)))
 (.seq (.seq (.reg r_equiv_States_4)
 (.cond 36 (.seq (.reg r_equiv_States_5)
 .ret) .skip))
 (.seq (.reg r_equiv_States_6)
 (.seq (.reg r_equiv_States_7)
 .ret))))) }
/- f29 word_Join : 0:parts 1:_ -/
abbrev r_word_Join_0 : Reg := ⟨[⟨.mv (.c (.snil)), none, false⟩], [], [1], none⟩
abbrev r_word_Join_1 : Reg := ⟨[⟨.mv (.v 0), none, false⟩, ⟨.cal F_slices_Concat_Sint_int [(.t 0)], none, false⟩, ⟨.mv (.t 0), none, false⟩], [(1, 0)], [0], none⟩
abbrev ir_word_Join : Fn := { np := 1, nv := 2, res := [(1, none)], body :=
(.seq (.reg r_word_Join_0)
 (.seq (.reg r_word_Join_1)
 .ret)) }
/- f30 ref13_open : 0:m 1:w 2:s 3:m 4:o 5:l 6:states 7:best 8:_ -/
abbrev r_ref13_open_0 : Reg := ⟨[⟨.bxi (.v 0), none, false⟩, ⟨.mv (.c (.snil)), none, false⟩], [(3, 1)], [0, 8], none⟩
abbrev r_ref13_open_1 : Reg := ⟨[⟨.mv (.c (.snil)), none, false⟩, ⟨.mv (.c (.snil)), none, false⟩], [(7, 1), (6, 0)], [], none⟩
abbrev r_ref13_open_2 : Reg := ⟨[⟨.mv (.c (.int (0))), none, false⟩], [(2, 0)], [], none⟩
abbrev r_ref13_open_3 : Reg := ⟨[⟨.mv (.v 2), none, false⟩, ⟨.fad (.v 3) 2 none, none, false⟩, ⟨.ldi (.t 0) none, none, false⟩, ⟨.len (.t 0), none, false⟩, ⟨.bin .lss (.t 3) (.t 0), none, false⟩], [], [], some (15, 0)⟩
abbrev r_ref13_open_5 : Reg := ⟨[⟨.ldi (.v 3) (some 4), none, false⟩, ⟨.mv (.v 2), none, false⟩, ⟨.mv (.v 1), none, false⟩, ⟨.cal F_ref13_run [(.t 2), (.t 1), (.t 0)], none, false⟩, ⟨.mv (.t 0), none, false⟩, ⟨.ext (.t 0) 0, none, false⟩, ⟨.ext (.t 1) 1, none, false⟩, ⟨.mv (.t 1), none, false⟩, ⟨.mv (.t 1), none, false⟩], [(4, 1)], [], none⟩
abbrev r_ref13_open_6 : Reg := ⟨[⟨.ldi (.v 3) (some 4), none, false⟩, ⟨.mv (.v 1), none, false⟩, ⟨.mv (.v 4), none, false⟩, ⟨.can F_ref13_current [(.t 2), (.t 1), (.t 0)], none, false⟩, ⟨.mv (.t 0), none, false⟩], [(5, 0)], [], none⟩
abbrev r_ref13_open_7 : Reg := ⟨[⟨.mv (.v 5), none, false⟩, ⟨.len (.t 0), none, false⟩, ⟨.bin .gtr (.t 0) (.c (.int (1))), none, false⟩, ⟨.mv (.t 0), none, false⟩, ⟨.mv (.v 6), some (.t 0, true), false⟩, ⟨.bnl false (.t 0), some (.t 1, true), false⟩, ⟨.mv (.t 0), some (.t 2, true), false⟩, ⟨.mv (.v 4), some (.t 0, false), false⟩, ⟨.mv (.v 7), some (.t 1, false), false⟩, ⟨.cal F_ref01_Lex [(.t 1), (.t 0)], some (.t 2, false), false⟩, ⟨.bin .lss (.t 0) (.c (.int (0))), some (.t 3, false), false⟩, ⟨.pick (.t 4) (.c (.bool true)) (.t 0), some (.t 7, true), false⟩, ⟨.pick (.t 8) (.t 0) (.c (.bool false)), none, false⟩], [], [], some (41, 0)⟩
abbrev r_ref13_open_8 : Reg := ⟨[⟨.mv (.v 4), none, false⟩, ⟨.mv (.v 5), none, false⟩, ⟨.mv (.t 1), none, false⟩, ⟨.mv (.t 1), none, false⟩], [(7, 1), (6, 0)], [4, 5], none⟩
abbrev r_ref13_open_4 : Reg := ⟨[⟨.mv (.v 2), none, false⟩, ⟨.bin .add (.t 0) (.c (.int (1))), none, false⟩, ⟨.mv (.t 0), none, false⟩], [(2, 0)], [4, 5], none⟩
abbrev b_ref13_open_0 : IC := (.seq (.seq (.reg r_ref13_open_3)
 (.cond 15 .skip (.exit 0)))
 (.seq (.block 1 (.seq (.reg r_ref13_open_5)
 (.seq (.reg r_ref13_open_6)
 (.seq (.reg r_ref13_open_7)
 (.cond 41 (.reg r_ref13_open_8) .skip)))))
 (.reg r_ref13_open_4)))
abbrev r_ref13_open_9 : Reg := ⟨[⟨.mv (.v 6), none, false⟩, ⟨.mv (.t 0), none, false⟩], [(8, 0)], [1, 2, 3, 6, 7], none⟩
abbrev ir_ref13_open : Fn := { np := 2, nv := 9, res := [(8, none)], body :=
(.seq (.reg r_ref13_open_0)
 (.seq (.reg r_ref13_open_1)
 (.seq (.seq (.reg r_ref13_open_2)
 (.block 0 (.loop b_ref13_open_0)))
 (.seq (.reg r_ref13_open_9)
 .ret)))) }
/- f31 ref09_States : 0:m 1:s 2:t 3:m 4:e 5:w 6:ok 7:_ 8:_ 9:_ -/
abbrev r_ref09_States_0 : Reg := ⟨[⟨.bxi (.v 0), none, false⟩, ⟨.mv (.c (.snil)), none, false⟩, ⟨.mv (.c (.bool false)), none, false⟩, ⟨.mv (.c (.int (0))), none, false⟩], [(3, 3)], [0, 7, 8, 9], none⟩
abbrev r_ref09_States_1 : Reg := ⟨[⟨.ldi (.v 3) (some 4), none, false⟩, ⟨.cal F_ref06_Valid [(.t 0)], none, false⟩, ⟨.mv (.t 0), none, false⟩], [(4, 0)], [], none⟩
abbrev r_ref09_States_2 : Reg := ⟨[⟨.mv (.v 4), none, false⟩, ⟨.bin .neq (.t 0) (.c (.int (0))), none, false⟩], [], [], some (15, 0)⟩
abbrev r_ref09_States_3 : Reg := ⟨[⟨.mv (.v 4), none, false⟩, ⟨.mv (.c (.snil)), none, false⟩, ⟨.mv (.c (.bool false)), none, false⟩, ⟨.mv (.t 2), none, false⟩], [(7, 2), (8, 1), (9, 0)], [1, 2, 3, 4], none⟩
abbrev r_ref09_States_4 : Reg := ⟨[⟨.mv (.v 1), none, false⟩, ⟨.bin .lss (.t 0) (.c (.int (0))), none, false⟩, ⟨.mv (.t 0), none, false⟩, ⟨.mv (.v 1), some (.t 0, false), false⟩, ⟨.fad (.v 3) 2 none, some (.t 1, false), false⟩, ⟨.ldi (.t 0) none, some (.t 2, false), false⟩, ⟨.len (.t 0), some (.t 3, false), false⟩, ⟨.bin .geq (.t 3) (.t 0), some (.t 4, false), false⟩, ⟨.pick (.t 5) (.c (.bool true)) (.t 0), none, false⟩, ⟨.mv (.t 0), none, false⟩, ⟨.mv (.v 2), some (.t 0, false), false⟩, ⟨.bin .lss (.t 0) (.c (.int (0))), some (.t 1, false), false⟩, ⟨.pick (.t 2) (.c (.bool true)) (.t 0), none, false⟩, ⟨.mv (.t 0), none, false⟩, ⟨.mv (.v 2), some (.t 0, false), false⟩, ⟨.fad (.v 3) 2 none, some (.t 1, false), false⟩, ⟨.ldi (.t 0) none, some (.t 2, false), false⟩, ⟨.len (.t 0), some (.t 3, false), false⟩, ⟨.bin .geq (.t 3) (.t 0), some (.t 4, false), false⟩, ⟨.pick (.t 5) (.c (.bool true)) (.t 0), none, false⟩], [], [4], some (36, 0)⟩
abbrev r_ref09_States_5 : Reg := ⟨[⟨.mv (.c (.snil)), none, false⟩, ⟨.mv (.c (.bool false)), none, false⟩, ⟨.mv (.c (.int (2))), none, false⟩], [(7, 2), (8, 1), (9, 0)], [1, 2, 3], none⟩
abbrev r_ref09_States_6 : Reg := ⟨[⟨.ldi (.v 3) (some 4), none, false⟩, ⟨.ldi (.v 3) (some 4), none, false⟩, ⟨.mv (.v 1), none, false⟩, ⟨.mv (.v 2), none, false⟩, ⟨.cal F_ref09_first [(.t 3), (.t 2), (.t 1), (.t 0)], none, false⟩, ⟨.mv (.t 0), none, false⟩, ⟨.ext (.t 0) 0, none, false⟩, ⟨.ext (.t 1) 1, none, false⟩, ⟨.mv (.t 1), none, false⟩, ⟨.mv (.t 1), none, false⟩], [(5, 1), (6, 0)], [1, 2, 3], none⟩
abbrev r_ref09_States_7 : Reg := ⟨[⟨.mv (.v 5), none, false⟩, ⟨.mv (.v 6), none, false⟩, ⟨.mv (.t 1), none, false⟩, ⟨.mv (.t 1), none, false⟩, ⟨.mv (.c (.int (0))), none, false⟩], [(7, 2), (8, 1), (9, 0)], [5, 6], none⟩
abbrev ir_ref09_States : Fn := { np := 3, nv := 10, res := [(7, none), (8, none), (9, none)], body :=
(.seq (.reg r_ref09_States_0)
 (.seq (.seq (.reg r_ref09_States_1)
 (.seq (.reg r_ref09_States_2)
 (.cond 15 (.seq (.reg r_ref09_States_3)
 .ret) .skip)))
 (.seq (.seq (.reg r_ref09_States_4)
 (.cond 36 (.seq (.reg r_ref09_States_5)
 .ret) .skip))
 (.seq (.reg r_ref09_States_6)
 (.seq (.reg r_ref09_States_7)
 .ret))))) }
/- f32 homing_check : 0:m 1:w 2:m 3:e 4:_ -/
abbrev r_homing_check_0 : Reg := ⟨[⟨.bxi (.v 0), none, false⟩, ⟨.mv (.c (.int (0))), none, false⟩], [(2, 1)], [0, 4], none⟩
abbrev r_homing_check_1 : Reg := ⟨[⟨.ldi (.v 2) (some 4), none, false⟩, ⟨.cal F_mealy_Valid [(.t 0)], none, false⟩, ⟨.mv (.t 0), none, false⟩], [(3, 0)], [], none⟩
abbrev r_homing_check_2 : Reg := ⟨[⟨.mv (.v 3), none, false⟩, ⟨.bin .neq (.t 0) (.c (.int (0))), none, false⟩], [], [], some (9, 0)⟩
abbrev r_homing_check_3 : Reg := ⟨[⟨.mv (.v 3), none, false⟩, ⟨.mv (.t 0), none, false⟩], [(4, 0)], [1, 2, 3], none⟩
abbrev r_homing_check_4 : Reg := ⟨[⟨.mv (.v 1), none, false⟩, ⟨.fad (.v 2) 0 none, none, false⟩, ⟨.ldi (.t 0) none, none, false⟩, ⟨.cal F_word_Check [(.t 2), (.t 0)], none, false⟩, ⟨.mv (.t 0), none, false⟩], [(4, 0)], [1, 2, 3], none⟩
abbrev ir_homing_check : Fn := { np := 2, nv := 5, res := [(4, none)], body :=
(.seq (.reg r_homing_check_0)
 (.seq (.seq (.reg r_homing_check_1)
 (.seq (.reg r_homing_check_2)
 (.cond 9 (.seq (.reg r_homing_check_3)
 .ret) .skip)))
 (.seq (.reg r_homing_check_4)
 .ret))) }
/- f33 ref13_check : 0:m 1:w 2:m 3:e 4:_ -/
abbrev r_ref13_check_0 : Reg := ⟨[⟨.bxi (.v 0), none, false⟩, ⟨.mv (.c (.int (0))), none, false⟩], [(2, 1)], [0, 4], none⟩
abbrev r_ref13_check_1 : Reg := ⟨[⟨.ldi (.v 2) (some 4), none, false⟩, ⟨.cal F_ref06_Valid [(.t 0)], none, false⟩, ⟨.mv (.t 0), none, false⟩], [(3, 0)], [], none⟩
abbrev r_ref13_check_2 : Reg := ⟨[⟨.mv (.v 3), none, false⟩, ⟨.bin .neq (.t 0) (.c (.int (0))), none, false⟩], [], [], some (9, 0)⟩
abbrev r_ref13_check_3 : Reg := ⟨[⟨.mv (.v 3), none, false⟩, ⟨.mv (.t 0), none, false⟩], [(4, 0)], [1, 2, 3], none⟩
abbrev r_ref13_check_4 : Reg := ⟨[⟨.mv (.v 1), none, false⟩, ⟨.fad (.v 2) 0 none, none, false⟩, ⟨.ldi (.t 0) none, none, false⟩, ⟨.cal F_ref01_Check [(.t 2), (.t 0)], none, false⟩, ⟨.mv (.t 0), none, false⟩], [(4, 0)], [1, 2, 3], none⟩
abbrev ir_ref13_check : Fn := { np := 2, nv := 5, res := [(4, none)], body :=
(.seq (.reg r_ref13_check_0)
 (.seq (.seq (.reg r_ref13_check_1)
 (.seq (.reg r_ref13_check_2)
 (.cond 9 (.seq (.reg r_ref13_check_3)
 .ret) .skip)))
 (.seq (.reg r_ref13_check_4)
 .ret))) }
/- f34 slices_Equal_Sint_int : 0:s1 1:s2 2:_ 3:_ 4:i 5:_ -/
abbrev r_slices_Equal_Sint_int_0 : Reg := ⟨[⟨.mv (.c (.bool false)), none, false⟩], [], [5], none⟩
abbrev r_slices_Equal_Sint_int_1 : Reg := ⟨[⟨.mv (.v 0), none, false⟩, ⟨.len (.t 0), none, false⟩, ⟨.mv (.v 1), none, false⟩, ⟨.len (.t 0), none, false⟩, ⟨.bin .neq (.t 2) (.t 0), none, false⟩], [], [], some (10, 0)⟩
abbrev r_slices_Equal_Sint_int_2 : Reg := ⟨[⟨.mv (.c (.bool false)), none, false⟩], [(5, 0)], [0, 1], none⟩
abbrev r_slices_Equal_Sint_int_3 : Reg := ⟨[⟨.mv (.v 0), none, false⟩, ⟨.len (.t 0), none, false⟩, ⟨.mv (.c (.int (0))), none, false⟩], [(3, 1), (2, 0)], [], none⟩
abbrev r_slices_Equal_Sint_int_4 : Reg := ⟨[⟨.bin .lss (.v 2) (.v 3), none, false⟩], [], [], some (14, 0)⟩
abbrev r_slices_Equal_Sint_int_5 : Reg := ⟨[⟨.mv (.v 2), none, false⟩, ⟨.mv (.t 0), none, false⟩], [(4, 0)], [], none⟩
abbrev r_slices_Equal_Sint_int_6 : Reg := ⟨[⟨.mv (.v 0), none, false⟩, ⟨.mv (.v 4), none, false⟩, ⟨.iad (.t 1) (.t 0) 1, none, false⟩, ⟨.ld (.t 0) none, none, false⟩, ⟨.mv (.v 1), none, false⟩, ⟨.mv (.v 4), none, false⟩, ⟨.iad (.t 1) (.t 0) 1, none, false⟩, ⟨.ld (.t 0) none, none, false⟩, ⟨.bin .neq (.t 4) (.t 0), none, false⟩], [], [4], some (24, 0)⟩
abbrev r_slices_Equal_Sint_int_7 : Reg := ⟨[⟨.mv (.c (.bool false)), none, false⟩], [(5, 0)], [0, 1, 2, 3], none⟩
abbrev r_slices_Equal_Sint_int_8 : Reg := ⟨[⟨.bin .add (.v 2) (.c (.int (1))), none, false⟩, ⟨.mv (.t 0), none, false⟩], [(2, 0)], [], none⟩
abbrev b_slices_Equal_Sint_int_0 : IC := (.seq (.reg r_slices_Equal_Sint_int_4)
 (.seq (.cond 14 .skip (.exit 0))
 (.seq (.block 1 (.seq (.reg r_slices_Equal_Sint_int_5)
 (.seq (.reg r_slices_Equal_Sint_int_6)
 (.cond 24 (.seq (.reg r_slices_Equal_Sint_int_7)
 .ret) .skip))))
 (.reg r_slices_Equal_Sint_int_8))))
abbrev r_slices_Equal_Sint_int_9 : Reg := ⟨[⟨.mv (.c (.bool true)), none, false⟩], [(5, 0)], [0, 1, 2, 3], none⟩
abbrev ir_slices_Equal_Sint_int : Fn := { np := 2, nv := 6, res := [(5, none)], body :=
(.seq (.reg r_slices_Equal_Sint_int_0)
 (.seq (.seq (.reg r_slices_Equal_Sint_int_1)
 (.cond 10 (.seq (.reg r_slices_Equal_Sint_int_2)
 .ret) .skip))
 (.seq (.seq (.reg r_slices_Equal_Sint_int_3)
 (.block 0 (.loop b_slices_Equal_Sint_int_0)))
 (.seq (.reg r_slices_Equal_Sint_int_9)
 .ret)))) }
/- f35 ref13_current : 0:m 1:w 2:outs 3:t 4:m 5:s 6:found 7:last 8:o 9:l 10:_ -/
abbrev r_ref13_current_0 : Reg := ⟨[⟨.bxi (.v 0), none, false⟩, ⟨.mv (.c (.snil)), none, false⟩], [(4, 1)], [0, 10], none⟩
abbrev r_ref13_current_1 : Reg := ⟨[⟨.nl none, none, false⟩], [(9, 0)], [], none⟩
abbrev r_ref13_current_2 : Reg := ⟨[⟨.mv (.c (.int (0))), none, false⟩], [(3, 0)], [], none⟩
abbrev r_ref13_current_3 : Reg := ⟨[⟨.mv (.v 3), none, false⟩, ⟨.fad (.v 4) 2 none, none, false⟩, ⟨.ldi (.t 0) none, none, false⟩, ⟨.len (.t 0), none, false⟩, ⟨.bin .lss (.t 3) (.t 0), none, false⟩], [], [], some (17, 0)⟩
abbrev r_ref13_current_5 : Reg := ⟨[⟨.mv (.c (.bool false)), none, false⟩], [(6, 0)], [], none⟩
abbrev r_ref13_current_6 : Reg := ⟨[⟨.mv (.c (.int (0))), none, false⟩], [(5, 0)], [], none⟩
abbrev r_ref13_current_7 : Reg := ⟨[⟨.mv (.v 5), none, false⟩, ⟨.fad (.v 4) 2 none, none, false⟩, ⟨.ldi (.t 0) none, none, false⟩, ⟨.len (.t 0), none, false⟩, ⟨.bin .lss (.t 3) (.t 0), none, false⟩], [], [], some (24, 0)⟩
abbrev r_ref13_current_9 : Reg := ⟨[⟨.ldi (.v 4) (some 4), none, false⟩, ⟨.mv (.v 5), none, false⟩, ⟨.mv (.v 1), none, false⟩, ⟨.cal F_ref13_run [(.t 2), (.t 1), (.t 0)], none, false⟩, ⟨.mv (.t 0), none, false⟩, ⟨.ext (.t 0) 0, none, false⟩, ⟨.ext (.t 1) 1, none, false⟩, ⟨.mv (.t 1), none, false⟩, ⟨.mv (.t 1), none, false⟩], [(8, 1), (7, 0)], [], none⟩
abbrev r_ref13_current_10 : Reg := ⟨[⟨.mv (.v 6), none, false⟩, ⟨.mv (.t 0), none, false⟩, ⟨.mv (.v 7), some (.t 0, false), false⟩, ⟨.mv (.v 3), some (.t 1, false), false⟩, ⟨.bin .eql (.t 1) (.t 0), some (.t 2, false), false⟩, ⟨.mv (.t 0), some (.t 3, false), false⟩, ⟨.mv (.v 8), some (.t 0, true), false⟩, ⟨.mv (.v 2), some (.t 1, true), false⟩, ⟨.cal F_ref06_Ints [(.t 1), (.t 0)], some (.t 2, true), false⟩, ⟨.pick (.t 3) (.t 0) (.c (.bool false)), some (.t 7, false), false⟩, ⟨.pick (.t 8) (.c (.bool true)) (.t 0), none, false⟩, ⟨.mv (.t 0), none, false⟩], [(6, 0)], [7, 8], none⟩
abbrev r_ref13_current_8 : Reg := ⟨[⟨.mv (.v 5), none, false⟩, ⟨.bin .add (.t 0) (.c (.int (1))), none, false⟩, ⟨.mv (.t 0), none, false⟩], [(5, 0)], [], none⟩
abbrev b_ref13_current_2 : IC := (.seq (.seq (.reg r_ref13_current_7)
 (.cond 24 .skip (.exit 2)))
 (.seq (.block 3 (.seq (.reg r_ref13_current_9)
 (.reg r_ref13_current_10)))
 (.reg r_ref13_current_8)))
abbrev r_ref13_current_11 : Reg := ⟨[⟨.mv (.v 6), none, false⟩], [], [5, 6], some (45, 0)⟩
abbrev r_ref13_current_12 : Reg := ⟨[⟨.mv (.v 9), none, false⟩, ⟨.mv (.v 3), none, false⟩, ⟨.lita [(.t 0)] 1, none, false⟩, ⟨.appw (.t 2) (.t 0) none, none, false⟩, ⟨.mv (.t 0), none, false⟩], [(9, 0)], [], none⟩
abbrev r_ref13_current_4 : Reg := ⟨[⟨.mv (.v 3), none, false⟩, ⟨.bin .add (.t 0) (.c (.int (1))), none, false⟩, ⟨.mv (.t 0), none, false⟩], [(3, 0)], [], none⟩
abbrev b_ref13_current_0 : IC := (.seq (.seq (.reg r_ref13_current_3)
 (.cond 17 .skip (.exit 0)))
 (.seq (.block 1 (.seq (.reg r_ref13_current_5)
 (.seq (.seq (.reg r_ref13_current_6)
 (.block 2 (.loop b_ref13_current_2)))
 (.seq (.reg r_ref13_current_11)
 (.cond 45 (.reg r_ref13_current_12) .skip)))))
 (.reg r_ref13_current_4)))
abbrev r_ref13_current_13 : Reg := ⟨[⟨.mv (.v 9), none, false⟩, ⟨.mv (.t 0), none, false⟩], [(10, 0)], [1, 2, 3, 4, 9], none⟩
abbrev ir_ref13_current : Fn := { np := 3, nv := 11, res := [(10, none)], body :=
(.seq (.reg r_ref13_current_0)
 (.seq (.reg r_ref13_current_1)
 (.seq (.seq (.reg r_ref13_current_2)
 (.block 0 (.loop b_ref13_current_0)))
 (.seq (.reg r_ref13_current_13)
 .ret)))) }
/- f36 ref08_Minimal : 0:m 1:m 2:e 3:n 4:_ -/
abbrev r_ref08_Minimal_0 : Reg := ⟨[⟨.bxi (.v 0), none, false⟩, ⟨.mv (.c (.bool false)), none, false⟩], [(1, 1)], [0, 4], none⟩
abbrev r_ref08_Minimal_1 : Reg := ⟨[⟨.ldi (.v 1) (some 4), none, false⟩, ⟨.cal F_ref08_Min [(.t 0)], none, false⟩, ⟨.mv (.t 0), none, false⟩, ⟨.ext (.t 0) 0, none, false⟩, ⟨.ext (.t 1) 1, none, false⟩, ⟨.alc0 4, none, false⟩, ⟨.ini (.t 0) (.t 2) 4, none, false⟩, ⟨.mv (.t 2), none, false⟩], [(3, 1), (2, 0)], [], none⟩
abbrev r_ref08_Minimal_2 : Reg := ⟨[⟨.mv (.v 2), none, false⟩, ⟨.bin .eql (.t 0) (.c (.int (0))), none, false⟩, ⟨.mv (.t 0), none, false⟩, ⟨.fad (.v 3) 2 none, some (.t 0, true), false⟩, ⟨.ldi (.t 0) none, some (.t 1, true), false⟩, ⟨.len (.t 0), some (.t 2, true), false⟩, ⟨.fad (.v 1) 2 none, some (.t 3, true), false⟩, ⟨.ldi (.t 0) none, some (.t 4, true), false⟩, ⟨.len (.t 0), some (.t 5, true), false⟩, ⟨.bin .eql (.t 3) (.t 0), some (.t 6, true), false⟩, ⟨.pick (.t 7) (.t 0) (.c (.bool false)), none, false⟩, ⟨.mv (.t 0), none, false⟩], [(4, 0)], [1, 2, 3], none⟩
abbrev ir_ref08_Minimal : Fn := { np := 1, nv := 5, res := [(4, none)], body :=
(.seq (.reg r_ref08_Minimal_0)
 (.seq (.reg r_ref08_Minimal_1)
 (.seq (.reg r_ref08_Minimal_2)
 .ret))) }
/- f37 mealy_state : 0:m 1:s 2:m 3:e 4:_ -/
abbrev r_mealy_state_0 : Reg := ⟨[⟨.bxi (.v 0), none, false⟩, ⟨.mv (.c (.int (0))), none, false⟩], [(2, 1)], [0, 4], none⟩
abbrev r_mealy_state_1 : Reg := ⟨[⟨.ldi (.v 2) (some 4), none, false⟩, ⟨.cal F_mealy_Valid [(.t 0)], none, false⟩, ⟨.mv (.t 0), none, false⟩], [(3, 0)], [], none⟩
abbrev r_mealy_state_2 : Reg := ⟨[⟨.mv (.v 3), none, false⟩, ⟨.bin .neq (.t 0) (.c (.int (0))), none, false⟩], [], [], some (9, 0)⟩
abbrev r_mealy_state_3 : Reg := ⟨[⟨.mv (.v 3), none, false⟩, ⟨.mv (.t 0), none, false⟩], [(4, 0)], [1, 2, 3], none⟩
abbrev r_mealy_state_4 : Reg := ⟨[⟨.mv (.v 1), none, false⟩, ⟨.bin .lss (.t 0) (.c (.int (0))), none, false⟩, ⟨.mv (.t 0), none, false⟩, ⟨.mv (.v 1), some (.t 0, false), false⟩, ⟨.fad (.v 2) 2 none, some (.t 1, false), false⟩, ⟨.ldi (.t 0) none, some (.t 2, false), false⟩, ⟨.len (.t 0), some (.t 3, false), false⟩, ⟨.bin .geq (.t 3) (.t 0), some (.t 4, false), false⟩, ⟨.pick (.t 5) (.c (.bool true)) (.t 0), none, false⟩], [], [1, 2, 3], some (19, 0)⟩
abbrev r_mealy_state_5 : Reg := ⟨[⟨.mv (.c (.int (2))), none, false⟩], [(4, 0)], [], none⟩
abbrev r_mealy_state_6 : Reg := ⟨[⟨.mv (.c (.int (0))), none, false⟩], [(4, 0)], [], none⟩
abbrev ir_mealy_state : Fn := { np := 2, nv := 5, res := [(4, none)], body :=
(.seq (.reg r_mealy_state_0)
 (.seq (.seq (.reg r_mealy_state_1)
 (.seq (.reg r_mealy_state_2)
 (.cond 9 (.seq (.reg r_mealy_state_3)
 .ret) .skip)))
 (.seq (.seq (.reg r_mealy_state_4)
 (.cond 19 (.seq (.reg r_mealy_state_5)
 .ret) .skip))
 (.seq (.reg r_mealy_state_6)
 .ret)))) }
/- f38 word_Check : 0:w 1:inputs 2:inputs 3:_ -/
abbrev r_word_Check_0 : Reg := ⟨[⟨.bxi (.v 1), none, false⟩, ⟨.mv (.c (.int (0))), none, false⟩], [(2, 1)], [1, 3], none⟩
abbrev r_word_Check_1 : Reg := ⟨[⟨.ldi (.v 2) none, none, false⟩, ⟨.cal F_word_permitted [(.t 0)], none, false⟩, ⟨.not (.t 0), none, false⟩, ⟨.mv (.t 0), none, false⟩], [], [], some (5, 0)⟩
abbrev r_word_Check_2 : Reg := ⟨[⟨.mv (.c (.int (2))), none, false⟩], [(3, 0)], [0, 2], none⟩
abbrev r_word_Check_3 : Reg := ⟨[⟨.mv (.v 0), none, false⟩, ⟨.len (.t 0), none, false⟩, ⟨.bin .gtr (.t 0) (.c (.int (1024))), none, false⟩, ⟨.mv (.t 0), none, false⟩], [], [], some (9, 0)⟩
abbrev r_word_Check_4 : Reg := ⟨[⟨.mv (.c (.int (3))), none, false⟩], [(3, 0)], [0, 2], none⟩
abbrev r_word_Check_5 : Reg := ⟨[⟨.mv (.v 0), none, false⟩, ⟨.mkf F_word_Check_1 [(.v 2)], none, false⟩, ⟨.cal F_slices_ContainsFunc_Sint_int [(.t 1), (.t 0)], none, false⟩, ⟨.mv (.t 0), none, false⟩], [], [0, 2], some (13, 0)⟩
abbrev r_word_Check_6 : Reg := ⟨[⟨.mv (.c (.int (1))), none, false⟩], [(3, 0)], [], none⟩
abbrev r_word_Check_7 : Reg := ⟨[⟨.mv (.c (.int (0))), none, false⟩], [(3, 0)], [], none⟩
abbrev ir_word_Check : Fn := { np := 2, nv := 4, res := [(3, none)], body :=
(.seq (.reg r_word_Check_0)
 (.seq (.block 0 (.seq (.reg r_word_Check_1)
 (.cond 5 (.seq (.reg r_word_Check_2)
 .ret) (.seq (.reg r_word_Check_3)
 (.cond 9 (.seq (.reg r_word_Check_4)
 .ret) (.seq (.reg r_word_Check_5)
 (.cond 13 (.seq (.reg r_word_Check_6)
 .ret) .skip)))))))
 (.seq (.reg r_word_Check_7)
 .ret))) }
/- f39 mealy_runner_run : 0:r 1:w 2:_ 3:_ 4:_ 5:a 6:next 7:out 8:o 9:_ -/
abbrev r_mealy_runner_run_0 : Reg := ⟨[⟨.mv (.c (.snil)), none, false⟩], [], [9], none⟩
abbrev r_mealy_runner_run_1 : Reg := ⟨[⟨.nl none, none, false⟩], [(7, 0)], [], none⟩
abbrev r_mealy_runner_run_2 : Reg := ⟨[⟨.mv (.v 1), none, false⟩, ⟨.len (.t 0), none, false⟩, ⟨.mv (.c (.int (0))), none, false⟩], [(4, 2), (3, 1), (2, 0)], [1], none⟩
abbrev r_mealy_runner_run_3 : Reg := ⟨[⟨.bin .lss (.v 2) (.v 3), none, false⟩], [], [], some (13, 0)⟩
abbrev r_mealy_runner_run_4 : Reg := ⟨[⟨.iad (.v 4) (.v 2) 1, none, false⟩, ⟨.ld (.t 0) none, none, false⟩, ⟨.mv (.t 0), none, false⟩], [(5, 0)], [], none⟩
abbrev r_mealy_runner_run_5 : Reg := ⟨[⟨.mv (.v 0), none, false⟩, ⟨.nck (.t 0), none, false⟩, ⟨.fad (.t 0) 0 (some 4), none, false⟩, ⟨.ld (.t 0) (some 4), none, false⟩, ⟨.mv (.v 0), none, false⟩, ⟨.nck (.t 0), none, false⟩, ⟨.fad (.t 0) 4 none, none, false⟩, ⟨.ld (.t 0) none, none, false⟩, ⟨.mv (.v 5), none, false⟩, ⟨.cal F_mealy_machine_move [(.t 5), (.t 1), (.t 0)], none, false⟩, ⟨.mv (.t 0), none, false⟩, ⟨.ext (.t 0) 0, none, false⟩, ⟨.ext (.t 1) 1, none, false⟩, ⟨.mv (.t 1), none, false⟩, ⟨.mv (.t 1), none, false⟩], [(6, 1), (8, 0)], [5], none⟩
abbrev r_mealy_runner_run_6 : Reg := ⟨[⟨.mv (.v 0), none, false⟩, ⟨.mv (.v 6), none, false⟩, ⟨.nck (.t 1), none, false⟩, ⟨.fad (.t 0) 4 none, none, false⟩, ⟨.st (.t 0) (.t 2) 1, none, false⟩], [], [6], none⟩
abbrev r_mealy_runner_run_7 : Reg := ⟨[⟨.mv (.v 7), none, false⟩, ⟨.mv (.v 8), none, false⟩, ⟨.lita [(.t 0)] 1, none, false⟩, ⟨.appw (.t 2) (.t 0) none, none, false⟩, ⟨.mv (.t 0), none, false⟩], [(7, 0)], [8], none⟩
abbrev r_mealy_runner_run_8 : Reg := ⟨[⟨.bin .add (.v 2) (.c (.int (1))), none, false⟩, ⟨.mv (.t 0), none, false⟩], [(2, 0)], [], none⟩
abbrev b_mealy_runner_run_0 : IC := (.seq (.reg r_mealy_runner_run_3)
 (.seq (.cond 13 .skip (.exit 0))
 (.seq (.block 1 (.seq (.reg r_mealy_runner_run_4)
 (.seq (.reg r_mealy_runner_run_5)
 (.seq (.reg r_mealy_runner_run_6)
 (.reg r_mealy_runner_run_7)))))
 (.reg r_mealy_runner_run_8))))
abbrev r_mealy_runner_run_9 : Reg := ⟨[⟨.mv (.v 7), none, false⟩, ⟨.mv (.t 0), none, false⟩], [(9, 0)], [0, 2, 3, 4, 7], none⟩
abbrev ir_mealy_runner_run : Fn := { np := 2, nv := 10, res := [(9, none)], body :=
(.seq (.reg r_mealy_runner_run_0)
 (.seq (.reg r_mealy_runner_run_1)
 (.seq (.seq (.reg r_mealy_runner_run_2)
 (.block 0 (.loop b_mealy_runner_run_0)))
 (.seq (.reg r_mealy_runner_run_9)
 .ret)))) }
/- f40 ref06_row : 0:m 1:s 2:m 3:a 4:_ -/
abbrev r_ref06_row_0 : Reg := ⟨[⟨.bxi (.v 0), none, false⟩, ⟨.mv (.c (.int (0))), none, false⟩], [(2, 1)], [0, 4], none⟩
abbrev r_ref06_row_1 : Reg := ⟨[⟨.fad (.v 2) 2 none, none, false⟩, ⟨.ldi (.t 0) none, none, false⟩, ⟨.mv (.v 1), none, false⟩, ⟨.iad (.t 1) (.t 0) 1, none, false⟩, ⟨.ldi (.t 0) none, none, false⟩, ⟨.len (.t 0), none, false⟩, ⟨.fad (.v 2) 0 none, none, false⟩, ⟨.ldi (.t 0) none, none, false⟩, ⟨.bin .neq (.t 2) (.t 0), none, false⟩, ⟨.mv (.t 0), none, false⟩, ⟨.fad (.v 2) 3 none, some (.t 0, false), false⟩, ⟨.ldi (.t 0) none, some (.t 1, false), false⟩, ⟨.mv (.v 1), some (.t 2, false), false⟩, ⟨.iad (.t 1) (.t 0) 1, some (.t 3, false), false⟩, ⟨.ldi (.t 0) none, some (.t 4, false), false⟩, ⟨.len (.t 0), some (.t 5, false), false⟩, ⟨.fad (.v 2) 0 none, some (.t 6, false), false⟩, ⟨.ldi (.t 0) none, some (.t 7, false), false⟩, ⟨.bin .neq (.t 2) (.t 0), some (.t 8, false), false⟩, ⟨.pick (.t 9) (.c (.bool true)) (.t 0), none, false⟩], [], [], some (25, 0)⟩
abbrev r_ref06_row_2 : Reg := ⟨[⟨.mv (.c (.int (1))), none, false⟩], [(4, 0)], [1, 2], none⟩
abbrev r_ref06_row_3 : Reg := ⟨[⟨.mv (.c (.int (0))), none, false⟩], [(3, 0)], [], none⟩
abbrev r_ref06_row_4 : Reg := ⟨[⟨.mv (.v 3), none, false⟩, ⟨.fad (.v 2) 0 none, none, false⟩, ⟨.ldi (.t 0) none, none, false⟩, ⟨.bin .lss (.t 2) (.t 0), none, false⟩], [], [], some (29, 0)⟩
abbrev r_ref06_row_6 : Reg := ⟨[⟨.fad (.v 2) 2 none, none, false⟩, ⟨.ldi (.t 0) none, none, false⟩, ⟨.mv (.v 1), none, false⟩, ⟨.iad (.t 1) (.t 0) 1, none, false⟩, ⟨.ldi (.t 0) none, none, false⟩, ⟨.mv (.v 3), none, false⟩, ⟨.iad (.t 1) (.t 0) 1, none, false⟩, ⟨.ldi (.t 0) none, none, false⟩, ⟨.bin .lss (.t 0) (.c (.int (0))), none, false⟩, ⟨.mv (.t 0), none, false⟩, ⟨.fad (.v 2) 2 none, some (.t 0, false), false⟩, ⟨.ldi (.t 0) none, some (.t 1, false), false⟩, ⟨.mv (.v 1), some (.t 2, false), false⟩, ⟨.iad (.t 1) (.t 0) 1, some (.t 3, false), false⟩, ⟨.ldi (.t 0) none, some (.t 4, false), false⟩, ⟨.mv (.v 3), some (.t 5, false), false⟩, ⟨.iad (.t 1) (.t 0) 1, some (.t 6, false), false⟩, ⟨.ldi (.t 0) none, some (.t 7, false), false⟩, ⟨.fad (.v 2) 2 none, some (.t 8, false), false⟩, ⟨.ldi (.t 0) none, some (.t 9, false), false⟩, ⟨.len (.t 0), some (.t 10, false), false⟩, ⟨.bin .geq (.t 3) (.t 0), some (.t 11, false), false⟩, ⟨.pick (.t 12) (.c (.bool true)) (.t 0), none, false⟩, ⟨.mv (.t 0), none, false⟩, ⟨.fad (.v 2) 3 none, some (.t 0, false), false⟩, ⟨.ldi (.t 0) none, some (.t 1, false), false⟩, ⟨.mv (.v 1), some (.t 2, false), false⟩, ⟨.iad (.t 1) (.t 0) 1, some (.t 3, false), false⟩, ⟨.ldi (.t 0) none, some (.t 4, false), false⟩, ⟨.mv (.v 3), some (.t 5, false), false⟩, ⟨.iad (.t 1) (.t 0) 1, some (.t 6, false), false⟩, ⟨.ldi (.t 0) none, some (.t 7, false), false⟩, ⟨.bin .lss (.t 0) (.c (.int (0))), some (.t 8, false), false⟩, ⟨.pick (.t 9) (.c (.bool true)) (.t 0), none, false⟩, ⟨.mv (.t 0), none, false⟩, ⟨.fad (.v 2) 3 none, some (.t 0, false), false⟩, ⟨.ldi (.t 0) none, some (.t 1, false), false⟩, ⟨.mv (.v 1), some (.t 2, false), false⟩, ⟨.iad (.t 1) (.t 0) 1, some (.t 3, false), false⟩, ⟨.ldi (.t 0) none, some (.t 4, false), false⟩, ⟨.mv (.v 3), some (.t 5, false), false⟩, ⟨.iad (.t 1) (.t 0) 1, some (.t 6, false), false⟩, ⟨.ldi (.t 0) none, some (.t 7, false), false⟩, ⟨.bin .gtr (.t 0) (.c (.int (1048576))), some (.t 8, false), false⟩, ⟨.pick (.t 9) (.c (.bool true)) (.t 0), none, false⟩], [], [], some (76, 0)⟩
abbrev r_ref06_row_7 : Reg := ⟨[⟨.mv (.c (.int (2))), none, false⟩], [(4, 0)], [1, 2, 3], none⟩
abbrev r_ref06_row_5 : Reg := ⟨[⟨.mv (.v 3), none, false⟩, ⟨.bin .add (.t 0) (.c (.int (1))), none, false⟩, ⟨.mv (.t 0), none, false⟩], [(3, 0)], [], none⟩
abbrev b_ref06_row_0 : IC := (.seq (.seq (.reg r_ref06_row_4)
 (.cond 29 .skip (.exit 0)))
 (.seq (.block 1 (.seq (.reg r_ref06_row_6)
 (.cond 76 (.seq (.reg r_ref06_row_7)
 .ret) .skip)))
 (.reg r_ref06_row_5)))
abbrev r_ref06_row_8 : Reg := ⟨[⟨.mv (.c (.int (0))), none, false⟩], [(4, 0)], [1, 2, 3], none⟩
abbrev ir_ref06_row : Fn := { np := 2, nv := 5, res := [(4, none)], body :=
(.seq (.reg r_ref06_row_0)
 (.seq (.seq (.reg r_ref06_row_1)
 (.cond 25 (.seq (.reg r_ref06_row_2)
 .ret) .skip))
 (.seq (.seq (.reg r_ref06_row_3)
 (.block 0 (.loop b_ref06_row_0)))
 (.seq (.reg r_ref06_row_8)
 .ret)))) }
/- f41 mealy_Reach : 0:m 1:m 2:seen 3:i 4:out 5:_ 6:_ 7:_ 8:t 9:_ -/
abbrev r_mealy_Reach_0 : Reg := ⟨[⟨.bxi (.v 0), none, false⟩, ⟨.mv (.c (.snil)), none, false⟩], [(1, 1)], [0, 9], none⟩
abbrev r_mealy_Reach_1 : Reg := ⟨[⟨.ldi (.v 1) (some 4), none, false⟩, ⟨.cal F_mealy_Valid [(.t 0)], none, false⟩, ⟨.bin .neq (.t 0) (.c (.int (0))), none, false⟩], [], [], some (10, 0)⟩
abbrev r_mealy_Reach_2 : Reg := ⟨[⟨.mv (.c (.snil)), none, false⟩], [(9, 0)], [1], none⟩
abbrev r_mealy_Reach_3 : Reg := ⟨[⟨.fad (.v 1) 2 none, none, false⟩, ⟨.ldi (.t 0) none, none, false⟩, ⟨.len (.t 0), none, false⟩, ⟨.mks (.t 0) (.t 0) [.bool false] none, none, false⟩, ⟨.mv (.t 0), none, false⟩], [(2, 0)], [], none⟩
abbrev r_mealy_Reach_4 : Reg := ⟨[⟨.mv (.v 2), none, false⟩, ⟨.fad (.v 1) 1 none, none, false⟩, ⟨.ldi (.t 0) none, none, false⟩, ⟨.iad (.t 2) (.t 0) 1, none, false⟩, ⟨.st (.t 0) (.c (.bool true)) 1, none, false⟩], [], [], none⟩
abbrev r_mealy_Reach_5 : Reg := ⟨[⟨.fad (.v 1) 1 none, none, false⟩, ⟨.ldi (.t 0) none, none, false⟩, ⟨.litm [(.t 0)] none, none, false⟩, ⟨.mv (.t 0), none, false⟩], [(4, 0)], [], none⟩
abbrev r_mealy_Reach_6 : Reg := ⟨[⟨.mv (.c (.int (0))), none, false⟩], [(3, 0)], [], none⟩
abbrev r_mealy_Reach_7 : Reg := ⟨[⟨.mv (.v 3), none, false⟩, ⟨.mv (.v 4), none, false⟩, ⟨.len (.t 0), none, false⟩, ⟨.bin .lss (.t 2) (.t 0), none, false⟩], [], [], some (25, 0)⟩
abbrev r_mealy_Reach_9 : Reg := ⟨[⟨.fad (.v 1) 2 none, none, false⟩, ⟨.ldi (.t 0) none, none, false⟩, ⟨.mv (.v 4), none, false⟩, ⟨.mv (.v 3), none, false⟩, ⟨.iad (.t 1) (.t 0) 1, none, false⟩, ⟨.ld (.t 0) none, none, false⟩, ⟨.iad (.t 4) (.t 0) 1, none, false⟩, ⟨.ldi (.t 0) none, none, false⟩, ⟨.len (.t 0), none, false⟩, ⟨.mv (.c (.int (0))), none, false⟩], [(7, 2), (6, 1), (5, 0)], [], none⟩
abbrev r_mealy_Reach_10 : Reg := ⟨[⟨.bin .lss (.v 5) (.v 6), none, false⟩], [], [], some (38, 0)⟩
abbrev r_mealy_Reach_11 : Reg := ⟨[⟨.iad (.v 7) (.v 5) 1, none, false⟩, ⟨.ld (.t 0) none, none, false⟩, ⟨.mv (.t 0), none, false⟩], [(8, 0)], [], none⟩
abbrev r_mealy_Reach_12 : Reg := ⟨[⟨.mv (.v 2), none, false⟩, ⟨.mv (.v 8), none, false⟩, ⟨.iad (.t 1) (.t 0) 1, none, false⟩, ⟨.ld (.t 0) none, none, false⟩, ⟨.not (.t 0), none, false⟩], [], [], some (45, 0)⟩
abbrev r_mealy_Reach_13 : Reg := ⟨[⟨.mv (.v 2), none, false⟩, ⟨.mv (.v 8), none, false⟩, ⟨.iad (.t 1) (.t 0) 1, none, false⟩, ⟨.st (.t 0) (.c (.bool true)) 1, none, false⟩], [], [], none⟩
abbrev r_mealy_Reach_14 : Reg := ⟨[⟨.mv (.v 4), none, false⟩, ⟨.mv (.v 8), none, false⟩, ⟨.lita [(.t 0)] 1, none, false⟩, ⟨.appw (.t 2) (.t 0) none, none, false⟩, ⟨.mv (.t 0), none, false⟩], [(4, 0)], [8], none⟩
abbrev r_mealy_Reach_15 : Reg := ⟨[⟨.bin .add (.v 5) (.c (.int (1))), none, false⟩, ⟨.mv (.t 0), none, false⟩], [(5, 0)], [8], none⟩
abbrev b_mealy_Reach_2 : IC := (.seq (.reg r_mealy_Reach_10)
 (.seq (.cond 38 .skip (.exit 2))
 (.seq (.block 3 (.seq (.reg r_mealy_Reach_11)
 (.seq (.reg r_mealy_Reach_12)
 (.cond 45 (.seq (.reg r_mealy_Reach_13)
 (.reg r_mealy_Reach_14)) .skip))))
 (.reg r_mealy_Reach_15))))
abbrev r_mealy_Reach_8 : Reg := ⟨[⟨.mv (.v 3), none, false⟩, ⟨.bin .add (.t 0) (.c (.int (1))), none, false⟩, ⟨.mv (.t 0), none, false⟩], [(3, 0)], [5, 6, 7], none⟩
abbrev b_mealy_Reach_0 : IC := (.seq (.seq (.reg r_mealy_Reach_7)
 (.cond 25 .skip (.exit 0)))
 (.seq (.block 1 (.seq (.reg r_mealy_Reach_9)
 (.block 2 (.loop b_mealy_Reach_2))))
 (.reg r_mealy_Reach_8)))
abbrev r_mealy_Reach_16 : Reg := ⟨[⟨.mv (.v 4), none, false⟩, ⟨.mv (.t 0), none, false⟩], [(9, 0)], [1, 2, 3, 4], none⟩
abbrev ir_mealy_Reach : Fn := { np := 1, nv := 10, res := [(9, none)], body :=
(.seq (.reg r_mealy_Reach_0)
 (.seq (.seq (.reg r_mealy_Reach_1)
 (.cond 10 (.seq (.reg r_mealy_Reach_2)
 .ret) .skip))
 (.seq (.reg r_mealy_Reach_3)
 (.seq (.reg r_mealy_Reach_4)
 (.seq (.reg r_mealy_Reach_5)
 (.seq (.seq (.reg r_mealy_Reach_6)
 (.block 0 (.loop b_mealy_Reach_0)))
 (.seq (.reg r_mealy_Reach_16)
 .ret))))))) }
/- f42 minimize_Min : 0:m 1:m 2:e 3:_ 4:t 5:class 6:_ 7:_ 8:_ 9:c 10:out 11:s 12:_ 13:_ 14:_ 15:row 16:n 17:_ -/
abbrev r_minimize_Min_0 : Reg := ⟨[⟨.bxi (.v 0), none, false⟩, ⟨.alc [.int 0, .int 0, .snil, .snil] (some 4), none, false⟩, ⟨.mv (.c (.int (0))), none, false⟩], [(1, 2), (3, 1)], [0, 17], none⟩
abbrev r_minimize_Min_1 : Reg := ⟨[⟨.ldi (.v 1) (some 4), none, false⟩, ⟨.cal F_mealy_Trim [(.t 0)], none, false⟩, ⟨.mv (.t 0), none, false⟩, ⟨.ext (.t 0) 0, none, false⟩, ⟨.ext (.t 1) 1, none, false⟩, ⟨.alc0 4, none, false⟩, ⟨.ini (.t 0) (.t 2) 4, none, false⟩, ⟨.mv (.t 2), none, false⟩], [(4, 1), (2, 0)], [1], none⟩
abbrev r_minimize_Min_2 : Reg := ⟨[⟨.mv (.v 2), none, false⟩, ⟨.bin .neq (.t 0) (.c (.int (0))), none, false⟩], [], [], some (19, 0)⟩
abbrev r_minimize_Min_3 : Reg := ⟨[⟨.bld [.int 0, .int 0, .snil, .snil] [], none, false⟩, ⟨.mv (.v 2), none, false⟩, ⟨.st (.v 3) (.t 1) 4, none, false⟩, ⟨.mv (.t 1), none, false⟩], [(17, 0)], [2, 4], none⟩
abbrev r_minimize_Min_4 : Reg := ⟨[⟨.ldi (.v 4) (some 4), none, false⟩, ⟨.cal F_minimize_Classes [(.t 0)], none, false⟩, ⟨.mv (.t 0), none, false⟩, ⟨.ext (.t 0) 0, none, false⟩, ⟨.ext (.t 1) 1, none, false⟩, ⟨.mv (.t 1), none, false⟩, ⟨.mv (.t 1), none, false⟩], [(5, 1), (2, 0)], [], none⟩
abbrev r_minimize_Min_5 : Reg := ⟨[⟨.mv (.v 2), none, false⟩, ⟨.bin .neq (.t 0) (.c (.int (0))), none, false⟩], [], [], some (28, 0)⟩
abbrev r_minimize_Min_6 : Reg := ⟨[⟨.bld [.int 0, .int 0, .snil, .snil] [], none, false⟩, ⟨.mv (.v 2), none, false⟩, ⟨.st (.v 3) (.t 1) 4, none, false⟩, ⟨.mv (.t 1), none, false⟩], [(17, 0)], [2, 4, 5], none⟩
abbrev r_minimize_Min_7 : Reg := ⟨[⟨.fad (.v 4) 0 none, none, false⟩, ⟨.ldi (.t 0) none, none, false⟩, ⟨.bld [.int 0, .int 0, .snil, .snil] [(0, 1, (.t 0))], none, false⟩, ⟨.alc [.int 0, .int 0, .snil, .snil] (some 4), none, false⟩, ⟨.st (.t 0) (.t 1) 4, none, false⟩], [(10, 1)], [2], none⟩
abbrev r_minimize_Min_8 : Reg := ⟨[⟨.mv (.v 5), none, false⟩, ⟨.len (.t 0), none, false⟩, ⟨.mv (.c (.int (0))), none, false⟩], [(8, 2), (7, 1), (6, 0)], [], none⟩
abbrev r_minimize_Min_9 : Reg := ⟨[⟨.bin .lss (.v 6) (.v 7), none, false⟩], [], [], some (37, 0)⟩
abbrev r_minimize_Min_10 : Reg := ⟨[⟨.mv (.v 6), none, false⟩, ⟨.iad (.v 8) (.v 6) 1, none, false⟩, ⟨.ld (.t 0) none, none, false⟩, ⟨.mv (.t 2), none, false⟩, ⟨.mv (.t 1), none, false⟩], [(11, 1), (9, 0)], [], none⟩
abbrev r_minimize_Min_11 : Reg := ⟨[⟨.mv (.v 9), none, false⟩, ⟨.fad (.v 10) 2 none, none, false⟩, ⟨.ld (.t 0) none, none, false⟩, ⟨.len (.t 0), none, false⟩, ⟨.bin .lss (.t 3) (.t 0), none, false⟩], [], [9], some (45, 0)⟩
abbrev r_minimize_Min_12 : Reg := ⟨[⟨.nl none, none, false⟩], [(15, 0)], [], none⟩
abbrev r_minimize_Min_13 : Reg := ⟨[⟨.fad (.v 4) 2 none, none, false⟩, ⟨.ldi (.t 0) none, none, false⟩, ⟨.mv (.v 11), none, false⟩, ⟨.iad (.t 1) (.t 0) 1, none, false⟩, ⟨.ldi (.t 0) none, none, false⟩, ⟨.len (.t 0), none, false⟩, ⟨.mv (.c (.int (0))), none, false⟩], [(14, 2), (13, 1), (12, 0)], [], none⟩
abbrev r_minimize_Min_14 : Reg := ⟨[⟨.bin .lss (.v 12) (.v 13), none, false⟩], [], [], some (53, 0)⟩
abbrev r_minimize_Min_15 : Reg := ⟨[⟨.iad (.v 14) (.v 12) 1, none, false⟩, ⟨.ld (.t 0) none, none, false⟩, ⟨.mv (.t 0), none, false⟩], [(16, 0)], [], none⟩
abbrev r_minimize_Min_16 : Reg := ⟨[⟨.mv (.v 15), none, false⟩, ⟨.mv (.v 5), none, false⟩, ⟨.mv (.v 16), none, false⟩, ⟨.iad (.t 1) (.t 0) 1, none, false⟩, ⟨.ld (.t 0) none, none, false⟩, ⟨.lita [(.t 0)] 1, none, false⟩, ⟨.appw (.t 5) (.t 0) none, none, false⟩, ⟨.mv (.t 0), none, false⟩], [(15, 0)], [16], none⟩
abbrev r_minimize_Min_17 : Reg := ⟨[⟨.bin .add (.v 12) (.c (.int (1))), none, false⟩, ⟨.mv (.t 0), none, false⟩], [(12, 0)], [], none⟩
abbrev b_minimize_Min_2 : IC := (.seq (.reg r_minimize_Min_14)
 (.seq (.cond 53 .skip (.exit 2))
 (.seq (.block 3 (.seq (.reg r_minimize_Min_15)
 (.reg r_minimize_Min_16)))
 (.reg r_minimize_Min_17))))
abbrev r_minimize_Min_18 : Reg := ⟨[⟨.fad (.v 10) 2 none, none, false⟩, ⟨.ld (.t 0) none, none, false⟩, ⟨.mv (.v 15), none, false⟩, ⟨.lita [(.t 0)] 1, none, false⟩, ⟨.appw (.t 2) (.t 0) none, none, false⟩, ⟨.fad (.v 10) 2 none, none, false⟩, ⟨.st (.t 0) (.t 1) 1, none, false⟩], [], [12, 13, 14, 15], none⟩
abbrev r_minimize_Min_19 : Reg := ⟨[⟨.fad (.v 10) 3 none, none, false⟩, ⟨.ld (.t 0) none, none, false⟩, ⟨.lita [] 1, none, false⟩, ⟨.fad (.v 4) 3 none, none, false⟩, ⟨.ldi (.t 0) none, none, false⟩, ⟨.mv (.v 11), none, false⟩, ⟨.iad (.t 1) (.t 0) 1, none, false⟩, ⟨.ldi (.t 0) none, none, false⟩, ⟨.app (.t 5) (.t 0) none, none, false⟩, ⟨.lita [(.t 0)] 1, none, false⟩, ⟨.app (.t 8) (.t 0) none, none, false⟩, ⟨.fad (.v 10) 3 none, none, false⟩, ⟨.st (.t 0) (.t 1) 1, none, false⟩], [], [11], none⟩
abbrev r_minimize_Min_20 : Reg := ⟨[⟨.bin .add (.v 6) (.c (.int (1))), none, false⟩, ⟨.mv (.t 0), none, false⟩], [(6, 0)], [11], none⟩
abbrev b_minimize_Min_0 : IC := (.seq (.reg r_minimize_Min_9)
 (.seq (.cond 37 .skip (.exit 0))
 (.seq (.block 1 (.seq (.reg r_minimize_Min_10)
 (.seq (.seq (.reg r_minimize_Min_11)
 (.cond 45 (.exit 1) .skip))
 (.seq (.reg r_minimize_Min_12)
 (.seq (.seq (.reg r_minimize_Min_13)
 (.block 2 (.loop b_minimize_Min_2)))
 (.seq (.reg r_minimize_Min_18)
 (.reg r_minimize_Min_19)))))))
 (.reg r_minimize_Min_20))))
abbrev r_minimize_Min_21 : Reg := ⟨[⟨.ld (.v 10) (some 4), none, false⟩, ⟨.st (.v 3) (.t 0) 4, none, false⟩, ⟨.mv (.c (.int (0))), none, false⟩], [(17, 0)], [4, 5, 6, 7, 8, 10], none⟩
abbrev ir_minimize_Min : Fn := { np := 1, nv := 18, res := [(3, some (some 4)), (17, none)], body :=
(.seq (.reg r_minimize_Min_0)
 (.seq (.reg r_minimize_Min_1)
 (.seq (.seq (.reg r_minimize_Min_2)
 (.cond 19 (.seq (.reg r_minimize_Min_3)
 .ret) .skip))
 (.seq (.reg r_minimize_Min_4)
 (.seq (.seq (.reg r_minimize_Min_5)
 (.cond 28 (.seq (.reg r_minimize_Min_6)
 .ret) .skip))
 (.seq (.reg r_minimize_Min_7)
 (.seq (.seq (.reg r_minimize_Min_8)
 (.block 0 (.loop b_minimize_Min_0)))
 (.seq (.reg r_minimize_Min_21)
 .ret)))))))) }
/- f43 slices_IndexFunc_Shoming_group_homing_group : 0:s 1:f 2:_ 3:_ 4:i 5:_ -/
abbrev r_slices_IndexFunc_Shoming_group_homing_group_0 : Reg := ⟨[⟨.mv (.c (.int (0))), none, false⟩], [], [5], none⟩
abbrev r_slices_IndexFunc_Shoming_group_homing_group_1 : Reg := ⟨[⟨.mv (.v 0), none, false⟩, ⟨.len (.t 0), none, false⟩, ⟨.mv (.c (.int (0))), none, false⟩], [(3, 1), (2, 0)], [], none⟩
abbrev r_slices_IndexFunc_Shoming_group_homing_group_2 : Reg := ⟨[⟨.bin .lss (.v 2) (.v 3), none, false⟩], [], [], some (9, 0)⟩
abbrev r_slices_IndexFunc_Shoming_group_homing_group_3 : Reg := ⟨[⟨.mv (.v 2), none, false⟩, ⟨.mv (.t 0), none, false⟩], [(4, 0)], [], none⟩
abbrev r_slices_IndexFunc_Shoming_group_homing_group_4 : Reg := ⟨[⟨.mv (.v 1), none, false⟩, ⟨.mv (.v 0), none, false⟩, ⟨.mv (.v 4), none, false⟩, ⟨.iad (.t 1) (.t 0) 2, none, false⟩, ⟨.ld (.t 0) (some 2), none, false⟩, ⟨.cald (.t 4) [(.t 0)], none, false⟩], [], [], some (16, 0)⟩
abbrev r_slices_IndexFunc_Shoming_group_homing_group_5 : Reg := ⟨[⟨.mv (.v 4), none, false⟩, ⟨.mv (.t 0), none, false⟩], [(5, 0)], [0, 1, 2, 3, 4], none⟩
abbrev r_slices_IndexFunc_Shoming_group_homing_group_6 : Reg := ⟨[⟨.bin .add (.v 2) (.c (.int (1))), none, false⟩, ⟨.mv (.t 0), none, false⟩], [(2, 0)], [4], none⟩
abbrev b_slices_IndexFunc_Shoming_group_homing_group_0 : IC := (.seq (.reg r_slices_IndexFunc_Shoming_group_homing_group_2)
 (.seq (.cond 9 .skip (.exit 0))
 (.seq (.block 1 (.seq (.reg r_slices_IndexFunc_Shoming_group_homing_group_3)
 (.seq (.reg r_slices_IndexFunc_Shoming_group_homing_group_4)
 (.cond 16 (.seq (.reg r_slices_IndexFunc_Shoming_group_homing_group_5)
 .ret) .skip))))
 (.reg r_slices_IndexFunc_Shoming_group_homing_group_6))))
abbrev r_slices_IndexFunc_Shoming_group_homing_group_7 : Reg := ⟨[⟨.mv (.c (.int (-1))), none, false⟩], [(5, 0)], [0, 1, 2, 3], none⟩
abbrev ir_slices_IndexFunc_Shoming_group_homing_group : Fn := { np := 2, nv := 6, res := [(5, none)], body :=
(.seq (.reg r_slices_IndexFunc_Shoming_group_homing_group_0)
 (.seq (.seq (.reg r_slices_IndexFunc_Shoming_group_homing_group_1)
 (.block 0 (.loop b_slices_IndexFunc_Shoming_group_homing_group_0)))
 (.seq (.reg r_slices_IndexFunc_Shoming_group_homing_group_7)
 .ret))) }
/- f44 homing_groups_1 : 0:g 1:_ 2:g 3:_ -/
abbrev r_homing_groups_1_0 : Reg := ⟨[⟨.bxi (.v 0), none, false⟩, ⟨.mv (.c (.bool false)), none, false⟩], [(2, 1)], [0, 3], none⟩
abbrev r_homing_groups_1_1 : Reg := ⟨[⟨.fad (.v 2) 0 none, none, false⟩, ⟨.ldi (.t 0) none, none, false⟩, ⟨.ld (.v 1) none, none, false⟩, ⟨.cal F_slices_Equal_Sint_int [(.t 1), (.t 0)], none, false⟩, ⟨.mv (.t 0), none, false⟩], [(3, 0)], [1, 2], none⟩
abbrev ir_homing_groups_1 : Fn := { np := 2, nv := 4, res := [(3, none)], body :=
(.seq (.reg r_homing_groups_1_0)
 (.seq (.reg r_homing_groups_1_1)
 .ret)) }
/- f45 homing_put : 0:set 1:s 2:found 3:out 4:i 5:_ -/
abbrev r_homing_put_0 : Reg := ⟨[⟨.mv (.c (.snil)), none, false⟩], [], [5], none⟩
abbrev r_homing_put_1 : Reg := ⟨[⟨.mv (.v 0), none, false⟩, ⟨.mv (.v 1), none, false⟩, ⟨.cal F_slices_BinarySearch_Sint_int [(.t 1), (.t 0)], none, false⟩, ⟨.mv (.t 0), none, false⟩, ⟨.ext (.t 0) 0, none, false⟩, ⟨.ext (.t 1) 1, none, false⟩, ⟨.mv (.t 1), none, false⟩, ⟨.mv (.t 1), none, false⟩], [(4, 1), (2, 0)], [], none⟩
abbrev r_homing_put_2 : Reg := ⟨[⟨.mv (.v 2), none, false⟩], [], [2], some (14, 0)⟩
abbrev r_homing_put_3 : Reg := ⟨[⟨.mv (.v 0), none, false⟩, ⟨.mv (.t 0), none, false⟩], [(5, 0)], [0, 1, 4], none⟩
abbrev r_homing_put_4 : Reg := ⟨[⟨.mv (.v 0), none, false⟩, ⟨.len (.t 0), none, false⟩, ⟨.bin .add (.t 0) (.c (.int (1))), none, false⟩, ⟨.mks (.t 0) (.t 0) [.int 0] none, none, false⟩, ⟨.mv (.t 0), none, false⟩], [(3, 0)], [], none⟩
abbrev r_homing_put_5 : Reg := ⟨[⟨.mv (.v 3), none, false⟩, ⟨.mv (.v 0), none, false⟩, ⟨.mv (.v 4), none, false⟩, ⟨.slc (.t 1) none (some (.t 0)) 1, none, false⟩, ⟨.cpy (.t 3) (.t 0) none, none, false⟩], [], [], none⟩
abbrev r_homing_put_6 : Reg := ⟨[⟨.mv (.v 3), none, false⟩, ⟨.mv (.v 4), none, false⟩, ⟨.mv (.v 1), none, false⟩, ⟨.iad (.t 2) (.t 1) 1, none, false⟩, ⟨.st (.t 0) (.t 1) 1, none, false⟩], [], [1], none⟩
abbrev r_homing_put_7 : Reg := ⟨[⟨.mv (.v 3), none, false⟩, ⟨.mv (.v 4), none, false⟩, ⟨.bin .add (.t 0) (.c (.int (1))), none, false⟩, ⟨.slc (.t 2) (some (.t 0)) none 1, none, false⟩, ⟨.mv (.v 0), none, false⟩, ⟨.mv (.v 4), none, false⟩, ⟨.slc (.t 1) (some (.t 0)) none 1, none, false⟩, ⟨.cpy (.t 3) (.t 0) none, none, false⟩], [], [0, 4], none⟩
abbrev r_homing_put_8 : Reg := ⟨[⟨.mv (.v 3), none, false⟩, ⟨.mv (.t 0), none, false⟩], [(5, 0)], [3], none⟩
abbrev ir_homing_put : Fn := { np := 2, nv := 6, res := [(5, none)], body :=
(.seq (.reg r_homing_put_0)
 (.seq (.reg r_homing_put_1)
 (.seq (.seq (.reg r_homing_put_2)
 (.cond 14 (.seq (.reg r_homing_put_3)
 .ret) .skip))
 (.seq (.reg r_homing_put_4)
 (.seq (.reg r_homing_put_5)
 (.seq (.reg r_homing_put_6)
 (.seq (.reg r_homing_put_7)
 (.seq (.reg r_homing_put_8)
 .ret)))))))) }
/- f47 homing_groups_2 : 0:a 1:b 2:a 3:b 4:_ -/
abbrev r_homing_groups_2_0 : Reg := ⟨[⟨.bxi (.v 0), none, false⟩, ⟨.bxi (.v 1), none, false⟩, ⟨.mv (.c (.int (0))), none, false⟩], [(2, 2), (3, 1)], [0, 1, 4], none⟩
abbrev r_homing_groups_2_1 : Reg := ⟨[⟨.fad (.v 2) 0 none, none, false⟩, ⟨.ldi (.t 0) none, none, false⟩, ⟨.fad (.v 3) 0 none, none, false⟩, ⟨.ldi (.t 0) none, none, false⟩, ⟨.cal F_word_Lex [(.t 2), (.t 0)], none, false⟩, ⟨.mv (.t 0), none, false⟩], [(4, 0)], [2, 3], none⟩
abbrev ir_homing_groups_2 : Fn := { np := 2, nv := 5, res := [(4, none)], body :=
(.seq (.reg r_homing_groups_2_0)
 (.seq (.reg r_homing_groups_2_1)
 .ret)) }
/- f48 word_Lex : 0:a 1:b 2:_ -/
abbrev r_word_Lex_0 : Reg := ⟨[⟨.mv (.c (.int (0))), none, false⟩], [], [2], none⟩
abbrev r_word_Lex_1 : Reg := ⟨[⟨.mv (.v 0), none, false⟩, ⟨.mv (.v 1), none, false⟩, ⟨.cal F_slices_Compare_Sint_int [(.t 1), (.t 0)], none, false⟩, ⟨.mv (.t 0), none, false⟩], [(2, 0)], [0, 1], none⟩
abbrev ir_word_Lex : Fn := { np := 2, nv := 3, res := [(2, none)], body :=
(.seq (.reg r_word_Lex_0)
 (.seq (.reg r_word_Lex_1)
 .ret)) }
/- f49 homing_open_1 : 0:g 1:g 2:_ -/
abbrev r_homing_open_1_0 : Reg := ⟨[⟨.bxi (.v 0), none, false⟩, ⟨.mv (.c (.bool false)), none, false⟩], [(1, 1)], [0, 2], none⟩
abbrev r_homing_open_1_1 : Reg := ⟨[⟨.fad (.v 1) 1 none, none, false⟩, ⟨.ldi (.t 0) none, none, false⟩, ⟨.len (.t 0), none, false⟩, ⟨.bin .gtr (.t 0) (.c (.int (1))), none, false⟩, ⟨.mv (.t 0), none, false⟩], [(2, 0)], [1], none⟩
abbrev ir_homing_open_1 : Fn := { np := 1, nv := 3, res := [(2, none)], body :=
(.seq (.reg r_homing_open_1_0)
 (.seq (.reg r_homing_open_1_1)
 .ret)) }
/- f50 equiv_search : 0:a 1:b 2:first 3:a 4:seen 5:_ 6:_ 7:s 8:b 9:first 10:i 11:queue 12:_ 13:_ 14:p 15:x 16:next 17:_ 18:_ -/
abbrev r_equiv_search_0 : Reg := ⟨[⟨.bxi (.v 0), none, false⟩, ⟨.bxi (.v 1), none, false⟩, ⟨.bxi (.v 2), none, false⟩, ⟨.mv (.c (.snil)), none, false⟩, ⟨.mv (.c (.bool false)), none, false⟩], [(3, 4), (8, 3), (9, 2)], [0, 1, 2, 17, 18], none⟩
abbrev r_equiv_search_1 : Reg := ⟨[⟨.fad (.v 3) 2 none, none, false⟩, ⟨.ldi (.t 0) none, none, false⟩, ⟨.len (.t 0), none, false⟩, ⟨.mks (.t 0) (.t 0) [.snil] none, none, false⟩, ⟨.mv (.t 0), none, false⟩], [(4, 0)], [], none⟩
abbrev r_equiv_search_2 : Reg := ⟨[⟨.mv (.v 4), none, false⟩, ⟨.len (.t 0), none, false⟩, ⟨.mv (.c (.int (0))), none, false⟩], [(6, 1), (5, 0)], [], none⟩
abbrev r_equiv_search_3 : Reg := ⟨[⟨.bin .lss (.v 5) (.v 6), none, false⟩], [], [], some (22, 0)⟩
abbrev r_equiv_search_4 : Reg := ⟨[⟨.mv (.v 5), none, false⟩, ⟨.mv (.t 0), none, false⟩], [(7, 0)], [], none⟩
abbrev r_equiv_search_5 : Reg := ⟨[⟨.mv (.v 4), none, false⟩, ⟨.mv (.v 7), none, false⟩, ⟨.fad (.v 8) 2 none, none, false⟩, ⟨.ldi (.t 0) none, none, false⟩, ⟨.len (.t 0), none, false⟩, ⟨.mks (.t 0) (.t 0) [.bool false] none, none, false⟩, ⟨.iad (.t 5) (.t 4) 1, none, false⟩, ⟨.st (.t 0) (.t 1) 1, none, false⟩], [], [7], none⟩
abbrev r_equiv_search_6 : Reg := ⟨[⟨.bin .add (.v 5) (.c (.int (1))), none, false⟩, ⟨.mv (.t 0), none, false⟩], [(5, 0)], [], none⟩
abbrev b_equiv_search_0 : IC := (.seq (.reg r_equiv_search_3)
 (.seq (.cond 22 .skip (.exit 0))
 (.seq (.block 1 (.seq (.reg r_equiv_search_4)
 (.reg r_equiv_search_5)))
 (.reg r_equiv_search_6))))
abbrev r_equiv_search_7 : Reg := ⟨[⟨.mv (.v 4), none, false⟩, ⟨.fad (.v 9) 0 none, none, false⟩, ⟨.ldi (.t 0) none, none, false⟩, ⟨.iad (.t 2) (.t 0) 1, none, false⟩, ⟨.ld (.t 0) none, none, false⟩, ⟨.fad (.v 9) 1 none, none, false⟩, ⟨.ldi (.t 0) none, none, false⟩, ⟨.iad (.t 2) (.t 0) 1, none, false⟩, ⟨.st (.t 0) (.c (.bool true)) 1, none, false⟩], [], [5, 6], none⟩
abbrev r_equiv_search_8 : Reg := ⟨[⟨.ldi (.v 9) (some 2), none, false⟩, ⟨.bld [.int 0, .int 0, .snil] [(0, 2, (.t 0))], none, false⟩, ⟨.litm [(.t 0)] (some 3), none, false⟩, ⟨.mv (.t 0), none, false⟩], [(11, 0)], [9], none⟩
abbrev r_equiv_search_9 : Reg := ⟨[⟨.mv (.c (.int (0))), none, false⟩], [(10, 0)], [], none⟩
abbrev r_equiv_search_10 : Reg := ⟨[⟨.mv (.v 10), none, false⟩, ⟨.mv (.v 11), none, false⟩, ⟨.len (.t 0), none, false⟩, ⟨.bin .lss (.t 2) (.t 0), none, false⟩], [], [], some (46, 0)⟩
abbrev r_equiv_search_12 : Reg := ⟨[⟨.mv (.v 11), none, false⟩, ⟨.mv (.v 10), none, false⟩, ⟨.iad (.t 1) (.t 0) 3, none, false⟩, ⟨.fad (.t 0) 0 (some 2), none, false⟩, ⟨.ld (.t 0) (some 2), none, false⟩, ⟨.alc0 2, none, false⟩, ⟨.ini (.t 0) (.t 1) 2, none, false⟩], [(14, 0)], [], none⟩
abbrev r_equiv_search_13 : Reg := ⟨[⟨.fad (.v 3) 0 none, none, false⟩, ⟨.ldi (.t 0) none, none, false⟩, ⟨.mv (.c (.int (0))), none, false⟩], [(13, 1), (12, 0)], [], none⟩
abbrev r_equiv_search_14 : Reg := ⟨[⟨.bin .lss (.v 12) (.v 13), none, false⟩], [], [], some (57, 0)⟩
abbrev r_equiv_search_15 : Reg := ⟨[⟨.mv (.v 12), none, false⟩, ⟨.mv (.t 0), none, false⟩], [(15, 0)], [], none⟩
abbrev r_equiv_search_16 : Reg := ⟨[⟨.fad (.v 3) 3 none, none, false⟩, ⟨.ldi (.t 0) none, none, false⟩, ⟨.fad (.v 14) 0 none, none, false⟩, ⟨.ldi (.t 0) none, none, false⟩, ⟨.iad (.t 2) (.t 0) 1, none, false⟩, ⟨.ldi (.t 0) none, none, false⟩, ⟨.mv (.v 15), none, false⟩, ⟨.iad (.t 1) (.t 0) 1, none, false⟩, ⟨.ldi (.t 0) none, none, false⟩, ⟨.fad (.v 8) 3 none, none, false⟩, ⟨.ldi (.t 0) none, none, false⟩, ⟨.fad (.v 14) 1 none, none, false⟩, ⟨.ldi (.t 0) none, none, false⟩, ⟨.iad (.t 2) (.t 0) 1, none, false⟩, ⟨.ldi (.t 0) none, none, false⟩, ⟨.mv (.v 15), none, false⟩, ⟨.iad (.t 1) (.t 0) 1, none, false⟩, ⟨.ldi (.t 0) none, none, false⟩, ⟨.bin .neq (.t 9) (.t 0), none, false⟩], [], [], some (77, 0)⟩
abbrev r_equiv_search_17 : Reg := ⟨[⟨.mv (.v 11), none, false⟩, ⟨.mv (.v 10), none, false⟩, ⟨.iad (.t 1) (.t 0) 3, none, false⟩, ⟨.fad (.t 0) 2 none, none, false⟩, ⟨.ld (.t 0) none, none, false⟩, ⟨.mv (.v 15), none, false⟩, ⟨.liti [(.t 0)] 1, none, false⟩, ⟨.liti [(.t 2), (.t 0)] 1, none, false⟩, ⟨.cal F_word_Join [(.t 0)], none, false⟩, ⟨.mv (.t 0), none, false⟩, ⟨.mv (.c (.bool true)), none, false⟩], [(17, 1), (18, 0)], [3, 4, 8, 10, 11, 12, 13, 14, 15], none⟩
abbrev r_equiv_search_18 : Reg := ⟨[⟨.fad (.v 3) 2 none, none, false⟩, ⟨.ldi (.t 0) none, none, false⟩, ⟨.fad (.v 14) 0 none, none, false⟩, ⟨.ldi (.t 0) none, none, false⟩, ⟨.iad (.t 2) (.t 0) 1, none, false⟩, ⟨.ldi (.t 0) none, none, false⟩, ⟨.mv (.v 15), none, false⟩, ⟨.iad (.t 1) (.t 0) 1, none, false⟩, ⟨.ldi (.t 0) none, none, false⟩, ⟨.fad (.v 8) 2 none, none, false⟩, ⟨.ldi (.t 0) none, none, false⟩, ⟨.fad (.v 14) 1 none, none, false⟩, ⟨.ldi (.t 0) none, none, false⟩, ⟨.iad (.t 2) (.t 0) 1, none, false⟩, ⟨.ldi (.t 0) none, none, false⟩, ⟨.mv (.v 15), none, false⟩, ⟨.iad (.t 1) (.t 0) 1, none, false⟩, ⟨.ldi (.t 0) none, none, false⟩, ⟨.bld [.int 0, .int 0] [(0, 1, (.t 9)), (1, 1, (.t 0))], none, false⟩, ⟨.alc0 2, none, false⟩, ⟨.ini (.t 0) (.t 1) 2, none, false⟩], [(16, 0)], [], none⟩
abbrev r_equiv_search_19 : Reg := ⟨[⟨.ldi (.v 16) (some 2), none, false⟩, ⟨.ldi (.v 14) (some 2), none, false⟩, ⟨.seq true 2 (.t 1) (.t 0), none, false⟩, ⟨.mv (.t 0), none, false⟩, ⟨.mv (.v 4), some (.t 0, true), false⟩, ⟨.fad (.v 16) 0 none, some (.t 1, true), false⟩, ⟨.ldi (.t 0) none, some (.t 2, true), false⟩, ⟨.iad (.t 2) (.t 0) 1, some (.t 3, true), false⟩, ⟨.ld (.t 0) none, some (.t 4, true), false⟩, ⟨.fad (.v 16) 1 none, some (.t 5, true), false⟩, ⟨.ldi (.t 0) none, some (.t 6, true), false⟩, ⟨.iad (.t 2) (.t 0) 1, some (.t 7, true), false⟩, ⟨.ld (.t 0) none, some (.t 8, true), false⟩, ⟨.not (.t 0), some (.t 9, true), false⟩, ⟨.pick (.t 10) (.t 0) (.c (.bool false)), none, false⟩], [], [], some (120, 0)⟩
abbrev r_equiv_search_20 : Reg := ⟨[⟨.mv (.v 4), none, false⟩, ⟨.fad (.v 16) 0 none, none, false⟩, ⟨.ldi (.t 0) none, none, false⟩, ⟨.iad (.t 2) (.t 0) 1, none, false⟩, ⟨.ld (.t 0) none, none, false⟩, ⟨.fad (.v 16) 1 none, none, false⟩, ⟨.ldi (.t 0) none, none, false⟩, ⟨.iad (.t 2) (.t 0) 1, none, false⟩, ⟨.st (.t 0) (.c (.bool true)) 1, none, false⟩], [], [], none⟩
abbrev r_equiv_search_21 : Reg := ⟨[⟨.mv (.v 11), none, false⟩, ⟨.ldi (.v 16) (some 2), none, false⟩, ⟨.mv (.v 11), none, false⟩, ⟨.mv (.v 10), none, false⟩, ⟨.iad (.t 1) (.t 0) 3, none, false⟩, ⟨.fad (.t 0) 2 none, none, false⟩, ⟨.ld (.t 0) none, none, false⟩, ⟨.mv (.v 15), none, false⟩, ⟨.liti [(.t 0)] 1, none, false⟩, ⟨.liti [(.t 2), (.t 0)] 1, none, false⟩, ⟨.cal F_word_Join [(.t 0)], none, false⟩, ⟨.bld [.int 0, .int 0, .snil] [(0, 2, (.t 9)), (2, 1, (.t 0))], none, false⟩, ⟨.lita [(.t 0)] 3, none, false⟩, ⟨.app (.t 12) (.t 0) (some 3), none, false⟩, ⟨.mv (.t 0), none, false⟩], [(11, 0)], [15, 16], none⟩
abbrev r_equiv_search_22 : Reg := ⟨[⟨.bin .add (.v 12) (.c (.int (1))), none, false⟩, ⟨.mv (.t 0), none, false⟩], [(12, 0)], [15, 16], none⟩
abbrev b_equiv_search_4 : IC := (.seq (.reg r_equiv_search_14)
 (.seq (.cond 57 .skip (.exit 4))
 (.seq (.block 5 (.seq (.reg r_equiv_search_15)
 (.seq (.seq (.reg r_equiv_search_16)
 (.cond 77 (.seq (.reg r_equiv_search_17)
 .ret) .skip))
 (.seq (.reg r_equiv_search_18)
 (.seq (.reg r_equiv_search_19)
 (.cond 120 (.seq (.reg r_equiv_search_20)
 (.reg r_equiv_search_21)) .skip))))))
 (.reg r_equiv_search_22))))
abbrev r_equiv_search_11 : Reg := ⟨[⟨.mv (.v 10), none, false⟩, ⟨.bin .add (.t 0) (.c (.int (1))), none, false⟩, ⟨.mv (.t 0), none, false⟩], [(10, 0)], [12, 13, 14], none⟩
abbrev b_equiv_search_2 : IC := (.seq (.seq (.reg r_equiv_search_10)
 (.cond 46 .skip (.exit 2)))
 (.seq (.block 3 (.seq (.reg r_equiv_search_12)
 (.seq (.reg r_equiv_search_13)
 (.block 4 (.loop b_equiv_search_4)))))
 (.reg r_equiv_search_11)))
abbrev r_equiv_search_23 : Reg := ⟨[⟨.mv (.c (.snil)), none, false⟩, ⟨.mv (.c (.bool false)), none, false⟩], [(17, 1), (18, 0)], [3, 4, 8, 10, 11], none⟩
abbrev ir_equiv_search : Fn := { np := 3, nv := 19, res := [(17, none), (18, none)], body :=
(.seq (.reg r_equiv_search_0)
 (.seq (.reg r_equiv_search_1)
 (.seq (.seq (.reg r_equiv_search_2)
 (.block 0 (.loop b_equiv_search_0)))
 (.seq (.reg r_equiv_search_7)
 (.seq (.reg r_equiv_search_8)
 (.seq (.seq (.reg r_equiv_search_9)
 (.block 2 (.loop b_equiv_search_2)))
 (.seq (.reg r_equiv_search_23)
 .ret))))))) }
/- f51 slices_Concat_Sint_int : 0:slices 1:_ 2:_ 3:_ 4:size 5:s 6:_ 7:_ 8:_ 9:newslice 10:s 11:_ -/
abbrev r_slices_Concat_Sint_int_0 : Reg := ⟨[⟨.mv (.c (.snil)), none, false⟩], [], [11], none⟩
abbrev r_slices_Concat_Sint_int_1 : Reg := ⟨[⟨.mv (.c (.int (0))), none, false⟩], [(4, 0)], [], none⟩
abbrev r_slices_Concat_Sint_int_2 : Reg := ⟨[⟨.mv (.v 0), none, false⟩, ⟨.len (.t 0), none, false⟩, ⟨.mv (.c (.int (0))), none, false⟩], [(3, 2), (2, 1), (1, 0)], [], none⟩
abbrev r_slices_Concat_Sint_int_3 : Reg := ⟨[⟨.bin .lss (.v 1) (.v 2), none, false⟩], [], [], some (12, 0)⟩
abbrev r_slices_Concat_Sint_int_4 : Reg := ⟨[⟨.iad (.v 3) (.v 1) 1, none, false⟩, ⟨.ld (.t 0) none, none, false⟩, ⟨.mv (.t 0), none, false⟩], [(5, 0)], [], none⟩
abbrev r_slices_Concat_Sint_int_5 : Reg := ⟨[⟨.mv (.v 4), none, false⟩, ⟨.mv (.v 5), none, false⟩, ⟨.len (.t 0), none, false⟩, ⟨.bin .add (.t 2) (.t 0), none, false⟩, ⟨.mv (.t 0), none, false⟩], [(4, 0)], [5], none⟩
abbrev r_slices_Concat_Sint_int_6 : Reg := ⟨[⟨.mv (.v 4), none, false⟩, ⟨.bin .lss (.t 0) (.c (.int (0))), none, false⟩], [], [], some (20, 0)⟩
abbrev r_slices_Concat_Sint_int_8 : Reg := ⟨[⟨.bin .add (.v 1) (.c (.int (1))), none, false⟩, ⟨.mv (.t 0), none, false⟩], [(1, 0)], [], none⟩
abbrev b_slices_Concat_Sint_int_0 : IC := (.seq (.reg r_slices_Concat_Sint_int_3)
 (.seq (.cond 12 .skip (.exit 0))
 (.seq (.block 1 (.seq (.reg r_slices_Concat_Sint_int_4)
 (.seq (.reg r_slices_Concat_Sint_int_5)
 (.seq (.reg r_slices_Concat_Sint_int_6)
 (.cond 20 .bad .skip)))))
 (.reg r_slices_Concat_Sint_int_8))))
abbrev r_slices_Concat_Sint_int_9 : Reg := ⟨[⟨.mv (.v 4), none, false⟩, ⟨.can F_slices_Grow_Sint_int [(.c (.snil)), (.t 0)], none, false⟩, ⟨.mv (.t 0), none, false⟩], [(9, 0)], [1, 2, 3, 4], none⟩
abbrev r_slices_Concat_Sint_int_10 : Reg := ⟨[⟨.mv (.v 0), none, false⟩, ⟨.len (.t 0), none, false⟩, ⟨.mv (.c (.int (0))), none, false⟩], [(8, 2), (7, 1), (6, 0)], [0], none⟩
abbrev r_slices_Concat_Sint_int_11 : Reg := ⟨[⟨.bin .lss (.v 6) (.v 7), none, false⟩], [], [], some (28, 0)⟩
abbrev r_slices_Concat_Sint_int_12 : Reg := ⟨[⟨.iad (.v 8) (.v 6) 1, none, false⟩, ⟨.ld (.t 0) none, none, false⟩, ⟨.mv (.t 0), none, false⟩], [(10, 0)], [], none⟩
abbrev r_slices_Concat_Sint_int_13 : Reg := ⟨[⟨.mv (.v 9), none, false⟩, ⟨.mv (.v 10), none, false⟩, ⟨.appw (.t 1) (.t 0) none, none, false⟩, ⟨.mv (.t 0), none, false⟩], [(9, 0)], [10], none⟩
abbrev r_slices_Concat_Sint_int_14 : Reg := ⟨[⟨.bin .add (.v 6) (.c (.int (1))), none, false⟩, ⟨.mv (.t 0), none, false⟩], [(6, 0)], [], none⟩
abbrev b_slices_Concat_Sint_int_2 : IC := (.seq (.reg r_slices_Concat_Sint_int_11)
 (.seq (.cond 28 .skip (.exit 2))
 (.seq (.block 3 (.seq (.reg r_slices_Concat_Sint_int_12)
 (.reg r_slices_Concat_Sint_int_13)))
 (.reg r_slices_Concat_Sint_int_14))))
abbrev r_slices_Concat_Sint_int_15 : Reg := ⟨[⟨.mv (.v 9), none, false⟩, ⟨.mv (.t 0), none, false⟩], [(11, 0)], [6, 7, 8, 9], none⟩
abbrev ir_slices_Concat_Sint_int : Fn := { np := 1, nv := 12, res := [(11, none)], body :=
(.seq (.reg r_slices_Concat_Sint_int_0)
 (.seq (.reg r_slices_Concat_Sint_int_1)
 (.seq (.seq (.reg r_slices_Concat_Sint_int_2)
 (.block 0 (.loop b_slices_Concat_Sint_int_0)))
 (.seq (.reg r_slices_Concat_Sint_int_9)
 (.seq (.seq (.reg r_slices_Concat_Sint_int_10)
 (.block 2 (.loop b_slices_Concat_Sint_int_2)))
 (.seq (.reg r_slices_Concat_Sint_int_15)
 .ret)))))) }
/- f52 ref13_run : 0:m 1:s 2:w 3:i 4:outs 5:m 6:_ 7:_ -/
abbrev r_ref13_run_0 : Reg := ⟨[⟨.bxi (.v 0), none, false⟩, ⟨.mv (.c (.snil)), none, false⟩, ⟨.mv (.c (.int (0))), none, false⟩], [(5, 2)], [0, 6, 7], none⟩
abbrev r_ref13_run_1 : Reg := ⟨[⟨.nl none, none, false⟩], [(4, 0)], [], none⟩
abbrev r_ref13_run_2 : Reg := ⟨[⟨.mv (.c (.int (0))), none, false⟩], [(3, 0)], [], none⟩
abbrev r_ref13_run_3 : Reg := ⟨[⟨.mv (.v 3), none, false⟩, ⟨.mv (.v 2), none, false⟩, ⟨.len (.t 0), none, false⟩, ⟨.bin .lss (.t 2) (.t 0), none, false⟩], [], [], some (13, 0)⟩
abbrev r_ref13_run_5 : Reg := ⟨[⟨.mv (.v 4), none, false⟩, ⟨.fad (.v 5) 3 none, none, false⟩, ⟨.ldi (.t 0) none, none, false⟩, ⟨.mv (.v 1), none, false⟩, ⟨.iad (.t 1) (.t 0) 1, none, false⟩, ⟨.ldi (.t 0) none, none, false⟩, ⟨.mv (.v 2), none, false⟩, ⟨.mv (.v 3), none, false⟩, ⟨.iad (.t 1) (.t 0) 1, none, false⟩, ⟨.ld (.t 0) none, none, false⟩, ⟨.iad (.t 4) (.t 0) 1, none, false⟩, ⟨.ldi (.t 0) none, none, false⟩, ⟨.lita [(.t 0)] 1, none, false⟩, ⟨.app (.t 12) (.t 0) none, none, false⟩, ⟨.mv (.t 0), none, false⟩], [(4, 0)], [], none⟩
abbrev r_ref13_run_6 : Reg := ⟨[⟨.fad (.v 5) 2 none, none, false⟩, ⟨.ldi (.t 0) none, none, false⟩, ⟨.mv (.v 1), none, false⟩, ⟨.iad (.t 1) (.t 0) 1, none, false⟩, ⟨.ldi (.t 0) none, none, false⟩, ⟨.mv (.v 2), none, false⟩, ⟨.mv (.v 3), none, false⟩, ⟨.iad (.t 1) (.t 0) 1, none, false⟩, ⟨.ld (.t 0) none, none, false⟩, ⟨.iad (.t 4) (.t 0) 1, none, false⟩, ⟨.ldi (.t 0) none, none, false⟩, ⟨.mv (.t 0), none, false⟩], [(1, 0)], [], none⟩
abbrev r_ref13_run_4 : Reg := ⟨[⟨.mv (.v 3), none, false⟩, ⟨.bin .add (.t 0) (.c (.int (1))), none, false⟩, ⟨.mv (.t 0), none, false⟩], [(3, 0)], [], none⟩
abbrev b_ref13_run_0 : IC := (.seq (.seq (.reg r_ref13_run_3)
 (.cond 13 .skip (.exit 0)))
 (.seq (.block 1 (.seq (.reg r_ref13_run_5)
 (.reg r_ref13_run_6)))
 (.reg r_ref13_run_4)))
abbrev r_ref13_run_7 : Reg := ⟨[⟨.mv (.v 4), none, false⟩, ⟨.mv (.v 1), none, false⟩, ⟨.mv (.t 1), none, false⟩, ⟨.mv (.t 1), none, false⟩], [(6, 1), (7, 0)], [1, 2, 3, 4, 5], none⟩
abbrev ir_ref13_run : Fn := { np := 3, nv := 8, res := [(6, none), (7, none)], body :=
(.seq (.reg r_ref13_run_0)
 (.seq (.reg r_ref13_run_1)
 (.seq (.seq (.reg r_ref13_run_2)
 (.block 0 (.loop b_ref13_run_0)))
 (.seq (.reg r_ref13_run_7)
 .ret)))) }
/- f53 ref01_Lex : 0:a 1:b 2:i 3:_ 4:_ -/
abbrev r_ref01_Lex_0 : Reg := ⟨[⟨.mv (.c (.int (0))), none, false⟩], [], [3], none⟩
abbrev r_ref01_Lex_1 : Reg := ⟨[⟨.mv (.v 0), none, false⟩, ⟨.mv (.v 1), none, false⟩, ⟨.cal F_ref01_Common [(.t 1), (.t 0)], none, false⟩, ⟨.mv (.t 0), none, false⟩], [(2, 0)], [], none⟩
abbrev r_ref01_Lex_2 : Reg := ⟨[⟨.mv (.v 2), none, false⟩, ⟨.mv (.v 0), none, false⟩, ⟨.len (.t 0), none, false⟩, ⟨.bin .eql (.t 2) (.t 0), none, false⟩, ⟨.mv (.t 0), none, false⟩, ⟨.mv (.v 2), some (.t 0, true), false⟩, ⟨.mv (.v 1), some (.t 1, true), false⟩, ⟨.len (.t 0), some (.t 2, true), false⟩, ⟨.bin .eql (.t 2) (.t 0), some (.t 3, true), false⟩, ⟨.pick (.t 4) (.t 0) (.c (.bool false)), none, false⟩, ⟨.mv (.t 0), none, false⟩], [], [], some (9, 0)⟩
abbrev r_ref01_Lex_3 : Reg := ⟨[⟨.mv (.c (.int (0))), none, false⟩], [(3, 0)], [0, 1, 2], none⟩
abbrev r_ref01_Lex_4 : Reg := ⟨[⟨.mv (.v 2), none, false⟩, ⟨.mv (.v 0), none, false⟩, ⟨.len (.t 0), none, false⟩, ⟨.bin .eql (.t 2) (.t 0), none, false⟩, ⟨.mv (.t 0), none, false⟩], [(4, 0)], [], none⟩
abbrev r_ref01_Lex_5 : Reg := ⟨[⟨.mv (.v 2), none, false⟩, ⟨.mv (.v 1), none, false⟩, ⟨.len (.t 0), none, false⟩, ⟨.bin .lss (.t 2) (.t 0), none, false⟩, ⟨.mv (.t 0), none, false⟩, ⟨.mv (.v 0), some (.t 0, true), false⟩, ⟨.mv (.v 2), some (.t 1, true), false⟩, ⟨.iad (.t 1) (.t 0) 1, some (.t 2, true), false⟩, ⟨.ld (.t 0) none, some (.t 3, true), false⟩, ⟨.mv (.v 1), some (.t 4, true), false⟩, ⟨.mv (.v 2), some (.t 5, true), false⟩, ⟨.iad (.t 1) (.t 0) 1, some (.t 6, true), false⟩, ⟨.ld (.t 0) none, some (.t 7, true), false⟩, ⟨.bin .lss (.t 4) (.t 0), some (.t 8, true), false⟩, ⟨.pick (.t 9) (.t 0) (.c (.bool false)), none, false⟩, ⟨.mv (.t 0), none, false⟩], [(4, 0)], [0, 1, 2], none⟩
abbrev r_ref01_Lex_6 : Reg := ⟨[⟨.mv (.c (.int (-1))), none, false⟩], [(3, 0)], [0, 1, 2, 4], none⟩
abbrev r_ref01_Lex_7 : Reg := ⟨[⟨.mv (.c (.int (1))), none, false⟩], [(3, 0)], [0, 1, 2, 4], none⟩
abbrev ir_ref01_Lex : Fn := { np := 2, nv := 5, res := [(3, none)], body :=
(.seq (.reg r_ref01_Lex_0)
 (.seq (.reg r_ref01_Lex_1)
 (.seq (.block 0 (.seq (.reg r_ref01_Lex_2)
 (.cond 9 (.seq (.reg r_ref01_Lex_3)
 .ret) (.seq (.seq (.reg r_ref01_Lex_4)
 (.condv 4 .skip (.reg r_ref01_Lex_5)))
 (.condv 4 (.seq (.reg r_ref01_Lex_6)
 .ret) .skip)))))
 (.seq (.reg r_ref01_Lex_7)
 .ret)))) }
/- f54 ref09_first : 0:a 1:b 2:s 3:t 4:i 5:l 6:x 7:a 8:b 9:w 10:k 11:known 12:p 13:q 14:_ 15:_ -/
abbrev r_ref09_first_0 : Reg := ⟨[⟨.bxi (.v 0), none, false⟩, ⟨.bxi (.v 1), none, false⟩, ⟨.mv (.c (.snil)), none, false⟩, ⟨.mv (.c (.bool false)), none, false⟩], [(7, 3), (8, 2)], [0, 1, 14, 15], none⟩
abbrev r_ref09_first_1 : Reg := ⟨[⟨.mv (.v 2), none, false⟩, ⟨.mv (.v 3), none, false⟩, ⟨.bld [.int 0, .int 0, .snil] [(0, 1, (.t 1)), (1, 1, (.t 0))], none, false⟩, ⟨.litm [(.t 0)] (some 3), none, false⟩, ⟨.mv (.t 0), none, false⟩], [(5, 0)], [2, 3], none⟩
abbrev r_ref09_first_2 : Reg := ⟨[⟨.mv (.c (.int (0))), none, false⟩], [(4, 0)], [], none⟩
abbrev r_ref09_first_3 : Reg := ⟨[⟨.mv (.v 4), none, false⟩, ⟨.mv (.v 5), none, false⟩, ⟨.len (.t 0), none, false⟩, ⟨.bin .lss (.t 2) (.t 0), none, false⟩], [], [], some (25, 0)⟩
abbrev r_ref09_first_5 : Reg := ⟨[⟨.mv (.c (.int (0))), none, false⟩], [(6, 0)], [], none⟩
abbrev r_ref09_first_6 : Reg := ⟨[⟨.mv (.v 6), none, false⟩, ⟨.fad (.v 7) 0 none, none, false⟩, ⟨.ldi (.t 0) none, none, false⟩, ⟨.bin .lss (.t 2) (.t 0), none, false⟩], [], [], some (31, 0)⟩
abbrev r_ref09_first_8 : Reg := ⟨[⟨.mv (.v 5), none, false⟩, ⟨.mv (.v 4), none, false⟩, ⟨.iad (.t 1) (.t 0) 3, none, false⟩, ⟨.fad (.t 0) 2 none, none, false⟩, ⟨.ld (.t 0) none, none, false⟩, ⟨.mv (.v 6), none, false⟩, ⟨.cal F_ref09_Extended [(.t 1), (.t 0)], none, false⟩, ⟨.mv (.t 0), none, false⟩], [(9, 0)], [], none⟩
abbrev r_ref09_first_9 : Reg := ⟨[⟨.fad (.v 7) 3 none, none, false⟩, ⟨.ldi (.t 0) none, none, false⟩, ⟨.mv (.v 5), none, false⟩, ⟨.mv (.v 4), none, false⟩, ⟨.iad (.t 1) (.t 0) 3, none, false⟩, ⟨.fad (.t 0) 0 none, none, false⟩, ⟨.ld (.t 0) none, none, false⟩, ⟨.iad (.t 5) (.t 0) 1, none, false⟩, ⟨.ldi (.t 0) none, none, false⟩, ⟨.mv (.v 6), none, false⟩, ⟨.iad (.t 1) (.t 0) 1, none, false⟩, ⟨.ldi (.t 0) none, none, false⟩, ⟨.fad (.v 8) 3 none, none, false⟩, ⟨.ldi (.t 0) none, none, false⟩, ⟨.mv (.v 5), none, false⟩, ⟨.mv (.v 4), none, false⟩, ⟨.iad (.t 1) (.t 0) 3, none, false⟩, ⟨.fad (.t 0) 1 none, none, false⟩, ⟨.ld (.t 0) none, none, false⟩, ⟨.iad (.t 5) (.t 0) 1, none, false⟩, ⟨.ldi (.t 0) none, none, false⟩, ⟨.mv (.v 6), none, false⟩, ⟨.iad (.t 1) (.t 0) 1, none, false⟩, ⟨.ldi (.t 0) none, none, false⟩, ⟨.bin .neq (.t 12) (.t 0), none, false⟩], [], [], some (65, 0)⟩
abbrev r_ref09_first_10 : Reg := ⟨[⟨.mv (.v 9), none, false⟩, ⟨.mv (.t 0), none, false⟩, ⟨.mv (.c (.bool true)), none, false⟩], [(14, 1), (15, 0)], [4, 5, 6, 7, 8, 9], none⟩
abbrev r_ref09_first_11 : Reg := ⟨[⟨.fad (.v 7) 2 none, none, false⟩, ⟨.ldi (.t 0) none, none, false⟩, ⟨.mv (.v 5), none, false⟩, ⟨.mv (.v 4), none, false⟩, ⟨.iad (.t 1) (.t 0) 3, none, false⟩, ⟨.fad (.t 0) 0 none, none, false⟩, ⟨.ld (.t 0) none, none, false⟩, ⟨.iad (.t 5) (.t 0) 1, none, false⟩, ⟨.ldi (.t 0) none, none, false⟩, ⟨.mv (.v 6), none, false⟩, ⟨.iad (.t 1) (.t 0) 1, none, false⟩, ⟨.ldi (.t 0) none, none, false⟩, ⟨.fad (.v 8) 2 none, none, false⟩, ⟨.ldi (.t 0) none, none, false⟩, ⟨.mv (.v 5), none, false⟩, ⟨.mv (.v 4), none, false⟩, ⟨.iad (.t 1) (.t 0) 3, none, false⟩, ⟨.fad (.t 0) 1 none, none, false⟩, ⟨.ld (.t 0) none, none, false⟩, ⟨.iad (.t 5) (.t 0) 1, none, false⟩, ⟨.ldi (.t 0) none, none, false⟩, ⟨.mv (.v 6), none, false⟩, ⟨.iad (.t 1) (.t 0) 1, none, false⟩, ⟨.ldi (.t 0) none, none, false⟩, ⟨.mv (.t 12), none, false⟩, ⟨.mv (.t 1), none, false⟩], [(12, 1), (13, 0)], [], none⟩
abbrev r_ref09_first_12 : Reg := ⟨[⟨.mv (.c (.bool false)), none, false⟩], [(11, 0)], [], none⟩
abbrev r_ref09_first_13 : Reg := ⟨[⟨.mv (.c (.int (0))), none, false⟩], [(10, 0)], [], none⟩
abbrev r_ref09_first_14 : Reg := ⟨[⟨.mv (.v 10), none, false⟩, ⟨.mv (.v 5), none, false⟩, ⟨.len (.t 0), none, false⟩, ⟨.bin .lss (.t 2) (.t 0), none, false⟩], [], [], some (94, 0)⟩
abbrev r_ref09_first_16 : Reg := ⟨[⟨.mv (.v 11), none, false⟩, ⟨.mv (.t 0), none, false⟩, ⟨.mv (.v 5), some (.t 0, false), false⟩, ⟨.mv (.v 10), some (.t 1, false), false⟩, ⟨.iad (.t 1) (.t 0) 3, some (.t 2, false), false⟩, ⟨.fad (.t 0) 0 none, some (.t 3, false), false⟩, ⟨.ld (.t 0) none, some (.t 4, false), false⟩, ⟨.mv (.v 12), some (.t 5, false), false⟩, ⟨.bin .eql (.t 1) (.t 0), some (.t 6, false), false⟩, ⟨.mv (.t 0), some (.t 7, false), false⟩, ⟨.mv (.v 5), some (.t 0, true), false⟩, ⟨.mv (.v 10), some (.t 1, true), false⟩, ⟨.iad (.t 1) (.t 0) 3, some (.t 2, true), false⟩, ⟨.fad (.t 0) 1 none, some (.t 3, true), false⟩, ⟨.ld (.t 0) none, some (.t 4, true), false⟩, ⟨.mv (.v 13), some (.t 5, true), false⟩, ⟨.bin .eql (.t 1) (.t 0), some (.t 6, true), false⟩, ⟨.pick (.t 7) (.t 0) (.c (.bool false)), some (.t 15, false), false⟩, ⟨.pick (.t 16) (.c (.bool true)) (.t 0), none, false⟩, ⟨.mv (.t 0), none, false⟩], [(11, 0)], [], none⟩
abbrev r_ref09_first_15 : Reg := ⟨[⟨.mv (.v 10), none, false⟩, ⟨.bin .add (.t 0) (.c (.int (1))), none, false⟩, ⟨.mv (.t 0), none, false⟩], [(10, 0)], [], none⟩
abbrev b_ref09_first_4 : IC := (.seq (.seq (.reg r_ref09_first_14)
 (.cond 94 .skip (.exit 4)))
 (.seq (.block 5 (.reg r_ref09_first_16))
 (.reg r_ref09_first_15)))
abbrev r_ref09_first_17 : Reg := ⟨[⟨.mv (.v 11), none, false⟩, ⟨.not (.t 0), none, false⟩], [], [10, 11], some (117, 0)⟩
abbrev r_ref09_first_18 : Reg := ⟨[⟨.mv (.v 5), none, false⟩, ⟨.mv (.v 12), none, false⟩, ⟨.mv (.v 13), none, false⟩, ⟨.mv (.v 9), none, false⟩, ⟨.bld [.int 0, .int 0, .snil] [(0, 1, (.t 2)), (1, 1, (.t 1)), (2, 1, (.t 0))], none, false⟩, ⟨.lita [(.t 0)] 3, none, false⟩, ⟨.appw (.t 5) (.t 0) (some 3), none, false⟩, ⟨.mv (.t 0), none, false⟩], [(5, 0)], [9, 12, 13], none⟩
abbrev r_ref09_first_7 : Reg := ⟨[⟨.mv (.v 6), none, false⟩, ⟨.bin .add (.t 0) (.c (.int (1))), none, false⟩, ⟨.mv (.t 0), none, false⟩], [(6, 0)], [9, 12, 13], none⟩
abbrev b_ref09_first_2 : IC := (.seq (.seq (.reg r_ref09_first_6)
 (.cond 31 .skip (.exit 2)))
 (.seq (.block 3 (.seq (.reg r_ref09_first_8)
 (.seq (.seq (.reg r_ref09_first_9)
 (.cond 65 (.seq (.reg r_ref09_first_10)
 .ret) .skip))
 (.seq (.reg r_ref09_first_11)
 (.seq (.reg r_ref09_first_12)
 (.seq (.seq (.reg r_ref09_first_13)
 (.block 4 (.loop b_ref09_first_4)))
 (.seq (.reg r_ref09_first_17)
 (.cond 117 (.reg r_ref09_first_18) .skip))))))))
 (.reg r_ref09_first_7)))
abbrev r_ref09_first_4 : Reg := ⟨[⟨.mv (.v 4), none, false⟩, ⟨.bin .add (.t 0) (.c (.int (1))), none, false⟩, ⟨.mv (.t 0), none, false⟩], [(4, 0)], [6], none⟩
abbrev b_ref09_first_0 : IC := (.seq (.seq (.reg r_ref09_first_3)
 (.cond 25 .skip (.exit 0)))
 (.seq (.block 1 (.seq (.reg r_ref09_first_5)
 (.block 2 (.loop b_ref09_first_2))))
 (.reg r_ref09_first_4)))
abbrev r_ref09_first_19 : Reg := ⟨[⟨.mv (.c (.snil)), none, false⟩, ⟨.mv (.c (.bool false)), none, false⟩], [(14, 1), (15, 0)], [4, 5, 7, 8], none⟩
abbrev ir_ref09_first : Fn := { np := 4, nv := 16, res := [(14, none), (15, none)], body :=
(.seq (.reg r_ref09_first_0)
 (.seq (.reg r_ref09_first_1)
 (.seq (.seq (.reg r_ref09_first_2)
 (.block 0 (.loop b_ref09_first_0)))
 (.seq (.reg r_ref09_first_19)
 .ret)))) }
/- f55 ref01_Check : 0:w 1:inputs 2:i 3:_ -/
abbrev r_ref01_Check_0 : Reg := ⟨[⟨.mv (.c (.int (0))), none, false⟩], [], [3], none⟩
abbrev r_ref01_Check_1 : Reg := ⟨[⟨.mv (.v 1), none, false⟩, ⟨.cal F_ref01_Size [(.t 0)], none, false⟩, ⟨.not (.t 0), none, false⟩], [], [], some (8, 0)⟩
abbrev r_ref01_Check_2 : Reg := ⟨[⟨.mv (.c (.int (2))), none, false⟩], [(3, 0)], [0, 1], none⟩
abbrev r_ref01_Check_3 : Reg := ⟨[⟨.mv (.v 0), none, false⟩, ⟨.len (.t 0), none, false⟩, ⟨.bin .gtr (.t 0) (.c (.int (1024))), none, false⟩], [], [], some (11, 0)⟩
abbrev r_ref01_Check_4 : Reg := ⟨[⟨.mv (.c (.int (3))), none, false⟩], [(3, 0)], [0, 1], none⟩
abbrev r_ref01_Check_5 : Reg := ⟨[⟨.mv (.c (.int (0))), none, false⟩], [(2, 0)], [], none⟩
abbrev r_ref01_Check_6 : Reg := ⟨[⟨.mv (.v 2), none, false⟩, ⟨.mv (.v 0), none, false⟩, ⟨.len (.t 0), none, false⟩, ⟨.bin .lss (.t 2) (.t 0), none, false⟩], [], [], some (15, 0)⟩
abbrev r_ref01_Check_8 : Reg := ⟨[⟨.mv (.v 0), none, false⟩, ⟨.mv (.v 2), none, false⟩, ⟨.iad (.t 1) (.t 0) 1, none, false⟩, ⟨.ld (.t 0) none, none, false⟩, ⟨.bin .lss (.t 0) (.c (.int (0))), none, false⟩, ⟨.mv (.t 0), none, false⟩, ⟨.mv (.v 0), some (.t 0, false), false⟩, ⟨.mv (.v 2), some (.t 1, false), false⟩, ⟨.iad (.t 1) (.t 0) 1, some (.t 2, false), false⟩, ⟨.ld (.t 0) none, some (.t 3, false), false⟩, ⟨.mv (.v 1), some (.t 4, false), false⟩, ⟨.bin .geq (.t 1) (.t 0), some (.t 5, false), false⟩, ⟨.pick (.t 6) (.c (.bool true)) (.t 0), none, false⟩], [], [], some (30, 0)⟩
abbrev r_ref01_Check_9 : Reg := ⟨[⟨.mv (.c (.int (1))), none, false⟩], [(3, 0)], [0, 1, 2], none⟩
abbrev r_ref01_Check_7 : Reg := ⟨[⟨.mv (.v 2), none, false⟩, ⟨.bin .add (.t 0) (.c (.int (1))), none, false⟩, ⟨.mv (.t 0), none, false⟩], [(2, 0)], [], none⟩
abbrev b_ref01_Check_0 : IC := (.seq (.seq (.reg r_ref01_Check_6)
 (.cond 15 .skip (.exit 0)))
 (.seq (.block 1 (.seq (.reg r_ref01_Check_8)
 (.cond 30 (.seq (.reg r_ref01_Check_9)
 .ret) .skip)))
 (.reg r_ref01_Check_7)))
abbrev r_ref01_Check_10 : Reg := ⟨[⟨.mv (.c (.int (0))), none, false⟩], [(3, 0)], [0, 1, 2], none⟩
abbrev ir_ref01_Check : Fn := { np := 2, nv := 4, res := [(3, none)], body :=
(.seq (.reg r_ref01_Check_0)
 (.seq (.seq (.reg r_ref01_Check_1)
 (.cond 8 (.seq (.reg r_ref01_Check_2)
 .ret) .skip))
 (.seq (.seq (.reg r_ref01_Check_3)
 (.cond 11 (.seq (.reg r_ref01_Check_4)
 .ret) .skip))
 (.seq (.seq (.reg r_ref01_Check_5)
 (.block 0 (.loop b_ref01_Check_0)))
 (.seq (.reg r_ref01_Check_10)
 .ret))))) }
/- f56 ref06_Ints : 0:a 1:b 2:i 3:_ -/
abbrev r_ref06_Ints_0 : Reg := ⟨[⟨.mv (.c (.bool false)), none, false⟩], [], [3], none⟩
abbrev r_ref06_Ints_1 : Reg := ⟨[⟨.mv (.v 0), none, false⟩, ⟨.len (.t 0), none, false⟩, ⟨.mv (.v 1), none, false⟩, ⟨.len (.t 0), none, false⟩, ⟨.bin .neq (.t 2) (.t 0), none, false⟩], [], [], some (10, 0)⟩
abbrev r_ref06_Ints_2 : Reg := ⟨[⟨.mv (.c (.bool false)), none, false⟩], [(3, 0)], [0, 1], none⟩
abbrev r_ref06_Ints_3 : Reg := ⟨[⟨.mv (.c (.int (0))), none, false⟩], [(2, 0)], [], none⟩
abbrev r_ref06_Ints_4 : Reg := ⟨[⟨.mv (.v 2), none, false⟩, ⟨.mv (.v 0), none, false⟩, ⟨.len (.t 0), none, false⟩, ⟨.bin .lss (.t 2) (.t 0), none, false⟩], [], [], some (14, 0)⟩
abbrev r_ref06_Ints_6 : Reg := ⟨[⟨.mv (.v 0), none, false⟩, ⟨.mv (.v 2), none, false⟩, ⟨.iad (.t 1) (.t 0) 1, none, false⟩, ⟨.ld (.t 0) none, none, false⟩, ⟨.mv (.v 1), none, false⟩, ⟨.mv (.v 2), none, false⟩, ⟨.iad (.t 1) (.t 0) 1, none, false⟩, ⟨.ld (.t 0) none, none, false⟩, ⟨.bin .neq (.t 4) (.t 0), none, false⟩], [], [], some (25, 0)⟩
abbrev r_ref06_Ints_7 : Reg := ⟨[⟨.mv (.c (.bool false)), none, false⟩], [(3, 0)], [0, 1, 2], none⟩
abbrev r_ref06_Ints_5 : Reg := ⟨[⟨.mv (.v 2), none, false⟩, ⟨.bin .add (.t 0) (.c (.int (1))), none, false⟩, ⟨.mv (.t 0), none, false⟩], [(2, 0)], [], none⟩
abbrev b_ref06_Ints_0 : IC := (.seq (.seq (.reg r_ref06_Ints_4)
 (.cond 14 .skip (.exit 0)))
 (.seq (.block 1 (.seq (.reg r_ref06_Ints_6)
 (.cond 25 (.seq (.reg r_ref06_Ints_7)
 .ret) .skip)))
 (.reg r_ref06_Ints_5)))
abbrev r_ref06_Ints_8 : Reg := ⟨[⟨.mv (.c (.bool true)), none, false⟩], [(3, 0)], [0, 1, 2], none⟩
abbrev ir_ref06_Ints : Fn := { np := 2, nv := 4, res := [(3, none)], body :=
(.seq (.reg r_ref06_Ints_0)
 (.seq (.seq (.reg r_ref06_Ints_1)
 (.cond 10 (.seq (.reg r_ref06_Ints_2)
 .ret) .skip))
 (.seq (.seq (.reg r_ref06_Ints_3)
 (.block 0 (.loop b_ref06_Ints_0)))
 (.seq (.reg r_ref06_Ints_8)
 .ret)))) }
/- f57 ref08_Min : 0:m 1:m 2:e 3:_ 4:i 5:number 6:class 7:i 8:order 9:a 10:t 11:next 12:outs 13:out 14:_ -/
abbrev r_ref08_Min_0 : Reg := ⟨[⟨.bxi (.v 0), none, false⟩, ⟨.alc [.int 0, .int 0, .snil, .snil] (some 4), none, false⟩, ⟨.mv (.c (.int (0))), none, false⟩], [(1, 2), (3, 1)], [0, 14], none⟩
abbrev r_ref08_Min_1 : Reg := ⟨[⟨.ldi (.v 1) (some 4), none, false⟩, ⟨.cal F_ref08_Classes [(.t 0)], none, false⟩, ⟨.mv (.t 0), none, false⟩, ⟨.ext (.t 0) 0, none, false⟩, ⟨.ext (.t 1) 1, none, false⟩, ⟨.mv (.t 1), none, false⟩, ⟨.mv (.t 1), none, false⟩], [(6, 1), (2, 0)], [], none⟩
abbrev r_ref08_Min_2 : Reg := ⟨[⟨.mv (.v 2), none, false⟩, ⟨.bin .neq (.t 0) (.c (.int (0))), none, false⟩], [], [], some (21, 0)⟩
abbrev r_ref08_Min_3 : Reg := ⟨[⟨.bld [.int 0, .int 0, .snil, .snil] [], none, false⟩, ⟨.mv (.v 2), none, false⟩, ⟨.st (.v 3) (.t 1) 4, none, false⟩, ⟨.mv (.t 1), none, false⟩], [(14, 0)], [1, 2, 6], none⟩
abbrev r_ref08_Min_4 : Reg := ⟨[⟨.fad (.v 1) 1 none, none, false⟩, ⟨.ldi (.t 0) none, none, false⟩, ⟨.litm [(.t 0)] none, none, false⟩, ⟨.mv (.t 0), none, false⟩], [(8, 0)], [2], none⟩
abbrev r_ref08_Min_5 : Reg := ⟨[⟨.fad (.v 1) 2 none, none, false⟩, ⟨.ldi (.t 0) none, none, false⟩, ⟨.len (.t 0), none, false⟩, ⟨.mks (.t 0) (.t 0) [.int 0] none, none, false⟩, ⟨.mv (.t 0), none, false⟩], [(5, 0)], [], none⟩
abbrev r_ref08_Min_6 : Reg := ⟨[⟨.mv (.c (.int (0))), none, false⟩], [(4, 0)], [], none⟩
abbrev r_ref08_Min_7 : Reg := ⟨[⟨.mv (.v 4), none, false⟩, ⟨.mv (.v 5), none, false⟩, ⟨.len (.t 0), none, false⟩, ⟨.bin .lss (.t 2) (.t 0), none, false⟩], [], [], some (34, 0)⟩
abbrev r_ref08_Min_9 : Reg := ⟨[⟨.mv (.v 5), none, false⟩, ⟨.mv (.v 4), none, false⟩, ⟨.iad (.t 1) (.t 0) 1, none, false⟩, ⟨.st (.t 0) (.c (.int (-1))) 1, none, false⟩], [], [], none⟩
abbrev r_ref08_Min_8 : Reg := ⟨[⟨.mv (.v 4), none, false⟩, ⟨.bin .add (.t 0) (.c (.int (1))), none, false⟩, ⟨.mv (.t 0), none, false⟩], [(4, 0)], [], none⟩
abbrev b_ref08_Min_0 : IC := (.seq (.seq (.reg r_ref08_Min_7)
 (.cond 34 .skip (.exit 0)))
 (.seq (.block 1 (.reg r_ref08_Min_9))
 (.reg r_ref08_Min_8)))
abbrev r_ref08_Min_10 : Reg := ⟨[⟨.mv (.v 5), none, false⟩, ⟨.mv (.v 6), none, false⟩, ⟨.fad (.v 1) 1 none, none, false⟩, ⟨.ldi (.t 0) none, none, false⟩, ⟨.iad (.t 2) (.t 0) 1, none, false⟩, ⟨.ld (.t 0) none, none, false⟩, ⟨.iad (.t 5) (.t 0) 1, none, false⟩, ⟨.st (.t 0) (.c (.int (0))) 1, none, false⟩], [], [4], none⟩
abbrev r_ref08_Min_11 : Reg := ⟨[⟨.fad (.v 1) 0 none, none, false⟩, ⟨.ldi (.t 0) none, none, false⟩, ⟨.bld [.int 0, .int 0, .snil, .snil] [(0, 1, (.t 0))], none, false⟩, ⟨.alc [.int 0, .int 0, .snil, .snil] (some 4), none, false⟩, ⟨.st (.t 0) (.t 1) 4, none, false⟩], [(13, 1)], [], none⟩
abbrev r_ref08_Min_12 : Reg := ⟨[⟨.mv (.c (.int (0))), none, false⟩], [(7, 0)], [], none⟩
abbrev r_ref08_Min_13 : Reg := ⟨[⟨.mv (.v 7), none, false⟩, ⟨.mv (.v 8), none, false⟩, ⟨.len (.t 0), none, false⟩, ⟨.bin .lss (.t 2) (.t 0), none, false⟩], [], [], some (53, 0)⟩
abbrev r_ref08_Min_15 : Reg := ⟨[⟨.nl none, none, false⟩, ⟨.nl none, none, false⟩], [(11, 1), (12, 0)], [], none⟩
abbrev r_ref08_Min_16 : Reg := ⟨[⟨.mv (.c (.int (0))), none, false⟩], [(9, 0)], [], none⟩
abbrev r_ref08_Min_17 : Reg := ⟨[⟨.mv (.v 9), none, false⟩, ⟨.fad (.v 1) 0 none, none, false⟩, ⟨.ldi (.t 0) none, none, false⟩, ⟨.bin .lss (.t 2) (.t 0), none, false⟩], [], [], some (59, 0)⟩
abbrev r_ref08_Min_19 : Reg := ⟨[⟨.fad (.v 1) 2 none, none, false⟩, ⟨.ldi (.t 0) none, none, false⟩, ⟨.mv (.v 8), none, false⟩, ⟨.mv (.v 7), none, false⟩, ⟨.iad (.t 1) (.t 0) 1, none, false⟩, ⟨.ld (.t 0) none, none, false⟩, ⟨.iad (.t 4) (.t 0) 1, none, false⟩, ⟨.ldi (.t 0) none, none, false⟩, ⟨.mv (.v 9), none, false⟩, ⟨.iad (.t 1) (.t 0) 1, none, false⟩, ⟨.ldi (.t 0) none, none, false⟩, ⟨.mv (.t 0), none, false⟩], [(10, 0)], [], none⟩
abbrev r_ref08_Min_20 : Reg := ⟨[⟨.mv (.v 5), none, false⟩, ⟨.mv (.v 6), none, false⟩, ⟨.mv (.v 10), none, false⟩, ⟨.iad (.t 1) (.t 0) 1, none, false⟩, ⟨.ld (.t 0) none, none, false⟩, ⟨.iad (.t 4) (.t 0) 1, none, false⟩, ⟨.ld (.t 0) none, none, false⟩, ⟨.bin .lss (.t 0) (.c (.int (0))), none, false⟩], [], [], some (80, 0)⟩
abbrev r_ref08_Min_21 : Reg := ⟨[⟨.mv (.v 5), none, false⟩, ⟨.mv (.v 6), none, false⟩, ⟨.mv (.v 10), none, false⟩, ⟨.iad (.t 1) (.t 0) 1, none, false⟩, ⟨.ld (.t 0) none, none, false⟩, ⟨.mv (.v 8), none, false⟩, ⟨.len (.t 0), none, false⟩, ⟨.iad (.t 6) (.t 2) 1, none, false⟩, ⟨.st (.t 0) (.t 1) 1, none, false⟩], [], [], none⟩
abbrev r_ref08_Min_22 : Reg := ⟨[⟨.mv (.v 8), none, false⟩, ⟨.mv (.v 10), none, false⟩, ⟨.lita [(.t 0)] 1, none, false⟩, ⟨.appw (.t 2) (.t 0) none, none, false⟩, ⟨.mv (.t 0), none, false⟩], [(8, 0)], [], none⟩
abbrev r_ref08_Min_23 : Reg := ⟨[⟨.mv (.v 11), none, false⟩, ⟨.mv (.v 5), none, false⟩, ⟨.mv (.v 6), none, false⟩, ⟨.mv (.v 10), none, false⟩, ⟨.iad (.t 1) (.t 0) 1, none, false⟩, ⟨.ld (.t 0) none, none, false⟩, ⟨.iad (.t 4) (.t 0) 1, none, false⟩, ⟨.ld (.t 0) none, none, false⟩, ⟨.lita [(.t 0)] 1, none, false⟩, ⟨.appw (.t 8) (.t 0) none, none, false⟩, ⟨.mv (.t 0), none, false⟩], [(11, 0)], [10], none⟩
abbrev r_ref08_Min_24 : Reg := ⟨[⟨.mv (.v 12), none, false⟩, ⟨.fad (.v 1) 3 none, none, false⟩, ⟨.ldi (.t 0) none, none, false⟩, ⟨.mv (.v 8), none, false⟩, ⟨.mv (.v 7), none, false⟩, ⟨.iad (.t 1) (.t 0) 1, none, false⟩, ⟨.ld (.t 0) none, none, false⟩, ⟨.iad (.t 4) (.t 0) 1, none, false⟩, ⟨.ldi (.t 0) none, none, false⟩, ⟨.mv (.v 9), none, false⟩, ⟨.iad (.t 1) (.t 0) 1, none, false⟩, ⟨.ldi (.t 0) none, none, false⟩, ⟨.lita [(.t 0)] 1, none, false⟩, ⟨.app (.t 12) (.t 0) none, none, false⟩, ⟨.mv (.t 0), none, false⟩], [(12, 0)], [], none⟩
abbrev r_ref08_Min_18 : Reg := ⟨[⟨.mv (.v 9), none, false⟩, ⟨.bin .add (.t 0) (.c (.int (1))), none, false⟩, ⟨.mv (.t 0), none, false⟩], [(9, 0)], [], none⟩
abbrev b_ref08_Min_4 : IC := (.seq (.seq (.reg r_ref08_Min_17)
 (.cond 59 .skip (.exit 4)))
 (.seq (.block 5 (.seq (.reg r_ref08_Min_19)
 (.seq (.seq (.reg r_ref08_Min_20)
 (.cond 80 (.seq (.reg r_ref08_Min_21)
 (.reg r_ref08_Min_22)) .skip))
 (.seq (.reg r_ref08_Min_23)
 (.reg r_ref08_Min_24)))))
 (.reg r_ref08_Min_18)))
abbrev r_ref08_Min_25 : Reg := ⟨[⟨.fad (.v 13) 2 none, none, false⟩, ⟨.ld (.t 0) none, none, false⟩, ⟨.mv (.v 11), none, false⟩, ⟨.lita [(.t 0)] 1, none, false⟩, ⟨.appw (.t 2) (.t 0) none, none, false⟩, ⟨.fad (.v 13) 2 none, none, false⟩, ⟨.st (.t 0) (.t 1) 1, none, false⟩], [], [9, 11], none⟩
abbrev r_ref08_Min_26 : Reg := ⟨[⟨.fad (.v 13) 3 none, none, false⟩, ⟨.ld (.t 0) none, none, false⟩, ⟨.mv (.v 12), none, false⟩, ⟨.lita [(.t 0)] 1, none, false⟩, ⟨.appw (.t 2) (.t 0) none, none, false⟩, ⟨.fad (.v 13) 3 none, none, false⟩, ⟨.st (.t 0) (.t 1) 1, none, false⟩], [], [12], none⟩
abbrev r_ref08_Min_14 : Reg := ⟨[⟨.mv (.v 7), none, false⟩, ⟨.bin .add (.t 0) (.c (.int (1))), none, false⟩, ⟨.mv (.t 0), none, false⟩], [(7, 0)], [], none⟩
abbrev b_ref08_Min_2 : IC := (.seq (.seq (.reg r_ref08_Min_13)
 (.cond 53 .skip (.exit 2)))
 (.seq (.block 3 (.seq (.reg r_ref08_Min_15)
 (.seq (.seq (.reg r_ref08_Min_16)
 (.block 4 (.loop b_ref08_Min_4)))
 (.seq (.reg r_ref08_Min_25)
 (.reg r_ref08_Min_26)))))
 (.reg r_ref08_Min_14)))
abbrev r_ref08_Min_27 : Reg := ⟨[⟨.ld (.v 13) (some 4), none, false⟩, ⟨.st (.v 3) (.t 0) 4, none, false⟩, ⟨.mv (.c (.int (0))), none, false⟩], [(14, 0)], [1, 5, 6, 7, 8, 13], none⟩
abbrev ir_ref08_Min : Fn := { np := 1, nv := 15, res := [(3, some (some 4)), (14, none)], body :=
(.seq (.reg r_ref08_Min_0)
 (.seq (.reg r_ref08_Min_1)
 (.seq (.seq (.reg r_ref08_Min_2)
 (.cond 21 (.seq (.reg r_ref08_Min_3)
 .ret) .skip))
 (.seq (.reg r_ref08_Min_4)
 (.seq (.reg r_ref08_Min_5)
 (.seq (.seq (.reg r_ref08_Min_6)
 (.block 0 (.loop b_ref08_Min_0)))
 (.seq (.reg r_ref08_Min_10)
 (.seq (.reg r_ref08_Min_11)
 (.seq (.seq (.reg r_ref08_Min_12)
 (.block 2 (.loop b_ref08_Min_2)))
 (.seq (.reg r_ref08_Min_27)
 .ret)))))))))) }
/- f58 word_permitted : 0:inputs 1:_ -/
abbrev r_word_permitted_0 : Reg := ⟨[⟨.mv (.c (.bool false)), none, false⟩], [], [1], none⟩
abbrev r_word_permitted_1 : Reg := ⟨[⟨.mv (.v 0), none, false⟩, ⟨.bin .geq (.t 0) (.c (.int (1))), none, false⟩, ⟨.mv (.t 0), none, false⟩, ⟨.mv (.v 0), some (.t 0, true), false⟩, ⟨.bin .leq (.t 0) (.c (.int (1024))), some (.t 1, true), false⟩, ⟨.pick (.t 2) (.t 0) (.c (.bool false)), none, false⟩, ⟨.mv (.t 0), none, false⟩], [(1, 0)], [0], none⟩
abbrev ir_word_permitted : Fn := { np := 1, nv := 2, res := [(1, none)], body :=
(.seq (.reg r_word_permitted_0)
 (.seq (.reg r_word_permitted_1)
 .ret)) }
/- f59 slices_ContainsFunc_Sint_int : 0:s 1:f 2:_ -/
abbrev r_slices_ContainsFunc_Sint_int_0 : Reg := ⟨[⟨.mv (.c (.bool false)), none, false⟩], [], [2], none⟩
abbrev r_slices_ContainsFunc_Sint_int_1 : Reg := ⟨[⟨.mv (.v 0), none, false⟩, ⟨.mv (.v 1), none, false⟩, ⟨.cal F_slices_IndexFunc_Sint_int [(.t 1), (.t 0)], none, false⟩, ⟨.bin .geq (.t 0) (.c (.int (0))), none, false⟩, ⟨.mv (.t 0), none, false⟩], [(2, 0)], [0, 1], none⟩
abbrev ir_slices_ContainsFunc_Sint_int : Fn := { np := 2, nv := 3, res := [(2, none)], body :=
(.seq (.reg r_slices_ContainsFunc_Sint_int_0)
 (.seq (.reg r_slices_ContainsFunc_Sint_int_1)
 .ret)) }
/- f60 word_Check_1 : 0:a 1:_ 2:_ -/
abbrev r_word_Check_1_0 : Reg := ⟨[⟨.mv (.c (.bool false)), none, false⟩], [], [2], none⟩
abbrev r_word_Check_1_1 : Reg := ⟨[⟨.mv (.v 0), none, false⟩, ⟨.bin .lss (.t 0) (.c (.int (0))), none, false⟩, ⟨.mv (.t 0), none, false⟩, ⟨.mv (.v 0), some (.t 0, false), false⟩, ⟨.ld (.v 1) none, some (.t 1, false), false⟩, ⟨.bin .geq (.t 1) (.t 0), some (.t 2, false), false⟩, ⟨.pick (.t 3) (.c (.bool true)) (.t 0), none, false⟩, ⟨.mv (.t 0), none, false⟩], [(2, 0)], [0, 1], none⟩
abbrev ir_word_Check_1 : Fn := { np := 2, nv := 3, res := [(2, none)], body :=
(.seq (.reg r_word_Check_1_0)
 (.seq (.reg r_word_Check_1_1)
 .ret)) }
/- f61 mealy_machine_move : 0:m 1:s 2:a 3:m 4:_ 5:_ -/
abbrev r_mealy_machine_move_0 : Reg := ⟨[⟨.bxi (.v 0), none, false⟩, ⟨.mv (.c (.int (0))), none, false⟩, ⟨.mv (.c (.int (0))), none, false⟩], [(3, 2)], [0, 4, 5], none⟩
abbrev r_mealy_machine_move_1 : Reg := ⟨[⟨.fad (.v 3) 0 (some 4), none, false⟩, ⟨.fad (.t 0) 2 none, none, false⟩, ⟨.ldi (.t 0) none, none, false⟩, ⟨.mv (.v 1), none, false⟩, ⟨.iad (.t 1) (.t 0) 1, none, false⟩, ⟨.ldi (.t 0) none, none, false⟩, ⟨.mv (.v 2), none, false⟩, ⟨.iad (.t 1) (.t 0) 1, none, false⟩, ⟨.ldi (.t 0) none, none, false⟩, ⟨.fad (.v 3) 0 (some 4), none, false⟩, ⟨.fad (.t 0) 3 none, none, false⟩, ⟨.ldi (.t 0) none, none, false⟩, ⟨.mv (.v 1), none, false⟩, ⟨.iad (.t 1) (.t 0) 1, none, false⟩, ⟨.ldi (.t 0) none, none, false⟩, ⟨.mv (.v 2), none, false⟩, ⟨.iad (.t 1) (.t 0) 1, none, false⟩, ⟨.ldi (.t 0) none, none, false⟩, ⟨.mv (.t 9), none, false⟩, ⟨.mv (.t 1), none, false⟩], [(4, 1), (5, 0)], [1, 2, 3], none⟩
abbrev ir_mealy_machine_move : Fn := { np := 3, nv := 6, res := [(4, none), (5, none)], body :=
(.seq (.reg r_mealy_machine_move_0)
 (.seq (.reg r_mealy_machine_move_1)
 .ret)) }
/- f62 mealy_Trim : 0:m 1:m 2:e 3:_ 4:states 5:_ 6:_ 7:_ 8:number 9:s 10:i 11:_ 12:_ 13:_ 14:s 15:_ 16:_ 17:_ 18:next 19:a 20:t 21:out 22:_ -/
abbrev r_mealy_Trim_0 : Reg := ⟨[⟨.bxi (.v 0), none, false⟩, ⟨.alc [.int 0, .int 0, .snil, .snil] (some 4), none, false⟩, ⟨.mv (.c (.int (0))), none, false⟩], [(1, 2), (3, 1)], [0, 22], none⟩
abbrev r_mealy_Trim_1 : Reg := ⟨[⟨.ldi (.v 1) (some 4), none, false⟩, ⟨.cal F_mealy_Valid [(.t 0)], none, false⟩, ⟨.mv (.t 0), none, false⟩], [(2, 0)], [], none⟩
abbrev r_mealy_Trim_2 : Reg := ⟨[⟨.mv (.v 2), none, false⟩, ⟨.bin .neq (.t 0) (.c (.int (0))), none, false⟩], [], [], some (18, 0)⟩
abbrev r_mealy_Trim_3 : Reg := ⟨[⟨.bld [.int 0, .int 0, .snil, .snil] [], none, false⟩, ⟨.mv (.v 2), none, false⟩, ⟨.st (.v 3) (.t 1) 4, none, false⟩, ⟨.mv (.t 1), none, false⟩], [(22, 0)], [1, 2], none⟩
abbrev r_mealy_Trim_4 : Reg := ⟨[⟨.ldi (.v 1) (some 4), none, false⟩, ⟨.cal F_mealy_Reach [(.t 0)], none, false⟩, ⟨.mv (.t 0), none, false⟩], [(4, 0)], [2], none⟩
abbrev r_mealy_Trim_5 : Reg := ⟨[⟨.fad (.v 1) 2 none, none, false⟩, ⟨.ldi (.t 0) none, none, false⟩, ⟨.len (.t 0), none, false⟩, ⟨.mks (.t 0) (.t 0) [.int 0] none, none, false⟩, ⟨.mv (.t 0), none, false⟩], [(8, 0)], [], none⟩
abbrev r_mealy_Trim_6 : Reg := ⟨[⟨.mv (.v 4), none, false⟩, ⟨.len (.t 0), none, false⟩, ⟨.mv (.c (.int (0))), none, false⟩], [(7, 2), (6, 1), (5, 0)], [], none⟩
abbrev r_mealy_Trim_7 : Reg := ⟨[⟨.bin .lss (.v 5) (.v 6), none, false⟩], [], [], some (30, 0)⟩
abbrev r_mealy_Trim_8 : Reg := ⟨[⟨.mv (.v 5), none, false⟩, ⟨.iad (.v 7) (.v 5) 1, none, false⟩, ⟨.ld (.t 0) none, none, false⟩, ⟨.mv (.t 2), none, false⟩, ⟨.mv (.t 1), none, false⟩], [(10, 1), (9, 0)], [], none⟩
abbrev r_mealy_Trim_9 : Reg := ⟨[⟨.mv (.v 8), none, false⟩, ⟨.mv (.v 9), none, false⟩, ⟨.mv (.v 10), none, false⟩, ⟨.iad (.t 2) (.t 1) 1, none, false⟩, ⟨.st (.t 0) (.t 1) 1, none, false⟩], [], [9, 10], none⟩
abbrev r_mealy_Trim_10 : Reg := ⟨[⟨.bin .add (.v 5) (.c (.int (1))), none, false⟩, ⟨.mv (.t 0), none, false⟩], [(5, 0)], [], none⟩
abbrev b_mealy_Trim_0 : IC := (.seq (.reg r_mealy_Trim_7)
 (.seq (.cond 30 .skip (.exit 0))
 (.seq (.block 1 (.seq (.reg r_mealy_Trim_8)
 (.reg r_mealy_Trim_9)))
 (.reg r_mealy_Trim_10))))
abbrev r_mealy_Trim_11 : Reg := ⟨[⟨.fad (.v 1) 0 none, none, false⟩, ⟨.ldi (.t 0) none, none, false⟩, ⟨.bld [.int 0, .int 0, .snil, .snil] [(0, 1, (.t 0))], none, false⟩, ⟨.alc [.int 0, .int 0, .snil, .snil] (some 4), none, false⟩, ⟨.st (.t 0) (.t 1) 4, none, false⟩], [(21, 1)], [5, 6, 7], none⟩
abbrev r_mealy_Trim_12 : Reg := ⟨[⟨.mv (.v 4), none, false⟩, ⟨.len (.t 0), none, false⟩, ⟨.mv (.c (.int (0))), none, false⟩], [(13, 2), (12, 1), (11, 0)], [4], none⟩
abbrev r_mealy_Trim_13 : Reg := ⟨[⟨.bin .lss (.v 11) (.v 12), none, false⟩], [], [], some (45, 0)⟩
abbrev r_mealy_Trim_14 : Reg := ⟨[⟨.iad (.v 13) (.v 11) 1, none, false⟩, ⟨.ld (.t 0) none, none, false⟩, ⟨.mv (.t 0), none, false⟩], [(14, 0)], [], none⟩
abbrev r_mealy_Trim_15 : Reg := ⟨[⟨.fad (.v 1) 0 none, none, false⟩, ⟨.ldi (.t 0) none, none, false⟩, ⟨.mks (.t 0) (.t 0) [.int 0] none, none, false⟩, ⟨.mv (.t 0), none, false⟩], [(18, 0)], [], none⟩
abbrev r_mealy_Trim_16 : Reg := ⟨[⟨.fad (.v 1) 2 none, none, false⟩, ⟨.ldi (.t 0) none, none, false⟩, ⟨.mv (.v 14), none, false⟩, ⟨.iad (.t 1) (.t 0) 1, none, false⟩, ⟨.ldi (.t 0) none, none, false⟩, ⟨.len (.t 0), none, false⟩, ⟨.mv (.c (.int (0))), none, false⟩], [(17, 2), (16, 1), (15, 0)], [], none⟩
abbrev r_mealy_Trim_17 : Reg := ⟨[⟨.bin .lss (.v 15) (.v 16), none, false⟩], [], [], some (58, 0)⟩
abbrev r_mealy_Trim_18 : Reg := ⟨[⟨.mv (.v 15), none, false⟩, ⟨.iad (.v 17) (.v 15) 1, none, false⟩, ⟨.ld (.t 0) none, none, false⟩, ⟨.mv (.t 2), none, false⟩, ⟨.mv (.t 1), none, false⟩], [(19, 1), (20, 0)], [], none⟩
abbrev r_mealy_Trim_19 : Reg := ⟨[⟨.mv (.v 18), none, false⟩, ⟨.mv (.v 19), none, false⟩, ⟨.mv (.v 8), none, false⟩, ⟨.mv (.v 20), none, false⟩, ⟨.iad (.t 1) (.t 0) 1, none, false⟩, ⟨.ld (.t 0) none, none, false⟩, ⟨.iad (.t 5) (.t 4) 1, none, false⟩, ⟨.st (.t 0) (.t 1) 1, none, false⟩], [], [19, 20], none⟩
abbrev r_mealy_Trim_20 : Reg := ⟨[⟨.bin .add (.v 15) (.c (.int (1))), none, false⟩, ⟨.mv (.t 0), none, false⟩], [(15, 0)], [], none⟩
abbrev b_mealy_Trim_4 : IC := (.seq (.reg r_mealy_Trim_17)
 (.seq (.cond 58 .skip (.exit 4))
 (.seq (.block 5 (.seq (.reg r_mealy_Trim_18)
 (.reg r_mealy_Trim_19)))
 (.reg r_mealy_Trim_20))))
abbrev r_mealy_Trim_21 : Reg := ⟨[⟨.fad (.v 21) 2 none, none, false⟩, ⟨.ld (.t 0) none, none, false⟩, ⟨.mv (.v 18), none, false⟩, ⟨.lita [(.t 0)] 1, none, false⟩, ⟨.appw (.t 2) (.t 0) none, none, false⟩, ⟨.fad (.v 21) 2 none, none, false⟩, ⟨.st (.t 0) (.t 1) 1, none, false⟩], [], [15, 16, 17, 18], none⟩
abbrev r_mealy_Trim_22 : Reg := ⟨[⟨.fad (.v 21) 3 none, none, false⟩, ⟨.ld (.t 0) none, none, false⟩, ⟨.fad (.v 1) 3 none, none, false⟩, ⟨.ldi (.t 0) none, none, false⟩, ⟨.mv (.v 14), none, false⟩, ⟨.iad (.t 1) (.t 0) 1, none, false⟩, ⟨.ldi (.t 0) none, none, false⟩, ⟨.cal F_slices_Clone_Sint_int [(.t 0)], none, false⟩, ⟨.lita [(.t 0)] 1, none, false⟩, ⟨.app (.t 7) (.t 0) none, none, false⟩, ⟨.fad (.v 21) 3 none, none, false⟩, ⟨.st (.t 0) (.t 1) 1, none, false⟩], [], [14], none⟩
abbrev r_mealy_Trim_23 : Reg := ⟨[⟨.bin .add (.v 11) (.c (.int (1))), none, false⟩, ⟨.mv (.t 0), none, false⟩], [(11, 0)], [], none⟩
abbrev b_mealy_Trim_2 : IC := (.seq (.reg r_mealy_Trim_13)
 (.seq (.cond 45 .skip (.exit 2))
 (.seq (.block 3 (.seq (.reg r_mealy_Trim_14)
 (.seq (.reg r_mealy_Trim_15)
 (.seq (.seq (.reg r_mealy_Trim_16)
 (.block 4 (.loop b_mealy_Trim_4)))
 (.seq (.reg r_mealy_Trim_21)
 (.reg r_mealy_Trim_22))))))
 (.reg r_mealy_Trim_23))))
abbrev r_mealy_Trim_24 : Reg := ⟨[⟨.ld (.v 21) (some 4), none, false⟩, ⟨.st (.v 3) (.t 0) 4, none, false⟩, ⟨.mv (.c (.int (0))), none, false⟩], [(22, 0)], [1, 8, 11, 12, 13, 21], none⟩
abbrev ir_mealy_Trim : Fn := { np := 1, nv := 23, res := [(3, some (some 4)), (22, none)], body :=
(.seq (.reg r_mealy_Trim_0)
 (.seq (.seq (.reg r_mealy_Trim_1)
 (.seq (.reg r_mealy_Trim_2)
 (.cond 18 (.seq (.reg r_mealy_Trim_3)
 .ret) .skip)))
 (.seq (.reg r_mealy_Trim_4)
 (.seq (.reg r_mealy_Trim_5)
 (.seq (.seq (.reg r_mealy_Trim_6)
 (.block 0 (.loop b_mealy_Trim_0)))
 (.seq (.reg r_mealy_Trim_11)
 (.seq (.seq (.reg r_mealy_Trim_12)
 (.block 2 (.loop b_mealy_Trim_2)))
 (.seq (.reg r_mealy_Trim_24)
 .ret)))))))) }
/- f63 minimize_Classes : 0:m 1:m 2:_ 3:_ -/
abbrev r_minimize_Classes_0 : Reg := ⟨[⟨.bxi (.v 0), none, false⟩, ⟨.mv (.c (.snil)), none, false⟩, ⟨.mv (.c (.int (0))), none, false⟩], [(1, 2)], [0, 2, 3], none⟩
abbrev r_minimize_Classes_1 : Reg := ⟨[⟨.ldi (.v 1) (some 4), none, false⟩, ⟨.cal F_minimize_Partition [(.t 0), (.c (.int (128)))], none, false⟩, ⟨.ext (.t 0) 0, none, false⟩, ⟨.ext (.t 1) 1, none, false⟩, ⟨.mv (.t 1), none, false⟩, ⟨.mv (.t 1), none, false⟩], [(2, 1), (3, 0)], [1], none⟩
abbrev ir_minimize_Classes : Fn := { np := 1, nv := 4, res := [(2, none), (3, none)], body :=
(.seq (.reg r_minimize_Classes_0)
 (.seq (.reg r_minimize_Classes_1)
 .ret)) }
/- f64 slices_BinarySearch_Sint_int : 0:x 1:target 2:n 3:i 4:j 5:h 6:_ 7:_ -/
abbrev r_slices_BinarySearch_Sint_int_0 : Reg := ⟨[⟨.mv (.c (.int (0))), none, false⟩, ⟨.mv (.c (.bool false)), none, false⟩], [], [6, 7], none⟩
abbrev r_slices_BinarySearch_Sint_int_1 : Reg := ⟨[⟨.mv (.v 0), none, false⟩, ⟨.len (.t 0), none, false⟩, ⟨.mv (.t 0), none, false⟩], [(2, 0)], [], none⟩
abbrev r_slices_BinarySearch_Sint_int_2 : Reg := ⟨[⟨.mv (.v 2), none, false⟩, ⟨.mv (.c (.int (0))), none, false⟩, ⟨.mv (.t 1), none, false⟩], [(3, 1), (4, 0)], [], none⟩
abbrev r_slices_BinarySearch_Sint_int_3 : Reg := ⟨[⟨.mv (.v 3), none, false⟩, ⟨.mv (.v 4), none, false⟩, ⟨.bin .lss (.t 1) (.t 0), none, false⟩], [], [], some (15, 0)⟩
abbrev r_slices_BinarySearch_Sint_int_4 : Reg := ⟨[⟨.mv (.v 3), none, false⟩, ⟨.mv (.v 4), none, false⟩, ⟨.bin .add (.t 1) (.t 0), none, false⟩, ⟨.cvu (.t 0), none, false⟩, ⟨.shu (.t 0) (.c (.ik 7 (1))), none, false⟩, ⟨.cvi (.t 0), none, false⟩, ⟨.mv (.t 0), none, false⟩], [(5, 0)], [], none⟩
abbrev r_slices_BinarySearch_Sint_int_5 : Reg := ⟨[⟨.mv (.v 0), none, false⟩, ⟨.mv (.v 5), none, false⟩, ⟨.iad (.t 1) (.t 0) 1, none, false⟩, ⟨.ld (.t 0) none, none, false⟩, ⟨.mv (.v 1), none, false⟩, ⟨.cal F_cmp_Less_int [(.t 1), (.t 0)], none, false⟩], [], [], some (27, 0)⟩
abbrev r_slices_BinarySearch_Sint_int_6 : Reg := ⟨[⟨.mv (.v 5), none, false⟩, ⟨.bin .add (.t 0) (.c (.int (1))), none, false⟩, ⟨.mv (.t 0), none, false⟩], [(3, 0)], [5], none⟩
abbrev r_slices_BinarySearch_Sint_int_7 : Reg := ⟨[⟨.mv (.v 5), none, false⟩, ⟨.mv (.t 0), none, false⟩], [(4, 0)], [5], none⟩
abbrev b_slices_BinarySearch_Sint_int_0 : IC := (.seq (.seq (.reg r_slices_BinarySearch_Sint_int_3)
 (.cond 15 .skip (.exit 0)))
 (.block 1 (.seq (.reg r_slices_BinarySearch_Sint_int_4)
 (.seq (.reg r_slices_BinarySearch_Sint_int_5)
 (.cond 27 (.reg r_slices_BinarySearch_Sint_int_6) (.reg r_slices_BinarySearch_Sint_int_7))))))
abbrev r_slices_BinarySearch_Sint_int_8 : Reg := ⟨[⟨.mv (.v 3), none, false⟩, ⟨.mv (.v 3), none, false⟩, ⟨.mv (.v 2), none, false⟩, ⟨.bin .lss (.t 1) (.t 0), none, false⟩, ⟨.mv (.t 0), none, false⟩, ⟨.mv (.v 0), some (.t 0, true), false⟩, ⟨.mv (.v 3), some (.t 1, true), false⟩, ⟨.iad (.t 1) (.t 0) 1, some (.t 2, true), false⟩, ⟨.ld (.t 0) none, some (.t 3, true), false⟩, ⟨.mv (.v 1), some (.t 4, true), false⟩, ⟨.bin .eql (.t 1) (.t 0), some (.t 5, true), false⟩, ⟨.mv (.t 0), some (.t 6, true), false⟩, ⟨.mv (.v 0), some (.t 0, false), false⟩, ⟨.mv (.v 3), some (.t 1, false), false⟩, ⟨.iad (.t 1) (.t 0) 1, some (.t 2, false), false⟩, ⟨.ld (.t 0) none, some (.t 3, false), false⟩, ⟨.cal F_slices_isNaN_int [(.t 0)], some (.t 4, false), false⟩, ⟨.mv (.t 0), some (.t 5, false), false⟩, ⟨.mv (.v 1), some (.t 0, true), false⟩, ⟨.cal F_slices_isNaN_int [(.t 0)], some (.t 1, true), false⟩, ⟨.pick (.t 2) (.t 0) (.c (.bool false)), some (.t 8, false), false⟩, ⟨.pick (.t 9) (.c (.bool true)) (.t 0), some (.t 16, true), false⟩, ⟨.pick (.t 17) (.t 0) (.c (.bool false)), none, false⟩, ⟨.mv (.t 22), none, false⟩, ⟨.mv (.t 1), none, false⟩], [(6, 1), (7, 0)], [0, 1, 2, 3, 4], none⟩
abbrev ir_slices_BinarySearch_Sint_int : Fn := { np := 2, nv := 8, res := [(6, none), (7, none)], body :=
(.seq (.reg r_slices_BinarySearch_Sint_int_0)
 (.seq (.reg r_slices_BinarySearch_Sint_int_1)
 (.seq (.reg r_slices_BinarySearch_Sint_int_2)
 (.seq (.block 0 (.loop b_slices_BinarySearch_Sint_int_0))
 (.seq (.reg r_slices_BinarySearch_Sint_int_8)
 .ret))))) }
/- f67 slices_Compare_Sint_int : 0:s1 1:s2 2:_ 3:_ 4:_ 5:i 6:v1 7:v2 8:c 9:_ -/
abbrev r_slices_Compare_Sint_int_0 : Reg := ⟨[⟨.mv (.c (.int (0))), none, false⟩], [], [9], none⟩
abbrev r_slices_Compare_Sint_int_1 : Reg := ⟨[⟨.mv (.v 0), none, false⟩, ⟨.len (.t 0), none, false⟩, ⟨.mv (.c (.int (0))), none, false⟩], [(4, 2), (3, 1), (2, 0)], [], none⟩
abbrev r_slices_Compare_Sint_int_2 : Reg := ⟨[⟨.bin .lss (.v 2) (.v 3), none, false⟩], [], [], some (12, 0)⟩
abbrev r_slices_Compare_Sint_int_3 : Reg := ⟨[⟨.mv (.v 2), none, false⟩, ⟨.iad (.v 4) (.v 2) 1, none, false⟩, ⟨.ld (.t 0) none, none, false⟩, ⟨.mv (.t 2), none, false⟩, ⟨.mv (.t 1), none, false⟩], [(5, 1), (6, 0)], [], none⟩
abbrev r_slices_Compare_Sint_int_4 : Reg := ⟨[⟨.mv (.v 5), none, false⟩, ⟨.mv (.v 1), none, false⟩, ⟨.len (.t 0), none, false⟩, ⟨.bin .geq (.t 2) (.t 0), none, false⟩], [], [], some (19, 0)⟩
abbrev r_slices_Compare_Sint_int_5 : Reg := ⟨[⟨.mv (.c (.int (1))), none, false⟩], [(9, 0)], [0, 1, 2, 3, 4, 5, 6], none⟩
abbrev r_slices_Compare_Sint_int_6 : Reg := ⟨[⟨.mv (.v 1), none, false⟩, ⟨.mv (.v 5), none, false⟩, ⟨.iad (.t 1) (.t 0) 1, none, false⟩, ⟨.ld (.t 0) none, none, false⟩, ⟨.mv (.t 0), none, false⟩], [(7, 0)], [5], none⟩
abbrev r_slices_Compare_Sint_int_7 : Reg := ⟨[⟨.mv (.v 6), none, false⟩, ⟨.mv (.v 7), none, false⟩, ⟨.cal F_cmp_Compare_int [(.t 1), (.t 0)], none, false⟩, ⟨.mv (.t 0), none, false⟩], [(8, 0)], [6, 7], none⟩
abbrev r_slices_Compare_Sint_int_8 : Reg := ⟨[⟨.mv (.v 8), none, false⟩, ⟨.bin .neq (.t 0) (.c (.int (0))), none, false⟩], [], [], some (28, 0)⟩
abbrev r_slices_Compare_Sint_int_9 : Reg := ⟨[⟨.mv (.v 8), none, false⟩, ⟨.mv (.t 0), none, false⟩], [(9, 0)], [0, 1, 2, 3, 4, 8], none⟩
abbrev r_slices_Compare_Sint_int_10 : Reg := ⟨[⟨.bin .add (.v 2) (.c (.int (1))), none, false⟩, ⟨.mv (.t 0), none, false⟩], [(2, 0)], [8], none⟩
abbrev b_slices_Compare_Sint_int_0 : IC := (.seq (.reg r_slices_Compare_Sint_int_2)
 (.seq (.cond 12 .skip (.exit 0))
 (.seq (.block 1 (.seq (.reg r_slices_Compare_Sint_int_3)
 (.seq (.seq (.reg r_slices_Compare_Sint_int_4)
 (.cond 19 (.seq (.reg r_slices_Compare_Sint_int_5)
 .ret) .skip))
 (.seq (.reg r_slices_Compare_Sint_int_6)
 (.seq (.reg r_slices_Compare_Sint_int_7)
 (.seq (.reg r_slices_Compare_Sint_int_8)
 (.cond 28 (.seq (.reg r_slices_Compare_Sint_int_9)
 .ret) .skip)))))))
 (.reg r_slices_Compare_Sint_int_10))))
abbrev r_slices_Compare_Sint_int_11 : Reg := ⟨[⟨.mv (.v 0), none, false⟩, ⟨.len (.t 0), none, false⟩, ⟨.mv (.v 1), none, false⟩, ⟨.len (.t 0), none, false⟩, ⟨.bin .lss (.t 2) (.t 0), none, false⟩], [], [0, 1, 2, 3, 4], some (35, 0)⟩
abbrev r_slices_Compare_Sint_int_12 : Reg := ⟨[⟨.mv (.c (.int (-1))), none, false⟩], [(9, 0)], [], none⟩
abbrev r_slices_Compare_Sint_int_13 : Reg := ⟨[⟨.mv (.c (.int (0))), none, false⟩], [(9, 0)], [], none⟩
abbrev ir_slices_Compare_Sint_int : Fn := { np := 2, nv := 10, res := [(9, none)], body :=
(.seq (.reg r_slices_Compare_Sint_int_0)
 (.seq (.seq (.reg r_slices_Compare_Sint_int_1)
 (.block 0 (.loop b_slices_Compare_Sint_int_0)))
 (.seq (.seq (.reg r_slices_Compare_Sint_int_11)
 (.cond 35 (.seq (.reg r_slices_Compare_Sint_int_12)
 .ret) .skip))
 (.seq (.reg r_slices_Compare_Sint_int_13)
 .ret)))) }
/- f69 ref01_Common : 0:a 1:b 2:i 3:_ -/
abbrev r_ref01_Common_0 : Reg := ⟨[⟨.mv (.c (.int (0))), none, false⟩], [], [3], none⟩
abbrev r_ref01_Common_1 : Reg := ⟨[⟨.mv (.c (.int (0))), none, false⟩], [(2, 0)], [], none⟩
abbrev r_ref01_Common_2 : Reg := ⟨[⟨.mv (.v 2), none, false⟩, ⟨.mv (.v 0), none, false⟩, ⟨.len (.t 0), none, false⟩, ⟨.bin .lss (.t 2) (.t 0), none, false⟩, ⟨.mv (.t 0), none, false⟩, ⟨.mv (.v 2), some (.t 0, true), false⟩, ⟨.mv (.v 1), some (.t 1, true), false⟩, ⟨.len (.t 0), some (.t 2, true), false⟩, ⟨.bin .lss (.t 2) (.t 0), some (.t 3, true), false⟩, ⟨.pick (.t 4) (.t 0) (.c (.bool false)), none, false⟩, ⟨.mv (.t 0), none, false⟩, ⟨.mv (.v 0), some (.t 0, true), false⟩, ⟨.mv (.v 2), some (.t 1, true), false⟩, ⟨.iad (.t 1) (.t 0) 1, some (.t 2, true), false⟩, ⟨.ld (.t 0) none, some (.t 3, true), false⟩, ⟨.mv (.v 1), some (.t 4, true), false⟩, ⟨.mv (.v 2), some (.t 5, true), false⟩, ⟨.iad (.t 1) (.t 0) 1, some (.t 6, true), false⟩, ⟨.ld (.t 0) none, some (.t 7, true), false⟩, ⟨.bin .eql (.t 4) (.t 0), some (.t 8, true), false⟩, ⟨.pick (.t 9) (.t 0) (.c (.bool false)), none, false⟩], [], [], some (26, 0)⟩
abbrev r_ref01_Common_3 : Reg := ⟨[⟨.mv (.v 2), none, false⟩, ⟨.bin .add (.t 0) (.c (.int (1))), none, false⟩, ⟨.mv (.t 0), none, false⟩], [(2, 0)], [], none⟩
abbrev b_ref01_Common_0 : IC := (.seq (.seq (.reg r_ref01_Common_2)
 (.cond 26 .skip (.exit 0)))
 (.block 1 (.reg r_ref01_Common_3)))
abbrev r_ref01_Common_4 : Reg := ⟨[⟨.mv (.v 2), none, false⟩, ⟨.mv (.t 0), none, false⟩], [(3, 0)], [0, 1, 2], none⟩
abbrev ir_ref01_Common : Fn := { np := 2, nv := 4, res := [(3, none)], body :=
(.seq (.reg r_ref01_Common_0)
 (.seq (.reg r_ref01_Common_1)
 (.seq (.block 0 (.loop b_ref01_Common_0))
 (.seq (.reg r_ref01_Common_4)
 .ret)))) }
/- f70 ref09_Extended : 0:w 1:a 2:out 3:_ -/
abbrev r_ref09_Extended_0 : Reg := ⟨[⟨.mv (.c (.snil)), none, false⟩], [], [3], none⟩
abbrev r_ref09_Extended_1 : Reg := ⟨[⟨.nl none, none, false⟩], [(2, 0)], [], none⟩
abbrev r_ref09_Extended_2 : Reg := ⟨[⟨.mv (.v 2), none, false⟩, ⟨.mv (.v 0), none, false⟩, ⟨.appw (.t 1) (.t 0) none, none, false⟩, ⟨.mv (.t 0), none, false⟩], [(2, 0)], [0], none⟩
abbrev r_ref09_Extended_3 : Reg := ⟨[⟨.mv (.v 2), none, false⟩, ⟨.mv (.v 1), none, false⟩, ⟨.lita [(.t 0)] 1, none, false⟩, ⟨.appw (.t 2) (.t 0) none, none, false⟩, ⟨.mv (.t 0), none, false⟩], [(2, 0)], [1], none⟩
abbrev r_ref09_Extended_4 : Reg := ⟨[⟨.mv (.v 2), none, false⟩, ⟨.mv (.t 0), none, false⟩], [(3, 0)], [2], none⟩
abbrev ir_ref09_Extended : Fn := { np := 2, nv := 4, res := [(3, none)], body :=
(.seq (.reg r_ref09_Extended_0)
 (.seq (.reg r_ref09_Extended_1)
 (.seq (.reg r_ref09_Extended_2)
 (.seq (.reg r_ref09_Extended_3)
 (.seq (.reg r_ref09_Extended_4)
 .ret))))) }
/- f71 ref01_Size : 0:inputs 1:_ -/
abbrev r_ref01_Size_0 : Reg := ⟨[⟨.mv (.c (.bool false)), none, false⟩], [], [1], none⟩
abbrev r_ref01_Size_1 : Reg := ⟨[⟨.mv (.v 0), none, false⟩, ⟨.bin .geq (.t 0) (.c (.int (1))), none, false⟩, ⟨.mv (.t 0), none, false⟩, ⟨.mv (.v 0), some (.t 0, true), false⟩, ⟨.bin .leq (.t 0) (.c (.int (1024))), some (.t 1, true), false⟩, ⟨.pick (.t 2) (.t 0) (.c (.bool false)), none, false⟩, ⟨.mv (.t 0), none, false⟩], [(1, 0)], [0], none⟩
abbrev ir_ref01_Size : Fn := { np := 1, nv := 2, res := [(1, none)], body :=
(.seq (.reg r_ref01_Size_0)
 (.seq (.reg r_ref01_Size_1)
 .ret)) }
/- f72 ref08_Classes : 0:m 1:m 2:_ 3:_ -/
abbrev r_ref08_Classes_0 : Reg := ⟨[⟨.bxi (.v 0), none, false⟩, ⟨.mv (.c (.snil)), none, false⟩, ⟨.mv (.c (.int (0))), none, false⟩], [(1, 2)], [0, 2, 3], none⟩
abbrev r_ref08_Classes_1 : Reg := ⟨[⟨.ldi (.v 1) (some 4), none, false⟩, ⟨.fad (.v 1) 2 none, none, false⟩, ⟨.ldi (.t 0) none, none, false⟩, ⟨.len (.t 0), none, false⟩, ⟨.cal F_ref08_Partition [(.t 3), (.t 0)], none, false⟩, ⟨.ext (.t 0) 0, none, false⟩, ⟨.ext (.t 1) 1, none, false⟩, ⟨.mv (.t 1), none, false⟩, ⟨.mv (.t 1), none, false⟩], [(2, 1), (3, 0)], [1], none⟩
abbrev ir_ref08_Classes : Fn := { np := 1, nv := 4, res := [(2, none), (3, none)], body :=
(.seq (.reg r_ref08_Classes_0)
 (.seq (.reg r_ref08_Classes_1)
 .ret)) }
/- f73 slices_IndexFunc_Sint_int : 0:s 1:f 2:_ 3:_ 4:i 5:_ -/
abbrev r_slices_IndexFunc_Sint_int_0 : Reg := ⟨[⟨.mv (.c (.int (0))), none, false⟩], [], [5], none⟩
abbrev r_slices_IndexFunc_Sint_int_1 : Reg := ⟨[⟨.mv (.v 0), none, false⟩, ⟨.len (.t 0), none, false⟩, ⟨.mv (.c (.int (0))), none, false⟩], [(3, 1), (2, 0)], [], none⟩
abbrev r_slices_IndexFunc_Sint_int_2 : Reg := ⟨[⟨.bin .lss (.v 2) (.v 3), none, false⟩], [], [], some (9, 0)⟩
abbrev r_slices_IndexFunc_Sint_int_3 : Reg := ⟨[⟨.mv (.v 2), none, false⟩, ⟨.mv (.t 0), none, false⟩], [(4, 0)], [], none⟩
abbrev r_slices_IndexFunc_Sint_int_4 : Reg := ⟨[⟨.mv (.v 1), none, false⟩, ⟨.mv (.v 0), none, false⟩, ⟨.mv (.v 4), none, false⟩, ⟨.iad (.t 1) (.t 0) 1, none, false⟩, ⟨.ld (.t 0) none, none, false⟩, ⟨.cald (.t 4) [(.t 0)], none, false⟩], [], [], some (16, 0)⟩
abbrev r_slices_IndexFunc_Sint_int_5 : Reg := ⟨[⟨.mv (.v 4), none, false⟩, ⟨.mv (.t 0), none, false⟩], [(5, 0)], [0, 1, 2, 3, 4], none⟩
abbrev r_slices_IndexFunc_Sint_int_6 : Reg := ⟨[⟨.bin .add (.v 2) (.c (.int (1))), none, false⟩, ⟨.mv (.t 0), none, false⟩], [(2, 0)], [4], none⟩
abbrev b_slices_IndexFunc_Sint_int_0 : IC := (.seq (.reg r_slices_IndexFunc_Sint_int_2)
 (.seq (.cond 9 .skip (.exit 0))
 (.seq (.block 1 (.seq (.reg r_slices_IndexFunc_Sint_int_3)
 (.seq (.reg r_slices_IndexFunc_Sint_int_4)
 (.cond 16 (.seq (.reg r_slices_IndexFunc_Sint_int_5)
 .ret) .skip))))
 (.reg r_slices_IndexFunc_Sint_int_6))))
abbrev r_slices_IndexFunc_Sint_int_7 : Reg := ⟨[⟨.mv (.c (.int (-1))), none, false⟩], [(5, 0)], [0, 1, 2, 3], none⟩
abbrev ir_slices_IndexFunc_Sint_int : Fn := { np := 2, nv := 6, res := [(5, none)], body :=
(.seq (.reg r_slices_IndexFunc_Sint_int_0)
 (.seq (.seq (.reg r_slices_IndexFunc_Sint_int_1)
 (.block 0 (.loop b_slices_IndexFunc_Sint_int_0)))
 (.seq (.reg r_slices_IndexFunc_Sint_int_7)
 .ret))) }
/- f74 slices_Clone_Sint_int : 0:s 1:_ -/
abbrev r_slices_Clone_Sint_int_0 : Reg := ⟨[⟨.mv (.c (.snil)), none, false⟩], [], [1], none⟩
abbrev r_slices_Clone_Sint_int_1 : Reg := ⟨[⟨.mv (.v 0), none, false⟩, ⟨.bnl false (.t 0), none, false⟩], [], [], some (4, 0)⟩
abbrev r_slices_Clone_Sint_int_2 : Reg := ⟨[⟨.mv (.c (.snil)), none, false⟩], [(1, 0)], [0], none⟩
abbrev r_slices_Clone_Sint_int_3 : Reg := ⟨[⟨.lita [] 1, none, false⟩, ⟨.mv (.v 0), none, false⟩, ⟨.appw (.t 1) (.t 0) none, none, false⟩, ⟨.mv (.t 0), none, false⟩], [(1, 0)], [0], none⟩
abbrev ir_slices_Clone_Sint_int : Fn := { np := 1, nv := 2, res := [(1, none)], body :=
(.seq (.reg r_slices_Clone_Sint_int_0)
 (.seq (.seq (.reg r_slices_Clone_Sint_int_1)
 (.cond 4 (.seq (.reg r_slices_Clone_Sint_int_2)
 .ret) .skip))
 (.seq (.reg r_slices_Clone_Sint_int_3)
 .ret))) }
/- f75 minimize_Partition : 0:m 1:k 2:m 3:e 4:class 5:_ 6:_ -/
abbrev r_minimize_Partition_0 : Reg := ⟨[⟨.bxi (.v 0), none, false⟩, ⟨.mv (.c (.snil)), none, false⟩, ⟨.mv (.c (.int (0))), none, false⟩], [(2, 2)], [0, 5, 6], none⟩
abbrev r_minimize_Partition_1 : Reg := ⟨[⟨.ldi (.v 2) (some 4), none, false⟩, ⟨.cal F_mealy_Valid [(.t 0)], none, false⟩, ⟨.mv (.t 0), none, false⟩], [(3, 0)], [], none⟩
abbrev r_minimize_Partition_2 : Reg := ⟨[⟨.mv (.v 3), none, false⟩, ⟨.bin .neq (.t 0) (.c (.int (0))), none, false⟩], [], [], some (12, 0)⟩
abbrev r_minimize_Partition_3 : Reg := ⟨[⟨.mv (.v 3), none, false⟩, ⟨.mv (.c (.snil)), none, false⟩, ⟨.mv (.t 1), none, false⟩], [(5, 1), (6, 0)], [1, 2, 3], none⟩
abbrev r_minimize_Partition_4 : Reg := ⟨[⟨.ldi (.v 2) (some 4), none, false⟩, ⟨.mv (.v 1), none, false⟩, ⟨.cal F_minimize_refine [(.t 1), (.t 0)], none, false⟩, ⟨.mv (.t 0), none, false⟩, ⟨.ext (.t 0) 0, none, false⟩, ⟨.ext (.t 1) 1, none, false⟩, ⟨.mv (.t 1), none, false⟩, ⟨.mv (.t 1), none, false⟩], [(4, 1)], [1, 2, 3], none⟩
abbrev r_minimize_Partition_5 : Reg := ⟨[⟨.mv (.v 4), none, false⟩, ⟨.mv (.t 0), none, false⟩, ⟨.mv (.c (.int (0))), none, false⟩], [(5, 1), (6, 0)], [4], none⟩
abbrev ir_minimize_Partition : Fn := { np := 2, nv := 7, res := [(5, none), (6, none)], body :=
(.seq (.reg r_minimize_Partition_0)
 (.seq (.seq (.reg r_minimize_Partition_1)
 (.seq (.reg r_minimize_Partition_2)
 (.cond 12 (.seq (.reg r_minimize_Partition_3)
 .ret) .skip)))
 (.seq (.reg r_minimize_Partition_4)
 (.seq (.reg r_minimize_Partition_5)
 .ret)))) }
/- f76 cmp_Less_int : 0:x 1:y 2:_ -/
abbrev r_cmp_Less_int_0 : Reg := ⟨[⟨.mv (.c (.bool false)), none, false⟩], [], [2], none⟩
abbrev r_cmp_Less_int_1 : Reg := ⟨[⟨.mv (.v 0), none, false⟩, ⟨.cal F_cmp_isNaN_int [(.t 0)], none, false⟩, ⟨.mv (.t 0), none, false⟩, ⟨.mv (.v 1), some (.t 0, true), false⟩, ⟨.cal F_cmp_isNaN_int [(.t 0)], some (.t 1, true), false⟩, ⟨.not (.t 0), some (.t 2, true), false⟩, ⟨.pick (.t 3) (.t 0) (.c (.bool false)), none, false⟩, ⟨.mv (.t 0), none, false⟩, ⟨.mv (.v 0), some (.t 0, false), false⟩, ⟨.mv (.v 1), some (.t 1, false), false⟩, ⟨.bin .lss (.t 1) (.t 0), some (.t 2, false), false⟩, ⟨.pick (.t 3) (.c (.bool true)) (.t 0), none, false⟩, ⟨.mv (.t 0), none, false⟩], [(2, 0)], [0, 1], none⟩
abbrev ir_cmp_Less_int : Fn := { np := 2, nv := 3, res := [(2, none)], body :=
(.seq (.reg r_cmp_Less_int_0)
 (.seq (.reg r_cmp_Less_int_1)
 .ret)) }
/- f77 slices_isNaN_int : 0:x 1:_ -/
abbrev r_slices_isNaN_int_0 : Reg := ⟨[⟨.mv (.c (.bool false)), none, false⟩], [], [1], none⟩
abbrev r_slices_isNaN_int_1 : Reg := ⟨[⟨.mv (.v 0), none, false⟩, ⟨.mv (.v 0), none, false⟩, ⟨.bin .neq (.t 1) (.t 0), none, false⟩, ⟨.mv (.t 0), none, false⟩], [(1, 0)], [0], none⟩
abbrev ir_slices_isNaN_int : Fn := { np := 1, nv := 2, res := [(1, none)], body :=
(.seq (.reg r_slices_isNaN_int_0)
 (.seq (.reg r_slices_isNaN_int_1)
 .ret)) }
/- f88 cmp_Compare_int : 0:x 1:y 2:xNaN 3:yNaN 4:_ -/
abbrev r_cmp_Compare_int_0 : Reg := ⟨[⟨.mv (.c (.int (0))), none, false⟩], [], [4], none⟩
abbrev r_cmp_Compare_int_1 : Reg := ⟨[⟨.mv (.v 0), none, false⟩, ⟨.cal F_cmp_isNaN_int [(.t 0)], none, false⟩, ⟨.mv (.t 0), none, false⟩], [(2, 0)], [], none⟩
abbrev r_cmp_Compare_int_2 : Reg := ⟨[⟨.mv (.v 1), none, false⟩, ⟨.cal F_cmp_isNaN_int [(.t 0)], none, false⟩, ⟨.mv (.t 0), none, false⟩], [(3, 0)], [], none⟩
abbrev r_cmp_Compare_int_3 : Reg := ⟨[⟨.mv (.v 2), none, false⟩], [], [2], some (11, 0)⟩
abbrev r_cmp_Compare_int_4 : Reg := ⟨[⟨.mv (.v 3), none, false⟩], [], [0, 1, 3], some (12, 0)⟩
abbrev r_cmp_Compare_int_5 : Reg := ⟨[⟨.mv (.c (.int (0))), none, false⟩], [(4, 0)], [], none⟩
abbrev r_cmp_Compare_int_6 : Reg := ⟨[⟨.mv (.c (.int (-1))), none, false⟩], [(4, 0)], [], none⟩
abbrev r_cmp_Compare_int_7 : Reg := ⟨[⟨.mv (.v 3), none, false⟩], [], [3], some (13, 0)⟩
abbrev r_cmp_Compare_int_8 : Reg := ⟨[⟨.mv (.c (.int (1))), none, false⟩], [(4, 0)], [0, 1], none⟩
abbrev r_cmp_Compare_int_9 : Reg := ⟨[⟨.mv (.v 0), none, false⟩, ⟨.mv (.v 1), none, false⟩, ⟨.bin .lss (.t 1) (.t 0), none, false⟩], [], [], some (16, 0)⟩
abbrev r_cmp_Compare_int_10 : Reg := ⟨[⟨.mv (.c (.int (-1))), none, false⟩], [(4, 0)], [0, 1], none⟩
abbrev r_cmp_Compare_int_11 : Reg := ⟨[⟨.mv (.v 0), none, false⟩, ⟨.mv (.v 1), none, false⟩, ⟨.bin .gtr (.t 1) (.t 0), none, false⟩], [], [0, 1], some (19, 0)⟩
abbrev r_cmp_Compare_int_12 : Reg := ⟨[⟨.mv (.c (.int (1))), none, false⟩], [(4, 0)], [], none⟩
abbrev r_cmp_Compare_int_13 : Reg := ⟨[⟨.mv (.c (.int (0))), none, false⟩], [(4, 0)], [], none⟩
abbrev ir_cmp_Compare_int : Fn := { np := 2, nv := 5, res := [(4, none)], body :=
(.seq (.reg r_cmp_Compare_int_0)
 (.seq (.reg r_cmp_Compare_int_1)
 (.seq (.reg r_cmp_Compare_int_2)
 (.seq (.seq (.reg r_cmp_Compare_int_3)
 (.cond 11 (.seq (.seq (.reg r_cmp_Compare_int_4)
 (.cond 12 (.seq (.reg r_cmp_Compare_int_5)
 .ret) .skip))
 (.seq (.reg r_cmp_Compare_int_6)
 .ret)) .skip))
 (.seq (.seq (.reg r_cmp_Compare_int_7)
 (.cond 13 (.seq (.reg r_cmp_Compare_int_8)
 .ret) .skip))
 (.seq (.seq (.reg r_cmp_Compare_int_9)
 (.cond 16 (.seq (.reg r_cmp_Compare_int_10)
 .ret) .skip))
 (.seq (.seq (.reg r_cmp_Compare_int_11)
 (.cond 19 (.seq (.reg r_cmp_Compare_int_12)
 .ret) .skip))
 (.seq (.reg r_cmp_Compare_int_13)
 .ret)))))))) }
/- f89 ref08_Partition : 0:m 1:k 2:m 3:e 4:i 5:class 6:_ 7:_ -/
abbrev r_ref08_Partition_0 : Reg := ⟨[⟨.bxi (.v 0), none, false⟩, ⟨.mv (.c (.snil)), none, false⟩, ⟨.mv (.c (.int (0))), none, false⟩], [(2, 2)], [0, 6, 7], none⟩
abbrev r_ref08_Partition_1 : Reg := ⟨[⟨.ldi (.v 2) (some 4), none, false⟩, ⟨.cal F_ref06_Valid [(.t 0)], none, false⟩, ⟨.mv (.t 0), none, false⟩], [(3, 0)], [], none⟩
abbrev r_ref08_Partition_2 : Reg := ⟨[⟨.mv (.v 3), none, false⟩, ⟨.bin .neq (.t 0) (.c (.int (0))), none, false⟩], [], [], some (12, 0)⟩
abbrev r_ref08_Partition_3 : Reg := ⟨[⟨.mv (.v 3), none, false⟩, ⟨.mv (.c (.snil)), none, false⟩, ⟨.mv (.t 1), none, false⟩], [(6, 1), (7, 0)], [1, 2, 3], none⟩
abbrev r_ref08_Partition_4 : Reg := ⟨[⟨.fad (.v 2) 2 none, none, false⟩, ⟨.ldi (.t 0) none, none, false⟩, ⟨.len (.t 0), none, false⟩, ⟨.mks (.t 0) (.t 0) [.int 0] none, none, false⟩, ⟨.mv (.t 0), none, false⟩], [(5, 0)], [3], none⟩
abbrev r_ref08_Partition_5 : Reg := ⟨[⟨.mv (.c (.int (0))), none, false⟩], [(4, 0)], [], none⟩
abbrev r_ref08_Partition_6 : Reg := ⟨[⟨.mv (.v 4), none, false⟩, ⟨.mv (.v 1), none, false⟩, ⟨.bin .lss (.t 1) (.t 0), none, false⟩, ⟨.mv (.t 0), none, false⟩, ⟨.mv (.v 4), some (.t 0, true), false⟩, ⟨.fad (.v 2) 2 none, some (.t 1, true), false⟩, ⟨.ldi (.t 0) none, some (.t 2, true), false⟩, ⟨.len (.t 0), some (.t 3, true), false⟩, ⟨.bin .lss (.t 3) (.t 0), some (.t 4, true), false⟩, ⟨.pick (.t 5) (.t 0) (.c (.bool false)), none, false⟩], [], [], some (27, 0)⟩
abbrev r_ref08_Partition_8 : Reg := ⟨[⟨.ldi (.v 2) (some 4), none, false⟩, ⟨.mv (.v 5), none, false⟩, ⟨.cab F_ref08_finer [(.t 1), (.t 0)], none, false⟩, ⟨.mv (.t 0), none, false⟩], [(5, 0)], [], none⟩
abbrev r_ref08_Partition_7 : Reg := ⟨[⟨.mv (.v 4), none, false⟩, ⟨.bin .add (.t 0) (.c (.int (1))), none, false⟩, ⟨.mv (.t 0), none, false⟩], [(4, 0)], [], none⟩
abbrev b_ref08_Partition_0 : IC := (.seq (.seq (.reg r_ref08_Partition_6)
 (.cond 27 .skip (.exit 0)))
 (.seq (.block 1 (.reg r_ref08_Partition_8))
 (.reg r_ref08_Partition_7)))
abbrev r_ref08_Partition_9 : Reg := ⟨[⟨.mv (.v 5), none, false⟩, ⟨.mv (.t 0), none, false⟩, ⟨.mv (.c (.int (0))), none, false⟩], [(6, 1), (7, 0)], [1, 2, 4, 5], none⟩
abbrev ir_ref08_Partition : Fn := { np := 2, nv := 8, res := [(6, none), (7, none)], body :=
(.seq (.reg r_ref08_Partition_0)
 (.seq (.seq (.reg r_ref08_Partition_1)
 (.seq (.reg r_ref08_Partition_2)
 (.cond 12 (.seq (.reg r_ref08_Partition_3)
 .ret) .skip)))
 (.seq (.reg r_ref08_Partition_4)
 (.seq (.seq (.reg r_ref08_Partition_5)
 (.block 0 (.loop b_ref08_Partition_0)))
 (.seq (.reg r_ref08_Partition_9)
 .ret))))) }
/- f90 minimize_refine : 0:m 1:k 2:m 3:_ 4:_ 5:class 6:count 7:n 8:i 9:finer 10:_ 11:_ -/
abbrev r_minimize_refine_0 : Reg := ⟨[⟨.bxi (.v 0), none, false⟩, ⟨.mv (.c (.snil)), none, false⟩, ⟨.mv (.c (.int (0))), none, false⟩], [(2, 2)], [0, 10, 11], none⟩
abbrev r_minimize_refine_1 : Reg := ⟨[⟨.fad (.v 2) 2 none, none, false⟩, ⟨.ldi (.t 0) none, none, false⟩, ⟨.len (.t 0), none, false⟩, ⟨.mks (.t 0) (.t 0) [.int 0] none, none, false⟩, ⟨.mv (.t 0), none, false⟩, ⟨.mv (.c (.int (1))), none, false⟩], [(5, 1), (7, 0)], [], none⟩
abbrev r_minimize_refine_2 : Reg := ⟨[⟨.mv (.v 1), none, false⟩, ⟨.mx true (.t 0) (.c (.int (0))), none, false⟩, ⟨.fad (.v 2) 2 none, none, false⟩, ⟨.ldi (.t 0) none, none, false⟩, ⟨.len (.t 0), none, false⟩, ⟨.mx false (.t 3) (.t 0), none, false⟩, ⟨.mv (.c (.int (0))), none, false⟩], [(4, 1), (3, 0)], [], none⟩
abbrev r_minimize_refine_3 : Reg := ⟨[⟨.bin .lss (.v 3) (.v 4), none, false⟩], [], [], some (22, 0)⟩
abbrev r_minimize_refine_4 : Reg := ⟨[⟨.mv (.v 3), none, false⟩, ⟨.mv (.t 0), none, false⟩], [(8, 0)], [], none⟩
abbrev r_minimize_refine_5 : Reg := ⟨[⟨.ldi (.v 2) (some 4), none, false⟩, ⟨.mv (.v 5), none, false⟩, ⟨.cab F_minimize_next [(.t 1), (.t 0)], none, false⟩, ⟨.mv (.t 0), none, false⟩, ⟨.ext (.t 0) 0, none, false⟩, ⟨.ext (.t 1) 1, none, false⟩, ⟨.mv (.t 1), none, false⟩, ⟨.mv (.t 1), none, false⟩], [(9, 1), (6, 0)], [], none⟩
abbrev r_minimize_refine_6 : Reg := ⟨[⟨.mv (.v 6), none, false⟩, ⟨.mv (.v 7), none, false⟩, ⟨.bin .eql (.t 1) (.t 0), none, false⟩], [], [7], some (32, 0)⟩
abbrev r_minimize_refine_7 : Reg := ⟨[⟨.mv (.v 5), none, false⟩, ⟨.mv (.v 8), none, false⟩, ⟨.mv (.t 1), none, false⟩, ⟨.mv (.t 1), none, false⟩], [(10, 1), (11, 0)], [1, 2, 3, 4, 5, 6, 8, 9], none⟩
abbrev r_minimize_refine_8 : Reg := ⟨[⟨.mv (.v 9), none, false⟩, ⟨.mv (.v 6), none, false⟩, ⟨.mv (.t 1), none, false⟩, ⟨.mv (.t 1), none, false⟩], [(5, 1), (7, 0)], [6, 8, 9], none⟩
abbrev r_minimize_refine_9 : Reg := ⟨[⟨.bin .add (.v 3) (.c (.int (1))), none, false⟩, ⟨.mv (.t 0), none, false⟩], [(3, 0)], [], none⟩
abbrev b_minimize_refine_0 : IC := (.seq (.reg r_minimize_refine_3)
 (.seq (.cond 22 .skip (.exit 0))
 (.seq (.block 1 (.seq (.reg r_minimize_refine_4)
 (.seq (.reg r_minimize_refine_5)
 (.seq (.seq (.reg r_minimize_refine_6)
 (.cond 32 (.seq (.reg r_minimize_refine_7)
 .ret) .skip))
 (.reg r_minimize_refine_8)))))
 (.reg r_minimize_refine_9))))
abbrev r_minimize_refine_10 : Reg := ⟨[⟨.mv (.v 5), none, false⟩, ⟨.mv (.v 1), none, false⟩, ⟨.mx true (.t 0) (.c (.int (0))), none, false⟩, ⟨.fad (.v 2) 2 none, none, false⟩, ⟨.ldi (.t 0) none, none, false⟩, ⟨.len (.t 0), none, false⟩, ⟨.mx false (.t 3) (.t 0), none, false⟩, ⟨.mv (.t 6), none, false⟩, ⟨.mv (.t 1), none, false⟩], [(10, 1), (11, 0)], [1, 2, 3, 4, 5, 7], none⟩
abbrev ir_minimize_refine : Fn := { np := 2, nv := 12, res := [(10, none), (11, none)], body :=
(.seq (.reg r_minimize_refine_0)
 (.seq (.reg r_minimize_refine_1)
 (.seq (.seq (.reg r_minimize_refine_2)
 (.block 0 (.loop b_minimize_refine_0)))
 (.seq (.reg r_minimize_refine_10)
 .ret)))) }
/- f91 cmp_isNaN_int : 0:x 1:_ -/
abbrev r_cmp_isNaN_int_0 : Reg := ⟨[⟨.mv (.c (.bool false)), none, false⟩], [], [1], none⟩
abbrev r_cmp_isNaN_int_1 : Reg := ⟨[⟨.mv (.v 0), none, false⟩, ⟨.mv (.v 0), none, false⟩, ⟨.bin .neq (.t 1) (.t 0), none, false⟩, ⟨.mv (.t 0), none, false⟩], [(1, 0)], [0], none⟩
abbrev ir_cmp_isNaN_int : Fn := { np := 1, nv := 2, res := [(1, none)], body :=
(.seq (.reg r_cmp_isNaN_int_0)
 (.seq (.reg r_cmp_isNaN_int_1)
 .ret)) }
/- f97 ref08_finer : 0:m 1:class 2:s 3:t 4:a 5:m 6:same 7:out 8:found 9:count 10:_ -/
abbrev r_ref08_finer_0 : Reg := ⟨[⟨.bxi (.v 0), none, false⟩, ⟨.mv (.c (.snil)), none, false⟩], [(5, 1)], [0, 10], none⟩
abbrev r_ref08_finer_1 : Reg := ⟨[⟨.nl none, none, false⟩], [(7, 0)], [], none⟩
abbrev r_ref08_finer_2 : Reg := ⟨[⟨.mv (.c (.int (0))), none, false⟩], [(9, 0)], [], none⟩
abbrev r_ref08_finer_3 : Reg := ⟨[⟨.mv (.c (.int (0))), none, false⟩], [(2, 0)], [], none⟩
abbrev r_ref08_finer_4 : Reg := ⟨[⟨.mv (.v 2), none, false⟩, ⟨.mv (.v 1), none, false⟩, ⟨.len (.t 0), none, false⟩, ⟨.bin .lss (.t 2) (.t 0), none, false⟩], [], [], some (15, 0)⟩
abbrev r_ref08_finer_6 : Reg := ⟨[⟨.mv (.c (.int (-1))), none, false⟩], [(8, 0)], [], none⟩
abbrev r_ref08_finer_7 : Reg := ⟨[⟨.mv (.v 2), none, false⟩, ⟨.bin .sub (.t 0) (.c (.int (1))), none, false⟩, ⟨.mv (.t 0), none, false⟩], [(3, 0)], [], none⟩
abbrev r_ref08_finer_8 : Reg := ⟨[⟨.mv (.v 3), none, false⟩, ⟨.bin .geq (.t 0) (.c (.int (0))), none, false⟩], [], [], some (21, 0)⟩
abbrev r_ref08_finer_10 : Reg := ⟨[⟨.mv (.v 1), none, false⟩, ⟨.mv (.v 2), none, false⟩, ⟨.iad (.t 1) (.t 0) 1, none, false⟩, ⟨.ld (.t 0) none, none, false⟩, ⟨.mv (.v 1), none, false⟩, ⟨.mv (.v 3), none, false⟩, ⟨.iad (.t 1) (.t 0) 1, none, false⟩, ⟨.ld (.t 0) none, none, false⟩, ⟨.bin .eql (.t 4) (.t 0), none, false⟩, ⟨.mv (.t 0), none, false⟩], [(6, 0)], [], none⟩
abbrev r_ref08_finer_11 : Reg := ⟨[⟨.mv (.c (.int (0))), none, false⟩], [(4, 0)], [], none⟩
abbrev r_ref08_finer_12 : Reg := ⟨[⟨.mv (.v 4), none, false⟩, ⟨.fad (.v 5) 0 none, none, false⟩, ⟨.ldi (.t 0) none, none, false⟩, ⟨.bin .lss (.t 2) (.t 0), none, false⟩, ⟨.mv (.t 0), none, false⟩, ⟨.mv (.v 6), some (.t 0, true), false⟩, ⟨.pick (.t 1) (.t 0) (.c (.bool false)), none, false⟩], [], [], some (39, 0)⟩
abbrev r_ref08_finer_14 : Reg := ⟨[⟨.fad (.v 5) 3 none, none, false⟩, ⟨.ldi (.t 0) none, none, false⟩, ⟨.mv (.v 2), none, false⟩, ⟨.iad (.t 1) (.t 0) 1, none, false⟩, ⟨.ldi (.t 0) none, none, false⟩, ⟨.mv (.v 4), none, false⟩, ⟨.iad (.t 1) (.t 0) 1, none, false⟩, ⟨.ldi (.t 0) none, none, false⟩, ⟨.fad (.v 5) 3 none, none, false⟩, ⟨.ldi (.t 0) none, none, false⟩, ⟨.mv (.v 3), none, false⟩, ⟨.iad (.t 1) (.t 0) 1, none, false⟩, ⟨.ldi (.t 0) none, none, false⟩, ⟨.mv (.v 4), none, false⟩, ⟨.iad (.t 1) (.t 0) 1, none, false⟩, ⟨.ldi (.t 0) none, none, false⟩, ⟨.bin .eql (.t 8) (.t 0), none, false⟩, ⟨.mv (.t 0), none, false⟩, ⟨.mv (.v 1), some (.t 0, true), false⟩, ⟨.fad (.v 5) 2 none, some (.t 1, true), false⟩, ⟨.ldi (.t 0) none, some (.t 2, true), false⟩, ⟨.mv (.v 2), some (.t 3, true), false⟩, ⟨.iad (.t 1) (.t 0) 1, some (.t 4, true), false⟩, ⟨.ldi (.t 0) none, some (.t 5, true), false⟩, ⟨.mv (.v 4), some (.t 6, true), false⟩, ⟨.iad (.t 1) (.t 0) 1, some (.t 7, true), false⟩, ⟨.ldi (.t 0) none, some (.t 8, true), false⟩, ⟨.iad (.t 8) (.t 0) 1, some (.t 9, true), false⟩, ⟨.ld (.t 0) none, some (.t 10, true), false⟩, ⟨.mv (.v 1), some (.t 11, true), false⟩, ⟨.fad (.v 5) 2 none, some (.t 12, true), false⟩, ⟨.ldi (.t 0) none, some (.t 13, true), false⟩, ⟨.mv (.v 3), some (.t 14, true), false⟩, ⟨.iad (.t 1) (.t 0) 1, some (.t 15, true), false⟩, ⟨.ldi (.t 0) none, some (.t 16, true), false⟩, ⟨.mv (.v 4), some (.t 17, true), false⟩, ⟨.iad (.t 1) (.t 0) 1, some (.t 18, true), false⟩, ⟨.ldi (.t 0) none, some (.t 19, true), false⟩, ⟨.iad (.t 8) (.t 0) 1, some (.t 20, true), false⟩, ⟨.ld (.t 0) none, some (.t 21, true), false⟩, ⟨.bin .eql (.t 11) (.t 0), some (.t 22, true), false⟩, ⟨.pick (.t 23) (.t 0) (.c (.bool false)), none, false⟩, ⟨.mv (.t 0), none, false⟩], [(6, 0)], [], none⟩
abbrev r_ref08_finer_13 : Reg := ⟨[⟨.mv (.v 4), none, false⟩, ⟨.bin .add (.t 0) (.c (.int (1))), none, false⟩, ⟨.mv (.t 0), none, false⟩], [(4, 0)], [], none⟩
abbrev b_ref08_finer_4 : IC := (.seq (.seq (.reg r_ref08_finer_12)
 (.cond 39 .skip (.exit 4)))
 (.seq (.block 5 (.reg r_ref08_finer_14))
 (.reg r_ref08_finer_13)))
abbrev r_ref08_finer_15 : Reg := ⟨[⟨.mv (.v 6), none, false⟩], [], [4, 6], some (84, 0)⟩
abbrev r_ref08_finer_16 : Reg := ⟨[⟨.mv (.v 7), none, false⟩, ⟨.mv (.v 3), none, false⟩, ⟨.iad (.t 1) (.t 0) 1, none, false⟩, ⟨.ld (.t 0) none, none, false⟩, ⟨.mv (.t 0), none, false⟩], [(8, 0)], [], none⟩
abbrev r_ref08_finer_9 : Reg := ⟨[⟨.mv (.v 3), none, false⟩, ⟨.bin .sub (.t 0) (.c (.int (1))), none, false⟩, ⟨.mv (.t 0), none, false⟩], [(3, 0)], [], none⟩
abbrev b_ref08_finer_2 : IC := (.seq (.seq (.reg r_ref08_finer_8)
 (.cond 21 .skip (.exit 2)))
 (.seq (.block 3 (.seq (.reg r_ref08_finer_10)
 (.seq (.seq (.reg r_ref08_finer_11)
 (.block 4 (.loop b_ref08_finer_4)))
 (.seq (.reg r_ref08_finer_15)
 (.cond 84 (.reg r_ref08_finer_16) .skip)))))
 (.reg r_ref08_finer_9)))
abbrev r_ref08_finer_17 : Reg := ⟨[⟨.mv (.v 8), none, false⟩, ⟨.bin .lss (.t 0) (.c (.int (0))), none, false⟩], [], [3], some (90, 0)⟩
abbrev r_ref08_finer_18 : Reg := ⟨[⟨.mv (.v 9), none, false⟩, ⟨.mv (.t 0), none, false⟩], [(8, 0)], [], none⟩
abbrev r_ref08_finer_19 : Reg := ⟨[⟨.mv (.v 9), none, false⟩, ⟨.bin .add (.t 0) (.c (.int (1))), none, false⟩, ⟨.mv (.t 0), none, false⟩], [(9, 0)], [], none⟩
abbrev r_ref08_finer_20 : Reg := ⟨[⟨.mv (.v 7), none, false⟩, ⟨.mv (.v 8), none, false⟩, ⟨.lita [(.t 0)] 1, none, false⟩, ⟨.appw (.t 2) (.t 0) none, none, false⟩, ⟨.mv (.t 0), none, false⟩], [(7, 0)], [8], none⟩
abbrev r_ref08_finer_5 : Reg := ⟨[⟨.mv (.v 2), none, false⟩, ⟨.bin .add (.t 0) (.c (.int (1))), none, false⟩, ⟨.mv (.t 0), none, false⟩], [(2, 0)], [], none⟩
abbrev b_ref08_finer_0 : IC := (.seq (.seq (.reg r_ref08_finer_4)
 (.cond 15 .skip (.exit 0)))
 (.seq (.block 1 (.seq (.reg r_ref08_finer_6)
 (.seq (.seq (.reg r_ref08_finer_7)
 (.block 2 (.loop b_ref08_finer_2)))
 (.seq (.seq (.reg r_ref08_finer_17)
 (.cond 90 (.seq (.reg r_ref08_finer_18)
 (.reg r_ref08_finer_19)) .skip))
 (.reg r_ref08_finer_20)))))
 (.reg r_ref08_finer_5)))
abbrev r_ref08_finer_21 : Reg := ⟨[⟨.mv (.v 7), none, false⟩, ⟨.mv (.t 0), none, false⟩], [(10, 0)], [1, 2, 5, 7, 9], none⟩
abbrev ir_ref08_finer : Fn := { np := 2, nv := 11, res := [(10, none)], body :=
(.seq (.reg r_ref08_finer_0)
 (.seq (.reg r_ref08_finer_1)
 (.seq (.reg r_ref08_finer_2)
 (.seq (.seq (.reg r_ref08_finer_3)
 (.block 0 (.loop b_ref08_finer_0)))
 (.seq (.reg r_ref08_finer_21)
 .ret))))) }
/- f98 minimize_next : 0:m 1:class 2:_ 3:_ 4:m 5:_ 6:_ 7:a 8:s 9:x 10:numbers 11:ok 12:n 13:out 14:_ 15:_ -/
abbrev r_minimize_next_0 : Reg := ⟨[⟨.bxi (.v 0), none, false⟩, ⟨.mv (.c (.snil)), none, false⟩, ⟨.mv (.c (.int (0))), none, false⟩], [(4, 2)], [0, 14, 15], none⟩
abbrev r_minimize_next_1 : Reg := ⟨[⟨.mkm, none, false⟩, ⟨.mv (.t 0), none, false⟩], [(10, 0)], [], none⟩
abbrev r_minimize_next_2 : Reg := ⟨[⟨.mv (.v 1), none, false⟩, ⟨.len (.t 0), none, false⟩, ⟨.mks (.t 0) (.t 0) [.int 0] none, none, false⟩, ⟨.mv (.t 0), none, false⟩], [(13, 0)], [], none⟩
abbrev r_minimize_next_3 : Reg := ⟨[⟨.mv (.v 1), none, false⟩, ⟨.len (.t 0), none, false⟩, ⟨.mv (.c (.int (0))), none, false⟩], [(3, 1), (2, 0)], [], none⟩
abbrev r_minimize_next_4 : Reg := ⟨[⟨.bin .lss (.v 2) (.v 3), none, false⟩], [], [], some (20, 0)⟩
abbrev r_minimize_next_5 : Reg := ⟨[⟨.mv (.v 2), none, false⟩, ⟨.mv (.t 0), none, false⟩], [(8, 0)], [], none⟩
abbrev r_minimize_next_6 : Reg := ⟨[⟨.alc [.int 0, .int 0, .int 0, .int 0, .int 0, .int 0, .int 0, .int 0, .int 0, .int 0, .int 0, .int 0, .int 0, .int 0, .int 0, .int 0, .int 0, .int 0, .int 0, .int 0, .int 0, .int 0, .int 0, .int 0, .int 0, .int 0, .int 0, .int 0, .int 0, .int 0, .int 0, .int 0, .int 0, .int 0, .int 0, .int 0, .int 0, .int 0, .int 0, .int 0, .int 0, .int 0, .int 0, .int 0, .int 0, .int 0, .int 0, .int 0, .int 0, .int 0, .int 0, .int 0, .int 0, .int 0, .int 0, .int 0, .int 0, .int 0, .int 0, .int 0, .int 0, .int 0, .int 0, .int 0, .int 0, .int 0, .int 0, .int 0, .int 0, .int 0, .int 0, .int 0, .int 0, .int 0, .int 0, .int 0, .int 0, .int 0, .int 0, .int 0, .int 0, .int 0, .int 0, .int 0, .int 0, .int 0, .int 0, .int 0, .int 0, .int 0, .int 0, .int 0, .int 0, .int 0, .int 0, .int 0, .int 0, .int 0, .int 0, .int 0, .int 0, .int 0, .int 0, .int 0, .int 0, .int 0, .int 0, .int 0, .int 0, .int 0, .int 0, .int 0, .int 0, .int 0, .int 0, .int 0, .int 0, .int 0, .int 0, .int 0, .int 0, .int 0, .int 0, .int 0, .int 0, .int 0, .int 0, .int 0] (some 128), none, false⟩], [(9, 0)], [], none⟩
abbrev r_minimize_next_7 : Reg := ⟨[⟨.fad (.v 4) 0 none, none, false⟩, ⟨.ldi (.t 0) none, none, false⟩, ⟨.mv (.c (.int (0))), none, false⟩], [(6, 1), (5, 0)], [], none⟩
abbrev r_minimize_next_8 : Reg := ⟨[⟨.bin .lss (.v 5) (.v 6), none, false⟩], [], [], some (25, 0)⟩
abbrev r_minimize_next_9 : Reg := ⟨[⟨.mv (.v 5), none, false⟩, ⟨.mv (.t 0), none, false⟩], [(7, 0)], [], none⟩
abbrev r_minimize_next_10 : Reg := ⟨[⟨.mv (.v 7), none, false⟩, ⟨.fad (.v 4) 3 none, none, false⟩, ⟨.ldi (.t 0) none, none, false⟩, ⟨.mv (.v 8), none, false⟩, ⟨.iad (.t 1) (.t 0) 1, none, false⟩, ⟨.ldi (.t 0) none, none, false⟩, ⟨.mv (.v 7), none, false⟩, ⟨.iad (.t 1) (.t 0) 1, none, false⟩, ⟨.ldi (.t 0) none, none, false⟩, ⟨.iada (.v 9) (.t 8) 128 none, none, false⟩, ⟨.st (.t 0) (.t 1) 1, none, false⟩], [], [], none⟩
abbrev r_minimize_next_11 : Reg := ⟨[⟨.mv (.v 7), none, false⟩, ⟨.bin .add (.c (.int (64))) (.t 0), none, false⟩, ⟨.mv (.v 1), none, false⟩, ⟨.fad (.v 4) 2 none, none, false⟩, ⟨.ldi (.t 0) none, none, false⟩, ⟨.mv (.v 8), none, false⟩, ⟨.iad (.t 1) (.t 0) 1, none, false⟩, ⟨.ldi (.t 0) none, none, false⟩, ⟨.mv (.v 7), none, false⟩, ⟨.iad (.t 1) (.t 0) 1, none, false⟩, ⟨.ldi (.t 0) none, none, false⟩, ⟨.iad (.t 8) (.t 0) 1, none, false⟩, ⟨.ld (.t 0) none, none, false⟩, ⟨.iada (.v 9) (.t 11) 128 none, none, false⟩, ⟨.st (.t 0) (.t 1) 1, none, false⟩], [], [7], none⟩
abbrev r_minimize_next_12 : Reg := ⟨[⟨.bin .add (.v 5) (.c (.int (1))), none, false⟩, ⟨.mv (.t 0), none, false⟩], [(5, 0)], [], none⟩
abbrev b_minimize_next_2 : IC := (.lex (.seq (.reg r_minimize_next_8)
 (.seq (.cond 25 .skip (.exit 2))
 (.seq (.block 3 (.seq (.reg r_minimize_next_9)
 (.seq (.reg r_minimize_next_10)
 (.reg r_minimize_next_11))))
 (.reg r_minimize_next_12)))))
abbrev r_minimize_next_13 : Reg := ⟨[⟨.mv (.v 10), none, false⟩, ⟨.ld (.v 9) (some 128), none, false⟩, ⟨.mlk (.t 1) 130 (.t 0) (.int 0) true, none, false⟩, ⟨.mv (.t 0), none, false⟩, ⟨.ext (.t 0) 0, none, false⟩, ⟨.ext (.t 1) 1, none, false⟩, ⟨.mv (.t 1), none, false⟩, ⟨.mv (.t 1), none, false⟩], [(12, 1), (11, 0)], [5, 6], none⟩
abbrev r_minimize_next_14 : Reg := ⟨[⟨.mv (.v 11), none, false⟩, ⟨.not (.t 0), none, false⟩], [], [11], some (59, 0)⟩
abbrev r_minimize_next_15 : Reg := ⟨[⟨.mv (.v 10), none, false⟩, ⟨.mln (.t 0), none, false⟩, ⟨.mv (.t 0), none, false⟩], [(12, 0)], [], none⟩
abbrev r_minimize_next_16 : Reg := ⟨[⟨.mv (.v 10), none, false⟩, ⟨.ld (.v 9) (some 128), none, false⟩, ⟨.mv (.v 12), none, false⟩, ⟨.mup (.t 2) 130 (.t 1) (.t 0), none, false⟩], [], [9], none⟩
abbrev r_minimize_next_17 : Reg := ⟨[⟨.mv (.v 13), none, false⟩, ⟨.mv (.v 8), none, false⟩, ⟨.mv (.v 12), none, false⟩, ⟨.iad (.t 2) (.t 1) 1, none, false⟩, ⟨.st (.t 0) (.t 1) 1, none, false⟩], [], [8, 9, 12], none⟩
abbrev r_minimize_next_18 : Reg := ⟨[⟨.bin .add (.v 2) (.c (.int (1))), none, false⟩, ⟨.mv (.t 0), none, false⟩], [(2, 0)], [], none⟩
abbrev b_minimize_next_0 : IC := (.lex (.seq (.reg r_minimize_next_4)
 (.seq (.cond 20 .skip (.exit 0))
 (.seq (.block 1 (.seq (.reg r_minimize_next_5)
 (.seq (.reg r_minimize_next_6)
 (.seq (.seq (.reg r_minimize_next_7)
 (.block 2 (.loop b_minimize_next_2)))
 (.seq (.reg r_minimize_next_13)
 (.seq (.seq (.reg r_minimize_next_14)
 (.cond 59 (.seq (.reg r_minimize_next_15)
 (.reg r_minimize_next_16)) .skip))
 (.reg r_minimize_next_17)))))))
 (.reg r_minimize_next_18)))))
abbrev r_minimize_next_19 : Reg := ⟨[⟨.mv (.v 13), none, false⟩, ⟨.mv (.v 10), none, false⟩, ⟨.mln (.t 0), none, false⟩, ⟨.mv (.t 2), none, false⟩, ⟨.mv (.t 1), none, false⟩], [(14, 1), (15, 0)], [1, 2, 3, 4, 10, 13], none⟩
abbrev ir_minimize_next : Fn := { np := 2, nv := 16, res := [(14, none), (15, none)], body :=
(.seq (.reg r_minimize_next_0)
 (.seq (.reg r_minimize_next_1)
 (.seq (.reg r_minimize_next_2)
 (.seq (.seq (.reg r_minimize_next_3)
 (.block 0 (.loop b_minimize_next_0)))
 (.seq (.reg r_minimize_next_19)
 .ret))))) }
end Ab
