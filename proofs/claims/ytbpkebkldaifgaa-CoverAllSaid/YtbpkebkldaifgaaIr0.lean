/- The functions of the program as small texts, printed by a tool of mine. Condition: none. -/
import Derived.Test.YtbpkebkldaifgaaAbBase
set_option linter.all false
namespace Ab
abbrev T_string : Nat := 9
def F_law10_CoverPaths : Nat := 3
def F_law10_CoverTours : Nat := 4
def F_law10_CoverCounts : Nat := 5
def F_law10_CoverAll : Nat := 6
def F_law10_CoverAccess : Nat := 7
def F_law10_CoverFirst : Nat := 8
def F_law08_Great : Nat := 9
def F_law10_exampleHolds : Nat := 10
def F_cover_Path : Nat := 11
def F_ref10_Path : Nat := 12
def F_ref08_Equal : Nat := 13
def F_cover_Tour : Nat := 14
def F_ref10_Tour : Nat := 15
def F_cover_Covered : Nat := 16
def F_ref10_Covered : Nat := 17
def F_ref06_Valid : Nat := 18
def F_cover_Access : Nat := 19
def F_cover_Transitions : Nat := 20
def F_ref10_Access : Nat := 21
def F_cover_StateCover : Nat := 22
def F_ref10_StateCover : Nat := 23
def F_ref10_Transitions : Nat := 24
def F_ref10_Same : Nat := 25
def F_wordset_Prefixes : Nat := 26
def F_law10_last : Nat := 27
def F_word_Compare : Nat := 28
def F_mealy_Valid : Nat := 29
def F_cover_places : Nat := 30
def F_cover_marks : Nat := 31
def F_mealy_Reach : Nat := 32
def F_cover_untaken : Nat := 33
def F_ref10_none : Nat := 34
def F_ref10_fresh : Nat := 35
def F_word_Check : Nat := 36
def F_cover_Covered_1 : Nat := 37
def F_ref01_Check : Nat := 38
def F_ref10_has : Nat := 39
def F_ref06_row : Nat := 40
def F_word_Join : Nat := 41
def F_wordset_Sorted : Nat := 42
def F_ref09_Extended : Nat := 43
def F_wordset_parts : Nat := 44
def F_wordset_Prefixes_1 : Nat := 45
def F_mealy_From : Nat := 46
def F_cmp_Or_int : Nat := 47
def F_cmp_Compare_int : Nat := 48
def F_slices_Compare_Sint_int : Nat := 49
def F_word_permitted : Nat := 50
def F_slices_ContainsFunc_Sint_int : Nat := 51
def F_word_Check_1 : Nat := 52
def F_ref01_Size : Nat := 53
def F_slices_Concat_Sint_int : Nat := 54
def F_wordset_ordered : Nat := 55
def F_mealy_state : Nat := 56
def F_mealy_runner_run : Nat := 57
def F_cmp_isNaN_int : Nat := 58
def F_slices_IndexFunc_Sint_int : Nat := 59
def F_slices_Grow_Sint_int : Nat := 60
def F_slices_Clone_SSint_Sint : Nat := 61
def F_slices_SortFunc_SSint_Sint : Nat := 62
def F_slices_CompactFunc_SSint_Sint : Nat := 63
def F_wordset_ordered_1 : Nat := 64
def F_slices_Clone_Sint_int : Nat := 65
def F_mealy_machine_move : Nat := 66
def F_slices_pdqsortCmpFunc_Sint : Nat := 67
def F_math_bits_Len : Nat := 68
def F_slices_insertionSortCmpFunc_Sint : Nat := 69
def F_slices_heapSortCmpFunc_Sint : Nat := 70
def F_slices_breakPatternsCmpFunc_Sint : Nat := 71
def F_slices_choosePivotCmpFunc_Sint : Nat := 72
def F_slices_reverseRangeCmpFunc_Sint : Nat := 73
def F_slices_partialInsertionSortCmpFunc_Sint : Nat := 74
def F_slices_partitionEqualCmpFunc_Sint : Nat := 75
def F_slices_partitionCmpFunc_Sint : Nat := 76
def F_math_bits_Len32 : Nat := 77
def F_math_bits_Len64 : Nat := 78
def F_slices_siftDownCmpFunc_Sint : Nat := 79
def F_slices_nextPowerOfTwo : Nat := 80
def F_slices_xorshift_Next : Nat := 81
def F_slices_medianAdjacentCmpFunc_Sint : Nat := 82
def F_slices_medianCmpFunc_Sint : Nat := 83
def F_slices_order2CmpFunc_Sint : Nat := 84
/- f3 law10_CoverPaths : 0:m 1:s 2:t 3:m 4:a 5:b 6:ok 7:is 8:e 9:f 10:_ -/
abbrev r_law10_CoverPaths_0 : Reg := ⟨[⟨.bxi (.v 0), none, false⟩, ⟨.mv (.c (.bool false)), none, false⟩], [(3, 1)], [0, 10], none⟩
abbrev r_law10_CoverPaths_1 : Reg := ⟨[⟨.ldi (.v 3) (some 4), none, false⟩, ⟨.cal F_law08_Great [(.t 0)], none, false⟩], [], [], some (14, 0)⟩
abbrev r_law10_CoverPaths_2 : Reg := ⟨[⟨.cal F_law10_exampleHolds [], none, false⟩, ⟨.mv (.t 0), none, false⟩], [(10, 0)], [1, 2, 3], none⟩
abbrev r_law10_CoverPaths_3 : Reg := ⟨[⟨.ldi (.v 3) (some 4), none, false⟩, ⟨.mv (.v 1), none, false⟩, ⟨.mv (.v 2), none, false⟩, ⟨.cal F_cover_Path [(.t 2), (.t 1), (.t 0)], none, false⟩, ⟨.mv (.t 0), none, false⟩, ⟨.ext (.t 0) 0, none, false⟩, ⟨.ext (.t 1) 1, none, false⟩, ⟨.ext (.t 2) 2, none, false⟩, ⟨.mv (.t 2), none, false⟩, ⟨.mv (.t 2), none, false⟩, ⟨.mv (.t 2), none, false⟩], [(4, 2), (6, 1), (8, 0)], [], none⟩
abbrev r_law10_CoverPaths_4 : Reg := ⟨[⟨.ldi (.v 3) (some 4), none, false⟩, ⟨.mv (.v 1), none, false⟩, ⟨.mv (.v 2), none, false⟩, ⟨.cal F_ref10_Path [(.t 2), (.t 1), (.t 0)], none, false⟩, ⟨.mv (.t 0), none, false⟩, ⟨.ext (.t 0) 0, none, false⟩, ⟨.ext (.t 1) 1, none, false⟩, ⟨.ext (.t 2) 2, none, false⟩, ⟨.mv (.t 2), none, false⟩, ⟨.mv (.t 2), none, false⟩, ⟨.mv (.t 2), none, false⟩], [(5, 2), (7, 1), (9, 0)], [1, 2, 3], none⟩
abbrev r_law10_CoverPaths_5 : Reg := ⟨[⟨.mv (.v 4), none, false⟩, ⟨.mv (.v 5), none, false⟩, ⟨.cal F_ref08_Equal [(.t 1), (.t 0)], none, false⟩, ⟨.mv (.t 0), none, false⟩, ⟨.mv (.v 6), some (.t 0, true), false⟩, ⟨.mv (.v 7), some (.t 1, true), false⟩, ⟨.beq false (.t 1) (.t 0), some (.t 2, true), false⟩, ⟨.pick (.t 3) (.t 0) (.c (.bool false)), none, false⟩, ⟨.mv (.t 0), none, false⟩, ⟨.mv (.v 8), some (.t 0, true), false⟩, ⟨.mv (.v 9), some (.t 1, true), false⟩, ⟨.bin .eql (.t 1) (.t 0), some (.t 2, true), false⟩, ⟨.pick (.t 3) (.t 0) (.c (.bool false)), none, false⟩, ⟨.mv (.t 0), none, false⟩, ⟨.cal F_law10_exampleHolds [], some (.t 0, true), false⟩, ⟨.pick (.t 1) (.t 0) (.c (.bool false)), none, false⟩, ⟨.mv (.t 0), none, false⟩], [(10, 0)], [4, 5, 6, 7, 8, 9], none⟩
abbrev ir_law10_CoverPaths : Fn := { np := 3, nv := 11, res := [(10, none)], body :=
(.seq (.reg r_law10_CoverPaths_0)
 (.seq (.seq (.reg r_law10_CoverPaths_1)
 (.cond 14 (.seq (.reg r_law10_CoverPaths_2)
 .ret) .skip))
 (.seq (.reg r_law10_CoverPaths_3)
 (.seq (.reg r_law10_CoverPaths_4)
 (.seq (.reg r_law10_CoverPaths_5)
 .ret))))) }
/- f4 law10_CoverTours : 0:m 1:m 2:a 3:b 4:e 5:f 6:_ -/
abbrev r_law10_CoverTours_0 : Reg := ⟨[⟨.bxi (.v 0), none, false⟩, ⟨.mv (.c (.bool false)), none, false⟩], [(1, 1)], [0, 6], none⟩
abbrev r_law10_CoverTours_1 : Reg := ⟨[⟨.ldi (.v 1) (some 4), none, false⟩, ⟨.cal F_law08_Great [(.t 0)], none, false⟩], [], [], some (8, 0)⟩
abbrev r_law10_CoverTours_2 : Reg := ⟨[⟨.cal F_law10_exampleHolds [], none, false⟩, ⟨.mv (.t 0), none, false⟩], [(6, 0)], [1], none⟩
abbrev r_law10_CoverTours_3 : Reg := ⟨[⟨.ldi (.v 1) (some 4), none, false⟩, ⟨.cal F_cover_Tour [(.t 0)], none, false⟩, ⟨.mv (.t 0), none, false⟩, ⟨.ext (.t 0) 0, none, false⟩, ⟨.ext (.t 1) 1, none, false⟩, ⟨.mv (.t 1), none, false⟩, ⟨.mv (.t 1), none, false⟩], [(2, 1), (4, 0)], [], none⟩
abbrev r_law10_CoverTours_4 : Reg := ⟨[⟨.ldi (.v 1) (some 4), none, false⟩, ⟨.cal F_ref10_Tour [(.t 0)], none, false⟩, ⟨.mv (.t 0), none, false⟩, ⟨.ext (.t 0) 0, none, false⟩, ⟨.ext (.t 1) 1, none, false⟩, ⟨.mv (.t 1), none, false⟩, ⟨.mv (.t 1), none, false⟩], [(3, 1), (5, 0)], [1], none⟩
abbrev r_law10_CoverTours_5 : Reg := ⟨[⟨.mv (.v 2), none, false⟩, ⟨.mv (.v 3), none, false⟩, ⟨.cal F_ref08_Equal [(.t 1), (.t 0)], none, false⟩, ⟨.mv (.t 0), none, false⟩, ⟨.mv (.v 4), some (.t 0, true), false⟩, ⟨.mv (.v 5), some (.t 1, true), false⟩, ⟨.bin .eql (.t 1) (.t 0), some (.t 2, true), false⟩, ⟨.pick (.t 3) (.t 0) (.c (.bool false)), none, false⟩, ⟨.mv (.t 0), none, false⟩, ⟨.cal F_law10_exampleHolds [], some (.t 0, true), false⟩, ⟨.pick (.t 1) (.t 0) (.c (.bool false)), none, false⟩, ⟨.mv (.t 0), none, false⟩], [(6, 0)], [2, 3, 4, 5], none⟩
abbrev ir_law10_CoverTours : Fn := { np := 1, nv := 7, res := [(6, none)], body :=
(.seq (.reg r_law10_CoverTours_0)
 (.seq (.seq (.reg r_law10_CoverTours_1)
 (.cond 8 (.seq (.reg r_law10_CoverTours_2)
 .ret) .skip))
 (.seq (.reg r_law10_CoverTours_3)
 (.seq (.reg r_law10_CoverTours_4)
 (.seq (.reg r_law10_CoverTours_5)
 .ret))))) }
/- f5 law10_CoverCounts : 0:m 1:words 2:m 3:_ 4:_ 5:i 6:a 7:c 8:b 9:d 10:e 11:f 12:_ -/
abbrev r_law10_CoverCounts_0 : Reg := ⟨[⟨.bxi (.v 0), none, false⟩, ⟨.mv (.c (.bool false)), none, false⟩], [(2, 1)], [0, 12], none⟩
abbrev r_law10_CoverCounts_1 : Reg := ⟨[⟨.ldi (.v 2) (some 4), none, false⟩, ⟨.cal F_law08_Great [(.t 0)], none, false⟩, ⟨.mv (.t 0), none, false⟩, ⟨.mv (.v 1), some (.t 0, false), false⟩, ⟨.len (.t 0), some (.t 1, false), false⟩, ⟨.bin .gtr (.t 0) (.c (.int (50))), some (.t 2, false), false⟩, ⟨.pick (.t 3) (.c (.bool true)) (.t 0), none, false⟩], [], [], some (18, 0)⟩
abbrev r_law10_CoverCounts_2 : Reg := ⟨[⟨.cal F_law10_exampleHolds [], none, false⟩, ⟨.mv (.t 0), none, false⟩], [(12, 0)], [1, 2], none⟩
abbrev r_law10_CoverCounts_3 : Reg := ⟨[⟨.mv (.v 1), none, false⟩, ⟨.len (.t 0), none, false⟩, ⟨.mv (.c (.int (0))), none, false⟩], [(4, 1), (3, 0)], [], none⟩
abbrev r_law10_CoverCounts_4 : Reg := ⟨[⟨.bin .lss (.v 3) (.v 4), none, false⟩], [], [], some (23, 0)⟩
abbrev r_law10_CoverCounts_5 : Reg := ⟨[⟨.mv (.v 3), none, false⟩, ⟨.mv (.t 0), none, false⟩], [(5, 0)], [], none⟩
abbrev r_law10_CoverCounts_6 : Reg := ⟨[⟨.mv (.v 1), none, false⟩, ⟨.mv (.v 5), none, false⟩, ⟨.iad (.t 1) (.t 0) 1, none, false⟩, ⟨.ld (.t 0) none, none, false⟩, ⟨.len (.t 0), none, false⟩, ⟨.bin .gtr (.t 0) (.c (.int (100))), none, false⟩], [], [5], some (30, 0)⟩
abbrev r_law10_CoverCounts_7 : Reg := ⟨[⟨.cal F_law10_exampleHolds [], none, false⟩, ⟨.mv (.t 0), none, false⟩], [(12, 0)], [1, 2, 3, 4], none⟩
abbrev r_law10_CoverCounts_8 : Reg := ⟨[⟨.bin .add (.v 3) (.c (.int (1))), none, false⟩, ⟨.mv (.t 0), none, false⟩], [(3, 0)], [], none⟩
abbrev b_law10_CoverCounts_0 : IC := (.seq (.reg r_law10_CoverCounts_4)
 (.seq (.cond 23 .skip (.exit 0))
 (.seq (.block 1 (.seq (.reg r_law10_CoverCounts_5)
 (.seq (.reg r_law10_CoverCounts_6)
 (.cond 30 (.seq (.reg r_law10_CoverCounts_7)
 .ret) .skip))))
 (.reg r_law10_CoverCounts_8))))
abbrev r_law10_CoverCounts_9 : Reg := ⟨[⟨.ldi (.v 2) (some 4), none, false⟩, ⟨.mv (.v 1), none, false⟩, ⟨.cal F_cover_Covered [(.t 1), (.t 0)], none, false⟩, ⟨.mv (.t 0), none, false⟩, ⟨.ext (.t 0) 0, none, false⟩, ⟨.ext (.t 1) 1, none, false⟩, ⟨.ext (.t 2) 2, none, false⟩, ⟨.mv (.t 2), none, false⟩, ⟨.mv (.t 2), none, false⟩, ⟨.mv (.t 2), none, false⟩], [(6, 2), (8, 1), (10, 0)], [3, 4], none⟩
abbrev r_law10_CoverCounts_10 : Reg := ⟨[⟨.ldi (.v 2) (some 4), none, false⟩, ⟨.mv (.v 1), none, false⟩, ⟨.cal F_ref10_Covered [(.t 1), (.t 0)], none, false⟩, ⟨.mv (.t 0), none, false⟩, ⟨.ext (.t 0) 0, none, false⟩, ⟨.ext (.t 1) 1, none, false⟩, ⟨.ext (.t 2) 2, none, false⟩, ⟨.mv (.t 2), none, false⟩, ⟨.mv (.t 2), none, false⟩, ⟨.mv (.t 2), none, false⟩], [(7, 2), (9, 1), (11, 0)], [1, 2], none⟩
abbrev r_law10_CoverCounts_11 : Reg := ⟨[⟨.mv (.v 6), none, false⟩, ⟨.mv (.v 7), none, false⟩, ⟨.bin .eql (.t 1) (.t 0), none, false⟩, ⟨.mv (.t 0), none, false⟩, ⟨.mv (.v 8), some (.t 0, true), false⟩, ⟨.mv (.v 9), some (.t 1, true), false⟩, ⟨.bin .eql (.t 1) (.t 0), some (.t 2, true), false⟩, ⟨.pick (.t 3) (.t 0) (.c (.bool false)), none, false⟩, ⟨.mv (.t 0), none, false⟩, ⟨.mv (.v 10), some (.t 0, true), false⟩, ⟨.mv (.v 11), some (.t 1, true), false⟩, ⟨.bin .eql (.t 1) (.t 0), some (.t 2, true), false⟩, ⟨.pick (.t 3) (.t 0) (.c (.bool false)), none, false⟩, ⟨.mv (.t 0), none, false⟩, ⟨.cal F_law10_exampleHolds [], some (.t 0, true), false⟩, ⟨.pick (.t 1) (.t 0) (.c (.bool false)), none, false⟩, ⟨.mv (.t 0), none, false⟩], [(12, 0)], [6, 7, 8, 9, 10, 11], none⟩
abbrev ir_law10_CoverCounts : Fn := { np := 2, nv := 13, res := [(12, none)], body :=
(.seq (.reg r_law10_CoverCounts_0)
 (.seq (.seq (.reg r_law10_CoverCounts_1)
 (.cond 18 (.seq (.reg r_law10_CoverCounts_2)
 .ret) .skip))
 (.seq (.seq (.reg r_law10_CoverCounts_3)
 (.block 0 (.loop b_law10_CoverCounts_0)))
 (.seq (.reg r_law10_CoverCounts_9)
 (.seq (.reg r_law10_CoverCounts_10)
 (.seq (.reg r_law10_CoverCounts_11)
 .ret)))))) }
/- f6 law10_CoverAll : 0:m 1:m 2:l 3:e 4:f 5:g 6:a 7:states 8:b 9:h 10:t 11:i 12:c 13:d 14:_ 15:_ 16:_ 17:_ 18:i 19:k 20:j 21:ok 22:_ -/
abbrev r_law10_CoverAll_0 : Reg := ⟨[⟨.bxi (.v 0), none, false⟩, ⟨.mv (.c (.bool false)), none, false⟩], [(1, 1)], [0, 22], none⟩
abbrev r_law10_CoverAll_1 : Reg := ⟨[⟨.ldi (.v 1) (some 4), none, false⟩, ⟨.cal F_law08_Great [(.t 0)], none, false⟩, ⟨.mv (.t 0), none, false⟩, ⟨.ldi (.v 1) (some 4), some (.t 0, false), false⟩, ⟨.cal F_ref06_Valid [(.t 0)], some (.t 1, false), false⟩, ⟨.bin .neq (.t 0) (.c (.int (0))), some (.t 2, false), false⟩, ⟨.pick (.t 3) (.c (.bool true)) (.t 0), none, false⟩], [], [], some (27, 0)⟩
abbrev r_law10_CoverAll_2 : Reg := ⟨[⟨.cal F_law10_exampleHolds [], none, false⟩, ⟨.mv (.t 0), none, false⟩], [(22, 0)], [1], none⟩
abbrev r_law10_CoverAll_3 : Reg := ⟨[⟨.ldi (.v 1) (some 4), none, false⟩, ⟨.cal F_cover_Access [(.t 0)], none, false⟩, ⟨.mv (.t 0), none, false⟩, ⟨.ext (.t 0) 0, none, false⟩, ⟨.ext (.t 1) 1, none, false⟩, ⟨.ext (.t 2) 2, none, false⟩, ⟨.mv (.t 2), none, false⟩, ⟨.mv (.t 2), none, false⟩, ⟨.mv (.t 2), none, false⟩], [(7, 2), (3, 0)], [], none⟩
abbrev r_law10_CoverAll_4 : Reg := ⟨[⟨.ldi (.v 1) (some 4), none, false⟩, ⟨.cal F_cover_Transitions [(.t 0)], none, false⟩, ⟨.mv (.t 0), none, false⟩, ⟨.ext (.t 0) 0, none, false⟩, ⟨.ext (.t 1) 1, none, false⟩, ⟨.mv (.t 1), none, false⟩, ⟨.mv (.t 1), none, false⟩], [(2, 1), (4, 0)], [], none⟩
abbrev r_law10_CoverAll_5 : Reg := ⟨[⟨.ldi (.v 1) (some 4), none, false⟩, ⟨.mv (.v 2), none, false⟩, ⟨.cal F_cover_Covered [(.t 1), (.t 0)], none, false⟩, ⟨.mv (.t 0), none, false⟩, ⟨.ext (.t 0) 0, none, false⟩, ⟨.ext (.t 1) 1, none, false⟩, ⟨.ext (.t 2) 2, none, false⟩, ⟨.mv (.t 2), none, false⟩, ⟨.mv (.t 2), none, false⟩, ⟨.mv (.t 2), none, false⟩], [(6, 2), (8, 1), (5, 0)], [], none⟩
abbrev r_law10_CoverAll_6 : Reg := ⟨[⟨.mv (.v 3), none, false⟩, ⟨.bin .neq (.t 0) (.c (.int (0))), none, false⟩, ⟨.mv (.t 0), none, false⟩, ⟨.mv (.v 4), some (.t 0, false), false⟩, ⟨.bin .neq (.t 0) (.c (.int (0))), some (.t 1, false), false⟩, ⟨.pick (.t 2) (.c (.bool true)) (.t 0), none, false⟩, ⟨.mv (.t 0), none, false⟩, ⟨.mv (.v 5), some (.t 0, false), false⟩, ⟨.bin .neq (.t 0) (.c (.int (0))), some (.t 1, false), false⟩, ⟨.pick (.t 2) (.c (.bool true)) (.t 0), none, false⟩, ⟨.mv (.t 0), none, false⟩, ⟨.mv (.v 6), some (.t 0, false), false⟩, ⟨.mv (.v 7), some (.t 1, false), false⟩, ⟨.len (.t 0), some (.t 2, false), false⟩, ⟨.bin .neq (.t 2) (.t 0), some (.t 3, false), false⟩, ⟨.pick (.t 4) (.c (.bool true)) (.t 0), none, false⟩, ⟨.mv (.t 0), none, false⟩, ⟨.mv (.v 8), some (.t 0, false), false⟩, ⟨.mv (.v 7), some (.t 1, false), false⟩, ⟨.len (.t 0), some (.t 2, false), false⟩, ⟨.fad (.v 1) 0 none, some (.t 3, false), false⟩, ⟨.ldi (.t 0) none, some (.t 4, false), false⟩, ⟨.bin .mul (.t 2) (.t 0), some (.t 5, false), false⟩, ⟨.bin .neq (.t 5) (.t 0), some (.t 6, false), false⟩, ⟨.pick (.t 7) (.c (.bool true)) (.t 0), none, false⟩, ⟨.mv (.t 0), none, false⟩, ⟨.mv (.v 2), some (.t 0, false), false⟩, ⟨.len (.t 0), some (.t 1, false), false⟩, ⟨.mv (.v 8), some (.t 2, false), false⟩, ⟨.bin .neq (.t 1) (.t 0), some (.t 3, false), false⟩, ⟨.pick (.t 4) (.c (.bool true)) (.t 0), none, false⟩], [], [2, 3, 4, 5], some (77, 0)⟩
abbrev r_law10_CoverAll_7 : Reg := ⟨[⟨.mv (.c (.bool false)), none, false⟩], [(22, 0)], [1, 6, 7, 8], none⟩
abbrev r_law10_CoverAll_8 : Reg := ⟨[⟨.ldi (.v 1) (some 4), none, false⟩, ⟨.cal F_cover_Tour [(.t 0)], none, false⟩, ⟨.mv (.t 0), none, false⟩, ⟨.ext (.t 0) 0, none, false⟩, ⟨.ext (.t 1) 1, none, false⟩, ⟨.mv (.t 1), none, false⟩, ⟨.mv (.t 1), none, false⟩], [(10, 1), (9, 0)], [], none⟩
abbrev r_law10_CoverAll_9 : Reg := ⟨[⟨.mv (.v 9), none, false⟩, ⟨.bin .eql (.t 0) (.c (.int (0))), none, false⟩], [], [], some (84, 0)⟩
abbrev r_law10_CoverAll_10 : Reg := ⟨[⟨.ldi (.v 1) (some 4), none, false⟩, ⟨.mv (.v 10), none, false⟩, ⟨.liti [(.t 0)] 1, none, false⟩, ⟨.cal F_cover_Covered [(.t 2), (.t 0)], none, false⟩, ⟨.mv (.t 0), none, false⟩, ⟨.ext (.t 0) 0, none, false⟩, ⟨.ext (.t 1) 1, none, false⟩, ⟨.ext (.t 2) 2, none, false⟩, ⟨.mv (.t 2), none, false⟩, ⟨.mv (.t 2), none, false⟩, ⟨.mv (.t 2), none, false⟩], [(12, 2), (13, 1), (11, 0)], [1, 7, 9], none⟩
abbrev r_law10_CoverAll_11 : Reg := ⟨[⟨.mv (.v 11), none, false⟩, ⟨.bin .eql (.t 0) (.c (.int (0))), none, false⟩, ⟨.mv (.t 0), none, false⟩, ⟨.mv (.v 12), some (.t 0, true), false⟩, ⟨.mv (.v 6), some (.t 1, true), false⟩, ⟨.bin .eql (.t 1) (.t 0), some (.t 2, true), false⟩, ⟨.pick (.t 3) (.t 0) (.c (.bool false)), none, false⟩, ⟨.mv (.t 0), none, false⟩, ⟨.mv (.v 13), some (.t 0, true), false⟩, ⟨.mv (.v 8), some (.t 1, true), false⟩, ⟨.bin .eql (.t 1) (.t 0), some (.t 2, true), false⟩, ⟨.pick (.t 3) (.t 0) (.c (.bool false)), none, false⟩, ⟨.mv (.t 0), none, false⟩, ⟨.mv (.v 10), some (.t 0, true), false⟩, ⟨.len (.t 0), some (.t 1, true), false⟩, ⟨.mv (.v 8), some (.t 2, true), false⟩, ⟨.bin .geq (.t 1) (.t 0), some (.t 3, true), false⟩, ⟨.pick (.t 4) (.t 0) (.c (.bool false)), none, false⟩, ⟨.mv (.t 0), none, false⟩, ⟨.cal F_law10_exampleHolds [], some (.t 0, true), false⟩, ⟨.pick (.t 1) (.t 0) (.c (.bool false)), none, false⟩, ⟨.mv (.t 0), none, false⟩], [(22, 0)], [6, 8, 10, 11, 12, 13], none⟩
abbrev r_law10_CoverAll_12 : Reg := ⟨[⟨.mv (.v 9), none, false⟩, ⟨.bin .neq (.t 0) (.c (.int (8))), none, false⟩], [], [6, 8, 10], some (115, 0)⟩
abbrev r_law10_CoverAll_13 : Reg := ⟨[⟨.mv (.v 9), none, false⟩, ⟨.bin .eql (.t 0) (.c (.int (3))), none, false⟩, ⟨.mv (.t 0), none, false⟩, ⟨.cal F_law10_exampleHolds [], some (.t 0, true), false⟩, ⟨.pick (.t 1) (.t 0) (.c (.bool false)), none, false⟩, ⟨.mv (.t 0), none, false⟩], [(22, 0)], [1, 7, 9], none⟩
abbrev r_law10_CoverAll_14 : Reg := ⟨[⟨.mv (.v 7), none, false⟩, ⟨.len (.t 0), none, false⟩, ⟨.mv (.c (.int (0))), none, false⟩], [(15, 1), (14, 0)], [9], none⟩
abbrev r_law10_CoverAll_15 : Reg := ⟨[⟨.bin .lss (.v 14) (.v 15), none, false⟩], [], [], some (124, 0)⟩
abbrev r_law10_CoverAll_16 : Reg := ⟨[⟨.mv (.v 14), none, false⟩, ⟨.mv (.t 0), none, false⟩], [(18, 0)], [], none⟩
abbrev r_law10_CoverAll_17 : Reg := ⟨[⟨.mv (.v 7), none, false⟩, ⟨.len (.t 0), none, false⟩, ⟨.mv (.c (.int (0))), none, false⟩], [(17, 1), (16, 0)], [], none⟩
abbrev r_law10_CoverAll_18 : Reg := ⟨[⟨.bin .lss (.v 16) (.v 17), none, false⟩], [], [], some (129, 0)⟩
abbrev r_law10_CoverAll_19 : Reg := ⟨[⟨.mv (.v 16), none, false⟩, ⟨.mv (.t 0), none, false⟩], [(19, 0)], [], none⟩
abbrev r_law10_CoverAll_20 : Reg := ⟨[⟨.ldi (.v 1) (some 4), none, false⟩, ⟨.mv (.v 7), none, false⟩, ⟨.mv (.v 18), none, false⟩, ⟨.iad (.t 1) (.t 0) 1, none, false⟩, ⟨.ld (.t 0) none, none, false⟩, ⟨.mv (.v 7), none, false⟩, ⟨.mv (.v 19), none, false⟩, ⟨.iad (.t 1) (.t 0) 1, none, false⟩, ⟨.ld (.t 0) none, none, false⟩, ⟨.cal F_cover_Path [(.t 8), (.t 4), (.t 0)], none, false⟩, ⟨.mv (.t 0), none, false⟩, ⟨.ext (.t 0) 0, none, false⟩, ⟨.ext (.t 1) 1, none, false⟩, ⟨.ext (.t 2) 2, none, false⟩, ⟨.mv (.t 2), none, false⟩, ⟨.mv (.t 2), none, false⟩, ⟨.mv (.t 2), none, false⟩], [(21, 1), (20, 0)], [19], none⟩
abbrev r_law10_CoverAll_21 : Reg := ⟨[⟨.mv (.v 20), none, false⟩, ⟨.bin .neq (.t 0) (.c (.int (0))), none, false⟩, ⟨.mv (.t 0), none, false⟩, ⟨.mv (.v 21), some (.t 0, false), false⟩, ⟨.not (.t 0), some (.t 1, false), false⟩, ⟨.pick (.t 2) (.c (.bool true)) (.t 0), none, false⟩], [], [20, 21], some (150, 0)⟩
abbrev r_law10_CoverAll_22 : Reg := ⟨[⟨.cal F_law10_exampleHolds [], none, false⟩, ⟨.mv (.t 0), none, false⟩], [(22, 0)], [1, 7, 14, 15, 16, 17, 18], none⟩
abbrev r_law10_CoverAll_23 : Reg := ⟨[⟨.bin .add (.v 16) (.c (.int (1))), none, false⟩, ⟨.mv (.t 0), none, false⟩], [(16, 0)], [], none⟩
abbrev b_law10_CoverAll_2 : IC := (.seq (.reg r_law10_CoverAll_18)
 (.seq (.cond 129 .skip (.exit 2))
 (.seq (.block 3 (.seq (.reg r_law10_CoverAll_19)
 (.seq (.reg r_law10_CoverAll_20)
 (.seq (.reg r_law10_CoverAll_21)
 (.cond 150 (.seq (.reg r_law10_CoverAll_22)
 .ret) .skip)))))
 (.reg r_law10_CoverAll_23))))
abbrev r_law10_CoverAll_24 : Reg := ⟨[⟨.bin .add (.v 14) (.c (.int (1))), none, false⟩, ⟨.mv (.t 0), none, false⟩], [(14, 0)], [16, 17, 18], none⟩
abbrev b_law10_CoverAll_0 : IC := (.seq (.reg r_law10_CoverAll_15)
 (.seq (.cond 124 .skip (.exit 0))
 (.seq (.block 1 (.seq (.reg r_law10_CoverAll_16)
 (.seq (.reg r_law10_CoverAll_17)
 (.block 2 (.loop b_law10_CoverAll_2)))))
 (.reg r_law10_CoverAll_24))))
abbrev r_law10_CoverAll_25 : Reg := ⟨[⟨.mv (.c (.bool false)), none, false⟩], [(22, 0)], [1, 7, 14, 15], none⟩
abbrev ir_law10_CoverAll : Fn := { np := 1, nv := 23, res := [(22, none)], body :=
(.seq (.reg r_law10_CoverAll_0)
 (.seq (.seq (.reg r_law10_CoverAll_1)
 (.cond 27 (.seq (.reg r_law10_CoverAll_2)
 .ret) .skip))
 (.seq (.reg r_law10_CoverAll_3)
 (.seq (.reg r_law10_CoverAll_4)
 (.seq (.reg r_law10_CoverAll_5)
 (.seq (.seq (.reg r_law10_CoverAll_6)
 (.cond 77 (.seq (.reg r_law10_CoverAll_7)
 .ret) .skip))
 (.seq (.reg r_law10_CoverAll_8)
 (.seq (.seq (.reg r_law10_CoverAll_9)
 (.cond 84 (.seq (.reg r_law10_CoverAll_10)
 (.seq (.reg r_law10_CoverAll_11)
 .ret)) .skip))
 (.seq (.seq (.reg r_law10_CoverAll_12)
 (.cond 115 (.seq (.reg r_law10_CoverAll_13)
 .ret) .skip))
 (.seq (.seq (.reg r_law10_CoverAll_14)
 (.block 0 (.loop b_law10_CoverAll_0)))
 (.seq (.reg r_law10_CoverAll_25)
 .ret))))))))))) }
/- f7 law10_CoverAccess : 0:m 1:m 2:s 3:t 4:a 5:b 6:e 7:f 8:c 9:d 10:g 11:h 12:x 13:y 14:i 15:j 16:_ -/
abbrev r_law10_CoverAccess_0 : Reg := ⟨[⟨.bxi (.v 0), none, false⟩, ⟨.mv (.c (.bool false)), none, false⟩], [(1, 1)], [0, 16], none⟩
abbrev r_law10_CoverAccess_1 : Reg := ⟨[⟨.ldi (.v 1) (some 4), none, false⟩, ⟨.cal F_law08_Great [(.t 0)], none, false⟩], [], [], some (18, 0)⟩
abbrev r_law10_CoverAccess_2 : Reg := ⟨[⟨.cal F_law10_exampleHolds [], none, false⟩, ⟨.mv (.t 0), none, false⟩], [(16, 0)], [1], none⟩
abbrev r_law10_CoverAccess_3 : Reg := ⟨[⟨.ldi (.v 1) (some 4), none, false⟩, ⟨.cal F_cover_Access [(.t 0)], none, false⟩, ⟨.mv (.t 0), none, false⟩, ⟨.ext (.t 0) 0, none, false⟩, ⟨.ext (.t 1) 1, none, false⟩, ⟨.ext (.t 2) 2, none, false⟩, ⟨.mv (.t 2), none, false⟩, ⟨.mv (.t 2), none, false⟩, ⟨.mv (.t 2), none, false⟩], [(2, 2), (4, 1), (6, 0)], [], none⟩
abbrev r_law10_CoverAccess_4 : Reg := ⟨[⟨.ldi (.v 1) (some 4), none, false⟩, ⟨.cal F_ref10_Access [(.t 0)], none, false⟩, ⟨.mv (.t 0), none, false⟩, ⟨.ext (.t 0) 0, none, false⟩, ⟨.ext (.t 1) 1, none, false⟩, ⟨.ext (.t 2) 2, none, false⟩, ⟨.mv (.t 2), none, false⟩, ⟨.mv (.t 2), none, false⟩, ⟨.mv (.t 2), none, false⟩], [(3, 2), (5, 1), (7, 0)], [], none⟩
abbrev r_law10_CoverAccess_5 : Reg := ⟨[⟨.ldi (.v 1) (some 4), none, false⟩, ⟨.cal F_cover_StateCover [(.t 0)], none, false⟩, ⟨.mv (.t 0), none, false⟩, ⟨.ext (.t 0) 0, none, false⟩, ⟨.ext (.t 1) 1, none, false⟩, ⟨.mv (.t 1), none, false⟩, ⟨.mv (.t 1), none, false⟩], [(8, 1), (10, 0)], [], none⟩
abbrev r_law10_CoverAccess_6 : Reg := ⟨[⟨.ldi (.v 1) (some 4), none, false⟩, ⟨.cal F_ref10_StateCover [(.t 0)], none, false⟩, ⟨.mv (.t 0), none, false⟩, ⟨.ext (.t 0) 0, none, false⟩, ⟨.ext (.t 1) 1, none, false⟩, ⟨.mv (.t 1), none, false⟩, ⟨.mv (.t 1), none, false⟩], [(9, 1), (11, 0)], [], none⟩
abbrev r_law10_CoverAccess_7 : Reg := ⟨[⟨.ldi (.v 1) (some 4), none, false⟩, ⟨.cal F_cover_Transitions [(.t 0)], none, false⟩, ⟨.mv (.t 0), none, false⟩, ⟨.ext (.t 0) 0, none, false⟩, ⟨.ext (.t 1) 1, none, false⟩, ⟨.mv (.t 1), none, false⟩, ⟨.mv (.t 1), none, false⟩], [(12, 1), (14, 0)], [], none⟩
abbrev r_law10_CoverAccess_8 : Reg := ⟨[⟨.ldi (.v 1) (some 4), none, false⟩, ⟨.cal F_ref10_Transitions [(.t 0)], none, false⟩, ⟨.mv (.t 0), none, false⟩, ⟨.ext (.t 0) 0, none, false⟩, ⟨.ext (.t 1) 1, none, false⟩, ⟨.mv (.t 1), none, false⟩, ⟨.mv (.t 1), none, false⟩], [(13, 1), (15, 0)], [1], none⟩
abbrev r_law10_CoverAccess_9 : Reg := ⟨[⟨.mv (.v 2), none, false⟩, ⟨.mv (.v 3), none, false⟩, ⟨.cal F_ref08_Equal [(.t 1), (.t 0)], none, false⟩, ⟨.mv (.t 0), none, false⟩, ⟨.mv (.v 4), some (.t 0, true), false⟩, ⟨.mv (.v 5), some (.t 1, true), false⟩, ⟨.cal F_ref10_Same [(.t 1), (.t 0)], some (.t 2, true), false⟩, ⟨.pick (.t 3) (.t 0) (.c (.bool false)), none, false⟩, ⟨.mv (.t 0), none, false⟩, ⟨.mv (.v 6), some (.t 0, true), false⟩, ⟨.mv (.v 7), some (.t 1, true), false⟩, ⟨.bin .eql (.t 1) (.t 0), some (.t 2, true), false⟩, ⟨.pick (.t 3) (.t 0) (.c (.bool false)), none, false⟩, ⟨.mv (.t 0), none, false⟩, ⟨.mv (.v 8), some (.t 0, true), false⟩, ⟨.mv (.v 9), some (.t 1, true), false⟩, ⟨.cal F_ref10_Same [(.t 1), (.t 0)], some (.t 2, true), false⟩, ⟨.pick (.t 3) (.t 0) (.c (.bool false)), none, false⟩, ⟨.mv (.t 0), none, false⟩, ⟨.mv (.v 10), some (.t 0, true), false⟩, ⟨.mv (.v 11), some (.t 1, true), false⟩, ⟨.bin .eql (.t 1) (.t 0), some (.t 2, true), false⟩, ⟨.pick (.t 3) (.t 0) (.c (.bool false)), none, false⟩, ⟨.mv (.t 0), none, false⟩, ⟨.mv (.v 12), some (.t 0, true), false⟩, ⟨.mv (.v 13), some (.t 1, true), false⟩, ⟨.cal F_ref10_Same [(.t 1), (.t 0)], some (.t 2, true), false⟩, ⟨.pick (.t 3) (.t 0) (.c (.bool false)), none, false⟩, ⟨.mv (.t 0), none, false⟩, ⟨.mv (.v 14), some (.t 0, true), false⟩, ⟨.mv (.v 15), some (.t 1, true), false⟩, ⟨.bin .eql (.t 1) (.t 0), some (.t 2, true), false⟩, ⟨.pick (.t 3) (.t 0) (.c (.bool false)), none, false⟩, ⟨.mv (.t 0), none, false⟩, ⟨.cal F_law10_exampleHolds [], some (.t 0, true), false⟩, ⟨.pick (.t 1) (.t 0) (.c (.bool false)), none, false⟩, ⟨.mv (.t 0), none, false⟩], [(16, 0)], [2, 3, 4, 5, 6, 7, 8, 9, 10, 11, 12, 13, 14, 15], none⟩
abbrev ir_law10_CoverAccess : Fn := { np := 1, nv := 17, res := [(16, none)], body :=
(.seq (.reg r_law10_CoverAccess_0)
 (.seq (.seq (.reg r_law10_CoverAccess_1)
 (.cond 18 (.seq (.reg r_law10_CoverAccess_2)
 .ret) .skip))
 (.seq (.reg r_law10_CoverAccess_3)
 (.seq (.reg r_law10_CoverAccess_4)
 (.seq (.reg r_law10_CoverAccess_5)
 (.seq (.reg r_law10_CoverAccess_6)
 (.seq (.reg r_law10_CoverAccess_7)
 (.seq (.reg r_law10_CoverAccess_8)
 (.seq (.reg r_law10_CoverAccess_9)
 .ret))))))))) }
/- f8 law10_CoverFirst : 0:m 1:w 2:m 3:e 4:states 5:words 6:at 7:_ 8:_ 9:i 10:f 11:ok 12:p 13:found 14:_ -/
abbrev r_law10_CoverFirst_0 : Reg := ⟨[⟨.bxi (.v 0), none, false⟩, ⟨.mv (.c (.bool false)), none, false⟩], [(2, 1)], [0, 14], none⟩
abbrev r_law10_CoverFirst_1 : Reg := ⟨[⟨.ldi (.v 2) (some 4), none, false⟩, ⟨.cal F_law08_Great [(.t 0)], none, false⟩, ⟨.mv (.t 0), none, false⟩, ⟨.ldi (.v 2) (some 4), some (.t 0, false), false⟩, ⟨.cal F_ref06_Valid [(.t 0)], some (.t 1, false), false⟩, ⟨.bin .neq (.t 0) (.c (.int (0))), some (.t 2, false), false⟩, ⟨.pick (.t 3) (.c (.bool true)) (.t 0), none, false⟩], [], [], some (20, 0)⟩
abbrev r_law10_CoverFirst_2 : Reg := ⟨[⟨.cal F_law10_exampleHolds [], none, false⟩, ⟨.mv (.t 0), none, false⟩], [(14, 0)], [1, 2], none⟩
abbrev r_law10_CoverFirst_3 : Reg := ⟨[⟨.ldi (.v 2) (some 4), none, false⟩, ⟨.cal F_cover_Access [(.t 0)], none, false⟩, ⟨.mv (.t 0), none, false⟩, ⟨.ext (.t 0) 0, none, false⟩, ⟨.ext (.t 1) 1, none, false⟩, ⟨.ext (.t 2) 2, none, false⟩, ⟨.mv (.t 2), none, false⟩, ⟨.mv (.t 2), none, false⟩, ⟨.mv (.t 2), none, false⟩], [(4, 2), (5, 1), (3, 0)], [], none⟩
abbrev r_law10_CoverFirst_4 : Reg := ⟨[⟨.mv (.v 3), none, false⟩, ⟨.bin .neq (.t 0) (.c (.int (0))), none, false⟩, ⟨.mv (.t 0), none, false⟩, ⟨.mv (.v 4), some (.t 0, false), false⟩, ⟨.len (.t 0), some (.t 1, false), false⟩, ⟨.mv (.v 5), some (.t 2, false), false⟩, ⟨.len (.t 0), some (.t 3, false), false⟩, ⟨.bin .neq (.t 2) (.t 0), some (.t 4, false), false⟩, ⟨.pick (.t 5) (.c (.bool true)) (.t 0), none, false⟩, ⟨.mv (.t 0), none, false⟩, ⟨.mv (.v 5), some (.t 0, false), false⟩, ⟨.len (.t 0), some (.t 1, false), false⟩, ⟨.bin .eql (.t 0) (.c (.int (0))), some (.t 2, false), false⟩, ⟨.pick (.t 3) (.c (.bool true)) (.t 0), none, false⟩, ⟨.mv (.t 0), none, false⟩, ⟨.mv (.v 5), some (.t 0, false), false⟩, ⟨.iad (.t 0) (.c (.int (0))) 1, some (.t 1, false), false⟩, ⟨.ld (.t 0) none, some (.t 2, false), false⟩, ⟨.len (.t 0), some (.t 3, false), false⟩, ⟨.bin .neq (.t 0) (.c (.int (0))), some (.t 4, false), false⟩, ⟨.pick (.t 5) (.c (.bool true)) (.t 0), none, false⟩, ⟨.mv (.t 0), none, false⟩, ⟨.mv (.v 5), some (.t 0, false), false⟩, ⟨.cal F_wordset_Prefixes [(.t 0)], some (.t 1, false), false⟩, ⟨.mv (.v 5), some (.t 2, false), false⟩, ⟨.cal F_ref10_Same [(.t 1), (.t 0)], some (.t 3, false), false⟩, ⟨.not (.t 0), some (.t 4, false), false⟩, ⟨.pick (.t 5) (.c (.bool true)) (.t 0), none, false⟩], [], [3], some (55, 0)⟩
abbrev r_law10_CoverFirst_5 : Reg := ⟨[⟨.mv (.c (.bool false)), none, false⟩], [(14, 0)], [1, 2, 4, 5], none⟩
abbrev r_law10_CoverFirst_6 : Reg := ⟨[⟨.ldi (.v 2) (some 4), none, false⟩, ⟨.mv (.v 1), none, false⟩, ⟨.cal F_law10_last [(.t 1), (.t 0)], none, false⟩, ⟨.mv (.t 0), none, false⟩], [(6, 0)], [], none⟩
abbrev r_law10_CoverFirst_7 : Reg := ⟨[⟨.mv (.v 6), none, false⟩, ⟨.bin .lss (.t 0) (.c (.int (0))), none, false⟩, ⟨.mv (.t 0), none, false⟩], [(13, 0)], [], none⟩
abbrev r_law10_CoverFirst_8 : Reg := ⟨[⟨.mv (.v 4), none, false⟩, ⟨.len (.t 0), none, false⟩, ⟨.mv (.c (.int (0))), none, false⟩], [(8, 1), (7, 0)], [], none⟩
abbrev r_law10_CoverFirst_9 : Reg := ⟨[⟨.bin .lss (.v 7) (.v 8), none, false⟩], [], [], some (64, 0)⟩
abbrev r_law10_CoverFirst_10 : Reg := ⟨[⟨.mv (.v 7), none, false⟩, ⟨.mv (.t 0), none, false⟩], [(9, 0)], [], none⟩
abbrev r_law10_CoverFirst_11 : Reg := ⟨[⟨.ldi (.v 2) (some 4), none, false⟩, ⟨.fad (.v 2) 1 none, none, false⟩, ⟨.ldi (.t 0) none, none, false⟩, ⟨.mv (.v 4), none, false⟩, ⟨.mv (.v 9), none, false⟩, ⟨.iad (.t 1) (.t 0) 1, none, false⟩, ⟨.ld (.t 0) none, none, false⟩, ⟨.cal F_cover_Path [(.t 6), (.t 4), (.t 0)], none, false⟩, ⟨.mv (.t 0), none, false⟩, ⟨.ext (.t 0) 0, none, false⟩, ⟨.ext (.t 1) 1, none, false⟩, ⟨.ext (.t 2) 2, none, false⟩, ⟨.mv (.t 2), none, false⟩, ⟨.mv (.t 2), none, false⟩, ⟨.mv (.t 2), none, false⟩], [(12, 2), (11, 1), (10, 0)], [], none⟩
abbrev r_law10_CoverFirst_12 : Reg := ⟨[⟨.ldi (.v 2) (some 4), none, false⟩, ⟨.mv (.v 5), none, false⟩, ⟨.mv (.v 9), none, false⟩, ⟨.iad (.t 1) (.t 0) 1, none, false⟩, ⟨.ld (.t 0) none, none, false⟩, ⟨.cal F_law10_last [(.t 4), (.t 0)], none, false⟩, ⟨.mv (.v 4), none, false⟩, ⟨.mv (.v 9), none, false⟩, ⟨.iad (.t 1) (.t 0) 1, none, false⟩, ⟨.ld (.t 0) none, none, false⟩, ⟨.bin .neq (.t 4) (.t 0), none, false⟩, ⟨.mv (.t 0), none, false⟩, ⟨.mv (.v 10), some (.t 0, false), false⟩, ⟨.bin .neq (.t 0) (.c (.int (0))), some (.t 1, false), false⟩, ⟨.pick (.t 2) (.c (.bool true)) (.t 0), none, false⟩, ⟨.mv (.t 0), none, false⟩, ⟨.mv (.v 11), some (.t 0, false), false⟩, ⟨.not (.t 0), some (.t 1, false), false⟩, ⟨.pick (.t 2) (.c (.bool true)) (.t 0), none, false⟩, ⟨.mv (.t 0), none, false⟩, ⟨.mv (.v 12), some (.t 0, false), false⟩, ⟨.mv (.v 5), some (.t 1, false), false⟩, ⟨.mv (.v 9), some (.t 2, false), false⟩, ⟨.iad (.t 1) (.t 0) 1, some (.t 3, false), false⟩, ⟨.ld (.t 0) none, some (.t 4, false), false⟩, ⟨.cal F_ref08_Equal [(.t 4), (.t 0)], some (.t 5, false), false⟩, ⟨.not (.t 0), some (.t 6, false), false⟩, ⟨.pick (.t 7) (.c (.bool true)) (.t 0), none, false⟩], [], [10, 11, 12], some (105, 0)⟩
abbrev r_law10_CoverFirst_13 : Reg := ⟨[⟨.mv (.c (.bool false)), none, false⟩], [(14, 0)], [1, 2, 4, 5, 6, 7, 8, 9, 13], none⟩
abbrev r_law10_CoverFirst_14 : Reg := ⟨[⟨.mv (.v 4), none, false⟩, ⟨.mv (.v 9), none, false⟩, ⟨.iad (.t 1) (.t 0) 1, none, false⟩, ⟨.ld (.t 0) none, none, false⟩, ⟨.mv (.v 6), none, false⟩, ⟨.bin .eql (.t 1) (.t 0), none, false⟩], [], [], some (111, 0)⟩
abbrev r_law10_CoverFirst_15 : Reg := ⟨[⟨.mv (.c (.bool true)), none, false⟩], [(13, 0)], [], none⟩
abbrev r_law10_CoverFirst_16 : Reg := ⟨[⟨.mv (.v 5), none, false⟩, ⟨.mv (.v 9), none, false⟩, ⟨.iad (.t 1) (.t 0) 1, none, false⟩, ⟨.ld (.t 0) none, none, false⟩, ⟨.mv (.v 1), none, false⟩, ⟨.cal F_word_Compare [(.t 1), (.t 0)], none, false⟩, ⟨.bin .gtr (.t 0) (.c (.int (0))), none, false⟩], [], [9], some (118, 0)⟩
abbrev r_law10_CoverFirst_17 : Reg := ⟨[⟨.mv (.c (.bool false)), none, false⟩], [(14, 0)], [1, 2, 4, 5, 6, 7, 8, 13], none⟩
abbrev r_law10_CoverFirst_18 : Reg := ⟨[⟨.bin .add (.v 7) (.c (.int (1))), none, false⟩, ⟨.mv (.t 0), none, false⟩], [(7, 0)], [9], none⟩
abbrev b_law10_CoverFirst_0 : IC := (.seq (.reg r_law10_CoverFirst_9)
 (.seq (.cond 64 .skip (.exit 0))
 (.seq (.block 1 (.seq (.reg r_law10_CoverFirst_10)
 (.seq (.reg r_law10_CoverFirst_11)
 (.seq (.seq (.reg r_law10_CoverFirst_12)
 (.cond 105 (.seq (.reg r_law10_CoverFirst_13)
 .ret) .skip))
 (.seq (.reg r_law10_CoverFirst_14)
 (.cond 111 (.seq (.reg r_law10_CoverFirst_15)
 (.seq (.reg r_law10_CoverFirst_16)
 (.cond 118 (.seq (.reg r_law10_CoverFirst_17)
 .ret) .skip))) .skip))))))
 (.reg r_law10_CoverFirst_18))))
abbrev r_law10_CoverFirst_19 : Reg := ⟨[⟨.mv (.v 13), none, false⟩, ⟨.mv (.t 0), none, false⟩, ⟨.cal F_law10_exampleHolds [], some (.t 0, true), false⟩, ⟨.pick (.t 1) (.t 0) (.c (.bool false)), none, false⟩, ⟨.mv (.t 0), none, false⟩], [(14, 0)], [1, 2, 4, 5, 6, 7, 8, 13], none⟩
abbrev ir_law10_CoverFirst : Fn := { np := 2, nv := 15, res := [(14, none)], body :=
(.seq (.reg r_law10_CoverFirst_0)
 (.seq (.seq (.reg r_law10_CoverFirst_1)
 (.cond 20 (.seq (.reg r_law10_CoverFirst_2)
 .ret) .skip))
 (.seq (.reg r_law10_CoverFirst_3)
 (.seq (.seq (.reg r_law10_CoverFirst_4)
 (.cond 55 (.seq (.reg r_law10_CoverFirst_5)
 .ret) .skip))
 (.seq (.reg r_law10_CoverFirst_6)
 (.seq (.reg r_law10_CoverFirst_7)
 (.seq (.seq (.reg r_law10_CoverFirst_8)
 (.block 0 (.loop b_law10_CoverFirst_0)))
 (.seq (.reg r_law10_CoverFirst_19)
 .ret)))))))) }
/- f9 law08_Great : 0:m 1:m 2:_ 3:_ 4:i 5:_ 6:_ 7:i 8:_ -/
abbrev r_law08_Great_0 : Reg := ⟨[⟨.bxi (.v 0), none, false⟩, ⟨.mv (.c (.bool false)), none, false⟩], [(1, 1)], [0, 8], none⟩
abbrev r_law08_Great_1 : Reg := ⟨[⟨.fad (.v 1) 2 none, none, false⟩, ⟨.ldi (.t 0) none, none, false⟩, ⟨.len (.t 0), none, false⟩, ⟨.bin .gtr (.t 0) (.c (.int (12))), none, false⟩, ⟨.mv (.t 0), none, false⟩, ⟨.fad (.v 1) 3 none, some (.t 0, false), false⟩, ⟨.ldi (.t 0) none, some (.t 1, false), false⟩, ⟨.len (.t 0), some (.t 2, false), false⟩, ⟨.bin .gtr (.t 0) (.c (.int (12))), some (.t 3, false), false⟩, ⟨.pick (.t 4) (.c (.bool true)) (.t 0), none, false⟩, ⟨.mv (.t 0), none, false⟩, ⟨.fad (.v 1) 0 none, some (.t 0, false), false⟩, ⟨.ldi (.t 0) none, some (.t 1, false), false⟩, ⟨.bin .gtr (.t 0) (.c (.int (6))), some (.t 2, false), false⟩, ⟨.pick (.t 3) (.c (.bool true)) (.t 0), none, false⟩], [], [], some (19, 0)⟩
abbrev r_law08_Great_2 : Reg := ⟨[⟨.mv (.c (.bool true)), none, false⟩], [(8, 0)], [1], none⟩
abbrev r_law08_Great_3 : Reg := ⟨[⟨.fad (.v 1) 2 none, none, false⟩, ⟨.ldi (.t 0) none, none, false⟩, ⟨.len (.t 0), none, false⟩, ⟨.mv (.c (.int (0))), none, false⟩], [(3, 1), (2, 0)], [], none⟩
abbrev r_law08_Great_4 : Reg := ⟨[⟨.bin .lss (.v 2) (.v 3), none, false⟩], [], [], some (24, 0)⟩
abbrev r_law08_Great_5 : Reg := ⟨[⟨.mv (.v 2), none, false⟩, ⟨.mv (.t 0), none, false⟩], [(4, 0)], [], none⟩
abbrev r_law08_Great_6 : Reg := ⟨[⟨.fad (.v 1) 2 none, none, false⟩, ⟨.ldi (.t 0) none, none, false⟩, ⟨.mv (.v 4), none, false⟩, ⟨.iad (.t 1) (.t 0) 1, none, false⟩, ⟨.ldi (.t 0) none, none, false⟩, ⟨.len (.t 0), none, false⟩, ⟨.bin .gtr (.t 0) (.c (.int (12))), none, false⟩], [], [4], some (32, 0)⟩
abbrev r_law08_Great_7 : Reg := ⟨[⟨.mv (.c (.bool true)), none, false⟩], [(8, 0)], [1, 2, 3], none⟩
abbrev r_law08_Great_8 : Reg := ⟨[⟨.bin .add (.v 2) (.c (.int (1))), none, false⟩, ⟨.mv (.t 0), none, false⟩], [(2, 0)], [], none⟩
abbrev b_law08_Great_0 : IC := (.seq (.reg r_law08_Great_4)
 (.seq (.cond 24 .skip (.exit 0))
 (.seq (.block 1 (.seq (.reg r_law08_Great_5)
 (.seq (.reg r_law08_Great_6)
 (.cond 32 (.seq (.reg r_law08_Great_7)
 .ret) .skip))))
 (.reg r_law08_Great_8))))
abbrev r_law08_Great_9 : Reg := ⟨[⟨.fad (.v 1) 3 none, none, false⟩, ⟨.ldi (.t 0) none, none, false⟩, ⟨.len (.t 0), none, false⟩, ⟨.mv (.c (.int (0))), none, false⟩], [(6, 1), (5, 0)], [2, 3], none⟩
abbrev r_law08_Great_10 : Reg := ⟨[⟨.bin .lss (.v 5) (.v 6), none, false⟩], [], [], some (38, 0)⟩
abbrev r_law08_Great_11 : Reg := ⟨[⟨.mv (.v 5), none, false⟩, ⟨.mv (.t 0), none, false⟩], [(7, 0)], [], none⟩
abbrev r_law08_Great_12 : Reg := ⟨[⟨.fad (.v 1) 3 none, none, false⟩, ⟨.ldi (.t 0) none, none, false⟩, ⟨.mv (.v 7), none, false⟩, ⟨.iad (.t 1) (.t 0) 1, none, false⟩, ⟨.ldi (.t 0) none, none, false⟩, ⟨.len (.t 0), none, false⟩, ⟨.bin .gtr (.t 0) (.c (.int (12))), none, false⟩], [], [7], some (46, 0)⟩
abbrev r_law08_Great_13 : Reg := ⟨[⟨.mv (.c (.bool true)), none, false⟩], [(8, 0)], [1, 5, 6], none⟩
abbrev r_law08_Great_14 : Reg := ⟨[⟨.bin .add (.v 5) (.c (.int (1))), none, false⟩, ⟨.mv (.t 0), none, false⟩], [(5, 0)], [], none⟩
abbrev b_law08_Great_2 : IC := (.seq (.reg r_law08_Great_10)
 (.seq (.cond 38 .skip (.exit 2))
 (.seq (.block 3 (.seq (.reg r_law08_Great_11)
 (.seq (.reg r_law08_Great_12)
 (.cond 46 (.seq (.reg r_law08_Great_13)
 .ret) .skip))))
 (.reg r_law08_Great_14))))
abbrev r_law08_Great_15 : Reg := ⟨[⟨.mv (.c (.bool false)), none, false⟩], [(8, 0)], [1, 5, 6], none⟩
abbrev ir_law08_Great : Fn := { np := 1, nv := 9, res := [(8, none)], body :=
(.seq (.reg r_law08_Great_0)
 (.seq (.seq (.reg r_law08_Great_1)
 (.cond 19 (.seq (.reg r_law08_Great_2)
 .ret) .skip))
 (.seq (.seq (.reg r_law08_Great_3)
 (.block 0 (.loop b_law08_Great_0)))
 (.seq (.seq (.reg r_law08_Great_9)
 (.block 2 (.loop b_law08_Great_2)))
 (.seq (.reg r_law08_Great_15)
 .ret))))) }
/- f10 law10_exampleHolds : 0:rows 1:m 2:n 3:e 4:f 5:g 6:h 7:i 8:j 9:k 10:states 11:words 12:l 13:ok 14:p 15:no 16:t 17:a 18:b 19:_ -/
abbrev r_law10_exampleHolds_0 : Reg := ⟨[⟨.mv (.c (.bool false)), none, false⟩], [], [19], none⟩
abbrev r_law10_exampleHolds_1 : Reg := ⟨[⟨.liti [(.c (.int (0))), (.c (.int (0)))] 1, none, false⟩, ⟨.liti [(.c (.int (0))), (.c (.int (0)))] 1, none, false⟩, ⟨.liti [(.c (.int (0))), (.c (.int (0)))] 1, none, false⟩, ⟨.liti [(.t 2), (.t 1), (.t 0)] 1, none, false⟩, ⟨.mv (.t 0), none, false⟩], [(0, 0)], [], none⟩
abbrev r_law10_exampleHolds_2 : Reg := ⟨[⟨.liti [(.c (.int (0))), (.c (.int (1)))] 1, none, false⟩, ⟨.liti [(.c (.int (2))), (.c (.int (1)))] 1, none, false⟩, ⟨.liti [(.c (.int (0))), (.c (.int (2)))] 1, none, false⟩, ⟨.liti [(.t 2), (.t 1), (.t 0)] 1, none, false⟩, ⟨.mv (.v 0), none, false⟩, ⟨.bld [.int 0, .int 0, .snil, .snil] [(0, 1, (.c (.int (2)))), (2, 1, (.t 1)), (3, 1, (.t 0))], none, false⟩, ⟨.alc0 4, none, false⟩, ⟨.ini (.t 0) (.t 1) 4, none, false⟩], [(1, 0)], [], none⟩
abbrev r_law10_exampleHolds_3 : Reg := ⟨[⟨.liti [(.c (.int (1))), (.c (.int (2)))] 1, none, false⟩, ⟨.liti [(.c (.int (1))), (.c (.int (1)))] 1, none, false⟩, ⟨.liti [(.c (.int (2))), (.c (.int (2)))] 1, none, false⟩, ⟨.liti [(.t 2), (.t 1), (.t 0)] 1, none, false⟩, ⟨.mv (.v 0), none, false⟩, ⟨.bld [.int 0, .int 0, .snil, .snil] [(0, 1, (.c (.int (2)))), (2, 1, (.t 1)), (3, 1, (.t 0))], none, false⟩, ⟨.alc0 4, none, false⟩, ⟨.ini (.t 0) (.t 1) 4, none, false⟩], [(2, 0)], [0], none⟩
abbrev r_law10_exampleHolds_4 : Reg := ⟨[⟨.ldi (.v 1) (some 4), none, false⟩, ⟨.cal F_cover_Access [(.t 0)], none, false⟩, ⟨.mv (.t 0), none, false⟩, ⟨.ext (.t 0) 0, none, false⟩, ⟨.ext (.t 1) 1, none, false⟩, ⟨.ext (.t 2) 2, none, false⟩, ⟨.mv (.t 2), none, false⟩, ⟨.mv (.t 2), none, false⟩, ⟨.mv (.t 2), none, false⟩], [(10, 2), (11, 1), (3, 0)], [], none⟩
abbrev r_law10_exampleHolds_5 : Reg := ⟨[⟨.ldi (.v 1) (some 4), none, false⟩, ⟨.cal F_cover_Transitions [(.t 0)], none, false⟩, ⟨.mv (.t 0), none, false⟩, ⟨.ext (.t 0) 0, none, false⟩, ⟨.ext (.t 1) 1, none, false⟩, ⟨.mv (.t 1), none, false⟩, ⟨.mv (.t 1), none, false⟩], [(12, 1), (4, 0)], [], none⟩
abbrev r_law10_exampleHolds_6 : Reg := ⟨[⟨.ldi (.v 1) (some 4), none, false⟩, ⟨.cal F_cover_Path [(.t 0), (.c (.int (1))), (.c (.int (0)))], none, false⟩, ⟨.mv (.t 0), none, false⟩, ⟨.ext (.t 0) 0, none, false⟩, ⟨.ext (.t 1) 1, none, false⟩, ⟨.ext (.t 2) 2, none, false⟩, ⟨.mv (.t 2), none, false⟩, ⟨.mv (.t 2), none, false⟩, ⟨.mv (.t 2), none, false⟩], [(14, 2), (13, 1), (5, 0)], [], none⟩
abbrev r_law10_exampleHolds_7 : Reg := ⟨[⟨.ldi (.v 2) (some 4), none, false⟩, ⟨.cal F_cover_Path [(.t 0), (.c (.int (1))), (.c (.int (2)))], none, false⟩, ⟨.mv (.t 0), none, false⟩, ⟨.ext (.t 0) 0, none, false⟩, ⟨.ext (.t 1) 1, none, false⟩, ⟨.ext (.t 2) 2, none, false⟩, ⟨.mv (.t 2), none, false⟩, ⟨.mv (.t 2), none, false⟩, ⟨.mv (.t 2), none, false⟩], [(15, 1), (6, 0)], [], none⟩
abbrev r_law10_exampleHolds_8 : Reg := ⟨[⟨.ldi (.v 1) (some 4), none, false⟩, ⟨.cal F_cover_Tour [(.t 0)], none, false⟩, ⟨.mv (.t 0), none, false⟩, ⟨.ext (.t 0) 0, none, false⟩, ⟨.ext (.t 1) 1, none, false⟩, ⟨.mv (.t 1), none, false⟩, ⟨.mv (.t 1), none, false⟩], [(16, 1), (7, 0)], [], none⟩
abbrev r_law10_exampleHolds_9 : Reg := ⟨[⟨.ldi (.v 2) (some 4), none, false⟩, ⟨.cal F_cover_Tour [(.t 0)], none, false⟩, ⟨.mv (.t 0), none, false⟩, ⟨.ext (.t 0) 0, none, false⟩, ⟨.ext (.t 1) 1, none, false⟩, ⟨.mv (.t 1), none, false⟩, ⟨.mv (.t 1), none, false⟩], [(8, 0)], [2], none⟩
abbrev r_law10_exampleHolds_10 : Reg := ⟨[⟨.ldi (.v 1) (some 4), none, false⟩, ⟨.liti [(.c (.int (0)))] 1, none, false⟩, ⟨.liti [(.c (.int (1))), (.c (.int (1)))] 1, none, false⟩, ⟨.liti [(.t 1), (.t 0)] 1, none, false⟩, ⟨.cal F_cover_Covered [(.t 3), (.t 0)], none, false⟩, ⟨.mv (.t 0), none, false⟩, ⟨.ext (.t 0) 0, none, false⟩, ⟨.ext (.t 1) 1, none, false⟩, ⟨.ext (.t 2) 2, none, false⟩, ⟨.mv (.t 2), none, false⟩, ⟨.mv (.t 2), none, false⟩, ⟨.mv (.t 2), none, false⟩], [(17, 2), (18, 1), (9, 0)], [1], none⟩
abbrev r_law10_exampleHolds_11 : Reg := ⟨[⟨.mv (.v 3), none, false⟩, ⟨.bin .neq (.t 0) (.c (.int (0))), none, false⟩, ⟨.mv (.t 0), none, false⟩, ⟨.mv (.v 4), some (.t 0, false), false⟩, ⟨.bin .neq (.t 0) (.c (.int (0))), some (.t 1, false), false⟩, ⟨.pick (.t 2) (.c (.bool true)) (.t 0), none, false⟩, ⟨.mv (.t 0), none, false⟩, ⟨.mv (.v 5), some (.t 0, false), false⟩, ⟨.bin .neq (.t 0) (.c (.int (0))), some (.t 1, false), false⟩, ⟨.pick (.t 2) (.c (.bool true)) (.t 0), none, false⟩, ⟨.mv (.t 0), none, false⟩, ⟨.mv (.v 6), some (.t 0, false), false⟩, ⟨.bin .neq (.t 0) (.c (.int (0))), some (.t 1, false), false⟩, ⟨.pick (.t 2) (.c (.bool true)) (.t 0), none, false⟩, ⟨.mv (.t 0), none, false⟩, ⟨.mv (.v 7), some (.t 0, false), false⟩, ⟨.bin .neq (.t 0) (.c (.int (0))), some (.t 1, false), false⟩, ⟨.pick (.t 2) (.c (.bool true)) (.t 0), none, false⟩, ⟨.mv (.t 0), none, false⟩, ⟨.mv (.v 8), some (.t 0, false), false⟩, ⟨.bin .neq (.t 0) (.c (.int (8))), some (.t 1, false), false⟩, ⟨.pick (.t 2) (.c (.bool true)) (.t 0), none, false⟩, ⟨.mv (.t 0), none, false⟩, ⟨.mv (.v 9), some (.t 0, false), false⟩, ⟨.bin .neq (.t 0) (.c (.int (0))), some (.t 1, false), false⟩, ⟨.pick (.t 2) (.c (.bool true)) (.t 0), none, false⟩], [], [3, 4, 5, 6, 7, 8, 9], some (105, 0)⟩
abbrev r_law10_exampleHolds_12 : Reg := ⟨[⟨.mv (.c (.bool false)), none, false⟩], [(19, 0)], [10, 11, 12, 13, 14, 15, 16, 17, 18], none⟩
abbrev r_law10_exampleHolds_13 : Reg := ⟨[⟨.mv (.v 10), none, false⟩, ⟨.liti [(.c (.int (0))), (.c (.int (1))), (.c (.int (2)))] 1, none, false⟩, ⟨.cal F_ref08_Equal [(.t 1), (.t 0)], none, false⟩, ⟨.mv (.t 0), none, false⟩, ⟨.mv (.v 11), some (.t 0, true), false⟩, ⟨.liti [] 1, some (.t 1, true), false⟩, ⟨.liti [(.c (.int (1)))] 1, some (.t 2, true), false⟩, ⟨.liti [(.c (.int (1))), (.c (.int (0)))] 1, some (.t 3, true), false⟩, ⟨.liti [(.t 2), (.t 1), (.t 0)] 1, some (.t 4, true), false⟩, ⟨.cal F_ref10_Same [(.t 4), (.t 0)], some (.t 5, true), false⟩, ⟨.pick (.t 6) (.t 0) (.c (.bool false)), none, false⟩, ⟨.mv (.t 0), none, false⟩, ⟨.mv (.v 12), some (.t 0, true), false⟩, ⟨.liti [(.c (.int (0)))] 1, some (.t 1, true), false⟩, ⟨.liti [(.c (.int (1)))] 1, some (.t 2, true), false⟩, ⟨.liti [(.c (.int (1))), (.c (.int (0)))] 1, some (.t 3, true), false⟩, ⟨.liti [(.c (.int (1))), (.c (.int (1)))] 1, some (.t 4, true), false⟩, ⟨.liti [(.c (.int (1))), (.c (.int (0))), (.c (.int (0)))] 1, some (.t 5, true), false⟩, ⟨.liti [(.c (.int (1))), (.c (.int (0))), (.c (.int (1)))] 1, some (.t 6, true), false⟩, ⟨.liti [(.t 5), (.t 4), (.t 3), (.t 2), (.t 1), (.t 0)] 1, some (.t 7, true), false⟩, ⟨.cal F_ref10_Same [(.t 7), (.t 0)], some (.t 8, true), false⟩, ⟨.pick (.t 9) (.t 0) (.c (.bool false)), none, false⟩, ⟨.mv (.t 0), none, false⟩, ⟨.mv (.v 13), some (.t 0, true), false⟩, ⟨.pick (.t 1) (.t 0) (.c (.bool false)), none, false⟩, ⟨.mv (.t 0), none, false⟩, ⟨.mv (.v 14), some (.t 0, true), false⟩, ⟨.liti [(.c (.int (0))), (.c (.int (0)))] 1, some (.t 1, true), false⟩, ⟨.cal F_ref08_Equal [(.t 1), (.t 0)], some (.t 2, true), false⟩, ⟨.pick (.t 3) (.t 0) (.c (.bool false)), none, false⟩, ⟨.mv (.t 0), none, false⟩, ⟨.mv (.v 15), some (.t 0, true), false⟩, ⟨.not (.t 0), some (.t 1, true), false⟩, ⟨.pick (.t 2) (.t 0) (.c (.bool false)), none, false⟩, ⟨.mv (.t 0), none, false⟩, ⟨.mv (.v 16), some (.t 0, true), false⟩, ⟨.liti [(.c (.int (0))), (.c (.int (1))), (.c (.int (0))), (.c (.int (0))), (.c (.int (1))), (.c (.int (1))), (.c (.int (0))), (.c (.int (1)))] 1, some (.t 1, true), false⟩, ⟨.cal F_ref08_Equal [(.t 1), (.t 0)], some (.t 2, true), false⟩, ⟨.pick (.t 3) (.t 0) (.c (.bool false)), none, false⟩, ⟨.mv (.t 0), none, false⟩, ⟨.mv (.v 17), some (.t 0, true), false⟩, ⟨.bin .eql (.t 0) (.c (.int (2))), some (.t 1, true), false⟩, ⟨.pick (.t 2) (.t 0) (.c (.bool false)), none, false⟩, ⟨.mv (.t 0), none, false⟩, ⟨.mv (.v 18), some (.t 0, true), false⟩, ⟨.bin .eql (.t 0) (.c (.int (3))), some (.t 1, true), false⟩, ⟨.pick (.t 2) (.t 0) (.c (.bool false)), none, false⟩, ⟨.mv (.t 0), none, false⟩], [(19, 0)], [10, 11, 12, 13, 14, 15, 16, 17, 18], none⟩
abbrev ir_law10_exampleHolds : Fn := { np := 0, nv := 20, res := [(19, none)], body :=
(.seq (.reg r_law10_exampleHolds_0)
 (.seq (.reg r_law10_exampleHolds_1)
 (.seq (.reg r_law10_exampleHolds_2)
 (.seq (.reg r_law10_exampleHolds_3)
 (.seq (.reg r_law10_exampleHolds_4)
 (.seq (.reg r_law10_exampleHolds_5)
 (.seq (.reg r_law10_exampleHolds_6)
 (.seq (.reg r_law10_exampleHolds_7)
 (.seq (.reg r_law10_exampleHolds_8)
 (.seq (.reg r_law10_exampleHolds_9)
 (.seq (.reg r_law10_exampleHolds_10)
 (.seq (.seq (.reg r_law10_exampleHolds_11)
 (.cond 105 (.seq (.reg r_law10_exampleHolds_12)
 .ret) .skip))
 (.seq (.reg r_law10_exampleHolds_13)
 .ret))))))))))))) }
/- f11 cover_Path : 0:m 1:s 2:t 3:m 4:e 5:_ 6:_ 7:_ 8:p 9:_ 10:_ 11:_ -/
abbrev r_cover_Path_0 : Reg := ⟨[⟨.bxi (.v 0), none, false⟩, ⟨.mv (.c (.snil)), none, false⟩, ⟨.mv (.c (.bool false)), none, false⟩, ⟨.mv (.c (.int (0))), none, false⟩], [(3, 3)], [0, 9, 10, 11], none⟩
abbrev r_cover_Path_1 : Reg := ⟨[⟨.ldi (.v 3) (some 4), none, false⟩, ⟨.cal F_mealy_Valid [(.t 0)], none, false⟩, ⟨.mv (.t 0), none, false⟩], [(4, 0)], [], none⟩
abbrev r_cover_Path_2 : Reg := ⟨[⟨.mv (.v 4), none, false⟩, ⟨.bin .neq (.t 0) (.c (.int (0))), none, false⟩], [], [], some (15, 0)⟩
abbrev r_cover_Path_3 : Reg := ⟨[⟨.mv (.v 4), none, false⟩, ⟨.mv (.c (.snil)), none, false⟩, ⟨.mv (.c (.bool false)), none, false⟩, ⟨.mv (.t 2), none, false⟩], [(9, 2), (10, 1), (11, 0)], [1, 2, 3, 4], none⟩
abbrev r_cover_Path_4 : Reg := ⟨[⟨.mv (.v 1), none, false⟩, ⟨.bin .lss (.t 0) (.c (.int (0))), none, false⟩, ⟨.mv (.t 0), none, false⟩, ⟨.mv (.v 1), some (.t 0, false), false⟩, ⟨.fad (.v 3) 2 none, some (.t 1, false), false⟩, ⟨.ldi (.t 0) none, some (.t 2, false), false⟩, ⟨.len (.t 0), some (.t 3, false), false⟩, ⟨.bin .geq (.t 3) (.t 0), some (.t 4, false), false⟩, ⟨.pick (.t 5) (.c (.bool true)) (.t 0), none, false⟩, ⟨.mv (.t 0), none, false⟩, ⟨.mv (.v 2), some (.t 0, false), false⟩, ⟨.bin .lss (.t 0) (.c (.int (0))), some (.t 1, false), false⟩, ⟨.pick (.t 2) (.c (.bool true)) (.t 0), none, false⟩, ⟨.mv (.t 0), none, false⟩, ⟨.mv (.v 2), some (.t 0, false), false⟩, ⟨.fad (.v 3) 2 none, some (.t 1, false), false⟩, ⟨.ldi (.t 0) none, some (.t 2, false), false⟩, ⟨.len (.t 0), some (.t 3, false), false⟩, ⟨.bin .geq (.t 3) (.t 0), some (.t 4, false), false⟩, ⟨.pick (.t 5) (.c (.bool true)) (.t 0), none, false⟩], [], [4], some (36, 0)⟩
abbrev r_cover_Path_5 : Reg := ⟨[⟨.mv (.c (.snil)), none, false⟩, ⟨.mv (.c (.bool false)), none, false⟩, ⟨.mv (.c (.int (2))), none, false⟩], [(9, 2), (10, 1), (11, 0)], [1, 2, 3], none⟩
abbrev r_cover_Path_6 : Reg := ⟨[⟨.ldi (.v 3) (some 4), none, false⟩, ⟨.mv (.v 1), none, false⟩, ⟨.cal F_cover_places [(.t 1), (.t 0)], none, false⟩, ⟨.len (.t 0), none, false⟩, ⟨.mv (.c (.int (0))), none, false⟩], [(7, 2), (6, 1), (5, 0)], [1, 3], none⟩
abbrev r_cover_Path_7 : Reg := ⟨[⟨.bin .lss (.v 5) (.v 6), none, false⟩], [], [], some (42, 0)⟩
abbrev r_cover_Path_8 : Reg := ⟨[⟨.iad (.v 7) (.v 5) 2, none, false⟩, ⟨.ld (.t 0) (some 2), none, false⟩, ⟨.alc0 2, none, false⟩, ⟨.ini (.t 0) (.t 1) 2, none, false⟩], [(8, 0)], [], none⟩
abbrev r_cover_Path_9 : Reg := ⟨[⟨.fad (.v 8) 0 none, none, false⟩, ⟨.ldi (.t 0) none, none, false⟩, ⟨.mv (.v 2), none, false⟩, ⟨.bin .eql (.t 1) (.t 0), none, false⟩], [], [], some (48, 0)⟩
abbrev r_cover_Path_10 : Reg := ⟨[⟨.fad (.v 8) 1 none, none, false⟩, ⟨.ldi (.t 0) none, none, false⟩, ⟨.mv (.t 0), none, false⟩, ⟨.mv (.c (.bool true)), none, false⟩, ⟨.mv (.c (.int (0))), none, false⟩], [(9, 2), (10, 1), (11, 0)], [2, 5, 6, 7, 8], none⟩
abbrev r_cover_Path_11 : Reg := ⟨[⟨.bin .add (.v 5) (.c (.int (1))), none, false⟩, ⟨.mv (.t 0), none, false⟩], [(5, 0)], [8], none⟩
abbrev b_cover_Path_0 : IC := (.seq (.reg r_cover_Path_7)
 (.seq (.cond 42 .skip (.exit 0))
 (.seq (.block 1 (.seq (.reg r_cover_Path_8)
 (.seq (.reg r_cover_Path_9)
 (.cond 48 (.seq (.reg r_cover_Path_10)
 .ret) .skip))))
 (.reg r_cover_Path_11))))
abbrev r_cover_Path_12 : Reg := ⟨[⟨.mv (.c (.snil)), none, false⟩, ⟨.mv (.c (.bool false)), none, false⟩, ⟨.mv (.c (.int (0))), none, false⟩], [(9, 2), (10, 1), (11, 0)], [2, 5, 6, 7], none⟩
abbrev ir_cover_Path : Fn := { np := 3, nv := 12, res := [(9, none), (10, none), (11, none)], body :=
(.seq (.reg r_cover_Path_0)
 (.seq (.seq (.reg r_cover_Path_1)
 (.seq (.reg r_cover_Path_2)
 (.cond 15 (.seq (.reg r_cover_Path_3)
 .ret) .skip)))
 (.seq (.seq (.reg r_cover_Path_4)
 (.cond 36 (.seq (.reg r_cover_Path_5)
 .ret) .skip))
 (.seq (.seq (.reg r_cover_Path_6)
 (.block 0 (.loop b_cover_Path_0)))
 (.seq (.reg r_cover_Path_12)
 .ret))))) }
/- f12 ref10_Path : 0:m 1:s 2:t 3:m 4:e 5:i 6:states 7:words 8:_ 9:_ 10:_ -/
abbrev r_ref10_Path_0 : Reg := ⟨[⟨.bxi (.v 0), none, false⟩, ⟨.mv (.c (.snil)), none, false⟩, ⟨.mv (.c (.bool false)), none, false⟩, ⟨.mv (.c (.int (0))), none, false⟩], [(3, 3)], [0, 8, 9, 10], none⟩
abbrev r_ref10_Path_1 : Reg := ⟨[⟨.ldi (.v 3) (some 4), none, false⟩, ⟨.cal F_ref06_Valid [(.t 0)], none, false⟩, ⟨.mv (.t 0), none, false⟩], [(4, 0)], [], none⟩
abbrev r_ref10_Path_2 : Reg := ⟨[⟨.mv (.v 4), none, false⟩, ⟨.bin .neq (.t 0) (.c (.int (0))), none, false⟩], [], [], some (17, 0)⟩
abbrev r_ref10_Path_3 : Reg := ⟨[⟨.mv (.v 4), none, false⟩, ⟨.mv (.c (.snil)), none, false⟩, ⟨.mv (.c (.bool false)), none, false⟩, ⟨.mv (.t 2), none, false⟩], [(8, 2), (9, 1), (10, 0)], [1, 2, 3, 4], none⟩
abbrev r_ref10_Path_4 : Reg := ⟨[⟨.mv (.v 1), none, false⟩, ⟨.bin .lss (.t 0) (.c (.int (0))), none, false⟩, ⟨.mv (.t 0), none, false⟩, ⟨.mv (.v 1), some (.t 0, false), false⟩, ⟨.fad (.v 3) 2 none, some (.t 1, false), false⟩, ⟨.ldi (.t 0) none, some (.t 2, false), false⟩, ⟨.len (.t 0), some (.t 3, false), false⟩, ⟨.bin .geq (.t 3) (.t 0), some (.t 4, false), false⟩, ⟨.pick (.t 5) (.c (.bool true)) (.t 0), none, false⟩, ⟨.mv (.t 0), none, false⟩, ⟨.mv (.v 2), some (.t 0, false), false⟩, ⟨.bin .lss (.t 0) (.c (.int (0))), some (.t 1, false), false⟩, ⟨.pick (.t 2) (.c (.bool true)) (.t 0), none, false⟩, ⟨.mv (.t 0), none, false⟩, ⟨.mv (.v 2), some (.t 0, false), false⟩, ⟨.fad (.v 3) 2 none, some (.t 1, false), false⟩, ⟨.ldi (.t 0) none, some (.t 2, false), false⟩, ⟨.len (.t 0), some (.t 3, false), false⟩, ⟨.bin .geq (.t 3) (.t 0), some (.t 4, false), false⟩, ⟨.pick (.t 5) (.c (.bool true)) (.t 0), none, false⟩], [], [4], some (38, 0)⟩
abbrev r_ref10_Path_5 : Reg := ⟨[⟨.mv (.c (.snil)), none, false⟩, ⟨.mv (.c (.bool false)), none, false⟩, ⟨.mv (.c (.int (2))), none, false⟩], [(8, 2), (9, 1), (10, 0)], [1, 2, 3], none⟩
abbrev r_ref10_Path_6 : Reg := ⟨[⟨.fad (.v 3) 0 none, none, false⟩, ⟨.ldi (.t 0) none, none, false⟩, ⟨.mv (.v 1), none, false⟩, ⟨.fad (.v 3) 2 none, none, false⟩, ⟨.ldi (.t 0) none, none, false⟩, ⟨.fad (.v 3) 3 none, none, false⟩, ⟨.ldi (.t 0) none, none, false⟩, ⟨.bld [.int 0, .int 0, .snil, .snil] [(0, 1, (.t 5)), (1, 1, (.t 4)), (2, 1, (.t 2)), (3, 1, (.t 0))], none, false⟩, ⟨.cal F_ref10_Access [(.t 0)], none, false⟩, ⟨.mv (.t 0), none, false⟩, ⟨.ext (.t 0) 0, none, false⟩, ⟨.ext (.t 1) 1, none, false⟩, ⟨.ext (.t 2) 2, none, false⟩, ⟨.mv (.t 2), none, false⟩, ⟨.mv (.t 2), none, false⟩, ⟨.mv (.t 2), none, false⟩], [(6, 2), (7, 1)], [1, 3], none⟩
abbrev r_ref10_Path_7 : Reg := ⟨[⟨.mv (.c (.int (0))), none, false⟩], [(5, 0)], [], none⟩
abbrev r_ref10_Path_8 : Reg := ⟨[⟨.mv (.v 5), none, false⟩, ⟨.mv (.v 6), none, false⟩, ⟨.len (.t 0), none, false⟩, ⟨.bin .lss (.t 2) (.t 0), none, false⟩], [], [], some (55, 0)⟩
abbrev r_ref10_Path_10 : Reg := ⟨[⟨.mv (.v 6), none, false⟩, ⟨.mv (.v 5), none, false⟩, ⟨.iad (.t 1) (.t 0) 1, none, false⟩, ⟨.ld (.t 0) none, none, false⟩, ⟨.mv (.v 2), none, false⟩, ⟨.bin .eql (.t 1) (.t 0), none, false⟩], [], [], some (63, 0)⟩
abbrev r_ref10_Path_11 : Reg := ⟨[⟨.mv (.v 7), none, false⟩, ⟨.mv (.v 5), none, false⟩, ⟨.iad (.t 1) (.t 0) 1, none, false⟩, ⟨.ld (.t 0) none, none, false⟩, ⟨.mv (.t 0), none, false⟩, ⟨.mv (.c (.bool true)), none, false⟩, ⟨.mv (.c (.int (0))), none, false⟩], [(8, 2), (9, 1), (10, 0)], [2, 5, 6, 7], none⟩
abbrev r_ref10_Path_9 : Reg := ⟨[⟨.mv (.v 5), none, false⟩, ⟨.bin .add (.t 0) (.c (.int (1))), none, false⟩, ⟨.mv (.t 0), none, false⟩], [(5, 0)], [], none⟩
abbrev b_ref10_Path_0 : IC := (.seq (.seq (.reg r_ref10_Path_8)
 (.cond 55 .skip (.exit 0)))
 (.seq (.block 1 (.seq (.reg r_ref10_Path_10)
 (.cond 63 (.seq (.reg r_ref10_Path_11)
 .ret) .skip)))
 (.reg r_ref10_Path_9)))
abbrev r_ref10_Path_12 : Reg := ⟨[⟨.mv (.c (.snil)), none, false⟩, ⟨.mv (.c (.bool false)), none, false⟩, ⟨.mv (.c (.int (0))), none, false⟩], [(8, 2), (9, 1), (10, 0)], [2, 5, 6, 7], none⟩
abbrev ir_ref10_Path : Fn := { np := 3, nv := 11, res := [(8, none), (9, none), (10, none)], body :=
(.seq (.reg r_ref10_Path_0)
 (.seq (.seq (.reg r_ref10_Path_1)
 (.seq (.reg r_ref10_Path_2)
 (.cond 17 (.seq (.reg r_ref10_Path_3)
 .ret) .skip)))
 (.seq (.seq (.reg r_ref10_Path_4)
 (.cond 38 (.seq (.reg r_ref10_Path_5)
 .ret) .skip))
 (.seq (.reg r_ref10_Path_6)
 (.seq (.seq (.reg r_ref10_Path_7)
 (.block 0 (.loop b_ref10_Path_0)))
 (.seq (.reg r_ref10_Path_12)
 .ret)))))) }
/- f13 ref08_Equal : 0:a 1:b 2:i 3:_ -/
abbrev r_ref08_Equal_0 : Reg := ⟨[⟨.mv (.c (.bool false)), none, false⟩], [], [3], none⟩
abbrev r_ref08_Equal_1 : Reg := ⟨[⟨.mv (.v 0), none, false⟩, ⟨.len (.t 0), none, false⟩, ⟨.mv (.v 1), none, false⟩, ⟨.len (.t 0), none, false⟩, ⟨.bin .neq (.t 2) (.t 0), none, false⟩], [], [], some (10, 0)⟩
abbrev r_ref08_Equal_2 : Reg := ⟨[⟨.mv (.c (.bool false)), none, false⟩], [(3, 0)], [0, 1], none⟩
abbrev r_ref08_Equal_3 : Reg := ⟨[⟨.mv (.c (.int (0))), none, false⟩], [(2, 0)], [], none⟩
abbrev r_ref08_Equal_4 : Reg := ⟨[⟨.mv (.v 2), none, false⟩, ⟨.mv (.v 0), none, false⟩, ⟨.len (.t 0), none, false⟩, ⟨.bin .lss (.t 2) (.t 0), none, false⟩], [], [], some (14, 0)⟩
abbrev r_ref08_Equal_6 : Reg := ⟨[⟨.mv (.v 0), none, false⟩, ⟨.mv (.v 2), none, false⟩, ⟨.iad (.t 1) (.t 0) 1, none, false⟩, ⟨.ld (.t 0) none, none, false⟩, ⟨.mv (.v 1), none, false⟩, ⟨.mv (.v 2), none, false⟩, ⟨.iad (.t 1) (.t 0) 1, none, false⟩, ⟨.ld (.t 0) none, none, false⟩, ⟨.bin .neq (.t 4) (.t 0), none, false⟩], [], [], some (25, 0)⟩
abbrev r_ref08_Equal_7 : Reg := ⟨[⟨.mv (.c (.bool false)), none, false⟩], [(3, 0)], [0, 1, 2], none⟩
abbrev r_ref08_Equal_5 : Reg := ⟨[⟨.mv (.v 2), none, false⟩, ⟨.bin .add (.t 0) (.c (.int (1))), none, false⟩, ⟨.mv (.t 0), none, false⟩], [(2, 0)], [], none⟩
abbrev b_ref08_Equal_0 : IC := (.seq (.seq (.reg r_ref08_Equal_4)
 (.cond 14 .skip (.exit 0)))
 (.seq (.block 1 (.seq (.reg r_ref08_Equal_6)
 (.cond 25 (.seq (.reg r_ref08_Equal_7)
 .ret) .skip)))
 (.reg r_ref08_Equal_5)))
abbrev r_ref08_Equal_8 : Reg := ⟨[⟨.mv (.c (.bool true)), none, false⟩], [(3, 0)], [0, 1, 2], none⟩
abbrev ir_ref08_Equal : Fn := { np := 2, nv := 4, res := [(3, none)], body :=
(.seq (.reg r_ref08_Equal_0)
 (.seq (.seq (.reg r_ref08_Equal_1)
 (.cond 10 (.seq (.reg r_ref08_Equal_2)
 .ret) .skip))
 (.seq (.seq (.reg r_ref08_Equal_3)
 (.block 0 (.loop b_ref08_Equal_0)))
 (.seq (.reg r_ref08_Equal_8)
 .ret)))) }
/- f14 cover_Tour : 0:m 1:m 2:e 3:left 4:s 5:taken 6:found 7:out 8:w 9:_ 10:_ 11:_ 12:a 13:_ 14:_ -/
abbrev r_cover_Tour_0 : Reg := ⟨[⟨.bxm (.v 0) (some 4), none, false⟩, ⟨.mv (.c (.snil)), none, false⟩, ⟨.mv (.c (.int (0))), none, false⟩], [(1, 2)], [0, 13, 14], none⟩
abbrev r_cover_Tour_1 : Reg := ⟨[⟨.ld (.v 1) (some 4), none, false⟩, ⟨.cal F_mealy_Valid [(.t 0)], none, false⟩, ⟨.mv (.t 0), none, false⟩], [(2, 0)], [], none⟩
abbrev r_cover_Tour_2 : Reg := ⟨[⟨.mv (.v 2), none, false⟩, ⟨.bin .neq (.t 0) (.c (.int (0))), none, false⟩], [], [], some (16, 0)⟩
abbrev r_cover_Tour_3 : Reg := ⟨[⟨.mv (.v 2), none, false⟩, ⟨.mv (.c (.snil)), none, false⟩, ⟨.mv (.t 1), none, false⟩], [(13, 1), (14, 0)], [1, 2], none⟩
abbrev r_cover_Tour_4 : Reg := ⟨[⟨.ld (.v 1) (some 4), none, false⟩, ⟨.can F_cover_marks [(.t 0)], none, false⟩, ⟨.mv (.t 0), none, false⟩], [(5, 0)], [2], none⟩
abbrev r_cover_Tour_5 : Reg := ⟨[⟨.ld (.v 1) (some 4), none, false⟩, ⟨.cal F_mealy_Reach [(.t 0)], none, false⟩, ⟨.len (.t 0), none, false⟩, ⟨.fad (.v 1) 0 none, none, false⟩, ⟨.ld (.t 0) none, none, false⟩, ⟨.bin .mul (.t 2) (.t 0), none, false⟩, ⟨.mv (.t 0), none, false⟩], [(3, 0)], [], none⟩
abbrev r_cover_Tour_6 : Reg := ⟨[⟨.nl none, none, false⟩], [(7, 0)], [], none⟩
abbrev r_cover_Tour_7 : Reg := ⟨[⟨.fad (.v 1) 1 none, none, false⟩, ⟨.ld (.t 0) none, none, false⟩, ⟨.mv (.t 0), none, false⟩], [(4, 0)], [], none⟩
abbrev r_cover_Tour_8 : Reg := ⟨[⟨.mv (.v 3), none, false⟩, ⟨.bin .gtr (.t 0) (.c (.int (0))), none, false⟩], [], [], some (29, 0)⟩
abbrev r_cover_Tour_9 : Reg := ⟨[⟨.ld (.v 1) (some 4), none, false⟩, ⟨.mv (.v 4), none, false⟩, ⟨.mv (.v 5), none, false⟩, ⟨.cam F_cover_untaken [(.t 2), (.t 1), (.t 0)], none, false⟩, ⟨.mv (.t 0), none, false⟩, ⟨.ext (.t 0) 0, none, false⟩, ⟨.ext (.t 1) 1, none, false⟩, ⟨.mv (.t 1), none, false⟩, ⟨.mv (.t 1), none, false⟩], [(8, 1), (6, 0)], [], none⟩
abbrev r_cover_Tour_10 : Reg := ⟨[⟨.mv (.v 6), none, false⟩, ⟨.not (.t 0), none, false⟩, ⟨.mv (.t 0), none, false⟩], [], [6], some (37, 0)⟩
abbrev r_cover_Tour_11 : Reg := ⟨[⟨.mv (.c (.snil)), none, false⟩, ⟨.mv (.c (.int (8))), none, false⟩], [(13, 1), (14, 0)], [1, 3, 4, 5, 7, 8], none⟩
abbrev r_cover_Tour_12 : Reg := ⟨[⟨.mv (.v 7), none, false⟩, ⟨.len (.t 0), none, false⟩, ⟨.mv (.v 8), none, false⟩, ⟨.len (.t 0), none, false⟩, ⟨.bin .add (.t 2) (.t 0), none, false⟩, ⟨.bin .gtr (.t 0) (.c (.int (1024))), none, false⟩, ⟨.mv (.t 0), none, false⟩], [], [], some (40, 0)⟩
abbrev r_cover_Tour_13 : Reg := ⟨[⟨.mv (.c (.snil)), none, false⟩, ⟨.mv (.c (.int (3))), none, false⟩], [(13, 1), (14, 0)], [1, 3, 4, 5, 7, 8], none⟩
abbrev r_cover_Tour_14 : Reg := ⟨[⟨.mv (.v 8), none, false⟩, ⟨.len (.t 0), none, false⟩, ⟨.mv (.c (.int (0))), none, false⟩], [(11, 2), (10, 1), (9, 0)], [], none⟩
abbrev r_cover_Tour_15 : Reg := ⟨[⟨.bin .lss (.v 9) (.v 10), none, false⟩], [], [], some (50, 0)⟩
abbrev r_cover_Tour_16 : Reg := ⟨[⟨.iad (.v 11) (.v 9) 1, none, false⟩, ⟨.ld (.t 0) none, none, false⟩, ⟨.mv (.t 0), none, false⟩], [(12, 0)], [], none⟩
abbrev r_cover_Tour_17 : Reg := ⟨[⟨.mv (.v 5), none, false⟩, ⟨.mv (.v 4), none, false⟩, ⟨.iad (.t 1) (.t 0) 1, none, false⟩, ⟨.ld (.t 0) none, none, false⟩, ⟨.mv (.v 12), none, false⟩, ⟨.iad (.t 1) (.t 0) 1, none, false⟩, ⟨.ld (.t 0) none, none, false⟩, ⟨.not (.t 0), none, false⟩], [], [], some (60, 0)⟩
abbrev r_cover_Tour_18 : Reg := ⟨[⟨.mv (.v 5), none, false⟩, ⟨.mv (.v 4), none, false⟩, ⟨.iad (.t 1) (.t 0) 1, none, false⟩, ⟨.ld (.t 0) none, none, false⟩, ⟨.mv (.v 12), none, false⟩, ⟨.iad (.t 1) (.t 0) 1, none, false⟩, ⟨.st (.t 0) (.c (.bool true)) 1, none, false⟩], [], [], none⟩
abbrev r_cover_Tour_19 : Reg := ⟨[⟨.mv (.v 3), none, false⟩, ⟨.bin .sub (.t 0) (.c (.int (1))), none, false⟩, ⟨.mv (.t 0), none, false⟩], [(3, 0)], [], none⟩
abbrev r_cover_Tour_20 : Reg := ⟨[⟨.fad (.v 1) 2 none, none, false⟩, ⟨.ld (.t 0) none, none, false⟩, ⟨.mv (.v 4), none, false⟩, ⟨.iad (.t 1) (.t 0) 1, none, false⟩, ⟨.ld (.t 0) none, none, false⟩, ⟨.mv (.v 12), none, false⟩, ⟨.iad (.t 1) (.t 0) 1, none, false⟩, ⟨.ld (.t 0) none, none, false⟩, ⟨.mv (.t 0), none, false⟩], [(4, 0)], [12], none⟩
abbrev r_cover_Tour_21 : Reg := ⟨[⟨.bin .add (.v 9) (.c (.int (1))), none, false⟩, ⟨.mv (.t 0), none, false⟩], [(9, 0)], [], none⟩
abbrev b_cover_Tour_3 : IC := (.seq (.reg r_cover_Tour_15)
 (.seq (.cond 50 .skip (.exit 3))
 (.seq (.block 4 (.seq (.reg r_cover_Tour_16)
 (.seq (.seq (.reg r_cover_Tour_17)
 (.cond 60 (.seq (.reg r_cover_Tour_18)
 (.reg r_cover_Tour_19)) .skip))
 (.reg r_cover_Tour_20))))
 (.reg r_cover_Tour_21))))
abbrev r_cover_Tour_22 : Reg := ⟨[⟨.mv (.v 7), none, false⟩, ⟨.mv (.v 8), none, false⟩, ⟨.appw (.t 1) (.t 0) none, none, false⟩, ⟨.mv (.t 0), none, false⟩], [(7, 0)], [8, 9, 10, 11], none⟩
abbrev b_cover_Tour_0 : IC := (.seq (.seq (.reg r_cover_Tour_8)
 (.cond 29 .skip (.exit 0)))
 (.block 1 (.seq (.reg r_cover_Tour_9)
 (.seq (.block 2 (.seq (.reg r_cover_Tour_10)
 (.cond 37 (.seq (.reg r_cover_Tour_11)
 .ret) (.seq (.reg r_cover_Tour_12)
 (.cond 40 (.seq (.reg r_cover_Tour_13)
 .ret) .skip)))))
 (.seq (.seq (.reg r_cover_Tour_14)
 (.block 3 (.loop b_cover_Tour_3)))
 (.reg r_cover_Tour_22))))))
abbrev r_cover_Tour_23 : Reg := ⟨[⟨.mv (.v 7), none, false⟩, ⟨.mv (.t 0), none, false⟩, ⟨.mv (.c (.int (0))), none, false⟩], [(13, 1), (14, 0)], [1, 3, 4, 5, 7], none⟩
abbrev ir_cover_Tour : Fn := { np := 1, nv := 15, res := [(13, none), (14, none)], body :=
(.seq (.reg r_cover_Tour_0)
 (.seq (.seq (.reg r_cover_Tour_1)
 (.seq (.reg r_cover_Tour_2)
 (.cond 16 (.seq (.reg r_cover_Tour_3)
 .ret) .skip)))
 (.seq (.reg r_cover_Tour_4)
 (.seq (.reg r_cover_Tour_5)
 (.seq (.reg r_cover_Tour_6)
 (.seq (.reg r_cover_Tour_7)
 (.seq (.block 0 (.loop b_cover_Tour_0))
 (.seq (.reg r_cover_Tour_23)
 .ret)))))))) }
/- f15 ref10_Tour : 0:m 1:m 2:e 3:states 4:left 5:at 6:taken 7:ok 8:out 9:w 10:i 11:t 12:_ 13:_ -/
abbrev r_ref10_Tour_0 : Reg := ⟨[⟨.bxm (.v 0) (some 4), none, false⟩, ⟨.mv (.c (.snil)), none, false⟩, ⟨.mv (.c (.int (0))), none, false⟩], [(1, 2)], [0, 12, 13], none⟩
abbrev r_ref10_Tour_1 : Reg := ⟨[⟨.ld (.v 1) (some 4), none, false⟩, ⟨.cal F_ref10_Access [(.t 0)], none, false⟩, ⟨.mv (.t 0), none, false⟩, ⟨.ext (.t 0) 0, none, false⟩, ⟨.ext (.t 1) 1, none, false⟩, ⟨.ext (.t 2) 2, none, false⟩, ⟨.mv (.t 2), none, false⟩, ⟨.mv (.t 2), none, false⟩, ⟨.mv (.t 2), none, false⟩], [(3, 2), (2, 0)], [], none⟩
abbrev r_ref10_Tour_2 : Reg := ⟨[⟨.mv (.v 2), none, false⟩, ⟨.bin .neq (.t 0) (.c (.int (0))), none, false⟩], [], [], some (22, 0)⟩
abbrev r_ref10_Tour_3 : Reg := ⟨[⟨.mv (.v 2), none, false⟩, ⟨.mv (.c (.snil)), none, false⟩, ⟨.mv (.t 1), none, false⟩], [(12, 1), (13, 0)], [1, 2, 3], none⟩
abbrev r_ref10_Tour_4 : Reg := ⟨[⟨.ld (.v 1) (some 4), none, false⟩, ⟨.can F_ref10_none [(.t 0)], none, false⟩, ⟨.mv (.t 0), none, false⟩], [(6, 0)], [2], none⟩
abbrev r_ref10_Tour_5 : Reg := ⟨[⟨.nl none, none, false⟩], [(8, 0)], [], none⟩
abbrev r_ref10_Tour_6 : Reg := ⟨[⟨.fad (.v 1) 1 none, none, false⟩, ⟨.ld (.t 0) none, none, false⟩, ⟨.mv (.t 0), none, false⟩], [(5, 0)], [], none⟩
abbrev r_ref10_Tour_7 : Reg := ⟨[⟨.mv (.v 3), none, false⟩, ⟨.len (.t 0), none, false⟩, ⟨.fad (.v 1) 0 none, none, false⟩, ⟨.ld (.t 0) none, none, false⟩, ⟨.bin .mul (.t 2) (.t 0), none, false⟩, ⟨.mv (.t 0), none, false⟩], [(4, 0)], [3], none⟩
abbrev r_ref10_Tour_8 : Reg := ⟨[⟨.mv (.v 4), none, false⟩, ⟨.bin .gtr (.t 0) (.c (.int (0))), none, false⟩], [], [], some (34, 0)⟩
abbrev r_ref10_Tour_10 : Reg := ⟨[⟨.ld (.v 1) (some 4), none, false⟩, ⟨.mv (.v 5), none, false⟩, ⟨.mv (.v 6), none, false⟩, ⟨.cam F_ref10_fresh [(.t 2), (.t 1), (.t 0)], none, false⟩, ⟨.mv (.t 0), none, false⟩, ⟨.ext (.t 0) 0, none, false⟩, ⟨.ext (.t 1) 1, none, false⟩, ⟨.ext (.t 2) 2, none, false⟩, ⟨.mv (.t 2), none, false⟩, ⟨.mv (.t 2), none, false⟩, ⟨.mv (.t 2), none, false⟩], [(9, 2), (11, 1), (7, 0)], [], none⟩
abbrev r_ref10_Tour_11 : Reg := ⟨[⟨.mv (.v 7), none, false⟩, ⟨.not (.t 0), none, false⟩], [], [7], some (46, 0)⟩
abbrev r_ref10_Tour_12 : Reg := ⟨[⟨.mv (.c (.snil)), none, false⟩, ⟨.mv (.c (.int (8))), none, false⟩], [(12, 1), (13, 0)], [1, 4, 5, 6, 8, 9, 11], none⟩
abbrev r_ref10_Tour_13 : Reg := ⟨[⟨.mv (.v 8), none, false⟩, ⟨.len (.t 0), none, false⟩, ⟨.mv (.v 9), none, false⟩, ⟨.len (.t 0), none, false⟩, ⟨.bin .add (.t 2) (.t 0), none, false⟩, ⟨.bin .gtr (.t 0) (.c (.int (1024))), none, false⟩], [], [], some (52, 0)⟩
abbrev r_ref10_Tour_14 : Reg := ⟨[⟨.mv (.c (.snil)), none, false⟩, ⟨.mv (.c (.int (3))), none, false⟩], [(12, 1), (13, 0)], [1, 4, 5, 6, 8, 9, 11], none⟩
abbrev r_ref10_Tour_15 : Reg := ⟨[⟨.mv (.c (.int (0))), none, false⟩], [(10, 0)], [], none⟩
abbrev r_ref10_Tour_16 : Reg := ⟨[⟨.mv (.v 10), none, false⟩, ⟨.mv (.v 9), none, false⟩, ⟨.len (.t 0), none, false⟩, ⟨.bin .lss (.t 2) (.t 0), none, false⟩], [], [], some (56, 0)⟩
abbrev r_ref10_Tour_18 : Reg := ⟨[⟨.mv (.v 6), none, false⟩, ⟨.mv (.v 5), none, false⟩, ⟨.iad (.t 1) (.t 0) 1, none, false⟩, ⟨.ld (.t 0) none, none, false⟩, ⟨.mv (.v 9), none, false⟩, ⟨.mv (.v 10), none, false⟩, ⟨.iad (.t 1) (.t 0) 1, none, false⟩, ⟨.ld (.t 0) none, none, false⟩, ⟨.iad (.t 4) (.t 0) 1, none, false⟩, ⟨.st (.t 0) (.c (.bool true)) 1, none, false⟩], [], [], none⟩
abbrev r_ref10_Tour_19 : Reg := ⟨[⟨.fad (.v 1) 2 none, none, false⟩, ⟨.ld (.t 0) none, none, false⟩, ⟨.mv (.v 5), none, false⟩, ⟨.iad (.t 1) (.t 0) 1, none, false⟩, ⟨.ld (.t 0) none, none, false⟩, ⟨.mv (.v 9), none, false⟩, ⟨.mv (.v 10), none, false⟩, ⟨.iad (.t 1) (.t 0) 1, none, false⟩, ⟨.ld (.t 0) none, none, false⟩, ⟨.iad (.t 4) (.t 0) 1, none, false⟩, ⟨.ld (.t 0) none, none, false⟩, ⟨.mv (.t 0), none, false⟩], [(5, 0)], [], none⟩
abbrev r_ref10_Tour_17 : Reg := ⟨[⟨.mv (.v 10), none, false⟩, ⟨.bin .add (.t 0) (.c (.int (1))), none, false⟩, ⟨.mv (.t 0), none, false⟩], [(10, 0)], [], none⟩
abbrev b_ref10_Tour_2 : IC := (.seq (.seq (.reg r_ref10_Tour_16)
 (.cond 56 .skip (.exit 2)))
 (.seq (.block 3 (.seq (.reg r_ref10_Tour_18)
 (.reg r_ref10_Tour_19)))
 (.reg r_ref10_Tour_17)))
abbrev r_ref10_Tour_20 : Reg := ⟨[⟨.mv (.v 8), none, false⟩, ⟨.mv (.v 9), none, false⟩, ⟨.appw (.t 1) (.t 0) none, none, false⟩, ⟨.mv (.t 0), none, false⟩], [(8, 0)], [5, 9, 10], none⟩
abbrev r_ref10_Tour_21 : Reg := ⟨[⟨.mv (.v 11), none, false⟩, ⟨.mv (.t 0), none, false⟩], [(5, 0)], [11], none⟩
abbrev r_ref10_Tour_9 : Reg := ⟨[⟨.mv (.v 4), none, false⟩, ⟨.bin .sub (.t 0) (.c (.int (1))), none, false⟩, ⟨.mv (.t 0), none, false⟩], [(4, 0)], [], none⟩
abbrev b_ref10_Tour_0 : IC := (.seq (.seq (.reg r_ref10_Tour_8)
 (.cond 34 .skip (.exit 0)))
 (.seq (.block 1 (.seq (.reg r_ref10_Tour_10)
 (.seq (.seq (.reg r_ref10_Tour_11)
 (.cond 46 (.seq (.reg r_ref10_Tour_12)
 .ret) .skip))
 (.seq (.seq (.reg r_ref10_Tour_13)
 (.cond 52 (.seq (.reg r_ref10_Tour_14)
 .ret) .skip))
 (.seq (.seq (.reg r_ref10_Tour_15)
 (.block 2 (.loop b_ref10_Tour_2)))
 (.seq (.reg r_ref10_Tour_20)
 (.reg r_ref10_Tour_21)))))))
 (.reg r_ref10_Tour_9)))
abbrev r_ref10_Tour_22 : Reg := ⟨[⟨.mv (.v 8), none, false⟩, ⟨.mv (.t 0), none, false⟩, ⟨.mv (.c (.int (0))), none, false⟩], [(12, 1), (13, 0)], [1, 4, 5, 6, 8], none⟩
abbrev ir_ref10_Tour : Fn := { np := 1, nv := 14, res := [(12, none), (13, none)], body :=
(.seq (.reg r_ref10_Tour_0)
 (.seq (.reg r_ref10_Tour_1)
 (.seq (.seq (.reg r_ref10_Tour_2)
 (.cond 22 (.seq (.reg r_ref10_Tour_3)
 .ret) .skip))
 (.seq (.reg r_ref10_Tour_4)
 (.seq (.reg r_ref10_Tour_5)
 (.seq (.reg r_ref10_Tour_6)
 (.seq (.seq (.reg r_ref10_Tour_7)
 (.block 0 (.loop b_ref10_Tour_0)))
 (.seq (.reg r_ref10_Tour_22)
 .ret)))))))) }
/- f16 cover_Covered : 0:m 1:words 2:m 3:e 4:_ 5:_ 6:_ 7:w 8:e 9:visited 10:states 11:_ 12:_ 13:_ 14:visit 15:s 16:w 17:_ 18:_ 19:_ 20:taken 21:a 22:transitions 23:_ 24:_ 25:_ -/
abbrev r_cover_Covered_0 : Reg := ⟨[⟨.bxi (.v 0), none, false⟩, ⟨.mv (.c (.int (0))), none, false⟩, ⟨.mv (.c (.int (0))), none, false⟩, ⟨.mv (.c (.int (0))), none, false⟩], [(2, 3)], [0, 23, 24, 25], none⟩
abbrev r_cover_Covered_1 : Reg := ⟨[⟨.ldi (.v 2) (some 4), none, false⟩, ⟨.cal F_mealy_Valid [(.t 0)], none, false⟩, ⟨.mv (.t 0), none, false⟩], [(3, 0)], [], none⟩
abbrev r_cover_Covered_2 : Reg := ⟨[⟨.mv (.v 3), none, false⟩, ⟨.bin .neq (.t 0) (.c (.int (0))), none, false⟩], [], [], some (24, 0)⟩
abbrev r_cover_Covered_3 : Reg := ⟨[⟨.mv (.v 3), none, false⟩, ⟨.mv (.c (.int (0))), none, false⟩, ⟨.mv (.c (.int (0))), none, false⟩, ⟨.mv (.t 2), none, false⟩], [(23, 2), (24, 1), (25, 0)], [1, 2, 3], none⟩
abbrev r_cover_Covered_4 : Reg := ⟨[⟨.mv (.v 1), none, false⟩, ⟨.len (.t 0), none, false⟩, ⟨.mv (.c (.int (0))), none, false⟩], [(6, 2), (5, 1), (4, 0)], [3], none⟩
abbrev r_cover_Covered_5 : Reg := ⟨[⟨.bin .lss (.v 4) (.v 5), none, false⟩], [], [], some (29, 0)⟩
abbrev r_cover_Covered_6 : Reg := ⟨[⟨.iad (.v 6) (.v 4) 1, none, false⟩, ⟨.ld (.t 0) none, none, false⟩, ⟨.mv (.t 0), none, false⟩], [(7, 0)], [], none⟩
abbrev r_cover_Covered_7 : Reg := ⟨[⟨.mv (.v 7), none, false⟩, ⟨.fad (.v 2) 0 none, none, false⟩, ⟨.ldi (.t 0) none, none, false⟩, ⟨.cal F_word_Check [(.t 2), (.t 0)], none, false⟩, ⟨.mv (.t 0), none, false⟩], [(8, 0)], [7], none⟩
abbrev r_cover_Covered_8 : Reg := ⟨[⟨.mv (.v 8), none, false⟩, ⟨.bin .neq (.t 0) (.c (.int (0))), none, false⟩], [], [], some (37, 0)⟩
abbrev r_cover_Covered_9 : Reg := ⟨[⟨.mv (.v 8), none, false⟩, ⟨.mv (.c (.int (0))), none, false⟩, ⟨.mv (.c (.int (0))), none, false⟩, ⟨.mv (.t 2), none, false⟩], [(23, 2), (24, 1), (25, 0)], [1, 2, 4, 5, 6, 8], none⟩
abbrev r_cover_Covered_10 : Reg := ⟨[⟨.bin .add (.v 4) (.c (.int (1))), none, false⟩, ⟨.mv (.t 0), none, false⟩], [(4, 0)], [8], none⟩
abbrev b_cover_Covered_0 : IC := (.seq (.reg r_cover_Covered_5)
 (.seq (.cond 29 .skip (.exit 0))
 (.seq (.block 1 (.seq (.reg r_cover_Covered_6)
 (.seq (.reg r_cover_Covered_7)
 (.seq (.reg r_cover_Covered_8)
 (.cond 37 (.seq (.reg r_cover_Covered_9)
 .ret) .skip)))))
 (.reg r_cover_Covered_10))))
abbrev r_cover_Covered_11 : Reg := ⟨[⟨.fad (.v 2) 2 none, none, false⟩, ⟨.ldi (.t 0) none, none, false⟩, ⟨.len (.t 0), none, false⟩, ⟨.mks (.t 0) (.t 0) [.bool false] none, none, false⟩, ⟨.ldi (.v 2) (some 4), none, false⟩, ⟨.can F_cover_marks [(.t 0)], none, false⟩, ⟨.alc [.snil] none, none, false⟩, ⟨.st (.t 0) (.t 3) 1, none, false⟩, ⟨.mv (.t 2), none, false⟩], [(9, 2), (20, 0)], [4, 5, 6], none⟩
abbrev r_cover_Covered_12 : Reg := ⟨[⟨.alc [.int 0] none, none, false⟩, ⟨.st (.t 0) (.c (.int (0))) 1, none, false⟩, ⟨.mv (.c (.int (0))), none, false⟩], [(10, 2), (22, 0)], [], none⟩
abbrev r_cover_Covered_13 : Reg := ⟨[⟨.mkf F_cover_Covered_1 [(.v 9), (.v 10)], none, false⟩, ⟨.mv (.t 0), none, false⟩], [(14, 0)], [9], none⟩
abbrev r_cover_Covered_14 : Reg := ⟨[⟨.mv (.v 1), none, false⟩, ⟨.len (.t 0), none, false⟩, ⟨.mv (.c (.int (0))), none, false⟩], [(13, 2), (12, 1), (11, 0)], [1], none⟩
abbrev r_cover_Covered_15 : Reg := ⟨[⟨.bin .lss (.v 11) (.v 12), none, false⟩], [], [], some (50, 0)⟩
abbrev r_cover_Covered_16 : Reg := ⟨[⟨.iad (.v 13) (.v 11) 1, none, false⟩, ⟨.ld (.t 0) none, none, false⟩, ⟨.mv (.t 0), none, false⟩], [(16, 0)], [], none⟩
abbrev r_cover_Covered_17 : Reg := ⟨[⟨.fad (.v 2) 1 none, none, false⟩, ⟨.ldi (.t 0) none, none, false⟩, ⟨.mv (.t 0), none, false⟩], [(15, 0)], [], none⟩
abbrev r_cover_Covered_18 : Reg := ⟨[⟨.mv (.v 14), none, false⟩, ⟨.mv (.v 15), none, false⟩, ⟨.camd (.t 1) [(.t 0)], none, false⟩], [], [], none⟩
abbrev r_cover_Covered_19 : Reg := ⟨[⟨.mv (.v 16), none, false⟩, ⟨.len (.t 0), none, false⟩, ⟨.mv (.c (.int (0))), none, false⟩], [(19, 2), (18, 1), (17, 0)], [16], none⟩
abbrev r_cover_Covered_20 : Reg := ⟨[⟨.bin .lss (.v 17) (.v 18), none, false⟩], [], [], some (61, 0)⟩
abbrev r_cover_Covered_21 : Reg := ⟨[⟨.iad (.v 19) (.v 17) 1, none, false⟩, ⟨.ld (.t 0) none, none, false⟩, ⟨.mv (.t 0), none, false⟩], [(21, 0)], [], none⟩
abbrev r_cover_Covered_22 : Reg := ⟨[⟨.mv (.v 20), none, false⟩, ⟨.mv (.v 15), none, false⟩, ⟨.iad (.t 1) (.t 0) 1, none, false⟩, ⟨.ld (.t 0) none, none, false⟩, ⟨.mv (.v 21), none, false⟩, ⟨.iad (.t 1) (.t 0) 1, none, false⟩, ⟨.ld (.t 0) none, none, false⟩, ⟨.not (.t 0), none, false⟩], [], [], some (71, 0)⟩
abbrev r_cover_Covered_23 : Reg := ⟨[⟨.mv (.v 20), none, false⟩, ⟨.mv (.v 15), none, false⟩, ⟨.iad (.t 1) (.t 0) 1, none, false⟩, ⟨.ld (.t 0) none, none, false⟩, ⟨.mv (.v 21), none, false⟩, ⟨.iad (.t 1) (.t 0) 1, none, false⟩, ⟨.st (.t 0) (.c (.bool true)) 1, none, false⟩], [], [], none⟩
abbrev r_cover_Covered_24 : Reg := ⟨[⟨.mv (.v 22), none, false⟩, ⟨.bin .add (.t 0) (.c (.int (1))), none, false⟩, ⟨.mv (.t 0), none, false⟩], [(22, 0)], [], none⟩
abbrev r_cover_Covered_25 : Reg := ⟨[⟨.fad (.v 2) 2 none, none, false⟩, ⟨.ldi (.t 0) none, none, false⟩, ⟨.mv (.v 15), none, false⟩, ⟨.iad (.t 1) (.t 0) 1, none, false⟩, ⟨.ldi (.t 0) none, none, false⟩, ⟨.mv (.v 21), none, false⟩, ⟨.iad (.t 1) (.t 0) 1, none, false⟩, ⟨.ldi (.t 0) none, none, false⟩, ⟨.mv (.t 0), none, false⟩], [(15, 0)], [21], none⟩
abbrev r_cover_Covered_26 : Reg := ⟨[⟨.mv (.v 14), none, false⟩, ⟨.mv (.v 15), none, false⟩, ⟨.camd (.t 1) [(.t 0)], none, false⟩], [], [], none⟩
abbrev r_cover_Covered_27 : Reg := ⟨[⟨.bin .add (.v 17) (.c (.int (1))), none, false⟩, ⟨.mv (.t 0), none, false⟩], [(17, 0)], [], none⟩
abbrev b_cover_Covered_4 : IC := (.seq (.reg r_cover_Covered_20)
 (.seq (.cond 61 .skip (.exit 4))
 (.seq (.block 5 (.seq (.reg r_cover_Covered_21)
 (.seq (.seq (.reg r_cover_Covered_22)
 (.cond 71 (.seq (.reg r_cover_Covered_23)
 (.reg r_cover_Covered_24)) .skip))
 (.seq (.reg r_cover_Covered_25)
 (.reg r_cover_Covered_26)))))
 (.reg r_cover_Covered_27))))
abbrev r_cover_Covered_28 : Reg := ⟨[⟨.bin .add (.v 11) (.c (.int (1))), none, false⟩, ⟨.mv (.t 0), none, false⟩], [(11, 0)], [15, 17, 18, 19], none⟩
abbrev b_cover_Covered_2 : IC := (.seq (.reg r_cover_Covered_15)
 (.seq (.cond 50 .skip (.exit 2))
 (.seq (.block 3 (.seq (.reg r_cover_Covered_16)
 (.seq (.reg r_cover_Covered_17)
 (.seq (.reg r_cover_Covered_18)
 (.seq (.reg r_cover_Covered_19)
 (.block 4 (.loop b_cover_Covered_4)))))))
 (.reg r_cover_Covered_28))))
abbrev r_cover_Covered_29 : Reg := ⟨[⟨.ld (.v 10) none, none, false⟩, ⟨.mv (.v 22), none, false⟩, ⟨.mv (.t 1), none, false⟩, ⟨.mv (.t 1), none, false⟩, ⟨.mv (.c (.int (0))), none, false⟩], [(23, 2), (24, 1), (25, 0)], [2, 10, 11, 12, 13, 14, 20, 22], none⟩
abbrev ir_cover_Covered : Fn := { np := 2, nv := 26, res := [(23, none), (24, none), (25, none)], body :=
(.seq (.reg r_cover_Covered_0)
 (.seq (.seq (.reg r_cover_Covered_1)
 (.seq (.reg r_cover_Covered_2)
 (.cond 24 (.seq (.reg r_cover_Covered_3)
 .ret) .skip)))
 (.seq (.seq (.reg r_cover_Covered_4)
 (.block 0 (.loop b_cover_Covered_0)))
 (.seq (.reg r_cover_Covered_11)
 (.seq (.reg r_cover_Covered_12)
 (.seq (.reg r_cover_Covered_13)
 (.seq (.seq (.reg r_cover_Covered_14)
 (.block 2 (.loop b_cover_Covered_2)))
 (.seq (.reg r_cover_Covered_29)
 .ret)))))))) }
/- f17 ref10_Covered : 0:m 1:words 2:m 3:e 4:i 5:e 6:i 7:k 8:visited 9:at 10:taken 11:a 12:n 13:_ 14:_ 15:_ -/
abbrev r_ref10_Covered_0 : Reg := ⟨[⟨.bxi (.v 0), none, false⟩, ⟨.mv (.c (.int (0))), none, false⟩, ⟨.mv (.c (.int (0))), none, false⟩, ⟨.mv (.c (.int (0))), none, false⟩], [(2, 3)], [0, 13, 14, 15], none⟩
abbrev r_ref10_Covered_1 : Reg := ⟨[⟨.ldi (.v 2) (some 4), none, false⟩, ⟨.cal F_ref06_Valid [(.t 0)], none, false⟩, ⟨.mv (.t 0), none, false⟩], [(3, 0)], [], none⟩
abbrev r_ref10_Covered_2 : Reg := ⟨[⟨.mv (.v 3), none, false⟩, ⟨.bin .neq (.t 0) (.c (.int (0))), none, false⟩], [], [], some (20, 0)⟩
abbrev r_ref10_Covered_3 : Reg := ⟨[⟨.mv (.v 3), none, false⟩, ⟨.mv (.c (.int (0))), none, false⟩, ⟨.mv (.c (.int (0))), none, false⟩, ⟨.mv (.t 2), none, false⟩], [(13, 2), (14, 1), (15, 0)], [1, 2, 3], none⟩
abbrev r_ref10_Covered_4 : Reg := ⟨[⟨.mv (.c (.int (0))), none, false⟩], [(4, 0)], [3], none⟩
abbrev r_ref10_Covered_5 : Reg := ⟨[⟨.mv (.v 4), none, false⟩, ⟨.mv (.v 1), none, false⟩, ⟨.len (.t 0), none, false⟩, ⟨.bin .lss (.t 2) (.t 0), none, false⟩], [], [], some (25, 0)⟩
abbrev r_ref10_Covered_7 : Reg := ⟨[⟨.mv (.v 1), none, false⟩, ⟨.mv (.v 4), none, false⟩, ⟨.iad (.t 1) (.t 0) 1, none, false⟩, ⟨.ld (.t 0) none, none, false⟩, ⟨.fad (.v 2) 0 none, none, false⟩, ⟨.ldi (.t 0) none, none, false⟩, ⟨.cal F_ref01_Check [(.t 2), (.t 0)], none, false⟩, ⟨.mv (.t 0), none, false⟩], [(5, 0)], [], none⟩
abbrev r_ref10_Covered_8 : Reg := ⟨[⟨.mv (.v 5), none, false⟩, ⟨.bin .neq (.t 0) (.c (.int (0))), none, false⟩], [], [], some (36, 0)⟩
abbrev r_ref10_Covered_9 : Reg := ⟨[⟨.mv (.v 5), none, false⟩, ⟨.mv (.c (.int (0))), none, false⟩, ⟨.mv (.c (.int (0))), none, false⟩, ⟨.mv (.t 2), none, false⟩], [(13, 2), (14, 1), (15, 0)], [1, 2, 4, 5], none⟩
abbrev r_ref10_Covered_6 : Reg := ⟨[⟨.mv (.v 4), none, false⟩, ⟨.bin .add (.t 0) (.c (.int (1))), none, false⟩, ⟨.mv (.t 0), none, false⟩], [(4, 0)], [5], none⟩
abbrev b_ref10_Covered_0 : IC := (.seq (.seq (.reg r_ref10_Covered_5)
 (.cond 25 .skip (.exit 0)))
 (.seq (.block 1 (.seq (.reg r_ref10_Covered_7)
 (.seq (.reg r_ref10_Covered_8)
 (.cond 36 (.seq (.reg r_ref10_Covered_9)
 .ret) .skip))))
 (.reg r_ref10_Covered_6)))
abbrev r_ref10_Covered_10 : Reg := ⟨[⟨.ldi (.v 2) (some 4), none, false⟩, ⟨.can F_ref10_none [(.t 0)], none, false⟩, ⟨.mv (.t 0), none, false⟩], [(10, 0)], [4], none⟩
abbrev r_ref10_Covered_11 : Reg := ⟨[⟨.nl none, none, false⟩], [(8, 0)], [], none⟩
abbrev r_ref10_Covered_12 : Reg := ⟨[⟨.mv (.c (.int (0))), none, false⟩], [(12, 0)], [], none⟩
abbrev r_ref10_Covered_13 : Reg := ⟨[⟨.mv (.c (.int (0))), none, false⟩], [(6, 0)], [], none⟩
abbrev r_ref10_Covered_14 : Reg := ⟨[⟨.mv (.v 6), none, false⟩, ⟨.mv (.v 1), none, false⟩, ⟨.len (.t 0), none, false⟩, ⟨.bin .lss (.t 2) (.t 0), none, false⟩], [], [], some (43, 0)⟩
abbrev r_ref10_Covered_16 : Reg := ⟨[⟨.fad (.v 2) 1 none, none, false⟩, ⟨.ldi (.t 0) none, none, false⟩, ⟨.mv (.t 0), none, false⟩], [(9, 0)], [], none⟩
abbrev r_ref10_Covered_17 : Reg := ⟨[⟨.mv (.c (.int (0))), none, false⟩], [(7, 0)], [], none⟩
abbrev r_ref10_Covered_18 : Reg := ⟨[⟨.mv (.v 7), none, false⟩, ⟨.mv (.v 1), none, false⟩, ⟨.mv (.v 6), none, false⟩, ⟨.iad (.t 1) (.t 0) 1, none, false⟩, ⟨.ld (.t 0) none, none, false⟩, ⟨.len (.t 0), none, false⟩, ⟨.bin .leq (.t 5) (.t 0), none, false⟩], [], [], some (54, 0)⟩
abbrev r_ref10_Covered_20 : Reg := ⟨[⟨.mv (.v 8), none, false⟩, ⟨.mv (.v 9), none, false⟩, ⟨.cab F_ref10_has [(.t 1), (.t 0)], none, false⟩, ⟨.not (.t 0), none, false⟩], [], [], some (60, 0)⟩
abbrev r_ref10_Covered_21 : Reg := ⟨[⟨.mv (.v 8), none, false⟩, ⟨.mv (.v 9), none, false⟩, ⟨.lita [(.t 0)] 1, none, false⟩, ⟨.appw (.t 2) (.t 0) none, none, false⟩, ⟨.mv (.t 0), none, false⟩], [(8, 0)], [], none⟩
abbrev r_ref10_Covered_22 : Reg := ⟨[⟨.mv (.v 7), none, false⟩, ⟨.mv (.v 1), none, false⟩, ⟨.mv (.v 6), none, false⟩, ⟨.iad (.t 1) (.t 0) 1, none, false⟩, ⟨.ld (.t 0) none, none, false⟩, ⟨.len (.t 0), none, false⟩, ⟨.bin .lss (.t 5) (.t 0), none, false⟩], [], [], some (71, 0)⟩
abbrev r_ref10_Covered_23 : Reg := ⟨[⟨.mv (.v 1), none, false⟩, ⟨.mv (.v 6), none, false⟩, ⟨.iad (.t 1) (.t 0) 1, none, false⟩, ⟨.ld (.t 0) none, none, false⟩, ⟨.mv (.v 7), none, false⟩, ⟨.iad (.t 1) (.t 0) 1, none, false⟩, ⟨.ld (.t 0) none, none, false⟩, ⟨.mv (.t 0), none, false⟩], [(11, 0)], [], none⟩
abbrev r_ref10_Covered_24 : Reg := ⟨[⟨.mv (.v 10), none, false⟩, ⟨.mv (.v 9), none, false⟩, ⟨.iad (.t 1) (.t 0) 1, none, false⟩, ⟨.ld (.t 0) none, none, false⟩, ⟨.mv (.v 11), none, false⟩, ⟨.iad (.t 1) (.t 0) 1, none, false⟩, ⟨.ld (.t 0) none, none, false⟩, ⟨.not (.t 0), none, false⟩], [], [], some (86, 0)⟩
abbrev r_ref10_Covered_25 : Reg := ⟨[⟨.mv (.v 10), none, false⟩, ⟨.mv (.v 9), none, false⟩, ⟨.iad (.t 1) (.t 0) 1, none, false⟩, ⟨.ld (.t 0) none, none, false⟩, ⟨.mv (.v 11), none, false⟩, ⟨.iad (.t 1) (.t 0) 1, none, false⟩, ⟨.st (.t 0) (.c (.bool true)) 1, none, false⟩], [], [], none⟩
abbrev r_ref10_Covered_26 : Reg := ⟨[⟨.mv (.v 12), none, false⟩, ⟨.bin .add (.t 0) (.c (.int (1))), none, false⟩, ⟨.mv (.t 0), none, false⟩], [(12, 0)], [], none⟩
abbrev r_ref10_Covered_27 : Reg := ⟨[⟨.fad (.v 2) 2 none, none, false⟩, ⟨.ldi (.t 0) none, none, false⟩, ⟨.mv (.v 9), none, false⟩, ⟨.iad (.t 1) (.t 0) 1, none, false⟩, ⟨.ldi (.t 0) none, none, false⟩, ⟨.mv (.v 11), none, false⟩, ⟨.iad (.t 1) (.t 0) 1, none, false⟩, ⟨.ldi (.t 0) none, none, false⟩, ⟨.mv (.t 0), none, false⟩], [(9, 0)], [11], none⟩
abbrev r_ref10_Covered_19 : Reg := ⟨[⟨.mv (.v 7), none, false⟩, ⟨.bin .add (.t 0) (.c (.int (1))), none, false⟩, ⟨.mv (.t 0), none, false⟩], [(7, 0)], [], none⟩
abbrev b_ref10_Covered_4 : IC := (.seq (.seq (.reg r_ref10_Covered_18)
 (.cond 54 .skip (.exit 4)))
 (.seq (.block 5 (.seq (.seq (.reg r_ref10_Covered_20)
 (.cond 60 (.reg r_ref10_Covered_21) .skip))
 (.seq (.reg r_ref10_Covered_22)
 (.cond 71 (.seq (.reg r_ref10_Covered_23)
 (.seq (.seq (.reg r_ref10_Covered_24)
 (.cond 86 (.seq (.reg r_ref10_Covered_25)
 (.reg r_ref10_Covered_26)) .skip))
 (.reg r_ref10_Covered_27))) .skip))))
 (.reg r_ref10_Covered_19)))
abbrev r_ref10_Covered_15 : Reg := ⟨[⟨.mv (.v 6), none, false⟩, ⟨.bin .add (.t 0) (.c (.int (1))), none, false⟩, ⟨.mv (.t 0), none, false⟩], [(6, 0)], [7, 9], none⟩
abbrev b_ref10_Covered_2 : IC := (.seq (.seq (.reg r_ref10_Covered_14)
 (.cond 43 .skip (.exit 2)))
 (.seq (.block 3 (.seq (.reg r_ref10_Covered_16)
 (.seq (.reg r_ref10_Covered_17)
 (.block 4 (.loop b_ref10_Covered_4)))))
 (.reg r_ref10_Covered_15)))
abbrev r_ref10_Covered_28 : Reg := ⟨[⟨.mv (.v 8), none, false⟩, ⟨.len (.t 0), none, false⟩, ⟨.mv (.v 12), none, false⟩, ⟨.mv (.t 1), none, false⟩, ⟨.mv (.t 1), none, false⟩, ⟨.mv (.c (.int (0))), none, false⟩], [(13, 2), (14, 1), (15, 0)], [1, 2, 6, 8, 10, 12], none⟩
abbrev ir_ref10_Covered : Fn := { np := 2, nv := 16, res := [(13, none), (14, none), (15, none)], body :=
(.seq (.reg r_ref10_Covered_0)
 (.seq (.seq (.reg r_ref10_Covered_1)
 (.seq (.reg r_ref10_Covered_2)
 (.cond 20 (.seq (.reg r_ref10_Covered_3)
 .ret) .skip)))
 (.seq (.seq (.reg r_ref10_Covered_4)
 (.block 0 (.loop b_ref10_Covered_0)))
 (.seq (.reg r_ref10_Covered_10)
 (.seq (.reg r_ref10_Covered_11)
 (.seq (.reg r_ref10_Covered_12)
 (.seq (.seq (.reg r_ref10_Covered_13)
 (.block 2 (.loop b_ref10_Covered_2)))
 (.seq (.reg r_ref10_Covered_28)
 .ret)))))))) }
/- f18 ref06_Valid : 0:m 1:m 2:s 3:e 4:_ -/
abbrev r_ref06_Valid_0 : Reg := ⟨[⟨.bxi (.v 0), none, false⟩, ⟨.mv (.c (.int (0))), none, false⟩], [(1, 1)], [0, 4], none⟩
abbrev r_ref06_Valid_1 : Reg := ⟨[⟨.fad (.v 1) 0 none, none, false⟩, ⟨.ldi (.t 0) none, none, false⟩, ⟨.bin .lss (.t 0) (.c (.int (1))), none, false⟩, ⟨.mv (.t 0), none, false⟩, ⟨.fad (.v 1) 0 none, some (.t 0, false), false⟩, ⟨.ldi (.t 0) none, some (.t 1, false), false⟩, ⟨.bin .gtr (.t 0) (.c (.int (64))), some (.t 2, false), false⟩, ⟨.pick (.t 3) (.c (.bool true)) (.t 0), none, false⟩], [], [], some (12, 0)⟩
abbrev r_ref06_Valid_2 : Reg := ⟨[⟨.mv (.c (.int (2))), none, false⟩], [(4, 0)], [1], none⟩
abbrev r_ref06_Valid_3 : Reg := ⟨[⟨.fad (.v 1) 2 none, none, false⟩, ⟨.ldi (.t 0) none, none, false⟩, ⟨.len (.t 0), none, false⟩, ⟨.bin .eql (.t 0) (.c (.int (0))), none, false⟩], [], [], some (16, 0)⟩
abbrev r_ref06_Valid_4 : Reg := ⟨[⟨.mv (.c (.int (19))), none, false⟩], [(4, 0)], [1], none⟩
abbrev r_ref06_Valid_5 : Reg := ⟨[⟨.fad (.v 1) 2 none, none, false⟩, ⟨.ldi (.t 0) none, none, false⟩, ⟨.len (.t 0), none, false⟩, ⟨.bin .gtr (.t 0) (.c (.int (128))), none, false⟩], [], [], some (20, 0)⟩
abbrev r_ref06_Valid_6 : Reg := ⟨[⟨.mv (.c (.int (11))), none, false⟩], [(4, 0)], [1], none⟩
abbrev r_ref06_Valid_7 : Reg := ⟨[⟨.fad (.v 1) 1 none, none, false⟩, ⟨.ldi (.t 0) none, none, false⟩, ⟨.bin .lss (.t 0) (.c (.int (0))), none, false⟩, ⟨.mv (.t 0), none, false⟩, ⟨.fad (.v 1) 1 none, some (.t 0, false), false⟩, ⟨.ldi (.t 0) none, some (.t 1, false), false⟩, ⟨.fad (.v 1) 2 none, some (.t 2, false), false⟩, ⟨.ldi (.t 0) none, some (.t 3, false), false⟩, ⟨.len (.t 0), some (.t 4, false), false⟩, ⟨.bin .geq (.t 3) (.t 0), some (.t 5, false), false⟩, ⟨.pick (.t 6) (.c (.bool true)) (.t 0), none, false⟩], [], [], some (31, 0)⟩
abbrev r_ref06_Valid_8 : Reg := ⟨[⟨.mv (.c (.int (2))), none, false⟩], [(4, 0)], [1], none⟩
abbrev r_ref06_Valid_9 : Reg := ⟨[⟨.fad (.v 1) 3 none, none, false⟩, ⟨.ldi (.t 0) none, none, false⟩, ⟨.len (.t 0), none, false⟩, ⟨.fad (.v 1) 2 none, none, false⟩, ⟨.ldi (.t 0) none, none, false⟩, ⟨.len (.t 0), none, false⟩, ⟨.bin .neq (.t 3) (.t 0), none, false⟩], [], [], some (38, 0)⟩
abbrev r_ref06_Valid_10 : Reg := ⟨[⟨.mv (.c (.int (1))), none, false⟩], [(4, 0)], [1], none⟩
abbrev r_ref06_Valid_11 : Reg := ⟨[⟨.mv (.c (.int (0))), none, false⟩], [(2, 0)], [], none⟩
abbrev r_ref06_Valid_12 : Reg := ⟨[⟨.mv (.v 2), none, false⟩, ⟨.fad (.v 1) 2 none, none, false⟩, ⟨.ldi (.t 0) none, none, false⟩, ⟨.len (.t 0), none, false⟩, ⟨.bin .lss (.t 3) (.t 0), none, false⟩], [], [], some (43, 0)⟩
abbrev r_ref06_Valid_14 : Reg := ⟨[⟨.ldi (.v 1) (some 4), none, false⟩, ⟨.mv (.v 2), none, false⟩, ⟨.cal F_ref06_row [(.t 1), (.t 0)], none, false⟩, ⟨.mv (.t 0), none, false⟩], [(3, 0)], [], none⟩
abbrev r_ref06_Valid_15 : Reg := ⟨[⟨.mv (.v 3), none, false⟩, ⟨.bin .neq (.t 0) (.c (.int (0))), none, false⟩], [], [], some (50, 0)⟩
abbrev r_ref06_Valid_16 : Reg := ⟨[⟨.mv (.v 3), none, false⟩, ⟨.mv (.t 0), none, false⟩], [(4, 0)], [1, 2, 3], none⟩
abbrev r_ref06_Valid_13 : Reg := ⟨[⟨.mv (.v 2), none, false⟩, ⟨.bin .add (.t 0) (.c (.int (1))), none, false⟩, ⟨.mv (.t 0), none, false⟩], [(2, 0)], [3], none⟩
abbrev b_ref06_Valid_0 : IC := (.seq (.seq (.reg r_ref06_Valid_12)
 (.cond 43 .skip (.exit 0)))
 (.seq (.block 1 (.seq (.reg r_ref06_Valid_14)
 (.seq (.reg r_ref06_Valid_15)
 (.cond 50 (.seq (.reg r_ref06_Valid_16)
 .ret) .skip))))
 (.reg r_ref06_Valid_13)))
abbrev r_ref06_Valid_17 : Reg := ⟨[⟨.mv (.c (.int (0))), none, false⟩], [(4, 0)], [1, 2], none⟩
abbrev ir_ref06_Valid : Fn := { np := 1, nv := 5, res := [(4, none)], body :=
(.seq (.reg r_ref06_Valid_0)
 (.seq (.seq (.reg r_ref06_Valid_1)
 (.cond 12 (.seq (.reg r_ref06_Valid_2)
 .ret) .skip))
 (.seq (.seq (.reg r_ref06_Valid_3)
 (.cond 16 (.seq (.reg r_ref06_Valid_4)
 .ret) .skip))
 (.seq (.seq (.reg r_ref06_Valid_5)
 (.cond 20 (.seq (.reg r_ref06_Valid_6)
 .ret) .skip))
 (.seq (.seq (.reg r_ref06_Valid_7)
 (.cond 31 (.seq (.reg r_ref06_Valid_8)
 .ret) .skip))
 (.seq (.seq (.reg r_ref06_Valid_9)
 (.cond 38 (.seq (.reg r_ref06_Valid_10)
 .ret) .skip))
 (.seq (.seq (.reg r_ref06_Valid_11)
 (.block 0 (.loop b_ref06_Valid_0)))
 (.seq (.reg r_ref06_Valid_17)
 .ret)))))))) }
/- f19 cover_Access : 0:m 1:m 2:e 3:_ 4:_ 5:_ 6:states 7:p 8:words 9:_ 10:_ 11:_ -/
abbrev r_cover_Access_0 : Reg := ⟨[⟨.bxi (.v 0), none, false⟩, ⟨.mv (.c (.snil)), none, false⟩, ⟨.mv (.c (.snil)), none, false⟩, ⟨.mv (.c (.int (0))), none, false⟩], [(1, 3)], [0, 9, 10, 11], none⟩
abbrev r_cover_Access_1 : Reg := ⟨[⟨.ldi (.v 1) (some 4), none, false⟩, ⟨.cal F_mealy_Valid [(.t 0)], none, false⟩, ⟨.mv (.t 0), none, false⟩], [(2, 0)], [], none⟩
abbrev r_cover_Access_2 : Reg := ⟨[⟨.mv (.v 2), none, false⟩, ⟨.bin .neq (.t 0) (.c (.int (0))), none, false⟩], [], [], some (13, 0)⟩
abbrev r_cover_Access_3 : Reg := ⟨[⟨.mv (.v 2), none, false⟩, ⟨.mv (.c (.snil)), none, false⟩, ⟨.mv (.c (.snil)), none, false⟩, ⟨.mv (.t 2), none, false⟩], [(9, 2), (10, 1), (11, 0)], [1, 2], none⟩
abbrev r_cover_Access_4 : Reg := ⟨[⟨.nl none, none, false⟩], [(6, 0)], [2], none⟩
abbrev r_cover_Access_5 : Reg := ⟨[⟨.nl none, none, false⟩], [(8, 0)], [], none⟩
abbrev r_cover_Access_6 : Reg := ⟨[⟨.ldi (.v 1) (some 4), none, false⟩, ⟨.fad (.v 1) 1 none, none, false⟩, ⟨.ldi (.t 0) none, none, false⟩, ⟨.cal F_cover_places [(.t 2), (.t 0)], none, false⟩, ⟨.len (.t 0), none, false⟩, ⟨.mv (.c (.int (0))), none, false⟩], [(5, 2), (4, 1), (3, 0)], [1], none⟩
abbrev r_cover_Access_7 : Reg := ⟨[⟨.bin .lss (.v 3) (.v 4), none, false⟩], [], [], some (21, 0)⟩
abbrev r_cover_Access_8 : Reg := ⟨[⟨.iad (.v 5) (.v 3) 2, none, false⟩, ⟨.ld (.t 0) (some 2), none, false⟩, ⟨.alc0 2, none, false⟩, ⟨.ini (.t 0) (.t 1) 2, none, false⟩], [(7, 0)], [], none⟩
abbrev r_cover_Access_9 : Reg := ⟨[⟨.mv (.v 6), none, false⟩, ⟨.fad (.v 7) 0 none, none, false⟩, ⟨.ldi (.t 0) none, none, false⟩, ⟨.lita [(.t 0)] 1, none, false⟩, ⟨.appw (.t 3) (.t 0) none, none, false⟩, ⟨.mv (.t 0), none, false⟩], [(6, 0)], [], none⟩
abbrev r_cover_Access_10 : Reg := ⟨[⟨.mv (.v 8), none, false⟩, ⟨.fad (.v 7) 1 none, none, false⟩, ⟨.ldi (.t 0) none, none, false⟩, ⟨.lita [(.t 0)] 1, none, false⟩, ⟨.appw (.t 3) (.t 0) none, none, false⟩, ⟨.mv (.t 0), none, false⟩], [(8, 0)], [7], none⟩
abbrev r_cover_Access_11 : Reg := ⟨[⟨.bin .add (.v 3) (.c (.int (1))), none, false⟩, ⟨.mv (.t 0), none, false⟩], [(3, 0)], [], none⟩
abbrev b_cover_Access_0 : IC := (.seq (.reg r_cover_Access_7)
 (.seq (.cond 21 .skip (.exit 0))
 (.seq (.block 1 (.seq (.reg r_cover_Access_8)
 (.seq (.reg r_cover_Access_9)
 (.reg r_cover_Access_10))))
 (.reg r_cover_Access_11))))
abbrev r_cover_Access_12 : Reg := ⟨[⟨.mv (.v 6), none, false⟩, ⟨.mv (.v 8), none, false⟩, ⟨.mv (.t 1), none, false⟩, ⟨.mv (.t 1), none, false⟩, ⟨.mv (.c (.int (0))), none, false⟩], [(9, 2), (10, 1), (11, 0)], [3, 4, 5, 6, 8], none⟩
abbrev ir_cover_Access : Fn := { np := 1, nv := 12, res := [(9, none), (10, none), (11, none)], body :=
(.seq (.reg r_cover_Access_0)
 (.seq (.seq (.reg r_cover_Access_1)
 (.seq (.reg r_cover_Access_2)
 (.cond 13 (.seq (.reg r_cover_Access_3)
 .ret) .skip)))
 (.seq (.reg r_cover_Access_4)
 (.seq (.reg r_cover_Access_5)
 (.seq (.seq (.reg r_cover_Access_6)
 (.block 0 (.loop b_cover_Access_0)))
 (.seq (.reg r_cover_Access_12)
 .ret)))))) }
/- f20 cover_Transitions : 0:m 1:m 2:e 3:words 4:_ 5:_ 6:_ 7:_ 8:_ 9:out 10:w 11:a 12:_ 13:_ -/
abbrev r_cover_Transitions_0 : Reg := ⟨[⟨.bxi (.v 0), none, false⟩, ⟨.mv (.c (.snil)), none, false⟩, ⟨.mv (.c (.int (0))), none, false⟩], [(1, 2)], [0, 12, 13], none⟩
abbrev r_cover_Transitions_1 : Reg := ⟨[⟨.ldi (.v 1) (some 4), none, false⟩, ⟨.cal F_cover_Access [(.t 0)], none, false⟩, ⟨.mv (.t 0), none, false⟩, ⟨.ext (.t 0) 0, none, false⟩, ⟨.ext (.t 1) 1, none, false⟩, ⟨.ext (.t 2) 2, none, false⟩, ⟨.mv (.t 2), none, false⟩, ⟨.mv (.t 2), none, false⟩, ⟨.mv (.t 2), none, false⟩], [(3, 1), (2, 0)], [], none⟩
abbrev r_cover_Transitions_2 : Reg := ⟨[⟨.mv (.v 2), none, false⟩, ⟨.bin .neq (.t 0) (.c (.int (0))), none, false⟩], [], [], some (18, 0)⟩
abbrev r_cover_Transitions_3 : Reg := ⟨[⟨.mv (.v 2), none, false⟩, ⟨.mv (.c (.snil)), none, false⟩, ⟨.mv (.t 1), none, false⟩], [(12, 1), (13, 0)], [1, 2, 3], none⟩
abbrev r_cover_Transitions_4 : Reg := ⟨[⟨.nl none, none, false⟩], [(9, 0)], [2], none⟩
abbrev r_cover_Transitions_5 : Reg := ⟨[⟨.mv (.v 3), none, false⟩, ⟨.len (.t 0), none, false⟩, ⟨.mv (.c (.int (0))), none, false⟩], [(6, 2), (5, 1), (4, 0)], [3], none⟩
abbrev r_cover_Transitions_6 : Reg := ⟨[⟨.bin .lss (.v 4) (.v 5), none, false⟩], [], [], some (23, 0)⟩
abbrev r_cover_Transitions_7 : Reg := ⟨[⟨.iad (.v 6) (.v 4) 1, none, false⟩, ⟨.ld (.t 0) none, none, false⟩, ⟨.mv (.t 0), none, false⟩], [(10, 0)], [], none⟩
abbrev r_cover_Transitions_8 : Reg := ⟨[⟨.fad (.v 1) 0 none, none, false⟩, ⟨.ldi (.t 0) none, none, false⟩, ⟨.mv (.c (.int (0))), none, false⟩], [(8, 1), (7, 0)], [], none⟩
abbrev r_cover_Transitions_9 : Reg := ⟨[⟨.bin .lss (.v 7) (.v 8), none, false⟩], [], [], some (29, 0)⟩
abbrev r_cover_Transitions_10 : Reg := ⟨[⟨.mv (.v 7), none, false⟩, ⟨.mv (.t 0), none, false⟩], [(11, 0)], [], none⟩
abbrev r_cover_Transitions_11 : Reg := ⟨[⟨.mv (.v 9), none, false⟩, ⟨.mv (.v 10), none, false⟩, ⟨.mv (.v 11), none, false⟩, ⟨.liti [(.t 0)] 1, none, false⟩, ⟨.liti [(.t 2), (.t 0)] 1, none, false⟩, ⟨.cal F_word_Join [(.t 0)], none, false⟩, ⟨.lita [(.t 0)] 1, none, false⟩, ⟨.appw (.t 6) (.t 0) none, none, false⟩, ⟨.mv (.t 0), none, false⟩], [(9, 0)], [11], none⟩
abbrev r_cover_Transitions_12 : Reg := ⟨[⟨.bin .add (.v 7) (.c (.int (1))), none, false⟩, ⟨.mv (.t 0), none, false⟩], [(7, 0)], [], none⟩
abbrev b_cover_Transitions_2 : IC := (.seq (.reg r_cover_Transitions_9)
 (.seq (.cond 29 .skip (.exit 2))
 (.seq (.block 3 (.seq (.reg r_cover_Transitions_10)
 (.reg r_cover_Transitions_11)))
 (.reg r_cover_Transitions_12))))
abbrev r_cover_Transitions_13 : Reg := ⟨[⟨.bin .add (.v 4) (.c (.int (1))), none, false⟩, ⟨.mv (.t 0), none, false⟩], [(4, 0)], [7, 8, 10], none⟩
abbrev b_cover_Transitions_0 : IC := (.seq (.reg r_cover_Transitions_6)
 (.seq (.cond 23 .skip (.exit 0))
 (.seq (.block 1 (.seq (.reg r_cover_Transitions_7)
 (.seq (.reg r_cover_Transitions_8)
 (.block 2 (.loop b_cover_Transitions_2)))))
 (.reg r_cover_Transitions_13))))
abbrev r_cover_Transitions_14 : Reg := ⟨[⟨.mv (.v 9), none, false⟩, ⟨.cal F_wordset_Sorted [(.t 0)], none, false⟩, ⟨.mv (.t 0), none, false⟩, ⟨.mv (.c (.int (0))), none, false⟩], [(12, 1), (13, 0)], [1, 4, 5, 6, 9], none⟩
abbrev ir_cover_Transitions : Fn := { np := 1, nv := 14, res := [(12, none), (13, none)], body :=
(.seq (.reg r_cover_Transitions_0)
 (.seq (.reg r_cover_Transitions_1)
 (.seq (.seq (.reg r_cover_Transitions_2)
 (.cond 18 (.seq (.reg r_cover_Transitions_3)
 .ret) .skip))
 (.seq (.reg r_cover_Transitions_4)
 (.seq (.seq (.reg r_cover_Transitions_5)
 (.seq (.block 0 (.loop b_cover_Transitions_0)) (.frz 9)))
 (.seq (.reg r_cover_Transitions_14)
 .ret)))))) }
/- f21 ref10_Access : 0:m 1:m 2:e 3:i 4:states 5:a 6:t 7:words 8:_ 9:_ 10:_ -/
abbrev r_ref10_Access_0 : Reg := ⟨[⟨.bxi (.v 0), none, false⟩, ⟨.mv (.c (.snil)), none, false⟩, ⟨.mv (.c (.snil)), none, false⟩, ⟨.mv (.c (.int (0))), none, false⟩], [(1, 3)], [0, 8, 9, 10], none⟩
abbrev r_ref10_Access_1 : Reg := ⟨[⟨.ldi (.v 1) (some 4), none, false⟩, ⟨.cal F_ref06_Valid [(.t 0)], none, false⟩, ⟨.mv (.t 0), none, false⟩], [(2, 0)], [], none⟩
abbrev r_ref10_Access_2 : Reg := ⟨[⟨.mv (.v 2), none, false⟩, ⟨.bin .neq (.t 0) (.c (.int (0))), none, false⟩], [], [], some (14, 0)⟩
abbrev r_ref10_Access_3 : Reg := ⟨[⟨.mv (.v 2), none, false⟩, ⟨.mv (.c (.snil)), none, false⟩, ⟨.mv (.c (.snil)), none, false⟩, ⟨.mv (.t 2), none, false⟩], [(8, 2), (9, 1), (10, 0)], [1, 2], none⟩
abbrev r_ref10_Access_4 : Reg := ⟨[⟨.fad (.v 1) 1 none, none, false⟩, ⟨.ldi (.t 0) none, none, false⟩, ⟨.litm [(.t 0)] none, none, false⟩, ⟨.mv (.t 0), none, false⟩], [(4, 0)], [2], none⟩
abbrev r_ref10_Access_5 : Reg := ⟨[⟨.liti [] 1, none, false⟩, ⟨.litm [(.t 0)] none, none, false⟩, ⟨.mv (.t 0), none, false⟩], [(7, 0)], [], none⟩
abbrev r_ref10_Access_6 : Reg := ⟨[⟨.mv (.c (.int (0))), none, false⟩], [(3, 0)], [], none⟩
abbrev r_ref10_Access_7 : Reg := ⟨[⟨.mv (.v 3), none, false⟩, ⟨.mv (.v 4), none, false⟩, ⟨.len (.t 0), none, false⟩, ⟨.bin .lss (.t 2) (.t 0), none, false⟩], [], [], some (24, 0)⟩
abbrev r_ref10_Access_9 : Reg := ⟨[⟨.mv (.c (.int (0))), none, false⟩], [(5, 0)], [], none⟩
abbrev r_ref10_Access_10 : Reg := ⟨[⟨.mv (.v 5), none, false⟩, ⟨.fad (.v 1) 0 none, none, false⟩, ⟨.ldi (.t 0) none, none, false⟩, ⟨.bin .lss (.t 2) (.t 0), none, false⟩], [], [], some (30, 0)⟩
abbrev r_ref10_Access_12 : Reg := ⟨[⟨.fad (.v 1) 2 none, none, false⟩, ⟨.ldi (.t 0) none, none, false⟩, ⟨.mv (.v 4), none, false⟩, ⟨.mv (.v 3), none, false⟩, ⟨.iad (.t 1) (.t 0) 1, none, false⟩, ⟨.ld (.t 0) none, none, false⟩, ⟨.iad (.t 4) (.t 0) 1, none, false⟩, ⟨.ldi (.t 0) none, none, false⟩, ⟨.mv (.v 5), none, false⟩, ⟨.iad (.t 1) (.t 0) 1, none, false⟩, ⟨.ldi (.t 0) none, none, false⟩, ⟨.mv (.t 0), none, false⟩], [(6, 0)], [], none⟩
abbrev r_ref10_Access_13 : Reg := ⟨[⟨.mv (.v 4), none, false⟩, ⟨.mv (.v 6), none, false⟩, ⟨.cab F_ref10_has [(.t 1), (.t 0)], none, false⟩, ⟨.not (.t 0), none, false⟩], [], [], some (47, 0)⟩
abbrev r_ref10_Access_14 : Reg := ⟨[⟨.mv (.v 4), none, false⟩, ⟨.mv (.v 6), none, false⟩, ⟨.lita [(.t 0)] 1, none, false⟩, ⟨.appw (.t 2) (.t 0) none, none, false⟩, ⟨.mv (.t 0), none, false⟩], [(4, 0)], [6], none⟩
abbrev r_ref10_Access_15 : Reg := ⟨[⟨.mv (.v 7), none, false⟩, ⟨.mv (.v 7), none, false⟩, ⟨.mv (.v 3), none, false⟩, ⟨.iad (.t 1) (.t 0) 1, none, false⟩, ⟨.ld (.t 0) none, none, false⟩, ⟨.mv (.v 5), none, false⟩, ⟨.cal F_ref09_Extended [(.t 1), (.t 0)], none, false⟩, ⟨.lita [(.t 0)] 1, none, false⟩, ⟨.appw (.t 7) (.t 0) none, none, false⟩, ⟨.mv (.t 0), none, false⟩], [(7, 0)], [], none⟩
abbrev r_ref10_Access_11 : Reg := ⟨[⟨.mv (.v 5), none, false⟩, ⟨.bin .add (.t 0) (.c (.int (1))), none, false⟩, ⟨.mv (.t 0), none, false⟩], [(5, 0)], [6], none⟩
abbrev b_ref10_Access_2 : IC := (.seq (.seq (.reg r_ref10_Access_10)
 (.cond 30 .skip (.exit 2)))
 (.seq (.block 3 (.seq (.reg r_ref10_Access_12)
 (.seq (.reg r_ref10_Access_13)
 (.cond 47 (.seq (.reg r_ref10_Access_14)
 (.reg r_ref10_Access_15)) .skip))))
 (.reg r_ref10_Access_11)))
abbrev r_ref10_Access_8 : Reg := ⟨[⟨.mv (.v 3), none, false⟩, ⟨.bin .add (.t 0) (.c (.int (1))), none, false⟩, ⟨.mv (.t 0), none, false⟩], [(3, 0)], [5], none⟩
abbrev b_ref10_Access_0 : IC := (.seq (.seq (.reg r_ref10_Access_7)
 (.cond 24 .skip (.exit 0)))
 (.seq (.block 1 (.seq (.reg r_ref10_Access_9)
 (.block 2 (.loop b_ref10_Access_2))))
 (.reg r_ref10_Access_8)))
abbrev r_ref10_Access_16 : Reg := ⟨[⟨.mv (.v 4), none, false⟩, ⟨.mv (.v 7), none, false⟩, ⟨.mv (.t 1), none, false⟩, ⟨.mv (.t 1), none, false⟩, ⟨.mv (.c (.int (0))), none, false⟩], [(8, 2), (9, 1), (10, 0)], [1, 3, 4, 7], none⟩
abbrev ir_ref10_Access : Fn := { np := 1, nv := 11, res := [(8, none), (9, none), (10, none)], body :=
(.seq (.reg r_ref10_Access_0)
 (.seq (.seq (.reg r_ref10_Access_1)
 (.seq (.reg r_ref10_Access_2)
 (.cond 14 (.seq (.reg r_ref10_Access_3)
 .ret) .skip)))
 (.seq (.reg r_ref10_Access_4)
 (.seq (.reg r_ref10_Access_5)
 (.seq (.seq (.reg r_ref10_Access_6)
 (.block 0 (.loop b_ref10_Access_0)))
 (.seq (.reg r_ref10_Access_16)
 .ret)))))) }
/- f22 cover_StateCover : 0:m 1:m 2:words 3:e 4:_ 5:_ -/
abbrev r_cover_StateCover_0 : Reg := ⟨[⟨.bxi (.v 0), none, false⟩, ⟨.mv (.c (.snil)), none, false⟩, ⟨.mv (.c (.int (0))), none, false⟩], [(1, 2)], [0, 4, 5], none⟩
abbrev r_cover_StateCover_1 : Reg := ⟨[⟨.ldi (.v 1) (some 4), none, false⟩, ⟨.cal F_cover_Access [(.t 0)], none, false⟩, ⟨.mv (.t 0), none, false⟩, ⟨.ext (.t 0) 0, none, false⟩, ⟨.ext (.t 1) 1, none, false⟩, ⟨.ext (.t 2) 2, none, false⟩, ⟨.mv (.t 2), none, false⟩, ⟨.mv (.t 2), none, false⟩, ⟨.mv (.t 2), none, false⟩], [(2, 1), (3, 0)], [1], none⟩
abbrev r_cover_StateCover_2 : Reg := ⟨[⟨.mv (.v 2), none, false⟩, ⟨.mv (.v 3), none, false⟩, ⟨.mv (.t 1), none, false⟩, ⟨.mv (.t 1), none, false⟩], [(4, 1), (5, 0)], [2, 3], none⟩
abbrev ir_cover_StateCover : Fn := { np := 1, nv := 6, res := [(4, none), (5, none)], body :=
(.seq (.reg r_cover_StateCover_0)
 (.seq (.reg r_cover_StateCover_1)
 (.seq (.reg r_cover_StateCover_2)
 .ret))) }
/- f23 ref10_StateCover : 0:m 1:m 2:words 3:e 4:_ 5:_ -/
abbrev r_ref10_StateCover_0 : Reg := ⟨[⟨.bxi (.v 0), none, false⟩, ⟨.mv (.c (.snil)), none, false⟩, ⟨.mv (.c (.int (0))), none, false⟩], [(1, 2)], [0, 4, 5], none⟩
abbrev r_ref10_StateCover_1 : Reg := ⟨[⟨.ldi (.v 1) (some 4), none, false⟩, ⟨.cal F_ref10_Access [(.t 0)], none, false⟩, ⟨.mv (.t 0), none, false⟩, ⟨.ext (.t 0) 0, none, false⟩, ⟨.ext (.t 1) 1, none, false⟩, ⟨.ext (.t 2) 2, none, false⟩, ⟨.mv (.t 2), none, false⟩, ⟨.mv (.t 2), none, false⟩, ⟨.mv (.t 2), none, false⟩], [(2, 1), (3, 0)], [1], none⟩
abbrev r_ref10_StateCover_2 : Reg := ⟨[⟨.mv (.v 2), none, false⟩, ⟨.mv (.v 3), none, false⟩, ⟨.mv (.t 1), none, false⟩, ⟨.mv (.t 1), none, false⟩], [(4, 1), (5, 0)], [2, 3], none⟩
abbrev ir_ref10_StateCover : Fn := { np := 1, nv := 6, res := [(4, none), (5, none)], body :=
(.seq (.reg r_ref10_StateCover_0)
 (.seq (.reg r_ref10_StateCover_1)
 (.seq (.reg r_ref10_StateCover_2)
 .ret))) }
/- f24 ref10_Transitions : 0:m 1:m 2:e 3:i 4:words 5:a 6:out 7:_ 8:_ -/
abbrev r_ref10_Transitions_0 : Reg := ⟨[⟨.bxi (.v 0), none, false⟩, ⟨.mv (.c (.snil)), none, false⟩, ⟨.mv (.c (.int (0))), none, false⟩], [(1, 2)], [0, 7, 8], none⟩
abbrev r_ref10_Transitions_1 : Reg := ⟨[⟨.ldi (.v 1) (some 4), none, false⟩, ⟨.cal F_ref10_Access [(.t 0)], none, false⟩, ⟨.mv (.t 0), none, false⟩, ⟨.ext (.t 0) 0, none, false⟩, ⟨.ext (.t 1) 1, none, false⟩, ⟨.ext (.t 2) 2, none, false⟩, ⟨.mv (.t 2), none, false⟩, ⟨.mv (.t 2), none, false⟩, ⟨.mv (.t 2), none, false⟩], [(4, 1), (2, 0)], [], none⟩
abbrev r_ref10_Transitions_2 : Reg := ⟨[⟨.mv (.v 2), none, false⟩, ⟨.bin .neq (.t 0) (.c (.int (0))), none, false⟩], [], [], some (17, 0)⟩
abbrev r_ref10_Transitions_3 : Reg := ⟨[⟨.mv (.v 2), none, false⟩, ⟨.mv (.c (.snil)), none, false⟩, ⟨.mv (.t 1), none, false⟩], [(7, 1), (8, 0)], [1, 2, 4], none⟩
abbrev r_ref10_Transitions_4 : Reg := ⟨[⟨.nl none, none, false⟩], [(6, 0)], [2], none⟩
abbrev r_ref10_Transitions_5 : Reg := ⟨[⟨.mv (.c (.int (0))), none, false⟩], [(3, 0)], [], none⟩
abbrev r_ref10_Transitions_6 : Reg := ⟨[⟨.mv (.v 3), none, false⟩, ⟨.mv (.v 4), none, false⟩, ⟨.len (.t 0), none, false⟩, ⟨.bin .lss (.t 2) (.t 0), none, false⟩], [], [], some (22, 0)⟩
abbrev r_ref10_Transitions_8 : Reg := ⟨[⟨.mv (.c (.int (0))), none, false⟩], [(5, 0)], [], none⟩
abbrev r_ref10_Transitions_9 : Reg := ⟨[⟨.mv (.v 5), none, false⟩, ⟨.fad (.v 1) 0 none, none, false⟩, ⟨.ldi (.t 0) none, none, false⟩, ⟨.bin .lss (.t 2) (.t 0), none, false⟩], [], [], some (28, 0)⟩
abbrev r_ref10_Transitions_11 : Reg := ⟨[⟨.mv (.v 6), none, false⟩, ⟨.mv (.v 4), none, false⟩, ⟨.mv (.v 3), none, false⟩, ⟨.iad (.t 1) (.t 0) 1, none, false⟩, ⟨.ld (.t 0) none, none, false⟩, ⟨.mv (.v 5), none, false⟩, ⟨.cal F_ref09_Extended [(.t 1), (.t 0)], none, false⟩, ⟨.lita [(.t 0)] 1, none, false⟩, ⟨.appw (.t 7) (.t 0) none, none, false⟩, ⟨.mv (.t 0), none, false⟩], [(6, 0)], [], none⟩
abbrev r_ref10_Transitions_10 : Reg := ⟨[⟨.mv (.v 5), none, false⟩, ⟨.bin .add (.t 0) (.c (.int (1))), none, false⟩, ⟨.mv (.t 0), none, false⟩], [(5, 0)], [], none⟩
abbrev b_ref10_Transitions_2 : IC := (.seq (.seq (.reg r_ref10_Transitions_9)
 (.cond 28 .skip (.exit 2)))
 (.seq (.block 3 (.reg r_ref10_Transitions_11))
 (.reg r_ref10_Transitions_10)))
abbrev r_ref10_Transitions_7 : Reg := ⟨[⟨.mv (.v 3), none, false⟩, ⟨.bin .add (.t 0) (.c (.int (1))), none, false⟩, ⟨.mv (.t 0), none, false⟩], [(3, 0)], [5], none⟩
abbrev b_ref10_Transitions_0 : IC := (.seq (.seq (.reg r_ref10_Transitions_6)
 (.cond 22 .skip (.exit 0)))
 (.seq (.block 1 (.seq (.reg r_ref10_Transitions_8)
 (.block 2 (.loop b_ref10_Transitions_2))))
 (.reg r_ref10_Transitions_7)))
abbrev r_ref10_Transitions_12 : Reg := ⟨[⟨.mv (.v 6), none, false⟩, ⟨.mv (.t 0), none, false⟩, ⟨.mv (.c (.int (0))), none, false⟩], [(7, 1), (8, 0)], [1, 3, 4, 6], none⟩
abbrev ir_ref10_Transitions : Fn := { np := 1, nv := 9, res := [(7, none), (8, none)], body :=
(.seq (.reg r_ref10_Transitions_0)
 (.seq (.reg r_ref10_Transitions_1)
 (.seq (.seq (.reg r_ref10_Transitions_2)
 (.cond 17 (.seq (.reg r_ref10_Transitions_3)
 .ret) .skip))
 (.seq (.reg r_ref10_Transitions_4)
 (.seq (.seq (.reg r_ref10_Transitions_5)
 (.block 0 (.loop b_ref10_Transitions_0)))
 (.seq (.reg r_ref10_Transitions_12)
 .ret)))))) }
/- f25 ref10_Same : 0:a 1:b 2:i 3:k 4:_ -/
abbrev r_ref10_Same_0 : Reg := ⟨[⟨.mv (.c (.bool false)), none, false⟩], [], [4], none⟩
abbrev r_ref10_Same_1 : Reg := ⟨[⟨.mv (.v 0), none, false⟩, ⟨.len (.t 0), none, false⟩, ⟨.mv (.v 1), none, false⟩, ⟨.len (.t 0), none, false⟩, ⟨.bin .neq (.t 2) (.t 0), none, false⟩], [], [], some (11, 0)⟩
abbrev r_ref10_Same_2 : Reg := ⟨[⟨.mv (.c (.bool false)), none, false⟩], [(4, 0)], [0, 1], none⟩
abbrev r_ref10_Same_3 : Reg := ⟨[⟨.mv (.c (.int (0))), none, false⟩], [(2, 0)], [], none⟩
abbrev r_ref10_Same_4 : Reg := ⟨[⟨.mv (.v 2), none, false⟩, ⟨.mv (.v 0), none, false⟩, ⟨.len (.t 0), none, false⟩, ⟨.bin .lss (.t 2) (.t 0), none, false⟩], [], [], some (15, 0)⟩
abbrev r_ref10_Same_6 : Reg := ⟨[⟨.mv (.v 0), none, false⟩, ⟨.mv (.v 2), none, false⟩, ⟨.iad (.t 1) (.t 0) 1, none, false⟩, ⟨.ld (.t 0) none, none, false⟩, ⟨.len (.t 0), none, false⟩, ⟨.mv (.v 1), none, false⟩, ⟨.mv (.v 2), none, false⟩, ⟨.iad (.t 1) (.t 0) 1, none, false⟩, ⟨.ld (.t 0) none, none, false⟩, ⟨.len (.t 0), none, false⟩, ⟨.bin .neq (.t 5) (.t 0), none, false⟩], [], [], some (28, 0)⟩
abbrev r_ref10_Same_7 : Reg := ⟨[⟨.mv (.c (.bool false)), none, false⟩], [(4, 0)], [0, 1, 2], none⟩
abbrev r_ref10_Same_8 : Reg := ⟨[⟨.mv (.c (.int (0))), none, false⟩], [(3, 0)], [], none⟩
abbrev r_ref10_Same_9 : Reg := ⟨[⟨.mv (.v 3), none, false⟩, ⟨.mv (.v 0), none, false⟩, ⟨.mv (.v 2), none, false⟩, ⟨.iad (.t 1) (.t 0) 1, none, false⟩, ⟨.ld (.t 0) none, none, false⟩, ⟨.len (.t 0), none, false⟩, ⟨.bin .lss (.t 5) (.t 0), none, false⟩], [], [], some (35, 0)⟩
abbrev r_ref10_Same_11 : Reg := ⟨[⟨.mv (.v 0), none, false⟩, ⟨.mv (.v 2), none, false⟩, ⟨.iad (.t 1) (.t 0) 1, none, false⟩, ⟨.ld (.t 0) none, none, false⟩, ⟨.mv (.v 3), none, false⟩, ⟨.iad (.t 1) (.t 0) 1, none, false⟩, ⟨.ld (.t 0) none, none, false⟩, ⟨.mv (.v 1), none, false⟩, ⟨.mv (.v 2), none, false⟩, ⟨.iad (.t 1) (.t 0) 1, none, false⟩, ⟨.ld (.t 0) none, none, false⟩, ⟨.mv (.v 3), none, false⟩, ⟨.iad (.t 1) (.t 0) 1, none, false⟩, ⟨.ld (.t 0) none, none, false⟩, ⟨.bin .neq (.t 7) (.t 0), none, false⟩], [], [], some (52, 0)⟩
abbrev r_ref10_Same_12 : Reg := ⟨[⟨.mv (.c (.bool false)), none, false⟩], [(4, 0)], [0, 1, 2, 3], none⟩
abbrev r_ref10_Same_10 : Reg := ⟨[⟨.mv (.v 3), none, false⟩, ⟨.bin .add (.t 0) (.c (.int (1))), none, false⟩, ⟨.mv (.t 0), none, false⟩], [(3, 0)], [], none⟩
abbrev b_ref10_Same_2 : IC := (.seq (.seq (.reg r_ref10_Same_9)
 (.cond 35 .skip (.exit 2)))
 (.seq (.block 3 (.seq (.reg r_ref10_Same_11)
 (.cond 52 (.seq (.reg r_ref10_Same_12)
 .ret) .skip)))
 (.reg r_ref10_Same_10)))
abbrev r_ref10_Same_5 : Reg := ⟨[⟨.mv (.v 2), none, false⟩, ⟨.bin .add (.t 0) (.c (.int (1))), none, false⟩, ⟨.mv (.t 0), none, false⟩], [(2, 0)], [3], none⟩
abbrev b_ref10_Same_0 : IC := (.seq (.seq (.reg r_ref10_Same_4)
 (.cond 15 .skip (.exit 0)))
 (.seq (.block 1 (.seq (.seq (.reg r_ref10_Same_6)
 (.cond 28 (.seq (.reg r_ref10_Same_7)
 .ret) .skip))
 (.seq (.reg r_ref10_Same_8)
 (.block 2 (.loop b_ref10_Same_2)))))
 (.reg r_ref10_Same_5)))
abbrev r_ref10_Same_13 : Reg := ⟨[⟨.mv (.c (.bool true)), none, false⟩], [(4, 0)], [0, 1, 2], none⟩
abbrev ir_ref10_Same : Fn := { np := 2, nv := 5, res := [(4, none)], body :=
(.seq (.reg r_ref10_Same_0)
 (.seq (.seq (.reg r_ref10_Same_1)
 (.cond 11 (.seq (.reg r_ref10_Same_2)
 .ret) .skip))
 (.seq (.seq (.reg r_ref10_Same_3)
 (.block 0 (.loop b_ref10_Same_0)))
 (.seq (.reg r_ref10_Same_13)
 .ret)))) }
/- f26 wordset_Prefixes : 0:l 1:_ -/
abbrev r_wordset_Prefixes_0 : Reg := ⟨[⟨.mv (.c (.snil)), none, false⟩], [], [1], none⟩
abbrev r_wordset_Prefixes_1 : Reg := ⟨[⟨.mv (.v 0), none, false⟩, ⟨.cal F_wordset_parts [(.t 0), (.c (.func F_wordset_Prefixes_1 []))], none, false⟩, ⟨.mv (.t 0), none, false⟩], [(1, 0)], [0], none⟩
abbrev ir_wordset_Prefixes : Fn := { np := 1, nv := 2, res := [(1, none)], body :=
(.seq (.reg r_wordset_Prefixes_0)
 (.seq (.reg r_wordset_Prefixes_1)
 .ret)) }
/- f27 law10_last : 0:m 1:w 2:m 3:e 4:s 5:_ -/
abbrev r_law10_last_0 : Reg := ⟨[⟨.bxi (.v 0), none, false⟩, ⟨.mv (.c (.int (0))), none, false⟩], [(2, 1)], [0, 5], none⟩
abbrev r_law10_last_1 : Reg := ⟨[⟨.ldi (.v 2) (some 4), none, false⟩, ⟨.fad (.v 2) 1 none, none, false⟩, ⟨.ldi (.t 0) none, none, false⟩, ⟨.mv (.v 1), none, false⟩, ⟨.cal F_mealy_From [(.t 3), (.t 1), (.t 0)], none, false⟩, ⟨.mv (.t 0), none, false⟩, ⟨.ext (.t 0) 0, none, false⟩, ⟨.ext (.t 1) 1, none, false⟩, ⟨.ext (.t 2) 2, none, false⟩, ⟨.mv (.t 2), none, false⟩, ⟨.mv (.t 2), none, false⟩, ⟨.mv (.t 2), none, false⟩], [(4, 1), (3, 0)], [1, 2], none⟩
abbrev r_law10_last_2 : Reg := ⟨[⟨.mv (.v 3), none, false⟩, ⟨.bin .neq (.t 0) (.c (.int (0))), none, false⟩], [], [3], some (18, 0)⟩
abbrev r_law10_last_3 : Reg := ⟨[⟨.mv (.c (.int (-1))), none, false⟩], [(5, 0)], [4], none⟩
abbrev r_law10_last_4 : Reg := ⟨[⟨.mv (.v 4), none, false⟩, ⟨.mv (.t 0), none, false⟩], [(5, 0)], [4], none⟩
abbrev ir_law10_last : Fn := { np := 2, nv := 6, res := [(5, none)], body :=
(.seq (.reg r_law10_last_0)
 (.seq (.reg r_law10_last_1)
 (.seq (.seq (.reg r_law10_last_2)
 (.cond 18 (.seq (.reg r_law10_last_3)
 .ret) .skip))
 (.seq (.reg r_law10_last_4)
 .ret)))) }
/- f28 word_Compare : 0:a 1:b 2:_ -/
abbrev r_word_Compare_0 : Reg := ⟨[⟨.mv (.c (.int (0))), none, false⟩], [], [2], none⟩
abbrev r_word_Compare_1 : Reg := ⟨[⟨.mv (.v 0), none, false⟩, ⟨.len (.t 0), none, false⟩, ⟨.mv (.v 1), none, false⟩, ⟨.len (.t 0), none, false⟩, ⟨.cal F_cmp_Compare_int [(.t 2), (.t 0)], none, false⟩, ⟨.mv (.v 0), none, false⟩, ⟨.mv (.v 1), none, false⟩, ⟨.cal F_slices_Compare_Sint_int [(.t 1), (.t 0)], none, false⟩, ⟨.liti [(.t 3), (.t 0)] 1, none, false⟩, ⟨.cal F_cmp_Or_int [(.t 0)], none, false⟩, ⟨.mv (.t 0), none, false⟩], [(2, 0)], [0, 1], none⟩
abbrev ir_word_Compare : Fn := { np := 2, nv := 3, res := [(2, none)], body :=
(.seq (.reg r_word_Compare_0)
 (.seq (.reg r_word_Compare_1)
 .ret)) }
/- f29 mealy_Valid : 0:m 1:m 2:n 3:_ 4:_ 5:s 6:_ 7:_ 8:a 9:t 10:o 11:_ -/
abbrev r_mealy_Valid_0 : Reg := ⟨[⟨.bxi (.v 0), none, false⟩, ⟨.mv (.c (.int (0))), none, false⟩], [(1, 1)], [0, 11], none⟩
abbrev r_mealy_Valid_1 : Reg := ⟨[⟨.fad (.v 1) 2 none, none, false⟩, ⟨.ldi (.t 0) none, none, false⟩, ⟨.len (.t 0), none, false⟩, ⟨.mv (.t 0), none, false⟩], [(2, 0)], [], none⟩
abbrev r_mealy_Valid_2 : Reg := ⟨[⟨.fad (.v 1) 0 none, none, false⟩, ⟨.ldi (.t 0) none, none, false⟩, ⟨.bin .lss (.t 0) (.c (.int (1))), none, false⟩, ⟨.mv (.t 0), none, false⟩, ⟨.fad (.v 1) 0 none, some (.t 0, false), false⟩, ⟨.ldi (.t 0) none, some (.t 1, false), false⟩, ⟨.bin .gtr (.t 0) (.c (.int (64))), some (.t 2, false), false⟩, ⟨.pick (.t 3) (.c (.bool true)) (.t 0), none, false⟩, ⟨.mv (.t 0), none, false⟩], [], [], some (11, 0)⟩
abbrev r_mealy_Valid_3 : Reg := ⟨[⟨.mv (.c (.int (2))), none, false⟩], [(11, 0)], [1, 2], none⟩
abbrev r_mealy_Valid_4 : Reg := ⟨[⟨.mv (.v 2), none, false⟩, ⟨.bin .eql (.t 0) (.c (.int (0))), none, false⟩, ⟨.mv (.t 0), none, false⟩], [], [], some (20, 0)⟩
abbrev r_mealy_Valid_5 : Reg := ⟨[⟨.mv (.c (.int (19))), none, false⟩], [(11, 0)], [1, 2], none⟩
abbrev r_mealy_Valid_6 : Reg := ⟨[⟨.mv (.v 2), none, false⟩, ⟨.bin .gtr (.t 0) (.c (.int (128))), none, false⟩, ⟨.mv (.t 0), none, false⟩], [], [], some (23, 0)⟩
abbrev r_mealy_Valid_7 : Reg := ⟨[⟨.mv (.c (.int (11))), none, false⟩], [(11, 0)], [1, 2], none⟩
abbrev r_mealy_Valid_8 : Reg := ⟨[⟨.fad (.v 1) 1 none, none, false⟩, ⟨.ldi (.t 0) none, none, false⟩, ⟨.bin .lss (.t 0) (.c (.int (0))), none, false⟩, ⟨.mv (.t 0), none, false⟩, ⟨.fad (.v 1) 1 none, some (.t 0, false), false⟩, ⟨.ldi (.t 0) none, some (.t 1, false), false⟩, ⟨.mv (.v 2), some (.t 2, false), false⟩, ⟨.bin .geq (.t 1) (.t 0), some (.t 3, false), false⟩, ⟨.pick (.t 4) (.c (.bool true)) (.t 0), none, false⟩, ⟨.mv (.t 0), none, false⟩], [], [], some (26, 0)⟩
abbrev r_mealy_Valid_9 : Reg := ⟨[⟨.mv (.c (.int (2))), none, false⟩], [(11, 0)], [1, 2], none⟩
abbrev r_mealy_Valid_10 : Reg := ⟨[⟨.fad (.v 1) 3 none, none, false⟩, ⟨.ldi (.t 0) none, none, false⟩, ⟨.len (.t 0), none, false⟩, ⟨.mv (.v 2), none, false⟩, ⟨.bin .neq (.t 1) (.t 0), none, false⟩, ⟨.mv (.t 0), none, false⟩], [], [], some (36, 0)⟩
abbrev r_mealy_Valid_11 : Reg := ⟨[⟨.mv (.c (.int (1))), none, false⟩], [(11, 0)], [1, 2], none⟩
abbrev r_mealy_Valid_12 : Reg := ⟨[⟨.mv (.v 2), none, false⟩, ⟨.mv (.c (.int (0))), none, false⟩], [(4, 1), (3, 0)], [], none⟩
abbrev r_mealy_Valid_13 : Reg := ⟨[⟨.bin .lss (.v 3) (.v 4), none, false⟩], [], [], some (44, 0)⟩
abbrev r_mealy_Valid_14 : Reg := ⟨[⟨.mv (.v 3), none, false⟩, ⟨.mv (.t 0), none, false⟩], [(5, 0)], [], none⟩
abbrev r_mealy_Valid_15 : Reg := ⟨[⟨.fad (.v 1) 2 none, none, false⟩, ⟨.ldi (.t 0) none, none, false⟩, ⟨.mv (.v 5), none, false⟩, ⟨.iad (.t 1) (.t 0) 1, none, false⟩, ⟨.ldi (.t 0) none, none, false⟩, ⟨.len (.t 0), none, false⟩, ⟨.fad (.v 1) 0 none, none, false⟩, ⟨.ldi (.t 0) none, none, false⟩, ⟨.bin .neq (.t 2) (.t 0), none, false⟩, ⟨.mv (.t 0), none, false⟩, ⟨.fad (.v 1) 3 none, some (.t 0, false), false⟩, ⟨.ldi (.t 0) none, some (.t 1, false), false⟩, ⟨.mv (.v 5), some (.t 2, false), false⟩, ⟨.iad (.t 1) (.t 0) 1, some (.t 3, false), false⟩, ⟨.ldi (.t 0) none, some (.t 4, false), false⟩, ⟨.len (.t 0), some (.t 5, false), false⟩, ⟨.fad (.v 1) 0 none, some (.t 6, false), false⟩, ⟨.ldi (.t 0) none, some (.t 7, false), false⟩, ⟨.bin .neq (.t 2) (.t 0), some (.t 8, false), false⟩, ⟨.pick (.t 9) (.c (.bool true)) (.t 0), none, false⟩], [], [], some (65, 0)⟩
abbrev r_mealy_Valid_16 : Reg := ⟨[⟨.mv (.c (.int (1))), none, false⟩], [(11, 0)], [1, 2, 3, 4, 5], none⟩
abbrev r_mealy_Valid_17 : Reg := ⟨[⟨.fad (.v 1) 0 none, none, false⟩, ⟨.ldi (.t 0) none, none, false⟩, ⟨.mv (.c (.int (0))), none, false⟩], [(7, 1), (6, 0)], [], none⟩
abbrev r_mealy_Valid_18 : Reg := ⟨[⟨.bin .lss (.v 6) (.v 7), none, false⟩], [], [], some (69, 0)⟩
abbrev r_mealy_Valid_19 : Reg := ⟨[⟨.mv (.v 6), none, false⟩, ⟨.mv (.t 0), none, false⟩], [(8, 0)], [], none⟩
abbrev r_mealy_Valid_20 : Reg := ⟨[⟨.fad (.v 1) 2 none, none, false⟩, ⟨.ldi (.t 0) none, none, false⟩, ⟨.mv (.v 5), none, false⟩, ⟨.iad (.t 1) (.t 0) 1, none, false⟩, ⟨.ldi (.t 0) none, none, false⟩, ⟨.mv (.v 8), none, false⟩, ⟨.iad (.t 1) (.t 0) 1, none, false⟩, ⟨.ldi (.t 0) none, none, false⟩, ⟨.fad (.v 1) 3 none, none, false⟩, ⟨.ldi (.t 0) none, none, false⟩, ⟨.mv (.v 5), none, false⟩, ⟨.iad (.t 1) (.t 0) 1, none, false⟩, ⟨.ldi (.t 0) none, none, false⟩, ⟨.mv (.v 8), none, false⟩, ⟨.iad (.t 1) (.t 0) 1, none, false⟩, ⟨.ldi (.t 0) none, none, false⟩, ⟨.mv (.t 8), none, false⟩, ⟨.mv (.t 1), none, false⟩], [(9, 1), (10, 0)], [8], none⟩
abbrev r_mealy_Valid_21 : Reg := ⟨[⟨.mv (.v 9), none, false⟩, ⟨.bin .lss (.t 0) (.c (.int (0))), none, false⟩, ⟨.mv (.t 0), none, false⟩, ⟨.mv (.v 9), some (.t 0, false), false⟩, ⟨.mv (.v 2), some (.t 1, false), false⟩, ⟨.bin .geq (.t 1) (.t 0), some (.t 2, false), false⟩, ⟨.pick (.t 3) (.c (.bool true)) (.t 0), none, false⟩, ⟨.mv (.t 0), none, false⟩, ⟨.mv (.v 10), some (.t 0, false), false⟩, ⟨.bin .lss (.t 0) (.c (.int (0))), some (.t 1, false), false⟩, ⟨.pick (.t 2) (.c (.bool true)) (.t 0), none, false⟩, ⟨.mv (.t 0), none, false⟩, ⟨.mv (.v 10), some (.t 0, false), false⟩, ⟨.bin .gtr (.t 0) (.c (.int (1048576))), some (.t 1, false), false⟩, ⟨.pick (.t 2) (.c (.bool true)) (.t 0), none, false⟩], [], [9, 10], some (101, 0)⟩
abbrev r_mealy_Valid_22 : Reg := ⟨[⟨.mv (.c (.int (2))), none, false⟩], [(11, 0)], [1, 2, 3, 4, 5, 6, 7], none⟩
abbrev r_mealy_Valid_23 : Reg := ⟨[⟨.bin .add (.v 6) (.c (.int (1))), none, false⟩, ⟨.mv (.t 0), none, false⟩], [(6, 0)], [], none⟩
abbrev b_mealy_Valid_3 : IC := (.seq (.reg r_mealy_Valid_18)
 (.seq (.cond 69 .skip (.exit 3))
 (.seq (.block 4 (.seq (.reg r_mealy_Valid_19)
 (.seq (.reg r_mealy_Valid_20)
 (.seq (.reg r_mealy_Valid_21)
 (.cond 101 (.seq (.reg r_mealy_Valid_22)
 .ret) .skip)))))
 (.reg r_mealy_Valid_23))))
abbrev r_mealy_Valid_24 : Reg := ⟨[⟨.bin .add (.v 3) (.c (.int (1))), none, false⟩, ⟨.mv (.t 0), none, false⟩], [(3, 0)], [5, 6, 7], none⟩
abbrev b_mealy_Valid_1 : IC := (.seq (.reg r_mealy_Valid_13)
 (.seq (.cond 44 .skip (.exit 1))
 (.seq (.block 2 (.seq (.reg r_mealy_Valid_14)
 (.seq (.seq (.reg r_mealy_Valid_15)
 (.cond 65 (.seq (.reg r_mealy_Valid_16)
 .ret) .skip))
 (.seq (.reg r_mealy_Valid_17)
 (.block 3 (.loop b_mealy_Valid_3))))))
 (.reg r_mealy_Valid_24))))
abbrev r_mealy_Valid_25 : Reg := ⟨[⟨.mv (.c (.int (0))), none, false⟩], [(11, 0)], [1, 2, 3, 4], none⟩
abbrev ir_mealy_Valid : Fn := { np := 1, nv := 12, res := [(11, none)], body :=
(.seq (.reg r_mealy_Valid_0)
 (.seq (.reg r_mealy_Valid_1)
 (.seq (.block 0 (.seq (.reg r_mealy_Valid_2)
 (.cond 11 (.seq (.reg r_mealy_Valid_3)
 .ret) (.seq (.reg r_mealy_Valid_4)
 (.cond 20 (.seq (.reg r_mealy_Valid_5)
 .ret) (.seq (.reg r_mealy_Valid_6)
 (.cond 23 (.seq (.reg r_mealy_Valid_7)
 .ret) (.seq (.reg r_mealy_Valid_8)
 (.cond 26 (.seq (.reg r_mealy_Valid_9)
 .ret) (.seq (.reg r_mealy_Valid_10)
 (.cond 36 (.seq (.reg r_mealy_Valid_11)
 .ret) .skip)))))))))))
 (.seq (.seq (.reg r_mealy_Valid_12)
 (.block 1 (.loop b_mealy_Valid_1)))
 (.seq (.reg r_mealy_Valid_25)
 .ret))))) }
/- f30 cover_places : 0:m 1:from 2:m 3:seen 4:i 5:queue 6:_ 7:_ 8:_ 9:t 10:a 11:_ -/
abbrev r_cover_places_0 : Reg := ⟨[⟨.bxi (.v 0), none, false⟩, ⟨.mv (.c (.snil)), none, false⟩], [(2, 1)], [0, 11], none⟩
abbrev r_cover_places_1 : Reg := ⟨[⟨.fad (.v 2) 2 none, none, false⟩, ⟨.ldi (.t 0) none, none, false⟩, ⟨.len (.t 0), none, false⟩, ⟨.mks (.t 0) (.t 0) [.bool false] none, none, false⟩, ⟨.mv (.t 0), none, false⟩], [(3, 0)], [], none⟩
abbrev r_cover_places_2 : Reg := ⟨[⟨.mv (.v 3), none, false⟩, ⟨.mv (.v 1), none, false⟩, ⟨.iad (.t 1) (.t 0) 1, none, false⟩, ⟨.st (.t 0) (.c (.bool true)) 1, none, false⟩], [], [], none⟩
abbrev r_cover_places_3 : Reg := ⟨[⟨.mv (.v 1), none, false⟩, ⟨.bld [.int 0, .snil] [(0, 1, (.t 0))], none, false⟩, ⟨.litm [(.t 0)] (some 2), none, false⟩, ⟨.mv (.t 0), none, false⟩], [(5, 0)], [1], none⟩
abbrev r_cover_places_4 : Reg := ⟨[⟨.mv (.c (.int (0))), none, false⟩], [(4, 0)], [], none⟩
abbrev r_cover_places_5 : Reg := ⟨[⟨.mv (.v 4), none, false⟩, ⟨.mv (.v 5), none, false⟩, ⟨.len (.t 0), none, false⟩, ⟨.bin .lss (.t 2) (.t 0), none, false⟩], [], [], some (23, 0)⟩
abbrev r_cover_places_7 : Reg := ⟨[⟨.fad (.v 2) 2 none, none, false⟩, ⟨.ldi (.t 0) none, none, false⟩, ⟨.mv (.v 5), none, false⟩, ⟨.mv (.v 4), none, false⟩, ⟨.iad (.t 1) (.t 0) 2, none, false⟩, ⟨.fad (.t 0) 0 none, none, false⟩, ⟨.ld (.t 0) none, none, false⟩, ⟨.iad (.t 5) (.t 0) 1, none, false⟩, ⟨.ldi (.t 0) none, none, false⟩, ⟨.len (.t 0), none, false⟩, ⟨.mv (.c (.int (0))), none, false⟩], [(8, 2), (7, 1), (6, 0)], [], none⟩
abbrev r_cover_places_8 : Reg := ⟨[⟨.bin .lss (.v 6) (.v 7), none, false⟩], [], [], some (37, 0)⟩
abbrev r_cover_places_9 : Reg := ⟨[⟨.mv (.v 6), none, false⟩, ⟨.iad (.v 8) (.v 6) 1, none, false⟩, ⟨.ld (.t 0) none, none, false⟩, ⟨.mv (.t 2), none, false⟩, ⟨.mv (.t 1), none, false⟩], [(10, 1), (9, 0)], [], none⟩
abbrev r_cover_places_10 : Reg := ⟨[⟨.mv (.v 3), none, false⟩, ⟨.mv (.v 9), none, false⟩, ⟨.iad (.t 1) (.t 0) 1, none, false⟩, ⟨.ld (.t 0) none, none, false⟩, ⟨.not (.t 0), none, false⟩], [], [], some (45, 0)⟩
abbrev r_cover_places_11 : Reg := ⟨[⟨.mv (.v 3), none, false⟩, ⟨.mv (.v 9), none, false⟩, ⟨.iad (.t 1) (.t 0) 1, none, false⟩, ⟨.st (.t 0) (.c (.bool true)) 1, none, false⟩], [], [], none⟩
abbrev r_cover_places_12 : Reg := ⟨[⟨.mv (.v 5), none, false⟩, ⟨.mv (.v 9), none, false⟩, ⟨.mv (.v 5), none, false⟩, ⟨.mv (.v 4), none, false⟩, ⟨.iad (.t 1) (.t 0) 2, none, false⟩, ⟨.fad (.t 0) 1 none, none, false⟩, ⟨.ld (.t 0) none, none, false⟩, ⟨.mv (.v 10), none, false⟩, ⟨.liti [(.t 0)] 1, none, false⟩, ⟨.liti [(.t 2), (.t 0)] 1, none, false⟩, ⟨.cal F_word_Join [(.t 0)], none, false⟩, ⟨.bld [.int 0, .snil] [(0, 1, (.t 9)), (1, 1, (.t 0))], none, false⟩, ⟨.lita [(.t 0)] 2, none, false⟩, ⟨.appw (.t 12) (.t 0) (some 2), none, false⟩, ⟨.mv (.t 0), none, false⟩], [(5, 0)], [9, 10], none⟩
abbrev r_cover_places_13 : Reg := ⟨[⟨.bin .add (.v 6) (.c (.int (1))), none, false⟩, ⟨.mv (.t 0), none, false⟩], [(6, 0)], [9, 10], none⟩
abbrev b_cover_places_2 : IC := (.seq (.reg r_cover_places_8)
 (.seq (.cond 37 .skip (.exit 2))
 (.seq (.block 3 (.seq (.reg r_cover_places_9)
 (.seq (.reg r_cover_places_10)
 (.cond 45 (.seq (.reg r_cover_places_11)
 (.reg r_cover_places_12)) .skip))))
 (.reg r_cover_places_13))))
abbrev r_cover_places_6 : Reg := ⟨[⟨.mv (.v 4), none, false⟩, ⟨.bin .add (.t 0) (.c (.int (1))), none, false⟩, ⟨.mv (.t 0), none, false⟩], [(4, 0)], [6, 7, 8], none⟩
abbrev b_cover_places_0 : IC := (.seq (.seq (.reg r_cover_places_5)
 (.cond 23 .skip (.exit 0)))
 (.seq (.block 1 (.seq (.reg r_cover_places_7)
 (.block 2 (.loop b_cover_places_2))))
 (.reg r_cover_places_6)))
abbrev r_cover_places_14 : Reg := ⟨[⟨.mv (.v 5), none, false⟩, ⟨.mv (.t 0), none, false⟩], [(11, 0)], [2, 3, 4, 5], none⟩
abbrev ir_cover_places : Fn := { np := 2, nv := 12, res := [(11, none)], body :=
(.seq (.reg r_cover_places_0)
 (.seq (.reg r_cover_places_1)
 (.seq (.reg r_cover_places_2)
 (.seq (.reg r_cover_places_3)
 (.seq (.seq (.reg r_cover_places_4)
 (.block 0 (.loop b_cover_places_0)))
 (.seq (.reg r_cover_places_14)
 .ret)))))) }
/- f31 cover_marks : 0:m 1:m 2:out 3:_ 4:_ 5:s 6:_ -/
abbrev r_cover_marks_0 : Reg := ⟨[⟨.bxi (.v 0), none, false⟩, ⟨.mv (.c (.snil)), none, false⟩], [(1, 1)], [0, 6], none⟩
abbrev r_cover_marks_1 : Reg := ⟨[⟨.fad (.v 1) 2 none, none, false⟩, ⟨.ldi (.t 0) none, none, false⟩, ⟨.len (.t 0), none, false⟩, ⟨.mks (.t 0) (.t 0) [.snil] none, none, false⟩, ⟨.mv (.t 0), none, false⟩], [(2, 0)], [], none⟩
abbrev r_cover_marks_2 : Reg := ⟨[⟨.mv (.v 2), none, false⟩, ⟨.len (.t 0), none, false⟩, ⟨.mv (.c (.int (0))), none, false⟩], [(4, 1), (3, 0)], [], none⟩
abbrev r_cover_marks_3 : Reg := ⟨[⟨.bin .lss (.v 3) (.v 4), none, false⟩], [], [], some (12, 0)⟩
abbrev r_cover_marks_4 : Reg := ⟨[⟨.mv (.v 3), none, false⟩, ⟨.mv (.t 0), none, false⟩], [(5, 0)], [], none⟩
abbrev r_cover_marks_5 : Reg := ⟨[⟨.mv (.v 2), none, false⟩, ⟨.mv (.v 5), none, false⟩, ⟨.fad (.v 1) 0 none, none, false⟩, ⟨.ldi (.t 0) none, none, false⟩, ⟨.mks (.t 0) (.t 0) [.bool false] none, none, false⟩, ⟨.iad (.t 4) (.t 3) 1, none, false⟩, ⟨.st (.t 0) (.t 1) 1, none, false⟩], [], [5], none⟩
abbrev r_cover_marks_6 : Reg := ⟨[⟨.bin .add (.v 3) (.c (.int (1))), none, false⟩, ⟨.mv (.t 0), none, false⟩], [(3, 0)], [], none⟩
abbrev b_cover_marks_0 : IC := (.seq (.reg r_cover_marks_3)
 (.seq (.cond 12 .skip (.exit 0))
 (.seq (.block 1 (.seq (.reg r_cover_marks_4)
 (.reg r_cover_marks_5)))
 (.reg r_cover_marks_6))))
abbrev r_cover_marks_7 : Reg := ⟨[⟨.mv (.v 2), none, false⟩, ⟨.mv (.t 0), none, false⟩], [(6, 0)], [1, 2, 3, 4], none⟩
abbrev ir_cover_marks : Fn := { np := 1, nv := 7, res := [(6, none)], body :=
(.seq (.reg r_cover_marks_0)
 (.seq (.reg r_cover_marks_1)
 (.seq (.seq (.reg r_cover_marks_2)
 (.block 0 (.loop b_cover_marks_0)))
 (.seq (.reg r_cover_marks_7)
 .ret)))) }
/- f32 mealy_Reach : 0:m 1:m 2:seen 3:i 4:out 5:_ 6:_ 7:_ 8:t 9:_ -/
abbrev r_mealy_Reach_0 : Reg := ⟨[⟨.bxi (.v 0), none, false⟩, ⟨.mv (.c (.snil)), none, false⟩], [(1, 1)], [0, 9], none⟩
abbrev r_mealy_Reach_1 : Reg := ⟨[⟨.ldi (.v 1) (some 4), none, false⟩, ⟨.cal F_mealy_Valid [(.t 0)], none, false⟩, ⟨.bin .neq (.t 0) (.c (.int (0))), none, false⟩], [], [], some (10, 0)⟩
abbrev r_mealy_Reach_2 : Reg := ⟨[⟨.mv (.c (.snil)), none, false⟩], [(9, 0)], [1], none⟩
abbrev r_mealy_Reach_3 : Reg := ⟨[⟨.fad (.v 1) 2 none, none, false⟩, ⟨.ldi (.t 0) none, none, false⟩, ⟨.len (.t 0), none, false⟩, ⟨.mks (.t 0) (.t 0) [.bool false] none, none, false⟩, ⟨.mv (.t 0), none, false⟩], [(2, 0)], [], none⟩
abbrev r_mealy_Reach_4 : Reg := ⟨[⟨.mv (.v 2), none, false⟩, ⟨.fad (.v 1) 1 none, none, false⟩, ⟨.ldi (.t 0) none, none, false⟩, ⟨.iad (.t 2) (.t 0) 1, none, false⟩, ⟨.st (.t 0) (.c (.bool true)) 1, none, false⟩], [], [], none⟩
abbrev r_mealy_Reach_5 : Reg := ⟨[⟨.fad (.v 1) 1 none, none, false⟩, ⟨.ldi (.t 0) none, none, false⟩, ⟨.litm [(.t 0)] none, none, false⟩, ⟨.mv (.t 0), none, false⟩], [(4, 0)], [], none⟩
abbrev r_mealy_Reach_6 : Reg := ⟨[⟨.mv (.c (.int (0))), none, false⟩], [(3, 0)], [], none⟩
abbrev r_mealy_Reach_7 : Reg := ⟨[⟨.mv (.v 3), none, false⟩, ⟨.mv (.v 4), none, false⟩, ⟨.len (.t 0), none, false⟩, ⟨.bin .lss (.t 2) (.t 0), none, false⟩], [], [], some (25, 0)⟩
abbrev r_mealy_Reach_9 : Reg := ⟨[⟨.fad (.v 1) 2 none, none, false⟩, ⟨.ldi (.t 0) none, none, false⟩, ⟨.mv (.v 4), none, false⟩, ⟨.mv (.v 3), none, false⟩, ⟨.iad (.t 1) (.t 0) 1, none, false⟩, ⟨.ld (.t 0) none, none, false⟩, ⟨.iad (.t 4) (.t 0) 1, none, false⟩, ⟨.ldi (.t 0) none, none, false⟩, ⟨.len (.t 0), none, false⟩, ⟨.mv (.c (.int (0))), none, false⟩], [(7, 2), (6, 1), (5, 0)], [], none⟩
abbrev r_mealy_Reach_10 : Reg := ⟨[⟨.bin .lss (.v 5) (.v 6), none, false⟩], [], [], some (38, 0)⟩
abbrev r_mealy_Reach_11 : Reg := ⟨[⟨.iad (.v 7) (.v 5) 1, none, false⟩, ⟨.ld (.t 0) none, none, false⟩, ⟨.mv (.t 0), none, false⟩], [(8, 0)], [], none⟩
abbrev r_mealy_Reach_12 : Reg := ⟨[⟨.mv (.v 2), none, false⟩, ⟨.mv (.v 8), none, false⟩, ⟨.iad (.t 1) (.t 0) 1, none, false⟩, ⟨.ld (.t 0) none, none, false⟩, ⟨.not (.t 0), none, false⟩], [], [], some (45, 0)⟩
abbrev r_mealy_Reach_13 : Reg := ⟨[⟨.mv (.v 2), none, false⟩, ⟨.mv (.v 8), none, false⟩, ⟨.iad (.t 1) (.t 0) 1, none, false⟩, ⟨.st (.t 0) (.c (.bool true)) 1, none, false⟩], [], [], none⟩
abbrev r_mealy_Reach_14 : Reg := ⟨[⟨.mv (.v 4), none, false⟩, ⟨.mv (.v 8), none, false⟩, ⟨.lita [(.t 0)] 1, none, false⟩, ⟨.appw (.t 2) (.t 0) none, none, false⟩, ⟨.mv (.t 0), none, false⟩], [(4, 0)], [8], none⟩
abbrev r_mealy_Reach_15 : Reg := ⟨[⟨.bin .add (.v 5) (.c (.int (1))), none, false⟩, ⟨.mv (.t 0), none, false⟩], [(5, 0)], [8], none⟩
abbrev b_mealy_Reach_2 : IC := (.seq (.reg r_mealy_Reach_10)
 (.seq (.cond 38 .skip (.exit 2))
 (.seq (.block 3 (.seq (.reg r_mealy_Reach_11)
 (.seq (.reg r_mealy_Reach_12)
 (.cond 45 (.seq (.reg r_mealy_Reach_13)
 (.reg r_mealy_Reach_14)) .skip))))
 (.reg r_mealy_Reach_15))))
abbrev r_mealy_Reach_8 : Reg := ⟨[⟨.mv (.v 3), none, false⟩, ⟨.bin .add (.t 0) (.c (.int (1))), none, false⟩, ⟨.mv (.t 0), none, false⟩], [(3, 0)], [5, 6, 7], none⟩
abbrev b_mealy_Reach_0 : IC := (.seq (.seq (.reg r_mealy_Reach_7)
 (.cond 25 .skip (.exit 0)))
 (.seq (.block 1 (.seq (.reg r_mealy_Reach_9)
 (.block 2 (.loop b_mealy_Reach_2))))
 (.reg r_mealy_Reach_8)))
abbrev r_mealy_Reach_16 : Reg := ⟨[⟨.mv (.v 4), none, false⟩, ⟨.mv (.t 0), none, false⟩], [(9, 0)], [1, 2, 3, 4], none⟩
abbrev ir_mealy_Reach : Fn := { np := 1, nv := 10, res := [(9, none)], body :=
(.seq (.reg r_mealy_Reach_0)
 (.seq (.seq (.reg r_mealy_Reach_1)
 (.cond 10 (.seq (.reg r_mealy_Reach_2)
 .ret) .skip))
 (.seq (.reg r_mealy_Reach_3)
 (.seq (.reg r_mealy_Reach_4)
 (.seq (.reg r_mealy_Reach_5)
 (.seq (.seq (.reg r_mealy_Reach_6)
 (.block 0 (.loop b_mealy_Reach_0)))
 (.seq (.reg r_mealy_Reach_16)
 .ret))))))) }
/- f33 cover_untaken : 0:m 1:from 2:taken 3:m 4:_ 5:_ 6:_ 7:p 8:_ 9:_ 10:_ 11:done 12:a 13:w 14:found 15:_ 16:_ -/
abbrev r_cover_untaken_0 : Reg := ⟨[⟨.bxi (.v 0), none, false⟩, ⟨.mv (.c (.snil)), none, false⟩, ⟨.mv (.c (.bool false)), none, false⟩], [(3, 2)], [0, 15, 16], none⟩
abbrev r_cover_untaken_1 : Reg := ⟨[⟨.mv (.c (.snil)), none, false⟩], [(13, 0)], [], none⟩
abbrev r_cover_untaken_2 : Reg := ⟨[⟨.mv (.c (.bool false)), none, false⟩], [(14, 0)], [], none⟩
abbrev r_cover_untaken_3 : Reg := ⟨[⟨.ldi (.v 3) (some 4), none, false⟩, ⟨.mv (.v 1), none, false⟩, ⟨.cal F_cover_places [(.t 1), (.t 0)], none, false⟩, ⟨.len (.t 0), none, false⟩, ⟨.mv (.c (.int (0))), none, false⟩], [(6, 2), (5, 1), (4, 0)], [1, 3], none⟩
abbrev r_cover_untaken_4 : Reg := ⟨[⟨.bin .lss (.v 4) (.v 5), none, false⟩], [], [], some (19, 0)⟩
abbrev r_cover_untaken_5 : Reg := ⟨[⟨.iad (.v 6) (.v 4) 2, none, false⟩, ⟨.ld (.t 0) (some 2), none, false⟩, ⟨.alc0 2, none, false⟩, ⟨.ini (.t 0) (.t 1) 2, none, false⟩], [(7, 0)], [], none⟩
abbrev r_cover_untaken_6 : Reg := ⟨[⟨.mv (.v 2), none, false⟩, ⟨.fad (.v 7) 0 none, none, false⟩, ⟨.ldi (.t 0) none, none, false⟩, ⟨.iad (.t 2) (.t 0) 1, none, false⟩, ⟨.ld (.t 0) none, none, false⟩, ⟨.len (.t 0), none, false⟩, ⟨.mv (.c (.int (0))), none, false⟩], [(10, 2), (9, 1), (8, 0)], [], none⟩
abbrev r_cover_untaken_7 : Reg := ⟨[⟨.bin .lss (.v 8) (.v 9), none, false⟩], [], [], some (29, 0)⟩
abbrev r_cover_untaken_8 : Reg := ⟨[⟨.mv (.v 8), none, false⟩, ⟨.iad (.v 10) (.v 8) 1, none, false⟩, ⟨.ld (.t 0) none, none, false⟩, ⟨.mv (.t 2), none, false⟩, ⟨.mv (.t 1), none, false⟩], [(12, 1), (11, 0)], [], none⟩
abbrev r_cover_untaken_9 : Reg := ⟨[⟨.mv (.v 11), none, false⟩, ⟨.not (.t 0), none, false⟩], [], [11], some (34, 0)⟩
abbrev r_cover_untaken_10 : Reg := ⟨[⟨.fad (.v 7) 1 none, none, false⟩, ⟨.ldi (.t 0) none, none, false⟩, ⟨.mv (.v 12), none, false⟩, ⟨.liti [(.t 0)] 1, none, false⟩, ⟨.liti [(.t 2), (.t 0)] 1, none, false⟩, ⟨.cal F_word_Join [(.t 0)], none, false⟩, ⟨.mv (.t 0), none, false⟩, ⟨.mv (.c (.bool true)), none, false⟩], [(13, 1), (14, 0)], [2, 4, 5, 6, 7, 8, 9, 10, 12], none⟩
abbrev r_cover_untaken_11 : Reg := ⟨[⟨.bin .add (.v 8) (.c (.int (1))), none, false⟩, ⟨.mv (.t 0), none, false⟩], [(8, 0)], [12], none⟩
abbrev b_cover_untaken_2 : IC := (.seq (.reg r_cover_untaken_7)
 (.seq (.cond 29 .skip (.exit 2))
 (.seq (.block 3 (.seq (.reg r_cover_untaken_8)
 (.seq (.reg r_cover_untaken_9)
 (.cond 34 (.seq (.reg r_cover_untaken_10)
 (.exit 0)) .skip))))
 (.reg r_cover_untaken_11))))
abbrev r_cover_untaken_12 : Reg := ⟨[⟨.bin .add (.v 4) (.c (.int (1))), none, false⟩, ⟨.mv (.t 0), none, false⟩], [(4, 0)], [7, 8, 9, 10], none⟩
abbrev b_cover_untaken_0 : IC := (.seq (.reg r_cover_untaken_4)
 (.seq (.cond 19 .skip (.exit 0))
 (.seq (.block 1 (.seq (.reg r_cover_untaken_5)
 (.seq (.reg r_cover_untaken_6)
 (.block 2 (.loop b_cover_untaken_2)))))
 (.reg r_cover_untaken_12))))
abbrev r_cover_untaken_13 : Reg := ⟨[⟨.mv (.v 13), none, false⟩, ⟨.mv (.v 14), none, false⟩, ⟨.mv (.t 1), none, false⟩, ⟨.mv (.t 1), none, false⟩], [(15, 1), (16, 0)], [2, 4, 5, 6, 13, 14], none⟩
abbrev ir_cover_untaken : Fn := { np := 3, nv := 17, res := [(15, none), (16, none)], body :=
(.seq (.reg r_cover_untaken_0)
 (.scp (.seq (.reg r_cover_untaken_1)
 (.seq (.reg r_cover_untaken_2)
 (.seq .skip
 (.seq (.seq (.reg r_cover_untaken_3)
 (.block 0 (.loop b_cover_untaken_0)))
 (.seq (.reg r_cover_untaken_13)
 .ret))))))) }
/- f34 ref10_none : 0:m 1:s 2:m 3:out 4:_ -/
abbrev r_ref10_none_0 : Reg := ⟨[⟨.bxi (.v 0), none, false⟩, ⟨.mv (.c (.snil)), none, false⟩], [(2, 1)], [0, 4], none⟩
abbrev r_ref10_none_1 : Reg := ⟨[⟨.nl none, none, false⟩], [(3, 0)], [], none⟩
abbrev r_ref10_none_2 : Reg := ⟨[⟨.mv (.c (.int (0))), none, false⟩], [(1, 0)], [], none⟩
abbrev r_ref10_none_3 : Reg := ⟨[⟨.mv (.v 1), none, false⟩, ⟨.fad (.v 2) 2 none, none, false⟩, ⟨.ldi (.t 0) none, none, false⟩, ⟨.len (.t 0), none, false⟩, ⟨.bin .lss (.t 3) (.t 0), none, false⟩], [], [], some (9, 0)⟩
abbrev r_ref10_none_5 : Reg := ⟨[⟨.mv (.v 3), none, false⟩, ⟨.fad (.v 2) 0 none, none, false⟩, ⟨.ldi (.t 0) none, none, false⟩, ⟨.mks (.t 0) (.t 0) [.bool false] none, none, false⟩, ⟨.lita [(.t 0)] 1, none, false⟩, ⟨.appw (.t 4) (.t 0) none, none, false⟩, ⟨.mv (.t 0), none, false⟩], [(3, 0)], [], none⟩
abbrev r_ref10_none_4 : Reg := ⟨[⟨.mv (.v 1), none, false⟩, ⟨.bin .add (.t 0) (.c (.int (1))), none, false⟩, ⟨.mv (.t 0), none, false⟩], [(1, 0)], [], none⟩
abbrev b_ref10_none_0 : IC := (.seq (.seq (.reg r_ref10_none_3)
 (.cond 9 .skip (.exit 0)))
 (.seq (.block 1 (.reg r_ref10_none_5))
 (.reg r_ref10_none_4)))
abbrev r_ref10_none_6 : Reg := ⟨[⟨.mv (.v 3), none, false⟩, ⟨.mv (.t 0), none, false⟩], [(4, 0)], [1, 2, 3], none⟩
abbrev ir_ref10_none : Fn := { np := 1, nv := 5, res := [(4, none)], body :=
(.seq (.reg r_ref10_none_0)
 (.seq (.reg r_ref10_none_1)
 (.seq (.seq (.reg r_ref10_none_2)
 (.block 0 (.loop b_ref10_none_0)))
 (.seq (.reg r_ref10_none_6)
 .ret)))) }
/- f35 ref10_fresh : 0:m 1:s 2:taken 3:m 4:i 5:states 6:a 7:words 8:_ 9:_ 10:_ -/
abbrev r_ref10_fresh_0 : Reg := ⟨[⟨.bxi (.v 0), none, false⟩, ⟨.mv (.c (.snil)), none, false⟩, ⟨.mv (.c (.int (0))), none, false⟩, ⟨.mv (.c (.bool false)), none, false⟩], [(3, 3)], [0, 8, 9, 10], none⟩
abbrev r_ref10_fresh_1 : Reg := ⟨[⟨.fad (.v 3) 0 none, none, false⟩, ⟨.ldi (.t 0) none, none, false⟩, ⟨.mv (.v 1), none, false⟩, ⟨.fad (.v 3) 2 none, none, false⟩, ⟨.ldi (.t 0) none, none, false⟩, ⟨.fad (.v 3) 3 none, none, false⟩, ⟨.ldi (.t 0) none, none, false⟩, ⟨.bld [.int 0, .int 0, .snil, .snil] [(0, 1, (.t 5)), (1, 1, (.t 4)), (2, 1, (.t 2)), (3, 1, (.t 0))], none, false⟩, ⟨.cal F_ref10_Access [(.t 0)], none, false⟩, ⟨.mv (.t 0), none, false⟩, ⟨.ext (.t 0) 0, none, false⟩, ⟨.ext (.t 1) 1, none, false⟩, ⟨.ext (.t 2) 2, none, false⟩, ⟨.mv (.t 2), none, false⟩, ⟨.mv (.t 2), none, false⟩, ⟨.mv (.t 2), none, false⟩], [(5, 2), (7, 1)], [1], none⟩
abbrev r_ref10_fresh_2 : Reg := ⟨[⟨.mv (.c (.int (0))), none, false⟩], [(4, 0)], [], none⟩
abbrev r_ref10_fresh_3 : Reg := ⟨[⟨.mv (.v 4), none, false⟩, ⟨.mv (.v 5), none, false⟩, ⟨.len (.t 0), none, false⟩, ⟨.bin .lss (.t 2) (.t 0), none, false⟩], [], [], some (30, 0)⟩
abbrev r_ref10_fresh_5 : Reg := ⟨[⟨.mv (.c (.int (0))), none, false⟩], [(6, 0)], [], none⟩
abbrev r_ref10_fresh_6 : Reg := ⟨[⟨.mv (.v 6), none, false⟩, ⟨.fad (.v 3) 0 none, none, false⟩, ⟨.ldi (.t 0) none, none, false⟩, ⟨.bin .lss (.t 2) (.t 0), none, false⟩], [], [], some (36, 0)⟩
abbrev r_ref10_fresh_8 : Reg := ⟨[⟨.mv (.v 2), none, false⟩, ⟨.mv (.v 5), none, false⟩, ⟨.mv (.v 4), none, false⟩, ⟨.iad (.t 1) (.t 0) 1, none, false⟩, ⟨.ld (.t 0) none, none, false⟩, ⟨.iad (.t 4) (.t 0) 1, none, false⟩, ⟨.ld (.t 0) none, none, false⟩, ⟨.mv (.v 6), none, false⟩, ⟨.iad (.t 1) (.t 0) 1, none, false⟩, ⟨.ld (.t 0) none, none, false⟩, ⟨.not (.t 0), none, false⟩], [], [], some (49, 0)⟩
abbrev r_ref10_fresh_9 : Reg := ⟨[⟨.mv (.v 7), none, false⟩, ⟨.mv (.v 4), none, false⟩, ⟨.iad (.t 1) (.t 0) 1, none, false⟩, ⟨.ld (.t 0) none, none, false⟩, ⟨.mv (.v 6), none, false⟩, ⟨.cal F_ref09_Extended [(.t 1), (.t 0)], none, false⟩, ⟨.fad (.v 3) 2 none, none, false⟩, ⟨.ldi (.t 0) none, none, false⟩, ⟨.mv (.v 5), none, false⟩, ⟨.mv (.v 4), none, false⟩, ⟨.iad (.t 1) (.t 0) 1, none, false⟩, ⟨.ld (.t 0) none, none, false⟩, ⟨.iad (.t 4) (.t 0) 1, none, false⟩, ⟨.ldi (.t 0) none, none, false⟩, ⟨.mv (.v 6), none, false⟩, ⟨.iad (.t 1) (.t 0) 1, none, false⟩, ⟨.ldi (.t 0) none, none, false⟩, ⟨.mv (.t 11), none, false⟩, ⟨.mv (.t 1), none, false⟩, ⟨.mv (.c (.bool true)), none, false⟩], [(8, 2), (9, 1), (10, 0)], [2, 3, 4, 5, 6, 7], none⟩
abbrev r_ref10_fresh_7 : Reg := ⟨[⟨.mv (.v 6), none, false⟩, ⟨.bin .add (.t 0) (.c (.int (1))), none, false⟩, ⟨.mv (.t 0), none, false⟩], [(6, 0)], [], none⟩
abbrev b_ref10_fresh_2 : IC := (.seq (.seq (.reg r_ref10_fresh_6)
 (.cond 36 .skip (.exit 2)))
 (.seq (.block 3 (.seq (.reg r_ref10_fresh_8)
 (.cond 49 (.seq (.reg r_ref10_fresh_9)
 .ret) .skip)))
 (.reg r_ref10_fresh_7)))
abbrev r_ref10_fresh_4 : Reg := ⟨[⟨.mv (.v 4), none, false⟩, ⟨.bin .add (.t 0) (.c (.int (1))), none, false⟩, ⟨.mv (.t 0), none, false⟩], [(4, 0)], [6], none⟩
abbrev b_ref10_fresh_0 : IC := (.seq (.seq (.reg r_ref10_fresh_3)
 (.cond 30 .skip (.exit 0)))
 (.seq (.block 1 (.seq (.reg r_ref10_fresh_5)
 (.block 2 (.loop b_ref10_fresh_2))))
 (.reg r_ref10_fresh_4)))
abbrev r_ref10_fresh_10 : Reg := ⟨[⟨.mv (.c (.snil)), none, false⟩, ⟨.mv (.c (.int (0))), none, false⟩, ⟨.mv (.c (.bool false)), none, false⟩], [(8, 2), (9, 1), (10, 0)], [2, 3, 4, 5, 7], none⟩
abbrev ir_ref10_fresh : Fn := { np := 3, nv := 11, res := [(8, none), (9, none), (10, none)], body :=
(.seq (.reg r_ref10_fresh_0)
 (.seq (.reg r_ref10_fresh_1)
 (.seq (.seq (.reg r_ref10_fresh_2)
 (.block 0 (.loop b_ref10_fresh_0)))
 (.seq (.reg r_ref10_fresh_10)
 .ret)))) }
/- f36 word_Check : 0:w 1:inputs 2:inputs 3:_ -/
abbrev r_word_Check_0 : Reg := ⟨[⟨.bxi (.v 1), none, false⟩, ⟨.mv (.c (.int (0))), none, false⟩], [(2, 1)], [1, 3], none⟩
abbrev r_word_Check_1 : Reg := ⟨[⟨.ldi (.v 2) none, none, false⟩, ⟨.cal F_word_permitted [(.t 0)], none, false⟩, ⟨.not (.t 0), none, false⟩, ⟨.mv (.t 0), none, false⟩], [], [], some (5, 0)⟩
abbrev r_word_Check_2 : Reg := ⟨[⟨.mv (.c (.int (2))), none, false⟩], [(3, 0)], [0, 2], none⟩
abbrev r_word_Check_3 : Reg := ⟨[⟨.mv (.v 0), none, false⟩, ⟨.len (.t 0), none, false⟩, ⟨.bin .gtr (.t 0) (.c (.int (1024))), none, false⟩, ⟨.mv (.t 0), none, false⟩], [], [], some (9, 0)⟩
abbrev r_word_Check_4 : Reg := ⟨[⟨.mv (.c (.int (3))), none, false⟩], [(3, 0)], [0, 2], none⟩
abbrev r_word_Check_5 : Reg := ⟨[⟨.mv (.v 0), none, false⟩, ⟨.mkf F_word_Check_1 [(.v 2)], none, false⟩, ⟨.cal F_slices_ContainsFunc_Sint_int [(.t 1), (.t 0)], none, false⟩, ⟨.mv (.t 0), none, false⟩], [], [0, 2], some (13, 0)⟩
abbrev r_word_Check_6 : Reg := ⟨[⟨.mv (.c (.int (1))), none, false⟩], [(3, 0)], [], none⟩
abbrev r_word_Check_7 : Reg := ⟨[⟨.mv (.c (.int (0))), none, false⟩], [(3, 0)], [], none⟩
abbrev ir_word_Check : Fn := { np := 2, nv := 4, res := [(3, none)], body :=
(.seq (.reg r_word_Check_0)
 (.seq (.block 0 (.seq (.reg r_word_Check_1)
 (.cond 5 (.seq (.reg r_word_Check_2)
 .ret) (.seq (.reg r_word_Check_3)
 (.cond 9 (.seq (.reg r_word_Check_4)
 .ret) (.seq (.reg r_word_Check_5)
 (.cond 13 (.seq (.reg r_word_Check_6)
 .ret) .skip)))))))
 (.seq (.reg r_word_Check_7)
 .ret))) }
/- f37 cover_Covered_1 : 0:s 1:_ 2:_ -/
abbrev r_cover_Covered_1_0 : Reg := ⟨[⟨.ld (.v 1) none, none, false⟩, ⟨.mv (.v 0), none, false⟩, ⟨.iad (.t 1) (.t 0) 1, none, false⟩, ⟨.ld (.t 0) none, none, false⟩, ⟨.not (.t 0), none, false⟩], [], [], some (8, 0)⟩
abbrev r_cover_Covered_1_1 : Reg := ⟨[⟨.ld (.v 1) none, none, false⟩, ⟨.mv (.v 0), none, false⟩, ⟨.iad (.t 1) (.t 0) 1, none, false⟩, ⟨.st (.t 0) (.c (.bool true)) 1, none, false⟩], [], [0, 1], none⟩
abbrev r_cover_Covered_1_2 : Reg := ⟨[⟨.ld (.v 2) none, none, false⟩, ⟨.bin .add (.t 0) (.c (.int (1))), none, false⟩, ⟨.st (.v 2) (.t 0) 1, none, false⟩], [], [2], none⟩
abbrev ir_cover_Covered_1 : Fn := { np := 3, nv := 3, res := [], body :=
(.seq (.reg r_cover_Covered_1_0)
 (.cond 8 (.seq (.reg r_cover_Covered_1_1)
 (.reg r_cover_Covered_1_2)) .skip)) }
/- f38 ref01_Check : 0:w 1:inputs 2:i 3:_ -/
abbrev r_ref01_Check_0 : Reg := ⟨[⟨.mv (.c (.int (0))), none, false⟩], [], [3], none⟩
abbrev r_ref01_Check_1 : Reg := ⟨[⟨.mv (.v 1), none, false⟩, ⟨.cal F_ref01_Size [(.t 0)], none, false⟩, ⟨.not (.t 0), none, false⟩], [], [], some (8, 0)⟩
abbrev r_ref01_Check_2 : Reg := ⟨[⟨.mv (.c (.int (2))), none, false⟩], [(3, 0)], [0, 1], none⟩
abbrev r_ref01_Check_3 : Reg := ⟨[⟨.mv (.v 0), none, false⟩, ⟨.len (.t 0), none, false⟩, ⟨.bin .gtr (.t 0) (.c (.int (1024))), none, false⟩], [], [], some (11, 0)⟩
abbrev r_ref01_Check_4 : Reg := ⟨[⟨.mv (.c (.int (3))), none, false⟩], [(3, 0)], [0, 1], none⟩
abbrev r_ref01_Check_5 : Reg := ⟨[⟨.mv (.c (.int (0))), none, false⟩], [(2, 0)], [], none⟩
abbrev r_ref01_Check_6 : Reg := ⟨[⟨.mv (.v 2), none, false⟩, ⟨.mv (.v 0), none, false⟩, ⟨.len (.t 0), none, false⟩, ⟨.bin .lss (.t 2) (.t 0), none, false⟩], [], [], some (15, 0)⟩
abbrev r_ref01_Check_8 : Reg := ⟨[⟨.mv (.v 0), none, false⟩, ⟨.mv (.v 2), none, false⟩, ⟨.iad (.t 1) (.t 0) 1, none, false⟩, ⟨.ld (.t 0) none, none, false⟩, ⟨.bin .lss (.t 0) (.c (.int (0))), none, false⟩, ⟨.mv (.t 0), none, false⟩, ⟨.mv (.v 0), some (.t 0, false), false⟩, ⟨.mv (.v 2), some (.t 1, false), false⟩, ⟨.iad (.t 1) (.t 0) 1, some (.t 2, false), false⟩, ⟨.ld (.t 0) none, some (.t 3, false), false⟩, ⟨.mv (.v 1), some (.t 4, false), false⟩, ⟨.bin .geq (.t 1) (.t 0), some (.t 5, false), false⟩, ⟨.pick (.t 6) (.c (.bool true)) (.t 0), none, false⟩], [], [], some (30, 0)⟩
abbrev r_ref01_Check_9 : Reg := ⟨[⟨.mv (.c (.int (1))), none, false⟩], [(3, 0)], [0, 1, 2], none⟩
abbrev r_ref01_Check_7 : Reg := ⟨[⟨.mv (.v 2), none, false⟩, ⟨.bin .add (.t 0) (.c (.int (1))), none, false⟩, ⟨.mv (.t 0), none, false⟩], [(2, 0)], [], none⟩
abbrev b_ref01_Check_0 : IC := (.seq (.seq (.reg r_ref01_Check_6)
 (.cond 15 .skip (.exit 0)))
 (.seq (.block 1 (.seq (.reg r_ref01_Check_8)
 (.cond 30 (.seq (.reg r_ref01_Check_9)
 .ret) .skip)))
 (.reg r_ref01_Check_7)))
abbrev r_ref01_Check_10 : Reg := ⟨[⟨.mv (.c (.int (0))), none, false⟩], [(3, 0)], [0, 1, 2], none⟩
abbrev ir_ref01_Check : Fn := { np := 2, nv := 4, res := [(3, none)], body :=
(.seq (.reg r_ref01_Check_0)
 (.seq (.seq (.reg r_ref01_Check_1)
 (.cond 8 (.seq (.reg r_ref01_Check_2)
 .ret) .skip))
 (.seq (.seq (.reg r_ref01_Check_3)
 (.cond 11 (.seq (.reg r_ref01_Check_4)
 .ret) .skip))
 (.seq (.seq (.reg r_ref01_Check_5)
 (.block 0 (.loop b_ref01_Check_0)))
 (.seq (.reg r_ref01_Check_10)
 .ret))))) }
/- f39 ref10_has : 0:l 1:n 2:i 3:_ -/
abbrev r_ref10_has_0 : Reg := ⟨[⟨.mv (.c (.bool false)), none, false⟩], [], [3], none⟩
abbrev r_ref10_has_1 : Reg := ⟨[⟨.mv (.c (.int (0))), none, false⟩], [(2, 0)], [], none⟩
abbrev r_ref10_has_2 : Reg := ⟨[⟨.mv (.v 2), none, false⟩, ⟨.mv (.v 0), none, false⟩, ⟨.len (.t 0), none, false⟩, ⟨.bin .lss (.t 2) (.t 0), none, false⟩], [], [], some (9, 0)⟩
abbrev r_ref10_has_4 : Reg := ⟨[⟨.mv (.v 0), none, false⟩, ⟨.mv (.v 2), none, false⟩, ⟨.iad (.t 1) (.t 0) 1, none, false⟩, ⟨.ld (.t 0) none, none, false⟩, ⟨.mv (.v 1), none, false⟩, ⟨.bin .eql (.t 1) (.t 0), none, false⟩], [], [], some (17, 0)⟩
abbrev r_ref10_has_5 : Reg := ⟨[⟨.mv (.c (.bool true)), none, false⟩], [(3, 0)], [0, 1, 2], none⟩
abbrev r_ref10_has_3 : Reg := ⟨[⟨.mv (.v 2), none, false⟩, ⟨.bin .add (.t 0) (.c (.int (1))), none, false⟩, ⟨.mv (.t 0), none, false⟩], [(2, 0)], [], none⟩
abbrev b_ref10_has_0 : IC := (.seq (.seq (.reg r_ref10_has_2)
 (.cond 9 .skip (.exit 0)))
 (.seq (.block 1 (.seq (.reg r_ref10_has_4)
 (.cond 17 (.seq (.reg r_ref10_has_5)
 .ret) .skip)))
 (.reg r_ref10_has_3)))
abbrev r_ref10_has_6 : Reg := ⟨[⟨.mv (.c (.bool false)), none, false⟩], [(3, 0)], [0, 1, 2], none⟩
abbrev ir_ref10_has : Fn := { np := 2, nv := 4, res := [(3, none)], body :=
(.seq (.reg r_ref10_has_0)
 (.seq (.seq (.reg r_ref10_has_1)
 (.block 0 (.loop b_ref10_has_0)))
 (.seq (.reg r_ref10_has_6)
 .ret))) }
/- f40 ref06_row : 0:m 1:s 2:m 3:a 4:_ -/
abbrev r_ref06_row_0 : Reg := ⟨[⟨.bxi (.v 0), none, false⟩, ⟨.mv (.c (.int (0))), none, false⟩], [(2, 1)], [0, 4], none⟩
abbrev r_ref06_row_1 : Reg := ⟨[⟨.fad (.v 2) 2 none, none, false⟩, ⟨.ldi (.t 0) none, none, false⟩, ⟨.mv (.v 1), none, false⟩, ⟨.iad (.t 1) (.t 0) 1, none, false⟩, ⟨.ldi (.t 0) none, none, false⟩, ⟨.len (.t 0), none, false⟩, ⟨.fad (.v 2) 0 none, none, false⟩, ⟨.ldi (.t 0) none, none, false⟩, ⟨.bin .neq (.t 2) (.t 0), none, false⟩, ⟨.mv (.t 0), none, false⟩, ⟨.fad (.v 2) 3 none, some (.t 0, false), false⟩, ⟨.ldi (.t 0) none, some (.t 1, false), false⟩, ⟨.mv (.v 1), some (.t 2, false), false⟩, ⟨.iad (.t 1) (.t 0) 1, some (.t 3, false), false⟩, ⟨.ldi (.t 0) none, some (.t 4, false), false⟩, ⟨.len (.t 0), some (.t 5, false), false⟩, ⟨.fad (.v 2) 0 none, some (.t 6, false), false⟩, ⟨.ldi (.t 0) none, some (.t 7, false), false⟩, ⟨.bin .neq (.t 2) (.t 0), some (.t 8, false), false⟩, ⟨.pick (.t 9) (.c (.bool true)) (.t 0), none, false⟩], [], [], some (25, 0)⟩
abbrev r_ref06_row_2 : Reg := ⟨[⟨.mv (.c (.int (1))), none, false⟩], [(4, 0)], [1, 2], none⟩
abbrev r_ref06_row_3 : Reg := ⟨[⟨.mv (.c (.int (0))), none, false⟩], [(3, 0)], [], none⟩
abbrev r_ref06_row_4 : Reg := ⟨[⟨.mv (.v 3), none, false⟩, ⟨.fad (.v 2) 0 none, none, false⟩, ⟨.ldi (.t 0) none, none, false⟩, ⟨.bin .lss (.t 2) (.t 0), none, false⟩], [], [], some (29, 0)⟩
abbrev r_ref06_row_6 : Reg := ⟨[⟨.fad (.v 2) 2 none, none, false⟩, ⟨.ldi (.t 0) none, none, false⟩, ⟨.mv (.v 1), none, false⟩, ⟨.iad (.t 1) (.t 0) 1, none, false⟩, ⟨.ldi (.t 0) none, none, false⟩, ⟨.mv (.v 3), none, false⟩, ⟨.iad (.t 1) (.t 0) 1, none, false⟩, ⟨.ldi (.t 0) none, none, false⟩, ⟨.bin .lss (.t 0) (.c (.int (0))), none, false⟩, ⟨.mv (.t 0), none, false⟩, ⟨.fad (.v 2) 2 none, some (.t 0, false), false⟩, ⟨.ldi (.t 0) none, some (.t 1, false), false⟩, ⟨.mv (.v 1), some (.t 2, false), false⟩, ⟨.iad (.t 1) (.t 0) 1, some (.t 3, false), false⟩, ⟨.ldi (.t 0) none, some (.t 4, false), false⟩, ⟨.mv (.v 3), some (.t 5, false), false⟩, ⟨.iad (.t 1) (.t 0) 1, some (.t 6, false), false⟩, ⟨.ldi (.t 0) none, some (.t 7, false), false⟩, ⟨.fad (.v 2) 2 none, some (.t 8, false), false⟩, ⟨.ldi (.t 0) none, some (.t 9, false), false⟩, ⟨.len (.t 0), some (.t 10, false), false⟩, ⟨.bin .geq (.t 3) (.t 0), some (.t 11, false), false⟩, ⟨.pick (.t 12) (.c (.bool true)) (.t 0), none, false⟩, ⟨.mv (.t 0), none, false⟩, ⟨.fad (.v 2) 3 none, some (.t 0, false), false⟩, ⟨.ldi (.t 0) none, some (.t 1, false), false⟩, ⟨.mv (.v 1), some (.t 2, false), false⟩, ⟨.iad (.t 1) (.t 0) 1, some (.t 3, false), false⟩, ⟨.ldi (.t 0) none, some (.t 4, false), false⟩, ⟨.mv (.v 3), some (.t 5, false), false⟩, ⟨.iad (.t 1) (.t 0) 1, some (.t 6, false), false⟩, ⟨.ldi (.t 0) none, some (.t 7, false), false⟩, ⟨.bin .lss (.t 0) (.c (.int (0))), some (.t 8, false), false⟩, ⟨.pick (.t 9) (.c (.bool true)) (.t 0), none, false⟩, ⟨.mv (.t 0), none, false⟩, ⟨.fad (.v 2) 3 none, some (.t 0, false), false⟩, ⟨.ldi (.t 0) none, some (.t 1, false), false⟩, ⟨.mv (.v 1), some (.t 2, false), false⟩, ⟨.iad (.t 1) (.t 0) 1, some (.t 3, false), false⟩, ⟨.ldi (.t 0) none, some (.t 4, false), false⟩, ⟨.mv (.v 3), some (.t 5, false), false⟩, ⟨.iad (.t 1) (.t 0) 1, some (.t 6, false), false⟩, ⟨.ldi (.t 0) none, some (.t 7, false), false⟩, ⟨.bin .gtr (.t 0) (.c (.int (1048576))), some (.t 8, false), false⟩, ⟨.pick (.t 9) (.c (.bool true)) (.t 0), none, false⟩], [], [], some (76, 0)⟩
abbrev r_ref06_row_7 : Reg := ⟨[⟨.mv (.c (.int (2))), none, false⟩], [(4, 0)], [1, 2, 3], none⟩
abbrev r_ref06_row_5 : Reg := ⟨[⟨.mv (.v 3), none, false⟩, ⟨.bin .add (.t 0) (.c (.int (1))), none, false⟩, ⟨.mv (.t 0), none, false⟩], [(3, 0)], [], none⟩
abbrev b_ref06_row_0 : IC := (.seq (.seq (.reg r_ref06_row_4)
 (.cond 29 .skip (.exit 0)))
 (.seq (.block 1 (.seq (.reg r_ref06_row_6)
 (.cond 76 (.seq (.reg r_ref06_row_7)
 .ret) .skip)))
 (.reg r_ref06_row_5)))
abbrev r_ref06_row_8 : Reg := ⟨[⟨.mv (.c (.int (0))), none, false⟩], [(4, 0)], [1, 2, 3], none⟩
abbrev ir_ref06_row : Fn := { np := 2, nv := 5, res := [(4, none)], body :=
(.seq (.reg r_ref06_row_0)
 (.seq (.seq (.reg r_ref06_row_1)
 (.cond 25 (.seq (.reg r_ref06_row_2)
 .ret) .skip))
 (.seq (.seq (.reg r_ref06_row_3)
 (.block 0 (.loop b_ref06_row_0)))
 (.seq (.reg r_ref06_row_8)
 .ret)))) }
/- f41 word_Join : 0:parts 1:_ -/
abbrev r_word_Join_0 : Reg := ⟨[⟨.mv (.c (.snil)), none, false⟩], [], [1], none⟩
abbrev r_word_Join_1 : Reg := ⟨[⟨.mv (.v 0), none, false⟩, ⟨.cal F_slices_Concat_Sint_int [(.t 0)], none, false⟩, ⟨.mv (.t 0), none, false⟩], [(1, 0)], [0], none⟩
abbrev ir_word_Join : Fn := { np := 1, nv := 2, res := [(1, none)], body :=
(.seq (.reg r_word_Join_0)
 (.seq (.reg r_word_Join_1)
 .ret)) }
/- f42 wordset_Sorted : 0:l 1:_ -/
abbrev r_wordset_Sorted_0 : Reg := ⟨[⟨.mv (.c (.snil)), none, false⟩], [], [1], none⟩
abbrev r_wordset_Sorted_1 : Reg := ⟨[⟨.mv (.v 0), none, false⟩, ⟨.cal F_wordset_ordered [(.t 0), (.c (.func F_word_Compare []))], none, false⟩, ⟨.mv (.t 0), none, false⟩], [(1, 0)], [0], none⟩
abbrev ir_wordset_Sorted : Fn := { np := 1, nv := 2, res := [(1, none)], body :=
(.seq (.reg r_wordset_Sorted_0)
 (.seq (.reg r_wordset_Sorted_1)
 .ret)) }
/- f43 ref09_Extended : 0:w 1:a 2:out 3:_ -/
abbrev r_ref09_Extended_0 : Reg := ⟨[⟨.mv (.c (.snil)), none, false⟩], [], [3], none⟩
abbrev r_ref09_Extended_1 : Reg := ⟨[⟨.nl none, none, false⟩], [(2, 0)], [], none⟩
abbrev r_ref09_Extended_2 : Reg := ⟨[⟨.mv (.v 2), none, false⟩, ⟨.mv (.v 0), none, false⟩, ⟨.appw (.t 1) (.t 0) none, none, false⟩, ⟨.mv (.t 0), none, false⟩], [(2, 0)], [0], none⟩
abbrev r_ref09_Extended_3 : Reg := ⟨[⟨.mv (.v 2), none, false⟩, ⟨.mv (.v 1), none, false⟩, ⟨.lita [(.t 0)] 1, none, false⟩, ⟨.appw (.t 2) (.t 0) none, none, false⟩, ⟨.mv (.t 0), none, false⟩], [(2, 0)], [1], none⟩
abbrev r_ref09_Extended_4 : Reg := ⟨[⟨.mv (.v 2), none, false⟩, ⟨.mv (.t 0), none, false⟩], [(3, 0)], [2], none⟩
abbrev ir_ref09_Extended : Fn := { np := 2, nv := 4, res := [(3, none)], body :=
(.seq (.reg r_ref09_Extended_0)
 (.seq (.reg r_ref09_Extended_1)
 (.seq (.reg r_ref09_Extended_2)
 (.seq (.reg r_ref09_Extended_3)
 (.seq (.reg r_ref09_Extended_4)
 .ret))))) }
/- f44 wordset_parts : 0:l 1:part 2:_ 3:_ 4:_ 5:w 6:_ 7:_ 8:out 9:i 10:_ -/
abbrev r_wordset_parts_0 : Reg := ⟨[⟨.mv (.c (.snil)), none, false⟩], [], [10], none⟩
abbrev r_wordset_parts_1 : Reg := ⟨[⟨.nl none, none, false⟩], [(8, 0)], [], none⟩
abbrev r_wordset_parts_2 : Reg := ⟨[⟨.mv (.v 0), none, false⟩, ⟨.len (.t 0), none, false⟩, ⟨.mv (.c (.int (0))), none, false⟩], [(4, 2), (3, 1), (2, 0)], [0], none⟩
abbrev r_wordset_parts_3 : Reg := ⟨[⟨.bin .lss (.v 2) (.v 3), none, false⟩], [], [], some (12, 0)⟩
abbrev r_wordset_parts_4 : Reg := ⟨[⟨.iad (.v 4) (.v 2) 1, none, false⟩, ⟨.ld (.t 0) none, none, false⟩, ⟨.mv (.t 0), none, false⟩], [(5, 0)], [], none⟩
abbrev r_wordset_parts_5 : Reg := ⟨[⟨.mv (.v 5), none, false⟩, ⟨.len (.t 0), none, false⟩, ⟨.bin .add (.t 0) (.c (.int (1))), none, false⟩, ⟨.mv (.c (.int (0))), none, false⟩], [(7, 1), (6, 0)], [], none⟩
abbrev r_wordset_parts_6 : Reg := ⟨[⟨.bin .lss (.v 6) (.v 7), none, false⟩], [], [], some (19, 0)⟩
abbrev r_wordset_parts_7 : Reg := ⟨[⟨.mv (.v 6), none, false⟩, ⟨.mv (.t 0), none, false⟩], [(9, 0)], [], none⟩
abbrev r_wordset_parts_8 : Reg := ⟨[⟨.mv (.v 8), none, false⟩, ⟨.mv (.v 1), none, false⟩, ⟨.mv (.v 5), none, false⟩, ⟨.mv (.v 9), none, false⟩, ⟨.cald (.t 2) [(.t 1), (.t 0)], none, false⟩, ⟨.lita [(.t 0)] 1, none, false⟩, ⟨.appw (.t 5) (.t 0) none, none, false⟩, ⟨.mv (.t 0), none, false⟩], [(8, 0)], [9], none⟩
abbrev r_wordset_parts_9 : Reg := ⟨[⟨.bin .add (.v 6) (.c (.int (1))), none, false⟩, ⟨.mv (.t 0), none, false⟩], [(6, 0)], [], none⟩
abbrev b_wordset_parts_2 : IC := (.seq (.reg r_wordset_parts_6)
 (.seq (.cond 19 .skip (.exit 2))
 (.seq (.block 3 (.seq (.reg r_wordset_parts_7)
 (.reg r_wordset_parts_8)))
 (.reg r_wordset_parts_9))))
abbrev r_wordset_parts_10 : Reg := ⟨[⟨.bin .add (.v 2) (.c (.int (1))), none, false⟩, ⟨.mv (.t 0), none, false⟩], [(2, 0)], [5, 6, 7], none⟩
abbrev b_wordset_parts_0 : IC := (.seq (.reg r_wordset_parts_3)
 (.seq (.cond 12 .skip (.exit 0))
 (.seq (.block 1 (.seq (.reg r_wordset_parts_4)
 (.seq (.reg r_wordset_parts_5)
 (.block 2 (.loop b_wordset_parts_2)))))
 (.reg r_wordset_parts_10))))
abbrev r_wordset_parts_11 : Reg := ⟨[⟨.mv (.v 8), none, false⟩, ⟨.cal F_wordset_Sorted [(.t 0)], none, false⟩, ⟨.mv (.t 0), none, false⟩], [(10, 0)], [1, 2, 3, 4, 8], none⟩
abbrev ir_wordset_parts : Fn := { np := 2, nv := 11, res := [(10, none)], body :=
(.seq (.reg r_wordset_parts_0)
 (.seq (.reg r_wordset_parts_1)
 (.seq (.seq (.reg r_wordset_parts_2)
 (.seq (.block 0 (.loop b_wordset_parts_0)) (.frz 8)))
 (.seq (.reg r_wordset_parts_11)
 .ret)))) }
/- f45 wordset_Prefixes_1 : 0:w 1:i 2:_ -/
abbrev r_wordset_Prefixes_1_0 : Reg := ⟨[⟨.mv (.c (.snil)), none, false⟩], [], [2], none⟩
abbrev r_wordset_Prefixes_1_1 : Reg := ⟨[⟨.mv (.v 0), none, false⟩, ⟨.mv (.v 1), none, false⟩, ⟨.slc (.t 1) none (some (.t 0)) 1, none, false⟩, ⟨.mv (.t 0), none, false⟩], [(2, 0)], [0, 1], none⟩
abbrev ir_wordset_Prefixes_1 : Fn := { np := 2, nv := 3, res := [(2, none)], body :=
(.seq (.reg r_wordset_Prefixes_1_0)
 (.seq (.reg r_wordset_Prefixes_1_1)
 .ret)) }
/- f46 mealy_From : 0:m 1:s 2:w 3:m 4:e 5:e 6:r 7:out 8:_ 9:_ 10:_ -/
abbrev r_mealy_From_0 : Reg := ⟨[⟨.bxi (.v 0), none, false⟩, ⟨.mv (.c (.snil)), none, false⟩, ⟨.mv (.c (.int (0))), none, false⟩, ⟨.mv (.c (.int (0))), none, false⟩], [(3, 3)], [0, 8, 9, 10], none⟩
abbrev r_mealy_From_1 : Reg := ⟨[⟨.ldi (.v 3) (some 4), none, false⟩, ⟨.mv (.v 1), none, false⟩, ⟨.cal F_mealy_state [(.t 1), (.t 0)], none, false⟩, ⟨.mv (.t 0), none, false⟩], [(4, 0)], [], none⟩
abbrev r_mealy_From_2 : Reg := ⟨[⟨.mv (.v 4), none, false⟩, ⟨.bin .neq (.t 0) (.c (.int (0))), none, false⟩], [], [], some (17, 0)⟩
abbrev r_mealy_From_3 : Reg := ⟨[⟨.mv (.v 4), none, false⟩, ⟨.mv (.c (.snil)), none, false⟩, ⟨.mv (.c (.int (0))), none, false⟩, ⟨.mv (.t 2), none, false⟩], [(8, 2), (9, 1), (10, 0)], [1, 2, 3, 4], none⟩
abbrev r_mealy_From_4 : Reg := ⟨[⟨.mv (.v 2), none, false⟩, ⟨.fad (.v 3) 0 none, none, false⟩, ⟨.ldi (.t 0) none, none, false⟩, ⟨.cal F_word_Check [(.t 2), (.t 0)], none, false⟩, ⟨.mv (.t 0), none, false⟩], [(5, 0)], [4], none⟩
abbrev r_mealy_From_5 : Reg := ⟨[⟨.mv (.v 5), none, false⟩, ⟨.bin .neq (.t 0) (.c (.int (0))), none, false⟩], [], [], some (24, 0)⟩
abbrev r_mealy_From_6 : Reg := ⟨[⟨.mv (.v 5), none, false⟩, ⟨.mv (.c (.snil)), none, false⟩, ⟨.mv (.c (.int (0))), none, false⟩, ⟨.mv (.t 2), none, false⟩], [(8, 2), (9, 1), (10, 0)], [1, 2, 3, 5], none⟩
abbrev r_mealy_From_7 : Reg := ⟨[⟨.ldi (.v 3) (some 4), none, false⟩, ⟨.bld [.int 0, .int 0, .snil, .snil] [(0, 4, (.t 0))], none, false⟩, ⟨.mv (.v 1), none, false⟩, ⟨.bld [.int 0, .int 0, .snil, .snil, .int 0] [(0, 4, (.t 1)), (4, 1, (.t 0))], none, false⟩, ⟨.bxm (.t 0) (some 5), none, false⟩, ⟨.mv (.t 0), none, false⟩], [(6, 0)], [1, 3, 5], none⟩
abbrev r_mealy_From_8 : Reg := ⟨[⟨.mv (.v 6), none, false⟩, ⟨.mv (.v 2), none, false⟩, ⟨.cam F_mealy_runner_run [(.t 1), (.t 0)], none, false⟩, ⟨.mv (.t 0), none, false⟩], [(7, 0)], [2], none⟩
abbrev r_mealy_From_9 : Reg := ⟨[⟨.mv (.v 7), none, false⟩, ⟨.mv (.v 6), none, false⟩, ⟨.nck (.t 0), none, false⟩, ⟨.fad (.t 0) 4 none, none, false⟩, ⟨.ld (.t 0) none, none, false⟩, ⟨.mv (.t 4), none, false⟩, ⟨.mv (.t 1), none, false⟩, ⟨.mv (.c (.int (0))), none, false⟩], [(8, 2), (9, 1), (10, 0)], [6, 7], none⟩
abbrev ir_mealy_From : Fn := { np := 3, nv := 11, res := [(8, none), (9, none), (10, none)], body :=
(.seq (.reg r_mealy_From_0)
 (.seq (.seq (.reg r_mealy_From_1)
 (.seq (.reg r_mealy_From_2)
 (.cond 17 (.seq (.reg r_mealy_From_3)
 .ret) .skip)))
 (.seq (.seq (.reg r_mealy_From_4)
 (.seq (.reg r_mealy_From_5)
 (.cond 24 (.seq (.reg r_mealy_From_6)
 .ret) .skip)))
 (.seq (.reg r_mealy_From_7)
 (.seq (.reg r_mealy_From_8)
 (.seq (.reg r_mealy_From_9)
 .ret)))))) }
/- f47 cmp_Or_int : 0:vals 1:_ 2:_ 3:_ 4:val 5:zero 6:_ -/
abbrev r_cmp_Or_int_0 : Reg := ⟨[⟨.mv (.c (.int (0))), none, false⟩], [], [6], none⟩
abbrev r_cmp_Or_int_1 : Reg := ⟨[⟨.mv (.c (.int (0))), none, false⟩], [(5, 0)], [], none⟩
abbrev r_cmp_Or_int_2 : Reg := ⟨[⟨.mv (.v 0), none, false⟩, ⟨.len (.t 0), none, false⟩, ⟨.mv (.c (.int (0))), none, false⟩], [(3, 2), (2, 1), (1, 0)], [0], none⟩
abbrev r_cmp_Or_int_3 : Reg := ⟨[⟨.bin .lss (.v 1) (.v 2), none, false⟩], [], [], some (9, 0)⟩
abbrev r_cmp_Or_int_4 : Reg := ⟨[⟨.iad (.v 3) (.v 1) 1, none, false⟩, ⟨.ld (.t 0) none, none, false⟩, ⟨.mv (.t 0), none, false⟩], [(4, 0)], [], none⟩
abbrev r_cmp_Or_int_5 : Reg := ⟨[⟨.mv (.v 4), none, false⟩, ⟨.mv (.v 5), none, false⟩, ⟨.bin .neq (.t 1) (.t 0), none, false⟩], [], [], some (14, 0)⟩
abbrev r_cmp_Or_int_6 : Reg := ⟨[⟨.mv (.v 4), none, false⟩, ⟨.mv (.t 0), none, false⟩], [(6, 0)], [1, 2, 3, 4, 5], none⟩
abbrev r_cmp_Or_int_7 : Reg := ⟨[⟨.bin .add (.v 1) (.c (.int (1))), none, false⟩, ⟨.mv (.t 0), none, false⟩], [(1, 0)], [4], none⟩
abbrev b_cmp_Or_int_0 : IC := (.seq (.reg r_cmp_Or_int_3)
 (.seq (.cond 9 .skip (.exit 0))
 (.seq (.block 1 (.seq (.reg r_cmp_Or_int_4)
 (.seq (.reg r_cmp_Or_int_5)
 (.cond 14 (.seq (.reg r_cmp_Or_int_6)
 .ret) .skip))))
 (.reg r_cmp_Or_int_7))))
abbrev r_cmp_Or_int_8 : Reg := ⟨[⟨.mv (.v 5), none, false⟩, ⟨.mv (.t 0), none, false⟩], [(6, 0)], [1, 2, 3, 5], none⟩
abbrev ir_cmp_Or_int : Fn := { np := 1, nv := 7, res := [(6, none)], body :=
(.seq (.reg r_cmp_Or_int_0)
 (.seq (.reg r_cmp_Or_int_1)
 (.seq (.seq (.reg r_cmp_Or_int_2)
 (.block 0 (.loop b_cmp_Or_int_0)))
 (.seq (.reg r_cmp_Or_int_8)
 .ret)))) }
/- f48 cmp_Compare_int : 0:x 1:y 2:xNaN 3:yNaN 4:_ -/
abbrev r_cmp_Compare_int_0 : Reg := ⟨[⟨.mv (.c (.int (0))), none, false⟩], [], [4], none⟩
abbrev r_cmp_Compare_int_1 : Reg := ⟨[⟨.mv (.v 0), none, false⟩, ⟨.cal F_cmp_isNaN_int [(.t 0)], none, false⟩, ⟨.mv (.t 0), none, false⟩], [(2, 0)], [], none⟩
abbrev r_cmp_Compare_int_2 : Reg := ⟨[⟨.mv (.v 1), none, false⟩, ⟨.cal F_cmp_isNaN_int [(.t 0)], none, false⟩, ⟨.mv (.t 0), none, false⟩], [(3, 0)], [], none⟩
abbrev r_cmp_Compare_int_3 : Reg := ⟨[⟨.mv (.v 2), none, false⟩], [], [2], some (11, 0)⟩
abbrev r_cmp_Compare_int_4 : Reg := ⟨[⟨.mv (.v 3), none, false⟩], [], [0, 1, 3], some (12, 0)⟩
abbrev r_cmp_Compare_int_5 : Reg := ⟨[⟨.mv (.c (.int (0))), none, false⟩], [(4, 0)], [], none⟩
abbrev r_cmp_Compare_int_6 : Reg := ⟨[⟨.mv (.c (.int (-1))), none, false⟩], [(4, 0)], [], none⟩
abbrev r_cmp_Compare_int_7 : Reg := ⟨[⟨.mv (.v 3), none, false⟩], [], [3], some (13, 0)⟩
abbrev r_cmp_Compare_int_8 : Reg := ⟨[⟨.mv (.c (.int (1))), none, false⟩], [(4, 0)], [0, 1], none⟩
abbrev r_cmp_Compare_int_9 : Reg := ⟨[⟨.mv (.v 0), none, false⟩, ⟨.mv (.v 1), none, false⟩, ⟨.bin .lss (.t 1) (.t 0), none, false⟩], [], [], some (16, 0)⟩
abbrev r_cmp_Compare_int_10 : Reg := ⟨[⟨.mv (.c (.int (-1))), none, false⟩], [(4, 0)], [0, 1], none⟩
abbrev r_cmp_Compare_int_11 : Reg := ⟨[⟨.mv (.v 0), none, false⟩, ⟨.mv (.v 1), none, false⟩, ⟨.bin .gtr (.t 1) (.t 0), none, false⟩], [], [0, 1], some (19, 0)⟩
abbrev r_cmp_Compare_int_12 : Reg := ⟨[⟨.mv (.c (.int (1))), none, false⟩], [(4, 0)], [], none⟩
abbrev r_cmp_Compare_int_13 : Reg := ⟨[⟨.mv (.c (.int (0))), none, false⟩], [(4, 0)], [], none⟩
abbrev ir_cmp_Compare_int : Fn := { np := 2, nv := 5, res := [(4, none)], body :=
(.seq (.reg r_cmp_Compare_int_0)
 (.seq (.reg r_cmp_Compare_int_1)
 (.seq (.reg r_cmp_Compare_int_2)
 (.seq (.seq (.reg r_cmp_Compare_int_3)
 (.cond 11 (.seq (.seq (.reg r_cmp_Compare_int_4)
 (.cond 12 (.seq (.reg r_cmp_Compare_int_5)
 .ret) .skip))
 (.seq (.reg r_cmp_Compare_int_6)
 .ret)) .skip))
 (.seq (.seq (.reg r_cmp_Compare_int_7)
 (.cond 13 (.seq (.reg r_cmp_Compare_int_8)
 .ret) .skip))
 (.seq (.seq (.reg r_cmp_Compare_int_9)
 (.cond 16 (.seq (.reg r_cmp_Compare_int_10)
 .ret) .skip))
 (.seq (.seq (.reg r_cmp_Compare_int_11)
 (.cond 19 (.seq (.reg r_cmp_Compare_int_12)
 .ret) .skip))
 (.seq (.reg r_cmp_Compare_int_13)
 .ret)))))))) }
/- f49 slices_Compare_Sint_int : 0:s1 1:s2 2:_ 3:_ 4:_ 5:i 6:v1 7:v2 8:c 9:_ -/
abbrev r_slices_Compare_Sint_int_0 : Reg := ⟨[⟨.mv (.c (.int (0))), none, false⟩], [], [9], none⟩
abbrev r_slices_Compare_Sint_int_1 : Reg := ⟨[⟨.mv (.v 0), none, false⟩, ⟨.len (.t 0), none, false⟩, ⟨.mv (.c (.int (0))), none, false⟩], [(4, 2), (3, 1), (2, 0)], [], none⟩
abbrev r_slices_Compare_Sint_int_2 : Reg := ⟨[⟨.bin .lss (.v 2) (.v 3), none, false⟩], [], [], some (12, 0)⟩
abbrev r_slices_Compare_Sint_int_3 : Reg := ⟨[⟨.mv (.v 2), none, false⟩, ⟨.iad (.v 4) (.v 2) 1, none, false⟩, ⟨.ld (.t 0) none, none, false⟩, ⟨.mv (.t 2), none, false⟩, ⟨.mv (.t 1), none, false⟩], [(5, 1), (6, 0)], [], none⟩
abbrev r_slices_Compare_Sint_int_4 : Reg := ⟨[⟨.mv (.v 5), none, false⟩, ⟨.mv (.v 1), none, false⟩, ⟨.len (.t 0), none, false⟩, ⟨.bin .geq (.t 2) (.t 0), none, false⟩], [], [], some (19, 0)⟩
abbrev r_slices_Compare_Sint_int_5 : Reg := ⟨[⟨.mv (.c (.int (1))), none, false⟩], [(9, 0)], [0, 1, 2, 3, 4, 5, 6], none⟩
abbrev r_slices_Compare_Sint_int_6 : Reg := ⟨[⟨.mv (.v 1), none, false⟩, ⟨.mv (.v 5), none, false⟩, ⟨.iad (.t 1) (.t 0) 1, none, false⟩, ⟨.ld (.t 0) none, none, false⟩, ⟨.mv (.t 0), none, false⟩], [(7, 0)], [5], none⟩
abbrev r_slices_Compare_Sint_int_7 : Reg := ⟨[⟨.mv (.v 6), none, false⟩, ⟨.mv (.v 7), none, false⟩, ⟨.cal F_cmp_Compare_int [(.t 1), (.t 0)], none, false⟩, ⟨.mv (.t 0), none, false⟩], [(8, 0)], [6, 7], none⟩
abbrev r_slices_Compare_Sint_int_8 : Reg := ⟨[⟨.mv (.v 8), none, false⟩, ⟨.bin .neq (.t 0) (.c (.int (0))), none, false⟩], [], [], some (28, 0)⟩
abbrev r_slices_Compare_Sint_int_9 : Reg := ⟨[⟨.mv (.v 8), none, false⟩, ⟨.mv (.t 0), none, false⟩], [(9, 0)], [0, 1, 2, 3, 4, 8], none⟩
abbrev r_slices_Compare_Sint_int_10 : Reg := ⟨[⟨.bin .add (.v 2) (.c (.int (1))), none, false⟩, ⟨.mv (.t 0), none, false⟩], [(2, 0)], [8], none⟩
abbrev b_slices_Compare_Sint_int_0 : IC := (.seq (.reg r_slices_Compare_Sint_int_2)
 (.seq (.cond 12 .skip (.exit 0))
 (.seq (.block 1 (.seq (.reg r_slices_Compare_Sint_int_3)
 (.seq (.seq (.reg r_slices_Compare_Sint_int_4)
 (.cond 19 (.seq (.reg r_slices_Compare_Sint_int_5)
 .ret) .skip))
 (.seq (.reg r_slices_Compare_Sint_int_6)
 (.seq (.reg r_slices_Compare_Sint_int_7)
 (.seq (.reg r_slices_Compare_Sint_int_8)
 (.cond 28 (.seq (.reg r_slices_Compare_Sint_int_9)
 .ret) .skip)))))))
 (.reg r_slices_Compare_Sint_int_10))))
abbrev r_slices_Compare_Sint_int_11 : Reg := ⟨[⟨.mv (.v 0), none, false⟩, ⟨.len (.t 0), none, false⟩, ⟨.mv (.v 1), none, false⟩, ⟨.len (.t 0), none, false⟩, ⟨.bin .lss (.t 2) (.t 0), none, false⟩], [], [0, 1, 2, 3, 4], some (35, 0)⟩
abbrev r_slices_Compare_Sint_int_12 : Reg := ⟨[⟨.mv (.c (.int (-1))), none, false⟩], [(9, 0)], [], none⟩
abbrev r_slices_Compare_Sint_int_13 : Reg := ⟨[⟨.mv (.c (.int (0))), none, false⟩], [(9, 0)], [], none⟩
abbrev ir_slices_Compare_Sint_int : Fn := { np := 2, nv := 10, res := [(9, none)], body :=
(.seq (.reg r_slices_Compare_Sint_int_0)
 (.seq (.seq (.reg r_slices_Compare_Sint_int_1)
 (.block 0 (.loop b_slices_Compare_Sint_int_0)))
 (.seq (.seq (.reg r_slices_Compare_Sint_int_11)
 (.cond 35 (.seq (.reg r_slices_Compare_Sint_int_12)
 .ret) .skip))
 (.seq (.reg r_slices_Compare_Sint_int_13)
 .ret)))) }
/- f50 word_permitted : 0:inputs 1:_ -/
abbrev r_word_permitted_0 : Reg := ⟨[⟨.mv (.c (.bool false)), none, false⟩], [], [1], none⟩
abbrev r_word_permitted_1 : Reg := ⟨[⟨.mv (.v 0), none, false⟩, ⟨.bin .geq (.t 0) (.c (.int (1))), none, false⟩, ⟨.mv (.t 0), none, false⟩, ⟨.mv (.v 0), some (.t 0, true), false⟩, ⟨.bin .leq (.t 0) (.c (.int (1024))), some (.t 1, true), false⟩, ⟨.pick (.t 2) (.t 0) (.c (.bool false)), none, false⟩, ⟨.mv (.t 0), none, false⟩], [(1, 0)], [0], none⟩
abbrev ir_word_permitted : Fn := { np := 1, nv := 2, res := [(1, none)], body :=
(.seq (.reg r_word_permitted_0)
 (.seq (.reg r_word_permitted_1)
 .ret)) }
/- f51 slices_ContainsFunc_Sint_int : 0:s 1:f 2:_ -/
abbrev r_slices_ContainsFunc_Sint_int_0 : Reg := ⟨[⟨.mv (.c (.bool false)), none, false⟩], [], [2], none⟩
abbrev r_slices_ContainsFunc_Sint_int_1 : Reg := ⟨[⟨.mv (.v 0), none, false⟩, ⟨.mv (.v 1), none, false⟩, ⟨.cal F_slices_IndexFunc_Sint_int [(.t 1), (.t 0)], none, false⟩, ⟨.bin .geq (.t 0) (.c (.int (0))), none, false⟩, ⟨.mv (.t 0), none, false⟩], [(2, 0)], [0, 1], none⟩
abbrev ir_slices_ContainsFunc_Sint_int : Fn := { np := 2, nv := 3, res := [(2, none)], body :=
(.seq (.reg r_slices_ContainsFunc_Sint_int_0)
 (.seq (.reg r_slices_ContainsFunc_Sint_int_1)
 .ret)) }
/- f52 word_Check_1 : 0:a 1:_ 2:_ -/
abbrev r_word_Check_1_0 : Reg := ⟨[⟨.mv (.c (.bool false)), none, false⟩], [], [2], none⟩
abbrev r_word_Check_1_1 : Reg := ⟨[⟨.mv (.v 0), none, false⟩, ⟨.bin .lss (.t 0) (.c (.int (0))), none, false⟩, ⟨.mv (.t 0), none, false⟩, ⟨.mv (.v 0), some (.t 0, false), false⟩, ⟨.ld (.v 1) none, some (.t 1, false), false⟩, ⟨.bin .geq (.t 1) (.t 0), some (.t 2, false), false⟩, ⟨.pick (.t 3) (.c (.bool true)) (.t 0), none, false⟩, ⟨.mv (.t 0), none, false⟩], [(2, 0)], [0, 1], none⟩
abbrev ir_word_Check_1 : Fn := { np := 2, nv := 3, res := [(2, none)], body :=
(.seq (.reg r_word_Check_1_0)
 (.seq (.reg r_word_Check_1_1)
 .ret)) }
/- f53 ref01_Size : 0:inputs 1:_ -/
abbrev r_ref01_Size_0 : Reg := ⟨[⟨.mv (.c (.bool false)), none, false⟩], [], [1], none⟩
abbrev r_ref01_Size_1 : Reg := ⟨[⟨.mv (.v 0), none, false⟩, ⟨.bin .geq (.t 0) (.c (.int (1))), none, false⟩, ⟨.mv (.t 0), none, false⟩, ⟨.mv (.v 0), some (.t 0, true), false⟩, ⟨.bin .leq (.t 0) (.c (.int (1024))), some (.t 1, true), false⟩, ⟨.pick (.t 2) (.t 0) (.c (.bool false)), none, false⟩, ⟨.mv (.t 0), none, false⟩], [(1, 0)], [0], none⟩
abbrev ir_ref01_Size : Fn := { np := 1, nv := 2, res := [(1, none)], body :=
(.seq (.reg r_ref01_Size_0)
 (.seq (.reg r_ref01_Size_1)
 .ret)) }
/- f54 slices_Concat_Sint_int : 0:slices 1:_ 2:_ 3:_ 4:size 5:s 6:_ 7:_ 8:_ 9:newslice 10:s 11:_ -/
abbrev r_slices_Concat_Sint_int_0 : Reg := ⟨[⟨.mv (.c (.snil)), none, false⟩], [], [11], none⟩
abbrev r_slices_Concat_Sint_int_1 : Reg := ⟨[⟨.mv (.c (.int (0))), none, false⟩], [(4, 0)], [], none⟩
abbrev r_slices_Concat_Sint_int_2 : Reg := ⟨[⟨.mv (.v 0), none, false⟩, ⟨.len (.t 0), none, false⟩, ⟨.mv (.c (.int (0))), none, false⟩], [(3, 2), (2, 1), (1, 0)], [], none⟩
abbrev r_slices_Concat_Sint_int_3 : Reg := ⟨[⟨.bin .lss (.v 1) (.v 2), none, false⟩], [], [], some (12, 0)⟩
abbrev r_slices_Concat_Sint_int_4 : Reg := ⟨[⟨.iad (.v 3) (.v 1) 1, none, false⟩, ⟨.ld (.t 0) none, none, false⟩, ⟨.mv (.t 0), none, false⟩], [(5, 0)], [], none⟩
abbrev r_slices_Concat_Sint_int_5 : Reg := ⟨[⟨.mv (.v 4), none, false⟩, ⟨.mv (.v 5), none, false⟩, ⟨.len (.t 0), none, false⟩, ⟨.bin .add (.t 2) (.t 0), none, false⟩, ⟨.mv (.t 0), none, false⟩], [(4, 0)], [5], none⟩
abbrev r_slices_Concat_Sint_int_6 : Reg := ⟨[⟨.mv (.v 4), none, false⟩, ⟨.bin .lss (.t 0) (.c (.int (0))), none, false⟩], [], [], some (20, 0)⟩
abbrev r_slices_Concat_Sint_int_8 : Reg := ⟨[⟨.bin .add (.v 1) (.c (.int (1))), none, false⟩, ⟨.mv (.t 0), none, false⟩], [(1, 0)], [], none⟩
abbrev b_slices_Concat_Sint_int_0 : IC := (.seq (.reg r_slices_Concat_Sint_int_3)
 (.seq (.cond 12 .skip (.exit 0))
 (.seq (.block 1 (.seq (.reg r_slices_Concat_Sint_int_4)
 (.seq (.reg r_slices_Concat_Sint_int_5)
 (.seq (.reg r_slices_Concat_Sint_int_6)
 (.cond 20 .bad .skip)))))
 (.reg r_slices_Concat_Sint_int_8))))
abbrev r_slices_Concat_Sint_int_9 : Reg := ⟨[⟨.mv (.v 4), none, false⟩, ⟨.can F_slices_Grow_Sint_int [(.c (.snil)), (.t 0)], none, false⟩, ⟨.mv (.t 0), none, false⟩], [(9, 0)], [1, 2, 3, 4], none⟩
abbrev r_slices_Concat_Sint_int_10 : Reg := ⟨[⟨.mv (.v 0), none, false⟩, ⟨.len (.t 0), none, false⟩, ⟨.mv (.c (.int (0))), none, false⟩], [(8, 2), (7, 1), (6, 0)], [0], none⟩
abbrev r_slices_Concat_Sint_int_11 : Reg := ⟨[⟨.bin .lss (.v 6) (.v 7), none, false⟩], [], [], some (28, 0)⟩
abbrev r_slices_Concat_Sint_int_12 : Reg := ⟨[⟨.iad (.v 8) (.v 6) 1, none, false⟩, ⟨.ld (.t 0) none, none, false⟩, ⟨.mv (.t 0), none, false⟩], [(10, 0)], [], none⟩
abbrev r_slices_Concat_Sint_int_13 : Reg := ⟨[⟨.mv (.v 9), none, false⟩, ⟨.mv (.v 10), none, false⟩, ⟨.appw (.t 1) (.t 0) none, none, false⟩, ⟨.mv (.t 0), none, false⟩], [(9, 0)], [10], none⟩
abbrev r_slices_Concat_Sint_int_14 : Reg := ⟨[⟨.bin .add (.v 6) (.c (.int (1))), none, false⟩, ⟨.mv (.t 0), none, false⟩], [(6, 0)], [], none⟩
abbrev b_slices_Concat_Sint_int_2 : IC := (.seq (.reg r_slices_Concat_Sint_int_11)
 (.seq (.cond 28 .skip (.exit 2))
 (.seq (.block 3 (.seq (.reg r_slices_Concat_Sint_int_12)
 (.reg r_slices_Concat_Sint_int_13)))
 (.reg r_slices_Concat_Sint_int_14))))
abbrev r_slices_Concat_Sint_int_15 : Reg := ⟨[⟨.mv (.v 9), none, false⟩, ⟨.mv (.t 0), none, false⟩], [(11, 0)], [6, 7, 8, 9], none⟩
abbrev ir_slices_Concat_Sint_int : Fn := { np := 1, nv := 12, res := [(11, none)], body :=
(.seq (.reg r_slices_Concat_Sint_int_0)
 (.seq (.reg r_slices_Concat_Sint_int_1)
 (.seq (.seq (.reg r_slices_Concat_Sint_int_2)
 (.block 0 (.loop b_slices_Concat_Sint_int_0)))
 (.seq (.reg r_slices_Concat_Sint_int_9)
 (.seq (.seq (.reg r_slices_Concat_Sint_int_10)
 (.block 2 (.loop b_slices_Concat_Sint_int_2)))
 (.seq (.reg r_slices_Concat_Sint_int_15)
 .ret)))))) }
/- f55 wordset_ordered : 0:l 1:order 2:out 3:order 4:_ 5:_ 6:_ 7:i 8:w 9:_ -/
abbrev r_wordset_ordered_0 : Reg := ⟨[⟨.bxi (.v 1), none, false⟩, ⟨.mv (.c (.snil)), none, false⟩], [(3, 1)], [1, 9], none⟩
abbrev r_wordset_ordered_1 : Reg := ⟨[⟨.mv (.v 0), none, false⟩, ⟨.can F_slices_Clone_SSint_Sint [(.t 0)], none, false⟩, ⟨.mv (.t 0), none, false⟩], [(2, 0)], [0], none⟩
abbrev r_wordset_ordered_2 : Reg := ⟨[⟨.mv (.v 2), none, false⟩, ⟨.ldi (.v 3) none, none, false⟩, ⟨.cam F_slices_SortFunc_SSint_Sint [(.t 1), (.t 0)], none, false⟩], [], [], none⟩
abbrev r_wordset_ordered_3 : Reg := ⟨[⟨.mv (.v 2), none, false⟩, ⟨.mkf F_wordset_ordered_1 [(.v 3)], none, false⟩, ⟨.cam F_slices_CompactFunc_SSint_Sint [(.t 1), (.t 0)], none, false⟩, ⟨.mv (.t 0), none, false⟩], [(2, 0)], [3], none⟩
abbrev r_wordset_ordered_4 : Reg := ⟨[⟨.mv (.v 2), none, false⟩, ⟨.len (.t 0), none, false⟩, ⟨.mv (.c (.int (0))), none, false⟩], [(6, 2), (5, 1), (4, 0)], [], none⟩
abbrev r_wordset_ordered_5 : Reg := ⟨[⟨.bin .lss (.v 4) (.v 5), none, false⟩], [], [], some (19, 0)⟩
abbrev r_wordset_ordered_6 : Reg := ⟨[⟨.mv (.v 4), none, false⟩, ⟨.iad (.v 6) (.v 4) 1, none, false⟩, ⟨.ld (.t 0) none, none, false⟩, ⟨.mv (.t 2), none, false⟩, ⟨.mv (.t 1), none, false⟩], [(7, 1), (8, 0)], [], none⟩
abbrev r_wordset_ordered_7 : Reg := ⟨[⟨.mv (.v 2), none, false⟩, ⟨.mv (.v 7), none, false⟩, ⟨.mv (.v 8), none, false⟩, ⟨.cal F_slices_Clone_Sint_int [(.t 0)], none, false⟩, ⟨.iad (.t 3) (.t 2) 1, none, false⟩, ⟨.st (.t 0) (.t 1) 1, none, false⟩], [], [7, 8], none⟩
abbrev r_wordset_ordered_8 : Reg := ⟨[⟨.bin .add (.v 4) (.c (.int (1))), none, false⟩, ⟨.mv (.t 0), none, false⟩], [(4, 0)], [], none⟩
abbrev b_wordset_ordered_0 : IC := (.seq (.reg r_wordset_ordered_5)
 (.seq (.cond 19 .skip (.exit 0))
 (.seq (.block 1 (.seq (.reg r_wordset_ordered_6)
 (.reg r_wordset_ordered_7)))
 (.reg r_wordset_ordered_8))))
abbrev r_wordset_ordered_9 : Reg := ⟨[⟨.mv (.v 2), none, false⟩, ⟨.mv (.t 0), none, false⟩], [(9, 0)], [2, 4, 5, 6], none⟩
abbrev ir_wordset_ordered : Fn := { np := 2, nv := 10, res := [(9, none)], body :=
(.seq (.reg r_wordset_ordered_0)
 (.seq (.reg r_wordset_ordered_1)
 (.seq (.reg r_wordset_ordered_2)
 (.seq (.reg r_wordset_ordered_3)
 (.seq (.seq (.reg r_wordset_ordered_4)
 (.block 0 (.loop b_wordset_ordered_0)))
 (.seq (.reg r_wordset_ordered_9)
 .ret)))))) }
/- f56 mealy_state : 0:m 1:s 2:m 3:e 4:_ -/
abbrev r_mealy_state_0 : Reg := ⟨[⟨.bxi (.v 0), none, false⟩, ⟨.mv (.c (.int (0))), none, false⟩], [(2, 1)], [0, 4], none⟩
abbrev r_mealy_state_1 : Reg := ⟨[⟨.ldi (.v 2) (some 4), none, false⟩, ⟨.cal F_mealy_Valid [(.t 0)], none, false⟩, ⟨.mv (.t 0), none, false⟩], [(3, 0)], [], none⟩
abbrev r_mealy_state_2 : Reg := ⟨[⟨.mv (.v 3), none, false⟩, ⟨.bin .neq (.t 0) (.c (.int (0))), none, false⟩], [], [], some (9, 0)⟩
abbrev r_mealy_state_3 : Reg := ⟨[⟨.mv (.v 3), none, false⟩, ⟨.mv (.t 0), none, false⟩], [(4, 0)], [1, 2, 3], none⟩
abbrev r_mealy_state_4 : Reg := ⟨[⟨.mv (.v 1), none, false⟩, ⟨.bin .lss (.t 0) (.c (.int (0))), none, false⟩, ⟨.mv (.t 0), none, false⟩, ⟨.mv (.v 1), some (.t 0, false), false⟩, ⟨.fad (.v 2) 2 none, some (.t 1, false), false⟩, ⟨.ldi (.t 0) none, some (.t 2, false), false⟩, ⟨.len (.t 0), some (.t 3, false), false⟩, ⟨.bin .geq (.t 3) (.t 0), some (.t 4, false), false⟩, ⟨.pick (.t 5) (.c (.bool true)) (.t 0), none, false⟩], [], [1, 2, 3], some (19, 0)⟩
abbrev r_mealy_state_5 : Reg := ⟨[⟨.mv (.c (.int (2))), none, false⟩], [(4, 0)], [], none⟩
abbrev r_mealy_state_6 : Reg := ⟨[⟨.mv (.c (.int (0))), none, false⟩], [(4, 0)], [], none⟩
abbrev ir_mealy_state : Fn := { np := 2, nv := 5, res := [(4, none)], body :=
(.seq (.reg r_mealy_state_0)
 (.seq (.seq (.reg r_mealy_state_1)
 (.seq (.reg r_mealy_state_2)
 (.cond 9 (.seq (.reg r_mealy_state_3)
 .ret) .skip)))
 (.seq (.seq (.reg r_mealy_state_4)
 (.cond 19 (.seq (.reg r_mealy_state_5)
 .ret) .skip))
 (.seq (.reg r_mealy_state_6)
 .ret)))) }
/- f57 mealy_runner_run : 0:r 1:w 2:_ 3:_ 4:_ 5:a 6:next 7:out 8:o 9:_ -/
abbrev r_mealy_runner_run_0 : Reg := ⟨[⟨.mv (.c (.snil)), none, false⟩], [], [9], none⟩
abbrev r_mealy_runner_run_1 : Reg := ⟨[⟨.nl none, none, false⟩], [(7, 0)], [], none⟩
abbrev r_mealy_runner_run_2 : Reg := ⟨[⟨.mv (.v 1), none, false⟩, ⟨.len (.t 0), none, false⟩, ⟨.mv (.c (.int (0))), none, false⟩], [(4, 2), (3, 1), (2, 0)], [1], none⟩
abbrev r_mealy_runner_run_3 : Reg := ⟨[⟨.bin .lss (.v 2) (.v 3), none, false⟩], [], [], some (13, 0)⟩
abbrev r_mealy_runner_run_4 : Reg := ⟨[⟨.iad (.v 4) (.v 2) 1, none, false⟩, ⟨.ld (.t 0) none, none, false⟩, ⟨.mv (.t 0), none, false⟩], [(5, 0)], [], none⟩
abbrev r_mealy_runner_run_5 : Reg := ⟨[⟨.mv (.v 0), none, false⟩, ⟨.nck (.t 0), none, false⟩, ⟨.fad (.t 0) 0 (some 4), none, false⟩, ⟨.ld (.t 0) (some 4), none, false⟩, ⟨.mv (.v 0), none, false⟩, ⟨.nck (.t 0), none, false⟩, ⟨.fad (.t 0) 4 none, none, false⟩, ⟨.ld (.t 0) none, none, false⟩, ⟨.mv (.v 5), none, false⟩, ⟨.cal F_mealy_machine_move [(.t 5), (.t 1), (.t 0)], none, false⟩, ⟨.mv (.t 0), none, false⟩, ⟨.ext (.t 0) 0, none, false⟩, ⟨.ext (.t 1) 1, none, false⟩, ⟨.mv (.t 1), none, false⟩, ⟨.mv (.t 1), none, false⟩], [(6, 1), (8, 0)], [5], none⟩
abbrev r_mealy_runner_run_6 : Reg := ⟨[⟨.mv (.v 0), none, false⟩, ⟨.mv (.v 6), none, false⟩, ⟨.nck (.t 1), none, false⟩, ⟨.fad (.t 0) 4 none, none, false⟩, ⟨.st (.t 0) (.t 2) 1, none, false⟩], [], [6], none⟩
abbrev r_mealy_runner_run_7 : Reg := ⟨[⟨.mv (.v 7), none, false⟩, ⟨.mv (.v 8), none, false⟩, ⟨.lita [(.t 0)] 1, none, false⟩, ⟨.appw (.t 2) (.t 0) none, none, false⟩, ⟨.mv (.t 0), none, false⟩], [(7, 0)], [8], none⟩
abbrev r_mealy_runner_run_8 : Reg := ⟨[⟨.bin .add (.v 2) (.c (.int (1))), none, false⟩, ⟨.mv (.t 0), none, false⟩], [(2, 0)], [], none⟩
abbrev b_mealy_runner_run_0 : IC := (.seq (.reg r_mealy_runner_run_3)
 (.seq (.cond 13 .skip (.exit 0))
 (.seq (.block 1 (.seq (.reg r_mealy_runner_run_4)
 (.seq (.reg r_mealy_runner_run_5)
 (.seq (.reg r_mealy_runner_run_6)
 (.reg r_mealy_runner_run_7)))))
 (.reg r_mealy_runner_run_8))))
abbrev r_mealy_runner_run_9 : Reg := ⟨[⟨.mv (.v 7), none, false⟩, ⟨.mv (.t 0), none, false⟩], [(9, 0)], [0, 2, 3, 4, 7], none⟩
abbrev ir_mealy_runner_run : Fn := { np := 2, nv := 10, res := [(9, none)], body :=
(.seq (.reg r_mealy_runner_run_0)
 (.seq (.reg r_mealy_runner_run_1)
 (.seq (.seq (.reg r_mealy_runner_run_2)
 (.block 0 (.loop b_mealy_runner_run_0)))
 (.seq (.reg r_mealy_runner_run_9)
 .ret)))) }
/- f58 cmp_isNaN_int : 0:x 1:_ -/
abbrev r_cmp_isNaN_int_0 : Reg := ⟨[⟨.mv (.c (.bool false)), none, false⟩], [], [1], none⟩
abbrev r_cmp_isNaN_int_1 : Reg := ⟨[⟨.mv (.v 0), none, false⟩, ⟨.mv (.v 0), none, false⟩, ⟨.bin .neq (.t 1) (.t 0), none, false⟩, ⟨.mv (.t 0), none, false⟩], [(1, 0)], [0], none⟩
abbrev ir_cmp_isNaN_int : Fn := { np := 1, nv := 2, res := [(1, none)], body :=
(.seq (.reg r_cmp_isNaN_int_0)
 (.seq (.reg r_cmp_isNaN_int_1)
 .ret)) }
/- f59 slices_IndexFunc_Sint_int : 0:s 1:f 2:_ 3:_ 4:i 5:_ -/
abbrev r_slices_IndexFunc_Sint_int_0 : Reg := ⟨[⟨.mv (.c (.int (0))), none, false⟩], [], [5], none⟩
abbrev r_slices_IndexFunc_Sint_int_1 : Reg := ⟨[⟨.mv (.v 0), none, false⟩, ⟨.len (.t 0), none, false⟩, ⟨.mv (.c (.int (0))), none, false⟩], [(3, 1), (2, 0)], [], none⟩
abbrev r_slices_IndexFunc_Sint_int_2 : Reg := ⟨[⟨.bin .lss (.v 2) (.v 3), none, false⟩], [], [], some (9, 0)⟩
abbrev r_slices_IndexFunc_Sint_int_3 : Reg := ⟨[⟨.mv (.v 2), none, false⟩, ⟨.mv (.t 0), none, false⟩], [(4, 0)], [], none⟩
abbrev r_slices_IndexFunc_Sint_int_4 : Reg := ⟨[⟨.mv (.v 1), none, false⟩, ⟨.mv (.v 0), none, false⟩, ⟨.mv (.v 4), none, false⟩, ⟨.iad (.t 1) (.t 0) 1, none, false⟩, ⟨.ld (.t 0) none, none, false⟩, ⟨.cald (.t 4) [(.t 0)], none, false⟩], [], [], some (16, 0)⟩
abbrev r_slices_IndexFunc_Sint_int_5 : Reg := ⟨[⟨.mv (.v 4), none, false⟩, ⟨.mv (.t 0), none, false⟩], [(5, 0)], [0, 1, 2, 3, 4], none⟩
abbrev r_slices_IndexFunc_Sint_int_6 : Reg := ⟨[⟨.bin .add (.v 2) (.c (.int (1))), none, false⟩, ⟨.mv (.t 0), none, false⟩], [(2, 0)], [4], none⟩
abbrev b_slices_IndexFunc_Sint_int_0 : IC := (.seq (.reg r_slices_IndexFunc_Sint_int_2)
 (.seq (.cond 9 .skip (.exit 0))
 (.seq (.block 1 (.seq (.reg r_slices_IndexFunc_Sint_int_3)
 (.seq (.reg r_slices_IndexFunc_Sint_int_4)
 (.cond 16 (.seq (.reg r_slices_IndexFunc_Sint_int_5)
 .ret) .skip))))
 (.reg r_slices_IndexFunc_Sint_int_6))))
abbrev r_slices_IndexFunc_Sint_int_7 : Reg := ⟨[⟨.mv (.c (.int (-1))), none, false⟩], [(5, 0)], [0, 1, 2, 3], none⟩
abbrev ir_slices_IndexFunc_Sint_int : Fn := { np := 2, nv := 6, res := [(5, none)], body :=
(.seq (.reg r_slices_IndexFunc_Sint_int_0)
 (.seq (.seq (.reg r_slices_IndexFunc_Sint_int_1)
 (.block 0 (.loop b_slices_IndexFunc_Sint_int_0)))
 (.seq (.reg r_slices_IndexFunc_Sint_int_7)
 .ret))) }
/- f60 slices_Grow_Sint_int : 0:s 1:n 2:_ -/
abbrev r_slices_Grow_Sint_int_0 : Reg := ⟨[⟨.mv (.c (.snil)), none, false⟩], [], [2], none⟩
abbrev r_slices_Grow_Sint_int_1 : Reg := ⟨[⟨.mv (.v 1), none, false⟩, ⟨.bin .lss (.t 0) (.c (.int (0))), none, false⟩], [], [], some (6, 0)⟩
abbrev r_slices_Grow_Sint_int_3 : Reg := ⟨[⟨.mv (.v 1), none, false⟩, ⟨.mv (.v 0), none, false⟩, ⟨.capn (.t 0), none, false⟩, ⟨.mv (.v 0), none, false⟩, ⟨.len (.t 0), none, false⟩, ⟨.bin .sub (.t 2) (.t 0), none, false⟩, ⟨.bin .sub (.t 5) (.t 0), none, false⟩, ⟨.mv (.t 0), none, false⟩], [(1, 0)], [], none⟩
abbrev r_slices_Grow_Sint_int_4 : Reg := ⟨[⟨.mv (.v 1), none, false⟩, ⟨.bin .gtr (.t 0) (.c (.int (0))), none, false⟩], [], [], some (16, 0)⟩
abbrev r_slices_Grow_Sint_int_5 : Reg := ⟨[⟨.mv (.v 0), none, false⟩, ⟨.mv (.v 0), none, false⟩, ⟨.capn (.t 0), none, false⟩, ⟨.slc (.t 2) none (some (.t 0)) 1, none, false⟩, ⟨.mv (.v 1), none, false⟩, ⟨.appw (.t 1) (.t 0) none, none, false⟩, ⟨.mv (.v 0), none, false⟩, ⟨.len (.t 0), none, false⟩, ⟨.slc (.t 2) none (some (.t 0)) 1, none, false⟩, ⟨.mv (.t 0), none, false⟩], [(0, 0)], [1], none⟩
abbrev r_slices_Grow_Sint_int_6 : Reg := ⟨[⟨.mv (.v 0), none, false⟩, ⟨.mv (.t 0), none, false⟩], [(2, 0)], [0, 1], none⟩
abbrev ir_slices_Grow_Sint_int : Fn := { np := 2, nv := 3, res := [(2, none)], body :=
(.seq (.reg r_slices_Grow_Sint_int_0)
 (.seq (.seq (.reg r_slices_Grow_Sint_int_1)
 (.cond 6 .bad .skip))
 (.seq (.seq (.reg r_slices_Grow_Sint_int_3)
 (.seq (.reg r_slices_Grow_Sint_int_4)
 (.cond 16 (.reg r_slices_Grow_Sint_int_5) .skip)))
 (.seq (.reg r_slices_Grow_Sint_int_6)
 .ret)))) }
/- f61 slices_Clone_SSint_Sint : 0:s 1:_ -/
abbrev r_slices_Clone_SSint_Sint_0 : Reg := ⟨[⟨.mv (.c (.snil)), none, false⟩], [], [1], none⟩
abbrev r_slices_Clone_SSint_Sint_1 : Reg := ⟨[⟨.mv (.v 0), none, false⟩, ⟨.bnl false (.t 0), none, false⟩], [], [], some (4, 0)⟩
abbrev r_slices_Clone_SSint_Sint_2 : Reg := ⟨[⟨.mv (.c (.snil)), none, false⟩], [(1, 0)], [0], none⟩
abbrev r_slices_Clone_SSint_Sint_3 : Reg := ⟨[⟨.lita [] 1, none, false⟩, ⟨.mv (.v 0), none, false⟩, ⟨.appw (.t 1) (.t 0) none, none, false⟩, ⟨.mv (.t 0), none, false⟩], [(1, 0)], [0], none⟩
abbrev ir_slices_Clone_SSint_Sint : Fn := { np := 1, nv := 2, res := [(1, none)], body :=
(.seq (.reg r_slices_Clone_SSint_Sint_0)
 (.seq (.seq (.reg r_slices_Clone_SSint_Sint_1)
 (.cond 4 (.seq (.reg r_slices_Clone_SSint_Sint_2)
 .ret) .skip))
 (.seq (.reg r_slices_Clone_SSint_Sint_3)
 .ret))) }
/- f62 slices_SortFunc_SSint_Sint : 0:x 1:cmp 2:n -/
abbrev r_slices_SortFunc_SSint_Sint_0 : Reg := ⟨[⟨.mv (.v 0), none, false⟩, ⟨.len (.t 0), none, false⟩, ⟨.mv (.t 0), none, false⟩], [(2, 0)], [], none⟩
abbrev ir_slices_SortFunc_SSint_Sint : Fn := { np := 2, nv := 3, res := [], body :=
(.seq (.reg r_slices_SortFunc_SSint_Sint_0)
 .bad) }
/- f63 slices_CompactFunc_SSint_Sint : 0:s 1:eq 2:k 3:k2 4:s2 5:_ -/
abbrev r_slices_CompactFunc_SSint_Sint_0 : Reg := ⟨[⟨.mv (.c (.snil)), none, false⟩], [], [5], none⟩
abbrev r_slices_CompactFunc_SSint_Sint_1 : Reg := ⟨[⟨.mv (.v 0), none, false⟩, ⟨.len (.t 0), none, false⟩, ⟨.bin .lss (.t 0) (.c (.int (2))), none, false⟩], [], [], some (10, 0)⟩
abbrev r_slices_CompactFunc_SSint_Sint_2 : Reg := ⟨[⟨.mv (.v 0), none, false⟩, ⟨.mv (.t 0), none, false⟩], [(5, 0)], [0, 1], none⟩
abbrev r_slices_CompactFunc_SSint_Sint_3 : Reg := ⟨[⟨.mv (.c (.int (1))), none, false⟩], [(2, 0)], [], none⟩
abbrev r_slices_CompactFunc_SSint_Sint_4 : Reg := ⟨[⟨.mv (.v 2), none, false⟩, ⟨.mv (.v 0), none, false⟩, ⟨.len (.t 0), none, false⟩, ⟨.bin .lss (.t 2) (.t 0), none, false⟩], [], [], some (15, 0)⟩
abbrev r_slices_CompactFunc_SSint_Sint_6 : Reg := ⟨[⟨.mv (.v 1), none, false⟩, ⟨.mv (.v 0), none, false⟩, ⟨.mv (.v 2), none, false⟩, ⟨.iad (.t 1) (.t 0) 1, none, false⟩, ⟨.ld (.t 0) none, none, false⟩, ⟨.mv (.v 0), none, false⟩, ⟨.mv (.v 2), none, false⟩, ⟨.bin .sub (.t 0) (.c (.int (1))), none, false⟩, ⟨.iad (.t 2) (.t 0) 1, none, false⟩, ⟨.ld (.t 0) none, none, false⟩, ⟨.cald (.t 9) [(.t 5), (.t 0)], none, false⟩], [], [], some (28, 0)⟩
abbrev r_slices_CompactFunc_SSint_Sint_7 : Reg := ⟨[⟨.mv (.v 0), none, false⟩, ⟨.mv (.v 2), none, false⟩, ⟨.slc (.t 1) (some (.t 0)) none 1, none, false⟩, ⟨.mv (.t 0), none, false⟩], [(4, 0)], [], none⟩
abbrev r_slices_CompactFunc_SSint_Sint_8 : Reg := ⟨[⟨.mv (.c (.int (1))), none, false⟩], [(3, 0)], [], none⟩
abbrev r_slices_CompactFunc_SSint_Sint_9 : Reg := ⟨[⟨.mv (.v 3), none, false⟩, ⟨.mv (.v 4), none, false⟩, ⟨.len (.t 0), none, false⟩, ⟨.bin .lss (.t 2) (.t 0), none, false⟩], [], [], some (35, 0)⟩
abbrev r_slices_CompactFunc_SSint_Sint_11 : Reg := ⟨[⟨.mv (.v 1), none, false⟩, ⟨.mv (.v 4), none, false⟩, ⟨.mv (.v 3), none, false⟩, ⟨.iad (.t 1) (.t 0) 1, none, false⟩, ⟨.ld (.t 0) none, none, false⟩, ⟨.mv (.v 4), none, false⟩, ⟨.mv (.v 3), none, false⟩, ⟨.bin .sub (.t 0) (.c (.int (1))), none, false⟩, ⟨.iad (.t 2) (.t 0) 1, none, false⟩, ⟨.ld (.t 0) none, none, false⟩, ⟨.cald (.t 9) [(.t 5), (.t 0)], none, false⟩, ⟨.not (.t 0), none, false⟩], [], [], some (49, 0)⟩
abbrev r_slices_CompactFunc_SSint_Sint_12 : Reg := ⟨[⟨.mv (.v 0), none, false⟩, ⟨.mv (.v 2), none, false⟩, ⟨.mv (.v 4), none, false⟩, ⟨.mv (.v 3), none, false⟩, ⟨.iad (.t 1) (.t 0) 1, none, false⟩, ⟨.ld (.t 0) none, none, false⟩, ⟨.iad (.t 5) (.t 4) 1, none, false⟩, ⟨.st (.t 0) (.t 1) 1, none, false⟩], [], [], none⟩
abbrev r_slices_CompactFunc_SSint_Sint_13 : Reg := ⟨[⟨.mv (.v 2), none, false⟩, ⟨.bin .add (.t 0) (.c (.int (1))), none, false⟩, ⟨.mv (.t 0), none, false⟩], [(2, 0)], [], none⟩
abbrev r_slices_CompactFunc_SSint_Sint_10 : Reg := ⟨[⟨.mv (.v 3), none, false⟩, ⟨.bin .add (.t 0) (.c (.int (1))), none, false⟩, ⟨.mv (.t 0), none, false⟩], [(3, 0)], [], none⟩
abbrev b_slices_CompactFunc_SSint_Sint_2 : IC := (.seq (.seq (.reg r_slices_CompactFunc_SSint_Sint_9)
 (.cond 35 .skip (.exit 2)))
 (.seq (.block 3 (.seq (.reg r_slices_CompactFunc_SSint_Sint_11)
 (.cond 49 (.seq (.reg r_slices_CompactFunc_SSint_Sint_12)
 (.reg r_slices_CompactFunc_SSint_Sint_13)) .skip)))
 (.reg r_slices_CompactFunc_SSint_Sint_10)))
abbrev r_slices_CompactFunc_SSint_Sint_14 : Reg := ⟨[⟨.mv (.v 0), none, false⟩, ⟨.mv (.v 2), none, false⟩, ⟨.slc (.t 1) (some (.t 0)) none 1, none, false⟩, ⟨.clr (.t 0) [.snil] none, none, false⟩], [], [1, 3, 4], none⟩
abbrev r_slices_CompactFunc_SSint_Sint_15 : Reg := ⟨[⟨.mv (.v 0), none, false⟩, ⟨.mv (.v 2), none, false⟩, ⟨.slc (.t 1) none (some (.t 0)) 1, none, false⟩, ⟨.mv (.t 0), none, false⟩], [(5, 0)], [0, 2], none⟩
abbrev r_slices_CompactFunc_SSint_Sint_5 : Reg := ⟨[⟨.mv (.v 2), none, false⟩, ⟨.bin .add (.t 0) (.c (.int (1))), none, false⟩, ⟨.mv (.t 0), none, false⟩], [(2, 0)], [], none⟩
abbrev b_slices_CompactFunc_SSint_Sint_0 : IC := (.seq (.seq (.reg r_slices_CompactFunc_SSint_Sint_4)
 (.cond 15 .skip (.exit 0)))
 (.seq (.block 1 (.seq (.reg r_slices_CompactFunc_SSint_Sint_6)
 (.cond 28 (.seq (.reg r_slices_CompactFunc_SSint_Sint_7)
 (.seq (.seq (.reg r_slices_CompactFunc_SSint_Sint_8)
 (.block 2 (.loop b_slices_CompactFunc_SSint_Sint_2)))
 (.seq (.reg r_slices_CompactFunc_SSint_Sint_14)
 (.seq (.reg r_slices_CompactFunc_SSint_Sint_15)
 .ret)))) .skip)))
 (.reg r_slices_CompactFunc_SSint_Sint_5)))
abbrev r_slices_CompactFunc_SSint_Sint_16 : Reg := ⟨[⟨.mv (.v 0), none, false⟩, ⟨.mv (.t 0), none, false⟩], [(5, 0)], [0, 1, 2], none⟩
abbrev ir_slices_CompactFunc_SSint_Sint : Fn := { np := 2, nv := 6, res := [(5, none)], body :=
(.seq (.reg r_slices_CompactFunc_SSint_Sint_0)
 (.seq (.seq (.reg r_slices_CompactFunc_SSint_Sint_1)
 (.cond 10 (.seq (.reg r_slices_CompactFunc_SSint_Sint_2)
 .ret) .skip))
 (.seq (.seq (.reg r_slices_CompactFunc_SSint_Sint_3)
 (.block 0 (.loop b_slices_CompactFunc_SSint_Sint_0)))
 (.seq (.reg r_slices_CompactFunc_SSint_Sint_16)
 .ret)))) }
/- f64 wordset_ordered_1 : 0:a 1:b 2:_ 3:_ -/
abbrev r_wordset_ordered_1_0 : Reg := ⟨[⟨.mv (.c (.bool false)), none, false⟩], [], [3], none⟩
abbrev r_wordset_ordered_1_1 : Reg := ⟨[⟨.ld (.v 2) none, none, false⟩, ⟨.mv (.v 0), none, false⟩, ⟨.mv (.v 1), none, false⟩, ⟨.cald (.t 2) [(.t 1), (.t 0)], none, false⟩, ⟨.bin .eql (.t 0) (.c (.int (0))), none, false⟩, ⟨.mv (.t 0), none, false⟩], [(3, 0)], [0, 1, 2], none⟩
abbrev ir_wordset_ordered_1 : Fn := { np := 3, nv := 4, res := [(3, none)], body :=
(.seq (.reg r_wordset_ordered_1_0)
 (.seq (.reg r_wordset_ordered_1_1)
 .ret)) }
/- f65 slices_Clone_Sint_int : 0:s 1:_ -/
abbrev r_slices_Clone_Sint_int_0 : Reg := ⟨[⟨.mv (.c (.snil)), none, false⟩], [], [1], none⟩
abbrev r_slices_Clone_Sint_int_1 : Reg := ⟨[⟨.mv (.v 0), none, false⟩, ⟨.bnl false (.t 0), none, false⟩], [], [], some (4, 0)⟩
abbrev r_slices_Clone_Sint_int_2 : Reg := ⟨[⟨.mv (.c (.snil)), none, false⟩], [(1, 0)], [0], none⟩
abbrev r_slices_Clone_Sint_int_3 : Reg := ⟨[⟨.lita [] 1, none, false⟩, ⟨.mv (.v 0), none, false⟩, ⟨.appw (.t 1) (.t 0) none, none, false⟩, ⟨.mv (.t 0), none, false⟩], [(1, 0)], [0], none⟩
abbrev ir_slices_Clone_Sint_int : Fn := { np := 1, nv := 2, res := [(1, none)], body :=
(.seq (.reg r_slices_Clone_Sint_int_0)
 (.seq (.seq (.reg r_slices_Clone_Sint_int_1)
 (.cond 4 (.seq (.reg r_slices_Clone_Sint_int_2)
 .ret) .skip))
 (.seq (.reg r_slices_Clone_Sint_int_3)
 .ret))) }
/- f66 mealy_machine_move : 0:m 1:s 2:a 3:m 4:_ 5:_ -/
abbrev r_mealy_machine_move_0 : Reg := ⟨[⟨.bxi (.v 0), none, false⟩, ⟨.mv (.c (.int (0))), none, false⟩, ⟨.mv (.c (.int (0))), none, false⟩], [(3, 2)], [0, 4, 5], none⟩
abbrev r_mealy_machine_move_1 : Reg := ⟨[⟨.fad (.v 3) 0 (some 4), none, false⟩, ⟨.fad (.t 0) 2 none, none, false⟩, ⟨.ldi (.t 0) none, none, false⟩, ⟨.mv (.v 1), none, false⟩, ⟨.iad (.t 1) (.t 0) 1, none, false⟩, ⟨.ldi (.t 0) none, none, false⟩, ⟨.mv (.v 2), none, false⟩, ⟨.iad (.t 1) (.t 0) 1, none, false⟩, ⟨.ldi (.t 0) none, none, false⟩, ⟨.fad (.v 3) 0 (some 4), none, false⟩, ⟨.fad (.t 0) 3 none, none, false⟩, ⟨.ldi (.t 0) none, none, false⟩, ⟨.mv (.v 1), none, false⟩, ⟨.iad (.t 1) (.t 0) 1, none, false⟩, ⟨.ldi (.t 0) none, none, false⟩, ⟨.mv (.v 2), none, false⟩, ⟨.iad (.t 1) (.t 0) 1, none, false⟩, ⟨.ldi (.t 0) none, none, false⟩, ⟨.mv (.t 9), none, false⟩, ⟨.mv (.t 1), none, false⟩], [(4, 1), (5, 0)], [1, 2, 3], none⟩
abbrev ir_mealy_machine_move : Fn := { np := 3, nv := 6, res := [(4, none), (5, none)], body :=
(.seq (.reg r_mealy_machine_move_0)
 (.seq (.reg r_mealy_machine_move_1)
 .ret)) }
/- f67 slices_pdqsortCmpFunc_Sint : 0:data 1:a 2:b 3:limit 4:cmp 5:length 6:wasBalanced 7:hint 8:pivot 9:wasPartitioned 10:mid 11:alreadyPartitioned 12:mid 13:leftLen 14:rightLen 15:balanceThreshold -/
abbrev r_slices_pdqsortCmpFunc_Sint_0 : Reg := ⟨[⟨.mv (.c (.bool true)), none, false⟩], [(6, 0)], [], none⟩
abbrev r_slices_pdqsortCmpFunc_Sint_1 : Reg := ⟨[⟨.mv (.c (.bool true)), none, false⟩], [(9, 0)], [], none⟩
abbrev r_slices_pdqsortCmpFunc_Sint_2 : Reg := ⟨[⟨.mv (.v 2), none, false⟩, ⟨.mv (.v 1), none, false⟩, ⟨.bin .sub (.t 1) (.t 0), none, false⟩, ⟨.mv (.t 0), none, false⟩], [(5, 0)], [], none⟩
abbrev r_slices_pdqsortCmpFunc_Sint_3 : Reg := ⟨[⟨.mv (.v 5), none, false⟩, ⟨.bin .leq (.t 0) (.c (.int (12))), none, false⟩], [], [], some (25, 0)⟩
abbrev r_slices_pdqsortCmpFunc_Sint_4 : Reg := ⟨[⟨.mv (.v 0), none, false⟩, ⟨.mv (.v 1), none, false⟩, ⟨.mv (.v 2), none, false⟩, ⟨.mv (.v 4), none, false⟩, ⟨.cal F_slices_insertionSortCmpFunc_Sint [(.t 3), (.t 2), (.t 1), (.t 0)], none, false⟩], [], [0, 1, 2, 3, 4, 5, 6, 9], none⟩
abbrev r_slices_pdqsortCmpFunc_Sint_5 : Reg := ⟨[⟨.mv (.v 3), none, false⟩, ⟨.bin .eql (.t 0) (.c (.int (0))), none, false⟩], [], [], some (32, 0)⟩
abbrev r_slices_pdqsortCmpFunc_Sint_6 : Reg := ⟨[⟨.mv (.v 0), none, false⟩, ⟨.mv (.v 1), none, false⟩, ⟨.mv (.v 2), none, false⟩, ⟨.mv (.v 4), none, false⟩, ⟨.cal F_slices_heapSortCmpFunc_Sint [(.t 3), (.t 2), (.t 1), (.t 0)], none, false⟩], [], [0, 1, 2, 3, 4, 5, 6, 9], none⟩
abbrev r_slices_pdqsortCmpFunc_Sint_7 : Reg := ⟨[⟨.mv (.v 6), none, false⟩, ⟨.not (.t 0), none, false⟩], [], [], some (39, 0)⟩
abbrev r_slices_pdqsortCmpFunc_Sint_8 : Reg := ⟨[⟨.mv (.v 0), none, false⟩, ⟨.mv (.v 1), none, false⟩, ⟨.mv (.v 2), none, false⟩, ⟨.mv (.v 4), none, false⟩, ⟨.cal F_slices_breakPatternsCmpFunc_Sint [(.t 3), (.t 2), (.t 1), (.t 0)], none, false⟩], [], [], none⟩
abbrev r_slices_pdqsortCmpFunc_Sint_9 : Reg := ⟨[⟨.mv (.v 3), none, false⟩, ⟨.bin .sub (.t 0) (.c (.int (1))), none, false⟩, ⟨.mv (.t 0), none, false⟩], [(3, 0)], [], none⟩
abbrev r_slices_pdqsortCmpFunc_Sint_10 : Reg := ⟨[⟨.mv (.v 0), none, false⟩, ⟨.mv (.v 1), none, false⟩, ⟨.mv (.v 2), none, false⟩, ⟨.mv (.v 4), none, false⟩, ⟨.cal F_slices_choosePivotCmpFunc_Sint [(.t 3), (.t 2), (.t 1), (.t 0)], none, false⟩, ⟨.mv (.t 0), none, false⟩, ⟨.ext (.t 0) 0, none, false⟩, ⟨.ext (.t 1) 1, none, false⟩, ⟨.mv (.t 1), none, false⟩, ⟨.mv (.t 1), none, false⟩], [(8, 1), (7, 0)], [], none⟩
abbrev r_slices_pdqsortCmpFunc_Sint_11 : Reg := ⟨[⟨.mv (.v 7), none, false⟩, ⟨.bin .eql (.t 0) (.c (.int (2))), none, false⟩], [], [], some (56, 0)⟩
abbrev r_slices_pdqsortCmpFunc_Sint_12 : Reg := ⟨[⟨.mv (.v 0), none, false⟩, ⟨.mv (.v 1), none, false⟩, ⟨.mv (.v 2), none, false⟩, ⟨.mv (.v 4), none, false⟩, ⟨.cal F_slices_reverseRangeCmpFunc_Sint [(.t 3), (.t 2), (.t 1), (.t 0)], none, false⟩], [], [7], none⟩
abbrev r_slices_pdqsortCmpFunc_Sint_13 : Reg := ⟨[⟨.mv (.v 2), none, false⟩, ⟨.bin .sub (.t 0) (.c (.int (1))), none, false⟩, ⟨.mv (.v 8), none, false⟩, ⟨.mv (.v 1), none, false⟩, ⟨.bin .sub (.t 1) (.t 0), none, false⟩, ⟨.bin .sub (.t 3) (.t 0), none, false⟩, ⟨.mv (.t 0), none, false⟩], [(8, 0)], [], none⟩
abbrev r_slices_pdqsortCmpFunc_Sint_14 : Reg := ⟨[⟨.mv (.c (.int (1))), none, false⟩], [(7, 0)], [], none⟩
abbrev r_slices_pdqsortCmpFunc_Sint_15 : Reg := ⟨[⟨.mv (.v 6), none, false⟩, ⟨.mv (.t 0), none, false⟩, ⟨.mv (.v 9), some (.t 0, true), false⟩, ⟨.pick (.t 1) (.t 0) (.c (.bool false)), none, false⟩, ⟨.mv (.t 0), none, false⟩, ⟨.mv (.v 7), some (.t 0, true), false⟩, ⟨.bin .eql (.t 0) (.c (.int (1))), some (.t 1, true), false⟩, ⟨.pick (.t 2) (.t 0) (.c (.bool false)), none, false⟩], [], [7], some (75, 0)⟩
abbrev r_slices_pdqsortCmpFunc_Sint_16 : Reg := ⟨[⟨.mv (.v 0), none, false⟩, ⟨.mv (.v 1), none, false⟩, ⟨.mv (.v 2), none, false⟩, ⟨.mv (.v 4), none, false⟩, ⟨.cal F_slices_partialInsertionSortCmpFunc_Sint [(.t 3), (.t 2), (.t 1), (.t 0)], none, false⟩], [], [], some (80, 0)⟩
abbrev r_slices_pdqsortCmpFunc_Sint_17 : Reg := ⟨[⟨.mv (.v 1), none, false⟩, ⟨.bin .gtr (.t 0) (.c (.int (0))), none, false⟩, ⟨.mv (.t 0), none, false⟩, ⟨.mv (.v 4), some (.t 0, true), false⟩, ⟨.mv (.v 0), some (.t 1, true), false⟩, ⟨.mv (.v 1), some (.t 2, true), false⟩, ⟨.bin .sub (.t 0) (.c (.int (1))), some (.t 3, true), false⟩, ⟨.iad (.t 2) (.t 0) 1, some (.t 4, true), false⟩, ⟨.ld (.t 0) none, some (.t 5, true), false⟩, ⟨.mv (.v 0), some (.t 6, true), false⟩, ⟨.mv (.v 8), some (.t 7, true), false⟩, ⟨.iad (.t 1) (.t 0) 1, some (.t 8, true), false⟩, ⟨.ld (.t 0) none, some (.t 9, true), false⟩, ⟨.cald (.t 9) [(.t 4), (.t 0)], some (.t 10, true), false⟩, ⟨.bin .lss (.t 0) (.c (.int (0))), some (.t 11, true), false⟩, ⟨.not (.t 0), some (.t 12, true), false⟩, ⟨.pick (.t 13) (.t 0) (.c (.bool false)), none, false⟩], [], [], some (97, 0)⟩
abbrev r_slices_pdqsortCmpFunc_Sint_18 : Reg := ⟨[⟨.mv (.v 0), none, false⟩, ⟨.mv (.v 1), none, false⟩, ⟨.mv (.v 2), none, false⟩, ⟨.mv (.v 8), none, false⟩, ⟨.mv (.v 4), none, false⟩, ⟨.cal F_slices_partitionEqualCmpFunc_Sint [(.t 4), (.t 3), (.t 2), (.t 1), (.t 0)], none, false⟩, ⟨.mv (.t 0), none, false⟩], [(10, 0)], [1, 5, 8], none⟩
abbrev r_slices_pdqsortCmpFunc_Sint_19 : Reg := ⟨[⟨.mv (.v 10), none, false⟩, ⟨.mv (.t 0), none, false⟩], [(1, 0)], [10], none⟩
abbrev r_slices_pdqsortCmpFunc_Sint_20 : Reg := ⟨[⟨.mv (.v 0), none, false⟩, ⟨.mv (.v 1), none, false⟩, ⟨.mv (.v 2), none, false⟩, ⟨.mv (.v 8), none, false⟩, ⟨.mv (.v 4), none, false⟩, ⟨.cal F_slices_partitionCmpFunc_Sint [(.t 4), (.t 3), (.t 2), (.t 1), (.t 0)], none, false⟩, ⟨.mv (.t 0), none, false⟩, ⟨.ext (.t 0) 0, none, false⟩, ⟨.ext (.t 1) 1, none, false⟩, ⟨.mv (.t 1), none, false⟩, ⟨.mv (.t 1), none, false⟩], [(12, 1), (11, 0)], [6, 8, 9], none⟩
abbrev r_slices_pdqsortCmpFunc_Sint_21 : Reg := ⟨[⟨.mv (.v 11), none, false⟩, ⟨.mv (.t 0), none, false⟩], [(9, 0)], [11], none⟩
abbrev r_slices_pdqsortCmpFunc_Sint_22 : Reg := ⟨[⟨.mv (.v 12), none, false⟩, ⟨.mv (.v 1), none, false⟩, ⟨.bin .sub (.t 1) (.t 0), none, false⟩, ⟨.mv (.v 2), none, false⟩, ⟨.mv (.v 12), none, false⟩, ⟨.bin .sub (.t 1) (.t 0), none, false⟩, ⟨.mv (.t 3), none, false⟩, ⟨.mv (.t 1), none, false⟩], [(13, 1), (14, 0)], [], none⟩
abbrev r_slices_pdqsortCmpFunc_Sint_23 : Reg := ⟨[⟨.mv (.v 5), none, false⟩, ⟨.bin .quo (.t 0) (.c (.int (8))), none, false⟩, ⟨.mv (.t 0), none, false⟩], [(15, 0)], [5], none⟩
abbrev r_slices_pdqsortCmpFunc_Sint_24 : Reg := ⟨[⟨.mv (.v 13), none, false⟩, ⟨.mv (.v 14), none, false⟩, ⟨.bin .lss (.t 1) (.t 0), none, false⟩], [], [], some (125, 0)⟩
abbrev r_slices_pdqsortCmpFunc_Sint_25 : Reg := ⟨[⟨.mv (.v 13), none, false⟩, ⟨.mv (.v 15), none, false⟩, ⟨.bin .geq (.t 1) (.t 0), none, false⟩, ⟨.mv (.t 0), none, false⟩], [(6, 0)], [13, 14, 15], none⟩
abbrev r_slices_pdqsortCmpFunc_Sint_26 : Reg := ⟨[⟨.mv (.v 0), none, false⟩, ⟨.mv (.v 1), none, false⟩, ⟨.mv (.v 12), none, false⟩, ⟨.mv (.v 3), none, false⟩, ⟨.mv (.v 4), none, false⟩, ⟨.cal F_slices_pdqsortCmpFunc_Sint [(.t 4), (.t 3), (.t 2), (.t 1), (.t 0)], none, false⟩], [], [1], none⟩
abbrev r_slices_pdqsortCmpFunc_Sint_27 : Reg := ⟨[⟨.mv (.v 12), none, false⟩, ⟨.bin .add (.t 0) (.c (.int (1))), none, false⟩, ⟨.mv (.t 0), none, false⟩], [(1, 0)], [12], none⟩
abbrev r_slices_pdqsortCmpFunc_Sint_28 : Reg := ⟨[⟨.mv (.v 14), none, false⟩, ⟨.mv (.v 15), none, false⟩, ⟨.bin .geq (.t 1) (.t 0), none, false⟩, ⟨.mv (.t 0), none, false⟩], [(6, 0)], [13, 14, 15], none⟩
abbrev r_slices_pdqsortCmpFunc_Sint_29 : Reg := ⟨[⟨.mv (.v 0), none, false⟩, ⟨.mv (.v 12), none, false⟩, ⟨.bin .add (.t 0) (.c (.int (1))), none, false⟩, ⟨.mv (.v 2), none, false⟩, ⟨.mv (.v 3), none, false⟩, ⟨.mv (.v 4), none, false⟩, ⟨.cal F_slices_pdqsortCmpFunc_Sint [(.t 5), (.t 3), (.t 2), (.t 1), (.t 0)], none, false⟩], [], [2], none⟩
abbrev r_slices_pdqsortCmpFunc_Sint_30 : Reg := ⟨[⟨.mv (.v 12), none, false⟩, ⟨.mv (.t 0), none, false⟩], [(2, 0)], [12], none⟩
abbrev b_slices_pdqsortCmpFunc_Sint_0 : IC := (.block 1 (.seq (.reg r_slices_pdqsortCmpFunc_Sint_2)
 (.seq (.seq (.reg r_slices_pdqsortCmpFunc_Sint_3)
 (.cond 25 (.seq (.reg r_slices_pdqsortCmpFunc_Sint_4)
 .ret) .skip))
 (.seq (.seq (.reg r_slices_pdqsortCmpFunc_Sint_5)
 (.cond 32 (.seq (.reg r_slices_pdqsortCmpFunc_Sint_6)
 .ret) .skip))
 (.seq (.seq (.reg r_slices_pdqsortCmpFunc_Sint_7)
 (.cond 39 (.seq (.reg r_slices_pdqsortCmpFunc_Sint_8)
 (.reg r_slices_pdqsortCmpFunc_Sint_9)) .skip))
 (.seq (.reg r_slices_pdqsortCmpFunc_Sint_10)
 (.seq (.seq (.reg r_slices_pdqsortCmpFunc_Sint_11)
 (.cond 56 (.seq (.reg r_slices_pdqsortCmpFunc_Sint_12)
 (.seq (.reg r_slices_pdqsortCmpFunc_Sint_13)
 (.reg r_slices_pdqsortCmpFunc_Sint_14))) .skip))
 (.seq (.seq (.reg r_slices_pdqsortCmpFunc_Sint_15)
 (.cond 75 (.seq (.reg r_slices_pdqsortCmpFunc_Sint_16)
 (.cond 80 .ret .skip)) .skip))
 (.seq (.seq (.reg r_slices_pdqsortCmpFunc_Sint_17)
 (.cond 97 (.seq (.reg r_slices_pdqsortCmpFunc_Sint_18)
 (.seq (.reg r_slices_pdqsortCmpFunc_Sint_19)
 (.exit 1))) .skip))
 (.seq (.reg r_slices_pdqsortCmpFunc_Sint_20)
 (.seq (.reg r_slices_pdqsortCmpFunc_Sint_21)
 (.seq (.reg r_slices_pdqsortCmpFunc_Sint_22)
 (.seq (.reg r_slices_pdqsortCmpFunc_Sint_23)
 (.seq (.reg r_slices_pdqsortCmpFunc_Sint_24)
 (.cond 125 (.seq (.reg r_slices_pdqsortCmpFunc_Sint_25)
 (.seq (.reg r_slices_pdqsortCmpFunc_Sint_26)
 (.reg r_slices_pdqsortCmpFunc_Sint_27))) (.seq (.reg r_slices_pdqsortCmpFunc_Sint_28)
 (.seq (.reg r_slices_pdqsortCmpFunc_Sint_29)
 (.reg r_slices_pdqsortCmpFunc_Sint_30))))))))))))))))))
abbrev ir_slices_pdqsortCmpFunc_Sint : Fn := { np := 5, nv := 16, res := [], body :=
(.seq (.reg r_slices_pdqsortCmpFunc_Sint_0)
 (.seq (.reg r_slices_pdqsortCmpFunc_Sint_1)
 (.block 0 (.loop b_slices_pdqsortCmpFunc_Sint_0)))) }
/- f68 math_bits_Len : 0:x 1:_ -/
abbrev r_math_bits_Len_0 : Reg := ⟨[⟨.mv (.c (.int (0))), none, false⟩], [], [1], none⟩
abbrev r_math_bits_Len_2 : Reg := ⟨[⟨.mv (.v 0), none, false⟩, ⟨.cal F_math_bits_Len64 [(.t 0)], none, false⟩, ⟨.mv (.t 0), none, false⟩], [(1, 0)], [0], none⟩
abbrev ir_math_bits_Len : Fn := { np := 1, nv := 2, res := [(1, none)], body :=
(.seq (.reg r_math_bits_Len_0)
 (.seq (.cut false .skip)
 (.seq (.reg r_math_bits_Len_2)
 .ret))) }
/- f69 slices_insertionSortCmpFunc_Sint : 0:data 1:a 2:b 3:cmp 4:i 5:j -/
abbrev r_slices_insertionSortCmpFunc_Sint_0 : Reg := ⟨[⟨.mv (.v 1), none, false⟩, ⟨.bin .add (.t 0) (.c (.int (1))), none, false⟩, ⟨.mv (.t 0), none, false⟩], [(4, 0)], [], none⟩
abbrev r_slices_insertionSortCmpFunc_Sint_1 : Reg := ⟨[⟨.mv (.v 4), none, false⟩, ⟨.mv (.v 2), none, false⟩, ⟨.bin .lss (.t 1) (.t 0), none, false⟩], [], [], some (14, 0)⟩
abbrev r_slices_insertionSortCmpFunc_Sint_3 : Reg := ⟨[⟨.mv (.v 4), none, false⟩, ⟨.mv (.t 0), none, false⟩], [(5, 0)], [], none⟩
abbrev r_slices_insertionSortCmpFunc_Sint_4 : Reg := ⟨[⟨.mv (.v 5), none, false⟩, ⟨.mv (.v 1), none, false⟩, ⟨.bin .gtr (.t 1) (.t 0), none, false⟩, ⟨.mv (.t 0), none, false⟩, ⟨.mv (.v 3), some (.t 0, true), false⟩, ⟨.mv (.v 0), some (.t 1, true), false⟩, ⟨.mv (.v 5), some (.t 2, true), false⟩, ⟨.iad (.t 1) (.t 0) 1, some (.t 3, true), false⟩, ⟨.ld (.t 0) none, some (.t 4, true), false⟩, ⟨.mv (.v 0), some (.t 5, true), false⟩, ⟨.mv (.v 5), some (.t 6, true), false⟩, ⟨.bin .sub (.t 0) (.c (.int (1))), some (.t 7, true), false⟩, ⟨.iad (.t 2) (.t 0) 1, some (.t 8, true), false⟩, ⟨.ld (.t 0) none, some (.t 9, true), false⟩, ⟨.cald (.t 9) [(.t 5), (.t 0)], some (.t 10, true), false⟩, ⟨.bin .lss (.t 0) (.c (.int (0))), some (.t 11, true), false⟩, ⟨.pick (.t 12) (.t 0) (.c (.bool false)), none, false⟩], [], [], some (34, 0)⟩
abbrev r_slices_insertionSortCmpFunc_Sint_6 : Reg := ⟨[⟨.mv (.v 0), none, false⟩, ⟨.mv (.v 5), none, false⟩, ⟨.mv (.v 0), none, false⟩, ⟨.mv (.v 5), none, false⟩, ⟨.bin .sub (.t 0) (.c (.int (1))), none, false⟩, ⟨.mv (.v 0), none, false⟩, ⟨.mv (.v 5), none, false⟩, ⟨.bin .sub (.t 0) (.c (.int (1))), none, false⟩, ⟨.iad (.t 2) (.t 0) 1, none, false⟩, ⟨.ld (.t 0) none, none, false⟩, ⟨.mv (.v 0), none, false⟩, ⟨.mv (.v 5), none, false⟩, ⟨.iad (.t 1) (.t 0) 1, none, false⟩, ⟨.ld (.t 0) none, none, false⟩, ⟨.iad (.t 13) (.t 12) 1, none, false⟩, ⟨.st (.t 0) (.t 5) 1, none, false⟩, ⟨.iad (.t 13) (.t 11) 1, none, false⟩, ⟨.st (.t 0) (.t 3) 1, none, false⟩], [], [], none⟩
abbrev r_slices_insertionSortCmpFunc_Sint_5 : Reg := ⟨[⟨.mv (.v 5), none, false⟩, ⟨.bin .sub (.t 0) (.c (.int (1))), none, false⟩, ⟨.mv (.t 0), none, false⟩], [(5, 0)], [], none⟩
abbrev b_slices_insertionSortCmpFunc_Sint_2 : IC := (.seq (.seq (.reg r_slices_insertionSortCmpFunc_Sint_4)
 (.cond 34 .skip (.exit 2)))
 (.seq (.block 3 (.reg r_slices_insertionSortCmpFunc_Sint_6))
 (.reg r_slices_insertionSortCmpFunc_Sint_5)))
abbrev r_slices_insertionSortCmpFunc_Sint_2 : Reg := ⟨[⟨.mv (.v 4), none, false⟩, ⟨.bin .add (.t 0) (.c (.int (1))), none, false⟩, ⟨.mv (.t 0), none, false⟩], [(4, 0)], [5], none⟩
abbrev b_slices_insertionSortCmpFunc_Sint_0 : IC := (.seq (.seq (.reg r_slices_insertionSortCmpFunc_Sint_1)
 (.cond 14 .skip (.exit 0)))
 (.seq (.block 1 (.seq (.reg r_slices_insertionSortCmpFunc_Sint_3)
 (.block 2 (.loop b_slices_insertionSortCmpFunc_Sint_2))))
 (.reg r_slices_insertionSortCmpFunc_Sint_2)))
abbrev ir_slices_insertionSortCmpFunc_Sint : Fn := { np := 4, nv := 6, res := [], body :=
(.seq (.reg r_slices_insertionSortCmpFunc_Sint_0)
 (.block 0 (.loop b_slices_insertionSortCmpFunc_Sint_0))) }
/- f70 slices_heapSortCmpFunc_Sint : 0:data 1:a 2:b 3:cmp 4:hi 5:i 6:first 7:i 8:lo -/
abbrev r_slices_heapSortCmpFunc_Sint_0 : Reg := ⟨[⟨.mv (.v 1), none, false⟩, ⟨.mv (.t 0), none, false⟩], [(6, 0)], [], none⟩
abbrev r_slices_heapSortCmpFunc_Sint_1 : Reg := ⟨[⟨.mv (.c (.int (0))), none, false⟩], [(8, 0)], [], none⟩
abbrev r_slices_heapSortCmpFunc_Sint_2 : Reg := ⟨[⟨.mv (.v 2), none, false⟩, ⟨.mv (.v 1), none, false⟩, ⟨.bin .sub (.t 1) (.t 0), none, false⟩, ⟨.mv (.t 0), none, false⟩], [(4, 0)], [1, 2], none⟩
abbrev r_slices_heapSortCmpFunc_Sint_3 : Reg := ⟨[⟨.mv (.v 4), none, false⟩, ⟨.bin .sub (.t 0) (.c (.int (1))), none, false⟩, ⟨.bin .quo (.t 0) (.c (.int (2))), none, false⟩, ⟨.mv (.t 0), none, false⟩], [(5, 0)], [], none⟩
abbrev r_slices_heapSortCmpFunc_Sint_4 : Reg := ⟨[⟨.mv (.v 5), none, false⟩, ⟨.bin .geq (.t 0) (.c (.int (0))), none, false⟩], [], [], some (21, 0)⟩
abbrev r_slices_heapSortCmpFunc_Sint_6 : Reg := ⟨[⟨.mv (.v 0), none, false⟩, ⟨.mv (.v 5), none, false⟩, ⟨.mv (.v 4), none, false⟩, ⟨.mv (.v 6), none, false⟩, ⟨.mv (.v 3), none, false⟩, ⟨.cal F_slices_siftDownCmpFunc_Sint [(.t 4), (.t 3), (.t 2), (.t 1), (.t 0)], none, false⟩], [], [], none⟩
abbrev r_slices_heapSortCmpFunc_Sint_5 : Reg := ⟨[⟨.mv (.v 5), none, false⟩, ⟨.bin .sub (.t 0) (.c (.int (1))), none, false⟩, ⟨.mv (.t 0), none, false⟩], [(5, 0)], [], none⟩
abbrev b_slices_heapSortCmpFunc_Sint_0 : IC := (.seq (.seq (.reg r_slices_heapSortCmpFunc_Sint_4)
 (.cond 21 .skip (.exit 0)))
 (.seq (.block 1 (.reg r_slices_heapSortCmpFunc_Sint_6))
 (.reg r_slices_heapSortCmpFunc_Sint_5)))
abbrev r_slices_heapSortCmpFunc_Sint_7 : Reg := ⟨[⟨.mv (.v 4), none, false⟩, ⟨.bin .sub (.t 0) (.c (.int (1))), none, false⟩, ⟨.mv (.t 0), none, false⟩], [(7, 0)], [4, 5], none⟩
abbrev r_slices_heapSortCmpFunc_Sint_8 : Reg := ⟨[⟨.mv (.v 7), none, false⟩, ⟨.bin .geq (.t 0) (.c (.int (0))), none, false⟩], [], [], some (33, 0)⟩
abbrev r_slices_heapSortCmpFunc_Sint_10 : Reg := ⟨[⟨.mv (.v 0), none, false⟩, ⟨.mv (.v 6), none, false⟩, ⟨.mv (.v 0), none, false⟩, ⟨.mv (.v 6), none, false⟩, ⟨.mv (.v 7), none, false⟩, ⟨.bin .add (.t 1) (.t 0), none, false⟩, ⟨.mv (.v 0), none, false⟩, ⟨.mv (.v 6), none, false⟩, ⟨.mv (.v 7), none, false⟩, ⟨.bin .add (.t 1) (.t 0), none, false⟩, ⟨.iad (.t 3) (.t 0) 1, none, false⟩, ⟨.ld (.t 0) none, none, false⟩, ⟨.mv (.v 0), none, false⟩, ⟨.mv (.v 6), none, false⟩, ⟨.iad (.t 1) (.t 0) 1, none, false⟩, ⟨.ld (.t 0) none, none, false⟩, ⟨.iad (.t 15) (.t 14) 1, none, false⟩, ⟨.st (.t 0) (.t 5) 1, none, false⟩, ⟨.iad (.t 15) (.t 12) 1, none, false⟩, ⟨.st (.t 0) (.t 3) 1, none, false⟩], [], [], none⟩
abbrev r_slices_heapSortCmpFunc_Sint_11 : Reg := ⟨[⟨.mv (.v 0), none, false⟩, ⟨.mv (.v 8), none, false⟩, ⟨.mv (.v 7), none, false⟩, ⟨.mv (.v 6), none, false⟩, ⟨.mv (.v 3), none, false⟩, ⟨.cal F_slices_siftDownCmpFunc_Sint [(.t 4), (.t 3), (.t 2), (.t 1), (.t 0)], none, false⟩], [], [], none⟩
abbrev r_slices_heapSortCmpFunc_Sint_9 : Reg := ⟨[⟨.mv (.v 7), none, false⟩, ⟨.bin .sub (.t 0) (.c (.int (1))), none, false⟩, ⟨.mv (.t 0), none, false⟩], [(7, 0)], [], none⟩
abbrev b_slices_heapSortCmpFunc_Sint_2 : IC := (.seq (.seq (.reg r_slices_heapSortCmpFunc_Sint_8)
 (.cond 33 .skip (.exit 2)))
 (.seq (.block 3 (.seq (.reg r_slices_heapSortCmpFunc_Sint_10)
 (.reg r_slices_heapSortCmpFunc_Sint_11)))
 (.reg r_slices_heapSortCmpFunc_Sint_9)))
abbrev ir_slices_heapSortCmpFunc_Sint : Fn := { np := 4, nv := 9, res := [], body :=
(.seq (.reg r_slices_heapSortCmpFunc_Sint_0)
 (.seq (.reg r_slices_heapSortCmpFunc_Sint_1)
 (.seq (.reg r_slices_heapSortCmpFunc_Sint_2)
 (.seq (.seq (.reg r_slices_heapSortCmpFunc_Sint_3)
 (.block 0 (.loop b_slices_heapSortCmpFunc_Sint_0)))
 (.seq (.reg r_slices_heapSortCmpFunc_Sint_7)
 (.block 2 (.loop b_slices_heapSortCmpFunc_Sint_2))))))) }
/- f71 slices_breakPatternsCmpFunc_Sint : 0:data 1:a 2:b 3:cmp 4:length 5:idx 6:random 7:modulus 8:other -/
abbrev r_slices_breakPatternsCmpFunc_Sint_0 : Reg := ⟨[⟨.mv (.v 2), none, false⟩, ⟨.mv (.v 1), none, false⟩, ⟨.bin .sub (.t 1) (.t 0), none, false⟩, ⟨.mv (.t 0), none, false⟩], [(4, 0)], [2, 3], none⟩
abbrev r_slices_breakPatternsCmpFunc_Sint_1 : Reg := ⟨[⟨.mv (.v 4), none, false⟩, ⟨.bin .geq (.t 0) (.c (.int (8))), none, false⟩], [], [], some (17, 0)⟩
abbrev r_slices_breakPatternsCmpFunc_Sint_3 : Reg := ⟨[⟨.mv (.v 4), none, false⟩, ⟨.cal F_slices_nextPowerOfTwo [(.t 0)], none, false⟩, ⟨.mv (.t 0), none, false⟩], [(7, 0)], [], none⟩
abbrev r_slices_breakPatternsCmpFunc_Sint_4 : Reg := ⟨[⟨.mv (.v 1), none, false⟩, ⟨.mv (.v 4), none, false⟩, ⟨.bin .quo (.t 0) (.c (.int (4))), none, false⟩, ⟨.bin .mul (.t 0) (.c (.int (2))), none, false⟩, ⟨.bin .add (.t 3) (.t 0), none, false⟩, ⟨.bin .sub (.t 0) (.c (.int (1))), none, false⟩, ⟨.mv (.t 0), none, false⟩], [(5, 0)], [], none⟩
abbrev r_slices_breakPatternsCmpFunc_Sint_5 : Reg := ⟨[⟨.mv (.v 5), none, false⟩, ⟨.mv (.v 1), none, false⟩, ⟨.mv (.v 4), none, false⟩, ⟨.bin .quo (.t 0) (.c (.int (4))), none, false⟩, ⟨.bin .mul (.t 0) (.c (.int (2))), none, false⟩, ⟨.bin .add (.t 3) (.t 0), none, false⟩, ⟨.bin .add (.t 0) (.c (.int (1))), none, false⟩, ⟨.bin .leq (.t 6) (.t 0), none, false⟩], [], [], some (35, 0)⟩
abbrev r_slices_breakPatternsCmpFunc_Sint_8 : Reg := ⟨[⟨.mv (.v 8), none, false⟩, ⟨.mv (.v 4), none, false⟩, ⟨.bin .geq (.t 1) (.t 0), none, false⟩], [], [], some (45, 0)⟩
abbrev r_slices_breakPatternsCmpFunc_Sint_9 : Reg := ⟨[⟨.mv (.v 8), none, false⟩, ⟨.mv (.v 4), none, false⟩, ⟨.bin .sub (.t 1) (.t 0), none, false⟩, ⟨.mv (.t 0), none, false⟩], [(8, 0)], [], none⟩
abbrev r_slices_breakPatternsCmpFunc_Sint_10 : Reg := ⟨[⟨.mv (.v 0), none, false⟩, ⟨.mv (.v 5), none, false⟩, ⟨.mv (.v 0), none, false⟩, ⟨.mv (.v 1), none, false⟩, ⟨.mv (.v 8), none, false⟩, ⟨.bin .add (.t 1) (.t 0), none, false⟩, ⟨.mv (.v 0), none, false⟩, ⟨.mv (.v 1), none, false⟩, ⟨.mv (.v 8), none, false⟩, ⟨.bin .add (.t 1) (.t 0), none, false⟩, ⟨.iad (.t 3) (.t 0) 1, none, false⟩, ⟨.ld (.t 0) none, none, false⟩, ⟨.mv (.v 0), none, false⟩, ⟨.mv (.v 5), none, false⟩, ⟨.iad (.t 1) (.t 0) 1, none, false⟩, ⟨.ld (.t 0) none, none, false⟩, ⟨.iad (.t 15) (.t 14) 1, none, false⟩, ⟨.st (.t 0) (.t 5) 1, none, false⟩, ⟨.iad (.t 15) (.t 12) 1, none, false⟩, ⟨.st (.t 0) (.t 3) 1, none, false⟩], [], [8], none⟩
abbrev r_slices_breakPatternsCmpFunc_Sint_6 : Reg := ⟨[⟨.mv (.v 5), none, false⟩, ⟨.bin .add (.t 0) (.c (.int (1))), none, false⟩, ⟨.mv (.t 0), none, false⟩], [(5, 0)], [], none⟩
abbrev b_slices_breakPatternsCmpFunc_Sint_0 : IC := (.seq (.seq (.reg r_slices_breakPatternsCmpFunc_Sint_5)
 (.cond 35 .skip (.exit 0)))
 (.seq (.block 1 (.seq .bad
 (.seq (.seq (.reg r_slices_breakPatternsCmpFunc_Sint_8)
 (.cond 45 (.reg r_slices_breakPatternsCmpFunc_Sint_9) .skip))
 (.reg r_slices_breakPatternsCmpFunc_Sint_10))))
 (.reg r_slices_breakPatternsCmpFunc_Sint_6)))
abbrev ir_slices_breakPatternsCmpFunc_Sint : Fn := { np := 4, nv := 9, res := [], body :=
(.seq (.reg r_slices_breakPatternsCmpFunc_Sint_0)
 (.seq (.reg r_slices_breakPatternsCmpFunc_Sint_1)
 (.cond 17 (.seq .bad
 (.seq (.reg r_slices_breakPatternsCmpFunc_Sint_3)
 (.seq (.reg r_slices_breakPatternsCmpFunc_Sint_4)
 (.block 0 (.loop b_slices_breakPatternsCmpFunc_Sint_0))))) .skip))) }
/- f72 slices_choosePivotCmpFunc_Sint : 0:data 1:a 2:b 3:cmp 4:l 5:i 6:swaps 7:j 8:k 9:_ 10:pivot 11:hint -/
abbrev r_slices_choosePivotCmpFunc_Sint_0 : Reg := ⟨[⟨.mv (.c (.int (0))), none, false⟩, ⟨.mv (.c (.int (0))), none, false⟩], [], [10, 11], none⟩
abbrev r_slices_choosePivotCmpFunc_Sint_1 : Reg := ⟨[⟨.mv (.v 2), none, false⟩, ⟨.mv (.v 1), none, false⟩, ⟨.bin .sub (.t 1) (.t 0), none, false⟩, ⟨.mv (.t 0), none, false⟩], [(4, 0)], [2], none⟩
abbrev r_slices_choosePivotCmpFunc_Sint_2 : Reg := ⟨[⟨.alc [.int 0] none, none, false⟩], [(6, 0)], [], none⟩
abbrev r_slices_choosePivotCmpFunc_Sint_3 : Reg := ⟨[⟨.mv (.v 1), none, false⟩, ⟨.mv (.v 4), none, false⟩, ⟨.bin .quo (.t 0) (.c (.int (4))), none, false⟩, ⟨.bin .mul (.t 0) (.c (.int (1))), none, false⟩, ⟨.bin .add (.t 3) (.t 0), none, false⟩, ⟨.mv (.t 0), none, false⟩], [(5, 0)], [], none⟩
abbrev r_slices_choosePivotCmpFunc_Sint_4 : Reg := ⟨[⟨.mv (.v 1), none, false⟩, ⟨.mv (.v 4), none, false⟩, ⟨.bin .quo (.t 0) (.c (.int (4))), none, false⟩, ⟨.bin .mul (.t 0) (.c (.int (2))), none, false⟩, ⟨.bin .add (.t 3) (.t 0), none, false⟩, ⟨.mv (.t 0), none, false⟩], [(7, 0)], [], none⟩
abbrev r_slices_choosePivotCmpFunc_Sint_5 : Reg := ⟨[⟨.mv (.v 1), none, false⟩, ⟨.mv (.v 4), none, false⟩, ⟨.bin .quo (.t 0) (.c (.int (4))), none, false⟩, ⟨.bin .mul (.t 0) (.c (.int (3))), none, false⟩, ⟨.bin .add (.t 3) (.t 0), none, false⟩, ⟨.mv (.t 0), none, false⟩], [(8, 0)], [1], none⟩
abbrev r_slices_choosePivotCmpFunc_Sint_6 : Reg := ⟨[⟨.mv (.v 4), none, false⟩, ⟨.bin .geq (.t 0) (.c (.int (8))), none, false⟩], [], [], some (34, 0)⟩
abbrev r_slices_choosePivotCmpFunc_Sint_7 : Reg := ⟨[⟨.mv (.v 4), none, false⟩, ⟨.bin .geq (.t 0) (.c (.int (50))), none, false⟩], [], [4], some (36, 0)⟩
abbrev r_slices_choosePivotCmpFunc_Sint_8 : Reg := ⟨[⟨.mv (.v 0), none, false⟩, ⟨.mv (.v 5), none, false⟩, ⟨.mv (.v 3), none, false⟩, ⟨.cal F_slices_medianAdjacentCmpFunc_Sint [(.t 2), (.t 1), (.v 6), (.t 0)], none, false⟩, ⟨.mv (.t 0), none, false⟩], [(5, 0)], [], none⟩
abbrev r_slices_choosePivotCmpFunc_Sint_9 : Reg := ⟨[⟨.mv (.v 0), none, false⟩, ⟨.mv (.v 7), none, false⟩, ⟨.mv (.v 3), none, false⟩, ⟨.cal F_slices_medianAdjacentCmpFunc_Sint [(.t 2), (.t 1), (.v 6), (.t 0)], none, false⟩, ⟨.mv (.t 0), none, false⟩], [(7, 0)], [], none⟩
abbrev r_slices_choosePivotCmpFunc_Sint_10 : Reg := ⟨[⟨.mv (.v 0), none, false⟩, ⟨.mv (.v 8), none, false⟩, ⟨.mv (.v 3), none, false⟩, ⟨.cal F_slices_medianAdjacentCmpFunc_Sint [(.t 2), (.t 1), (.v 6), (.t 0)], none, false⟩, ⟨.mv (.t 0), none, false⟩], [(8, 0)], [], none⟩
abbrev r_slices_choosePivotCmpFunc_Sint_11 : Reg := ⟨[⟨.mv (.v 0), none, false⟩, ⟨.mv (.v 5), none, false⟩, ⟨.mv (.v 7), none, false⟩, ⟨.mv (.v 8), none, false⟩, ⟨.mv (.v 3), none, false⟩, ⟨.cal F_slices_medianCmpFunc_Sint [(.t 4), (.t 3), (.t 2), (.t 1), (.v 6), (.t 0)], none, false⟩, ⟨.mv (.t 0), none, false⟩], [(7, 0)], [0, 3, 5, 8], none⟩
abbrev r_slices_choosePivotCmpFunc_Sint_12 : Reg := ⟨[⟨.ld (.v 6) none, none, false⟩], [(9, 0)], [0, 3, 4, 5, 6, 8], none⟩
abbrev r_slices_choosePivotCmpFunc_Sint_14 : Reg := ⟨[⟨.bin .eql (.v 9) (.c (.int (0))), none, false⟩, ⟨.mv (.t 0), none, false⟩], [], [], some (57, 0)⟩
abbrev r_slices_choosePivotCmpFunc_Sint_15 : Reg := ⟨[⟨.mv (.v 7), none, false⟩, ⟨.mv (.t 0), none, false⟩, ⟨.mv (.c (.int (1))), none, false⟩], [(10, 1), (11, 0)], [7, 9], none⟩
abbrev r_slices_choosePivotCmpFunc_Sint_16 : Reg := ⟨[⟨.bin .eql (.v 9) (.c (.int (12))), none, false⟩, ⟨.mv (.t 0), none, false⟩], [], [9], some (60, 0)⟩
abbrev r_slices_choosePivotCmpFunc_Sint_17 : Reg := ⟨[⟨.mv (.v 7), none, false⟩, ⟨.mv (.t 0), none, false⟩, ⟨.mv (.c (.int (2))), none, false⟩], [(10, 1), (11, 0)], [7], none⟩
abbrev r_slices_choosePivotCmpFunc_Sint_13 : Reg := ⟨[⟨.mv (.v 7), none, false⟩, ⟨.mv (.t 0), none, false⟩, ⟨.mv (.c (.int (0))), none, false⟩], [(10, 1), (11, 0)], [7], none⟩
abbrev ir_slices_choosePivotCmpFunc_Sint : Fn := { np := 4, nv := 12, res := [(10, none), (11, none)], body :=
(.seq (.reg r_slices_choosePivotCmpFunc_Sint_0)
 (.seq (.reg r_slices_choosePivotCmpFunc_Sint_1)
 (.seq (.reg r_slices_choosePivotCmpFunc_Sint_2)
 (.seq (.reg r_slices_choosePivotCmpFunc_Sint_3)
 (.seq (.reg r_slices_choosePivotCmpFunc_Sint_4)
 (.seq (.reg r_slices_choosePivotCmpFunc_Sint_5)
 (.seq (.seq (.reg r_slices_choosePivotCmpFunc_Sint_6)
 (.cond 34 (.seq (.seq (.reg r_slices_choosePivotCmpFunc_Sint_7)
 (.cond 36 (.seq (.reg r_slices_choosePivotCmpFunc_Sint_8)
 (.seq (.reg r_slices_choosePivotCmpFunc_Sint_9)
 (.reg r_slices_choosePivotCmpFunc_Sint_10))) .skip))
 (.reg r_slices_choosePivotCmpFunc_Sint_11)) .skip))
 (.seq (.reg r_slices_choosePivotCmpFunc_Sint_12)
 (.block 0 (.seq (.reg r_slices_choosePivotCmpFunc_Sint_14)
 (.cond 57 (.seq (.reg r_slices_choosePivotCmpFunc_Sint_15)
 .ret) (.seq (.reg r_slices_choosePivotCmpFunc_Sint_16)
 (.cond 60 (.seq (.reg r_slices_choosePivotCmpFunc_Sint_17)
 .ret) (.seq (.reg r_slices_choosePivotCmpFunc_Sint_13)
 .ret)))))))))))))) }
/- f73 slices_reverseRangeCmpFunc_Sint : 0:data 1:a 2:b 3:cmp 4:i 5:j -/
abbrev r_slices_reverseRangeCmpFunc_Sint_0 : Reg := ⟨[⟨.mv (.v 1), none, false⟩, ⟨.mv (.t 0), none, false⟩], [(4, 0)], [1, 3], none⟩
abbrev r_slices_reverseRangeCmpFunc_Sint_1 : Reg := ⟨[⟨.mv (.v 2), none, false⟩, ⟨.bin .sub (.t 0) (.c (.int (1))), none, false⟩, ⟨.mv (.t 0), none, false⟩], [(5, 0)], [2], none⟩
abbrev r_slices_reverseRangeCmpFunc_Sint_2 : Reg := ⟨[⟨.mv (.v 4), none, false⟩, ⟨.mv (.v 5), none, false⟩, ⟨.bin .lss (.t 1) (.t 0), none, false⟩], [], [], some (15, 0)⟩
abbrev r_slices_reverseRangeCmpFunc_Sint_3 : Reg := ⟨[⟨.mv (.v 0), none, false⟩, ⟨.mv (.v 4), none, false⟩, ⟨.mv (.v 0), none, false⟩, ⟨.mv (.v 5), none, false⟩, ⟨.mv (.v 0), none, false⟩, ⟨.mv (.v 5), none, false⟩, ⟨.iad (.t 1) (.t 0) 1, none, false⟩, ⟨.ld (.t 0) none, none, false⟩, ⟨.mv (.v 0), none, false⟩, ⟨.mv (.v 4), none, false⟩, ⟨.iad (.t 1) (.t 0) 1, none, false⟩, ⟨.ld (.t 0) none, none, false⟩, ⟨.iad (.t 11) (.t 10) 1, none, false⟩, ⟨.st (.t 0) (.t 5) 1, none, false⟩, ⟨.iad (.t 11) (.t 10) 1, none, false⟩, ⟨.st (.t 0) (.t 3) 1, none, false⟩], [], [], none⟩
abbrev r_slices_reverseRangeCmpFunc_Sint_4 : Reg := ⟨[⟨.mv (.v 4), none, false⟩, ⟨.bin .add (.t 0) (.c (.int (1))), none, false⟩, ⟨.mv (.t 0), none, false⟩], [(4, 0)], [], none⟩
abbrev r_slices_reverseRangeCmpFunc_Sint_5 : Reg := ⟨[⟨.mv (.v 5), none, false⟩, ⟨.bin .sub (.t 0) (.c (.int (1))), none, false⟩, ⟨.mv (.t 0), none, false⟩], [(5, 0)], [], none⟩
abbrev b_slices_reverseRangeCmpFunc_Sint_0 : IC := (.seq (.seq (.reg r_slices_reverseRangeCmpFunc_Sint_2)
 (.cond 15 .skip (.exit 0)))
 (.block 1 (.seq (.reg r_slices_reverseRangeCmpFunc_Sint_3)
 (.seq (.reg r_slices_reverseRangeCmpFunc_Sint_4)
 (.reg r_slices_reverseRangeCmpFunc_Sint_5)))))
abbrev ir_slices_reverseRangeCmpFunc_Sint : Fn := { np := 4, nv := 6, res := [], body :=
(.seq (.reg r_slices_reverseRangeCmpFunc_Sint_0)
 (.seq (.reg r_slices_reverseRangeCmpFunc_Sint_1)
 (.block 0 (.loop b_slices_reverseRangeCmpFunc_Sint_0)))) }
/- f74 slices_partialInsertionSortCmpFunc_Sint : 0:data 1:a 2:b 3:cmp 4:j 5:i 6:j 7:j 8:_ -/
abbrev r_slices_partialInsertionSortCmpFunc_Sint_0 : Reg := ⟨[⟨.mv (.c (.bool false)), none, false⟩], [], [8], none⟩
abbrev r_slices_partialInsertionSortCmpFunc_Sint_1 : Reg := ⟨[⟨.mv (.v 1), none, false⟩, ⟨.bin .add (.t 0) (.c (.int (1))), none, false⟩, ⟨.mv (.t 0), none, false⟩], [(5, 0)], [], none⟩
abbrev r_slices_partialInsertionSortCmpFunc_Sint_2 : Reg := ⟨[⟨.mv (.c (.int (0))), none, false⟩], [(4, 0)], [], none⟩
abbrev r_slices_partialInsertionSortCmpFunc_Sint_3 : Reg := ⟨[⟨.mv (.v 4), none, false⟩, ⟨.bin .lss (.t 0) (.c (.int (5))), none, false⟩], [], [], some (16, 0)⟩
abbrev r_slices_partialInsertionSortCmpFunc_Sint_5 : Reg := ⟨[⟨.mv (.v 5), none, false⟩, ⟨.mv (.v 2), none, false⟩, ⟨.bin .lss (.t 1) (.t 0), none, false⟩, ⟨.mv (.t 0), none, false⟩, ⟨.mv (.v 3), some (.t 0, true), false⟩, ⟨.mv (.v 0), some (.t 1, true), false⟩, ⟨.mv (.v 5), some (.t 2, true), false⟩, ⟨.iad (.t 1) (.t 0) 1, some (.t 3, true), false⟩, ⟨.ld (.t 0) none, some (.t 4, true), false⟩, ⟨.mv (.v 0), some (.t 5, true), false⟩, ⟨.mv (.v 5), some (.t 6, true), false⟩, ⟨.bin .sub (.t 0) (.c (.int (1))), some (.t 7, true), false⟩, ⟨.iad (.t 2) (.t 0) 1, some (.t 8, true), false⟩, ⟨.ld (.t 0) none, some (.t 9, true), false⟩, ⟨.cald (.t 9) [(.t 5), (.t 0)], some (.t 10, true), false⟩, ⟨.bin .lss (.t 0) (.c (.int (0))), some (.t 11, true), false⟩, ⟨.not (.t 0), some (.t 12, true), false⟩, ⟨.pick (.t 13) (.t 0) (.c (.bool false)), none, false⟩], [], [], some (36, 0)⟩
abbrev r_slices_partialInsertionSortCmpFunc_Sint_6 : Reg := ⟨[⟨.mv (.v 5), none, false⟩, ⟨.bin .add (.t 0) (.c (.int (1))), none, false⟩, ⟨.mv (.t 0), none, false⟩], [(5, 0)], [], none⟩
abbrev b_slices_partialInsertionSortCmpFunc_Sint_2 : IC := (.seq (.seq (.reg r_slices_partialInsertionSortCmpFunc_Sint_5)
 (.cond 36 .skip (.exit 2)))
 (.block 3 (.reg r_slices_partialInsertionSortCmpFunc_Sint_6)))
abbrev r_slices_partialInsertionSortCmpFunc_Sint_7 : Reg := ⟨[⟨.mv (.v 5), none, false⟩, ⟨.mv (.v 2), none, false⟩, ⟨.bin .eql (.t 1) (.t 0), none, false⟩], [], [], some (41, 0)⟩
abbrev r_slices_partialInsertionSortCmpFunc_Sint_8 : Reg := ⟨[⟨.mv (.c (.bool true)), none, false⟩], [(8, 0)], [0, 1, 2, 3, 4, 5], none⟩
abbrev r_slices_partialInsertionSortCmpFunc_Sint_9 : Reg := ⟨[⟨.mv (.v 2), none, false⟩, ⟨.mv (.v 1), none, false⟩, ⟨.bin .sub (.t 1) (.t 0), none, false⟩, ⟨.bin .lss (.t 0) (.c (.int (50))), none, false⟩], [], [], some (45, 0)⟩
abbrev r_slices_partialInsertionSortCmpFunc_Sint_10 : Reg := ⟨[⟨.mv (.c (.bool false)), none, false⟩], [(8, 0)], [0, 1, 2, 3, 4, 5], none⟩
abbrev r_slices_partialInsertionSortCmpFunc_Sint_11 : Reg := ⟨[⟨.mv (.v 0), none, false⟩, ⟨.mv (.v 5), none, false⟩, ⟨.mv (.v 0), none, false⟩, ⟨.mv (.v 5), none, false⟩, ⟨.bin .sub (.t 0) (.c (.int (1))), none, false⟩, ⟨.mv (.v 0), none, false⟩, ⟨.mv (.v 5), none, false⟩, ⟨.bin .sub (.t 0) (.c (.int (1))), none, false⟩, ⟨.iad (.t 2) (.t 0) 1, none, false⟩, ⟨.ld (.t 0) none, none, false⟩, ⟨.mv (.v 0), none, false⟩, ⟨.mv (.v 5), none, false⟩, ⟨.iad (.t 1) (.t 0) 1, none, false⟩, ⟨.ld (.t 0) none, none, false⟩, ⟨.iad (.t 13) (.t 12) 1, none, false⟩, ⟨.st (.t 0) (.t 5) 1, none, false⟩, ⟨.iad (.t 13) (.t 11) 1, none, false⟩, ⟨.st (.t 0) (.t 3) 1, none, false⟩], [], [], none⟩
abbrev r_slices_partialInsertionSortCmpFunc_Sint_12 : Reg := ⟨[⟨.mv (.v 5), none, false⟩, ⟨.mv (.v 1), none, false⟩, ⟨.bin .sub (.t 1) (.t 0), none, false⟩, ⟨.bin .geq (.t 0) (.c (.int (2))), none, false⟩], [], [], some (65, 0)⟩
abbrev r_slices_partialInsertionSortCmpFunc_Sint_13 : Reg := ⟨[⟨.mv (.v 5), none, false⟩, ⟨.bin .sub (.t 0) (.c (.int (1))), none, false⟩, ⟨.mv (.t 0), none, false⟩], [(6, 0)], [], none⟩
abbrev r_slices_partialInsertionSortCmpFunc_Sint_14 : Reg := ⟨[⟨.mv (.v 6), none, false⟩, ⟨.bin .geq (.t 0) (.c (.int (1))), none, false⟩], [], [], some (69, 0)⟩
abbrev r_slices_partialInsertionSortCmpFunc_Sint_16 : Reg := ⟨[⟨.mv (.v 3), none, false⟩, ⟨.mv (.v 0), none, false⟩, ⟨.mv (.v 6), none, false⟩, ⟨.iad (.t 1) (.t 0) 1, none, false⟩, ⟨.ld (.t 0) none, none, false⟩, ⟨.mv (.v 0), none, false⟩, ⟨.mv (.v 6), none, false⟩, ⟨.bin .sub (.t 0) (.c (.int (1))), none, false⟩, ⟨.iad (.t 2) (.t 0) 1, none, false⟩, ⟨.ld (.t 0) none, none, false⟩, ⟨.cald (.t 9) [(.t 5), (.t 0)], none, false⟩, ⟨.bin .lss (.t 0) (.c (.int (0))), none, false⟩, ⟨.not (.t 0), none, false⟩], [], [], some (84, 0)⟩
abbrev r_slices_partialInsertionSortCmpFunc_Sint_17 : Reg := ⟨[⟨.mv (.v 0), none, false⟩, ⟨.mv (.v 6), none, false⟩, ⟨.mv (.v 0), none, false⟩, ⟨.mv (.v 6), none, false⟩, ⟨.bin .sub (.t 0) (.c (.int (1))), none, false⟩, ⟨.mv (.v 0), none, false⟩, ⟨.mv (.v 6), none, false⟩, ⟨.bin .sub (.t 0) (.c (.int (1))), none, false⟩, ⟨.iad (.t 2) (.t 0) 1, none, false⟩, ⟨.ld (.t 0) none, none, false⟩, ⟨.mv (.v 0), none, false⟩, ⟨.mv (.v 6), none, false⟩, ⟨.iad (.t 1) (.t 0) 1, none, false⟩, ⟨.ld (.t 0) none, none, false⟩, ⟨.iad (.t 13) (.t 12) 1, none, false⟩, ⟨.st (.t 0) (.t 5) 1, none, false⟩, ⟨.iad (.t 13) (.t 11) 1, none, false⟩, ⟨.st (.t 0) (.t 3) 1, none, false⟩], [], [], none⟩
abbrev r_slices_partialInsertionSortCmpFunc_Sint_15 : Reg := ⟨[⟨.mv (.v 6), none, false⟩, ⟨.bin .sub (.t 0) (.c (.int (1))), none, false⟩, ⟨.mv (.t 0), none, false⟩], [(6, 0)], [], none⟩
abbrev b_slices_partialInsertionSortCmpFunc_Sint_4 : IC := (.seq (.seq (.reg r_slices_partialInsertionSortCmpFunc_Sint_14)
 (.cond 69 .skip (.exit 4)))
 (.seq (.block 5 (.seq (.seq (.reg r_slices_partialInsertionSortCmpFunc_Sint_16)
 (.cond 84 (.exit 4) .skip))
 (.reg r_slices_partialInsertionSortCmpFunc_Sint_17)))
 (.reg r_slices_partialInsertionSortCmpFunc_Sint_15)))
abbrev r_slices_partialInsertionSortCmpFunc_Sint_18 : Reg := ⟨[⟨.mv (.v 2), none, false⟩, ⟨.mv (.v 5), none, false⟩, ⟨.bin .sub (.t 1) (.t 0), none, false⟩, ⟨.bin .geq (.t 0) (.c (.int (2))), none, false⟩], [], [6], some (104, 0)⟩
abbrev r_slices_partialInsertionSortCmpFunc_Sint_19 : Reg := ⟨[⟨.mv (.v 5), none, false⟩, ⟨.bin .add (.t 0) (.c (.int (1))), none, false⟩, ⟨.mv (.t 0), none, false⟩], [(7, 0)], [], none⟩
abbrev r_slices_partialInsertionSortCmpFunc_Sint_20 : Reg := ⟨[⟨.mv (.v 7), none, false⟩, ⟨.mv (.v 2), none, false⟩, ⟨.bin .lss (.t 1) (.t 0), none, false⟩], [], [], some (109, 0)⟩
abbrev r_slices_partialInsertionSortCmpFunc_Sint_22 : Reg := ⟨[⟨.mv (.v 3), none, false⟩, ⟨.mv (.v 0), none, false⟩, ⟨.mv (.v 7), none, false⟩, ⟨.iad (.t 1) (.t 0) 1, none, false⟩, ⟨.ld (.t 0) none, none, false⟩, ⟨.mv (.v 0), none, false⟩, ⟨.mv (.v 7), none, false⟩, ⟨.bin .sub (.t 0) (.c (.int (1))), none, false⟩, ⟨.iad (.t 2) (.t 0) 1, none, false⟩, ⟨.ld (.t 0) none, none, false⟩, ⟨.cald (.t 9) [(.t 5), (.t 0)], none, false⟩, ⟨.bin .lss (.t 0) (.c (.int (0))), none, false⟩, ⟨.not (.t 0), none, false⟩], [], [], some (124, 0)⟩
abbrev r_slices_partialInsertionSortCmpFunc_Sint_23 : Reg := ⟨[⟨.mv (.v 0), none, false⟩, ⟨.mv (.v 7), none, false⟩, ⟨.mv (.v 0), none, false⟩, ⟨.mv (.v 7), none, false⟩, ⟨.bin .sub (.t 0) (.c (.int (1))), none, false⟩, ⟨.mv (.v 0), none, false⟩, ⟨.mv (.v 7), none, false⟩, ⟨.bin .sub (.t 0) (.c (.int (1))), none, false⟩, ⟨.iad (.t 2) (.t 0) 1, none, false⟩, ⟨.ld (.t 0) none, none, false⟩, ⟨.mv (.v 0), none, false⟩, ⟨.mv (.v 7), none, false⟩, ⟨.iad (.t 1) (.t 0) 1, none, false⟩, ⟨.ld (.t 0) none, none, false⟩, ⟨.iad (.t 13) (.t 12) 1, none, false⟩, ⟨.st (.t 0) (.t 5) 1, none, false⟩, ⟨.iad (.t 13) (.t 11) 1, none, false⟩, ⟨.st (.t 0) (.t 3) 1, none, false⟩], [], [], none⟩
abbrev r_slices_partialInsertionSortCmpFunc_Sint_21 : Reg := ⟨[⟨.mv (.v 7), none, false⟩, ⟨.bin .add (.t 0) (.c (.int (1))), none, false⟩, ⟨.mv (.t 0), none, false⟩], [(7, 0)], [], none⟩
abbrev b_slices_partialInsertionSortCmpFunc_Sint_6 : IC := (.seq (.seq (.reg r_slices_partialInsertionSortCmpFunc_Sint_20)
 (.cond 109 .skip (.exit 6)))
 (.seq (.block 7 (.seq (.seq (.reg r_slices_partialInsertionSortCmpFunc_Sint_22)
 (.cond 124 (.exit 6) .skip))
 (.reg r_slices_partialInsertionSortCmpFunc_Sint_23)))
 (.reg r_slices_partialInsertionSortCmpFunc_Sint_21)))
abbrev r_slices_partialInsertionSortCmpFunc_Sint_4 : Reg := ⟨[⟨.mv (.v 4), none, false⟩, ⟨.bin .add (.t 0) (.c (.int (1))), none, false⟩, ⟨.mv (.t 0), none, false⟩], [(4, 0)], [7], none⟩
abbrev b_slices_partialInsertionSortCmpFunc_Sint_0 : IC := (.seq (.seq (.reg r_slices_partialInsertionSortCmpFunc_Sint_3)
 (.cond 16 .skip (.exit 0)))
 (.seq (.block 1 (.seq (.block 2 (.loop b_slices_partialInsertionSortCmpFunc_Sint_2))
 (.seq (.seq (.reg r_slices_partialInsertionSortCmpFunc_Sint_7)
 (.cond 41 (.seq (.reg r_slices_partialInsertionSortCmpFunc_Sint_8)
 .ret) .skip))
 (.seq (.seq (.reg r_slices_partialInsertionSortCmpFunc_Sint_9)
 (.cond 45 (.seq (.reg r_slices_partialInsertionSortCmpFunc_Sint_10)
 .ret) .skip))
 (.seq (.reg r_slices_partialInsertionSortCmpFunc_Sint_11)
 (.seq (.seq (.reg r_slices_partialInsertionSortCmpFunc_Sint_12)
 (.cond 65 (.seq (.reg r_slices_partialInsertionSortCmpFunc_Sint_13)
 (.block 4 (.loop b_slices_partialInsertionSortCmpFunc_Sint_4))) .skip))
 (.seq (.reg r_slices_partialInsertionSortCmpFunc_Sint_18)
 (.cond 104 (.seq (.reg r_slices_partialInsertionSortCmpFunc_Sint_19)
 (.block 6 (.loop b_slices_partialInsertionSortCmpFunc_Sint_6))) .skip))))))))
 (.reg r_slices_partialInsertionSortCmpFunc_Sint_4)))
abbrev r_slices_partialInsertionSortCmpFunc_Sint_24 : Reg := ⟨[⟨.mv (.c (.bool false)), none, false⟩], [(8, 0)], [0, 1, 2, 3, 4, 5], none⟩
abbrev ir_slices_partialInsertionSortCmpFunc_Sint : Fn := { np := 4, nv := 9, res := [(8, none)], body :=
(.seq (.reg r_slices_partialInsertionSortCmpFunc_Sint_0)
 (.seq (.reg r_slices_partialInsertionSortCmpFunc_Sint_1)
 (.seq (.seq (.reg r_slices_partialInsertionSortCmpFunc_Sint_2)
 (.block 0 (.loop b_slices_partialInsertionSortCmpFunc_Sint_0)))
 (.seq (.reg r_slices_partialInsertionSortCmpFunc_Sint_24)
 .ret)))) }
end Ab
