/- The functions of the program as small texts, printed by a tool of mine. Condition: none. -/
import Derived.Test.YtmmkhoncblnicaaAbBase
set_option linter.all false
namespace Ab
abbrev T_string : Nat := 9
def F_law49_DiffExplains : Nat := 3
def F_law49_DiffMatches : Nat := 4
def F_law49_DiffPairs : Nat := 5
def F_law49_DiffWords : Nat := 6
def F_law49_DiffMoved : Nat := 7
def F_law49_DiffMatched : Nat := 8
def F_law08_Great : Nat := 9
def F_law49_exampleHolds : Nat := 10
def F_diff_Explain : Nat := 11
def F_ref49_Explain : Nat := 12
def F_ref49_Same : Nat := 13
def F_diff_Match : Nat := 14
def F_ref49_Match : Nat := 15
def F_diff_Moved : Nat := 16
def F_ref49_Moved : Nat := 17
def F_ref08_Equal : Nat := 18
def F_ref09_Check : Nat := 19
def F_mealy_Run : Nat := 20
def F_mealy_From : Nat := 21
def F_word_Compare : Nat := 22
def F_equiv_Distinguish : Nat := 23
def F_equiv_Equal : Nat := 24
def F_ref06_Reach : Nat := 25
def F_minimize_Min : Nat := 26
def F_equiv_Iso : Nat := 27
def F_diff_check : Nat := 28
def F_word_Join : Nat := 29
def F_diff_sorted : Nat := 30
def F_ref09_Extended : Nat := 31
def F_ref10_Same : Nat := 32
def F_cover_Access : Nat := 33
def F_slices_Repeat_Sint_int : Nat := 34
def F_ref10_Access : Nat := 35
def F_ref49_after : Nat := 36
def F_diff_Moved_1 : Nat := 37
def F_slices_ContainsFunc_Sint_int : Nat := 38
def F_ref06_Valid : Nat := 39
def F_mealy_state : Nat := 40
def F_word_Check : Nat := 41
def F_mealy_runner_run : Nat := 42
def F_cmp_Or_int : Nat := 43
def F_cmp_Compare_int : Nat := 44
def F_slices_Compare_Sint_int : Nat := 45
def F_equiv_check : Nat := 46
def F_equiv_search : Nat := 47
def F_ref06_has : Nat := 48
def F_mealy_Trim : Nat := 49
def F_minimize_Classes : Nat := 50
def F_mealy_Reach : Nat := 51
def F_mealy_Valid : Nat := 52
def F_slices_Concat_Sint_int : Nat := 53
def F_diff_sorted_1 : Nat := 54
def F_slices_SortFunc_Sapi_Change_api_Change : Nat := 55
def F_cover_places : Nat := 56
def F_math_bits_Mul : Nat := 57
def F_ref10_has : Nat := 58
def F_slices_IndexFunc_Sint_int : Nat := 59
def F_ref06_row : Nat := 60
def F_word_permitted : Nat := 61
def F_word_Check_1 : Nat := 62
def F_mealy_machine_move : Nat := 63
def F_cmp_isNaN_int : Nat := 64
def F_slices_Clone_Sint_int : Nat := 65
def F_minimize_Partition : Nat := 66
def F_slices_Grow_Sint_int : Nat := 67
def F_slices_pdqsortCmpFunc_api_Change : Nat := 68
def F_math_bits_Len : Nat := 69
def F_math_bits_Mul32 : Nat := 70
def F_math_bits_Mul64 : Nat := 71
def F_minimize_refine : Nat := 72
def F_slices_insertionSortCmpFunc_api_Change : Nat := 73
def F_slices_heapSortCmpFunc_api_Change : Nat := 74
def F_slices_breakPatternsCmpFunc_api_Change : Nat := 75
def F_slices_choosePivotCmpFunc_api_Change : Nat := 76
def F_slices_reverseRangeCmpFunc_api_Change : Nat := 77
def F_slices_partialInsertionSortCmpFunc_api_Change : Nat := 78
def F_slices_partitionEqualCmpFunc_api_Change : Nat := 79
def F_slices_partitionCmpFunc_api_Change : Nat := 80
def F_math_bits_Len32 : Nat := 81
def F_math_bits_Len64 : Nat := 82
def F_minimize_next : Nat := 83
def F_slices_siftDownCmpFunc_api_Change : Nat := 84
def F_slices_nextPowerOfTwo : Nat := 85
def F_slices_xorshift_Next : Nat := 86
def F_slices_medianAdjacentCmpFunc_api_Change : Nat := 87
def F_slices_medianCmpFunc_api_Change : Nat := 88
def F_slices_order2CmpFunc_api_Change : Nat := 89
/- f3 law49_DiffExplains : 0:a 1:b 2:a 3:b 4:l 5:k 6:e 7:f 8:_ -/
abbrev r_law49_DiffExplains_0 : Reg := ⟨[⟨.bxi (.v 0), none, false⟩, ⟨.bxi (.v 1), none, false⟩, ⟨.mv (.c (.bool false)), none, false⟩], [(2, 2), (3, 1)], [0, 1, 8], none⟩
abbrev r_law49_DiffExplains_1 : Reg := ⟨[⟨.ldi (.v 2) (some 4), none, false⟩, ⟨.cal F_law08_Great [(.t 0)], none, false⟩, ⟨.mv (.t 0), none, false⟩, ⟨.ldi (.v 3) (some 4), some (.t 0, false), false⟩, ⟨.cal F_law08_Great [(.t 0)], some (.t 1, false), false⟩, ⟨.pick (.t 2) (.c (.bool true)) (.t 0), none, false⟩], [], [], some (14, 0)⟩
abbrev r_law49_DiffExplains_2 : Reg := ⟨[⟨.cal F_law49_exampleHolds [], none, false⟩, ⟨.mv (.t 0), none, false⟩], [(8, 0)], [2, 3], none⟩
abbrev r_law49_DiffExplains_3 : Reg := ⟨[⟨.ldi (.v 2) (some 4), none, false⟩, ⟨.ldi (.v 3) (some 4), none, false⟩, ⟨.cal F_diff_Explain [(.t 1), (.t 0)], none, false⟩, ⟨.mv (.t 0), none, false⟩, ⟨.ext (.t 0) 0, none, false⟩, ⟨.ext (.t 1) 1, none, false⟩, ⟨.mv (.t 1), none, false⟩, ⟨.mv (.t 1), none, false⟩], [(4, 1), (6, 0)], [], none⟩
abbrev r_law49_DiffExplains_4 : Reg := ⟨[⟨.ldi (.v 2) (some 4), none, false⟩, ⟨.ldi (.v 3) (some 4), none, false⟩, ⟨.cal F_ref49_Explain [(.t 1), (.t 0)], none, false⟩, ⟨.mv (.t 0), none, false⟩, ⟨.ext (.t 0) 0, none, false⟩, ⟨.ext (.t 1) 1, none, false⟩, ⟨.mv (.t 1), none, false⟩, ⟨.mv (.t 1), none, false⟩], [(5, 1), (7, 0)], [2, 3], none⟩
abbrev r_law49_DiffExplains_5 : Reg := ⟨[⟨.mv (.v 4), none, false⟩, ⟨.mv (.v 5), none, false⟩, ⟨.cal F_ref49_Same [(.t 1), (.t 0)], none, false⟩, ⟨.mv (.t 0), none, false⟩, ⟨.mv (.v 6), some (.t 0, true), false⟩, ⟨.mv (.v 7), some (.t 1, true), false⟩, ⟨.bin .eql (.t 1) (.t 0), some (.t 2, true), false⟩, ⟨.pick (.t 3) (.t 0) (.c (.bool false)), none, false⟩, ⟨.mv (.t 0), none, false⟩, ⟨.cal F_law49_exampleHolds [], some (.t 0, true), false⟩, ⟨.pick (.t 1) (.t 0) (.c (.bool false)), none, false⟩, ⟨.mv (.t 0), none, false⟩], [(8, 0)], [4, 5, 6, 7], none⟩
abbrev ir_law49_DiffExplains : Fn := { np := 2, nv := 9, res := [(8, none)], body :=
(.seq (.reg r_law49_DiffExplains_0)
 (.seq (.seq (.reg r_law49_DiffExplains_1)
 (.cond 14 (.seq (.reg r_law49_DiffExplains_2)
 .ret) .skip))
 (.seq (.reg r_law49_DiffExplains_3)
 (.seq (.reg r_law49_DiffExplains_4)
 (.seq (.reg r_law49_DiffExplains_5)
 .ret))))) }
/- f4 law49_DiffMatches : 0:a 1:b 2:match 3:a 4:b 5:x 6:y 7:e 8:f 9:l 10:k 11:g 12:h 13:_ -/
abbrev r_law49_DiffMatches_0 : Reg := ⟨[⟨.bxi (.v 0), none, false⟩, ⟨.bxi (.v 1), none, false⟩, ⟨.mv (.c (.bool false)), none, false⟩], [(3, 2), (4, 1)], [0, 1, 13], none⟩
abbrev r_law49_DiffMatches_1 : Reg := ⟨[⟨.ldi (.v 3) (some 4), none, false⟩, ⟨.cal F_law08_Great [(.t 0)], none, false⟩, ⟨.mv (.t 0), none, false⟩, ⟨.ldi (.v 4) (some 4), some (.t 0, false), false⟩, ⟨.cal F_law08_Great [(.t 0)], some (.t 1, false), false⟩, ⟨.pick (.t 2) (.c (.bool true)) (.t 0), none, false⟩, ⟨.mv (.t 0), none, false⟩, ⟨.mv (.v 2), some (.t 0, false), false⟩, ⟨.len (.t 0), some (.t 1, false), false⟩, ⟨.bin .gtr (.t 0) (.c (.int (20))), some (.t 2, false), false⟩, ⟨.pick (.t 3) (.c (.bool true)) (.t 0), none, false⟩], [], [], some (25, 0)⟩
abbrev r_law49_DiffMatches_2 : Reg := ⟨[⟨.cal F_law49_exampleHolds [], none, false⟩, ⟨.mv (.t 0), none, false⟩], [(13, 0)], [2, 3, 4], none⟩
abbrev r_law49_DiffMatches_3 : Reg := ⟨[⟨.ldi (.v 3) (some 4), none, false⟩, ⟨.ldi (.v 4) (some 4), none, false⟩, ⟨.cal F_diff_Match [(.t 1), (.t 0)], none, false⟩, ⟨.mv (.t 0), none, false⟩, ⟨.ext (.t 0) 0, none, false⟩, ⟨.ext (.t 1) 1, none, false⟩, ⟨.mv (.t 1), none, false⟩, ⟨.mv (.t 1), none, false⟩], [(5, 1), (7, 0)], [], none⟩
abbrev r_law49_DiffMatches_4 : Reg := ⟨[⟨.ldi (.v 3) (some 4), none, false⟩, ⟨.ldi (.v 4) (some 4), none, false⟩, ⟨.cal F_ref49_Match [(.t 1), (.t 0)], none, false⟩, ⟨.mv (.t 0), none, false⟩, ⟨.ext (.t 0) 0, none, false⟩, ⟨.ext (.t 1) 1, none, false⟩, ⟨.mv (.t 1), none, false⟩, ⟨.mv (.t 1), none, false⟩], [(6, 1), (8, 0)], [], none⟩
abbrev r_law49_DiffMatches_5 : Reg := ⟨[⟨.ldi (.v 3) (some 4), none, false⟩, ⟨.ldi (.v 4) (some 4), none, false⟩, ⟨.mv (.v 2), none, false⟩, ⟨.cal F_diff_Moved [(.t 2), (.t 1), (.t 0)], none, false⟩, ⟨.mv (.t 0), none, false⟩, ⟨.ext (.t 0) 0, none, false⟩, ⟨.ext (.t 1) 1, none, false⟩, ⟨.mv (.t 1), none, false⟩, ⟨.mv (.t 1), none, false⟩], [(9, 1), (11, 0)], [], none⟩
abbrev r_law49_DiffMatches_6 : Reg := ⟨[⟨.ldi (.v 3) (some 4), none, false⟩, ⟨.ldi (.v 4) (some 4), none, false⟩, ⟨.mv (.v 2), none, false⟩, ⟨.cal F_ref49_Moved [(.t 2), (.t 1), (.t 0)], none, false⟩, ⟨.mv (.t 0), none, false⟩, ⟨.ext (.t 0) 0, none, false⟩, ⟨.ext (.t 1) 1, none, false⟩, ⟨.mv (.t 1), none, false⟩, ⟨.mv (.t 1), none, false⟩], [(10, 1), (12, 0)], [2, 3, 4], none⟩
abbrev r_law49_DiffMatches_7 : Reg := ⟨[⟨.mv (.v 5), none, false⟩, ⟨.mv (.v 6), none, false⟩, ⟨.cal F_ref08_Equal [(.t 1), (.t 0)], none, false⟩, ⟨.mv (.t 0), none, false⟩, ⟨.mv (.v 7), some (.t 0, true), false⟩, ⟨.mv (.v 8), some (.t 1, true), false⟩, ⟨.bin .eql (.t 1) (.t 0), some (.t 2, true), false⟩, ⟨.pick (.t 3) (.t 0) (.c (.bool false)), none, false⟩, ⟨.mv (.t 0), none, false⟩, ⟨.mv (.v 9), some (.t 0, true), false⟩, ⟨.mv (.v 10), some (.t 1, true), false⟩, ⟨.cal F_ref49_Same [(.t 1), (.t 0)], some (.t 2, true), false⟩, ⟨.pick (.t 3) (.t 0) (.c (.bool false)), none, false⟩, ⟨.mv (.t 0), none, false⟩, ⟨.mv (.v 11), some (.t 0, true), false⟩, ⟨.mv (.v 12), some (.t 1, true), false⟩, ⟨.bin .eql (.t 1) (.t 0), some (.t 2, true), false⟩, ⟨.pick (.t 3) (.t 0) (.c (.bool false)), none, false⟩, ⟨.mv (.t 0), none, false⟩, ⟨.cal F_law49_exampleHolds [], some (.t 0, true), false⟩, ⟨.pick (.t 1) (.t 0) (.c (.bool false)), none, false⟩, ⟨.mv (.t 0), none, false⟩], [(13, 0)], [5, 6, 7, 8, 9, 10, 11, 12], none⟩
abbrev ir_law49_DiffMatches : Fn := { np := 3, nv := 14, res := [(13, none)], body :=
(.seq (.reg r_law49_DiffMatches_0)
 (.seq (.seq (.reg r_law49_DiffMatches_1)
 (.cond 25 (.seq (.reg r_law49_DiffMatches_2)
 .ret) .skip))
 (.seq (.reg r_law49_DiffMatches_3)
 (.seq (.reg r_law49_DiffMatches_4)
 (.seq (.reg r_law49_DiffMatches_5)
 (.seq (.reg r_law49_DiffMatches_6)
 (.seq (.reg r_law49_DiffMatches_7)
 .ret))))))) }
/- f5 law49_DiffPairs : 0:a 1:b 2:w 3:a 4:b 5:g 6:e 7:f 8:x 9:n 10:y 11:l 12:_ 13:_ 14:i 15:s 16:t 17:v 18:_ -/
abbrev r_law49_DiffPairs_0 : Reg := ⟨[⟨.bxi (.v 0), none, false⟩, ⟨.bxi (.v 1), none, false⟩, ⟨.mv (.c (.bool false)), none, false⟩], [(3, 2), (4, 1)], [0, 1, 18], none⟩
abbrev r_law49_DiffPairs_1 : Reg := ⟨[⟨.ldi (.v 3) (some 4), none, false⟩, ⟨.cal F_law08_Great [(.t 0)], none, false⟩, ⟨.mv (.t 0), none, false⟩, ⟨.ldi (.v 4) (some 4), some (.t 0, false), false⟩, ⟨.cal F_law08_Great [(.t 0)], some (.t 1, false), false⟩, ⟨.pick (.t 2) (.c (.bool true)) (.t 0), none, false⟩, ⟨.mv (.t 0), none, false⟩, ⟨.ldi (.v 3) (some 4), some (.t 0, false), false⟩, ⟨.ldi (.v 4) (some 4), some (.t 1, false), false⟩, ⟨.cal F_ref09_Check [(.t 1), (.t 0)], some (.t 2, false), false⟩, ⟨.bin .neq (.t 0) (.c (.int (0))), some (.t 3, false), false⟩, ⟨.pick (.t 4) (.c (.bool true)) (.t 0), none, false⟩, ⟨.mv (.t 0), none, false⟩, ⟨.mv (.v 2), some (.t 0, false), false⟩, ⟨.len (.t 0), some (.t 1, false), false⟩, ⟨.bin .eql (.t 0) (.c (.int (0))), some (.t 2, false), false⟩, ⟨.pick (.t 3) (.c (.bool true)) (.t 0), none, false⟩, ⟨.mv (.t 0), none, false⟩, ⟨.mv (.v 2), some (.t 0, false), false⟩, ⟨.len (.t 0), some (.t 1, false), false⟩, ⟨.bin .gtr (.t 0) (.c (.int (200))), some (.t 2, false), false⟩, ⟨.pick (.t 3) (.c (.bool true)) (.t 0), none, false⟩], [], [], some (43, 0)⟩
abbrev r_law49_DiffPairs_2 : Reg := ⟨[⟨.cal F_law49_exampleHolds [], none, false⟩, ⟨.mv (.t 0), none, false⟩], [(18, 0)], [2, 3, 4], none⟩
abbrev r_law49_DiffPairs_3 : Reg := ⟨[⟨.ldi (.v 3) (some 4), none, false⟩, ⟨.mv (.v 2), none, false⟩, ⟨.cal F_mealy_Run [(.t 1), (.t 0)], none, false⟩, ⟨.mv (.t 0), none, false⟩, ⟨.ext (.t 0) 0, none, false⟩, ⟨.ext (.t 1) 1, none, false⟩, ⟨.mv (.t 1), none, false⟩, ⟨.mv (.t 1), none, false⟩], [(8, 1), (6, 0)], [], none⟩
abbrev r_law49_DiffPairs_4 : Reg := ⟨[⟨.ldi (.v 4) (some 4), none, false⟩, ⟨.mv (.v 2), none, false⟩, ⟨.cal F_mealy_Run [(.t 1), (.t 0)], none, false⟩, ⟨.mv (.t 0), none, false⟩, ⟨.ext (.t 0) 0, none, false⟩, ⟨.ext (.t 1) 1, none, false⟩, ⟨.mv (.t 1), none, false⟩, ⟨.mv (.t 1), none, false⟩], [(10, 1), (7, 0)], [], none⟩
abbrev r_law49_DiffPairs_5 : Reg := ⟨[⟨.mv (.v 2), none, false⟩, ⟨.len (.t 0), none, false⟩, ⟨.bin .sub (.t 0) (.c (.int (1))), none, false⟩, ⟨.mv (.t 0), none, false⟩], [(9, 0)], [], none⟩
abbrev r_law49_DiffPairs_6 : Reg := ⟨[⟨.ldi (.v 3) (some 4), none, false⟩, ⟨.ldi (.v 4) (some 4), none, false⟩, ⟨.cal F_diff_Explain [(.t 1), (.t 0)], none, false⟩, ⟨.mv (.t 0), none, false⟩, ⟨.ext (.t 0) 0, none, false⟩, ⟨.ext (.t 1) 1, none, false⟩, ⟨.mv (.t 1), none, false⟩, ⟨.mv (.t 1), none, false⟩], [(11, 1), (5, 0)], [], none⟩
abbrev r_law49_DiffPairs_7 : Reg := ⟨[⟨.mv (.v 5), none, false⟩, ⟨.bin .neq (.t 0) (.c (.int (0))), none, false⟩], [], [5], some (67, 0)⟩
abbrev r_law49_DiffPairs_8 : Reg := ⟨[⟨.mv (.c (.bool false)), none, false⟩], [(18, 0)], [2, 3, 4, 6, 7, 8, 9, 10, 11], none⟩
abbrev r_law49_DiffPairs_9 : Reg := ⟨[⟨.mv (.v 6), none, false⟩, ⟨.bin .neq (.t 0) (.c (.int (0))), none, false⟩, ⟨.mv (.t 0), none, false⟩, ⟨.mv (.v 7), some (.t 0, false), false⟩, ⟨.bin .neq (.t 0) (.c (.int (0))), some (.t 1, false), false⟩, ⟨.pick (.t 2) (.c (.bool true)) (.t 0), none, false⟩, ⟨.mv (.t 0), none, false⟩, ⟨.mv (.v 8), some (.t 0, false), false⟩, ⟨.len (.t 0), some (.t 1, false), false⟩, ⟨.mv (.v 9), some (.t 2, false), false⟩, ⟨.bin .add (.t 0) (.c (.int (1))), some (.t 3, false), false⟩, ⟨.bin .neq (.t 2) (.t 0), some (.t 4, false), false⟩, ⟨.pick (.t 5) (.c (.bool true)) (.t 0), none, false⟩, ⟨.mv (.t 0), none, false⟩, ⟨.mv (.v 10), some (.t 0, false), false⟩, ⟨.len (.t 0), some (.t 1, false), false⟩, ⟨.mv (.v 9), some (.t 2, false), false⟩, ⟨.bin .add (.t 0) (.c (.int (1))), some (.t 3, false), false⟩, ⟨.bin .neq (.t 2) (.t 0), some (.t 4, false), false⟩, ⟨.pick (.t 5) (.c (.bool true)) (.t 0), none, false⟩, ⟨.mv (.t 0), none, false⟩, ⟨.mv (.v 8), some (.t 0, false), false⟩, ⟨.mv (.v 9), some (.t 1, false), false⟩, ⟨.slc (.t 1) none (some (.t 0)) 1, some (.t 2, false), false⟩, ⟨.mv (.v 10), some (.t 3, false), false⟩, ⟨.mv (.v 9), some (.t 4, false), false⟩, ⟨.slc (.t 1) none (some (.t 0)) 1, some (.t 5, false), false⟩, ⟨.cal F_ref08_Equal [(.t 3), (.t 0)], some (.t 6, false), false⟩, ⟨.not (.t 0), some (.t 7, false), false⟩, ⟨.pick (.t 8) (.c (.bool true)) (.t 0), none, false⟩, ⟨.mv (.t 0), none, false⟩, ⟨.mv (.v 8), some (.t 0, false), false⟩, ⟨.mv (.v 9), some (.t 1, false), false⟩, ⟨.iad (.t 1) (.t 0) 1, some (.t 2, false), false⟩, ⟨.ld (.t 0) none, some (.t 3, false), false⟩, ⟨.mv (.v 10), some (.t 4, false), false⟩, ⟨.mv (.v 9), some (.t 5, false), false⟩, ⟨.iad (.t 1) (.t 0) 1, some (.t 6, false), false⟩, ⟨.ld (.t 0) none, some (.t 7, false), false⟩, ⟨.bin .eql (.t 4) (.t 0), some (.t 8, false), false⟩, ⟨.pick (.t 9) (.c (.bool true)) (.t 0), none, false⟩], [], [8, 10], some (108, 0)⟩
abbrev r_law49_DiffPairs_10 : Reg := ⟨[⟨.mv (.v 6), none, false⟩, ⟨.bin .eql (.t 0) (.c (.int (0))), none, false⟩, ⟨.mv (.t 0), none, false⟩, ⟨.mv (.v 7), some (.t 0, false), false⟩, ⟨.bin .neq (.t 0) (.c (.int (0))), some (.t 1, false), false⟩, ⟨.pick (.t 2) (.c (.bool true)) (.t 0), none, false⟩, ⟨.mv (.t 0), none, false⟩, ⟨.cal F_law49_exampleHolds [], some (.t 0, true), false⟩, ⟨.pick (.t 1) (.t 0) (.c (.bool false)), none, false⟩, ⟨.mv (.t 0), none, false⟩], [(18, 0)], [2, 3, 4, 6, 7, 9, 11], none⟩
abbrev r_law49_DiffPairs_11 : Reg := ⟨[⟨.ldi (.v 3) (some 4), none, false⟩, ⟨.fad (.v 3) 1 none, none, false⟩, ⟨.ldi (.t 0) none, none, false⟩, ⟨.mv (.v 2), none, false⟩, ⟨.mv (.v 9), none, false⟩, ⟨.slc (.t 1) none (some (.t 0)) 1, none, false⟩, ⟨.cal F_mealy_From [(.t 5), (.t 3), (.t 0)], none, false⟩, ⟨.mv (.t 0), none, false⟩, ⟨.ext (.t 0) 0, none, false⟩, ⟨.ext (.t 1) 1, none, false⟩, ⟨.ext (.t 2) 2, none, false⟩, ⟨.mv (.t 2), none, false⟩, ⟨.mv (.t 2), none, false⟩, ⟨.mv (.t 2), none, false⟩], [(15, 1)], [3, 6, 7], none⟩
abbrev r_law49_DiffPairs_12 : Reg := ⟨[⟨.ldi (.v 4) (some 4), none, false⟩, ⟨.fad (.v 4) 1 none, none, false⟩, ⟨.ldi (.t 0) none, none, false⟩, ⟨.mv (.v 2), none, false⟩, ⟨.mv (.v 9), none, false⟩, ⟨.slc (.t 1) none (some (.t 0)) 1, none, false⟩, ⟨.cal F_mealy_From [(.t 5), (.t 3), (.t 0)], none, false⟩, ⟨.mv (.t 0), none, false⟩, ⟨.ext (.t 0) 0, none, false⟩, ⟨.ext (.t 1) 1, none, false⟩, ⟨.ext (.t 2) 2, none, false⟩, ⟨.mv (.t 2), none, false⟩, ⟨.mv (.t 2), none, false⟩, ⟨.mv (.t 2), none, false⟩], [(16, 1)], [4], none⟩
abbrev r_law49_DiffPairs_13 : Reg := ⟨[⟨.mv (.v 11), none, false⟩, ⟨.len (.t 0), none, false⟩, ⟨.mv (.c (.int (0))), none, false⟩], [(13, 1), (12, 0)], [], none⟩
abbrev r_law49_DiffPairs_14 : Reg := ⟨[⟨.bin .lss (.v 12) (.v 13), none, false⟩], [], [], some (143, 0)⟩
abbrev r_law49_DiffPairs_15 : Reg := ⟨[⟨.mv (.v 12), none, false⟩, ⟨.mv (.t 0), none, false⟩], [(14, 0)], [], none⟩
abbrev r_law49_DiffPairs_16 : Reg := ⟨[⟨.mv (.v 11), none, false⟩, ⟨.mv (.v 14), none, false⟩, ⟨.iad (.t 1) (.t 0) 5, none, false⟩, ⟨.fad (.t 0) 0 none, none, false⟩, ⟨.ld (.t 0) none, none, false⟩, ⟨.mv (.t 0), none, false⟩], [(17, 0)], [], none⟩
abbrev r_law49_DiffPairs_17 : Reg := ⟨[⟨.mv (.v 11), none, false⟩, ⟨.mv (.v 14), none, false⟩, ⟨.iad (.t 1) (.t 0) 5, none, false⟩, ⟨.fad (.t 0) 1 none, none, false⟩, ⟨.ld (.t 0) none, none, false⟩, ⟨.mv (.v 15), none, false⟩, ⟨.bin .eql (.t 1) (.t 0), none, false⟩, ⟨.mv (.t 0), none, false⟩, ⟨.mv (.v 11), some (.t 0, true), false⟩, ⟨.mv (.v 14), some (.t 1, true), false⟩, ⟨.iad (.t 1) (.t 0) 5, some (.t 2, true), false⟩, ⟨.fad (.t 0) 2 none, some (.t 3, true), false⟩, ⟨.ld (.t 0) none, some (.t 4, true), false⟩, ⟨.mv (.v 16), some (.t 5, true), false⟩, ⟨.bin .eql (.t 1) (.t 0), some (.t 6, true), false⟩, ⟨.pick (.t 7) (.t 0) (.c (.bool false)), none, false⟩, ⟨.mv (.t 0), none, false⟩, ⟨.mv (.v 17), some (.t 0, true), false⟩, ⟨.len (.t 0), some (.t 1, true), false⟩, ⟨.bin .gtr (.t 0) (.c (.int (0))), some (.t 2, true), false⟩, ⟨.pick (.t 3) (.t 0) (.c (.bool false)), none, false⟩, ⟨.mv (.t 0), none, false⟩, ⟨.mv (.v 17), some (.t 0, true), false⟩, ⟨.mv (.v 17), some (.t 1, true), false⟩, ⟨.len (.t 0), some (.t 2, true), false⟩, ⟨.bin .sub (.t 0) (.c (.int (1))), some (.t 3, true), false⟩, ⟨.iad (.t 3) (.t 0) 1, some (.t 4, true), false⟩, ⟨.ld (.t 0) none, some (.t 5, true), false⟩, ⟨.mv (.v 2), some (.t 6, true), false⟩, ⟨.mv (.v 9), some (.t 7, true), false⟩, ⟨.iad (.t 1) (.t 0) 1, some (.t 8, true), false⟩, ⟨.ld (.t 0) none, some (.t 9, true), false⟩, ⟨.bin .eql (.t 4) (.t 0), some (.t 10, true), false⟩, ⟨.pick (.t 11) (.t 0) (.c (.bool false)), none, false⟩], [], [14], some (183, 0)⟩
abbrev r_law49_DiffPairs_18 : Reg := ⟨[⟨.mv (.v 17), none, false⟩, ⟨.mv (.v 2), none, false⟩, ⟨.cal F_word_Compare [(.t 1), (.t 0)], none, false⟩, ⟨.bin .leq (.t 0) (.c (.int (0))), none, false⟩, ⟨.mv (.t 0), none, false⟩, ⟨.cal F_law49_exampleHolds [], some (.t 0, true), false⟩, ⟨.pick (.t 1) (.t 0) (.c (.bool false)), none, false⟩, ⟨.mv (.t 0), none, false⟩], [(18, 0)], [2, 9, 11, 12, 13, 15, 16, 17], none⟩
abbrev r_law49_DiffPairs_19 : Reg := ⟨[⟨.bin .add (.v 12) (.c (.int (1))), none, false⟩, ⟨.mv (.t 0), none, false⟩], [(12, 0)], [17], none⟩
abbrev b_law49_DiffPairs_0 : IC := (.seq (.reg r_law49_DiffPairs_14)
 (.seq (.cond 143 .skip (.exit 0))
 (.seq (.block 1 (.seq (.reg r_law49_DiffPairs_15)
 (.seq (.reg r_law49_DiffPairs_16)
 (.seq (.reg r_law49_DiffPairs_17)
 (.cond 183 (.seq (.reg r_law49_DiffPairs_18)
 .ret) .skip)))))
 (.reg r_law49_DiffPairs_19))))
abbrev r_law49_DiffPairs_20 : Reg := ⟨[⟨.mv (.c (.bool false)), none, false⟩], [(18, 0)], [2, 9, 11, 12, 13, 15, 16], none⟩
abbrev ir_law49_DiffPairs : Fn := { np := 3, nv := 19, res := [(18, none)], body :=
(.seq (.reg r_law49_DiffPairs_0)
 (.seq (.seq (.reg r_law49_DiffPairs_1)
 (.cond 43 (.seq (.reg r_law49_DiffPairs_2)
 .ret) .skip))
 (.seq (.reg r_law49_DiffPairs_3)
 (.seq (.reg r_law49_DiffPairs_4)
 (.seq (.reg r_law49_DiffPairs_5)
 (.seq (.reg r_law49_DiffPairs_6)
 (.seq (.seq (.reg r_law49_DiffPairs_7)
 (.cond 67 (.seq (.reg r_law49_DiffPairs_8)
 .ret) .skip))
 (.seq (.seq (.reg r_law49_DiffPairs_9)
 (.cond 108 (.seq (.reg r_law49_DiffPairs_10)
 .ret) .skip))
 (.seq (.reg r_law49_DiffPairs_11)
 (.seq (.reg r_law49_DiffPairs_12)
 (.seq (.seq (.reg r_law49_DiffPairs_13)
 (.block 0 (.loop b_law49_DiffPairs_0)))
 (.seq (.reg r_law49_DiffPairs_20)
 .ret)))))))))))) }
/- f6 law49_DiffWords : 0:a 1:b 2:a 3:b 4:e 5:f 6:ok 7:l 8:w 9:_ 10:_ 11:i 12:v 13:n 14:g 15:h 16:s 17:t 18:x 19:y 20:_ -/
abbrev r_law49_DiffWords_0 : Reg := ⟨[⟨.bxi (.v 0), none, false⟩, ⟨.bxi (.v 1), none, false⟩, ⟨.mv (.c (.bool false)), none, false⟩], [(2, 2), (3, 1)], [0, 1, 20], none⟩
abbrev r_law49_DiffWords_1 : Reg := ⟨[⟨.ldi (.v 2) (some 4), none, false⟩, ⟨.cal F_law08_Great [(.t 0)], none, false⟩, ⟨.mv (.t 0), none, false⟩, ⟨.ldi (.v 3) (some 4), some (.t 0, false), false⟩, ⟨.cal F_law08_Great [(.t 0)], some (.t 1, false), false⟩, ⟨.pick (.t 2) (.c (.bool true)) (.t 0), none, false⟩, ⟨.mv (.t 0), none, false⟩, ⟨.ldi (.v 2) (some 4), some (.t 0, false), false⟩, ⟨.ldi (.v 3) (some 4), some (.t 1, false), false⟩, ⟨.cal F_ref09_Check [(.t 1), (.t 0)], some (.t 2, false), false⟩, ⟨.bin .neq (.t 0) (.c (.int (0))), some (.t 3, false), false⟩, ⟨.pick (.t 4) (.c (.bool true)) (.t 0), none, false⟩], [], [], some (30, 0)⟩
abbrev r_law49_DiffWords_2 : Reg := ⟨[⟨.cal F_law49_exampleHolds [], none, false⟩, ⟨.mv (.t 0), none, false⟩], [(20, 0)], [2, 3], none⟩
abbrev r_law49_DiffWords_3 : Reg := ⟨[⟨.ldi (.v 2) (some 4), none, false⟩, ⟨.ldi (.v 3) (some 4), none, false⟩, ⟨.cal F_diff_Explain [(.t 1), (.t 0)], none, false⟩, ⟨.mv (.t 0), none, false⟩, ⟨.ext (.t 0) 0, none, false⟩, ⟨.ext (.t 1) 1, none, false⟩, ⟨.mv (.t 1), none, false⟩, ⟨.mv (.t 1), none, false⟩], [(7, 1), (4, 0)], [], none⟩
abbrev r_law49_DiffWords_4 : Reg := ⟨[⟨.ldi (.v 2) (some 4), none, false⟩, ⟨.ldi (.v 3) (some 4), none, false⟩, ⟨.cal F_equiv_Distinguish [(.t 1), (.t 0)], none, false⟩, ⟨.mv (.t 0), none, false⟩, ⟨.ext (.t 0) 0, none, false⟩, ⟨.ext (.t 1) 1, none, false⟩, ⟨.ext (.t 2) 2, none, false⟩, ⟨.mv (.t 2), none, false⟩, ⟨.mv (.t 2), none, false⟩, ⟨.mv (.t 2), none, false⟩], [(8, 2), (6, 1), (5, 0)], [], none⟩
abbrev r_law49_DiffWords_5 : Reg := ⟨[⟨.mv (.v 4), none, false⟩, ⟨.bin .neq (.t 0) (.c (.int (0))), none, false⟩, ⟨.mv (.t 0), none, false⟩, ⟨.mv (.v 5), some (.t 0, false), false⟩, ⟨.bin .neq (.t 0) (.c (.int (0))), some (.t 1, false), false⟩, ⟨.pick (.t 2) (.c (.bool true)) (.t 0), none, false⟩, ⟨.mv (.t 0), none, false⟩, ⟨.mv (.v 6), some (.t 0, false), false⟩, ⟨.mv (.v 7), some (.t 1, false), false⟩, ⟨.len (.t 0), some (.t 2, false), false⟩, ⟨.bin .gtr (.t 0) (.c (.int (0))), some (.t 3, false), false⟩, ⟨.beq true (.t 3) (.t 0), some (.t 4, false), false⟩, ⟨.pick (.t 5) (.c (.bool true)) (.t 0), none, false⟩, ⟨.mv (.t 0), none, false⟩, ⟨.mv (.v 6), some (.t 0, false), false⟩, ⟨.mv (.t 0), some (.t 1, false), false⟩, ⟨.mv (.v 7), some (.t 0, true), false⟩, ⟨.iad (.t 0) (.c (.int (0))) 5, some (.t 1, true), false⟩, ⟨.fad (.t 0) 0 none, some (.t 2, true), false⟩, ⟨.ld (.t 0) none, some (.t 3, true), false⟩, ⟨.mv (.v 8), some (.t 4, true), false⟩, ⟨.cal F_ref08_Equal [(.t 1), (.t 0)], some (.t 5, true), false⟩, ⟨.not (.t 0), some (.t 6, true), false⟩, ⟨.pick (.t 7) (.t 0) (.c (.bool false)), some (.t 9, false), false⟩, ⟨.pick (.t 10) (.c (.bool true)) (.t 0), none, false⟩], [], [4, 5, 6, 8], some (69, 0)⟩
abbrev r_law49_DiffWords_6 : Reg := ⟨[⟨.mv (.c (.bool false)), none, false⟩], [(20, 0)], [2, 3, 7], none⟩
abbrev r_law49_DiffWords_7 : Reg := ⟨[⟨.mv (.v 7), none, false⟩, ⟨.len (.t 0), none, false⟩, ⟨.mv (.c (.int (0))), none, false⟩], [(10, 1), (9, 0)], [], none⟩
abbrev r_law49_DiffWords_8 : Reg := ⟨[⟨.bin .lss (.v 9) (.v 10), none, false⟩], [], [], some (73, 0)⟩
abbrev r_law49_DiffWords_9 : Reg := ⟨[⟨.mv (.v 9), none, false⟩, ⟨.mv (.t 0), none, false⟩], [(11, 0)], [], none⟩
abbrev r_law49_DiffWords_10 : Reg := ⟨[⟨.mv (.v 7), none, false⟩, ⟨.mv (.v 11), none, false⟩, ⟨.iad (.t 1) (.t 0) 5, none, false⟩, ⟨.fad (.t 0) 0 none, none, false⟩, ⟨.ld (.t 0) none, none, false⟩, ⟨.mv (.t 0), none, false⟩], [(12, 0)], [], none⟩
abbrev r_law49_DiffWords_11 : Reg := ⟨[⟨.mv (.v 12), none, false⟩, ⟨.len (.t 0), none, false⟩, ⟨.bin .sub (.t 0) (.c (.int (1))), none, false⟩, ⟨.mv (.t 0), none, false⟩], [(13, 0)], [], none⟩
abbrev r_law49_DiffWords_12 : Reg := ⟨[⟨.mv (.v 13), none, false⟩, ⟨.bin .lss (.t 0) (.c (.int (0))), none, false⟩, ⟨.mv (.t 0), none, false⟩, ⟨.mv (.v 11), some (.t 0, false), false⟩, ⟨.bin .gtr (.t 0) (.c (.int (0))), some (.t 1, false), false⟩, ⟨.mv (.t 0), some (.t 2, false), false⟩, ⟨.mv (.v 7), some (.t 0, true), false⟩, ⟨.mv (.v 11), some (.t 1, true), false⟩, ⟨.bin .sub (.t 0) (.c (.int (1))), some (.t 2, true), false⟩, ⟨.iad (.t 2) (.t 0) 5, some (.t 3, true), false⟩, ⟨.fad (.t 0) 0 none, some (.t 4, true), false⟩, ⟨.ld (.t 0) none, some (.t 5, true), false⟩, ⟨.mv (.v 12), some (.t 6, true), false⟩, ⟨.cal F_word_Compare [(.t 1), (.t 0)], some (.t 7, true), false⟩, ⟨.bin .geq (.t 0) (.c (.int (0))), some (.t 8, true), false⟩, ⟨.pick (.t 9) (.t 0) (.c (.bool false)), some (.t 12, false), false⟩, ⟨.pick (.t 13) (.c (.bool true)) (.t 0), none, false⟩], [], [], some (99, 0)⟩
abbrev r_law49_DiffWords_13 : Reg := ⟨[⟨.mv (.c (.bool false)), none, false⟩], [(20, 0)], [2, 3, 7, 9, 10, 11, 12, 13], none⟩
abbrev r_law49_DiffWords_14 : Reg := ⟨[⟨.ldi (.v 2) (some 4), none, false⟩, ⟨.fad (.v 2) 1 none, none, false⟩, ⟨.ldi (.t 0) none, none, false⟩, ⟨.mv (.v 12), none, false⟩, ⟨.mv (.v 13), none, false⟩, ⟨.slc (.t 1) none (some (.t 0)) 1, none, false⟩, ⟨.cal F_mealy_From [(.t 5), (.t 3), (.t 0)], none, false⟩, ⟨.mv (.t 0), none, false⟩, ⟨.ext (.t 0) 0, none, false⟩, ⟨.ext (.t 1) 1, none, false⟩, ⟨.ext (.t 2) 2, none, false⟩, ⟨.mv (.t 2), none, false⟩, ⟨.mv (.t 2), none, false⟩, ⟨.mv (.t 2), none, false⟩], [(18, 2), (16, 1), (14, 0)], [], none⟩
abbrev r_law49_DiffWords_15 : Reg := ⟨[⟨.ldi (.v 3) (some 4), none, false⟩, ⟨.fad (.v 3) 1 none, none, false⟩, ⟨.ldi (.t 0) none, none, false⟩, ⟨.mv (.v 12), none, false⟩, ⟨.mv (.v 13), none, false⟩, ⟨.slc (.t 1) none (some (.t 0)) 1, none, false⟩, ⟨.cal F_mealy_From [(.t 5), (.t 3), (.t 0)], none, false⟩, ⟨.mv (.t 0), none, false⟩, ⟨.ext (.t 0) 0, none, false⟩, ⟨.ext (.t 1) 1, none, false⟩, ⟨.ext (.t 2) 2, none, false⟩, ⟨.mv (.t 2), none, false⟩, ⟨.mv (.t 2), none, false⟩, ⟨.mv (.t 2), none, false⟩], [(19, 2), (17, 1), (15, 0)], [], none⟩
abbrev r_law49_DiffWords_16 : Reg := ⟨[⟨.mv (.v 14), none, false⟩, ⟨.bin .neq (.t 0) (.c (.int (0))), none, false⟩, ⟨.mv (.t 0), none, false⟩, ⟨.mv (.v 15), some (.t 0, false), false⟩, ⟨.bin .neq (.t 0) (.c (.int (0))), some (.t 1, false), false⟩, ⟨.pick (.t 2) (.c (.bool true)) (.t 0), none, false⟩, ⟨.mv (.t 0), none, false⟩, ⟨.mv (.v 16), some (.t 0, false), false⟩, ⟨.mv (.v 7), some (.t 1, false), false⟩, ⟨.mv (.v 11), some (.t 2, false), false⟩, ⟨.iad (.t 1) (.t 0) 5, some (.t 3, false), false⟩, ⟨.fad (.t 0) 1 none, some (.t 4, false), false⟩, ⟨.ld (.t 0) none, some (.t 5, false), false⟩, ⟨.bin .neq (.t 5) (.t 0), some (.t 6, false), false⟩, ⟨.pick (.t 7) (.c (.bool true)) (.t 0), none, false⟩, ⟨.mv (.t 0), none, false⟩, ⟨.mv (.v 17), some (.t 0, false), false⟩, ⟨.mv (.v 7), some (.t 1, false), false⟩, ⟨.mv (.v 11), some (.t 2, false), false⟩, ⟨.iad (.t 1) (.t 0) 5, some (.t 3, false), false⟩, ⟨.fad (.t 0) 2 none, some (.t 4, false), false⟩, ⟨.ld (.t 0) none, some (.t 5, false), false⟩, ⟨.bin .neq (.t 5) (.t 0), some (.t 6, false), false⟩, ⟨.pick (.t 7) (.c (.bool true)) (.t 0), none, false⟩, ⟨.mv (.t 0), none, false⟩, ⟨.mv (.v 18), some (.t 0, false), false⟩, ⟨.mv (.v 19), some (.t 1, false), false⟩, ⟨.cal F_ref08_Equal [(.t 1), (.t 0)], some (.t 2, false), false⟩, ⟨.not (.t 0), some (.t 3, false), false⟩, ⟨.pick (.t 4) (.c (.bool true)) (.t 0), none, false⟩, ⟨.mv (.t 0), none, false⟩, ⟨.mv (.v 12), some (.t 0, false), false⟩, ⟨.mv (.v 13), some (.t 1, false), false⟩, ⟨.iad (.t 1) (.t 0) 1, some (.t 2, false), false⟩, ⟨.ld (.t 0) none, some (.t 3, false), false⟩, ⟨.bin .lss (.t 0) (.c (.int (0))), some (.t 4, false), false⟩, ⟨.pick (.t 5) (.c (.bool true)) (.t 0), none, false⟩, ⟨.mv (.t 0), none, false⟩, ⟨.mv (.v 12), some (.t 0, false), false⟩, ⟨.mv (.v 13), some (.t 1, false), false⟩, ⟨.iad (.t 1) (.t 0) 1, some (.t 2, false), false⟩, ⟨.ld (.t 0) none, some (.t 3, false), false⟩, ⟨.fad (.v 2) 0 none, some (.t 4, false), false⟩, ⟨.ldi (.t 0) none, some (.t 5, false), false⟩, ⟨.bin .geq (.t 2) (.t 0), some (.t 6, false), false⟩, ⟨.pick (.t 7) (.c (.bool true)) (.t 0), none, false⟩, ⟨.mv (.t 0), none, false⟩, ⟨.fad (.v 2) 3 none, some (.t 0, false), false⟩, ⟨.ldi (.t 0) none, some (.t 1, false), false⟩, ⟨.mv (.v 16), some (.t 2, false), false⟩, ⟨.iad (.t 1) (.t 0) 1, some (.t 3, false), false⟩, ⟨.ldi (.t 0) none, some (.t 4, false), false⟩, ⟨.mv (.v 12), some (.t 5, false), false⟩, ⟨.mv (.v 13), some (.t 6, false), false⟩, ⟨.iad (.t 1) (.t 0) 1, some (.t 7, false), false⟩, ⟨.ld (.t 0) none, some (.t 8, false), false⟩, ⟨.iad (.t 4) (.t 0) 1, some (.t 9, false), false⟩, ⟨.ldi (.t 0) none, some (.t 10, false), false⟩, ⟨.mv (.v 7), some (.t 11, false), false⟩, ⟨.mv (.v 11), some (.t 12, false), false⟩, ⟨.iad (.t 1) (.t 0) 5, some (.t 13, false), false⟩, ⟨.fad (.t 0) 3 none, some (.t 14, false), false⟩, ⟨.ld (.t 0) none, some (.t 15, false), false⟩, ⟨.bin .neq (.t 5) (.t 0), some (.t 16, false), false⟩, ⟨.pick (.t 17) (.c (.bool true)) (.t 0), none, false⟩, ⟨.mv (.t 0), none, false⟩, ⟨.fad (.v 3) 3 none, some (.t 0, false), false⟩, ⟨.ldi (.t 0) none, some (.t 1, false), false⟩, ⟨.mv (.v 17), some (.t 2, false), false⟩, ⟨.iad (.t 1) (.t 0) 1, some (.t 3, false), false⟩, ⟨.ldi (.t 0) none, some (.t 4, false), false⟩, ⟨.mv (.v 12), some (.t 5, false), false⟩, ⟨.mv (.v 13), some (.t 6, false), false⟩, ⟨.iad (.t 1) (.t 0) 1, some (.t 7, false), false⟩, ⟨.ld (.t 0) none, some (.t 8, false), false⟩, ⟨.iad (.t 4) (.t 0) 1, some (.t 9, false), false⟩, ⟨.ldi (.t 0) none, some (.t 10, false), false⟩, ⟨.mv (.v 7), some (.t 11, false), false⟩, ⟨.mv (.v 11), some (.t 12, false), false⟩, ⟨.iad (.t 1) (.t 0) 5, some (.t 13, false), false⟩, ⟨.fad (.t 0) 4 none, some (.t 14, false), false⟩, ⟨.ld (.t 0) none, some (.t 15, false), false⟩, ⟨.bin .neq (.t 5) (.t 0), some (.t 16, false), false⟩, ⟨.pick (.t 17) (.c (.bool true)) (.t 0), none, false⟩, ⟨.mv (.t 0), none, false⟩, ⟨.mv (.v 7), some (.t 0, false), false⟩, ⟨.mv (.v 11), some (.t 1, false), false⟩, ⟨.iad (.t 1) (.t 0) 5, some (.t 2, false), false⟩, ⟨.fad (.t 0) 3 none, some (.t 3, false), false⟩, ⟨.ld (.t 0) none, some (.t 4, false), false⟩, ⟨.mv (.v 7), some (.t 5, false), false⟩, ⟨.mv (.v 11), some (.t 6, false), false⟩, ⟨.iad (.t 1) (.t 0) 5, some (.t 7, false), false⟩, ⟨.fad (.t 0) 4 none, some (.t 8, false), false⟩, ⟨.ld (.t 0) none, some (.t 9, false), false⟩, ⟨.bin .eql (.t 5) (.t 0), some (.t 10, false), false⟩, ⟨.pick (.t 11) (.c (.bool true)) (.t 0), none, false⟩], [], [11, 12, 13, 14, 15, 16, 17, 18, 19], some (218, 0)⟩
abbrev r_law49_DiffWords_17 : Reg := ⟨[⟨.mv (.c (.bool false)), none, false⟩], [(20, 0)], [2, 3, 7, 9, 10], none⟩
abbrev r_law49_DiffWords_18 : Reg := ⟨[⟨.bin .add (.v 9) (.c (.int (1))), none, false⟩, ⟨.mv (.t 0), none, false⟩], [(9, 0)], [], none⟩
abbrev b_law49_DiffWords_0 : IC := (.seq (.reg r_law49_DiffWords_8)
 (.seq (.cond 73 .skip (.exit 0))
 (.seq (.block 1 (.seq (.reg r_law49_DiffWords_9)
 (.seq (.reg r_law49_DiffWords_10)
 (.seq (.reg r_law49_DiffWords_11)
 (.seq (.seq (.reg r_law49_DiffWords_12)
 (.cond 99 (.seq (.reg r_law49_DiffWords_13)
 .ret) .skip))
 (.seq (.reg r_law49_DiffWords_14)
 (.seq (.reg r_law49_DiffWords_15)
 (.seq (.reg r_law49_DiffWords_16)
 (.cond 218 (.seq (.reg r_law49_DiffWords_17)
 .ret) .skip)))))))))
 (.reg r_law49_DiffWords_18))))
abbrev r_law49_DiffWords_19 : Reg := ⟨[⟨.cal F_law49_exampleHolds [], none, false⟩, ⟨.mv (.t 0), none, false⟩], [(20, 0)], [2, 3, 7, 9, 10], none⟩
abbrev ir_law49_DiffWords : Fn := { np := 2, nv := 21, res := [(20, none)], body :=
(.seq (.reg r_law49_DiffWords_0)
 (.seq (.seq (.reg r_law49_DiffWords_1)
 (.cond 30 (.seq (.reg r_law49_DiffWords_2)
 .ret) .skip))
 (.seq (.reg r_law49_DiffWords_3)
 (.seq (.reg r_law49_DiffWords_4)
 (.seq (.seq (.reg r_law49_DiffWords_5)
 (.cond 69 (.seq (.reg r_law49_DiffWords_6)
 .ret) .skip))
 (.seq (.seq (.reg r_law49_DiffWords_7)
 (.block 0 (.loop b_law49_DiffWords_0)))
 (.seq (.reg r_law49_DiffWords_19)
 .ret))))))) }
/- f7 law49_DiffMoved : 0:a 1:b 2:w 3:a 4:b 5:x 6:own 7:e 8:f 9:g 10:h 11:i 12:none 13:_ 14:_ 15:reach 16:_ 17:_ 18:in 19:k 20:s 21:l 22:same 23:j 24:k 25:s 26:t 27:_ -/
abbrev r_law49_DiffMoved_0 : Reg := ⟨[⟨.bxi (.v 0), none, false⟩, ⟨.bxi (.v 1), none, false⟩, ⟨.mv (.c (.bool false)), none, false⟩], [(3, 2), (4, 1)], [0, 1, 27], none⟩
abbrev r_law49_DiffMoved_1 : Reg := ⟨[⟨.ldi (.v 3) (some 4), none, false⟩, ⟨.cal F_law08_Great [(.t 0)], none, false⟩, ⟨.mv (.t 0), none, false⟩, ⟨.ldi (.v 4) (some 4), some (.t 0, false), false⟩, ⟨.cal F_law08_Great [(.t 0)], some (.t 1, false), false⟩, ⟨.pick (.t 2) (.c (.bool true)) (.t 0), none, false⟩, ⟨.mv (.t 0), none, false⟩, ⟨.ldi (.v 3) (some 4), some (.t 0, false), false⟩, ⟨.ldi (.v 4) (some 4), some (.t 1, false), false⟩, ⟨.cal F_ref09_Check [(.t 1), (.t 0)], some (.t 2, false), false⟩, ⟨.bin .neq (.t 0) (.c (.int (0))), some (.t 3, false), false⟩, ⟨.pick (.t 4) (.c (.bool true)) (.t 0), none, false⟩], [], [], some (38, 0)⟩
abbrev r_law49_DiffMoved_2 : Reg := ⟨[⟨.cal F_law49_exampleHolds [], none, false⟩, ⟨.mv (.t 0), none, false⟩], [(27, 0)], [2, 3, 4], none⟩
abbrev r_law49_DiffMoved_3 : Reg := ⟨[⟨.ldi (.v 3) (some 4), none, false⟩, ⟨.ldi (.v 4) (some 4), none, false⟩, ⟨.cal F_diff_Match [(.t 1), (.t 0)], none, false⟩, ⟨.mv (.t 0), none, false⟩, ⟨.ext (.t 0) 0, none, false⟩, ⟨.ext (.t 1) 1, none, false⟩, ⟨.mv (.t 1), none, false⟩, ⟨.mv (.t 1), none, false⟩], [(5, 1), (7, 0)], [], none⟩
abbrev r_law49_DiffMoved_4 : Reg := ⟨[⟨.ldi (.v 3) (some 4), none, false⟩, ⟨.ldi (.v 4) (some 4), none, false⟩, ⟨.mv (.v 5), none, false⟩, ⟨.cal F_diff_Moved [(.t 2), (.t 1), (.t 0)], none, false⟩, ⟨.mv (.t 0), none, false⟩, ⟨.ext (.t 0) 0, none, false⟩, ⟨.ext (.t 1) 1, none, false⟩, ⟨.mv (.t 1), none, false⟩, ⟨.mv (.t 1), none, false⟩], [(21, 1), (8, 0)], [], none⟩
abbrev r_law49_DiffMoved_5 : Reg := ⟨[⟨.ldi (.v 3) (some 4), none, false⟩, ⟨.ldi (.v 4) (some 4), none, false⟩, ⟨.cal F_equiv_Equal [(.t 1), (.t 0)], none, false⟩, ⟨.mv (.t 0), none, false⟩, ⟨.ext (.t 0) 0, none, false⟩, ⟨.ext (.t 1) 1, none, false⟩, ⟨.mv (.t 1), none, false⟩, ⟨.mv (.t 1), none, false⟩], [(22, 1), (9, 0)], [], none⟩
abbrev r_law49_DiffMoved_6 : Reg := ⟨[⟨.ldi (.v 3) (some 4), none, false⟩, ⟨.ldi (.v 3) (some 4), none, false⟩, ⟨.cal F_diff_Match [(.t 1), (.t 0)], none, false⟩, ⟨.mv (.t 0), none, false⟩, ⟨.ext (.t 0) 0, none, false⟩, ⟨.ext (.t 1) 1, none, false⟩, ⟨.mv (.t 1), none, false⟩, ⟨.mv (.t 1), none, false⟩], [(6, 1), (10, 0)], [], none⟩
abbrev r_law49_DiffMoved_7 : Reg := ⟨[⟨.ldi (.v 3) (some 4), none, false⟩, ⟨.ldi (.v 3) (some 4), none, false⟩, ⟨.mv (.v 6), none, false⟩, ⟨.cal F_diff_Moved [(.t 2), (.t 1), (.t 0)], none, false⟩, ⟨.mv (.t 0), none, false⟩, ⟨.ext (.t 0) 0, none, false⟩, ⟨.ext (.t 1) 1, none, false⟩, ⟨.mv (.t 1), none, false⟩, ⟨.mv (.t 1), none, false⟩], [(12, 1), (11, 0)], [6], none⟩
abbrev r_law49_DiffMoved_8 : Reg := ⟨[⟨.mv (.v 7), none, false⟩, ⟨.bin .neq (.t 0) (.c (.int (0))), none, false⟩, ⟨.mv (.t 0), none, false⟩, ⟨.mv (.v 8), some (.t 0, false), false⟩, ⟨.bin .neq (.t 0) (.c (.int (0))), some (.t 1, false), false⟩, ⟨.pick (.t 2) (.c (.bool true)) (.t 0), none, false⟩, ⟨.mv (.t 0), none, false⟩, ⟨.mv (.v 9), some (.t 0, false), false⟩, ⟨.bin .neq (.t 0) (.c (.int (0))), some (.t 1, false), false⟩, ⟨.pick (.t 2) (.c (.bool true)) (.t 0), none, false⟩, ⟨.mv (.t 0), none, false⟩, ⟨.mv (.v 10), some (.t 0, false), false⟩, ⟨.bin .neq (.t 0) (.c (.int (0))), some (.t 1, false), false⟩, ⟨.pick (.t 2) (.c (.bool true)) (.t 0), none, false⟩, ⟨.mv (.t 0), none, false⟩, ⟨.mv (.v 11), some (.t 0, false), false⟩, ⟨.bin .neq (.t 0) (.c (.int (0))), some (.t 1, false), false⟩, ⟨.pick (.t 2) (.c (.bool true)) (.t 0), none, false⟩, ⟨.mv (.t 0), none, false⟩, ⟨.mv (.v 12), some (.t 0, false), false⟩, ⟨.len (.t 0), some (.t 1, false), false⟩, ⟨.bin .neq (.t 0) (.c (.int (0))), some (.t 2, false), false⟩, ⟨.pick (.t 3) (.c (.bool true)) (.t 0), none, false⟩, ⟨.mv (.t 0), none, false⟩, ⟨.mv (.v 5), some (.t 0, false), false⟩, ⟨.len (.t 0), some (.t 1, false), false⟩, ⟨.fad (.v 3) 2 none, some (.t 2, false), false⟩, ⟨.ldi (.t 0) none, some (.t 3, false), false⟩, ⟨.len (.t 0), some (.t 4, false), false⟩, ⟨.bin .neq (.t 3) (.t 0), some (.t 5, false), false⟩, ⟨.pick (.t 6) (.c (.bool true)) (.t 0), none, false⟩], [], [7, 8, 9, 10, 11, 12], some (102, 0)⟩
abbrev r_law49_DiffMoved_9 : Reg := ⟨[⟨.mv (.c (.bool false)), none, false⟩], [(27, 0)], [2, 3, 4, 5, 21, 22], none⟩
abbrev r_law49_DiffMoved_10 : Reg := ⟨[⟨.ldi (.v 3) (some 4), none, false⟩, ⟨.cal F_ref06_Reach [(.t 0)], none, false⟩, ⟨.mv (.t 0), none, false⟩], [(15, 0)], [], none⟩
abbrev r_law49_DiffMoved_11 : Reg := ⟨[⟨.mv (.v 5), none, false⟩, ⟨.len (.t 0), none, false⟩, ⟨.mv (.c (.int (0))), none, false⟩], [(14, 1), (13, 0)], [], none⟩
abbrev r_law49_DiffMoved_12 : Reg := ⟨[⟨.bin .lss (.v 13) (.v 14), none, false⟩], [], [], some (108, 0)⟩
abbrev r_law49_DiffMoved_13 : Reg := ⟨[⟨.mv (.v 13), none, false⟩, ⟨.mv (.t 0), none, false⟩], [(20, 0)], [], none⟩
abbrev r_law49_DiffMoved_14 : Reg := ⟨[⟨.mv (.c (.bool false)), none, false⟩], [(18, 0)], [], none⟩
abbrev r_law49_DiffMoved_15 : Reg := ⟨[⟨.mv (.v 15), none, false⟩, ⟨.len (.t 0), none, false⟩, ⟨.mv (.c (.int (0))), none, false⟩], [(17, 1), (16, 0)], [], none⟩
abbrev r_law49_DiffMoved_16 : Reg := ⟨[⟨.bin .lss (.v 16) (.v 17), none, false⟩], [], [], some (113, 0)⟩
abbrev r_law49_DiffMoved_17 : Reg := ⟨[⟨.mv (.v 16), none, false⟩, ⟨.mv (.t 0), none, false⟩], [(19, 0)], [], none⟩
abbrev r_law49_DiffMoved_18 : Reg := ⟨[⟨.mv (.v 18), none, false⟩, ⟨.mv (.t 0), none, false⟩, ⟨.mv (.v 15), some (.t 0, false), false⟩, ⟨.mv (.v 19), some (.t 1, false), false⟩, ⟨.iad (.t 1) (.t 0) 1, some (.t 2, false), false⟩, ⟨.ld (.t 0) none, some (.t 3, false), false⟩, ⟨.mv (.v 20), some (.t 4, false), false⟩, ⟨.bin .eql (.t 1) (.t 0), some (.t 5, false), false⟩, ⟨.pick (.t 6) (.c (.bool true)) (.t 0), none, false⟩, ⟨.mv (.t 0), none, false⟩], [(18, 0)], [19], none⟩
abbrev r_law49_DiffMoved_19 : Reg := ⟨[⟨.bin .add (.v 16) (.c (.int (1))), none, false⟩, ⟨.mv (.t 0), none, false⟩], [(16, 0)], [], none⟩
abbrev b_law49_DiffMoved_2 : IC := (.seq (.reg r_law49_DiffMoved_16)
 (.seq (.cond 113 .skip (.exit 2))
 (.seq (.block 3 (.seq (.reg r_law49_DiffMoved_17)
 (.reg r_law49_DiffMoved_18)))
 (.reg r_law49_DiffMoved_19))))
abbrev r_law49_DiffMoved_20 : Reg := ⟨[⟨.mv (.v 5), none, false⟩, ⟨.mv (.v 20), none, false⟩, ⟨.iad (.t 1) (.t 0) 1, none, false⟩, ⟨.ld (.t 0) none, none, false⟩, ⟨.bin .geq (.t 0) (.c (.int (0))), none, false⟩, ⟨.mv (.v 18), none, false⟩, ⟨.beq true (.t 1) (.t 0), none, false⟩], [], [16, 17, 18, 20], some (131, 0)⟩
abbrev r_law49_DiffMoved_21 : Reg := ⟨[⟨.mv (.c (.bool false)), none, false⟩], [(27, 0)], [2, 3, 4, 5, 13, 14, 15, 21, 22], none⟩
abbrev r_law49_DiffMoved_22 : Reg := ⟨[⟨.bin .add (.v 13) (.c (.int (1))), none, false⟩, ⟨.mv (.t 0), none, false⟩], [(13, 0)], [], none⟩
abbrev b_law49_DiffMoved_0 : IC := (.seq (.reg r_law49_DiffMoved_12)
 (.seq (.cond 108 .skip (.exit 0))
 (.seq (.block 1 (.seq (.reg r_law49_DiffMoved_13)
 (.seq (.reg r_law49_DiffMoved_14)
 (.seq (.seq (.reg r_law49_DiffMoved_15)
 (.block 2 (.loop b_law49_DiffMoved_2)))
 (.seq (.reg r_law49_DiffMoved_20)
 (.cond 131 (.seq (.reg r_law49_DiffMoved_21)
 .ret) .skip))))))
 (.reg r_law49_DiffMoved_22))))
abbrev r_law49_DiffMoved_23 : Reg := ⟨[⟨.mv (.v 21), none, false⟩, ⟨.len (.t 0), none, false⟩, ⟨.bin .gtr (.t 0) (.c (.int (0))), none, false⟩], [], [13, 14, 15, 21], some (135, 0)⟩
abbrev r_law49_DiffMoved_24 : Reg := ⟨[⟨.cal F_law49_exampleHolds [], none, false⟩, ⟨.mv (.t 0), none, false⟩], [(27, 0)], [2, 3, 4, 5, 22], none⟩
abbrev r_law49_DiffMoved_25 : Reg := ⟨[⟨.ldi (.v 3) (some 4), none, false⟩, ⟨.fad (.v 3) 1 none, none, false⟩, ⟨.ldi (.t 0) none, none, false⟩, ⟨.mv (.v 2), none, false⟩, ⟨.cal F_mealy_From [(.t 3), (.t 1), (.t 0)], none, false⟩, ⟨.mv (.t 0), none, false⟩, ⟨.ext (.t 0) 0, none, false⟩, ⟨.ext (.t 1) 1, none, false⟩, ⟨.ext (.t 2) 2, none, false⟩, ⟨.mv (.t 2), none, false⟩, ⟨.mv (.t 2), none, false⟩, ⟨.mv (.t 2), none, false⟩], [(25, 1), (23, 0)], [3], none⟩
abbrev r_law49_DiffMoved_26 : Reg := ⟨[⟨.ldi (.v 4) (some 4), none, false⟩, ⟨.fad (.v 4) 1 none, none, false⟩, ⟨.ldi (.t 0) none, none, false⟩, ⟨.mv (.v 2), none, false⟩, ⟨.cal F_mealy_From [(.t 3), (.t 1), (.t 0)], none, false⟩, ⟨.mv (.t 0), none, false⟩, ⟨.ext (.t 0) 0, none, false⟩, ⟨.ext (.t 1) 1, none, false⟩, ⟨.ext (.t 2) 2, none, false⟩, ⟨.mv (.t 2), none, false⟩, ⟨.mv (.t 2), none, false⟩, ⟨.mv (.t 2), none, false⟩], [(26, 1), (24, 0)], [2, 4], none⟩
abbrev r_law49_DiffMoved_27 : Reg := ⟨[⟨.mv (.v 22), none, false⟩, ⟨.mv (.t 0), none, false⟩, ⟨.mv (.v 23), some (.t 0, true), false⟩, ⟨.mv (.v 24), some (.t 1, true), false⟩, ⟨.bin .eql (.t 1) (.t 0), some (.t 2, true), false⟩, ⟨.pick (.t 3) (.t 0) (.c (.bool false)), none, false⟩, ⟨.mv (.t 0), none, false⟩, ⟨.mv (.v 23), some (.t 0, true), false⟩, ⟨.bin .neq (.t 0) (.c (.int (0))), some (.t 1, true), false⟩, ⟨.mv (.t 0), some (.t 2, true), false⟩, ⟨.mv (.v 5), some (.t 0, false), false⟩, ⟨.mv (.v 25), some (.t 1, false), false⟩, ⟨.iad (.t 1) (.t 0) 1, some (.t 2, false), false⟩, ⟨.ld (.t 0) none, some (.t 3, false), false⟩, ⟨.mv (.v 26), some (.t 4, false), false⟩, ⟨.bin .eql (.t 1) (.t 0), some (.t 5, false), false⟩, ⟨.pick (.t 6) (.c (.bool true)) (.t 0), some (.t 9, true), false⟩, ⟨.pick (.t 10) (.t 0) (.c (.bool false)), none, false⟩, ⟨.mv (.t 0), none, false⟩, ⟨.cal F_law49_exampleHolds [], some (.t 0, true), false⟩, ⟨.pick (.t 1) (.t 0) (.c (.bool false)), none, false⟩, ⟨.mv (.t 0), none, false⟩], [(27, 0)], [5, 22, 23, 24, 25, 26], none⟩
abbrev ir_law49_DiffMoved : Fn := { np := 3, nv := 28, res := [(27, none)], body :=
(.seq (.reg r_law49_DiffMoved_0)
 (.seq (.seq (.reg r_law49_DiffMoved_1)
 (.cond 38 (.seq (.reg r_law49_DiffMoved_2)
 .ret) .skip))
 (.seq (.reg r_law49_DiffMoved_3)
 (.seq (.reg r_law49_DiffMoved_4)
 (.seq (.reg r_law49_DiffMoved_5)
 (.seq (.reg r_law49_DiffMoved_6)
 (.seq (.reg r_law49_DiffMoved_7)
 (.seq (.seq (.reg r_law49_DiffMoved_8)
 (.cond 102 (.seq (.reg r_law49_DiffMoved_9)
 .ret) .skip))
 (.seq (.reg r_law49_DiffMoved_10)
 (.seq (.seq (.reg r_law49_DiffMoved_11)
 (.block 0 (.loop b_law49_DiffMoved_0)))
 (.seq (.seq (.reg r_law49_DiffMoved_23)
 (.cond 135 (.seq (.reg r_law49_DiffMoved_24)
 .ret) .skip))
 (.seq (.reg r_law49_DiffMoved_25)
 (.seq (.reg r_law49_DiffMoved_26)
 (.seq (.reg r_law49_DiffMoved_27)
 .ret)))))))))))))) }
/- f8 law49_DiffMatched : 0:a 1:b 2:a 3:b 4:m 5:n 6:x 7:e 8:f 9:g 10:h 11:i 12:j 13:same 14:ok 15:to 16:l 17:_ -/
abbrev r_law49_DiffMatched_0 : Reg := ⟨[⟨.bxi (.v 0), none, false⟩, ⟨.bxi (.v 1), none, false⟩, ⟨.mv (.c (.bool false)), none, false⟩], [(2, 2), (3, 1)], [0, 1, 17], none⟩
abbrev r_law49_DiffMatched_1 : Reg := ⟨[⟨.ldi (.v 2) (some 4), none, false⟩, ⟨.cal F_law08_Great [(.t 0)], none, false⟩, ⟨.mv (.t 0), none, false⟩, ⟨.ldi (.v 3) (some 4), some (.t 0, false), false⟩, ⟨.cal F_law08_Great [(.t 0)], some (.t 1, false), false⟩, ⟨.pick (.t 2) (.c (.bool true)) (.t 0), none, false⟩, ⟨.mv (.t 0), none, false⟩, ⟨.ldi (.v 2) (some 4), some (.t 0, false), false⟩, ⟨.ldi (.v 3) (some 4), some (.t 1, false), false⟩, ⟨.cal F_ref09_Check [(.t 1), (.t 0)], some (.t 2, false), false⟩, ⟨.bin .neq (.t 0) (.c (.int (0))), some (.t 3, false), false⟩, ⟨.pick (.t 4) (.c (.bool true)) (.t 0), none, false⟩], [], [], some (29, 0)⟩
abbrev r_law49_DiffMatched_2 : Reg := ⟨[⟨.cal F_law49_exampleHolds [], none, false⟩, ⟨.mv (.t 0), none, false⟩], [(17, 0)], [2, 3], none⟩
abbrev r_law49_DiffMatched_3 : Reg := ⟨[⟨.ldi (.v 2) (some 4), none, false⟩, ⟨.cal F_minimize_Min [(.t 0)], none, false⟩, ⟨.mv (.t 0), none, false⟩, ⟨.ext (.t 0) 0, none, false⟩, ⟨.ext (.t 1) 1, none, false⟩, ⟨.alc0 4, none, false⟩, ⟨.ini (.t 0) (.t 2) 4, none, false⟩, ⟨.mv (.t 2), none, false⟩], [(4, 1), (7, 0)], [], none⟩
abbrev r_law49_DiffMatched_4 : Reg := ⟨[⟨.ldi (.v 3) (some 4), none, false⟩, ⟨.cal F_minimize_Min [(.t 0)], none, false⟩, ⟨.mv (.t 0), none, false⟩, ⟨.ext (.t 0) 0, none, false⟩, ⟨.ext (.t 1) 1, none, false⟩, ⟨.alc0 4, none, false⟩, ⟨.ini (.t 0) (.t 2) 4, none, false⟩, ⟨.mv (.t 2), none, false⟩], [(5, 1), (8, 0)], [], none⟩
abbrev r_law49_DiffMatched_5 : Reg := ⟨[⟨.ldi (.v 4) (some 4), none, false⟩, ⟨.ldi (.v 5) (some 4), none, false⟩, ⟨.cal F_diff_Match [(.t 1), (.t 0)], none, false⟩, ⟨.mv (.t 0), none, false⟩, ⟨.ext (.t 0) 0, none, false⟩, ⟨.ext (.t 1) 1, none, false⟩, ⟨.mv (.t 1), none, false⟩, ⟨.mv (.t 1), none, false⟩], [(6, 1), (9, 0)], [], none⟩
abbrev r_law49_DiffMatched_6 : Reg := ⟨[⟨.ldi (.v 4) (some 4), none, false⟩, ⟨.ldi (.v 5) (some 4), none, false⟩, ⟨.cal F_equiv_Iso [(.t 1), (.t 0)], none, false⟩, ⟨.mv (.t 0), none, false⟩, ⟨.ext (.t 0) 0, none, false⟩, ⟨.ext (.t 1) 1, none, false⟩, ⟨.ext (.t 2) 2, none, false⟩, ⟨.mv (.t 2), none, false⟩, ⟨.mv (.t 2), none, false⟩, ⟨.mv (.t 2), none, false⟩], [(15, 2), (14, 1), (10, 0)], [], none⟩
abbrev r_law49_DiffMatched_7 : Reg := ⟨[⟨.ldi (.v 4) (some 4), none, false⟩, ⟨.ldi (.v 5) (some 4), none, false⟩, ⟨.mv (.v 6), none, false⟩, ⟨.cal F_diff_Moved [(.t 2), (.t 1), (.t 0)], none, false⟩, ⟨.mv (.t 0), none, false⟩, ⟨.ext (.t 0) 0, none, false⟩, ⟨.ext (.t 1) 1, none, false⟩, ⟨.mv (.t 1), none, false⟩, ⟨.mv (.t 1), none, false⟩], [(16, 1), (11, 0)], [4, 5], none⟩
abbrev r_law49_DiffMatched_8 : Reg := ⟨[⟨.ldi (.v 2) (some 4), none, false⟩, ⟨.ldi (.v 3) (some 4), none, false⟩, ⟨.cal F_equiv_Equal [(.t 1), (.t 0)], none, false⟩, ⟨.mv (.t 0), none, false⟩, ⟨.ext (.t 0) 0, none, false⟩, ⟨.ext (.t 1) 1, none, false⟩, ⟨.mv (.t 1), none, false⟩, ⟨.mv (.t 1), none, false⟩], [(13, 1), (12, 0)], [2, 3], none⟩
abbrev r_law49_DiffMatched_9 : Reg := ⟨[⟨.mv (.v 7), none, false⟩, ⟨.bin .neq (.t 0) (.c (.int (0))), none, false⟩, ⟨.mv (.t 0), none, false⟩, ⟨.mv (.v 8), some (.t 0, false), false⟩, ⟨.bin .neq (.t 0) (.c (.int (0))), some (.t 1, false), false⟩, ⟨.pick (.t 2) (.c (.bool true)) (.t 0), none, false⟩, ⟨.mv (.t 0), none, false⟩, ⟨.mv (.v 9), some (.t 0, false), false⟩, ⟨.bin .neq (.t 0) (.c (.int (0))), some (.t 1, false), false⟩, ⟨.pick (.t 2) (.c (.bool true)) (.t 0), none, false⟩, ⟨.mv (.t 0), none, false⟩, ⟨.mv (.v 10), some (.t 0, false), false⟩, ⟨.bin .neq (.t 0) (.c (.int (0))), some (.t 1, false), false⟩, ⟨.pick (.t 2) (.c (.bool true)) (.t 0), none, false⟩, ⟨.mv (.t 0), none, false⟩, ⟨.mv (.v 11), some (.t 0, false), false⟩, ⟨.bin .neq (.t 0) (.c (.int (0))), some (.t 1, false), false⟩, ⟨.pick (.t 2) (.c (.bool true)) (.t 0), none, false⟩, ⟨.mv (.t 0), none, false⟩, ⟨.mv (.v 12), some (.t 0, false), false⟩, ⟨.bin .neq (.t 0) (.c (.int (0))), some (.t 1, false), false⟩, ⟨.pick (.t 2) (.c (.bool true)) (.t 0), none, false⟩], [], [7, 8, 9, 10, 11, 12], some (88, 0)⟩
abbrev r_law49_DiffMatched_10 : Reg := ⟨[⟨.mv (.c (.bool false)), none, false⟩], [(17, 0)], [6, 13, 14, 15, 16], none⟩
abbrev r_law49_DiffMatched_11 : Reg := ⟨[⟨.mv (.v 13), none, false⟩], [], [13], some (89, 0)⟩
abbrev r_law49_DiffMatched_12 : Reg := ⟨[⟨.mv (.v 14), none, false⟩, ⟨.mv (.t 0), none, false⟩, ⟨.mv (.v 6), some (.t 0, true), false⟩, ⟨.mv (.v 15), some (.t 1, true), false⟩, ⟨.cal F_ref08_Equal [(.t 1), (.t 0)], some (.t 2, true), false⟩, ⟨.pick (.t 3) (.t 0) (.c (.bool false)), none, false⟩, ⟨.mv (.t 0), none, false⟩, ⟨.mv (.v 16), some (.t 0, true), false⟩, ⟨.len (.t 0), some (.t 1, true), false⟩, ⟨.bin .eql (.t 0) (.c (.int (0))), some (.t 2, true), false⟩, ⟨.pick (.t 3) (.t 0) (.c (.bool false)), none, false⟩, ⟨.mv (.t 0), none, false⟩, ⟨.cal F_law49_exampleHolds [], some (.t 0, true), false⟩, ⟨.pick (.t 1) (.t 0) (.c (.bool false)), none, false⟩, ⟨.mv (.t 0), none, false⟩], [(17, 0)], [6, 14, 15, 16], none⟩
abbrev r_law49_DiffMatched_13 : Reg := ⟨[⟨.mv (.v 14), none, false⟩, ⟨.not (.t 0), none, false⟩, ⟨.mv (.t 0), none, false⟩, ⟨.mv (.v 16), some (.t 0, true), false⟩, ⟨.len (.t 0), some (.t 1, true), false⟩, ⟨.bin .gtr (.t 0) (.c (.int (0))), some (.t 2, true), false⟩, ⟨.pick (.t 3) (.t 0) (.c (.bool false)), none, false⟩, ⟨.mv (.t 0), none, false⟩, ⟨.cal F_law49_exampleHolds [], some (.t 0, true), false⟩, ⟨.pick (.t 1) (.t 0) (.c (.bool false)), none, false⟩, ⟨.mv (.t 0), none, false⟩], [(17, 0)], [6, 14, 15, 16], none⟩
abbrev ir_law49_DiffMatched : Fn := { np := 2, nv := 18, res := [(17, none)], body :=
(.seq (.reg r_law49_DiffMatched_0)
 (.seq (.seq (.reg r_law49_DiffMatched_1)
 (.cond 29 (.seq (.reg r_law49_DiffMatched_2)
 .ret) .skip))
 (.seq (.reg r_law49_DiffMatched_3)
 (.seq (.reg r_law49_DiffMatched_4)
 (.seq (.reg r_law49_DiffMatched_5)
 (.seq (.reg r_law49_DiffMatched_6)
 (.seq (.reg r_law49_DiffMatched_7)
 (.seq (.reg r_law49_DiffMatched_8)
 (.seq (.seq (.reg r_law49_DiffMatched_9)
 (.cond 88 (.seq (.reg r_law49_DiffMatched_10)
 .ret) .skip))
 (.seq (.seq (.reg r_law49_DiffMatched_11)
 (.cond 89 (.seq (.reg r_law49_DiffMatched_12)
 .ret) .skip))
 (.seq (.reg r_law49_DiffMatched_13)
 .ret))))))))))) }
/- f9 law08_Great : 0:m 1:m 2:_ 3:_ 4:i 5:_ 6:_ 7:i 8:_ -/
abbrev r_law08_Great_0 : Reg := ⟨[⟨.bxi (.v 0), none, false⟩, ⟨.mv (.c (.bool false)), none, false⟩], [(1, 1)], [0, 8], none⟩
abbrev r_law08_Great_1 : Reg := ⟨[⟨.fad (.v 1) 2 none, none, false⟩, ⟨.ldi (.t 0) none, none, false⟩, ⟨.len (.t 0), none, false⟩, ⟨.bin .gtr (.t 0) (.c (.int (12))), none, false⟩, ⟨.mv (.t 0), none, false⟩, ⟨.fad (.v 1) 3 none, some (.t 0, false), false⟩, ⟨.ldi (.t 0) none, some (.t 1, false), false⟩, ⟨.len (.t 0), some (.t 2, false), false⟩, ⟨.bin .gtr (.t 0) (.c (.int (12))), some (.t 3, false), false⟩, ⟨.pick (.t 4) (.c (.bool true)) (.t 0), none, false⟩, ⟨.mv (.t 0), none, false⟩, ⟨.fad (.v 1) 0 none, some (.t 0, false), false⟩, ⟨.ldi (.t 0) none, some (.t 1, false), false⟩, ⟨.bin .gtr (.t 0) (.c (.int (6))), some (.t 2, false), false⟩, ⟨.pick (.t 3) (.c (.bool true)) (.t 0), none, false⟩], [], [], some (19, 0)⟩
abbrev r_law08_Great_2 : Reg := ⟨[⟨.mv (.c (.bool true)), none, false⟩], [(8, 0)], [1], none⟩
abbrev r_law08_Great_3 : Reg := ⟨[⟨.fad (.v 1) 2 none, none, false⟩, ⟨.ldi (.t 0) none, none, false⟩, ⟨.len (.t 0), none, false⟩, ⟨.mv (.c (.int (0))), none, false⟩], [(3, 1), (2, 0)], [], none⟩
abbrev r_law08_Great_4 : Reg := ⟨[⟨.bin .lss (.v 2) (.v 3), none, false⟩], [], [], some (24, 0)⟩
abbrev r_law08_Great_5 : Reg := ⟨[⟨.mv (.v 2), none, false⟩, ⟨.mv (.t 0), none, false⟩], [(4, 0)], [], none⟩
abbrev r_law08_Great_6 : Reg := ⟨[⟨.fad (.v 1) 2 none, none, false⟩, ⟨.ldi (.t 0) none, none, false⟩, ⟨.mv (.v 4), none, false⟩, ⟨.iad (.t 1) (.t 0) 1, none, false⟩, ⟨.ldi (.t 0) none, none, false⟩, ⟨.len (.t 0), none, false⟩, ⟨.bin .gtr (.t 0) (.c (.int (12))), none, false⟩], [], [4], some (32, 0)⟩
abbrev r_law08_Great_7 : Reg := ⟨[⟨.mv (.c (.bool true)), none, false⟩], [(8, 0)], [1, 2, 3], none⟩
abbrev r_law08_Great_8 : Reg := ⟨[⟨.bin .add (.v 2) (.c (.int (1))), none, false⟩, ⟨.mv (.t 0), none, false⟩], [(2, 0)], [], none⟩
abbrev b_law08_Great_0 : IC := (.seq (.reg r_law08_Great_4)
 (.seq (.cond 24 .skip (.exit 0))
 (.seq (.block 1 (.seq (.reg r_law08_Great_5)
 (.seq (.reg r_law08_Great_6)
 (.cond 32 (.seq (.reg r_law08_Great_7)
 .ret) .skip))))
 (.reg r_law08_Great_8))))
abbrev r_law08_Great_9 : Reg := ⟨[⟨.fad (.v 1) 3 none, none, false⟩, ⟨.ldi (.t 0) none, none, false⟩, ⟨.len (.t 0), none, false⟩, ⟨.mv (.c (.int (0))), none, false⟩], [(6, 1), (5, 0)], [2, 3], none⟩
abbrev r_law08_Great_10 : Reg := ⟨[⟨.bin .lss (.v 5) (.v 6), none, false⟩], [], [], some (38, 0)⟩
abbrev r_law08_Great_11 : Reg := ⟨[⟨.mv (.v 5), none, false⟩, ⟨.mv (.t 0), none, false⟩], [(7, 0)], [], none⟩
abbrev r_law08_Great_12 : Reg := ⟨[⟨.fad (.v 1) 3 none, none, false⟩, ⟨.ldi (.t 0) none, none, false⟩, ⟨.mv (.v 7), none, false⟩, ⟨.iad (.t 1) (.t 0) 1, none, false⟩, ⟨.ldi (.t 0) none, none, false⟩, ⟨.len (.t 0), none, false⟩, ⟨.bin .gtr (.t 0) (.c (.int (12))), none, false⟩], [], [7], some (46, 0)⟩
abbrev r_law08_Great_13 : Reg := ⟨[⟨.mv (.c (.bool true)), none, false⟩], [(8, 0)], [1, 5, 6], none⟩
abbrev r_law08_Great_14 : Reg := ⟨[⟨.bin .add (.v 5) (.c (.int (1))), none, false⟩, ⟨.mv (.t 0), none, false⟩], [(5, 0)], [], none⟩
abbrev b_law08_Great_2 : IC := (.seq (.reg r_law08_Great_10)
 (.seq (.cond 38 .skip (.exit 2))
 (.seq (.block 3 (.seq (.reg r_law08_Great_11)
 (.seq (.reg r_law08_Great_12)
 (.cond 46 (.seq (.reg r_law08_Great_13)
 .ret) .skip))))
 (.reg r_law08_Great_14))))
abbrev r_law08_Great_15 : Reg := ⟨[⟨.mv (.c (.bool false)), none, false⟩], [(8, 0)], [1, 5, 6], none⟩
abbrev ir_law08_Great : Fn := { np := 1, nv := 9, res := [(8, none)], body :=
(.seq (.reg r_law08_Great_0)
 (.seq (.seq (.reg r_law08_Great_1)
 (.cond 19 (.seq (.reg r_law08_Great_2)
 .ret) .skip))
 (.seq (.seq (.reg r_law08_Great_3)
 (.block 0 (.loop b_law08_Great_0)))
 (.seq (.seq (.reg r_law08_Great_9)
 (.block 2 (.loop b_law08_Great_2)))
 (.seq (.reg r_law08_Great_15)
 .ret))))) }
/- f10 law49_exampleHolds : 0:a 1:b 2:e 3:f 4:g 5:h 6:i 7:j 8:none 9:l 10:m 11:k 12:_ -/
abbrev r_law49_exampleHolds_0 : Reg := ⟨[⟨.mv (.c (.bool false)), none, false⟩], [], [12], none⟩
abbrev r_law49_exampleHolds_1 : Reg := ⟨[⟨.liti [(.c (.int (1)))] 1, none, false⟩, ⟨.liti [(.c (.int (0)))] 1, none, false⟩, ⟨.liti [(.t 1), (.t 0)] 1, none, false⟩, ⟨.liti [(.c (.int (0)))] 1, none, false⟩, ⟨.liti [(.c (.int (0)))] 1, none, false⟩, ⟨.liti [(.t 1), (.t 0)] 1, none, false⟩, ⟨.bld [.int 0, .int 0, .snil, .snil] [(0, 1, (.c (.int (1)))), (2, 1, (.t 3)), (3, 1, (.t 0))], none, false⟩, ⟨.alc0 4, none, false⟩, ⟨.ini (.t 0) (.t 1) 4, none, false⟩], [(0, 0)], [], none⟩
abbrev r_law49_exampleHolds_2 : Reg := ⟨[⟨.liti [(.c (.int (1)))] 1, none, false⟩, ⟨.liti [(.c (.int (2)))] 1, none, false⟩, ⟨.liti [(.c (.int (0)))] 1, none, false⟩, ⟨.liti [(.t 2), (.t 1), (.t 0)] 1, none, false⟩, ⟨.liti [(.c (.int (0)))] 1, none, false⟩, ⟨.liti [(.c (.int (0)))] 1, none, false⟩, ⟨.liti [(.c (.int (1)))] 1, none, false⟩, ⟨.liti [(.t 2), (.t 1), (.t 0)] 1, none, false⟩, ⟨.bld [.int 0, .int 0, .snil, .snil] [(0, 1, (.c (.int (1)))), (2, 1, (.t 4)), (3, 1, (.t 0))], none, false⟩, ⟨.alc0 4, none, false⟩, ⟨.ini (.t 0) (.t 1) 4, none, false⟩], [(1, 0)], [], none⟩
abbrev r_law49_exampleHolds_3 : Reg := ⟨[⟨.ldi (.v 0) (some 4), none, false⟩, ⟨.ldi (.v 1) (some 4), none, false⟩, ⟨.cal F_diff_Explain [(.t 1), (.t 0)], none, false⟩, ⟨.mv (.t 0), none, false⟩, ⟨.ext (.t 0) 0, none, false⟩, ⟨.ext (.t 1) 1, none, false⟩, ⟨.mv (.t 1), none, false⟩, ⟨.mv (.t 1), none, false⟩], [(9, 1), (2, 0)], [], none⟩
abbrev r_law49_exampleHolds_4 : Reg := ⟨[⟨.ldi (.v 0) (some 4), none, false⟩, ⟨.ldi (.v 1) (some 4), none, false⟩, ⟨.cal F_diff_Match [(.t 1), (.t 0)], none, false⟩, ⟨.mv (.t 0), none, false⟩, ⟨.ext (.t 0) 0, none, false⟩, ⟨.ext (.t 1) 1, none, false⟩, ⟨.mv (.t 1), none, false⟩, ⟨.mv (.t 1), none, false⟩], [(10, 1), (3, 0)], [], none⟩
abbrev r_law49_exampleHolds_5 : Reg := ⟨[⟨.ldi (.v 0) (some 4), none, false⟩, ⟨.ldi (.v 1) (some 4), none, false⟩, ⟨.liti [(.c (.int (0))), (.c (.int (1)))] 1, none, false⟩, ⟨.cal F_diff_Moved [(.t 2), (.t 1), (.t 0)], none, false⟩, ⟨.mv (.t 0), none, false⟩, ⟨.ext (.t 0) 0, none, false⟩, ⟨.ext (.t 1) 1, none, false⟩, ⟨.mv (.t 1), none, false⟩, ⟨.mv (.t 1), none, false⟩], [(11, 1), (4, 0)], [], none⟩
abbrev r_law49_exampleHolds_6 : Reg := ⟨[⟨.ldi (.v 0) (some 4), none, false⟩, ⟨.ldi (.v 1) (some 4), none, false⟩, ⟨.liti [(.c (.int (0)))] 1, none, false⟩, ⟨.cal F_diff_Moved [(.t 2), (.t 1), (.t 0)], none, false⟩, ⟨.mv (.t 0), none, false⟩, ⟨.ext (.t 0) 0, none, false⟩, ⟨.ext (.t 1) 1, none, false⟩, ⟨.mv (.t 1), none, false⟩, ⟨.mv (.t 1), none, false⟩], [(5, 0)], [], none⟩
abbrev r_law49_exampleHolds_7 : Reg := ⟨[⟨.ldi (.v 0) (some 4), none, false⟩, ⟨.ldi (.v 1) (some 4), none, false⟩, ⟨.liti [(.c (.int (0))), (.c (.int (3)))] 1, none, false⟩, ⟨.cal F_diff_Moved [(.t 2), (.t 1), (.t 0)], none, false⟩, ⟨.mv (.t 0), none, false⟩, ⟨.ext (.t 0) 0, none, false⟩, ⟨.ext (.t 1) 1, none, false⟩, ⟨.mv (.t 1), none, false⟩, ⟨.mv (.t 1), none, false⟩], [(6, 0)], [], none⟩
abbrev r_law49_exampleHolds_8 : Reg := ⟨[⟨.ldi (.v 0) (some 4), none, false⟩, ⟨.ldi (.v 1) (some 4), none, false⟩, ⟨.liti [(.c (.int (-1))), (.c (.int (-1)))] 1, none, false⟩, ⟨.cal F_diff_Moved [(.t 2), (.t 1), (.t 0)], none, false⟩, ⟨.mv (.t 0), none, false⟩, ⟨.ext (.t 0) 0, none, false⟩, ⟨.ext (.t 1) 1, none, false⟩, ⟨.mv (.t 1), none, false⟩, ⟨.mv (.t 1), none, false⟩], [(8, 1), (7, 0)], [0, 1], none⟩
abbrev r_law49_exampleHolds_9 : Reg := ⟨[⟨.mv (.v 2), none, false⟩, ⟨.bin .eql (.t 0) (.c (.int (0))), none, false⟩, ⟨.mv (.t 0), none, false⟩, ⟨.mv (.v 3), some (.t 0, true), false⟩, ⟨.bin .eql (.t 0) (.c (.int (0))), some (.t 1, true), false⟩, ⟨.pick (.t 2) (.t 0) (.c (.bool false)), none, false⟩, ⟨.mv (.t 0), none, false⟩, ⟨.mv (.v 4), some (.t 0, true), false⟩, ⟨.bin .eql (.t 0) (.c (.int (0))), some (.t 1, true), false⟩, ⟨.pick (.t 2) (.t 0) (.c (.bool false)), none, false⟩, ⟨.mv (.t 0), none, false⟩, ⟨.mv (.v 5), some (.t 0, true), false⟩, ⟨.bin .eql (.t 0) (.c (.int (1))), some (.t 1, true), false⟩, ⟨.pick (.t 2) (.t 0) (.c (.bool false)), none, false⟩, ⟨.mv (.t 0), none, false⟩, ⟨.mv (.v 6), some (.t 0, true), false⟩, ⟨.bin .eql (.t 0) (.c (.int (1))), some (.t 1, true), false⟩, ⟨.pick (.t 2) (.t 0) (.c (.bool false)), none, false⟩, ⟨.mv (.t 0), none, false⟩, ⟨.mv (.v 7), some (.t 0, true), false⟩, ⟨.bin .eql (.t 0) (.c (.int (0))), some (.t 1, true), false⟩, ⟨.pick (.t 2) (.t 0) (.c (.bool false)), none, false⟩, ⟨.mv (.t 0), none, false⟩, ⟨.mv (.v 8), some (.t 0, true), false⟩, ⟨.len (.t 0), some (.t 1, true), false⟩, ⟨.bin .eql (.t 0) (.c (.int (0))), some (.t 2, true), false⟩, ⟨.pick (.t 3) (.t 0) (.c (.bool false)), none, false⟩, ⟨.mv (.t 0), none, false⟩, ⟨.mv (.v 9), some (.t 0, true), false⟩, ⟨.liti [(.c (.int (0))), (.c (.int (0))), (.c (.int (0)))] 1, some (.t 1, true), false⟩, ⟨.bld [.snil, .int 0, .int 0, .int 0, .int 0] [(0, 1, (.t 0)), (2, 1, (.c (.int (2)))), (4, 1, (.c (.int (1))))], some (.t 2, true), false⟩, ⟨.liti [(.t 0)] 5, some (.t 3, true), false⟩, ⟨.cal F_ref49_Same [(.t 3), (.t 0)], some (.t 4, true), false⟩, ⟨.pick (.t 5) (.t 0) (.c (.bool false)), none, false⟩, ⟨.mv (.t 0), none, false⟩, ⟨.mv (.v 10), some (.t 0, true), false⟩, ⟨.liti [(.c (.int (0))), (.c (.int (1)))] 1, some (.t 1, true), false⟩, ⟨.cal F_ref08_Equal [(.t 1), (.t 0)], some (.t 2, true), false⟩, ⟨.pick (.t 3) (.t 0) (.c (.bool false)), none, false⟩, ⟨.mv (.t 0), none, false⟩, ⟨.mv (.v 11), some (.t 0, true), false⟩, ⟨.liti [(.c (.int (0))), (.c (.int (0)))] 1, some (.t 1, true), false⟩, ⟨.bld [.snil, .int 0, .int 0, .int 0, .int 0] [(0, 1, (.t 0)), (1, 1, (.c (.int (1)))), (2, 1, (.c (.int (1)))), (4, 1, (.c (.int (2))))], some (.t 2, true), false⟩, ⟨.liti [(.t 0)] 5, some (.t 3, true), false⟩, ⟨.cal F_ref49_Same [(.t 3), (.t 0)], some (.t 4, true), false⟩, ⟨.pick (.t 5) (.t 0) (.c (.bool false)), none, false⟩, ⟨.mv (.t 0), none, false⟩], [(12, 0)], [2, 3, 4, 5, 6, 7, 8, 9, 10, 11], none⟩
abbrev ir_law49_exampleHolds : Fn := { np := 0, nv := 13, res := [(12, none)], body :=
(.seq (.reg r_law49_exampleHolds_0)
 (.seq (.reg r_law49_exampleHolds_1)
 (.seq (.reg r_law49_exampleHolds_2)
 (.seq (.reg r_law49_exampleHolds_3)
 (.seq (.reg r_law49_exampleHolds_4)
 (.seq (.reg r_law49_exampleHolds_5)
 (.seq (.reg r_law49_exampleHolds_6)
 (.seq (.reg r_law49_exampleHolds_7)
 (.seq (.reg r_law49_exampleHolds_8)
 (.seq (.reg r_law49_exampleHolds_9)
 .ret)))))))))) }
/- f11 diff_Explain : 0:a 1:b 2:a 3:b 4:e 5:first 6:i 7:queue 8:_ 9:_ 10:p 11:x 12:o 13:u 14:out 15:w 16:seen 17:next 18:_ 19:_ -/
abbrev r_diff_Explain_0 : Reg := ⟨[⟨.bxi (.v 0), none, false⟩, ⟨.bxi (.v 1), none, false⟩, ⟨.mv (.c (.snil)), none, false⟩, ⟨.mv (.c (.int (0))), none, false⟩], [(2, 3), (3, 2)], [0, 1, 18, 19], none⟩
abbrev r_diff_Explain_1 : Reg := ⟨[⟨.ldi (.v 2) (some 4), none, false⟩, ⟨.ldi (.v 3) (some 4), none, false⟩, ⟨.cal F_diff_check [(.t 1), (.t 0)], none, false⟩, ⟨.mv (.t 0), none, false⟩], [(4, 0)], [], none⟩
abbrev r_diff_Explain_2 : Reg := ⟨[⟨.mv (.v 4), none, false⟩, ⟨.bin .neq (.t 0) (.c (.int (0))), none, false⟩], [], [], some (22, 0)⟩
abbrev r_diff_Explain_3 : Reg := ⟨[⟨.mv (.v 4), none, false⟩, ⟨.mv (.c (.snil)), none, false⟩, ⟨.mv (.t 1), none, false⟩], [(18, 1), (19, 0)], [2, 3, 4], none⟩
abbrev r_diff_Explain_4 : Reg := ⟨[⟨.fad (.v 2) 1 none, none, false⟩, ⟨.ldi (.t 0) none, none, false⟩, ⟨.fad (.v 3) 1 none, none, false⟩, ⟨.ldi (.t 0) none, none, false⟩, ⟨.bld [.int 0, .int 0] [(0, 1, (.t 2)), (1, 1, (.t 0))], none, false⟩, ⟨.alc0 2, none, false⟩, ⟨.ini (.t 0) (.t 1) 2, none, false⟩], [(5, 0)], [4], none⟩
abbrev r_diff_Explain_5 : Reg := ⟨[⟨.mkm, none, false⟩, ⟨.ldi (.v 5) (some 2), none, false⟩, ⟨.mup (.t 1) 4 (.t 0) (.c (.bool true)), none, false⟩, ⟨.mv (.t 2), none, false⟩, ⟨.mv (.t 0), none, false⟩], [(16, 0)], [], none⟩
abbrev r_diff_Explain_6 : Reg := ⟨[⟨.ldi (.v 5) (some 2), none, false⟩, ⟨.bld [.int 0, .int 0, .snil] [(0, 2, (.t 0))], none, false⟩, ⟨.litm [(.t 0)] (some 3), none, false⟩, ⟨.mv (.t 0), none, false⟩], [(7, 0)], [5], none⟩
abbrev r_diff_Explain_7 : Reg := ⟨[⟨.nl (some 5), none, false⟩], [(14, 0)], [], none⟩
abbrev r_diff_Explain_8 : Reg := ⟨[⟨.mv (.c (.int (0))), none, false⟩], [(6, 0)], [], none⟩
abbrev r_diff_Explain_9 : Reg := ⟨[⟨.mv (.v 6), none, false⟩, ⟨.mv (.v 7), none, false⟩, ⟨.len (.t 0), none, false⟩, ⟨.bin .lss (.t 2) (.t 0), none, false⟩], [], [], some (38, 0)⟩
abbrev r_diff_Explain_11 : Reg := ⟨[⟨.mv (.v 7), none, false⟩, ⟨.mv (.v 6), none, false⟩, ⟨.iad (.t 1) (.t 0) 3, none, false⟩, ⟨.ld (.t 0) (some 3), none, false⟩, ⟨.alc0 3, none, false⟩, ⟨.ini (.t 0) (.t 1) 3, none, false⟩], [(10, 0)], [], none⟩
abbrev r_diff_Explain_12 : Reg := ⟨[⟨.fad (.v 2) 0 none, none, false⟩, ⟨.ldi (.t 0) none, none, false⟩, ⟨.mv (.c (.int (0))), none, false⟩], [(9, 1), (8, 0)], [], none⟩
abbrev r_diff_Explain_13 : Reg := ⟨[⟨.bin .lss (.v 8) (.v 9), none, false⟩], [], [], some (48, 0)⟩
abbrev r_diff_Explain_14 : Reg := ⟨[⟨.mv (.v 8), none, false⟩, ⟨.mv (.t 0), none, false⟩], [(11, 0)], [], none⟩
abbrev r_diff_Explain_15 : Reg := ⟨[⟨.fad (.v 10) 2 none, none, false⟩, ⟨.ldi (.t 0) none, none, false⟩, ⟨.mv (.v 11), none, false⟩, ⟨.liti [(.t 0)] 1, none, false⟩, ⟨.liti [(.t 2), (.t 0)] 1, none, false⟩, ⟨.cal F_word_Join [(.t 0)], none, false⟩, ⟨.mv (.t 0), none, false⟩], [(15, 0)], [], none⟩
abbrev r_diff_Explain_16 : Reg := ⟨[⟨.fad (.v 2) 3 none, none, false⟩, ⟨.ldi (.t 0) none, none, false⟩, ⟨.fad (.v 10) 0 (some 2), none, false⟩, ⟨.fad (.t 0) 0 none, none, false⟩, ⟨.ldi (.t 0) none, none, false⟩, ⟨.iad (.t 3) (.t 0) 1, none, false⟩, ⟨.ldi (.t 0) none, none, false⟩, ⟨.mv (.v 11), none, false⟩, ⟨.iad (.t 1) (.t 0) 1, none, false⟩, ⟨.ldi (.t 0) none, none, false⟩, ⟨.fad (.v 3) 3 none, none, false⟩, ⟨.ldi (.t 0) none, none, false⟩, ⟨.fad (.v 10) 0 (some 2), none, false⟩, ⟨.fad (.t 0) 1 none, none, false⟩, ⟨.ldi (.t 0) none, none, false⟩, ⟨.iad (.t 3) (.t 0) 1, none, false⟩, ⟨.ldi (.t 0) none, none, false⟩, ⟨.mv (.v 11), none, false⟩, ⟨.iad (.t 1) (.t 0) 1, none, false⟩, ⟨.ldi (.t 0) none, none, false⟩, ⟨.mv (.t 10), none, false⟩, ⟨.mv (.t 1), none, false⟩], [(12, 1), (13, 0)], [], none⟩
abbrev r_diff_Explain_17 : Reg := ⟨[⟨.mv (.v 12), none, false⟩, ⟨.mv (.v 13), none, false⟩, ⟨.bin .neq (.t 1) (.t 0), none, false⟩], [], [], some (78, 0)⟩
abbrev r_diff_Explain_18 : Reg := ⟨[⟨.mv (.v 14), none, false⟩, ⟨.mv (.v 15), none, false⟩, ⟨.fad (.v 10) 0 (some 2), none, false⟩, ⟨.fad (.t 0) 0 none, none, false⟩, ⟨.ldi (.t 0) none, none, false⟩, ⟨.fad (.v 10) 0 (some 2), none, false⟩, ⟨.fad (.t 0) 1 none, none, false⟩, ⟨.ldi (.t 0) none, none, false⟩, ⟨.mv (.v 12), none, false⟩, ⟨.mv (.v 13), none, false⟩, ⟨.bld [.snil, .int 0, .int 0, .int 0, .int 0] [(0, 1, (.t 8)), (1, 1, (.t 5)), (2, 1, (.t 2)), (3, 1, (.t 1)), (4, 1, (.t 0))], none, false⟩, ⟨.lita [(.t 0)] 5, none, false⟩, ⟨.appw (.t 11) (.t 0) (some 5), none, false⟩, ⟨.mv (.t 0), none, false⟩], [(14, 0)], [11, 12, 13, 15], none⟩
abbrev r_diff_Explain_19 : Reg := ⟨[⟨.fad (.v 2) 2 none, none, false⟩, ⟨.ldi (.t 0) none, none, false⟩, ⟨.fad (.v 10) 0 (some 2), none, false⟩, ⟨.fad (.t 0) 0 none, none, false⟩, ⟨.ldi (.t 0) none, none, false⟩, ⟨.iad (.t 3) (.t 0) 1, none, false⟩, ⟨.ldi (.t 0) none, none, false⟩, ⟨.mv (.v 11), none, false⟩, ⟨.iad (.t 1) (.t 0) 1, none, false⟩, ⟨.ldi (.t 0) none, none, false⟩, ⟨.fad (.v 3) 2 none, none, false⟩, ⟨.ldi (.t 0) none, none, false⟩, ⟨.fad (.v 10) 0 (some 2), none, false⟩, ⟨.fad (.t 0) 1 none, none, false⟩, ⟨.ldi (.t 0) none, none, false⟩, ⟨.iad (.t 3) (.t 0) 1, none, false⟩, ⟨.ldi (.t 0) none, none, false⟩, ⟨.mv (.v 11), none, false⟩, ⟨.iad (.t 1) (.t 0) 1, none, false⟩, ⟨.ldi (.t 0) none, none, false⟩, ⟨.bld [.int 0, .int 0] [(0, 1, (.t 10)), (1, 1, (.t 0))], none, false⟩, ⟨.alc0 2, none, false⟩, ⟨.ini (.t 0) (.t 1) 2, none, false⟩], [(17, 0)], [11, 12, 13], none⟩
abbrev r_diff_Explain_20 : Reg := ⟨[⟨.mv (.v 16), none, false⟩, ⟨.ldi (.v 17) (some 2), none, false⟩, ⟨.mlk (.t 1) 4 (.t 0) (.bool false) false, none, false⟩, ⟨.not (.t 0), none, false⟩], [], [], some (116, 0)⟩
abbrev r_diff_Explain_21 : Reg := ⟨[⟨.mv (.v 16), none, false⟩, ⟨.ldi (.v 17) (some 2), none, false⟩, ⟨.mup (.t 1) 4 (.t 0) (.c (.bool true)), none, false⟩], [], [], none⟩
abbrev r_diff_Explain_22 : Reg := ⟨[⟨.mv (.v 7), none, false⟩, ⟨.ldi (.v 17) (some 2), none, false⟩, ⟨.mv (.v 15), none, false⟩, ⟨.bld [.int 0, .int 0, .snil] [(0, 2, (.t 1)), (2, 1, (.t 0))], none, false⟩, ⟨.lita [(.t 0)] 3, none, false⟩, ⟨.appw (.t 4) (.t 0) (some 3), none, false⟩, ⟨.mv (.t 0), none, false⟩], [(7, 0)], [15, 17], none⟩
abbrev r_diff_Explain_23 : Reg := ⟨[⟨.bin .add (.v 8) (.c (.int (1))), none, false⟩, ⟨.mv (.t 0), none, false⟩], [(8, 0)], [15, 17], none⟩
abbrev b_diff_Explain_2 : IC := (.seq (.reg r_diff_Explain_13)
 (.seq (.cond 48 .skip (.exit 2))
 (.seq (.block 3 (.seq (.reg r_diff_Explain_14)
 (.seq (.reg r_diff_Explain_15)
 (.seq (.reg r_diff_Explain_16)
 (.seq (.seq (.reg r_diff_Explain_17)
 (.cond 78 (.seq (.reg r_diff_Explain_18)
 (.exit 3)) .skip))
 (.seq (.reg r_diff_Explain_19)
 (.seq (.reg r_diff_Explain_20)
 (.cond 116 (.seq (.reg r_diff_Explain_21)
 (.reg r_diff_Explain_22)) .skip))))))))
 (.reg r_diff_Explain_23))))
abbrev r_diff_Explain_10 : Reg := ⟨[⟨.mv (.v 6), none, false⟩, ⟨.bin .add (.t 0) (.c (.int (1))), none, false⟩, ⟨.mv (.t 0), none, false⟩], [(6, 0)], [8, 9, 10], none⟩
abbrev b_diff_Explain_0 : IC := (.seq (.seq (.reg r_diff_Explain_9)
 (.cond 38 .skip (.exit 0)))
 (.seq (.block 1 (.seq (.reg r_diff_Explain_11)
 (.seq (.reg r_diff_Explain_12)
 (.block 2 (.loop b_diff_Explain_2)))))
 (.reg r_diff_Explain_10)))
abbrev r_diff_Explain_24 : Reg := ⟨[⟨.mv (.v 14), none, false⟩, ⟨.cam F_diff_sorted [(.t 0)], none, false⟩, ⟨.ext (.t 0) 0, none, false⟩, ⟨.ext (.t 1) 1, none, false⟩, ⟨.mv (.t 1), none, false⟩, ⟨.mv (.t 1), none, false⟩], [(18, 1), (19, 0)], [2, 3, 6, 7, 14, 16], none⟩
abbrev ir_diff_Explain : Fn := { np := 2, nv := 20, res := [(18, none), (19, none)], body :=
(.seq (.reg r_diff_Explain_0)
 (.seq (.seq (.reg r_diff_Explain_1)
 (.seq (.reg r_diff_Explain_2)
 (.cond 22 (.seq (.reg r_diff_Explain_3)
 .ret) .skip)))
 (.seq (.reg r_diff_Explain_4)
 (.seq (.reg r_diff_Explain_5)
 (.seq (.reg r_diff_Explain_6)
 (.seq (.reg r_diff_Explain_7)
 (.seq (.seq (.reg r_diff_Explain_8)
 (.block 0 (.loop b_diff_Explain_0)))
 (.seq (.reg r_diff_Explain_24)
 .ret)))))))) }
/- f12 ref49_Explain : 0:a 1:b 2:a 3:b 4:e 5:i 6:l 7:x 8:p 9:out 10:w 11:k 12:known 13:q 14:_ 15:_ -/
abbrev r_ref49_Explain_0 : Reg := ⟨[⟨.bxi (.v 0), none, false⟩, ⟨.bxi (.v 1), none, false⟩, ⟨.mv (.c (.snil)), none, false⟩, ⟨.mv (.c (.int (0))), none, false⟩], [(2, 3), (3, 2)], [0, 1, 14, 15], none⟩
abbrev r_ref49_Explain_1 : Reg := ⟨[⟨.ldi (.v 2) (some 4), none, false⟩, ⟨.ldi (.v 3) (some 4), none, false⟩, ⟨.cal F_ref09_Check [(.t 1), (.t 0)], none, false⟩, ⟨.mv (.t 0), none, false⟩], [(4, 0)], [], none⟩
abbrev r_ref49_Explain_2 : Reg := ⟨[⟨.mv (.v 4), none, false⟩, ⟨.bin .neq (.t 0) (.c (.int (0))), none, false⟩], [], [], some (20, 0)⟩
abbrev r_ref49_Explain_3 : Reg := ⟨[⟨.mv (.v 4), none, false⟩, ⟨.mv (.c (.snil)), none, false⟩, ⟨.mv (.t 1), none, false⟩], [(14, 1), (15, 0)], [2, 3, 4], none⟩
abbrev r_ref49_Explain_4 : Reg := ⟨[⟨.fad (.v 2) 1 none, none, false⟩, ⟨.ldi (.t 0) none, none, false⟩, ⟨.fad (.v 3) 1 none, none, false⟩, ⟨.ldi (.t 0) none, none, false⟩, ⟨.bld [.int 0, .int 0, .snil] [(0, 1, (.t 2)), (1, 1, (.t 0))], none, false⟩, ⟨.litm [(.t 0)] (some 3), none, false⟩, ⟨.mv (.t 0), none, false⟩], [(6, 0)], [4], none⟩
abbrev r_ref49_Explain_5 : Reg := ⟨[⟨.nl (some 5), none, false⟩], [(9, 0)], [], none⟩
abbrev r_ref49_Explain_6 : Reg := ⟨[⟨.mv (.c (.int (0))), none, false⟩], [(5, 0)], [], none⟩
abbrev r_ref49_Explain_7 : Reg := ⟨[⟨.mv (.v 5), none, false⟩, ⟨.mv (.v 6), none, false⟩, ⟨.len (.t 0), none, false⟩, ⟨.bin .lss (.t 2) (.t 0), none, false⟩], [], [], some (31, 0)⟩
abbrev r_ref49_Explain_9 : Reg := ⟨[⟨.mv (.v 6), none, false⟩, ⟨.mv (.v 5), none, false⟩, ⟨.iad (.t 1) (.t 0) 3, none, false⟩, ⟨.ld (.t 0) (some 3), none, false⟩, ⟨.alc0 3, none, false⟩, ⟨.ini (.t 0) (.t 1) 3, none, false⟩], [(8, 0)], [], none⟩
abbrev r_ref49_Explain_10 : Reg := ⟨[⟨.mv (.c (.int (0))), none, false⟩], [(7, 0)], [], none⟩
abbrev r_ref49_Explain_11 : Reg := ⟨[⟨.mv (.v 7), none, false⟩, ⟨.fad (.v 2) 0 none, none, false⟩, ⟨.ldi (.t 0) none, none, false⟩, ⟨.bin .lss (.t 2) (.t 0), none, false⟩], [], [], some (41, 0)⟩
abbrev r_ref49_Explain_13 : Reg := ⟨[⟨.fad (.v 8) 2 none, none, false⟩, ⟨.ldi (.t 0) none, none, false⟩, ⟨.mv (.v 7), none, false⟩, ⟨.cal F_ref09_Extended [(.t 1), (.t 0)], none, false⟩, ⟨.mv (.t 0), none, false⟩], [(10, 0)], [], none⟩
abbrev r_ref49_Explain_14 : Reg := ⟨[⟨.fad (.v 2) 3 none, none, false⟩, ⟨.ldi (.t 0) none, none, false⟩, ⟨.fad (.v 8) 0 none, none, false⟩, ⟨.ldi (.t 0) none, none, false⟩, ⟨.iad (.t 2) (.t 0) 1, none, false⟩, ⟨.ldi (.t 0) none, none, false⟩, ⟨.mv (.v 7), none, false⟩, ⟨.iad (.t 1) (.t 0) 1, none, false⟩, ⟨.ldi (.t 0) none, none, false⟩, ⟨.fad (.v 3) 3 none, none, false⟩, ⟨.ldi (.t 0) none, none, false⟩, ⟨.fad (.v 8) 1 none, none, false⟩, ⟨.ldi (.t 0) none, none, false⟩, ⟨.iad (.t 2) (.t 0) 1, none, false⟩, ⟨.ldi (.t 0) none, none, false⟩, ⟨.mv (.v 7), none, false⟩, ⟨.iad (.t 1) (.t 0) 1, none, false⟩, ⟨.ldi (.t 0) none, none, false⟩, ⟨.bin .neq (.t 9) (.t 0), none, false⟩], [], [], some (66, 0)⟩
abbrev r_ref49_Explain_15 : Reg := ⟨[⟨.mv (.v 9), none, false⟩, ⟨.mv (.v 10), none, false⟩, ⟨.fad (.v 8) 0 none, none, false⟩, ⟨.ldi (.t 0) none, none, false⟩, ⟨.fad (.v 8) 1 none, none, false⟩, ⟨.ldi (.t 0) none, none, false⟩, ⟨.fad (.v 2) 3 none, none, false⟩, ⟨.ldi (.t 0) none, none, false⟩, ⟨.fad (.v 8) 0 none, none, false⟩, ⟨.ldi (.t 0) none, none, false⟩, ⟨.iad (.t 2) (.t 0) 1, none, false⟩, ⟨.ldi (.t 0) none, none, false⟩, ⟨.mv (.v 7), none, false⟩, ⟨.iad (.t 1) (.t 0) 1, none, false⟩, ⟨.ldi (.t 0) none, none, false⟩, ⟨.fad (.v 3) 3 none, none, false⟩, ⟨.ldi (.t 0) none, none, false⟩, ⟨.fad (.v 8) 1 none, none, false⟩, ⟨.ldi (.t 0) none, none, false⟩, ⟨.iad (.t 2) (.t 0) 1, none, false⟩, ⟨.ldi (.t 0) none, none, false⟩, ⟨.mv (.v 7), none, false⟩, ⟨.iad (.t 1) (.t 0) 1, none, false⟩, ⟨.ldi (.t 0) none, none, false⟩, ⟨.bld [.snil, .int 0, .int 0, .int 0, .int 0] [(0, 1, (.t 22)), (1, 1, (.t 20)), (2, 1, (.t 18)), (3, 1, (.t 9)), (4, 1, (.t 0))], none, false⟩, ⟨.lita [(.t 0)] 5, none, false⟩, ⟨.app (.t 25) (.t 0) (some 5), none, false⟩, ⟨.mv (.t 0), none, false⟩], [(9, 0)], [10], none⟩
abbrev r_ref49_Explain_16 : Reg := ⟨[⟨.fad (.v 2) 2 none, none, false⟩, ⟨.ldi (.t 0) none, none, false⟩, ⟨.fad (.v 8) 0 none, none, false⟩, ⟨.ldi (.t 0) none, none, false⟩, ⟨.iad (.t 2) (.t 0) 1, none, false⟩, ⟨.ldi (.t 0) none, none, false⟩, ⟨.mv (.v 7), none, false⟩, ⟨.iad (.t 1) (.t 0) 1, none, false⟩, ⟨.ldi (.t 0) none, none, false⟩, ⟨.fad (.v 3) 2 none, none, false⟩, ⟨.ldi (.t 0) none, none, false⟩, ⟨.fad (.v 8) 1 none, none, false⟩, ⟨.ldi (.t 0) none, none, false⟩, ⟨.iad (.t 2) (.t 0) 1, none, false⟩, ⟨.ldi (.t 0) none, none, false⟩, ⟨.mv (.v 7), none, false⟩, ⟨.iad (.t 1) (.t 0) 1, none, false⟩, ⟨.ldi (.t 0) none, none, false⟩, ⟨.mv (.v 10), none, false⟩, ⟨.bld [.int 0, .int 0, .snil] [(0, 1, (.t 10)), (1, 1, (.t 1)), (2, 1, (.t 0))], none, false⟩, ⟨.alc0 3, none, false⟩, ⟨.ini (.t 0) (.t 1) 3, none, false⟩], [(13, 0)], [10], none⟩
abbrev r_ref49_Explain_17 : Reg := ⟨[⟨.mv (.c (.bool false)), none, false⟩], [(12, 0)], [], none⟩
abbrev r_ref49_Explain_18 : Reg := ⟨[⟨.mv (.c (.int (0))), none, false⟩], [(11, 0)], [], none⟩
abbrev r_ref49_Explain_19 : Reg := ⟨[⟨.mv (.v 11), none, false⟩, ⟨.mv (.v 6), none, false⟩, ⟨.len (.t 0), none, false⟩, ⟨.bin .lss (.t 2) (.t 0), none, false⟩], [], [], some (117, 0)⟩
abbrev r_ref49_Explain_21 : Reg := ⟨[⟨.mv (.v 12), none, false⟩, ⟨.mv (.t 0), none, false⟩, ⟨.mv (.v 6), some (.t 0, false), false⟩, ⟨.mv (.v 11), some (.t 1, false), false⟩, ⟨.iad (.t 1) (.t 0) 3, some (.t 2, false), false⟩, ⟨.fad (.t 0) 0 none, some (.t 3, false), false⟩, ⟨.ld (.t 0) none, some (.t 4, false), false⟩, ⟨.fad (.v 13) 0 none, some (.t 5, false), false⟩, ⟨.ldi (.t 0) none, some (.t 6, false), false⟩, ⟨.bin .eql (.t 2) (.t 0), some (.t 7, false), false⟩, ⟨.mv (.t 0), some (.t 8, false), false⟩, ⟨.mv (.v 6), some (.t 0, true), false⟩, ⟨.mv (.v 11), some (.t 1, true), false⟩, ⟨.iad (.t 1) (.t 0) 3, some (.t 2, true), false⟩, ⟨.fad (.t 0) 1 none, some (.t 3, true), false⟩, ⟨.ld (.t 0) none, some (.t 4, true), false⟩, ⟨.fad (.v 13) 1 none, some (.t 5, true), false⟩, ⟨.ldi (.t 0) none, some (.t 6, true), false⟩, ⟨.bin .eql (.t 2) (.t 0), some (.t 7, true), false⟩, ⟨.pick (.t 8) (.t 0) (.c (.bool false)), some (.t 17, false), false⟩, ⟨.pick (.t 18) (.c (.bool true)) (.t 0), none, false⟩, ⟨.mv (.t 0), none, false⟩], [(12, 0)], [], none⟩
abbrev r_ref49_Explain_20 : Reg := ⟨[⟨.mv (.v 11), none, false⟩, ⟨.bin .add (.t 0) (.c (.int (1))), none, false⟩, ⟨.mv (.t 0), none, false⟩], [(11, 0)], [], none⟩
abbrev b_ref49_Explain_4 : IC := (.seq (.seq (.reg r_ref49_Explain_19)
 (.cond 117 .skip (.exit 4)))
 (.seq (.block 5 (.reg r_ref49_Explain_21))
 (.reg r_ref49_Explain_20)))
abbrev r_ref49_Explain_22 : Reg := ⟨[⟨.mv (.v 12), none, false⟩, ⟨.not (.t 0), none, false⟩], [], [11, 12], some (142, 0)⟩
abbrev r_ref49_Explain_23 : Reg := ⟨[⟨.mv (.v 6), none, false⟩, ⟨.ldi (.v 13) (some 3), none, false⟩, ⟨.lita [(.t 0)] 3, none, false⟩, ⟨.appw (.t 2) (.t 0) (some 3), none, false⟩, ⟨.mv (.t 0), none, false⟩], [(6, 0)], [13], none⟩
abbrev r_ref49_Explain_12 : Reg := ⟨[⟨.mv (.v 7), none, false⟩, ⟨.bin .add (.t 0) (.c (.int (1))), none, false⟩, ⟨.mv (.t 0), none, false⟩], [(7, 0)], [13], none⟩
abbrev b_ref49_Explain_2 : IC := (.seq (.seq (.reg r_ref49_Explain_11)
 (.cond 41 .skip (.exit 2)))
 (.seq (.block 3 (.seq (.reg r_ref49_Explain_13)
 (.seq (.seq (.reg r_ref49_Explain_14)
 (.cond 66 (.seq (.reg r_ref49_Explain_15)
 (.exit 3)) .skip))
 (.seq (.reg r_ref49_Explain_16)
 (.seq (.reg r_ref49_Explain_17)
 (.seq (.seq (.reg r_ref49_Explain_18)
 (.block 4 (.loop b_ref49_Explain_4)))
 (.seq (.reg r_ref49_Explain_22)
 (.cond 142 (.reg r_ref49_Explain_23) .skip))))))))
 (.reg r_ref49_Explain_12)))
abbrev r_ref49_Explain_8 : Reg := ⟨[⟨.mv (.v 5), none, false⟩, ⟨.bin .add (.t 0) (.c (.int (1))), none, false⟩, ⟨.mv (.t 0), none, false⟩], [(5, 0)], [7, 8], none⟩
abbrev b_ref49_Explain_0 : IC := (.seq (.seq (.reg r_ref49_Explain_7)
 (.cond 31 .skip (.exit 0)))
 (.seq (.block 1 (.seq (.reg r_ref49_Explain_9)
 (.seq (.reg r_ref49_Explain_10)
 (.block 2 (.loop b_ref49_Explain_2)))))
 (.reg r_ref49_Explain_8)))
abbrev r_ref49_Explain_24 : Reg := ⟨[⟨.mv (.v 9), none, false⟩, ⟨.len (.t 0), none, false⟩, ⟨.bin .gtr (.t 0) (.c (.int (10000))), none, false⟩], [], [2, 3, 5, 6], some (149, 0)⟩
abbrev r_ref49_Explain_25 : Reg := ⟨[⟨.mv (.c (.snil)), none, false⟩, ⟨.mv (.c (.int (11))), none, false⟩], [(14, 1), (15, 0)], [9], none⟩
abbrev r_ref49_Explain_26 : Reg := ⟨[⟨.mv (.v 9), none, false⟩, ⟨.mv (.t 0), none, false⟩, ⟨.mv (.c (.int (0))), none, false⟩], [(14, 1), (15, 0)], [9], none⟩
abbrev ir_ref49_Explain : Fn := { np := 2, nv := 16, res := [(14, none), (15, none)], body :=
(.seq (.reg r_ref49_Explain_0)
 (.seq (.seq (.reg r_ref49_Explain_1)
 (.seq (.reg r_ref49_Explain_2)
 (.cond 20 (.seq (.reg r_ref49_Explain_3)
 .ret) .skip)))
 (.seq (.reg r_ref49_Explain_4)
 (.seq (.reg r_ref49_Explain_5)
 (.seq (.seq (.reg r_ref49_Explain_6)
 (.block 0 (.loop b_ref49_Explain_0)))
 (.seq (.seq (.reg r_ref49_Explain_24)
 (.cond 149 (.seq (.reg r_ref49_Explain_25)
 .ret) .skip))
 (.seq (.reg r_ref49_Explain_26)
 .ret))))))) }
/- f13 ref49_Same : 0:a 1:b 2:i 3:x 4:y 5:_ -/
abbrev r_ref49_Same_0 : Reg := ⟨[⟨.mv (.c (.bool false)), none, false⟩], [], [5], none⟩
abbrev r_ref49_Same_1 : Reg := ⟨[⟨.mv (.v 0), none, false⟩, ⟨.len (.t 0), none, false⟩, ⟨.mv (.v 1), none, false⟩, ⟨.len (.t 0), none, false⟩, ⟨.bin .neq (.t 2) (.t 0), none, false⟩], [], [], some (12, 0)⟩
abbrev r_ref49_Same_2 : Reg := ⟨[⟨.mv (.c (.bool false)), none, false⟩], [(5, 0)], [0, 1], none⟩
abbrev r_ref49_Same_3 : Reg := ⟨[⟨.mv (.c (.int (0))), none, false⟩], [(2, 0)], [], none⟩
abbrev r_ref49_Same_4 : Reg := ⟨[⟨.mv (.v 2), none, false⟩, ⟨.mv (.v 0), none, false⟩, ⟨.len (.t 0), none, false⟩, ⟨.bin .lss (.t 2) (.t 0), none, false⟩], [], [], some (16, 0)⟩
abbrev r_ref49_Same_6 : Reg := ⟨[⟨.mv (.v 0), none, false⟩, ⟨.mv (.v 2), none, false⟩, ⟨.iad (.t 1) (.t 0) 5, none, false⟩, ⟨.ld (.t 0) (some 5), none, false⟩, ⟨.mv (.v 1), none, false⟩, ⟨.mv (.v 2), none, false⟩, ⟨.iad (.t 1) (.t 0) 5, none, false⟩, ⟨.ld (.t 0) (some 5), none, false⟩, ⟨.alc0 5, none, false⟩, ⟨.alc0 5, none, false⟩, ⟨.ini (.t 1) (.t 6) 5, none, false⟩, ⟨.ini (.t 1) (.t 3) 5, none, false⟩], [(3, 1), (4, 0)], [], none⟩
abbrev r_ref49_Same_7 : Reg := ⟨[⟨.fad (.v 3) 0 none, none, false⟩, ⟨.ldi (.t 0) none, none, false⟩, ⟨.liti [(.t 0)] 1, none, false⟩, ⟨.fad (.v 4) 0 none, none, false⟩, ⟨.ldi (.t 0) none, none, false⟩, ⟨.liti [(.t 0)] 1, none, false⟩, ⟨.cal F_ref10_Same [(.t 3), (.t 0)], none, false⟩, ⟨.not (.t 0), none, false⟩, ⟨.mv (.t 0), none, false⟩, ⟨.fad (.v 3) 1 none, some (.t 0, false), false⟩, ⟨.ldi (.t 0) none, some (.t 1, false), false⟩, ⟨.fad (.v 4) 1 none, some (.t 2, false), false⟩, ⟨.ldi (.t 0) none, some (.t 3, false), false⟩, ⟨.bin .neq (.t 2) (.t 0), some (.t 4, false), false⟩, ⟨.pick (.t 5) (.c (.bool true)) (.t 0), none, false⟩, ⟨.mv (.t 0), none, false⟩, ⟨.fad (.v 3) 2 none, some (.t 0, false), false⟩, ⟨.ldi (.t 0) none, some (.t 1, false), false⟩, ⟨.fad (.v 4) 2 none, some (.t 2, false), false⟩, ⟨.ldi (.t 0) none, some (.t 3, false), false⟩, ⟨.bin .neq (.t 2) (.t 0), some (.t 4, false), false⟩, ⟨.pick (.t 5) (.c (.bool true)) (.t 0), none, false⟩, ⟨.mv (.t 0), none, false⟩, ⟨.fad (.v 3) 3 none, some (.t 0, false), false⟩, ⟨.ldi (.t 0) none, some (.t 1, false), false⟩, ⟨.fad (.v 4) 3 none, some (.t 2, false), false⟩, ⟨.ldi (.t 0) none, some (.t 3, false), false⟩, ⟨.bin .neq (.t 2) (.t 0), some (.t 4, false), false⟩, ⟨.pick (.t 5) (.c (.bool true)) (.t 0), none, false⟩, ⟨.mv (.t 0), none, false⟩, ⟨.fad (.v 3) 4 none, some (.t 0, false), false⟩, ⟨.ldi (.t 0) none, some (.t 1, false), false⟩, ⟨.fad (.v 4) 4 none, some (.t 2, false), false⟩, ⟨.ldi (.t 0) none, some (.t 3, false), false⟩, ⟨.bin .neq (.t 2) (.t 0), some (.t 4, false), false⟩, ⟨.pick (.t 5) (.c (.bool true)) (.t 0), none, false⟩], [], [3, 4], some (62, 0)⟩
abbrev r_ref49_Same_8 : Reg := ⟨[⟨.mv (.c (.bool false)), none, false⟩], [(5, 0)], [0, 1, 2], none⟩
abbrev r_ref49_Same_5 : Reg := ⟨[⟨.mv (.v 2), none, false⟩, ⟨.bin .add (.t 0) (.c (.int (1))), none, false⟩, ⟨.mv (.t 0), none, false⟩], [(2, 0)], [], none⟩
abbrev b_ref49_Same_0 : IC := (.seq (.seq (.reg r_ref49_Same_4)
 (.cond 16 .skip (.exit 0)))
 (.seq (.block 1 (.seq (.reg r_ref49_Same_6)
 (.seq (.reg r_ref49_Same_7)
 (.cond 62 (.seq (.reg r_ref49_Same_8)
 .ret) .skip))))
 (.reg r_ref49_Same_5)))
abbrev r_ref49_Same_9 : Reg := ⟨[⟨.mv (.c (.bool true)), none, false⟩], [(5, 0)], [0, 1, 2], none⟩
abbrev ir_ref49_Same : Fn := { np := 2, nv := 6, res := [(5, none)], body :=
(.seq (.reg r_ref49_Same_0)
 (.seq (.seq (.reg r_ref49_Same_1)
 (.cond 12 (.seq (.reg r_ref49_Same_2)
 .ret) .skip))
 (.seq (.seq (.reg r_ref49_Same_3)
 (.block 0 (.loop b_ref49_Same_0)))
 (.seq (.reg r_ref49_Same_9)
 .ret)))) }
/- f14 diff_Match : 0:a 1:b 2:a 3:b 4:e 5:e 6:states 7:_ 8:_ 9:_ 10:words 11:i 12:e 13:out 14:s 15:t 16:_ 17:_ -/
abbrev r_diff_Match_0 : Reg := ⟨[⟨.bxi (.v 0), none, false⟩, ⟨.bxi (.v 1), none, false⟩, ⟨.mv (.c (.snil)), none, false⟩, ⟨.mv (.c (.int (0))), none, false⟩], [(2, 3), (3, 2)], [0, 1, 16, 17], none⟩
abbrev r_diff_Match_1 : Reg := ⟨[⟨.ldi (.v 2) (some 4), none, false⟩, ⟨.ldi (.v 3) (some 4), none, false⟩, ⟨.cal F_diff_check [(.t 1), (.t 0)], none, false⟩, ⟨.mv (.t 0), none, false⟩], [(4, 0)], [], none⟩
abbrev r_diff_Match_2 : Reg := ⟨[⟨.mv (.v 4), none, false⟩, ⟨.bin .neq (.t 0) (.c (.int (0))), none, false⟩], [], [], some (20, 0)⟩
abbrev r_diff_Match_3 : Reg := ⟨[⟨.mv (.v 4), none, false⟩, ⟨.mv (.c (.snil)), none, false⟩, ⟨.mv (.t 1), none, false⟩], [(16, 1), (17, 0)], [2, 3, 4], none⟩
abbrev r_diff_Match_4 : Reg := ⟨[⟨.ldi (.v 2) (some 4), none, false⟩, ⟨.cal F_cover_Access [(.t 0)], none, false⟩, ⟨.mv (.t 0), none, false⟩, ⟨.ext (.t 0) 0, none, false⟩, ⟨.ext (.t 1) 1, none, false⟩, ⟨.ext (.t 2) 2, none, false⟩, ⟨.mv (.t 2), none, false⟩, ⟨.mv (.t 2), none, false⟩, ⟨.mv (.t 2), none, false⟩], [(6, 2), (10, 1), (5, 0)], [4], none⟩
abbrev r_diff_Match_5 : Reg := ⟨[⟨.mv (.v 5), none, false⟩, ⟨.bin .neq (.t 0) (.c (.int (0))), none, false⟩], [], [], some (29, 0)⟩
abbrev r_diff_Match_6 : Reg := ⟨[⟨.mv (.v 5), none, false⟩, ⟨.mv (.c (.snil)), none, false⟩, ⟨.mv (.t 1), none, false⟩], [(16, 1), (17, 0)], [2, 3, 5, 6, 10], none⟩
abbrev r_diff_Match_7 : Reg := ⟨[⟨.liti [(.c (.int (-1)))] 1, none, false⟩, ⟨.fad (.v 2) 2 none, none, false⟩, ⟨.ldi (.t 0) none, none, false⟩, ⟨.len (.t 0), none, false⟩, ⟨.can F_slices_Repeat_Sint_int [(.t 3), (.t 0)], none, false⟩, ⟨.mv (.t 0), none, false⟩], [(13, 0)], [2, 5], none⟩
abbrev r_diff_Match_8 : Reg := ⟨[⟨.mv (.v 6), none, false⟩, ⟨.len (.t 0), none, false⟩, ⟨.mv (.c (.int (0))), none, false⟩], [(9, 2), (8, 1), (7, 0)], [6], none⟩
abbrev r_diff_Match_9 : Reg := ⟨[⟨.bin .lss (.v 7) (.v 8), none, false⟩], [], [], some (39, 0)⟩
abbrev r_diff_Match_10 : Reg := ⟨[⟨.mv (.v 7), none, false⟩, ⟨.iad (.v 9) (.v 7) 1, none, false⟩, ⟨.ld (.t 0) none, none, false⟩, ⟨.mv (.t 2), none, false⟩, ⟨.mv (.t 1), none, false⟩], [(11, 1), (14, 0)], [], none⟩
abbrev r_diff_Match_11 : Reg := ⟨[⟨.ldi (.v 3) (some 4), none, false⟩, ⟨.fad (.v 3) 1 none, none, false⟩, ⟨.ldi (.t 0) none, none, false⟩, ⟨.mv (.v 10), none, false⟩, ⟨.mv (.v 11), none, false⟩, ⟨.iad (.t 1) (.t 0) 1, none, false⟩, ⟨.ld (.t 0) none, none, false⟩, ⟨.cal F_mealy_From [(.t 6), (.t 4), (.t 0)], none, false⟩, ⟨.mv (.t 0), none, false⟩, ⟨.ext (.t 0) 0, none, false⟩, ⟨.ext (.t 1) 1, none, false⟩, ⟨.ext (.t 2) 2, none, false⟩, ⟨.mv (.t 2), none, false⟩, ⟨.mv (.t 2), none, false⟩, ⟨.mv (.t 2), none, false⟩], [(15, 1), (12, 0)], [11], none⟩
abbrev r_diff_Match_12 : Reg := ⟨[⟨.mv (.v 12), none, false⟩, ⟨.bin .neq (.t 0) (.c (.int (0))), none, false⟩], [], [], some (56, 0)⟩
abbrev r_diff_Match_13 : Reg := ⟨[⟨.mv (.v 12), none, false⟩, ⟨.mv (.c (.snil)), none, false⟩, ⟨.mv (.t 1), none, false⟩], [(16, 1), (17, 0)], [3, 7, 8, 9, 10, 12, 13, 14, 15], none⟩
abbrev r_diff_Match_14 : Reg := ⟨[⟨.mv (.v 13), none, false⟩, ⟨.mv (.v 14), none, false⟩, ⟨.mv (.v 15), none, false⟩, ⟨.iad (.t 2) (.t 1) 1, none, false⟩, ⟨.st (.t 0) (.t 1) 1, none, false⟩], [], [12, 14, 15], none⟩
abbrev r_diff_Match_15 : Reg := ⟨[⟨.bin .add (.v 7) (.c (.int (1))), none, false⟩, ⟨.mv (.t 0), none, false⟩], [(7, 0)], [], none⟩
abbrev b_diff_Match_0 : IC := (.seq (.reg r_diff_Match_9)
 (.seq (.cond 39 .skip (.exit 0))
 (.seq (.block 1 (.seq (.reg r_diff_Match_10)
 (.seq (.reg r_diff_Match_11)
 (.seq (.seq (.reg r_diff_Match_12)
 (.cond 56 (.seq (.reg r_diff_Match_13)
 .ret) .skip))
 (.reg r_diff_Match_14)))))
 (.reg r_diff_Match_15))))
abbrev r_diff_Match_16 : Reg := ⟨[⟨.mv (.v 13), none, false⟩, ⟨.mv (.t 0), none, false⟩, ⟨.mv (.c (.int (0))), none, false⟩], [(16, 1), (17, 0)], [3, 7, 8, 9, 10, 13], none⟩
abbrev ir_diff_Match : Fn := { np := 2, nv := 18, res := [(16, none), (17, none)], body :=
(.seq (.reg r_diff_Match_0)
 (.seq (.seq (.reg r_diff_Match_1)
 (.seq (.reg r_diff_Match_2)
 (.cond 20 (.seq (.reg r_diff_Match_3)
 .ret) .skip)))
 (.seq (.reg r_diff_Match_4)
 (.seq (.seq (.reg r_diff_Match_5)
 (.cond 29 (.seq (.reg r_diff_Match_6)
 .ret) .skip))
 (.seq (.reg r_diff_Match_7)
 (.seq (.seq (.reg r_diff_Match_8)
 (.block 0 (.loop b_diff_Match_0)))
 (.seq (.reg r_diff_Match_16)
 .ret))))))) }
/- f15 ref49_Match : 0:a 1:b 2:a 3:b 4:e 5:s 6:i 7:states 8:words 9:out 10:t 11:_ 12:_ -/
abbrev r_ref49_Match_0 : Reg := ⟨[⟨.bxi (.v 0), none, false⟩, ⟨.bxi (.v 1), none, false⟩, ⟨.mv (.c (.snil)), none, false⟩, ⟨.mv (.c (.int (0))), none, false⟩], [(2, 3), (3, 2)], [0, 1, 11, 12], none⟩
abbrev r_ref49_Match_1 : Reg := ⟨[⟨.ldi (.v 2) (some 4), none, false⟩, ⟨.ldi (.v 3) (some 4), none, false⟩, ⟨.cal F_ref09_Check [(.t 1), (.t 0)], none, false⟩, ⟨.mv (.t 0), none, false⟩], [(4, 0)], [], none⟩
abbrev r_ref49_Match_2 : Reg := ⟨[⟨.mv (.v 4), none, false⟩, ⟨.bin .neq (.t 0) (.c (.int (0))), none, false⟩], [], [], some (18, 0)⟩
abbrev r_ref49_Match_3 : Reg := ⟨[⟨.mv (.v 4), none, false⟩, ⟨.mv (.c (.snil)), none, false⟩, ⟨.mv (.t 1), none, false⟩], [(11, 1), (12, 0)], [2, 3, 4], none⟩
abbrev r_ref49_Match_4 : Reg := ⟨[⟨.ldi (.v 2) (some 4), none, false⟩, ⟨.cal F_ref10_Access [(.t 0)], none, false⟩, ⟨.mv (.t 0), none, false⟩, ⟨.ext (.t 0) 0, none, false⟩, ⟨.ext (.t 1) 1, none, false⟩, ⟨.ext (.t 2) 2, none, false⟩, ⟨.mv (.t 2), none, false⟩, ⟨.mv (.t 2), none, false⟩, ⟨.mv (.t 2), none, false⟩], [(7, 2), (8, 1)], [4], none⟩
abbrev r_ref49_Match_5 : Reg := ⟨[⟨.nl none, none, false⟩], [(9, 0)], [], none⟩
abbrev r_ref49_Match_6 : Reg := ⟨[⟨.mv (.c (.int (0))), none, false⟩], [(5, 0)], [], none⟩
abbrev r_ref49_Match_7 : Reg := ⟨[⟨.mv (.v 5), none, false⟩, ⟨.fad (.v 2) 2 none, none, false⟩, ⟨.ldi (.t 0) none, none, false⟩, ⟨.len (.t 0), none, false⟩, ⟨.bin .lss (.t 3) (.t 0), none, false⟩], [], [], some (30, 0)⟩
abbrev r_ref49_Match_9 : Reg := ⟨[⟨.mv (.c (.int (-1))), none, false⟩], [(10, 0)], [], none⟩
abbrev r_ref49_Match_10 : Reg := ⟨[⟨.mv (.c (.int (0))), none, false⟩], [(6, 0)], [], none⟩
abbrev r_ref49_Match_11 : Reg := ⟨[⟨.mv (.v 6), none, false⟩, ⟨.mv (.v 7), none, false⟩, ⟨.len (.t 0), none, false⟩, ⟨.bin .lss (.t 2) (.t 0), none, false⟩], [], [], some (36, 0)⟩
abbrev r_ref49_Match_13 : Reg := ⟨[⟨.mv (.v 7), none, false⟩, ⟨.mv (.v 6), none, false⟩, ⟨.iad (.t 1) (.t 0) 1, none, false⟩, ⟨.ld (.t 0) none, none, false⟩, ⟨.mv (.v 5), none, false⟩, ⟨.bin .eql (.t 1) (.t 0), none, false⟩], [], [], some (44, 0)⟩
abbrev r_ref49_Match_14 : Reg := ⟨[⟨.ldi (.v 3) (some 4), none, false⟩, ⟨.mv (.v 8), none, false⟩, ⟨.mv (.v 6), none, false⟩, ⟨.iad (.t 1) (.t 0) 1, none, false⟩, ⟨.ld (.t 0) none, none, false⟩, ⟨.cal F_ref49_after [(.t 4), (.t 0)], none, false⟩, ⟨.mv (.t 0), none, false⟩], [(10, 0)], [], none⟩
abbrev r_ref49_Match_12 : Reg := ⟨[⟨.mv (.v 6), none, false⟩, ⟨.bin .add (.t 0) (.c (.int (1))), none, false⟩, ⟨.mv (.t 0), none, false⟩], [(6, 0)], [], none⟩
abbrev b_ref49_Match_2 : IC := (.seq (.seq (.reg r_ref49_Match_11)
 (.cond 36 .skip (.exit 2)))
 (.seq (.block 3 (.seq (.reg r_ref49_Match_13)
 (.cond 44 (.reg r_ref49_Match_14) .skip)))
 (.reg r_ref49_Match_12)))
abbrev r_ref49_Match_15 : Reg := ⟨[⟨.mv (.v 9), none, false⟩, ⟨.mv (.v 10), none, false⟩, ⟨.lita [(.t 0)] 1, none, false⟩, ⟨.appw (.t 2) (.t 0) none, none, false⟩, ⟨.mv (.t 0), none, false⟩], [(9, 0)], [6, 10], none⟩
abbrev r_ref49_Match_8 : Reg := ⟨[⟨.mv (.v 5), none, false⟩, ⟨.bin .add (.t 0) (.c (.int (1))), none, false⟩, ⟨.mv (.t 0), none, false⟩], [(5, 0)], [], none⟩
abbrev b_ref49_Match_0 : IC := (.seq (.seq (.reg r_ref49_Match_7)
 (.cond 30 .skip (.exit 0)))
 (.seq (.block 1 (.seq (.reg r_ref49_Match_9)
 (.seq (.seq (.reg r_ref49_Match_10)
 (.block 2 (.loop b_ref49_Match_2)))
 (.reg r_ref49_Match_15))))
 (.reg r_ref49_Match_8)))
abbrev r_ref49_Match_16 : Reg := ⟨[⟨.mv (.v 9), none, false⟩, ⟨.mv (.t 0), none, false⟩, ⟨.mv (.c (.int (0))), none, false⟩], [(11, 1), (12, 0)], [2, 3, 5, 7, 8, 9], none⟩
abbrev ir_ref49_Match : Fn := { np := 2, nv := 13, res := [(11, none), (12, none)], body :=
(.seq (.reg r_ref49_Match_0)
 (.seq (.seq (.reg r_ref49_Match_1)
 (.seq (.reg r_ref49_Match_2)
 (.cond 18 (.seq (.reg r_ref49_Match_3)
 .ret) .skip)))
 (.seq (.reg r_ref49_Match_4)
 (.seq (.reg r_ref49_Match_5)
 (.seq (.seq (.reg r_ref49_Match_6)
 (.block 0 (.loop b_ref49_Match_0)))
 (.seq (.reg r_ref49_Match_16)
 .ret)))))) }
/- f16 diff_Moved : 0:a 1:b 2:match 3:a 4:b 5:e 6:wrong 7:e 8:states 9:_ 10:_ 11:_ 12:s 13:t 14:_ 15:_ 16:words 17:i 18:x 19:c 20:out 21:_ 22:_ -/
abbrev r_diff_Moved_0 : Reg := ⟨[⟨.bxi (.v 0), none, false⟩, ⟨.bxi (.v 1), none, false⟩, ⟨.mv (.c (.snil)), none, false⟩, ⟨.mv (.c (.int (0))), none, false⟩], [(3, 3), (4, 2)], [0, 1, 21, 22], none⟩
abbrev r_diff_Moved_1 : Reg := ⟨[⟨.ldi (.v 3) (some 4), none, false⟩, ⟨.ldi (.v 4) (some 4), none, false⟩, ⟨.cal F_diff_check [(.t 1), (.t 0)], none, false⟩, ⟨.mv (.t 0), none, false⟩], [(5, 0)], [], none⟩
abbrev r_diff_Moved_2 : Reg := ⟨[⟨.mv (.v 5), none, false⟩, ⟨.bin .neq (.t 0) (.c (.int (0))), none, false⟩], [], [], some (23, 0)⟩
abbrev r_diff_Moved_3 : Reg := ⟨[⟨.mv (.v 5), none, false⟩, ⟨.mv (.c (.snil)), none, false⟩, ⟨.mv (.t 1), none, false⟩], [(21, 1), (22, 0)], [2, 3, 4, 5], none⟩
abbrev r_diff_Moved_4 : Reg := ⟨[⟨.mkf F_diff_Moved_1 [(.v 4)], none, false⟩, ⟨.mv (.t 0), none, false⟩], [(6, 0)], [5], none⟩
abbrev r_diff_Moved_5 : Reg := ⟨[⟨.mv (.v 2), none, false⟩, ⟨.len (.t 0), none, false⟩, ⟨.fad (.v 3) 2 none, none, false⟩, ⟨.ldi (.t 0) none, none, false⟩, ⟨.len (.t 0), none, false⟩, ⟨.bin .neq (.t 3) (.t 0), none, false⟩, ⟨.mv (.t 0), none, false⟩, ⟨.mv (.v 2), some (.t 0, false), false⟩, ⟨.mv (.v 6), some (.t 1, false), false⟩, ⟨.cal F_slices_ContainsFunc_Sint_int [(.t 1), (.t 0)], some (.t 2, false), false⟩, ⟨.pick (.t 3) (.c (.bool true)) (.t 0), none, false⟩], [], [6], some (36, 0)⟩
abbrev r_diff_Moved_6 : Reg := ⟨[⟨.mv (.c (.snil)), none, false⟩, ⟨.mv (.c (.int (1))), none, false⟩], [(21, 1), (22, 0)], [2, 3, 4], none⟩
abbrev r_diff_Moved_7 : Reg := ⟨[⟨.ldi (.v 3) (some 4), none, false⟩, ⟨.cal F_cover_Access [(.t 0)], none, false⟩, ⟨.mv (.t 0), none, false⟩, ⟨.ext (.t 0) 0, none, false⟩, ⟨.ext (.t 1) 1, none, false⟩, ⟨.ext (.t 2) 2, none, false⟩, ⟨.mv (.t 2), none, false⟩, ⟨.mv (.t 2), none, false⟩, ⟨.mv (.t 2), none, false⟩], [(8, 2), (16, 1), (7, 0)], [], none⟩
abbrev r_diff_Moved_8 : Reg := ⟨[⟨.mv (.v 7), none, false⟩, ⟨.bin .neq (.t 0) (.c (.int (0))), none, false⟩], [], [], some (44, 0)⟩
abbrev r_diff_Moved_9 : Reg := ⟨[⟨.mv (.v 7), none, false⟩, ⟨.mv (.c (.snil)), none, false⟩, ⟨.mv (.t 1), none, false⟩], [(21, 1), (22, 0)], [2, 3, 4, 7, 8, 16], none⟩
abbrev r_diff_Moved_10 : Reg := ⟨[⟨.nl (some 5), none, false⟩], [(20, 0)], [7], none⟩
abbrev r_diff_Moved_11 : Reg := ⟨[⟨.mv (.v 8), none, false⟩, ⟨.len (.t 0), none, false⟩, ⟨.mv (.c (.int (0))), none, false⟩], [(11, 2), (10, 1), (9, 0)], [8], none⟩
abbrev r_diff_Moved_12 : Reg := ⟨[⟨.bin .lss (.v 9) (.v 10), none, false⟩], [], [], some (49, 0)⟩
abbrev r_diff_Moved_13 : Reg := ⟨[⟨.mv (.v 9), none, false⟩, ⟨.iad (.v 11) (.v 9) 1, none, false⟩, ⟨.ld (.t 0) none, none, false⟩, ⟨.mv (.t 2), none, false⟩, ⟨.mv (.t 1), none, false⟩], [(17, 1), (12, 0)], [], none⟩
abbrev r_diff_Moved_14 : Reg := ⟨[⟨.mv (.v 2), none, false⟩, ⟨.mv (.v 12), none, false⟩, ⟨.iad (.t 1) (.t 0) 1, none, false⟩, ⟨.ld (.t 0) none, none, false⟩, ⟨.mv (.t 0), none, false⟩], [(13, 0)], [], none⟩
abbrev r_diff_Moved_15 : Reg := ⟨[⟨.mv (.v 13), none, false⟩, ⟨.bin .lss (.t 0) (.c (.int (0))), none, false⟩], [], [], some (58, 0)⟩
abbrev r_diff_Moved_16 : Reg := ⟨[⟨.fad (.v 3) 0 none, none, false⟩, ⟨.ldi (.t 0) none, none, false⟩, ⟨.mv (.c (.int (0))), none, false⟩], [(15, 1), (14, 0)], [], none⟩
abbrev r_diff_Moved_17 : Reg := ⟨[⟨.bin .lss (.v 14) (.v 15), none, false⟩], [], [], some (62, 0)⟩
abbrev r_diff_Moved_18 : Reg := ⟨[⟨.mv (.v 14), none, false⟩, ⟨.mv (.t 0), none, false⟩], [(18, 0)], [], none⟩
abbrev r_diff_Moved_19 : Reg := ⟨[⟨.mv (.v 16), none, false⟩, ⟨.mv (.v 17), none, false⟩, ⟨.iad (.t 1) (.t 0) 1, none, false⟩, ⟨.ld (.t 0) none, none, false⟩, ⟨.mv (.v 18), none, false⟩, ⟨.liti [(.t 0)] 1, none, false⟩, ⟨.liti [(.t 2), (.t 0)] 1, none, false⟩, ⟨.cal F_word_Join [(.t 0)], none, false⟩, ⟨.mv (.v 12), none, false⟩, ⟨.mv (.v 13), none, false⟩, ⟨.fad (.v 3) 3 none, none, false⟩, ⟨.ldi (.t 0) none, none, false⟩, ⟨.mv (.v 12), none, false⟩, ⟨.iad (.t 1) (.t 0) 1, none, false⟩, ⟨.ldi (.t 0) none, none, false⟩, ⟨.mv (.v 18), none, false⟩, ⟨.iad (.t 1) (.t 0) 1, none, false⟩, ⟨.ldi (.t 0) none, none, false⟩, ⟨.fad (.v 4) 3 none, none, false⟩, ⟨.ldi (.t 0) none, none, false⟩, ⟨.mv (.v 13), none, false⟩, ⟨.iad (.t 1) (.t 0) 1, none, false⟩, ⟨.ldi (.t 0) none, none, false⟩, ⟨.mv (.v 18), none, false⟩, ⟨.iad (.t 1) (.t 0) 1, none, false⟩, ⟨.ldi (.t 0) none, none, false⟩, ⟨.bld [.snil, .int 0, .int 0, .int 0, .int 0] [(0, 1, (.t 18)), (1, 1, (.t 17)), (2, 1, (.t 16)), (3, 1, (.t 8)), (4, 1, (.t 0))], none, false⟩, ⟨.alc [.snil, .int 0, .int 0, .int 0, .int 0] (some 5), none, false⟩, ⟨.st (.t 0) (.t 1) 5, none, false⟩], [(19, 1)], [], none⟩
abbrev r_diff_Moved_20 : Reg := ⟨[⟨.fad (.v 19) 3 none, none, false⟩, ⟨.ld (.t 0) none, none, false⟩, ⟨.fad (.v 19) 4 none, none, false⟩, ⟨.ld (.t 0) none, none, false⟩, ⟨.bin .eql (.t 2) (.t 0), none, false⟩], [], [], some (95, 0)⟩
abbrev r_diff_Moved_21 : Reg := ⟨[⟨.fad (.v 3) 2 none, none, false⟩, ⟨.ldi (.t 0) none, none, false⟩, ⟨.mv (.v 12), none, false⟩, ⟨.iad (.t 1) (.t 0) 1, none, false⟩, ⟨.ldi (.t 0) none, none, false⟩, ⟨.mv (.v 18), none, false⟩, ⟨.iad (.t 1) (.t 0) 1, none, false⟩, ⟨.ldi (.t 0) none, none, false⟩, ⟨.fad (.v 4) 2 none, none, false⟩, ⟨.ldi (.t 0) none, none, false⟩, ⟨.mv (.v 13), none, false⟩, ⟨.iad (.t 1) (.t 0) 1, none, false⟩, ⟨.ldi (.t 0) none, none, false⟩, ⟨.mv (.v 18), none, false⟩, ⟨.iad (.t 1) (.t 0) 1, none, false⟩, ⟨.ldi (.t 0) none, none, false⟩, ⟨.fad (.v 19) 3 none, none, false⟩, ⟨.st (.t 0) (.t 9) 1, none, false⟩, ⟨.fad (.v 19) 4 none, none, false⟩, ⟨.st (.t 0) (.t 3) 1, none, false⟩], [], [18], none⟩
abbrev r_diff_Moved_22 : Reg := ⟨[⟨.mv (.v 2), none, false⟩, ⟨.fad (.v 19) 3 none, none, false⟩, ⟨.ld (.t 0) none, none, false⟩, ⟨.iad (.t 2) (.t 0) 1, none, false⟩, ⟨.ld (.t 0) none, none, false⟩, ⟨.fad (.v 19) 4 none, none, false⟩, ⟨.ld (.t 0) none, none, false⟩, ⟨.bin .eql (.t 2) (.t 0), none, false⟩], [], [], some (121, 0)⟩
abbrev r_diff_Moved_23 : Reg := ⟨[⟨.mv (.v 20), none, false⟩, ⟨.ld (.v 19) (some 5), none, false⟩, ⟨.lita [(.t 0)] 5, none, false⟩, ⟨.appw (.t 2) (.t 0) (some 5), none, false⟩, ⟨.mv (.t 0), none, false⟩], [(20, 0)], [18, 19], none⟩
abbrev r_diff_Moved_24 : Reg := ⟨[⟨.bin .add (.v 14) (.c (.int (1))), none, false⟩, ⟨.mv (.t 0), none, false⟩], [(14, 0)], [19], none⟩
abbrev b_diff_Moved_2 : IC := (.lex (.seq (.reg r_diff_Moved_17)
 (.seq (.cond 62 .skip (.exit 2))
 (.seq (.block 3 (.seq (.reg r_diff_Moved_18)
 (.seq (.reg r_diff_Moved_19)
 (.seq (.seq (.reg r_diff_Moved_20)
 (.cond 95 (.seq (.reg r_diff_Moved_21)
 (.seq (.reg r_diff_Moved_22)
 (.cond 121 (.exit 3) .skip))) .skip))
 (.reg r_diff_Moved_23)))))
 (.reg r_diff_Moved_24)))))
abbrev r_diff_Moved_25 : Reg := ⟨[⟨.bin .add (.v 9) (.c (.int (1))), none, false⟩, ⟨.mv (.t 0), none, false⟩], [(9, 0)], [12, 13, 14, 15, 17], none⟩
abbrev b_diff_Moved_0 : IC := (.lex (.seq (.reg r_diff_Moved_12)
 (.seq (.cond 49 .skip (.exit 0))
 (.seq (.block 1 (.seq (.reg r_diff_Moved_13)
 (.seq (.reg r_diff_Moved_14)
 (.seq (.seq (.reg r_diff_Moved_15)
 (.cond 58 (.exit 1) .skip))
 (.seq (.reg r_diff_Moved_16)
 (.block 2 (.loop b_diff_Moved_2)))))))
 (.reg r_diff_Moved_25)))))
abbrev r_diff_Moved_26 : Reg := ⟨[⟨.mv (.v 20), none, false⟩, ⟨.cam F_diff_sorted [(.t 0)], none, false⟩, ⟨.ext (.t 0) 0, none, false⟩, ⟨.ext (.t 1) 1, none, false⟩, ⟨.mv (.t 1), none, false⟩, ⟨.mv (.t 1), none, false⟩], [(21, 1), (22, 0)], [2, 3, 4, 9, 10, 11, 16, 20], none⟩
abbrev ir_diff_Moved : Fn := { np := 3, nv := 23, res := [(21, none), (22, none)], body :=
(.seq (.reg r_diff_Moved_0)
 (.seq (.seq (.reg r_diff_Moved_1)
 (.seq (.reg r_diff_Moved_2)
 (.cond 23 (.seq (.reg r_diff_Moved_3)
 .ret) .skip)))
 (.seq (.reg r_diff_Moved_4)
 (.seq (.seq (.reg r_diff_Moved_5)
 (.cond 36 (.seq (.reg r_diff_Moved_6)
 .ret) .skip))
 (.seq (.reg r_diff_Moved_7)
 (.seq (.seq (.reg r_diff_Moved_8)
 (.cond 44 (.seq (.reg r_diff_Moved_9)
 .ret) .skip))
 (.seq (.reg r_diff_Moved_10)
 (.seq (.seq (.reg r_diff_Moved_11)
 (.block 0 (.loop b_diff_Moved_0)))
 (.seq (.reg r_diff_Moved_26)
 .ret))))))))) }
/- f17 ref49_Moved : 0:a 1:b 2:match 3:a 4:b 5:e 6:s 7:i 8:states 9:s 10:x 11:t 12:words 13:c 14:out 15:_ 16:_ -/
abbrev r_ref49_Moved_0 : Reg := ⟨[⟨.bxi (.v 0), none, false⟩, ⟨.bxi (.v 1), none, false⟩, ⟨.mv (.c (.snil)), none, false⟩, ⟨.mv (.c (.int (0))), none, false⟩], [(3, 3), (4, 2)], [0, 1, 15, 16], none⟩
abbrev r_ref49_Moved_1 : Reg := ⟨[⟨.ldi (.v 3) (some 4), none, false⟩, ⟨.ldi (.v 4) (some 4), none, false⟩, ⟨.cal F_ref09_Check [(.t 1), (.t 0)], none, false⟩, ⟨.mv (.t 0), none, false⟩], [(5, 0)], [], none⟩
abbrev r_ref49_Moved_2 : Reg := ⟨[⟨.mv (.v 5), none, false⟩, ⟨.bin .neq (.t 0) (.c (.int (0))), none, false⟩], [], [], some (23, 0)⟩
abbrev r_ref49_Moved_3 : Reg := ⟨[⟨.mv (.v 5), none, false⟩, ⟨.mv (.c (.snil)), none, false⟩, ⟨.mv (.t 1), none, false⟩], [(15, 1), (16, 0)], [2, 3, 4, 5], none⟩
abbrev r_ref49_Moved_4 : Reg := ⟨[⟨.mv (.v 2), none, false⟩, ⟨.len (.t 0), none, false⟩, ⟨.fad (.v 3) 2 none, none, false⟩, ⟨.ldi (.t 0) none, none, false⟩, ⟨.len (.t 0), none, false⟩, ⟨.bin .neq (.t 3) (.t 0), none, false⟩], [], [5], some (30, 0)⟩
abbrev r_ref49_Moved_5 : Reg := ⟨[⟨.mv (.c (.snil)), none, false⟩, ⟨.mv (.c (.int (1))), none, false⟩], [(15, 1), (16, 0)], [2, 3, 4], none⟩
abbrev r_ref49_Moved_6 : Reg := ⟨[⟨.mv (.c (.int (0))), none, false⟩], [(6, 0)], [], none⟩
abbrev r_ref49_Moved_7 : Reg := ⟨[⟨.mv (.v 6), none, false⟩, ⟨.mv (.v 2), none, false⟩, ⟨.len (.t 0), none, false⟩, ⟨.bin .lss (.t 2) (.t 0), none, false⟩], [], [], some (34, 0)⟩
abbrev r_ref49_Moved_9 : Reg := ⟨[⟨.mv (.v 2), none, false⟩, ⟨.mv (.v 6), none, false⟩, ⟨.iad (.t 1) (.t 0) 1, none, false⟩, ⟨.ld (.t 0) none, none, false⟩, ⟨.bin .lss (.t 0) (.c (.int (-1))), none, false⟩, ⟨.mv (.t 0), none, false⟩, ⟨.mv (.v 2), some (.t 0, false), false⟩, ⟨.mv (.v 6), some (.t 1, false), false⟩, ⟨.iad (.t 1) (.t 0) 1, some (.t 2, false), false⟩, ⟨.ld (.t 0) none, some (.t 3, false), false⟩, ⟨.fad (.v 4) 2 none, some (.t 4, false), false⟩, ⟨.ldi (.t 0) none, some (.t 5, false), false⟩, ⟨.len (.t 0), some (.t 6, false), false⟩, ⟨.bin .geq (.t 3) (.t 0), some (.t 7, false), false⟩, ⟨.pick (.t 8) (.c (.bool true)) (.t 0), none, false⟩], [], [], some (51, 0)⟩
abbrev r_ref49_Moved_10 : Reg := ⟨[⟨.mv (.c (.snil)), none, false⟩, ⟨.mv (.c (.int (1))), none, false⟩], [(15, 1), (16, 0)], [2, 3, 4, 6], none⟩
abbrev r_ref49_Moved_8 : Reg := ⟨[⟨.mv (.v 6), none, false⟩, ⟨.bin .add (.t 0) (.c (.int (1))), none, false⟩, ⟨.mv (.t 0), none, false⟩], [(6, 0)], [], none⟩
abbrev b_ref49_Moved_0 : IC := (.lex (.seq (.seq (.reg r_ref49_Moved_7)
 (.cond 34 .skip (.exit 0)))
 (.seq (.block 1 (.seq (.reg r_ref49_Moved_9)
 (.cond 51 (.seq (.reg r_ref49_Moved_10)
 .ret) .skip)))
 (.reg r_ref49_Moved_8))))
abbrev r_ref49_Moved_11 : Reg := ⟨[⟨.ldi (.v 3) (some 4), none, false⟩, ⟨.cal F_ref10_Access [(.t 0)], none, false⟩, ⟨.mv (.t 0), none, false⟩, ⟨.ext (.t 0) 0, none, false⟩, ⟨.ext (.t 1) 1, none, false⟩, ⟨.ext (.t 2) 2, none, false⟩, ⟨.mv (.t 2), none, false⟩, ⟨.mv (.t 2), none, false⟩, ⟨.mv (.t 2), none, false⟩], [(8, 2), (12, 1)], [6], none⟩
abbrev r_ref49_Moved_12 : Reg := ⟨[⟨.nl (some 5), none, false⟩], [(14, 0)], [], none⟩
abbrev r_ref49_Moved_13 : Reg := ⟨[⟨.mv (.c (.int (0))), none, false⟩], [(7, 0)], [], none⟩
abbrev r_ref49_Moved_14 : Reg := ⟨[⟨.mv (.v 7), none, false⟩, ⟨.mv (.v 8), none, false⟩, ⟨.len (.t 0), none, false⟩, ⟨.bin .lss (.t 2) (.t 0), none, false⟩], [], [], some (61, 0)⟩
abbrev r_ref49_Moved_16 : Reg := ⟨[⟨.mv (.v 8), none, false⟩, ⟨.mv (.v 7), none, false⟩, ⟨.iad (.t 1) (.t 0) 1, none, false⟩, ⟨.ld (.t 0) none, none, false⟩, ⟨.mv (.t 0), none, false⟩], [(9, 0)], [], none⟩
abbrev r_ref49_Moved_17 : Reg := ⟨[⟨.mv (.v 2), none, false⟩, ⟨.mv (.v 9), none, false⟩, ⟨.iad (.t 1) (.t 0) 1, none, false⟩, ⟨.ld (.t 0) none, none, false⟩, ⟨.mv (.t 0), none, false⟩], [(11, 0)], [], none⟩
abbrev r_ref49_Moved_18 : Reg := ⟨[⟨.mv (.c (.int (0))), none, false⟩], [(10, 0)], [], none⟩
abbrev r_ref49_Moved_19 : Reg := ⟨[⟨.mv (.v 10), none, false⟩, ⟨.fad (.v 3) 0 none, none, false⟩, ⟨.ldi (.t 0) none, none, false⟩, ⟨.bin .lss (.t 2) (.t 0), none, false⟩, ⟨.mv (.t 0), none, false⟩, ⟨.mv (.v 11), some (.t 0, true), false⟩, ⟨.bin .geq (.t 0) (.c (.int (0))), some (.t 1, true), false⟩, ⟨.pick (.t 2) (.t 0) (.c (.bool false)), none, false⟩], [], [], some (79, 0)⟩
abbrev r_ref49_Moved_21 : Reg := ⟨[⟨.mv (.v 12), none, false⟩, ⟨.mv (.v 7), none, false⟩, ⟨.iad (.t 1) (.t 0) 1, none, false⟩, ⟨.ld (.t 0) none, none, false⟩, ⟨.mv (.v 10), none, false⟩, ⟨.cal F_ref09_Extended [(.t 1), (.t 0)], none, false⟩, ⟨.mv (.v 9), none, false⟩, ⟨.mv (.v 11), none, false⟩, ⟨.fad (.v 3) 3 none, none, false⟩, ⟨.ldi (.t 0) none, none, false⟩, ⟨.mv (.v 9), none, false⟩, ⟨.iad (.t 1) (.t 0) 1, none, false⟩, ⟨.ldi (.t 0) none, none, false⟩, ⟨.mv (.v 10), none, false⟩, ⟨.iad (.t 1) (.t 0) 1, none, false⟩, ⟨.ldi (.t 0) none, none, false⟩, ⟨.fad (.v 4) 3 none, none, false⟩, ⟨.ldi (.t 0) none, none, false⟩, ⟨.mv (.v 11), none, false⟩, ⟨.iad (.t 1) (.t 0) 1, none, false⟩, ⟨.ldi (.t 0) none, none, false⟩, ⟨.mv (.v 10), none, false⟩, ⟨.iad (.t 1) (.t 0) 1, none, false⟩, ⟨.ldi (.t 0) none, none, false⟩, ⟨.bld [.snil, .int 0, .int 0, .int 0, .int 0] [(0, 1, (.t 18)), (1, 1, (.t 17)), (2, 1, (.t 16)), (3, 1, (.t 8)), (4, 1, (.t 0))], none, false⟩, ⟨.alc [.snil, .int 0, .int 0, .int 0, .int 0] (some 5), none, false⟩, ⟨.st (.t 0) (.t 1) 5, none, false⟩], [(13, 1)], [], none⟩
abbrev r_ref49_Moved_22 : Reg := ⟨[⟨.fad (.v 13) 3 none, none, false⟩, ⟨.ld (.t 0) none, none, false⟩, ⟨.fad (.v 13) 4 none, none, false⟩, ⟨.ld (.t 0) none, none, false⟩, ⟨.bin .eql (.t 2) (.t 0), none, false⟩], [], [], some (111, 0)⟩
abbrev r_ref49_Moved_23 : Reg := ⟨[⟨.mv (.v 2), none, false⟩, ⟨.fad (.v 3) 2 none, none, false⟩, ⟨.ldi (.t 0) none, none, false⟩, ⟨.mv (.v 9), none, false⟩, ⟨.iad (.t 1) (.t 0) 1, none, false⟩, ⟨.ldi (.t 0) none, none, false⟩, ⟨.mv (.v 10), none, false⟩, ⟨.iad (.t 1) (.t 0) 1, none, false⟩, ⟨.ldi (.t 0) none, none, false⟩, ⟨.iad (.t 8) (.t 0) 1, none, false⟩, ⟨.ld (.t 0) none, none, false⟩, ⟨.fad (.v 4) 2 none, none, false⟩, ⟨.ldi (.t 0) none, none, false⟩, ⟨.mv (.v 11), none, false⟩, ⟨.iad (.t 1) (.t 0) 1, none, false⟩, ⟨.ldi (.t 0) none, none, false⟩, ⟨.mv (.v 10), none, false⟩, ⟨.iad (.t 1) (.t 0) 1, none, false⟩, ⟨.ldi (.t 0) none, none, false⟩, ⟨.bin .eql (.t 8) (.t 0), none, false⟩], [], [], some (131, 0)⟩
abbrev r_ref49_Moved_24 : Reg := ⟨[⟨.fad (.v 3) 2 none, none, false⟩, ⟨.ldi (.t 0) none, none, false⟩, ⟨.mv (.v 9), none, false⟩, ⟨.iad (.t 1) (.t 0) 1, none, false⟩, ⟨.ldi (.t 0) none, none, false⟩, ⟨.mv (.v 10), none, false⟩, ⟨.iad (.t 1) (.t 0) 1, none, false⟩, ⟨.ldi (.t 0) none, none, false⟩, ⟨.fad (.v 4) 2 none, none, false⟩, ⟨.ldi (.t 0) none, none, false⟩, ⟨.mv (.v 11), none, false⟩, ⟨.iad (.t 1) (.t 0) 1, none, false⟩, ⟨.ldi (.t 0) none, none, false⟩, ⟨.mv (.v 10), none, false⟩, ⟨.iad (.t 1) (.t 0) 1, none, false⟩, ⟨.ldi (.t 0) none, none, false⟩, ⟨.fad (.v 13) 3 none, none, false⟩, ⟨.st (.t 0) (.t 9) 1, none, false⟩, ⟨.fad (.v 13) 4 none, none, false⟩, ⟨.st (.t 0) (.t 3) 1, none, false⟩], [], [], none⟩
abbrev r_ref49_Moved_25 : Reg := ⟨[⟨.mv (.v 14), none, false⟩, ⟨.ld (.v 13) (some 5), none, false⟩, ⟨.lita [(.t 0)] 5, none, false⟩, ⟨.appw (.t 2) (.t 0) (some 5), none, false⟩, ⟨.mv (.t 0), none, false⟩], [(14, 0)], [13], none⟩
abbrev r_ref49_Moved_20 : Reg := ⟨[⟨.mv (.v 10), none, false⟩, ⟨.bin .add (.t 0) (.c (.int (1))), none, false⟩, ⟨.mv (.t 0), none, false⟩], [(10, 0)], [13], none⟩
abbrev b_ref49_Moved_4 : IC := (.lex (.seq (.seq (.reg r_ref49_Moved_19)
 (.cond 79 .skip (.exit 4)))
 (.seq (.block 5 (.seq (.reg r_ref49_Moved_21)
 (.seq (.seq (.reg r_ref49_Moved_22)
 (.cond 111 (.seq (.seq (.reg r_ref49_Moved_23)
 (.cond 131 (.exit 5) .skip))
 (.reg r_ref49_Moved_24)) .skip))
 (.reg r_ref49_Moved_25))))
 (.reg r_ref49_Moved_20))))
abbrev r_ref49_Moved_15 : Reg := ⟨[⟨.mv (.v 7), none, false⟩, ⟨.bin .add (.t 0) (.c (.int (1))), none, false⟩, ⟨.mv (.t 0), none, false⟩], [(7, 0)], [9, 10, 11], none⟩
abbrev b_ref49_Moved_2 : IC := (.lex (.seq (.seq (.reg r_ref49_Moved_14)
 (.cond 61 .skip (.exit 2)))
 (.seq (.block 3 (.seq (.reg r_ref49_Moved_16)
 (.seq (.reg r_ref49_Moved_17)
 (.seq (.reg r_ref49_Moved_18)
 (.block 4 (.loop b_ref49_Moved_4))))))
 (.reg r_ref49_Moved_15))))
abbrev r_ref49_Moved_26 : Reg := ⟨[⟨.mv (.v 14), none, false⟩, ⟨.len (.t 0), none, false⟩, ⟨.bin .gtr (.t 0) (.c (.int (10000))), none, false⟩], [], [2, 3, 4, 7, 8, 12], some (156, 0)⟩
abbrev r_ref49_Moved_27 : Reg := ⟨[⟨.mv (.c (.snil)), none, false⟩, ⟨.mv (.c (.int (11))), none, false⟩], [(15, 1), (16, 0)], [14], none⟩
abbrev r_ref49_Moved_28 : Reg := ⟨[⟨.mv (.v 14), none, false⟩, ⟨.mv (.t 0), none, false⟩, ⟨.mv (.c (.int (0))), none, false⟩], [(15, 1), (16, 0)], [14], none⟩
abbrev ir_ref49_Moved : Fn := { np := 3, nv := 17, res := [(15, none), (16, none)], body :=
(.seq (.reg r_ref49_Moved_0)
 (.seq (.seq (.reg r_ref49_Moved_1)
 (.seq (.reg r_ref49_Moved_2)
 (.cond 23 (.seq (.reg r_ref49_Moved_3)
 .ret) .skip)))
 (.seq (.seq (.reg r_ref49_Moved_4)
 (.cond 30 (.seq (.reg r_ref49_Moved_5)
 .ret) .skip))
 (.seq (.seq (.reg r_ref49_Moved_6)
 (.block 0 (.loop b_ref49_Moved_0)))
 (.seq (.reg r_ref49_Moved_11)
 (.seq (.reg r_ref49_Moved_12)
 (.seq (.seq (.reg r_ref49_Moved_13)
 (.block 2 (.loop b_ref49_Moved_2)))
 (.seq (.seq (.reg r_ref49_Moved_26)
 (.cond 156 (.seq (.reg r_ref49_Moved_27)
 .ret) .skip))
 (.seq (.reg r_ref49_Moved_28)
 .ret))))))))) }
/- f18 ref08_Equal : 0:a 1:b 2:i 3:_ -/
abbrev r_ref08_Equal_0 : Reg := ⟨[⟨.mv (.c (.bool false)), none, false⟩], [], [3], none⟩
abbrev r_ref08_Equal_1 : Reg := ⟨[⟨.mv (.v 0), none, false⟩, ⟨.len (.t 0), none, false⟩, ⟨.mv (.v 1), none, false⟩, ⟨.len (.t 0), none, false⟩, ⟨.bin .neq (.t 2) (.t 0), none, false⟩], [], [], some (10, 0)⟩
abbrev r_ref08_Equal_2 : Reg := ⟨[⟨.mv (.c (.bool false)), none, false⟩], [(3, 0)], [0, 1], none⟩
abbrev r_ref08_Equal_3 : Reg := ⟨[⟨.mv (.c (.int (0))), none, false⟩], [(2, 0)], [], none⟩
abbrev r_ref08_Equal_4 : Reg := ⟨[⟨.mv (.v 2), none, false⟩, ⟨.mv (.v 0), none, false⟩, ⟨.len (.t 0), none, false⟩, ⟨.bin .lss (.t 2) (.t 0), none, false⟩], [], [], some (14, 0)⟩
abbrev r_ref08_Equal_6 : Reg := ⟨[⟨.mv (.v 0), none, false⟩, ⟨.mv (.v 2), none, false⟩, ⟨.iad (.t 1) (.t 0) 1, none, false⟩, ⟨.ld (.t 0) none, none, false⟩, ⟨.mv (.v 1), none, false⟩, ⟨.mv (.v 2), none, false⟩, ⟨.iad (.t 1) (.t 0) 1, none, false⟩, ⟨.ld (.t 0) none, none, false⟩, ⟨.bin .neq (.t 4) (.t 0), none, false⟩], [], [], some (25, 0)⟩
abbrev r_ref08_Equal_7 : Reg := ⟨[⟨.mv (.c (.bool false)), none, false⟩], [(3, 0)], [0, 1, 2], none⟩
abbrev r_ref08_Equal_5 : Reg := ⟨[⟨.mv (.v 2), none, false⟩, ⟨.bin .add (.t 0) (.c (.int (1))), none, false⟩, ⟨.mv (.t 0), none, false⟩], [(2, 0)], [], none⟩
abbrev b_ref08_Equal_0 : IC := (.seq (.seq (.reg r_ref08_Equal_4)
 (.cond 14 .skip (.exit 0)))
 (.seq (.block 1 (.seq (.reg r_ref08_Equal_6)
 (.cond 25 (.seq (.reg r_ref08_Equal_7)
 .ret) .skip)))
 (.reg r_ref08_Equal_5)))
abbrev r_ref08_Equal_8 : Reg := ⟨[⟨.mv (.c (.bool true)), none, false⟩], [(3, 0)], [0, 1, 2], none⟩
abbrev ir_ref08_Equal : Fn := { np := 2, nv := 4, res := [(3, none)], body :=
(.seq (.reg r_ref08_Equal_0)
 (.seq (.seq (.reg r_ref08_Equal_1)
 (.cond 10 (.seq (.reg r_ref08_Equal_2)
 .ret) .skip))
 (.seq (.seq (.reg r_ref08_Equal_3)
 (.block 0 (.loop b_ref08_Equal_0)))
 (.seq (.reg r_ref08_Equal_8)
 .ret)))) }
/- f19 ref09_Check : 0:a 1:b 2:a 3:e 4:b 5:e 6:_ -/
abbrev r_ref09_Check_0 : Reg := ⟨[⟨.bxi (.v 0), none, false⟩, ⟨.bxi (.v 1), none, false⟩, ⟨.mv (.c (.int (0))), none, false⟩], [(2, 2), (4, 1)], [0, 1, 6], none⟩
abbrev r_ref09_Check_1 : Reg := ⟨[⟨.ldi (.v 2) (some 4), none, false⟩, ⟨.cal F_ref06_Valid [(.t 0)], none, false⟩, ⟨.mv (.t 0), none, false⟩], [(3, 0)], [], none⟩
abbrev r_ref09_Check_2 : Reg := ⟨[⟨.mv (.v 3), none, false⟩, ⟨.bin .neq (.t 0) (.c (.int (0))), none, false⟩], [], [], some (10, 0)⟩
abbrev r_ref09_Check_3 : Reg := ⟨[⟨.mv (.v 3), none, false⟩, ⟨.mv (.t 0), none, false⟩], [(6, 0)], [2, 3, 4], none⟩
abbrev r_ref09_Check_4 : Reg := ⟨[⟨.ldi (.v 4) (some 4), none, false⟩, ⟨.cal F_ref06_Valid [(.t 0)], none, false⟩, ⟨.mv (.t 0), none, false⟩], [(5, 0)], [3], none⟩
abbrev r_ref09_Check_5 : Reg := ⟨[⟨.mv (.v 5), none, false⟩, ⟨.bin .neq (.t 0) (.c (.int (0))), none, false⟩], [], [], some (15, 0)⟩
abbrev r_ref09_Check_6 : Reg := ⟨[⟨.mv (.v 5), none, false⟩, ⟨.mv (.t 0), none, false⟩], [(6, 0)], [2, 4, 5], none⟩
abbrev r_ref09_Check_7 : Reg := ⟨[⟨.fad (.v 2) 0 none, none, false⟩, ⟨.ldi (.t 0) none, none, false⟩, ⟨.fad (.v 4) 0 none, none, false⟩, ⟨.ldi (.t 0) none, none, false⟩, ⟨.bin .neq (.t 2) (.t 0), none, false⟩], [], [2, 4, 5], some (21, 0)⟩
abbrev r_ref09_Check_8 : Reg := ⟨[⟨.mv (.c (.int (15))), none, false⟩], [(6, 0)], [], none⟩
abbrev r_ref09_Check_9 : Reg := ⟨[⟨.mv (.c (.int (0))), none, false⟩], [(6, 0)], [], none⟩
abbrev ir_ref09_Check : Fn := { np := 2, nv := 7, res := [(6, none)], body :=
(.seq (.reg r_ref09_Check_0)
 (.seq (.seq (.reg r_ref09_Check_1)
 (.seq (.reg r_ref09_Check_2)
 (.cond 10 (.seq (.reg r_ref09_Check_3)
 .ret) .skip)))
 (.seq (.seq (.reg r_ref09_Check_4)
 (.seq (.reg r_ref09_Check_5)
 (.cond 15 (.seq (.reg r_ref09_Check_6)
 .ret) .skip)))
 (.seq (.seq (.reg r_ref09_Check_7)
 (.cond 21 (.seq (.reg r_ref09_Check_8)
 .ret) .skip))
 (.seq (.reg r_ref09_Check_9)
 .ret))))) }
/- f20 mealy_Run : 0:m 1:w 2:m 3:out 4:e 5:_ 6:_ -/
abbrev r_mealy_Run_0 : Reg := ⟨[⟨.bxi (.v 0), none, false⟩, ⟨.mv (.c (.snil)), none, false⟩, ⟨.mv (.c (.int (0))), none, false⟩], [(2, 2)], [0, 5, 6], none⟩
abbrev r_mealy_Run_1 : Reg := ⟨[⟨.ldi (.v 2) (some 4), none, false⟩, ⟨.fad (.v 2) 1 none, none, false⟩, ⟨.ldi (.t 0) none, none, false⟩, ⟨.mv (.v 1), none, false⟩, ⟨.cal F_mealy_From [(.t 3), (.t 1), (.t 0)], none, false⟩, ⟨.mv (.t 0), none, false⟩, ⟨.ext (.t 0) 0, none, false⟩, ⟨.ext (.t 1) 1, none, false⟩, ⟨.ext (.t 2) 2, none, false⟩, ⟨.mv (.t 2), none, false⟩, ⟨.mv (.t 2), none, false⟩, ⟨.mv (.t 2), none, false⟩], [(3, 2), (4, 0)], [1, 2], none⟩
abbrev r_mealy_Run_2 : Reg := ⟨[⟨.mv (.v 3), none, false⟩, ⟨.mv (.v 4), none, false⟩, ⟨.mv (.t 1), none, false⟩, ⟨.mv (.t 1), none, false⟩], [(5, 1), (6, 0)], [3, 4], none⟩
abbrev ir_mealy_Run : Fn := { np := 2, nv := 7, res := [(5, none), (6, none)], body :=
(.seq (.reg r_mealy_Run_0)
 (.seq (.reg r_mealy_Run_1)
 (.seq (.reg r_mealy_Run_2)
 .ret))) }
/- f21 mealy_From : 0:m 1:s 2:w 3:m 4:e 5:e 6:r 7:out 8:_ 9:_ 10:_ -/
abbrev r_mealy_From_0 : Reg := ⟨[⟨.bxi (.v 0), none, false⟩, ⟨.mv (.c (.snil)), none, false⟩, ⟨.mv (.c (.int (0))), none, false⟩, ⟨.mv (.c (.int (0))), none, false⟩], [(3, 3)], [0, 8, 9, 10], none⟩
abbrev r_mealy_From_1 : Reg := ⟨[⟨.ldi (.v 3) (some 4), none, false⟩, ⟨.mv (.v 1), none, false⟩, ⟨.cal F_mealy_state [(.t 1), (.t 0)], none, false⟩, ⟨.mv (.t 0), none, false⟩], [(4, 0)], [], none⟩
abbrev r_mealy_From_2 : Reg := ⟨[⟨.mv (.v 4), none, false⟩, ⟨.bin .neq (.t 0) (.c (.int (0))), none, false⟩], [], [], some (17, 0)⟩
abbrev r_mealy_From_3 : Reg := ⟨[⟨.mv (.v 4), none, false⟩, ⟨.mv (.c (.snil)), none, false⟩, ⟨.mv (.c (.int (0))), none, false⟩, ⟨.mv (.t 2), none, false⟩], [(8, 2), (9, 1), (10, 0)], [1, 2, 3, 4], none⟩
abbrev r_mealy_From_4 : Reg := ⟨[⟨.mv (.v 2), none, false⟩, ⟨.fad (.v 3) 0 none, none, false⟩, ⟨.ldi (.t 0) none, none, false⟩, ⟨.cal F_word_Check [(.t 2), (.t 0)], none, false⟩, ⟨.mv (.t 0), none, false⟩], [(5, 0)], [4], none⟩
abbrev r_mealy_From_5 : Reg := ⟨[⟨.mv (.v 5), none, false⟩, ⟨.bin .neq (.t 0) (.c (.int (0))), none, false⟩], [], [], some (24, 0)⟩
abbrev r_mealy_From_6 : Reg := ⟨[⟨.mv (.v 5), none, false⟩, ⟨.mv (.c (.snil)), none, false⟩, ⟨.mv (.c (.int (0))), none, false⟩, ⟨.mv (.t 2), none, false⟩], [(8, 2), (9, 1), (10, 0)], [1, 2, 3, 5], none⟩
abbrev r_mealy_From_7 : Reg := ⟨[⟨.ldi (.v 3) (some 4), none, false⟩, ⟨.bld [.int 0, .int 0, .snil, .snil] [(0, 4, (.t 0))], none, false⟩, ⟨.mv (.v 1), none, false⟩, ⟨.bld [.int 0, .int 0, .snil, .snil, .int 0] [(0, 4, (.t 1)), (4, 1, (.t 0))], none, false⟩, ⟨.bxm (.t 0) (some 5), none, false⟩, ⟨.mv (.t 0), none, false⟩], [(6, 0)], [1, 3, 5], none⟩
abbrev r_mealy_From_8 : Reg := ⟨[⟨.mv (.v 6), none, false⟩, ⟨.mv (.v 2), none, false⟩, ⟨.cam F_mealy_runner_run [(.t 1), (.t 0)], none, false⟩, ⟨.mv (.t 0), none, false⟩], [(7, 0)], [2], none⟩
abbrev r_mealy_From_9 : Reg := ⟨[⟨.mv (.v 7), none, false⟩, ⟨.mv (.v 6), none, false⟩, ⟨.nck (.t 0), none, false⟩, ⟨.fad (.t 0) 4 none, none, false⟩, ⟨.ld (.t 0) none, none, false⟩, ⟨.mv (.t 4), none, false⟩, ⟨.mv (.t 1), none, false⟩, ⟨.mv (.c (.int (0))), none, false⟩], [(8, 2), (9, 1), (10, 0)], [6, 7], none⟩
abbrev ir_mealy_From : Fn := { np := 3, nv := 11, res := [(8, none), (9, none), (10, none)], body :=
(.seq (.reg r_mealy_From_0)
 (.seq (.seq (.reg r_mealy_From_1)
 (.seq (.reg r_mealy_From_2)
 (.cond 17 (.seq (.reg r_mealy_From_3)
 .ret) .skip)))
 (.seq (.seq (.reg r_mealy_From_4)
 (.seq (.reg r_mealy_From_5)
 (.cond 24 (.seq (.reg r_mealy_From_6)
 .ret) .skip)))
 (.seq (.reg r_mealy_From_7)
 (.seq (.reg r_mealy_From_8)
 (.seq (.reg r_mealy_From_9)
 .ret)))))) }
/- f22 word_Compare : 0:a 1:b 2:_ -/
abbrev r_word_Compare_0 : Reg := ⟨[⟨.mv (.c (.int (0))), none, false⟩], [], [2], none⟩
abbrev r_word_Compare_1 : Reg := ⟨[⟨.mv (.v 0), none, false⟩, ⟨.len (.t 0), none, false⟩, ⟨.mv (.v 1), none, false⟩, ⟨.len (.t 0), none, false⟩, ⟨.cal F_cmp_Compare_int [(.t 2), (.t 0)], none, false⟩, ⟨.mv (.v 0), none, false⟩, ⟨.mv (.v 1), none, false⟩, ⟨.cal F_slices_Compare_Sint_int [(.t 1), (.t 0)], none, false⟩, ⟨.liti [(.t 3), (.t 0)] 1, none, false⟩, ⟨.cal F_cmp_Or_int [(.t 0)], none, false⟩, ⟨.mv (.t 0), none, false⟩], [(2, 0)], [0, 1], none⟩
abbrev ir_word_Compare : Fn := { np := 2, nv := 3, res := [(2, none)], body :=
(.seq (.reg r_word_Compare_0)
 (.seq (.reg r_word_Compare_1)
 .ret)) }
/- f23 equiv_Distinguish : 0:a 1:b 2:a 3:b 4:e 5:w 6:found 7:_ 8:_ 9:_ -/
abbrev r_equiv_Distinguish_0 : Reg := ⟨[⟨.bxi (.v 0), none, false⟩, ⟨.bxi (.v 1), none, false⟩, ⟨.mv (.c (.snil)), none, false⟩, ⟨.mv (.c (.bool false)), none, false⟩, ⟨.mv (.c (.int (0))), none, false⟩], [(2, 4), (3, 3)], [0, 1, 7, 8, 9], none⟩
abbrev r_equiv_Distinguish_1 : Reg := ⟨[⟨.ldi (.v 2) (some 4), none, false⟩, ⟨.ldi (.v 3) (some 4), none, false⟩, ⟨.cal F_equiv_check [(.t 1), (.t 0)], none, false⟩, ⟨.mv (.t 0), none, false⟩], [(4, 0)], [], none⟩
abbrev r_equiv_Distinguish_2 : Reg := ⟨[⟨.mv (.v 4), none, false⟩, ⟨.bin .neq (.t 0) (.c (.int (0))), none, false⟩], [], [], some (14, 0)⟩
abbrev r_equiv_Distinguish_3 : Reg := ⟨[⟨.mv (.v 4), none, false⟩, ⟨.mv (.c (.snil)), none, false⟩, ⟨.mv (.c (.bool false)), none, false⟩, ⟨.mv (.t 2), none, false⟩], [(7, 2), (8, 1), (9, 0)], [2, 3, 4], none⟩
abbrev r_equiv_Distinguish_4 : Reg := ⟨[⟨.ldi (.v 2) (some 4), none, false⟩, ⟨.ldi (.v 3) (some 4), none, false⟩, ⟨.fad (.v 2) 1 none, none, false⟩, ⟨.ldi (.t 0) none, none, false⟩, ⟨.fad (.v 3) 1 none, none, false⟩, ⟨.ldi (.t 0) none, none, false⟩, ⟨.bld [.int 0, .int 0] [(0, 1, (.t 2)), (1, 1, (.t 0))], none, false⟩, ⟨.cal F_equiv_search [(.t 6), (.t 5), (.t 0)], none, false⟩, ⟨.mv (.t 0), none, false⟩, ⟨.ext (.t 0) 0, none, false⟩, ⟨.ext (.t 1) 1, none, false⟩, ⟨.mv (.t 1), none, false⟩, ⟨.mv (.t 1), none, false⟩], [(5, 1), (6, 0)], [2, 3, 4], none⟩
abbrev r_equiv_Distinguish_5 : Reg := ⟨[⟨.mv (.v 5), none, false⟩, ⟨.mv (.v 6), none, false⟩, ⟨.mv (.t 1), none, false⟩, ⟨.mv (.t 1), none, false⟩, ⟨.mv (.c (.int (0))), none, false⟩], [(7, 2), (8, 1), (9, 0)], [5, 6], none⟩
abbrev ir_equiv_Distinguish : Fn := { np := 2, nv := 10, res := [(7, none), (8, none), (9, none)], body :=
(.seq (.reg r_equiv_Distinguish_0)
 (.seq (.seq (.reg r_equiv_Distinguish_1)
 (.seq (.reg r_equiv_Distinguish_2)
 (.cond 14 (.seq (.reg r_equiv_Distinguish_3)
 .ret) .skip)))
 (.seq (.reg r_equiv_Distinguish_4)
 (.seq (.reg r_equiv_Distinguish_5)
 .ret)))) }
/- f24 equiv_Equal : 0:a 1:b 2:a 3:b 4:e 5:found 6:_ 7:_ -/
abbrev r_equiv_Equal_0 : Reg := ⟨[⟨.bxi (.v 0), none, false⟩, ⟨.bxi (.v 1), none, false⟩, ⟨.mv (.c (.bool false)), none, false⟩, ⟨.mv (.c (.int (0))), none, false⟩], [(2, 3), (3, 2)], [0, 1, 6, 7], none⟩
abbrev r_equiv_Equal_1 : Reg := ⟨[⟨.ldi (.v 2) (some 4), none, false⟩, ⟨.ldi (.v 3) (some 4), none, false⟩, ⟨.cal F_equiv_Distinguish [(.t 1), (.t 0)], none, false⟩, ⟨.mv (.t 0), none, false⟩, ⟨.ext (.t 0) 0, none, false⟩, ⟨.ext (.t 1) 1, none, false⟩, ⟨.ext (.t 2) 2, none, false⟩, ⟨.mv (.t 2), none, false⟩, ⟨.mv (.t 2), none, false⟩, ⟨.mv (.t 2), none, false⟩], [(5, 1), (4, 0)], [2, 3], none⟩
abbrev r_equiv_Equal_2 : Reg := ⟨[⟨.mv (.v 4), none, false⟩, ⟨.bin .eql (.t 0) (.c (.int (0))), none, false⟩, ⟨.mv (.t 0), none, false⟩, ⟨.mv (.v 5), some (.t 0, true), false⟩, ⟨.not (.t 0), some (.t 1, true), false⟩, ⟨.pick (.t 2) (.t 0) (.c (.bool false)), none, false⟩, ⟨.mv (.v 4), none, false⟩, ⟨.mv (.t 1), none, false⟩, ⟨.mv (.t 1), none, false⟩], [(6, 1), (7, 0)], [4, 5], none⟩
abbrev ir_equiv_Equal : Fn := { np := 2, nv := 8, res := [(6, none), (7, none)], body :=
(.seq (.reg r_equiv_Equal_0)
 (.seq (.reg r_equiv_Equal_1)
 (.seq (.reg r_equiv_Equal_2)
 .ret))) }
/- f25 ref06_Reach : 0:m 1:m 2:i 3:l 4:a 5:_ -/
abbrev r_ref06_Reach_0 : Reg := ⟨[⟨.bxi (.v 0), none, false⟩, ⟨.mv (.c (.snil)), none, false⟩], [(1, 1)], [0, 5], none⟩
abbrev r_ref06_Reach_1 : Reg := ⟨[⟨.ldi (.v 1) (some 4), none, false⟩, ⟨.cal F_ref06_Valid [(.t 0)], none, false⟩, ⟨.bin .neq (.t 0) (.c (.int (0))), none, false⟩], [], [], some (8, 0)⟩
abbrev r_ref06_Reach_2 : Reg := ⟨[⟨.mv (.c (.snil)), none, false⟩], [(5, 0)], [1], none⟩
abbrev r_ref06_Reach_3 : Reg := ⟨[⟨.fad (.v 1) 1 none, none, false⟩, ⟨.ldi (.t 0) none, none, false⟩, ⟨.litm [(.t 0)] none, none, false⟩, ⟨.mv (.t 0), none, false⟩], [(3, 0)], [], none⟩
abbrev r_ref06_Reach_4 : Reg := ⟨[⟨.mv (.c (.int (0))), none, false⟩], [(2, 0)], [], none⟩
abbrev r_ref06_Reach_5 : Reg := ⟨[⟨.mv (.v 2), none, false⟩, ⟨.mv (.v 3), none, false⟩, ⟨.len (.t 0), none, false⟩, ⟨.bin .lss (.t 2) (.t 0), none, false⟩], [], [], some (15, 0)⟩
abbrev r_ref06_Reach_7 : Reg := ⟨[⟨.mv (.c (.int (0))), none, false⟩], [(4, 0)], [], none⟩
abbrev r_ref06_Reach_8 : Reg := ⟨[⟨.mv (.v 4), none, false⟩, ⟨.fad (.v 1) 0 none, none, false⟩, ⟨.ldi (.t 0) none, none, false⟩, ⟨.bin .lss (.t 2) (.t 0), none, false⟩], [], [], some (21, 0)⟩
abbrev r_ref06_Reach_10 : Reg := ⟨[⟨.mv (.v 3), none, false⟩, ⟨.fad (.v 1) 2 none, none, false⟩, ⟨.ldi (.t 0) none, none, false⟩, ⟨.mv (.v 3), none, false⟩, ⟨.mv (.v 2), none, false⟩, ⟨.iad (.t 1) (.t 0) 1, none, false⟩, ⟨.ld (.t 0) none, none, false⟩, ⟨.iad (.t 4) (.t 0) 1, none, false⟩, ⟨.ldi (.t 0) none, none, false⟩, ⟨.mv (.v 4), none, false⟩, ⟨.iad (.t 1) (.t 0) 1, none, false⟩, ⟨.ldi (.t 0) none, none, false⟩, ⟨.cab F_ref06_has [(.t 11), (.t 0)], none, false⟩, ⟨.not (.t 0), none, false⟩], [], [], some (37, 0)⟩
abbrev r_ref06_Reach_11 : Reg := ⟨[⟨.mv (.v 3), none, false⟩, ⟨.fad (.v 1) 2 none, none, false⟩, ⟨.ldi (.t 0) none, none, false⟩, ⟨.mv (.v 3), none, false⟩, ⟨.mv (.v 2), none, false⟩, ⟨.iad (.t 1) (.t 0) 1, none, false⟩, ⟨.ld (.t 0) none, none, false⟩, ⟨.iad (.t 4) (.t 0) 1, none, false⟩, ⟨.ldi (.t 0) none, none, false⟩, ⟨.mv (.v 4), none, false⟩, ⟨.iad (.t 1) (.t 0) 1, none, false⟩, ⟨.ldi (.t 0) none, none, false⟩, ⟨.lita [(.t 0)] 1, none, false⟩, ⟨.app (.t 12) (.t 0) none, none, false⟩, ⟨.mv (.t 0), none, false⟩], [(3, 0)], [], none⟩
abbrev r_ref06_Reach_9 : Reg := ⟨[⟨.mv (.v 4), none, false⟩, ⟨.bin .add (.t 0) (.c (.int (1))), none, false⟩, ⟨.mv (.t 0), none, false⟩], [(4, 0)], [], none⟩
abbrev b_ref06_Reach_2 : IC := (.seq (.seq (.reg r_ref06_Reach_8)
 (.cond 21 .skip (.exit 2)))
 (.seq (.block 3 (.seq (.reg r_ref06_Reach_10)
 (.cond 37 (.reg r_ref06_Reach_11) .skip)))
 (.reg r_ref06_Reach_9)))
abbrev r_ref06_Reach_6 : Reg := ⟨[⟨.mv (.v 2), none, false⟩, ⟨.bin .add (.t 0) (.c (.int (1))), none, false⟩, ⟨.mv (.t 0), none, false⟩], [(2, 0)], [4], none⟩
abbrev b_ref06_Reach_0 : IC := (.seq (.seq (.reg r_ref06_Reach_5)
 (.cond 15 .skip (.exit 0)))
 (.seq (.block 1 (.seq (.reg r_ref06_Reach_7)
 (.block 2 (.loop b_ref06_Reach_2))))
 (.reg r_ref06_Reach_6)))
abbrev r_ref06_Reach_12 : Reg := ⟨[⟨.mv (.v 3), none, false⟩, ⟨.mv (.t 0), none, false⟩], [(5, 0)], [1, 2, 3], none⟩
abbrev ir_ref06_Reach : Fn := { np := 1, nv := 6, res := [(5, none)], body :=
(.seq (.reg r_ref06_Reach_0)
 (.seq (.seq (.reg r_ref06_Reach_1)
 (.cond 8 (.seq (.reg r_ref06_Reach_2)
 .ret) .skip))
 (.seq (.reg r_ref06_Reach_3)
 (.seq (.seq (.reg r_ref06_Reach_4)
 (.block 0 (.loop b_ref06_Reach_0)))
 (.seq (.reg r_ref06_Reach_12)
 .ret))))) }
/- f26 minimize_Min : 0:m 1:m 2:e 3:_ 4:t 5:class 6:_ 7:_ 8:_ 9:c 10:out 11:s 12:_ 13:_ 14:_ 15:row 16:n 17:_ -/
abbrev r_minimize_Min_0 : Reg := ⟨[⟨.bxi (.v 0), none, false⟩, ⟨.alc [.int 0, .int 0, .snil, .snil] (some 4), none, false⟩, ⟨.mv (.c (.int (0))), none, false⟩], [(1, 2), (3, 1)], [0, 17], none⟩
abbrev r_minimize_Min_1 : Reg := ⟨[⟨.ldi (.v 1) (some 4), none, false⟩, ⟨.cal F_mealy_Trim [(.t 0)], none, false⟩, ⟨.mv (.t 0), none, false⟩, ⟨.ext (.t 0) 0, none, false⟩, ⟨.ext (.t 1) 1, none, false⟩, ⟨.alc0 4, none, false⟩, ⟨.ini (.t 0) (.t 2) 4, none, false⟩, ⟨.mv (.t 2), none, false⟩], [(4, 1), (2, 0)], [1], none⟩
abbrev r_minimize_Min_2 : Reg := ⟨[⟨.mv (.v 2), none, false⟩, ⟨.bin .neq (.t 0) (.c (.int (0))), none, false⟩], [], [], some (19, 0)⟩
abbrev r_minimize_Min_3 : Reg := ⟨[⟨.bld [.int 0, .int 0, .snil, .snil] [], none, false⟩, ⟨.mv (.v 2), none, false⟩, ⟨.st (.v 3) (.t 1) 4, none, false⟩, ⟨.mv (.t 1), none, false⟩], [(17, 0)], [2, 4], none⟩
abbrev r_minimize_Min_4 : Reg := ⟨[⟨.ldi (.v 4) (some 4), none, false⟩, ⟨.cal F_minimize_Classes [(.t 0)], none, false⟩, ⟨.mv (.t 0), none, false⟩, ⟨.ext (.t 0) 0, none, false⟩, ⟨.ext (.t 1) 1, none, false⟩, ⟨.mv (.t 1), none, false⟩, ⟨.mv (.t 1), none, false⟩], [(5, 1), (2, 0)], [], none⟩
abbrev r_minimize_Min_5 : Reg := ⟨[⟨.mv (.v 2), none, false⟩, ⟨.bin .neq (.t 0) (.c (.int (0))), none, false⟩], [], [], some (28, 0)⟩
abbrev r_minimize_Min_6 : Reg := ⟨[⟨.bld [.int 0, .int 0, .snil, .snil] [], none, false⟩, ⟨.mv (.v 2), none, false⟩, ⟨.st (.v 3) (.t 1) 4, none, false⟩, ⟨.mv (.t 1), none, false⟩], [(17, 0)], [2, 4, 5], none⟩
abbrev r_minimize_Min_7 : Reg := ⟨[⟨.fad (.v 4) 0 none, none, false⟩, ⟨.ldi (.t 0) none, none, false⟩, ⟨.bld [.int 0, .int 0, .snil, .snil] [(0, 1, (.t 0))], none, false⟩, ⟨.alc [.int 0, .int 0, .snil, .snil] (some 4), none, false⟩, ⟨.st (.t 0) (.t 1) 4, none, false⟩], [(10, 1)], [2], none⟩
abbrev r_minimize_Min_8 : Reg := ⟨[⟨.mv (.v 5), none, false⟩, ⟨.len (.t 0), none, false⟩, ⟨.mv (.c (.int (0))), none, false⟩], [(8, 2), (7, 1), (6, 0)], [], none⟩
abbrev r_minimize_Min_9 : Reg := ⟨[⟨.bin .lss (.v 6) (.v 7), none, false⟩], [], [], some (37, 0)⟩
abbrev r_minimize_Min_10 : Reg := ⟨[⟨.mv (.v 6), none, false⟩, ⟨.iad (.v 8) (.v 6) 1, none, false⟩, ⟨.ld (.t 0) none, none, false⟩, ⟨.mv (.t 2), none, false⟩, ⟨.mv (.t 1), none, false⟩], [(11, 1), (9, 0)], [], none⟩
abbrev r_minimize_Min_11 : Reg := ⟨[⟨.mv (.v 9), none, false⟩, ⟨.fad (.v 10) 2 none, none, false⟩, ⟨.ld (.t 0) none, none, false⟩, ⟨.len (.t 0), none, false⟩, ⟨.bin .lss (.t 3) (.t 0), none, false⟩], [], [9], some (45, 0)⟩
abbrev r_minimize_Min_12 : Reg := ⟨[⟨.nl none, none, false⟩], [(15, 0)], [], none⟩
abbrev r_minimize_Min_13 : Reg := ⟨[⟨.fad (.v 4) 2 none, none, false⟩, ⟨.ldi (.t 0) none, none, false⟩, ⟨.mv (.v 11), none, false⟩, ⟨.iad (.t 1) (.t 0) 1, none, false⟩, ⟨.ldi (.t 0) none, none, false⟩, ⟨.len (.t 0), none, false⟩, ⟨.mv (.c (.int (0))), none, false⟩], [(14, 2), (13, 1), (12, 0)], [], none⟩
abbrev r_minimize_Min_14 : Reg := ⟨[⟨.bin .lss (.v 12) (.v 13), none, false⟩], [], [], some (53, 0)⟩
abbrev r_minimize_Min_15 : Reg := ⟨[⟨.iad (.v 14) (.v 12) 1, none, false⟩, ⟨.ld (.t 0) none, none, false⟩, ⟨.mv (.t 0), none, false⟩], [(16, 0)], [], none⟩
abbrev r_minimize_Min_16 : Reg := ⟨[⟨.mv (.v 15), none, false⟩, ⟨.mv (.v 5), none, false⟩, ⟨.mv (.v 16), none, false⟩, ⟨.iad (.t 1) (.t 0) 1, none, false⟩, ⟨.ld (.t 0) none, none, false⟩, ⟨.lita [(.t 0)] 1, none, false⟩, ⟨.appw (.t 5) (.t 0) none, none, false⟩, ⟨.mv (.t 0), none, false⟩], [(15, 0)], [16], none⟩
abbrev r_minimize_Min_17 : Reg := ⟨[⟨.bin .add (.v 12) (.c (.int (1))), none, false⟩, ⟨.mv (.t 0), none, false⟩], [(12, 0)], [], none⟩
abbrev b_minimize_Min_2 : IC := (.seq (.reg r_minimize_Min_14)
 (.seq (.cond 53 .skip (.exit 2))
 (.seq (.block 3 (.seq (.reg r_minimize_Min_15)
 (.reg r_minimize_Min_16)))
 (.reg r_minimize_Min_17))))
abbrev r_minimize_Min_18 : Reg := ⟨[⟨.fad (.v 10) 2 none, none, false⟩, ⟨.ld (.t 0) none, none, false⟩, ⟨.mv (.v 15), none, false⟩, ⟨.lita [(.t 0)] 1, none, false⟩, ⟨.appw (.t 2) (.t 0) none, none, false⟩, ⟨.fad (.v 10) 2 none, none, false⟩, ⟨.st (.t 0) (.t 1) 1, none, false⟩], [], [12, 13, 14, 15], none⟩
abbrev r_minimize_Min_19 : Reg := ⟨[⟨.fad (.v 10) 3 none, none, false⟩, ⟨.ld (.t 0) none, none, false⟩, ⟨.lita [] 1, none, false⟩, ⟨.fad (.v 4) 3 none, none, false⟩, ⟨.ldi (.t 0) none, none, false⟩, ⟨.mv (.v 11), none, false⟩, ⟨.iad (.t 1) (.t 0) 1, none, false⟩, ⟨.ldi (.t 0) none, none, false⟩, ⟨.app (.t 5) (.t 0) none, none, false⟩, ⟨.lita [(.t 0)] 1, none, false⟩, ⟨.app (.t 8) (.t 0) none, none, false⟩, ⟨.fad (.v 10) 3 none, none, false⟩, ⟨.st (.t 0) (.t 1) 1, none, false⟩], [], [11], none⟩
abbrev r_minimize_Min_20 : Reg := ⟨[⟨.bin .add (.v 6) (.c (.int (1))), none, false⟩, ⟨.mv (.t 0), none, false⟩], [(6, 0)], [11], none⟩
abbrev b_minimize_Min_0 : IC := (.seq (.reg r_minimize_Min_9)
 (.seq (.cond 37 .skip (.exit 0))
 (.seq (.block 1 (.seq (.reg r_minimize_Min_10)
 (.seq (.seq (.reg r_minimize_Min_11)
 (.cond 45 (.exit 1) .skip))
 (.seq (.reg r_minimize_Min_12)
 (.seq (.seq (.reg r_minimize_Min_13)
 (.block 2 (.loop b_minimize_Min_2)))
 (.seq (.reg r_minimize_Min_18)
 (.reg r_minimize_Min_19)))))))
 (.reg r_minimize_Min_20))))
abbrev r_minimize_Min_21 : Reg := ⟨[⟨.ld (.v 10) (some 4), none, false⟩, ⟨.st (.v 3) (.t 0) 4, none, false⟩, ⟨.mv (.c (.int (0))), none, false⟩], [(17, 0)], [4, 5, 6, 7, 8, 10], none⟩
abbrev ir_minimize_Min : Fn := { np := 1, nv := 18, res := [(3, some (some 4)), (17, none)], body :=
(.seq (.reg r_minimize_Min_0)
 (.seq (.reg r_minimize_Min_1)
 (.seq (.seq (.reg r_minimize_Min_2)
 (.cond 19 (.seq (.reg r_minimize_Min_3)
 .ret) .skip))
 (.seq (.reg r_minimize_Min_4)
 (.seq (.seq (.reg r_minimize_Min_5)
 (.cond 28 (.seq (.reg r_minimize_Min_6)
 .ret) .skip))
 (.seq (.reg r_minimize_Min_7)
 (.seq (.seq (.reg r_minimize_Min_8)
 (.block 0 (.loop b_minimize_Min_0)))
 (.seq (.reg r_minimize_Min_21)
 .ret)))))))) }
/- f27 equiv_Iso : 0:a 1:b 2:a 3:b 4:e 5:x 6:y 7:_ 8:_ 9:_ 10:match 11:s 12:i 13:_ 14:_ 15:_ 16:_ 17:_ 18:s 19:i 20:t 21:_ 22:_ 23:_ -/
abbrev r_equiv_Iso_0 : Reg := ⟨[⟨.bxi (.v 0), none, false⟩, ⟨.bxi (.v 1), none, false⟩, ⟨.mv (.c (.snil)), none, false⟩, ⟨.mv (.c (.bool false)), none, false⟩, ⟨.mv (.c (.int (0))), none, false⟩], [(2, 4), (3, 3)], [0, 1, 21, 22, 23], none⟩
abbrev r_equiv_Iso_1 : Reg := ⟨[⟨.ldi (.v 2) (some 4), none, false⟩, ⟨.ldi (.v 3) (some 4), none, false⟩, ⟨.cal F_equiv_check [(.t 1), (.t 0)], none, false⟩, ⟨.mv (.t 0), none, false⟩], [(4, 0)], [], none⟩
abbrev r_equiv_Iso_2 : Reg := ⟨[⟨.mv (.v 4), none, false⟩, ⟨.bin .neq (.t 0) (.c (.int (0))), none, false⟩], [], [], some (20, 0)⟩
abbrev r_equiv_Iso_3 : Reg := ⟨[⟨.mv (.v 4), none, false⟩, ⟨.mv (.c (.snil)), none, false⟩, ⟨.mv (.c (.bool false)), none, false⟩, ⟨.mv (.t 2), none, false⟩], [(21, 2), (22, 1), (23, 0)], [2, 3, 4], none⟩
abbrev r_equiv_Iso_4 : Reg := ⟨[⟨.ldi (.v 2) (some 4), none, false⟩, ⟨.cal F_mealy_Reach [(.t 0)], none, false⟩, ⟨.ldi (.v 3) (some 4), none, false⟩, ⟨.cal F_mealy_Reach [(.t 0)], none, false⟩, ⟨.mv (.t 2), none, false⟩, ⟨.mv (.t 1), none, false⟩], [(5, 1), (6, 0)], [4], none⟩
abbrev r_equiv_Iso_5 : Reg := ⟨[⟨.mv (.v 5), none, false⟩, ⟨.len (.t 0), none, false⟩, ⟨.fad (.v 2) 2 none, none, false⟩, ⟨.ldi (.t 0) none, none, false⟩, ⟨.len (.t 0), none, false⟩, ⟨.bin .neq (.t 3) (.t 0), none, false⟩, ⟨.mv (.t 0), none, false⟩, ⟨.mv (.v 6), some (.t 0, false), false⟩, ⟨.len (.t 0), some (.t 1, false), false⟩, ⟨.fad (.v 3) 2 none, some (.t 2, false), false⟩, ⟨.ldi (.t 0) none, some (.t 3, false), false⟩, ⟨.len (.t 0), some (.t 4, false), false⟩, ⟨.bin .neq (.t 3) (.t 0), some (.t 5, false), false⟩, ⟨.pick (.t 6) (.c (.bool true)) (.t 0), none, false⟩, ⟨.mv (.t 0), none, false⟩, ⟨.mv (.v 5), some (.t 0, false), false⟩, ⟨.len (.t 0), some (.t 1, false), false⟩, ⟨.mv (.v 6), some (.t 2, false), false⟩, ⟨.len (.t 0), some (.t 3, false), false⟩, ⟨.bin .neq (.t 2) (.t 0), some (.t 4, false), false⟩, ⟨.pick (.t 5) (.c (.bool true)) (.t 0), none, false⟩], [], [], some (46, 0)⟩
abbrev r_equiv_Iso_6 : Reg := ⟨[⟨.mv (.c (.snil)), none, false⟩, ⟨.mv (.c (.bool false)), none, false⟩, ⟨.mv (.c (.int (0))), none, false⟩], [(21, 2), (22, 1), (23, 0)], [2, 3, 5, 6], none⟩
abbrev r_equiv_Iso_7 : Reg := ⟨[⟨.mv (.v 5), none, false⟩, ⟨.len (.t 0), none, false⟩, ⟨.mks (.t 0) (.t 0) [.int 0] none, none, false⟩, ⟨.mv (.t 0), none, false⟩], [(10, 0)], [], none⟩
abbrev r_equiv_Iso_8 : Reg := ⟨[⟨.mv (.v 5), none, false⟩, ⟨.len (.t 0), none, false⟩, ⟨.mv (.c (.int (0))), none, false⟩], [(9, 2), (8, 1), (7, 0)], [5], none⟩
abbrev r_equiv_Iso_9 : Reg := ⟨[⟨.bin .lss (.v 7) (.v 8), none, false⟩], [], [], some (53, 0)⟩
abbrev r_equiv_Iso_10 : Reg := ⟨[⟨.mv (.v 7), none, false⟩, ⟨.iad (.v 9) (.v 7) 1, none, false⟩, ⟨.ld (.t 0) none, none, false⟩, ⟨.mv (.t 2), none, false⟩, ⟨.mv (.t 1), none, false⟩], [(12, 1), (11, 0)], [], none⟩
abbrev r_equiv_Iso_11 : Reg := ⟨[⟨.mv (.v 10), none, false⟩, ⟨.mv (.v 11), none, false⟩, ⟨.mv (.v 6), none, false⟩, ⟨.mv (.v 12), none, false⟩, ⟨.iad (.t 1) (.t 0) 1, none, false⟩, ⟨.ld (.t 0) none, none, false⟩, ⟨.iad (.t 5) (.t 4) 1, none, false⟩, ⟨.st (.t 0) (.t 1) 1, none, false⟩], [], [11, 12], none⟩
abbrev r_equiv_Iso_12 : Reg := ⟨[⟨.bin .add (.v 7) (.c (.int (1))), none, false⟩, ⟨.mv (.t 0), none, false⟩], [(7, 0)], [], none⟩
abbrev b_equiv_Iso_0 : IC := (.seq (.reg r_equiv_Iso_9)
 (.seq (.cond 53 .skip (.exit 0))
 (.seq (.block 1 (.seq (.reg r_equiv_Iso_10)
 (.reg r_equiv_Iso_11)))
 (.reg r_equiv_Iso_12))))
abbrev r_equiv_Iso_13 : Reg := ⟨[⟨.mv (.v 10), none, false⟩, ⟨.len (.t 0), none, false⟩, ⟨.mv (.c (.int (0))), none, false⟩], [(15, 2), (14, 1), (13, 0)], [6, 7, 8, 9], none⟩
abbrev r_equiv_Iso_14 : Reg := ⟨[⟨.bin .lss (.v 13) (.v 14), none, false⟩], [], [], some (68, 0)⟩
abbrev r_equiv_Iso_15 : Reg := ⟨[⟨.mv (.v 13), none, false⟩, ⟨.iad (.v 15) (.v 13) 1, none, false⟩, ⟨.ld (.t 0) none, none, false⟩, ⟨.mv (.t 2), none, false⟩, ⟨.mv (.t 1), none, false⟩], [(18, 1), (20, 0)], [], none⟩
abbrev r_equiv_Iso_16 : Reg := ⟨[⟨.fad (.v 2) 0 none, none, false⟩, ⟨.ldi (.t 0) none, none, false⟩, ⟨.mv (.c (.int (0))), none, false⟩], [(17, 1), (16, 0)], [], none⟩
abbrev r_equiv_Iso_17 : Reg := ⟨[⟨.bin .lss (.v 16) (.v 17), none, false⟩], [], [], some (75, 0)⟩
abbrev r_equiv_Iso_18 : Reg := ⟨[⟨.mv (.v 16), none, false⟩, ⟨.mv (.t 0), none, false⟩], [(19, 0)], [], none⟩
abbrev r_equiv_Iso_19 : Reg := ⟨[⟨.fad (.v 2) 3 none, none, false⟩, ⟨.ldi (.t 0) none, none, false⟩, ⟨.mv (.v 18), none, false⟩, ⟨.iad (.t 1) (.t 0) 1, none, false⟩, ⟨.ldi (.t 0) none, none, false⟩, ⟨.mv (.v 19), none, false⟩, ⟨.iad (.t 1) (.t 0) 1, none, false⟩, ⟨.ldi (.t 0) none, none, false⟩, ⟨.fad (.v 3) 3 none, none, false⟩, ⟨.ldi (.t 0) none, none, false⟩, ⟨.mv (.v 20), none, false⟩, ⟨.iad (.t 1) (.t 0) 1, none, false⟩, ⟨.ldi (.t 0) none, none, false⟩, ⟨.mv (.v 19), none, false⟩, ⟨.iad (.t 1) (.t 0) 1, none, false⟩, ⟨.ldi (.t 0) none, none, false⟩, ⟨.bin .neq (.t 8) (.t 0), none, false⟩, ⟨.mv (.t 0), none, false⟩, ⟨.mv (.v 10), some (.t 0, false), false⟩, ⟨.fad (.v 2) 2 none, some (.t 1, false), false⟩, ⟨.ldi (.t 0) none, some (.t 2, false), false⟩, ⟨.mv (.v 18), some (.t 3, false), false⟩, ⟨.iad (.t 1) (.t 0) 1, some (.t 4, false), false⟩, ⟨.ldi (.t 0) none, some (.t 5, false), false⟩, ⟨.mv (.v 19), some (.t 6, false), false⟩, ⟨.iad (.t 1) (.t 0) 1, some (.t 7, false), false⟩, ⟨.ldi (.t 0) none, some (.t 8, false), false⟩, ⟨.iad (.t 8) (.t 0) 1, some (.t 9, false), false⟩, ⟨.ld (.t 0) none, some (.t 10, false), false⟩, ⟨.fad (.v 3) 2 none, some (.t 11, false), false⟩, ⟨.ldi (.t 0) none, some (.t 12, false), false⟩, ⟨.mv (.v 20), some (.t 13, false), false⟩, ⟨.iad (.t 1) (.t 0) 1, some (.t 14, false), false⟩, ⟨.ldi (.t 0) none, some (.t 15, false), false⟩, ⟨.mv (.v 19), some (.t 16, false), false⟩, ⟨.iad (.t 1) (.t 0) 1, some (.t 17, false), false⟩, ⟨.ldi (.t 0) none, some (.t 18, false), false⟩, ⟨.bin .neq (.t 8) (.t 0), some (.t 19, false), false⟩, ⟨.pick (.t 20) (.c (.bool true)) (.t 0), none, false⟩], [], [19], some (115, 0)⟩
abbrev r_equiv_Iso_20 : Reg := ⟨[⟨.mv (.c (.snil)), none, false⟩, ⟨.mv (.c (.bool false)), none, false⟩, ⟨.mv (.c (.int (0))), none, false⟩], [(21, 2), (22, 1), (23, 0)], [2, 3, 10, 13, 14, 15, 16, 17, 18, 20], none⟩
abbrev r_equiv_Iso_21 : Reg := ⟨[⟨.bin .add (.v 16) (.c (.int (1))), none, false⟩, ⟨.mv (.t 0), none, false⟩], [(16, 0)], [], none⟩
abbrev b_equiv_Iso_4 : IC := (.seq (.reg r_equiv_Iso_17)
 (.seq (.cond 75 .skip (.exit 4))
 (.seq (.block 5 (.seq (.reg r_equiv_Iso_18)
 (.seq (.reg r_equiv_Iso_19)
 (.cond 115 (.seq (.reg r_equiv_Iso_20)
 .ret) .skip))))
 (.reg r_equiv_Iso_21))))
abbrev r_equiv_Iso_22 : Reg := ⟨[⟨.bin .add (.v 13) (.c (.int (1))), none, false⟩, ⟨.mv (.t 0), none, false⟩], [(13, 0)], [16, 17, 18, 20], none⟩
abbrev b_equiv_Iso_2 : IC := (.seq (.reg r_equiv_Iso_14)
 (.seq (.cond 68 .skip (.exit 2))
 (.seq (.block 3 (.seq (.reg r_equiv_Iso_15)
 (.seq (.reg r_equiv_Iso_16)
 (.block 4 (.loop b_equiv_Iso_4)))))
 (.reg r_equiv_Iso_22))))
abbrev r_equiv_Iso_23 : Reg := ⟨[⟨.mv (.v 10), none, false⟩, ⟨.mv (.t 0), none, false⟩, ⟨.mv (.c (.bool true)), none, false⟩, ⟨.mv (.c (.int (0))), none, false⟩], [(21, 2), (22, 1), (23, 0)], [2, 3, 10, 13, 14, 15], none⟩
abbrev ir_equiv_Iso : Fn := { np := 2, nv := 24, res := [(21, none), (22, none), (23, none)], body :=
(.seq (.reg r_equiv_Iso_0)
 (.seq (.seq (.reg r_equiv_Iso_1)
 (.seq (.reg r_equiv_Iso_2)
 (.cond 20 (.seq (.reg r_equiv_Iso_3)
 .ret) .skip)))
 (.seq (.reg r_equiv_Iso_4)
 (.seq (.seq (.reg r_equiv_Iso_5)
 (.cond 46 (.seq (.reg r_equiv_Iso_6)
 .ret) .skip))
 (.seq (.reg r_equiv_Iso_7)
 (.seq (.seq (.reg r_equiv_Iso_8)
 (.block 0 (.loop b_equiv_Iso_0)))
 (.seq (.seq (.reg r_equiv_Iso_13)
 (.block 2 (.loop b_equiv_Iso_2)))
 (.seq (.reg r_equiv_Iso_23)
 .ret)))))))) }
/- f28 diff_check : 0:a 1:b 2:a 3:b 4:_ 5:_ 6:m 7:e 8:_ -/
abbrev r_diff_check_0 : Reg := ⟨[⟨.bxi (.v 0), none, false⟩, ⟨.bxi (.v 1), none, false⟩, ⟨.mv (.c (.int (0))), none, false⟩], [(2, 2), (3, 1)], [0, 1, 8], none⟩
abbrev r_diff_check_1 : Reg := ⟨[⟨.ldi (.v 2) (some 4), none, false⟩, ⟨.ldi (.v 3) (some 4), none, false⟩, ⟨.bld [.int 0, .int 0, .snil, .snil, .int 0, .int 0, .snil, .snil] [(0, 4, (.t 1)), (4, 4, (.t 0))], none, false⟩, ⟨.mv (.c (.int (0))), none, false⟩], [(5, 1), (4, 0)], [], none⟩
abbrev r_diff_check_2 : Reg := ⟨[⟨.bin .lss (.v 4) (.c (.int (2))), none, false⟩], [], [], some (12, 0)⟩
abbrev r_diff_check_3 : Reg := ⟨[⟨.idx (.v 5) (.v 4) 2 (some 4), none, false⟩, ⟨.alc0 4, none, false⟩, ⟨.ini (.t 0) (.t 1) 4, none, false⟩], [(6, 0)], [], none⟩
abbrev r_diff_check_4 : Reg := ⟨[⟨.ldi (.v 6) (some 4), none, false⟩, ⟨.cal F_mealy_Valid [(.t 0)], none, false⟩, ⟨.mv (.t 0), none, false⟩], [(7, 0)], [6], none⟩
abbrev r_diff_check_5 : Reg := ⟨[⟨.mv (.v 7), none, false⟩, ⟨.bin .neq (.t 0) (.c (.int (0))), none, false⟩], [], [], some (17, 0)⟩
abbrev r_diff_check_6 : Reg := ⟨[⟨.mv (.v 7), none, false⟩, ⟨.mv (.t 0), none, false⟩], [(8, 0)], [2, 3, 4, 5, 7], none⟩
abbrev r_diff_check_7 : Reg := ⟨[⟨.bin .add (.v 4) (.c (.int (1))), none, false⟩, ⟨.mv (.t 0), none, false⟩], [(4, 0)], [7], none⟩
abbrev b_diff_check_0 : IC := (.seq (.reg r_diff_check_2)
 (.seq (.cond 12 .skip (.exit 0))
 (.seq (.block 1 (.seq (.reg r_diff_check_3)
 (.seq (.reg r_diff_check_4)
 (.seq (.reg r_diff_check_5)
 (.cond 17 (.seq (.reg r_diff_check_6)
 .ret) .skip)))))
 (.reg r_diff_check_7))))
abbrev r_diff_check_8 : Reg := ⟨[⟨.fad (.v 2) 0 none, none, false⟩, ⟨.ldi (.t 0) none, none, false⟩, ⟨.fad (.v 3) 0 none, none, false⟩, ⟨.ldi (.t 0) none, none, false⟩, ⟨.bin .neq (.t 2) (.t 0), none, false⟩], [], [2, 3, 4, 5], some (24, 0)⟩
abbrev r_diff_check_9 : Reg := ⟨[⟨.mv (.c (.int (15))), none, false⟩], [(8, 0)], [], none⟩
abbrev r_diff_check_10 : Reg := ⟨[⟨.mv (.c (.int (0))), none, false⟩], [(8, 0)], [], none⟩
abbrev ir_diff_check : Fn := { np := 2, nv := 9, res := [(8, none)], body :=
(.seq (.reg r_diff_check_0)
 (.seq (.seq (.reg r_diff_check_1)
 (.block 0 (.loop b_diff_check_0)))
 (.seq (.seq (.reg r_diff_check_8)
 (.cond 24 (.seq (.reg r_diff_check_9)
 .ret) .skip))
 (.seq (.reg r_diff_check_10)
 .ret)))) }
/- f29 word_Join : 0:parts 1:_ -/
abbrev r_word_Join_0 : Reg := ⟨[⟨.mv (.c (.snil)), none, false⟩], [], [1], none⟩
abbrev r_word_Join_1 : Reg := ⟨[⟨.mv (.v 0), none, false⟩, ⟨.cal F_slices_Concat_Sint_int [(.t 0)], none, false⟩, ⟨.mv (.t 0), none, false⟩], [(1, 0)], [0], none⟩
abbrev ir_word_Join : Fn := { np := 1, nv := 2, res := [(1, none)], body :=
(.seq (.reg r_word_Join_0)
 (.seq (.reg r_word_Join_1)
 .ret)) }
/- f30 diff_sorted : 0:l 1:byWord 2:_ 3:_ -/
abbrev r_diff_sorted_0 : Reg := ⟨[⟨.mv (.c (.snil)), none, false⟩, ⟨.mv (.c (.int (0))), none, false⟩], [], [2, 3], none⟩
abbrev r_diff_sorted_1 : Reg := ⟨[⟨.mv (.v 0), none, false⟩, ⟨.len (.t 0), none, false⟩, ⟨.bin .gtr (.t 0) (.c (.int (10000))), none, false⟩], [], [], some (7, 0)⟩
abbrev r_diff_sorted_2 : Reg := ⟨[⟨.mv (.c (.snil)), none, false⟩, ⟨.mv (.c (.int (11))), none, false⟩], [(2, 1), (3, 0)], [0], none⟩
abbrev r_diff_sorted_3 : Reg := ⟨[⟨.mv (.c (.func F_diff_sorted_1 [])), none, false⟩], [(1, 0)], [], none⟩
abbrev r_diff_sorted_4 : Reg := ⟨[⟨.mv (.v 0), none, false⟩, ⟨.mv (.v 1), none, false⟩, ⟨.cam F_slices_SortFunc_Sapi_Change_api_Change [(.t 1), (.t 0)], none, false⟩], [], [1], none⟩
abbrev r_diff_sorted_5 : Reg := ⟨[⟨.mv (.v 0), none, false⟩, ⟨.mv (.t 0), none, false⟩, ⟨.mv (.c (.int (0))), none, false⟩], [(2, 1), (3, 0)], [0], none⟩
abbrev ir_diff_sorted : Fn := { np := 1, nv := 4, res := [(2, none), (3, none)], body :=
(.seq (.reg r_diff_sorted_0)
 (.seq (.seq (.reg r_diff_sorted_1)
 (.cond 7 (.seq (.reg r_diff_sorted_2)
 .ret) .skip))
 (.seq (.reg r_diff_sorted_3)
 (.seq (.reg r_diff_sorted_4)
 (.seq (.reg r_diff_sorted_5)
 .ret))))) }
/- f31 ref09_Extended : 0:w 1:a 2:out 3:_ -/
abbrev r_ref09_Extended_0 : Reg := ⟨[⟨.mv (.c (.snil)), none, false⟩], [], [3], none⟩
abbrev r_ref09_Extended_1 : Reg := ⟨[⟨.nl none, none, false⟩], [(2, 0)], [], none⟩
abbrev r_ref09_Extended_2 : Reg := ⟨[⟨.mv (.v 2), none, false⟩, ⟨.mv (.v 0), none, false⟩, ⟨.appw (.t 1) (.t 0) none, none, false⟩, ⟨.mv (.t 0), none, false⟩], [(2, 0)], [0], none⟩
abbrev r_ref09_Extended_3 : Reg := ⟨[⟨.mv (.v 2), none, false⟩, ⟨.mv (.v 1), none, false⟩, ⟨.lita [(.t 0)] 1, none, false⟩, ⟨.appw (.t 2) (.t 0) none, none, false⟩, ⟨.mv (.t 0), none, false⟩], [(2, 0)], [1], none⟩
abbrev r_ref09_Extended_4 : Reg := ⟨[⟨.mv (.v 2), none, false⟩, ⟨.mv (.t 0), none, false⟩], [(3, 0)], [2], none⟩
abbrev ir_ref09_Extended : Fn := { np := 2, nv := 4, res := [(3, none)], body :=
(.seq (.reg r_ref09_Extended_0)
 (.seq (.reg r_ref09_Extended_1)
 (.seq (.reg r_ref09_Extended_2)
 (.seq (.reg r_ref09_Extended_3)
 (.seq (.reg r_ref09_Extended_4)
 .ret))))) }
/- f32 ref10_Same : 0:a 1:b 2:i 3:k 4:_ -/
abbrev r_ref10_Same_0 : Reg := ⟨[⟨.mv (.c (.bool false)), none, false⟩], [], [4], none⟩
abbrev r_ref10_Same_1 : Reg := ⟨[⟨.mv (.v 0), none, false⟩, ⟨.len (.t 0), none, false⟩, ⟨.mv (.v 1), none, false⟩, ⟨.len (.t 0), none, false⟩, ⟨.bin .neq (.t 2) (.t 0), none, false⟩], [], [], some (11, 0)⟩
abbrev r_ref10_Same_2 : Reg := ⟨[⟨.mv (.c (.bool false)), none, false⟩], [(4, 0)], [0, 1], none⟩
abbrev r_ref10_Same_3 : Reg := ⟨[⟨.mv (.c (.int (0))), none, false⟩], [(2, 0)], [], none⟩
abbrev r_ref10_Same_4 : Reg := ⟨[⟨.mv (.v 2), none, false⟩, ⟨.mv (.v 0), none, false⟩, ⟨.len (.t 0), none, false⟩, ⟨.bin .lss (.t 2) (.t 0), none, false⟩], [], [], some (15, 0)⟩
abbrev r_ref10_Same_6 : Reg := ⟨[⟨.mv (.v 0), none, false⟩, ⟨.mv (.v 2), none, false⟩, ⟨.iad (.t 1) (.t 0) 1, none, false⟩, ⟨.ld (.t 0) none, none, false⟩, ⟨.len (.t 0), none, false⟩, ⟨.mv (.v 1), none, false⟩, ⟨.mv (.v 2), none, false⟩, ⟨.iad (.t 1) (.t 0) 1, none, false⟩, ⟨.ld (.t 0) none, none, false⟩, ⟨.len (.t 0), none, false⟩, ⟨.bin .neq (.t 5) (.t 0), none, false⟩], [], [], some (28, 0)⟩
abbrev r_ref10_Same_7 : Reg := ⟨[⟨.mv (.c (.bool false)), none, false⟩], [(4, 0)], [0, 1, 2], none⟩
abbrev r_ref10_Same_8 : Reg := ⟨[⟨.mv (.c (.int (0))), none, false⟩], [(3, 0)], [], none⟩
abbrev r_ref10_Same_9 : Reg := ⟨[⟨.mv (.v 3), none, false⟩, ⟨.mv (.v 0), none, false⟩, ⟨.mv (.v 2), none, false⟩, ⟨.iad (.t 1) (.t 0) 1, none, false⟩, ⟨.ld (.t 0) none, none, false⟩, ⟨.len (.t 0), none, false⟩, ⟨.bin .lss (.t 5) (.t 0), none, false⟩], [], [], some (35, 0)⟩
abbrev r_ref10_Same_11 : Reg := ⟨[⟨.mv (.v 0), none, false⟩, ⟨.mv (.v 2), none, false⟩, ⟨.iad (.t 1) (.t 0) 1, none, false⟩, ⟨.ld (.t 0) none, none, false⟩, ⟨.mv (.v 3), none, false⟩, ⟨.iad (.t 1) (.t 0) 1, none, false⟩, ⟨.ld (.t 0) none, none, false⟩, ⟨.mv (.v 1), none, false⟩, ⟨.mv (.v 2), none, false⟩, ⟨.iad (.t 1) (.t 0) 1, none, false⟩, ⟨.ld (.t 0) none, none, false⟩, ⟨.mv (.v 3), none, false⟩, ⟨.iad (.t 1) (.t 0) 1, none, false⟩, ⟨.ld (.t 0) none, none, false⟩, ⟨.bin .neq (.t 7) (.t 0), none, false⟩], [], [], some (52, 0)⟩
abbrev r_ref10_Same_12 : Reg := ⟨[⟨.mv (.c (.bool false)), none, false⟩], [(4, 0)], [0, 1, 2, 3], none⟩
abbrev r_ref10_Same_10 : Reg := ⟨[⟨.mv (.v 3), none, false⟩, ⟨.bin .add (.t 0) (.c (.int (1))), none, false⟩, ⟨.mv (.t 0), none, false⟩], [(3, 0)], [], none⟩
abbrev b_ref10_Same_2 : IC := (.seq (.seq (.reg r_ref10_Same_9)
 (.cond 35 .skip (.exit 2)))
 (.seq (.block 3 (.seq (.reg r_ref10_Same_11)
 (.cond 52 (.seq (.reg r_ref10_Same_12)
 .ret) .skip)))
 (.reg r_ref10_Same_10)))
abbrev r_ref10_Same_5 : Reg := ⟨[⟨.mv (.v 2), none, false⟩, ⟨.bin .add (.t 0) (.c (.int (1))), none, false⟩, ⟨.mv (.t 0), none, false⟩], [(2, 0)], [3], none⟩
abbrev b_ref10_Same_0 : IC := (.seq (.seq (.reg r_ref10_Same_4)
 (.cond 15 .skip (.exit 0)))
 (.seq (.block 1 (.seq (.seq (.reg r_ref10_Same_6)
 (.cond 28 (.seq (.reg r_ref10_Same_7)
 .ret) .skip))
 (.seq (.reg r_ref10_Same_8)
 (.block 2 (.loop b_ref10_Same_2)))))
 (.reg r_ref10_Same_5)))
abbrev r_ref10_Same_13 : Reg := ⟨[⟨.mv (.c (.bool true)), none, false⟩], [(4, 0)], [0, 1, 2], none⟩
abbrev ir_ref10_Same : Fn := { np := 2, nv := 5, res := [(4, none)], body :=
(.seq (.reg r_ref10_Same_0)
 (.seq (.seq (.reg r_ref10_Same_1)
 (.cond 11 (.seq (.reg r_ref10_Same_2)
 .ret) .skip))
 (.seq (.seq (.reg r_ref10_Same_3)
 (.block 0 (.loop b_ref10_Same_0)))
 (.seq (.reg r_ref10_Same_13)
 .ret)))) }
/- f33 cover_Access : 0:m 1:m 2:e 3:_ 4:_ 5:_ 6:states 7:p 8:words 9:_ 10:_ 11:_ -/
abbrev r_cover_Access_0 : Reg := ⟨[⟨.bxi (.v 0), none, false⟩, ⟨.mv (.c (.snil)), none, false⟩, ⟨.mv (.c (.snil)), none, false⟩, ⟨.mv (.c (.int (0))), none, false⟩], [(1, 3)], [0, 9, 10, 11], none⟩
abbrev r_cover_Access_1 : Reg := ⟨[⟨.ldi (.v 1) (some 4), none, false⟩, ⟨.cal F_mealy_Valid [(.t 0)], none, false⟩, ⟨.mv (.t 0), none, false⟩], [(2, 0)], [], none⟩
abbrev r_cover_Access_2 : Reg := ⟨[⟨.mv (.v 2), none, false⟩, ⟨.bin .neq (.t 0) (.c (.int (0))), none, false⟩], [], [], some (13, 0)⟩
abbrev r_cover_Access_3 : Reg := ⟨[⟨.mv (.v 2), none, false⟩, ⟨.mv (.c (.snil)), none, false⟩, ⟨.mv (.c (.snil)), none, false⟩, ⟨.mv (.t 2), none, false⟩], [(9, 2), (10, 1), (11, 0)], [1, 2], none⟩
abbrev r_cover_Access_4 : Reg := ⟨[⟨.nl none, none, false⟩], [(6, 0)], [2], none⟩
abbrev r_cover_Access_5 : Reg := ⟨[⟨.nl none, none, false⟩], [(8, 0)], [], none⟩
abbrev r_cover_Access_6 : Reg := ⟨[⟨.ldi (.v 1) (some 4), none, false⟩, ⟨.fad (.v 1) 1 none, none, false⟩, ⟨.ldi (.t 0) none, none, false⟩, ⟨.cal F_cover_places [(.t 2), (.t 0)], none, false⟩, ⟨.len (.t 0), none, false⟩, ⟨.mv (.c (.int (0))), none, false⟩], [(5, 2), (4, 1), (3, 0)], [1], none⟩
abbrev r_cover_Access_7 : Reg := ⟨[⟨.bin .lss (.v 3) (.v 4), none, false⟩], [], [], some (21, 0)⟩
abbrev r_cover_Access_8 : Reg := ⟨[⟨.iad (.v 5) (.v 3) 2, none, false⟩, ⟨.ld (.t 0) (some 2), none, false⟩, ⟨.alc0 2, none, false⟩, ⟨.ini (.t 0) (.t 1) 2, none, false⟩], [(7, 0)], [], none⟩
abbrev r_cover_Access_9 : Reg := ⟨[⟨.mv (.v 6), none, false⟩, ⟨.fad (.v 7) 0 none, none, false⟩, ⟨.ldi (.t 0) none, none, false⟩, ⟨.lita [(.t 0)] 1, none, false⟩, ⟨.appw (.t 3) (.t 0) none, none, false⟩, ⟨.mv (.t 0), none, false⟩], [(6, 0)], [], none⟩
abbrev r_cover_Access_10 : Reg := ⟨[⟨.mv (.v 8), none, false⟩, ⟨.fad (.v 7) 1 none, none, false⟩, ⟨.ldi (.t 0) none, none, false⟩, ⟨.lita [(.t 0)] 1, none, false⟩, ⟨.appw (.t 3) (.t 0) none, none, false⟩, ⟨.mv (.t 0), none, false⟩], [(8, 0)], [7], none⟩
abbrev r_cover_Access_11 : Reg := ⟨[⟨.bin .add (.v 3) (.c (.int (1))), none, false⟩, ⟨.mv (.t 0), none, false⟩], [(3, 0)], [], none⟩
abbrev b_cover_Access_0 : IC := (.seq (.reg r_cover_Access_7)
 (.seq (.cond 21 .skip (.exit 0))
 (.seq (.block 1 (.seq (.reg r_cover_Access_8)
 (.seq (.reg r_cover_Access_9)
 (.reg r_cover_Access_10))))
 (.reg r_cover_Access_11))))
abbrev r_cover_Access_12 : Reg := ⟨[⟨.mv (.v 6), none, false⟩, ⟨.mv (.v 8), none, false⟩, ⟨.mv (.t 1), none, false⟩, ⟨.mv (.t 1), none, false⟩, ⟨.mv (.c (.int (0))), none, false⟩], [(9, 2), (10, 1), (11, 0)], [3, 4, 5, 6, 8], none⟩
abbrev ir_cover_Access : Fn := { np := 1, nv := 12, res := [(9, none), (10, none), (11, none)], body :=
(.seq (.reg r_cover_Access_0)
 (.seq (.seq (.reg r_cover_Access_1)
 (.seq (.reg r_cover_Access_2)
 (.cond 13 (.seq (.reg r_cover_Access_3)
 .ret) .skip)))
 (.seq (.reg r_cover_Access_4)
 (.seq (.reg r_cover_Access_5)
 (.seq (.seq (.reg r_cover_Access_6)
 (.block 0 (.loop b_cover_Access_0)))
 (.seq (.reg r_cover_Access_12)
 .ret)))))) }
/- f34 slices_Repeat_Sint_int : 0:x 1:count 2:hi 3:lo 4:newslice 5:n 6:_ -/
abbrev r_slices_Repeat_Sint_int_0 : Reg := ⟨[⟨.mv (.c (.snil)), none, false⟩], [], [6], none⟩
abbrev r_slices_Repeat_Sint_int_1 : Reg := ⟨[⟨.mv (.v 1), none, false⟩, ⟨.bin .lss (.t 0) (.c (.int (0))), none, false⟩], [], [], some (10, 0)⟩
abbrev r_slices_Repeat_Sint_int_3 : Reg := ⟨[⟨.mv (.v 0), none, false⟩, ⟨.len (.t 0), none, false⟩, ⟨.cvu (.t 0), none, false⟩, ⟨.mv (.v 1), none, false⟩, ⟨.cvu (.t 0), none, false⟩, ⟨.cal F_math_bits_Mul [(.t 2), (.t 0)], none, false⟩, ⟨.mv (.t 0), none, false⟩, ⟨.ext (.t 0) 0, none, false⟩, ⟨.ext (.t 1) 1, none, false⟩, ⟨.mv (.t 1), none, false⟩, ⟨.mv (.t 1), none, false⟩], [(2, 1), (3, 0)], [1], none⟩
abbrev r_slices_Repeat_Sint_int_4 : Reg := ⟨[⟨.mv (.v 2), none, false⟩, ⟨.gtu (.t 0) (.c (.ik 7 (0))), none, false⟩, ⟨.mv (.t 0), none, false⟩, ⟨.mv (.v 3), some (.t 0, false), false⟩, ⟨.gtu (.t 0) (.c (.ik 7 (9223372036854775807))), some (.t 1, false), false⟩, ⟨.pick (.t 2) (.c (.bool true)) (.t 0), none, false⟩], [], [2], some (26, 0)⟩
abbrev r_slices_Repeat_Sint_int_6 : Reg := ⟨[⟨.mv (.v 3), none, false⟩, ⟨.cvi (.t 0), none, false⟩, ⟨.mks (.t 0) (.t 0) [.int 0] none, none, false⟩, ⟨.mv (.t 0), none, false⟩], [(4, 0)], [3], none⟩
abbrev r_slices_Repeat_Sint_int_7 : Reg := ⟨[⟨.mv (.v 4), none, false⟩, ⟨.mv (.v 0), none, false⟩, ⟨.cpy (.t 1) (.t 0) none, none, false⟩, ⟨.mv (.t 0), none, false⟩], [(5, 0)], [0], none⟩
abbrev r_slices_Repeat_Sint_int_8 : Reg := ⟨[⟨.mv (.v 5), none, false⟩, ⟨.mv (.v 4), none, false⟩, ⟨.len (.t 0), none, false⟩, ⟨.bin .lss (.t 2) (.t 0), none, false⟩], [], [], some (37, 0)⟩
abbrev r_slices_Repeat_Sint_int_9 : Reg := ⟨[⟨.mv (.v 5), none, false⟩, ⟨.mv (.v 4), none, false⟩, ⟨.mv (.v 5), none, false⟩, ⟨.slc (.t 1) (some (.t 0)) none 1, none, false⟩, ⟨.mv (.v 4), none, false⟩, ⟨.mv (.v 5), none, false⟩, ⟨.slc (.t 1) none (some (.t 0)) 1, none, false⟩, ⟨.cpy (.t 3) (.t 0) none, none, false⟩, ⟨.bin .add (.t 7) (.t 0), none, false⟩, ⟨.mv (.t 0), none, false⟩], [(5, 0)], [], none⟩
abbrev b_slices_Repeat_Sint_int_0 : IC := (.seq (.seq (.reg r_slices_Repeat_Sint_int_8)
 (.cond 37 .skip (.exit 0)))
 (.block 1 (.reg r_slices_Repeat_Sint_int_9)))
abbrev r_slices_Repeat_Sint_int_10 : Reg := ⟨[⟨.mv (.v 4), none, false⟩, ⟨.mv (.t 0), none, false⟩], [(6, 0)], [4, 5], none⟩
abbrev ir_slices_Repeat_Sint_int : Fn := { np := 2, nv := 7, res := [(6, none)], body :=
(.seq (.reg r_slices_Repeat_Sint_int_0)
 (.seq (.seq (.reg r_slices_Repeat_Sint_int_1)
 (.cond 10 .bad .skip))
 (.seq (.reg r_slices_Repeat_Sint_int_3)
 (.seq (.seq (.reg r_slices_Repeat_Sint_int_4)
 (.cond 26 .bad .skip))
 (.seq (.reg r_slices_Repeat_Sint_int_6)
 (.seq (.reg r_slices_Repeat_Sint_int_7)
 (.seq (.block 0 (.loop b_slices_Repeat_Sint_int_0))
 (.seq (.reg r_slices_Repeat_Sint_int_10)
 .ret)))))))) }
/- f35 ref10_Access : 0:m 1:m 2:e 3:i 4:states 5:a 6:t 7:words 8:_ 9:_ 10:_ -/
abbrev r_ref10_Access_0 : Reg := ⟨[⟨.bxi (.v 0), none, false⟩, ⟨.mv (.c (.snil)), none, false⟩, ⟨.mv (.c (.snil)), none, false⟩, ⟨.mv (.c (.int (0))), none, false⟩], [(1, 3)], [0, 8, 9, 10], none⟩
abbrev r_ref10_Access_1 : Reg := ⟨[⟨.ldi (.v 1) (some 4), none, false⟩, ⟨.cal F_ref06_Valid [(.t 0)], none, false⟩, ⟨.mv (.t 0), none, false⟩], [(2, 0)], [], none⟩
abbrev r_ref10_Access_2 : Reg := ⟨[⟨.mv (.v 2), none, false⟩, ⟨.bin .neq (.t 0) (.c (.int (0))), none, false⟩], [], [], some (14, 0)⟩
abbrev r_ref10_Access_3 : Reg := ⟨[⟨.mv (.v 2), none, false⟩, ⟨.mv (.c (.snil)), none, false⟩, ⟨.mv (.c (.snil)), none, false⟩, ⟨.mv (.t 2), none, false⟩], [(8, 2), (9, 1), (10, 0)], [1, 2], none⟩
abbrev r_ref10_Access_4 : Reg := ⟨[⟨.fad (.v 1) 1 none, none, false⟩, ⟨.ldi (.t 0) none, none, false⟩, ⟨.litm [(.t 0)] none, none, false⟩, ⟨.mv (.t 0), none, false⟩], [(4, 0)], [2], none⟩
abbrev r_ref10_Access_5 : Reg := ⟨[⟨.liti [] 1, none, false⟩, ⟨.litm [(.t 0)] none, none, false⟩, ⟨.mv (.t 0), none, false⟩], [(7, 0)], [], none⟩
abbrev r_ref10_Access_6 : Reg := ⟨[⟨.mv (.c (.int (0))), none, false⟩], [(3, 0)], [], none⟩
abbrev r_ref10_Access_7 : Reg := ⟨[⟨.mv (.v 3), none, false⟩, ⟨.mv (.v 4), none, false⟩, ⟨.len (.t 0), none, false⟩, ⟨.bin .lss (.t 2) (.t 0), none, false⟩], [], [], some (24, 0)⟩
abbrev r_ref10_Access_9 : Reg := ⟨[⟨.mv (.c (.int (0))), none, false⟩], [(5, 0)], [], none⟩
abbrev r_ref10_Access_10 : Reg := ⟨[⟨.mv (.v 5), none, false⟩, ⟨.fad (.v 1) 0 none, none, false⟩, ⟨.ldi (.t 0) none, none, false⟩, ⟨.bin .lss (.t 2) (.t 0), none, false⟩], [], [], some (30, 0)⟩
abbrev r_ref10_Access_12 : Reg := ⟨[⟨.fad (.v 1) 2 none, none, false⟩, ⟨.ldi (.t 0) none, none, false⟩, ⟨.mv (.v 4), none, false⟩, ⟨.mv (.v 3), none, false⟩, ⟨.iad (.t 1) (.t 0) 1, none, false⟩, ⟨.ld (.t 0) none, none, false⟩, ⟨.iad (.t 4) (.t 0) 1, none, false⟩, ⟨.ldi (.t 0) none, none, false⟩, ⟨.mv (.v 5), none, false⟩, ⟨.iad (.t 1) (.t 0) 1, none, false⟩, ⟨.ldi (.t 0) none, none, false⟩, ⟨.mv (.t 0), none, false⟩], [(6, 0)], [], none⟩
abbrev r_ref10_Access_13 : Reg := ⟨[⟨.mv (.v 4), none, false⟩, ⟨.mv (.v 6), none, false⟩, ⟨.cab F_ref10_has [(.t 1), (.t 0)], none, false⟩, ⟨.not (.t 0), none, false⟩], [], [], some (47, 0)⟩
abbrev r_ref10_Access_14 : Reg := ⟨[⟨.mv (.v 4), none, false⟩, ⟨.mv (.v 6), none, false⟩, ⟨.lita [(.t 0)] 1, none, false⟩, ⟨.appw (.t 2) (.t 0) none, none, false⟩, ⟨.mv (.t 0), none, false⟩], [(4, 0)], [6], none⟩
abbrev r_ref10_Access_15 : Reg := ⟨[⟨.mv (.v 7), none, false⟩, ⟨.mv (.v 7), none, false⟩, ⟨.mv (.v 3), none, false⟩, ⟨.iad (.t 1) (.t 0) 1, none, false⟩, ⟨.ld (.t 0) none, none, false⟩, ⟨.mv (.v 5), none, false⟩, ⟨.cal F_ref09_Extended [(.t 1), (.t 0)], none, false⟩, ⟨.lita [(.t 0)] 1, none, false⟩, ⟨.appw (.t 7) (.t 0) none, none, false⟩, ⟨.mv (.t 0), none, false⟩], [(7, 0)], [], none⟩
abbrev r_ref10_Access_11 : Reg := ⟨[⟨.mv (.v 5), none, false⟩, ⟨.bin .add (.t 0) (.c (.int (1))), none, false⟩, ⟨.mv (.t 0), none, false⟩], [(5, 0)], [6], none⟩
abbrev b_ref10_Access_2 : IC := (.seq (.seq (.reg r_ref10_Access_10)
 (.cond 30 .skip (.exit 2)))
 (.seq (.block 3 (.seq (.reg r_ref10_Access_12)
 (.seq (.reg r_ref10_Access_13)
 (.cond 47 (.seq (.reg r_ref10_Access_14)
 (.reg r_ref10_Access_15)) .skip))))
 (.reg r_ref10_Access_11)))
abbrev r_ref10_Access_8 : Reg := ⟨[⟨.mv (.v 3), none, false⟩, ⟨.bin .add (.t 0) (.c (.int (1))), none, false⟩, ⟨.mv (.t 0), none, false⟩], [(3, 0)], [5], none⟩
abbrev b_ref10_Access_0 : IC := (.seq (.seq (.reg r_ref10_Access_7)
 (.cond 24 .skip (.exit 0)))
 (.seq (.block 1 (.seq (.reg r_ref10_Access_9)
 (.block 2 (.loop b_ref10_Access_2))))
 (.reg r_ref10_Access_8)))
abbrev r_ref10_Access_16 : Reg := ⟨[⟨.mv (.v 4), none, false⟩, ⟨.mv (.v 7), none, false⟩, ⟨.mv (.t 1), none, false⟩, ⟨.mv (.t 1), none, false⟩, ⟨.mv (.c (.int (0))), none, false⟩], [(8, 2), (9, 1), (10, 0)], [1, 3, 4, 7], none⟩
abbrev ir_ref10_Access : Fn := { np := 1, nv := 11, res := [(8, none), (9, none), (10, none)], body :=
(.seq (.reg r_ref10_Access_0)
 (.seq (.seq (.reg r_ref10_Access_1)
 (.seq (.reg r_ref10_Access_2)
 (.cond 14 (.seq (.reg r_ref10_Access_3)
 .ret) .skip)))
 (.seq (.reg r_ref10_Access_4)
 (.seq (.reg r_ref10_Access_5)
 (.seq (.seq (.reg r_ref10_Access_6)
 (.block 0 (.loop b_ref10_Access_0)))
 (.seq (.reg r_ref10_Access_16)
 .ret)))))) }
/- f36 ref49_after : 0:m 1:w 2:m 3:i 4:s 5:_ -/
abbrev r_ref49_after_0 : Reg := ⟨[⟨.bxi (.v 0), none, false⟩, ⟨.mv (.c (.int (0))), none, false⟩], [(2, 1)], [0, 5], none⟩
abbrev r_ref49_after_1 : Reg := ⟨[⟨.fad (.v 2) 1 none, none, false⟩, ⟨.ldi (.t 0) none, none, false⟩, ⟨.mv (.t 0), none, false⟩], [(4, 0)], [], none⟩
abbrev r_ref49_after_2 : Reg := ⟨[⟨.mv (.c (.int (0))), none, false⟩], [(3, 0)], [], none⟩
abbrev r_ref49_after_3 : Reg := ⟨[⟨.mv (.v 3), none, false⟩, ⟨.mv (.v 1), none, false⟩, ⟨.len (.t 0), none, false⟩, ⟨.bin .lss (.t 2) (.t 0), none, false⟩], [], [], some (12, 0)⟩
abbrev r_ref49_after_5 : Reg := ⟨[⟨.fad (.v 2) 2 none, none, false⟩, ⟨.ldi (.t 0) none, none, false⟩, ⟨.mv (.v 4), none, false⟩, ⟨.iad (.t 1) (.t 0) 1, none, false⟩, ⟨.ldi (.t 0) none, none, false⟩, ⟨.mv (.v 1), none, false⟩, ⟨.mv (.v 3), none, false⟩, ⟨.iad (.t 1) (.t 0) 1, none, false⟩, ⟨.ld (.t 0) none, none, false⟩, ⟨.iad (.t 4) (.t 0) 1, none, false⟩, ⟨.ldi (.t 0) none, none, false⟩, ⟨.mv (.t 0), none, false⟩], [(4, 0)], [], none⟩
abbrev r_ref49_after_4 : Reg := ⟨[⟨.mv (.v 3), none, false⟩, ⟨.bin .add (.t 0) (.c (.int (1))), none, false⟩, ⟨.mv (.t 0), none, false⟩], [(3, 0)], [], none⟩
abbrev b_ref49_after_0 : IC := (.seq (.seq (.reg r_ref49_after_3)
 (.cond 12 .skip (.exit 0)))
 (.seq (.block 1 (.reg r_ref49_after_5))
 (.reg r_ref49_after_4)))
abbrev r_ref49_after_6 : Reg := ⟨[⟨.mv (.v 4), none, false⟩, ⟨.mv (.t 0), none, false⟩], [(5, 0)], [1, 2, 3, 4], none⟩
abbrev ir_ref49_after : Fn := { np := 2, nv := 6, res := [(5, none)], body :=
(.seq (.reg r_ref49_after_0)
 (.seq (.reg r_ref49_after_1)
 (.seq (.seq (.reg r_ref49_after_2)
 (.block 0 (.loop b_ref49_after_0)))
 (.seq (.reg r_ref49_after_6)
 .ret)))) }
/- f37 diff_Moved_1 : 0:t 1:_ 2:_ -/
abbrev r_diff_Moved_1_0 : Reg := ⟨[⟨.mv (.c (.bool false)), none, false⟩], [], [2], none⟩
abbrev r_diff_Moved_1_1 : Reg := ⟨[⟨.mv (.v 0), none, false⟩, ⟨.bin .lss (.t 0) (.c (.int (-1))), none, false⟩, ⟨.mv (.t 0), none, false⟩, ⟨.mv (.v 0), some (.t 0, false), false⟩, ⟨.fad (.v 1) 2 none, some (.t 1, false), false⟩, ⟨.ld (.t 0) none, some (.t 2, false), false⟩, ⟨.len (.t 0), some (.t 3, false), false⟩, ⟨.bin .geq (.t 3) (.t 0), some (.t 4, false), false⟩, ⟨.pick (.t 5) (.c (.bool true)) (.t 0), none, false⟩, ⟨.mv (.t 0), none, false⟩], [(2, 0)], [0, 1], none⟩
abbrev ir_diff_Moved_1 : Fn := { np := 2, nv := 3, res := [(2, none)], body :=
(.seq (.reg r_diff_Moved_1_0)
 (.seq (.reg r_diff_Moved_1_1)
 .ret)) }
/- f38 slices_ContainsFunc_Sint_int : 0:s 1:f 2:_ -/
abbrev r_slices_ContainsFunc_Sint_int_0 : Reg := ⟨[⟨.mv (.c (.bool false)), none, false⟩], [], [2], none⟩
abbrev r_slices_ContainsFunc_Sint_int_1 : Reg := ⟨[⟨.mv (.v 0), none, false⟩, ⟨.mv (.v 1), none, false⟩, ⟨.cal F_slices_IndexFunc_Sint_int [(.t 1), (.t 0)], none, false⟩, ⟨.bin .geq (.t 0) (.c (.int (0))), none, false⟩, ⟨.mv (.t 0), none, false⟩], [(2, 0)], [0, 1], none⟩
abbrev ir_slices_ContainsFunc_Sint_int : Fn := { np := 2, nv := 3, res := [(2, none)], body :=
(.seq (.reg r_slices_ContainsFunc_Sint_int_0)
 (.seq (.reg r_slices_ContainsFunc_Sint_int_1)
 .ret)) }
/- f39 ref06_Valid : 0:m 1:m 2:s 3:e 4:_ -/
abbrev r_ref06_Valid_0 : Reg := ⟨[⟨.bxi (.v 0), none, false⟩, ⟨.mv (.c (.int (0))), none, false⟩], [(1, 1)], [0, 4], none⟩
abbrev r_ref06_Valid_1 : Reg := ⟨[⟨.fad (.v 1) 0 none, none, false⟩, ⟨.ldi (.t 0) none, none, false⟩, ⟨.bin .lss (.t 0) (.c (.int (1))), none, false⟩, ⟨.mv (.t 0), none, false⟩, ⟨.fad (.v 1) 0 none, some (.t 0, false), false⟩, ⟨.ldi (.t 0) none, some (.t 1, false), false⟩, ⟨.bin .gtr (.t 0) (.c (.int (64))), some (.t 2, false), false⟩, ⟨.pick (.t 3) (.c (.bool true)) (.t 0), none, false⟩], [], [], some (12, 0)⟩
abbrev r_ref06_Valid_2 : Reg := ⟨[⟨.mv (.c (.int (2))), none, false⟩], [(4, 0)], [1], none⟩
abbrev r_ref06_Valid_3 : Reg := ⟨[⟨.fad (.v 1) 2 none, none, false⟩, ⟨.ldi (.t 0) none, none, false⟩, ⟨.len (.t 0), none, false⟩, ⟨.bin .eql (.t 0) (.c (.int (0))), none, false⟩], [], [], some (16, 0)⟩
abbrev r_ref06_Valid_4 : Reg := ⟨[⟨.mv (.c (.int (19))), none, false⟩], [(4, 0)], [1], none⟩
abbrev r_ref06_Valid_5 : Reg := ⟨[⟨.fad (.v 1) 2 none, none, false⟩, ⟨.ldi (.t 0) none, none, false⟩, ⟨.len (.t 0), none, false⟩, ⟨.bin .gtr (.t 0) (.c (.int (128))), none, false⟩], [], [], some (20, 0)⟩
abbrev r_ref06_Valid_6 : Reg := ⟨[⟨.mv (.c (.int (11))), none, false⟩], [(4, 0)], [1], none⟩
abbrev r_ref06_Valid_7 : Reg := ⟨[⟨.fad (.v 1) 1 none, none, false⟩, ⟨.ldi (.t 0) none, none, false⟩, ⟨.bin .lss (.t 0) (.c (.int (0))), none, false⟩, ⟨.mv (.t 0), none, false⟩, ⟨.fad (.v 1) 1 none, some (.t 0, false), false⟩, ⟨.ldi (.t 0) none, some (.t 1, false), false⟩, ⟨.fad (.v 1) 2 none, some (.t 2, false), false⟩, ⟨.ldi (.t 0) none, some (.t 3, false), false⟩, ⟨.len (.t 0), some (.t 4, false), false⟩, ⟨.bin .geq (.t 3) (.t 0), some (.t 5, false), false⟩, ⟨.pick (.t 6) (.c (.bool true)) (.t 0), none, false⟩], [], [], some (31, 0)⟩
abbrev r_ref06_Valid_8 : Reg := ⟨[⟨.mv (.c (.int (2))), none, false⟩], [(4, 0)], [1], none⟩
abbrev r_ref06_Valid_9 : Reg := ⟨[⟨.fad (.v 1) 3 none, none, false⟩, ⟨.ldi (.t 0) none, none, false⟩, ⟨.len (.t 0), none, false⟩, ⟨.fad (.v 1) 2 none, none, false⟩, ⟨.ldi (.t 0) none, none, false⟩, ⟨.len (.t 0), none, false⟩, ⟨.bin .neq (.t 3) (.t 0), none, false⟩], [], [], some (38, 0)⟩
abbrev r_ref06_Valid_10 : Reg := ⟨[⟨.mv (.c (.int (1))), none, false⟩], [(4, 0)], [1], none⟩
abbrev r_ref06_Valid_11 : Reg := ⟨[⟨.mv (.c (.int (0))), none, false⟩], [(2, 0)], [], none⟩
abbrev r_ref06_Valid_12 : Reg := ⟨[⟨.mv (.v 2), none, false⟩, ⟨.fad (.v 1) 2 none, none, false⟩, ⟨.ldi (.t 0) none, none, false⟩, ⟨.len (.t 0), none, false⟩, ⟨.bin .lss (.t 3) (.t 0), none, false⟩], [], [], some (43, 0)⟩
abbrev r_ref06_Valid_14 : Reg := ⟨[⟨.ldi (.v 1) (some 4), none, false⟩, ⟨.mv (.v 2), none, false⟩, ⟨.cal F_ref06_row [(.t 1), (.t 0)], none, false⟩, ⟨.mv (.t 0), none, false⟩], [(3, 0)], [], none⟩
abbrev r_ref06_Valid_15 : Reg := ⟨[⟨.mv (.v 3), none, false⟩, ⟨.bin .neq (.t 0) (.c (.int (0))), none, false⟩], [], [], some (50, 0)⟩
abbrev r_ref06_Valid_16 : Reg := ⟨[⟨.mv (.v 3), none, false⟩, ⟨.mv (.t 0), none, false⟩], [(4, 0)], [1, 2, 3], none⟩
abbrev r_ref06_Valid_13 : Reg := ⟨[⟨.mv (.v 2), none, false⟩, ⟨.bin .add (.t 0) (.c (.int (1))), none, false⟩, ⟨.mv (.t 0), none, false⟩], [(2, 0)], [3], none⟩
abbrev b_ref06_Valid_0 : IC := (.seq (.seq (.reg r_ref06_Valid_12)
 (.cond 43 .skip (.exit 0)))
 (.seq (.block 1 (.seq (.reg r_ref06_Valid_14)
 (.seq (.reg r_ref06_Valid_15)
 (.cond 50 (.seq (.reg r_ref06_Valid_16)
 .ret) .skip))))
 (.reg r_ref06_Valid_13)))
abbrev r_ref06_Valid_17 : Reg := ⟨[⟨.mv (.c (.int (0))), none, false⟩], [(4, 0)], [1, 2], none⟩
abbrev ir_ref06_Valid : Fn := { np := 1, nv := 5, res := [(4, none)], body :=
(.seq (.reg r_ref06_Valid_0)
 (.seq (.seq (.reg r_ref06_Valid_1)
 (.cond 12 (.seq (.reg r_ref06_Valid_2)
 .ret) .skip))
 (.seq (.seq (.reg r_ref06_Valid_3)
 (.cond 16 (.seq (.reg r_ref06_Valid_4)
 .ret) .skip))
 (.seq (.seq (.reg r_ref06_Valid_5)
 (.cond 20 (.seq (.reg r_ref06_Valid_6)
 .ret) .skip))
 (.seq (.seq (.reg r_ref06_Valid_7)
 (.cond 31 (.seq (.reg r_ref06_Valid_8)
 .ret) .skip))
 (.seq (.seq (.reg r_ref06_Valid_9)
 (.cond 38 (.seq (.reg r_ref06_Valid_10)
 .ret) .skip))
 (.seq (.seq (.reg r_ref06_Valid_11)
 (.block 0 (.loop b_ref06_Valid_0)))
 (.seq (.reg r_ref06_Valid_17)
 .ret)))))))) }
/- f40 mealy_state : 0:m 1:s 2:m 3:e 4:_ -/
abbrev r_mealy_state_0 : Reg := ⟨[⟨.bxi (.v 0), none, false⟩, ⟨.mv (.c (.int (0))), none, false⟩], [(2, 1)], [0, 4], none⟩
abbrev r_mealy_state_1 : Reg := ⟨[⟨.ldi (.v 2) (some 4), none, false⟩, ⟨.cal F_mealy_Valid [(.t 0)], none, false⟩, ⟨.mv (.t 0), none, false⟩], [(3, 0)], [], none⟩
abbrev r_mealy_state_2 : Reg := ⟨[⟨.mv (.v 3), none, false⟩, ⟨.bin .neq (.t 0) (.c (.int (0))), none, false⟩], [], [], some (9, 0)⟩
abbrev r_mealy_state_3 : Reg := ⟨[⟨.mv (.v 3), none, false⟩, ⟨.mv (.t 0), none, false⟩], [(4, 0)], [1, 2, 3], none⟩
abbrev r_mealy_state_4 : Reg := ⟨[⟨.mv (.v 1), none, false⟩, ⟨.bin .lss (.t 0) (.c (.int (0))), none, false⟩, ⟨.mv (.t 0), none, false⟩, ⟨.mv (.v 1), some (.t 0, false), false⟩, ⟨.fad (.v 2) 2 none, some (.t 1, false), false⟩, ⟨.ldi (.t 0) none, some (.t 2, false), false⟩, ⟨.len (.t 0), some (.t 3, false), false⟩, ⟨.bin .geq (.t 3) (.t 0), some (.t 4, false), false⟩, ⟨.pick (.t 5) (.c (.bool true)) (.t 0), none, false⟩], [], [1, 2, 3], some (19, 0)⟩
abbrev r_mealy_state_5 : Reg := ⟨[⟨.mv (.c (.int (2))), none, false⟩], [(4, 0)], [], none⟩
abbrev r_mealy_state_6 : Reg := ⟨[⟨.mv (.c (.int (0))), none, false⟩], [(4, 0)], [], none⟩
abbrev ir_mealy_state : Fn := { np := 2, nv := 5, res := [(4, none)], body :=
(.seq (.reg r_mealy_state_0)
 (.seq (.seq (.reg r_mealy_state_1)
 (.seq (.reg r_mealy_state_2)
 (.cond 9 (.seq (.reg r_mealy_state_3)
 .ret) .skip)))
 (.seq (.seq (.reg r_mealy_state_4)
 (.cond 19 (.seq (.reg r_mealy_state_5)
 .ret) .skip))
 (.seq (.reg r_mealy_state_6)
 .ret)))) }
/- f41 word_Check : 0:w 1:inputs 2:inputs 3:_ -/
abbrev r_word_Check_0 : Reg := ⟨[⟨.bxi (.v 1), none, false⟩, ⟨.mv (.c (.int (0))), none, false⟩], [(2, 1)], [1, 3], none⟩
abbrev r_word_Check_1 : Reg := ⟨[⟨.ldi (.v 2) none, none, false⟩, ⟨.cal F_word_permitted [(.t 0)], none, false⟩, ⟨.not (.t 0), none, false⟩, ⟨.mv (.t 0), none, false⟩], [], [], some (5, 0)⟩
abbrev r_word_Check_2 : Reg := ⟨[⟨.mv (.c (.int (2))), none, false⟩], [(3, 0)], [0, 2], none⟩
abbrev r_word_Check_3 : Reg := ⟨[⟨.mv (.v 0), none, false⟩, ⟨.len (.t 0), none, false⟩, ⟨.bin .gtr (.t 0) (.c (.int (1024))), none, false⟩, ⟨.mv (.t 0), none, false⟩], [], [], some (9, 0)⟩
abbrev r_word_Check_4 : Reg := ⟨[⟨.mv (.c (.int (3))), none, false⟩], [(3, 0)], [0, 2], none⟩
abbrev r_word_Check_5 : Reg := ⟨[⟨.mv (.v 0), none, false⟩, ⟨.mkf F_word_Check_1 [(.v 2)], none, false⟩, ⟨.cal F_slices_ContainsFunc_Sint_int [(.t 1), (.t 0)], none, false⟩, ⟨.mv (.t 0), none, false⟩], [], [0, 2], some (13, 0)⟩
abbrev r_word_Check_6 : Reg := ⟨[⟨.mv (.c (.int (1))), none, false⟩], [(3, 0)], [], none⟩
abbrev r_word_Check_7 : Reg := ⟨[⟨.mv (.c (.int (0))), none, false⟩], [(3, 0)], [], none⟩
abbrev ir_word_Check : Fn := { np := 2, nv := 4, res := [(3, none)], body :=
(.seq (.reg r_word_Check_0)
 (.seq (.block 0 (.seq (.reg r_word_Check_1)
 (.cond 5 (.seq (.reg r_word_Check_2)
 .ret) (.seq (.reg r_word_Check_3)
 (.cond 9 (.seq (.reg r_word_Check_4)
 .ret) (.seq (.reg r_word_Check_5)
 (.cond 13 (.seq (.reg r_word_Check_6)
 .ret) .skip)))))))
 (.seq (.reg r_word_Check_7)
 .ret))) }
/- f42 mealy_runner_run : 0:r 1:w 2:_ 3:_ 4:_ 5:a 6:next 7:out 8:o 9:_ -/
abbrev r_mealy_runner_run_0 : Reg := ⟨[⟨.mv (.c (.snil)), none, false⟩], [], [9], none⟩
abbrev r_mealy_runner_run_1 : Reg := ⟨[⟨.nl none, none, false⟩], [(7, 0)], [], none⟩
abbrev r_mealy_runner_run_2 : Reg := ⟨[⟨.mv (.v 1), none, false⟩, ⟨.len (.t 0), none, false⟩, ⟨.mv (.c (.int (0))), none, false⟩], [(4, 2), (3, 1), (2, 0)], [1], none⟩
abbrev r_mealy_runner_run_3 : Reg := ⟨[⟨.bin .lss (.v 2) (.v 3), none, false⟩], [], [], some (13, 0)⟩
abbrev r_mealy_runner_run_4 : Reg := ⟨[⟨.iad (.v 4) (.v 2) 1, none, false⟩, ⟨.ld (.t 0) none, none, false⟩, ⟨.mv (.t 0), none, false⟩], [(5, 0)], [], none⟩
abbrev r_mealy_runner_run_5 : Reg := ⟨[⟨.mv (.v 0), none, false⟩, ⟨.nck (.t 0), none, false⟩, ⟨.fad (.t 0) 0 (some 4), none, false⟩, ⟨.ld (.t 0) (some 4), none, false⟩, ⟨.mv (.v 0), none, false⟩, ⟨.nck (.t 0), none, false⟩, ⟨.fad (.t 0) 4 none, none, false⟩, ⟨.ld (.t 0) none, none, false⟩, ⟨.mv (.v 5), none, false⟩, ⟨.cal F_mealy_machine_move [(.t 5), (.t 1), (.t 0)], none, false⟩, ⟨.mv (.t 0), none, false⟩, ⟨.ext (.t 0) 0, none, false⟩, ⟨.ext (.t 1) 1, none, false⟩, ⟨.mv (.t 1), none, false⟩, ⟨.mv (.t 1), none, false⟩], [(6, 1), (8, 0)], [5], none⟩
abbrev r_mealy_runner_run_6 : Reg := ⟨[⟨.mv (.v 0), none, false⟩, ⟨.mv (.v 6), none, false⟩, ⟨.nck (.t 1), none, false⟩, ⟨.fad (.t 0) 4 none, none, false⟩, ⟨.st (.t 0) (.t 2) 1, none, false⟩], [], [6], none⟩
abbrev r_mealy_runner_run_7 : Reg := ⟨[⟨.mv (.v 7), none, false⟩, ⟨.mv (.v 8), none, false⟩, ⟨.lita [(.t 0)] 1, none, false⟩, ⟨.appw (.t 2) (.t 0) none, none, false⟩, ⟨.mv (.t 0), none, false⟩], [(7, 0)], [8], none⟩
abbrev r_mealy_runner_run_8 : Reg := ⟨[⟨.bin .add (.v 2) (.c (.int (1))), none, false⟩, ⟨.mv (.t 0), none, false⟩], [(2, 0)], [], none⟩
abbrev b_mealy_runner_run_0 : IC := (.seq (.reg r_mealy_runner_run_3)
 (.seq (.cond 13 .skip (.exit 0))
 (.seq (.block 1 (.seq (.reg r_mealy_runner_run_4)
 (.seq (.reg r_mealy_runner_run_5)
 (.seq (.reg r_mealy_runner_run_6)
 (.reg r_mealy_runner_run_7)))))
 (.reg r_mealy_runner_run_8))))
abbrev r_mealy_runner_run_9 : Reg := ⟨[⟨.mv (.v 7), none, false⟩, ⟨.mv (.t 0), none, false⟩], [(9, 0)], [0, 2, 3, 4, 7], none⟩
abbrev ir_mealy_runner_run : Fn := { np := 2, nv := 10, res := [(9, none)], body :=
(.seq (.reg r_mealy_runner_run_0)
 (.seq (.reg r_mealy_runner_run_1)
 (.seq (.seq (.reg r_mealy_runner_run_2)
 (.block 0 (.loop b_mealy_runner_run_0)))
 (.seq (.reg r_mealy_runner_run_9)
 .ret)))) }
/- f43 cmp_Or_int : 0:vals 1:_ 2:_ 3:_ 4:val 5:zero 6:_ -/
abbrev r_cmp_Or_int_0 : Reg := ⟨[⟨.mv (.c (.int (0))), none, false⟩], [], [6], none⟩
abbrev r_cmp_Or_int_1 : Reg := ⟨[⟨.mv (.c (.int (0))), none, false⟩], [(5, 0)], [], none⟩
abbrev r_cmp_Or_int_2 : Reg := ⟨[⟨.mv (.v 0), none, false⟩, ⟨.len (.t 0), none, false⟩, ⟨.mv (.c (.int (0))), none, false⟩], [(3, 2), (2, 1), (1, 0)], [0], none⟩
abbrev r_cmp_Or_int_3 : Reg := ⟨[⟨.bin .lss (.v 1) (.v 2), none, false⟩], [], [], some (9, 0)⟩
abbrev r_cmp_Or_int_4 : Reg := ⟨[⟨.iad (.v 3) (.v 1) 1, none, false⟩, ⟨.ld (.t 0) none, none, false⟩, ⟨.mv (.t 0), none, false⟩], [(4, 0)], [], none⟩
abbrev r_cmp_Or_int_5 : Reg := ⟨[⟨.mv (.v 4), none, false⟩, ⟨.mv (.v 5), none, false⟩, ⟨.bin .neq (.t 1) (.t 0), none, false⟩], [], [], some (14, 0)⟩
abbrev r_cmp_Or_int_6 : Reg := ⟨[⟨.mv (.v 4), none, false⟩, ⟨.mv (.t 0), none, false⟩], [(6, 0)], [1, 2, 3, 4, 5], none⟩
abbrev r_cmp_Or_int_7 : Reg := ⟨[⟨.bin .add (.v 1) (.c (.int (1))), none, false⟩, ⟨.mv (.t 0), none, false⟩], [(1, 0)], [4], none⟩
abbrev b_cmp_Or_int_0 : IC := (.seq (.reg r_cmp_Or_int_3)
 (.seq (.cond 9 .skip (.exit 0))
 (.seq (.block 1 (.seq (.reg r_cmp_Or_int_4)
 (.seq (.reg r_cmp_Or_int_5)
 (.cond 14 (.seq (.reg r_cmp_Or_int_6)
 .ret) .skip))))
 (.reg r_cmp_Or_int_7))))
abbrev r_cmp_Or_int_8 : Reg := ⟨[⟨.mv (.v 5), none, false⟩, ⟨.mv (.t 0), none, false⟩], [(6, 0)], [1, 2, 3, 5], none⟩
abbrev ir_cmp_Or_int : Fn := { np := 1, nv := 7, res := [(6, none)], body :=
(.seq (.reg r_cmp_Or_int_0)
 (.seq (.reg r_cmp_Or_int_1)
 (.seq (.seq (.reg r_cmp_Or_int_2)
 (.block 0 (.loop b_cmp_Or_int_0)))
 (.seq (.reg r_cmp_Or_int_8)
 .ret)))) }
/- f44 cmp_Compare_int : 0:x 1:y 2:xNaN 3:yNaN 4:_ -/
abbrev r_cmp_Compare_int_0 : Reg := ⟨[⟨.mv (.c (.int (0))), none, false⟩], [], [4], none⟩
abbrev r_cmp_Compare_int_1 : Reg := ⟨[⟨.mv (.v 0), none, false⟩, ⟨.cal F_cmp_isNaN_int [(.t 0)], none, false⟩, ⟨.mv (.t 0), none, false⟩], [(2, 0)], [], none⟩
abbrev r_cmp_Compare_int_2 : Reg := ⟨[⟨.mv (.v 1), none, false⟩, ⟨.cal F_cmp_isNaN_int [(.t 0)], none, false⟩, ⟨.mv (.t 0), none, false⟩], [(3, 0)], [], none⟩
abbrev r_cmp_Compare_int_3 : Reg := ⟨[⟨.mv (.v 2), none, false⟩], [], [2], some (11, 0)⟩
abbrev r_cmp_Compare_int_4 : Reg := ⟨[⟨.mv (.v 3), none, false⟩], [], [0, 1, 3], some (12, 0)⟩
abbrev r_cmp_Compare_int_5 : Reg := ⟨[⟨.mv (.c (.int (0))), none, false⟩], [(4, 0)], [], none⟩
abbrev r_cmp_Compare_int_6 : Reg := ⟨[⟨.mv (.c (.int (-1))), none, false⟩], [(4, 0)], [], none⟩
abbrev r_cmp_Compare_int_7 : Reg := ⟨[⟨.mv (.v 3), none, false⟩], [], [3], some (13, 0)⟩
abbrev r_cmp_Compare_int_8 : Reg := ⟨[⟨.mv (.c (.int (1))), none, false⟩], [(4, 0)], [0, 1], none⟩
abbrev r_cmp_Compare_int_9 : Reg := ⟨[⟨.mv (.v 0), none, false⟩, ⟨.mv (.v 1), none, false⟩, ⟨.bin .lss (.t 1) (.t 0), none, false⟩], [], [], some (16, 0)⟩
abbrev r_cmp_Compare_int_10 : Reg := ⟨[⟨.mv (.c (.int (-1))), none, false⟩], [(4, 0)], [0, 1], none⟩
abbrev r_cmp_Compare_int_11 : Reg := ⟨[⟨.mv (.v 0), none, false⟩, ⟨.mv (.v 1), none, false⟩, ⟨.bin .gtr (.t 1) (.t 0), none, false⟩], [], [0, 1], some (19, 0)⟩
abbrev r_cmp_Compare_int_12 : Reg := ⟨[⟨.mv (.c (.int (1))), none, false⟩], [(4, 0)], [], none⟩
abbrev r_cmp_Compare_int_13 : Reg := ⟨[⟨.mv (.c (.int (0))), none, false⟩], [(4, 0)], [], none⟩
abbrev ir_cmp_Compare_int : Fn := { np := 2, nv := 5, res := [(4, none)], body :=
(.seq (.reg r_cmp_Compare_int_0)
 (.seq (.reg r_cmp_Compare_int_1)
 (.seq (.reg r_cmp_Compare_int_2)
 (.seq (.seq (.reg r_cmp_Compare_int_3)
 (.cond 11 (.seq (.seq (.reg r_cmp_Compare_int_4)
 (.cond 12 (.seq (.reg r_cmp_Compare_int_5)
 .ret) .skip))
 (.seq (.reg r_cmp_Compare_int_6)
 .ret)) .skip))
 (.seq (.seq (.reg r_cmp_Compare_int_7)
 (.cond 13 (.seq (.reg r_cmp_Compare_int_8)
 .ret) .skip))
 (.seq (.seq (.reg r_cmp_Compare_int_9)
 (.cond 16 (.seq (.reg r_cmp_Compare_int_10)
 .ret) .skip))
 (.seq (.seq (.reg r_cmp_Compare_int_11)
 (.cond 19 (.seq (.reg r_cmp_Compare_int_12)
 .ret) .skip))
 (.seq (.reg r_cmp_Compare_int_13)
 .ret)))))))) }
/- f45 slices_Compare_Sint_int : 0:s1 1:s2 2:_ 3:_ 4:_ 5:i 6:v1 7:v2 8:c 9:_ -/
abbrev r_slices_Compare_Sint_int_0 : Reg := ⟨[⟨.mv (.c (.int (0))), none, false⟩], [], [9], none⟩
abbrev r_slices_Compare_Sint_int_1 : Reg := ⟨[⟨.mv (.v 0), none, false⟩, ⟨.len (.t 0), none, false⟩, ⟨.mv (.c (.int (0))), none, false⟩], [(4, 2), (3, 1), (2, 0)], [], none⟩
abbrev r_slices_Compare_Sint_int_2 : Reg := ⟨[⟨.bin .lss (.v 2) (.v 3), none, false⟩], [], [], some (12, 0)⟩
abbrev r_slices_Compare_Sint_int_3 : Reg := ⟨[⟨.mv (.v 2), none, false⟩, ⟨.iad (.v 4) (.v 2) 1, none, false⟩, ⟨.ld (.t 0) none, none, false⟩, ⟨.mv (.t 2), none, false⟩, ⟨.mv (.t 1), none, false⟩], [(5, 1), (6, 0)], [], none⟩
abbrev r_slices_Compare_Sint_int_4 : Reg := ⟨[⟨.mv (.v 5), none, false⟩, ⟨.mv (.v 1), none, false⟩, ⟨.len (.t 0), none, false⟩, ⟨.bin .geq (.t 2) (.t 0), none, false⟩], [], [], some (19, 0)⟩
abbrev r_slices_Compare_Sint_int_5 : Reg := ⟨[⟨.mv (.c (.int (1))), none, false⟩], [(9, 0)], [0, 1, 2, 3, 4, 5, 6], none⟩
abbrev r_slices_Compare_Sint_int_6 : Reg := ⟨[⟨.mv (.v 1), none, false⟩, ⟨.mv (.v 5), none, false⟩, ⟨.iad (.t 1) (.t 0) 1, none, false⟩, ⟨.ld (.t 0) none, none, false⟩, ⟨.mv (.t 0), none, false⟩], [(7, 0)], [5], none⟩
abbrev r_slices_Compare_Sint_int_7 : Reg := ⟨[⟨.mv (.v 6), none, false⟩, ⟨.mv (.v 7), none, false⟩, ⟨.cal F_cmp_Compare_int [(.t 1), (.t 0)], none, false⟩, ⟨.mv (.t 0), none, false⟩], [(8, 0)], [6, 7], none⟩
abbrev r_slices_Compare_Sint_int_8 : Reg := ⟨[⟨.mv (.v 8), none, false⟩, ⟨.bin .neq (.t 0) (.c (.int (0))), none, false⟩], [], [], some (28, 0)⟩
abbrev r_slices_Compare_Sint_int_9 : Reg := ⟨[⟨.mv (.v 8), none, false⟩, ⟨.mv (.t 0), none, false⟩], [(9, 0)], [0, 1, 2, 3, 4, 8], none⟩
abbrev r_slices_Compare_Sint_int_10 : Reg := ⟨[⟨.bin .add (.v 2) (.c (.int (1))), none, false⟩, ⟨.mv (.t 0), none, false⟩], [(2, 0)], [8], none⟩
abbrev b_slices_Compare_Sint_int_0 : IC := (.seq (.reg r_slices_Compare_Sint_int_2)
 (.seq (.cond 12 .skip (.exit 0))
 (.seq (.block 1 (.seq (.reg r_slices_Compare_Sint_int_3)
 (.seq (.seq (.reg r_slices_Compare_Sint_int_4)
 (.cond 19 (.seq (.reg r_slices_Compare_Sint_int_5)
 .ret) .skip))
 (.seq (.reg r_slices_Compare_Sint_int_6)
 (.seq (.reg r_slices_Compare_Sint_int_7)
 (.seq (.reg r_slices_Compare_Sint_int_8)
 (.cond 28 (.seq (.reg r_slices_Compare_Sint_int_9)
 .ret) .skip)))))))
 (.reg r_slices_Compare_Sint_int_10))))
abbrev r_slices_Compare_Sint_int_11 : Reg := ⟨[⟨.mv (.v 0), none, false⟩, ⟨.len (.t 0), none, false⟩, ⟨.mv (.v 1), none, false⟩, ⟨.len (.t 0), none, false⟩, ⟨.bin .lss (.t 2) (.t 0), none, false⟩], [], [0, 1, 2, 3, 4], some (35, 0)⟩
abbrev r_slices_Compare_Sint_int_12 : Reg := ⟨[⟨.mv (.c (.int (-1))), none, false⟩], [(9, 0)], [], none⟩
abbrev r_slices_Compare_Sint_int_13 : Reg := ⟨[⟨.mv (.c (.int (0))), none, false⟩], [(9, 0)], [], none⟩
abbrev ir_slices_Compare_Sint_int : Fn := { np := 2, nv := 10, res := [(9, none)], body :=
(.seq (.reg r_slices_Compare_Sint_int_0)
 (.seq (.seq (.reg r_slices_Compare_Sint_int_1)
 (.block 0 (.loop b_slices_Compare_Sint_int_0)))
 (.seq (.seq (.reg r_slices_Compare_Sint_int_11)
 (.cond 35 (.seq (.reg r_slices_Compare_Sint_int_12)
 .ret) .skip))
 (.seq (.reg r_slices_Compare_Sint_int_13)
 .ret)))) }
/- f46 equiv_check : 0:a 1:b 2:a 3:b 4:_ 5:_ 6:m 7:e 8:_ -/
abbrev r_equiv_check_0 : Reg := ⟨[⟨.bxi (.v 0), none, false⟩, ⟨.bxi (.v 1), none, false⟩, ⟨.mv (.c (.int (0))), none, false⟩], [(2, 2), (3, 1)], [0, 1, 8], none⟩
abbrev r_equiv_check_1 : Reg := ⟨[⟨.ldi (.v 2) (some 4), none, false⟩, ⟨.ldi (.v 3) (some 4), none, false⟩, ⟨.bld [.int 0, .int 0, .snil, .snil, .int 0, .int 0, .snil, .snil] [(0, 4, (.t 1)), (4, 4, (.t 0))], none, false⟩, ⟨.mv (.c (.int (0))), none, false⟩], [(5, 1), (4, 0)], [], none⟩
abbrev r_equiv_check_2 : Reg := ⟨[⟨.bin .lss (.v 4) (.c (.int (2))), none, false⟩], [], [], some (12, 0)⟩
abbrev r_equiv_check_3 : Reg := ⟨[⟨.idx (.v 5) (.v 4) 2 (some 4), none, false⟩, ⟨.alc0 4, none, false⟩, ⟨.ini (.t 0) (.t 1) 4, none, false⟩], [(6, 0)], [], none⟩
abbrev r_equiv_check_4 : Reg := ⟨[⟨.ldi (.v 6) (some 4), none, false⟩, ⟨.cal F_mealy_Valid [(.t 0)], none, false⟩, ⟨.mv (.t 0), none, false⟩], [(7, 0)], [6], none⟩
abbrev r_equiv_check_5 : Reg := ⟨[⟨.mv (.v 7), none, false⟩, ⟨.bin .neq (.t 0) (.c (.int (0))), none, false⟩], [], [], some (17, 0)⟩
abbrev r_equiv_check_6 : Reg := ⟨[⟨.mv (.v 7), none, false⟩, ⟨.mv (.t 0), none, false⟩], [(8, 0)], [2, 3, 4, 5, 7], none⟩
abbrev r_equiv_check_7 : Reg := ⟨[⟨.bin .add (.v 4) (.c (.int (1))), none, false⟩, ⟨.mv (.t 0), none, false⟩], [(4, 0)], [7], none⟩
abbrev b_equiv_check_0 : IC := (.seq (.reg r_equiv_check_2)
 (.seq (.cond 12 .skip (.exit 0))
 (.seq (.block 1 (.seq (.reg r_equiv_check_3)
 (.seq (.reg r_equiv_check_4)
 (.seq (.reg r_equiv_check_5)
 (.cond 17 (.seq (.reg r_equiv_check_6)
 .ret) .skip)))))
 (.reg r_equiv_check_7))))
abbrev r_equiv_check_8 : Reg := ⟨[⟨.fad (.v 2) 0 none, none, false⟩, ⟨.ldi (.t 0) none, none, false⟩, ⟨.fad (.v 3) 0 none, none, false⟩, ⟨.ldi (.t 0) none, none, false⟩, ⟨.bin .neq (.t 2) (.t 0), none, false⟩], [], [2, 3, 4, 5], some (24, 0)⟩
abbrev r_equiv_check_9 : Reg := ⟨[⟨.mv (.c (.int (15))), none, false⟩], [(8, 0)], [], none⟩
abbrev r_equiv_check_10 : Reg := ⟨[⟨.mv (.c (.int (0))), none, false⟩], [(8, 0)], [], none⟩
abbrev ir_equiv_check : Fn := { np := 2, nv := 9, res := [(8, none)], body :=
(.seq (.reg r_equiv_check_0)
 (.seq (.seq (.reg r_equiv_check_1)
 (.block 0 (.loop b_equiv_check_0)))
 (.seq (.seq (.reg r_equiv_check_8)
 (.cond 24 (.seq (.reg r_equiv_check_9)
 .ret) .skip))
 (.seq (.reg r_equiv_check_10)
 .ret)))) }
/- f47 equiv_search : 0:a 1:b 2:first 3:a 4:seen 5:_ 6:_ 7:s 8:b 9:first 10:i 11:queue 12:_ 13:_ 14:p 15:x 16:next 17:_ 18:_ -/
abbrev r_equiv_search_0 : Reg := ⟨[⟨.bxi (.v 0), none, false⟩, ⟨.bxi (.v 1), none, false⟩, ⟨.bxi (.v 2), none, false⟩, ⟨.mv (.c (.snil)), none, false⟩, ⟨.mv (.c (.bool false)), none, false⟩], [(3, 4), (8, 3), (9, 2)], [0, 1, 2, 17, 18], none⟩
abbrev r_equiv_search_1 : Reg := ⟨[⟨.fad (.v 3) 2 none, none, false⟩, ⟨.ldi (.t 0) none, none, false⟩, ⟨.len (.t 0), none, false⟩, ⟨.mks (.t 0) (.t 0) [.snil] none, none, false⟩, ⟨.mv (.t 0), none, false⟩], [(4, 0)], [], none⟩
abbrev r_equiv_search_2 : Reg := ⟨[⟨.mv (.v 4), none, false⟩, ⟨.len (.t 0), none, false⟩, ⟨.mv (.c (.int (0))), none, false⟩], [(6, 1), (5, 0)], [], none⟩
abbrev r_equiv_search_3 : Reg := ⟨[⟨.bin .lss (.v 5) (.v 6), none, false⟩], [], [], some (22, 0)⟩
abbrev r_equiv_search_4 : Reg := ⟨[⟨.mv (.v 5), none, false⟩, ⟨.mv (.t 0), none, false⟩], [(7, 0)], [], none⟩
abbrev r_equiv_search_5 : Reg := ⟨[⟨.mv (.v 4), none, false⟩, ⟨.mv (.v 7), none, false⟩, ⟨.fad (.v 8) 2 none, none, false⟩, ⟨.ldi (.t 0) none, none, false⟩, ⟨.len (.t 0), none, false⟩, ⟨.mks (.t 0) (.t 0) [.bool false] none, none, false⟩, ⟨.iad (.t 5) (.t 4) 1, none, false⟩, ⟨.st (.t 0) (.t 1) 1, none, false⟩], [], [7], none⟩
abbrev r_equiv_search_6 : Reg := ⟨[⟨.bin .add (.v 5) (.c (.int (1))), none, false⟩, ⟨.mv (.t 0), none, false⟩], [(5, 0)], [], none⟩
abbrev b_equiv_search_0 : IC := (.seq (.reg r_equiv_search_3)
 (.seq (.cond 22 .skip (.exit 0))
 (.seq (.block 1 (.seq (.reg r_equiv_search_4)
 (.reg r_equiv_search_5)))
 (.reg r_equiv_search_6))))
abbrev r_equiv_search_7 : Reg := ⟨[⟨.mv (.v 4), none, false⟩, ⟨.fad (.v 9) 0 none, none, false⟩, ⟨.ldi (.t 0) none, none, false⟩, ⟨.iad (.t 2) (.t 0) 1, none, false⟩, ⟨.ld (.t 0) none, none, false⟩, ⟨.fad (.v 9) 1 none, none, false⟩, ⟨.ldi (.t 0) none, none, false⟩, ⟨.iad (.t 2) (.t 0) 1, none, false⟩, ⟨.st (.t 0) (.c (.bool true)) 1, none, false⟩], [], [5, 6], none⟩
abbrev r_equiv_search_8 : Reg := ⟨[⟨.ldi (.v 9) (some 2), none, false⟩, ⟨.bld [.int 0, .int 0, .snil] [(0, 2, (.t 0))], none, false⟩, ⟨.litm [(.t 0)] (some 3), none, false⟩, ⟨.mv (.t 0), none, false⟩], [(11, 0)], [9], none⟩
abbrev r_equiv_search_9 : Reg := ⟨[⟨.mv (.c (.int (0))), none, false⟩], [(10, 0)], [], none⟩
abbrev r_equiv_search_10 : Reg := ⟨[⟨.mv (.v 10), none, false⟩, ⟨.mv (.v 11), none, false⟩, ⟨.len (.t 0), none, false⟩, ⟨.bin .lss (.t 2) (.t 0), none, false⟩], [], [], some (46, 0)⟩
abbrev r_equiv_search_12 : Reg := ⟨[⟨.mv (.v 11), none, false⟩, ⟨.mv (.v 10), none, false⟩, ⟨.iad (.t 1) (.t 0) 3, none, false⟩, ⟨.fad (.t 0) 0 (some 2), none, false⟩, ⟨.ld (.t 0) (some 2), none, false⟩, ⟨.alc0 2, none, false⟩, ⟨.ini (.t 0) (.t 1) 2, none, false⟩], [(14, 0)], [], none⟩
abbrev r_equiv_search_13 : Reg := ⟨[⟨.fad (.v 3) 0 none, none, false⟩, ⟨.ldi (.t 0) none, none, false⟩, ⟨.mv (.c (.int (0))), none, false⟩], [(13, 1), (12, 0)], [], none⟩
abbrev r_equiv_search_14 : Reg := ⟨[⟨.bin .lss (.v 12) (.v 13), none, false⟩], [], [], some (57, 0)⟩
abbrev r_equiv_search_15 : Reg := ⟨[⟨.mv (.v 12), none, false⟩, ⟨.mv (.t 0), none, false⟩], [(15, 0)], [], none⟩
abbrev r_equiv_search_16 : Reg := ⟨[⟨.fad (.v 3) 3 none, none, false⟩, ⟨.ldi (.t 0) none, none, false⟩, ⟨.fad (.v 14) 0 none, none, false⟩, ⟨.ldi (.t 0) none, none, false⟩, ⟨.iad (.t 2) (.t 0) 1, none, false⟩, ⟨.ldi (.t 0) none, none, false⟩, ⟨.mv (.v 15), none, false⟩, ⟨.iad (.t 1) (.t 0) 1, none, false⟩, ⟨.ldi (.t 0) none, none, false⟩, ⟨.fad (.v 8) 3 none, none, false⟩, ⟨.ldi (.t 0) none, none, false⟩, ⟨.fad (.v 14) 1 none, none, false⟩, ⟨.ldi (.t 0) none, none, false⟩, ⟨.iad (.t 2) (.t 0) 1, none, false⟩, ⟨.ldi (.t 0) none, none, false⟩, ⟨.mv (.v 15), none, false⟩, ⟨.iad (.t 1) (.t 0) 1, none, false⟩, ⟨.ldi (.t 0) none, none, false⟩, ⟨.bin .neq (.t 9) (.t 0), none, false⟩], [], [], some (77, 0)⟩
abbrev r_equiv_search_17 : Reg := ⟨[⟨.mv (.v 11), none, false⟩, ⟨.mv (.v 10), none, false⟩, ⟨.iad (.t 1) (.t 0) 3, none, false⟩, ⟨.fad (.t 0) 2 none, none, false⟩, ⟨.ld (.t 0) none, none, false⟩, ⟨.mv (.v 15), none, false⟩, ⟨.liti [(.t 0)] 1, none, false⟩, ⟨.liti [(.t 2), (.t 0)] 1, none, false⟩, ⟨.cal F_word_Join [(.t 0)], none, false⟩, ⟨.mv (.t 0), none, false⟩, ⟨.mv (.c (.bool true)), none, false⟩], [(17, 1), (18, 0)], [3, 4, 8, 10, 11, 12, 13, 14, 15], none⟩
abbrev r_equiv_search_18 : Reg := ⟨[⟨.fad (.v 3) 2 none, none, false⟩, ⟨.ldi (.t 0) none, none, false⟩, ⟨.fad (.v 14) 0 none, none, false⟩, ⟨.ldi (.t 0) none, none, false⟩, ⟨.iad (.t 2) (.t 0) 1, none, false⟩, ⟨.ldi (.t 0) none, none, false⟩, ⟨.mv (.v 15), none, false⟩, ⟨.iad (.t 1) (.t 0) 1, none, false⟩, ⟨.ldi (.t 0) none, none, false⟩, ⟨.fad (.v 8) 2 none, none, false⟩, ⟨.ldi (.t 0) none, none, false⟩, ⟨.fad (.v 14) 1 none, none, false⟩, ⟨.ldi (.t 0) none, none, false⟩, ⟨.iad (.t 2) (.t 0) 1, none, false⟩, ⟨.ldi (.t 0) none, none, false⟩, ⟨.mv (.v 15), none, false⟩, ⟨.iad (.t 1) (.t 0) 1, none, false⟩, ⟨.ldi (.t 0) none, none, false⟩, ⟨.bld [.int 0, .int 0] [(0, 1, (.t 9)), (1, 1, (.t 0))], none, false⟩, ⟨.alc0 2, none, false⟩, ⟨.ini (.t 0) (.t 1) 2, none, false⟩], [(16, 0)], [], none⟩
abbrev r_equiv_search_19 : Reg := ⟨[⟨.ldi (.v 16) (some 2), none, false⟩, ⟨.ldi (.v 14) (some 2), none, false⟩, ⟨.seq true 2 (.t 1) (.t 0), none, false⟩, ⟨.mv (.t 0), none, false⟩, ⟨.mv (.v 4), some (.t 0, true), false⟩, ⟨.fad (.v 16) 0 none, some (.t 1, true), false⟩, ⟨.ldi (.t 0) none, some (.t 2, true), false⟩, ⟨.iad (.t 2) (.t 0) 1, some (.t 3, true), false⟩, ⟨.ld (.t 0) none, some (.t 4, true), false⟩, ⟨.fad (.v 16) 1 none, some (.t 5, true), false⟩, ⟨.ldi (.t 0) none, some (.t 6, true), false⟩, ⟨.iad (.t 2) (.t 0) 1, some (.t 7, true), false⟩, ⟨.ld (.t 0) none, some (.t 8, true), false⟩, ⟨.not (.t 0), some (.t 9, true), false⟩, ⟨.pick (.t 10) (.t 0) (.c (.bool false)), none, false⟩], [], [], some (120, 0)⟩
abbrev r_equiv_search_20 : Reg := ⟨[⟨.mv (.v 4), none, false⟩, ⟨.fad (.v 16) 0 none, none, false⟩, ⟨.ldi (.t 0) none, none, false⟩, ⟨.iad (.t 2) (.t 0) 1, none, false⟩, ⟨.ld (.t 0) none, none, false⟩, ⟨.fad (.v 16) 1 none, none, false⟩, ⟨.ldi (.t 0) none, none, false⟩, ⟨.iad (.t 2) (.t 0) 1, none, false⟩, ⟨.st (.t 0) (.c (.bool true)) 1, none, false⟩], [], [], none⟩
abbrev r_equiv_search_21 : Reg := ⟨[⟨.mv (.v 11), none, false⟩, ⟨.ldi (.v 16) (some 2), none, false⟩, ⟨.mv (.v 11), none, false⟩, ⟨.mv (.v 10), none, false⟩, ⟨.iad (.t 1) (.t 0) 3, none, false⟩, ⟨.fad (.t 0) 2 none, none, false⟩, ⟨.ld (.t 0) none, none, false⟩, ⟨.mv (.v 15), none, false⟩, ⟨.liti [(.t 0)] 1, none, false⟩, ⟨.liti [(.t 2), (.t 0)] 1, none, false⟩, ⟨.cal F_word_Join [(.t 0)], none, false⟩, ⟨.bld [.int 0, .int 0, .snil] [(0, 2, (.t 9)), (2, 1, (.t 0))], none, false⟩, ⟨.lita [(.t 0)] 3, none, false⟩, ⟨.app (.t 12) (.t 0) (some 3), none, false⟩, ⟨.mv (.t 0), none, false⟩], [(11, 0)], [15, 16], none⟩
abbrev r_equiv_search_22 : Reg := ⟨[⟨.bin .add (.v 12) (.c (.int (1))), none, false⟩, ⟨.mv (.t 0), none, false⟩], [(12, 0)], [15, 16], none⟩
abbrev b_equiv_search_4 : IC := (.seq (.reg r_equiv_search_14)
 (.seq (.cond 57 .skip (.exit 4))
 (.seq (.block 5 (.seq (.reg r_equiv_search_15)
 (.seq (.seq (.reg r_equiv_search_16)
 (.cond 77 (.seq (.reg r_equiv_search_17)
 .ret) .skip))
 (.seq (.reg r_equiv_search_18)
 (.seq (.reg r_equiv_search_19)
 (.cond 120 (.seq (.reg r_equiv_search_20)
 (.reg r_equiv_search_21)) .skip))))))
 (.reg r_equiv_search_22))))
abbrev r_equiv_search_11 : Reg := ⟨[⟨.mv (.v 10), none, false⟩, ⟨.bin .add (.t 0) (.c (.int (1))), none, false⟩, ⟨.mv (.t 0), none, false⟩], [(10, 0)], [12, 13, 14], none⟩
abbrev b_equiv_search_2 : IC := (.seq (.seq (.reg r_equiv_search_10)
 (.cond 46 .skip (.exit 2)))
 (.seq (.block 3 (.seq (.reg r_equiv_search_12)
 (.seq (.reg r_equiv_search_13)
 (.block 4 (.loop b_equiv_search_4)))))
 (.reg r_equiv_search_11)))
abbrev r_equiv_search_23 : Reg := ⟨[⟨.mv (.c (.snil)), none, false⟩, ⟨.mv (.c (.bool false)), none, false⟩], [(17, 1), (18, 0)], [3, 4, 8, 10, 11], none⟩
abbrev ir_equiv_search : Fn := { np := 3, nv := 19, res := [(17, none), (18, none)], body :=
(.seq (.reg r_equiv_search_0)
 (.seq (.reg r_equiv_search_1)
 (.seq (.seq (.reg r_equiv_search_2)
 (.block 0 (.loop b_equiv_search_0)))
 (.seq (.reg r_equiv_search_7)
 (.seq (.reg r_equiv_search_8)
 (.seq (.seq (.reg r_equiv_search_9)
 (.block 2 (.loop b_equiv_search_2)))
 (.seq (.reg r_equiv_search_23)
 .ret))))))) }
/- f48 ref06_has : 0:l 1:n 2:i 3:_ -/
abbrev r_ref06_has_0 : Reg := ⟨[⟨.mv (.c (.bool false)), none, false⟩], [], [3], none⟩
abbrev r_ref06_has_1 : Reg := ⟨[⟨.mv (.c (.int (0))), none, false⟩], [(2, 0)], [], none⟩
abbrev r_ref06_has_2 : Reg := ⟨[⟨.mv (.v 2), none, false⟩, ⟨.mv (.v 0), none, false⟩, ⟨.len (.t 0), none, false⟩, ⟨.bin .lss (.t 2) (.t 0), none, false⟩], [], [], some (9, 0)⟩
abbrev r_ref06_has_4 : Reg := ⟨[⟨.mv (.v 0), none, false⟩, ⟨.mv (.v 2), none, false⟩, ⟨.iad (.t 1) (.t 0) 1, none, false⟩, ⟨.ld (.t 0) none, none, false⟩, ⟨.mv (.v 1), none, false⟩, ⟨.bin .eql (.t 1) (.t 0), none, false⟩], [], [], some (17, 0)⟩
abbrev r_ref06_has_5 : Reg := ⟨[⟨.mv (.c (.bool true)), none, false⟩], [(3, 0)], [0, 1, 2], none⟩
abbrev r_ref06_has_3 : Reg := ⟨[⟨.mv (.v 2), none, false⟩, ⟨.bin .add (.t 0) (.c (.int (1))), none, false⟩, ⟨.mv (.t 0), none, false⟩], [(2, 0)], [], none⟩
abbrev b_ref06_has_0 : IC := (.seq (.seq (.reg r_ref06_has_2)
 (.cond 9 .skip (.exit 0)))
 (.seq (.block 1 (.seq (.reg r_ref06_has_4)
 (.cond 17 (.seq (.reg r_ref06_has_5)
 .ret) .skip)))
 (.reg r_ref06_has_3)))
abbrev r_ref06_has_6 : Reg := ⟨[⟨.mv (.c (.bool false)), none, false⟩], [(3, 0)], [0, 1, 2], none⟩
abbrev ir_ref06_has : Fn := { np := 2, nv := 4, res := [(3, none)], body :=
(.seq (.reg r_ref06_has_0)
 (.seq (.seq (.reg r_ref06_has_1)
 (.block 0 (.loop b_ref06_has_0)))
 (.seq (.reg r_ref06_has_6)
 .ret))) }
/- f49 mealy_Trim : 0:m 1:m 2:e 3:_ 4:states 5:_ 6:_ 7:_ 8:number 9:s 10:i 11:_ 12:_ 13:_ 14:s 15:_ 16:_ 17:_ 18:next 19:a 20:t 21:out 22:_ -/
abbrev r_mealy_Trim_0 : Reg := ⟨[⟨.bxi (.v 0), none, false⟩, ⟨.alc [.int 0, .int 0, .snil, .snil] (some 4), none, false⟩, ⟨.mv (.c (.int (0))), none, false⟩], [(1, 2), (3, 1)], [0, 22], none⟩
abbrev r_mealy_Trim_1 : Reg := ⟨[⟨.ldi (.v 1) (some 4), none, false⟩, ⟨.cal F_mealy_Valid [(.t 0)], none, false⟩, ⟨.mv (.t 0), none, false⟩], [(2, 0)], [], none⟩
abbrev r_mealy_Trim_2 : Reg := ⟨[⟨.mv (.v 2), none, false⟩, ⟨.bin .neq (.t 0) (.c (.int (0))), none, false⟩], [], [], some (18, 0)⟩
abbrev r_mealy_Trim_3 : Reg := ⟨[⟨.bld [.int 0, .int 0, .snil, .snil] [], none, false⟩, ⟨.mv (.v 2), none, false⟩, ⟨.st (.v 3) (.t 1) 4, none, false⟩, ⟨.mv (.t 1), none, false⟩], [(22, 0)], [1, 2], none⟩
abbrev r_mealy_Trim_4 : Reg := ⟨[⟨.ldi (.v 1) (some 4), none, false⟩, ⟨.cal F_mealy_Reach [(.t 0)], none, false⟩, ⟨.mv (.t 0), none, false⟩], [(4, 0)], [2], none⟩
abbrev r_mealy_Trim_5 : Reg := ⟨[⟨.fad (.v 1) 2 none, none, false⟩, ⟨.ldi (.t 0) none, none, false⟩, ⟨.len (.t 0), none, false⟩, ⟨.mks (.t 0) (.t 0) [.int 0] none, none, false⟩, ⟨.mv (.t 0), none, false⟩], [(8, 0)], [], none⟩
abbrev r_mealy_Trim_6 : Reg := ⟨[⟨.mv (.v 4), none, false⟩, ⟨.len (.t 0), none, false⟩, ⟨.mv (.c (.int (0))), none, false⟩], [(7, 2), (6, 1), (5, 0)], [], none⟩
abbrev r_mealy_Trim_7 : Reg := ⟨[⟨.bin .lss (.v 5) (.v 6), none, false⟩], [], [], some (30, 0)⟩
abbrev r_mealy_Trim_8 : Reg := ⟨[⟨.mv (.v 5), none, false⟩, ⟨.iad (.v 7) (.v 5) 1, none, false⟩, ⟨.ld (.t 0) none, none, false⟩, ⟨.mv (.t 2), none, false⟩, ⟨.mv (.t 1), none, false⟩], [(10, 1), (9, 0)], [], none⟩
abbrev r_mealy_Trim_9 : Reg := ⟨[⟨.mv (.v 8), none, false⟩, ⟨.mv (.v 9), none, false⟩, ⟨.mv (.v 10), none, false⟩, ⟨.iad (.t 2) (.t 1) 1, none, false⟩, ⟨.st (.t 0) (.t 1) 1, none, false⟩], [], [9, 10], none⟩
abbrev r_mealy_Trim_10 : Reg := ⟨[⟨.bin .add (.v 5) (.c (.int (1))), none, false⟩, ⟨.mv (.t 0), none, false⟩], [(5, 0)], [], none⟩
abbrev b_mealy_Trim_0 : IC := (.seq (.reg r_mealy_Trim_7)
 (.seq (.cond 30 .skip (.exit 0))
 (.seq (.block 1 (.seq (.reg r_mealy_Trim_8)
 (.reg r_mealy_Trim_9)))
 (.reg r_mealy_Trim_10))))
abbrev r_mealy_Trim_11 : Reg := ⟨[⟨.fad (.v 1) 0 none, none, false⟩, ⟨.ldi (.t 0) none, none, false⟩, ⟨.bld [.int 0, .int 0, .snil, .snil] [(0, 1, (.t 0))], none, false⟩, ⟨.alc [.int 0, .int 0, .snil, .snil] (some 4), none, false⟩, ⟨.st (.t 0) (.t 1) 4, none, false⟩], [(21, 1)], [5, 6, 7], none⟩
abbrev r_mealy_Trim_12 : Reg := ⟨[⟨.mv (.v 4), none, false⟩, ⟨.len (.t 0), none, false⟩, ⟨.mv (.c (.int (0))), none, false⟩], [(13, 2), (12, 1), (11, 0)], [4], none⟩
abbrev r_mealy_Trim_13 : Reg := ⟨[⟨.bin .lss (.v 11) (.v 12), none, false⟩], [], [], some (45, 0)⟩
abbrev r_mealy_Trim_14 : Reg := ⟨[⟨.iad (.v 13) (.v 11) 1, none, false⟩, ⟨.ld (.t 0) none, none, false⟩, ⟨.mv (.t 0), none, false⟩], [(14, 0)], [], none⟩
abbrev r_mealy_Trim_15 : Reg := ⟨[⟨.fad (.v 1) 0 none, none, false⟩, ⟨.ldi (.t 0) none, none, false⟩, ⟨.mks (.t 0) (.t 0) [.int 0] none, none, false⟩, ⟨.mv (.t 0), none, false⟩], [(18, 0)], [], none⟩
abbrev r_mealy_Trim_16 : Reg := ⟨[⟨.fad (.v 1) 2 none, none, false⟩, ⟨.ldi (.t 0) none, none, false⟩, ⟨.mv (.v 14), none, false⟩, ⟨.iad (.t 1) (.t 0) 1, none, false⟩, ⟨.ldi (.t 0) none, none, false⟩, ⟨.len (.t 0), none, false⟩, ⟨.mv (.c (.int (0))), none, false⟩], [(17, 2), (16, 1), (15, 0)], [], none⟩
abbrev r_mealy_Trim_17 : Reg := ⟨[⟨.bin .lss (.v 15) (.v 16), none, false⟩], [], [], some (58, 0)⟩
abbrev r_mealy_Trim_18 : Reg := ⟨[⟨.mv (.v 15), none, false⟩, ⟨.iad (.v 17) (.v 15) 1, none, false⟩, ⟨.ld (.t 0) none, none, false⟩, ⟨.mv (.t 2), none, false⟩, ⟨.mv (.t 1), none, false⟩], [(19, 1), (20, 0)], [], none⟩
abbrev r_mealy_Trim_19 : Reg := ⟨[⟨.mv (.v 18), none, false⟩, ⟨.mv (.v 19), none, false⟩, ⟨.mv (.v 8), none, false⟩, ⟨.mv (.v 20), none, false⟩, ⟨.iad (.t 1) (.t 0) 1, none, false⟩, ⟨.ld (.t 0) none, none, false⟩, ⟨.iad (.t 5) (.t 4) 1, none, false⟩, ⟨.st (.t 0) (.t 1) 1, none, false⟩], [], [19, 20], none⟩
abbrev r_mealy_Trim_20 : Reg := ⟨[⟨.bin .add (.v 15) (.c (.int (1))), none, false⟩, ⟨.mv (.t 0), none, false⟩], [(15, 0)], [], none⟩
abbrev b_mealy_Trim_4 : IC := (.seq (.reg r_mealy_Trim_17)
 (.seq (.cond 58 .skip (.exit 4))
 (.seq (.block 5 (.seq (.reg r_mealy_Trim_18)
 (.reg r_mealy_Trim_19)))
 (.reg r_mealy_Trim_20))))
abbrev r_mealy_Trim_21 : Reg := ⟨[⟨.fad (.v 21) 2 none, none, false⟩, ⟨.ld (.t 0) none, none, false⟩, ⟨.mv (.v 18), none, false⟩, ⟨.lita [(.t 0)] 1, none, false⟩, ⟨.appw (.t 2) (.t 0) none, none, false⟩, ⟨.fad (.v 21) 2 none, none, false⟩, ⟨.st (.t 0) (.t 1) 1, none, false⟩], [], [15, 16, 17, 18], none⟩
abbrev r_mealy_Trim_22 : Reg := ⟨[⟨.fad (.v 21) 3 none, none, false⟩, ⟨.ld (.t 0) none, none, false⟩, ⟨.fad (.v 1) 3 none, none, false⟩, ⟨.ldi (.t 0) none, none, false⟩, ⟨.mv (.v 14), none, false⟩, ⟨.iad (.t 1) (.t 0) 1, none, false⟩, ⟨.ldi (.t 0) none, none, false⟩, ⟨.cal F_slices_Clone_Sint_int [(.t 0)], none, false⟩, ⟨.lita [(.t 0)] 1, none, false⟩, ⟨.app (.t 7) (.t 0) none, none, false⟩, ⟨.fad (.v 21) 3 none, none, false⟩, ⟨.st (.t 0) (.t 1) 1, none, false⟩], [], [14], none⟩
abbrev r_mealy_Trim_23 : Reg := ⟨[⟨.bin .add (.v 11) (.c (.int (1))), none, false⟩, ⟨.mv (.t 0), none, false⟩], [(11, 0)], [], none⟩
abbrev b_mealy_Trim_2 : IC := (.seq (.reg r_mealy_Trim_13)
 (.seq (.cond 45 .skip (.exit 2))
 (.seq (.block 3 (.seq (.reg r_mealy_Trim_14)
 (.seq (.reg r_mealy_Trim_15)
 (.seq (.seq (.reg r_mealy_Trim_16)
 (.block 4 (.loop b_mealy_Trim_4)))
 (.seq (.reg r_mealy_Trim_21)
 (.reg r_mealy_Trim_22))))))
 (.reg r_mealy_Trim_23))))
abbrev r_mealy_Trim_24 : Reg := ⟨[⟨.ld (.v 21) (some 4), none, false⟩, ⟨.st (.v 3) (.t 0) 4, none, false⟩, ⟨.mv (.c (.int (0))), none, false⟩], [(22, 0)], [1, 8, 11, 12, 13, 21], none⟩
abbrev ir_mealy_Trim : Fn := { np := 1, nv := 23, res := [(3, some (some 4)), (22, none)], body :=
(.seq (.reg r_mealy_Trim_0)
 (.seq (.seq (.reg r_mealy_Trim_1)
 (.seq (.reg r_mealy_Trim_2)
 (.cond 18 (.seq (.reg r_mealy_Trim_3)
 .ret) .skip)))
 (.seq (.reg r_mealy_Trim_4)
 (.seq (.reg r_mealy_Trim_5)
 (.seq (.seq (.reg r_mealy_Trim_6)
 (.block 0 (.loop b_mealy_Trim_0)))
 (.seq (.reg r_mealy_Trim_11)
 (.seq (.seq (.reg r_mealy_Trim_12)
 (.block 2 (.loop b_mealy_Trim_2)))
 (.seq (.reg r_mealy_Trim_24)
 .ret)))))))) }
/- f50 minimize_Classes : 0:m 1:m 2:_ 3:_ -/
abbrev r_minimize_Classes_0 : Reg := ⟨[⟨.bxi (.v 0), none, false⟩, ⟨.mv (.c (.snil)), none, false⟩, ⟨.mv (.c (.int (0))), none, false⟩], [(1, 2)], [0, 2, 3], none⟩
abbrev r_minimize_Classes_1 : Reg := ⟨[⟨.ldi (.v 1) (some 4), none, false⟩, ⟨.cal F_minimize_Partition [(.t 0), (.c (.int (128)))], none, false⟩, ⟨.ext (.t 0) 0, none, false⟩, ⟨.ext (.t 1) 1, none, false⟩, ⟨.mv (.t 1), none, false⟩, ⟨.mv (.t 1), none, false⟩], [(2, 1), (3, 0)], [1], none⟩
abbrev ir_minimize_Classes : Fn := { np := 1, nv := 4, res := [(2, none), (3, none)], body :=
(.seq (.reg r_minimize_Classes_0)
 (.seq (.reg r_minimize_Classes_1)
 .ret)) }
/- f51 mealy_Reach : 0:m 1:m 2:seen 3:i 4:out 5:_ 6:_ 7:_ 8:t 9:_ -/
abbrev r_mealy_Reach_0 : Reg := ⟨[⟨.bxi (.v 0), none, false⟩, ⟨.mv (.c (.snil)), none, false⟩], [(1, 1)], [0, 9], none⟩
abbrev r_mealy_Reach_1 : Reg := ⟨[⟨.ldi (.v 1) (some 4), none, false⟩, ⟨.cal F_mealy_Valid [(.t 0)], none, false⟩, ⟨.bin .neq (.t 0) (.c (.int (0))), none, false⟩], [], [], some (10, 0)⟩
abbrev r_mealy_Reach_2 : Reg := ⟨[⟨.mv (.c (.snil)), none, false⟩], [(9, 0)], [1], none⟩
abbrev r_mealy_Reach_3 : Reg := ⟨[⟨.fad (.v 1) 2 none, none, false⟩, ⟨.ldi (.t 0) none, none, false⟩, ⟨.len (.t 0), none, false⟩, ⟨.mks (.t 0) (.t 0) [.bool false] none, none, false⟩, ⟨.mv (.t 0), none, false⟩], [(2, 0)], [], none⟩
abbrev r_mealy_Reach_4 : Reg := ⟨[⟨.mv (.v 2), none, false⟩, ⟨.fad (.v 1) 1 none, none, false⟩, ⟨.ldi (.t 0) none, none, false⟩, ⟨.iad (.t 2) (.t 0) 1, none, false⟩, ⟨.st (.t 0) (.c (.bool true)) 1, none, false⟩], [], [], none⟩
abbrev r_mealy_Reach_5 : Reg := ⟨[⟨.fad (.v 1) 1 none, none, false⟩, ⟨.ldi (.t 0) none, none, false⟩, ⟨.litm [(.t 0)] none, none, false⟩, ⟨.mv (.t 0), none, false⟩], [(4, 0)], [], none⟩
abbrev r_mealy_Reach_6 : Reg := ⟨[⟨.mv (.c (.int (0))), none, false⟩], [(3, 0)], [], none⟩
abbrev r_mealy_Reach_7 : Reg := ⟨[⟨.mv (.v 3), none, false⟩, ⟨.mv (.v 4), none, false⟩, ⟨.len (.t 0), none, false⟩, ⟨.bin .lss (.t 2) (.t 0), none, false⟩], [], [], some (25, 0)⟩
abbrev r_mealy_Reach_9 : Reg := ⟨[⟨.fad (.v 1) 2 none, none, false⟩, ⟨.ldi (.t 0) none, none, false⟩, ⟨.mv (.v 4), none, false⟩, ⟨.mv (.v 3), none, false⟩, ⟨.iad (.t 1) (.t 0) 1, none, false⟩, ⟨.ld (.t 0) none, none, false⟩, ⟨.iad (.t 4) (.t 0) 1, none, false⟩, ⟨.ldi (.t 0) none, none, false⟩, ⟨.len (.t 0), none, false⟩, ⟨.mv (.c (.int (0))), none, false⟩], [(7, 2), (6, 1), (5, 0)], [], none⟩
abbrev r_mealy_Reach_10 : Reg := ⟨[⟨.bin .lss (.v 5) (.v 6), none, false⟩], [], [], some (38, 0)⟩
abbrev r_mealy_Reach_11 : Reg := ⟨[⟨.iad (.v 7) (.v 5) 1, none, false⟩, ⟨.ld (.t 0) none, none, false⟩, ⟨.mv (.t 0), none, false⟩], [(8, 0)], [], none⟩
abbrev r_mealy_Reach_12 : Reg := ⟨[⟨.mv (.v 2), none, false⟩, ⟨.mv (.v 8), none, false⟩, ⟨.iad (.t 1) (.t 0) 1, none, false⟩, ⟨.ld (.t 0) none, none, false⟩, ⟨.not (.t 0), none, false⟩], [], [], some (45, 0)⟩
abbrev r_mealy_Reach_13 : Reg := ⟨[⟨.mv (.v 2), none, false⟩, ⟨.mv (.v 8), none, false⟩, ⟨.iad (.t 1) (.t 0) 1, none, false⟩, ⟨.st (.t 0) (.c (.bool true)) 1, none, false⟩], [], [], none⟩
abbrev r_mealy_Reach_14 : Reg := ⟨[⟨.mv (.v 4), none, false⟩, ⟨.mv (.v 8), none, false⟩, ⟨.lita [(.t 0)] 1, none, false⟩, ⟨.appw (.t 2) (.t 0) none, none, false⟩, ⟨.mv (.t 0), none, false⟩], [(4, 0)], [8], none⟩
abbrev r_mealy_Reach_15 : Reg := ⟨[⟨.bin .add (.v 5) (.c (.int (1))), none, false⟩, ⟨.mv (.t 0), none, false⟩], [(5, 0)], [8], none⟩
abbrev b_mealy_Reach_2 : IC := (.seq (.reg r_mealy_Reach_10)
 (.seq (.cond 38 .skip (.exit 2))
 (.seq (.block 3 (.seq (.reg r_mealy_Reach_11)
 (.seq (.reg r_mealy_Reach_12)
 (.cond 45 (.seq (.reg r_mealy_Reach_13)
 (.reg r_mealy_Reach_14)) .skip))))
 (.reg r_mealy_Reach_15))))
abbrev r_mealy_Reach_8 : Reg := ⟨[⟨.mv (.v 3), none, false⟩, ⟨.bin .add (.t 0) (.c (.int (1))), none, false⟩, ⟨.mv (.t 0), none, false⟩], [(3, 0)], [5, 6, 7], none⟩
abbrev b_mealy_Reach_0 : IC := (.seq (.seq (.reg r_mealy_Reach_7)
 (.cond 25 .skip (.exit 0)))
 (.seq (.block 1 (.seq (.reg r_mealy_Reach_9)
 (.block 2 (.loop b_mealy_Reach_2))))
 (.reg r_mealy_Reach_8)))
abbrev r_mealy_Reach_16 : Reg := ⟨[⟨.mv (.v 4), none, false⟩, ⟨.mv (.t 0), none, false⟩], [(9, 0)], [1, 2, 3, 4], none⟩
abbrev ir_mealy_Reach : Fn := { np := 1, nv := 10, res := [(9, none)], body :=
(.seq (.reg r_mealy_Reach_0)
 (.seq (.seq (.reg r_mealy_Reach_1)
 (.cond 10 (.seq (.reg r_mealy_Reach_2)
 .ret) .skip))
 (.seq (.reg r_mealy_Reach_3)
 (.seq (.reg r_mealy_Reach_4)
 (.seq (.reg r_mealy_Reach_5)
 (.seq (.seq (.reg r_mealy_Reach_6)
 (.block 0 (.loop b_mealy_Reach_0)))
 (.seq (.reg r_mealy_Reach_16)
 .ret))))))) }
/- f52 mealy_Valid : 0:m 1:m 2:n 3:_ 4:_ 5:s 6:_ 7:_ 8:a 9:t 10:o 11:_ -/
abbrev r_mealy_Valid_0 : Reg := ⟨[⟨.bxi (.v 0), none, false⟩, ⟨.mv (.c (.int (0))), none, false⟩], [(1, 1)], [0, 11], none⟩
abbrev r_mealy_Valid_1 : Reg := ⟨[⟨.fad (.v 1) 2 none, none, false⟩, ⟨.ldi (.t 0) none, none, false⟩, ⟨.len (.t 0), none, false⟩, ⟨.mv (.t 0), none, false⟩], [(2, 0)], [], none⟩
abbrev r_mealy_Valid_2 : Reg := ⟨[⟨.fad (.v 1) 0 none, none, false⟩, ⟨.ldi (.t 0) none, none, false⟩, ⟨.bin .lss (.t 0) (.c (.int (1))), none, false⟩, ⟨.mv (.t 0), none, false⟩, ⟨.fad (.v 1) 0 none, some (.t 0, false), false⟩, ⟨.ldi (.t 0) none, some (.t 1, false), false⟩, ⟨.bin .gtr (.t 0) (.c (.int (64))), some (.t 2, false), false⟩, ⟨.pick (.t 3) (.c (.bool true)) (.t 0), none, false⟩, ⟨.mv (.t 0), none, false⟩], [], [], some (11, 0)⟩
abbrev r_mealy_Valid_3 : Reg := ⟨[⟨.mv (.c (.int (2))), none, false⟩], [(11, 0)], [1, 2], none⟩
abbrev r_mealy_Valid_4 : Reg := ⟨[⟨.mv (.v 2), none, false⟩, ⟨.bin .eql (.t 0) (.c (.int (0))), none, false⟩, ⟨.mv (.t 0), none, false⟩], [], [], some (20, 0)⟩
abbrev r_mealy_Valid_5 : Reg := ⟨[⟨.mv (.c (.int (19))), none, false⟩], [(11, 0)], [1, 2], none⟩
abbrev r_mealy_Valid_6 : Reg := ⟨[⟨.mv (.v 2), none, false⟩, ⟨.bin .gtr (.t 0) (.c (.int (128))), none, false⟩, ⟨.mv (.t 0), none, false⟩], [], [], some (23, 0)⟩
abbrev r_mealy_Valid_7 : Reg := ⟨[⟨.mv (.c (.int (11))), none, false⟩], [(11, 0)], [1, 2], none⟩
abbrev r_mealy_Valid_8 : Reg := ⟨[⟨.fad (.v 1) 1 none, none, false⟩, ⟨.ldi (.t 0) none, none, false⟩, ⟨.bin .lss (.t 0) (.c (.int (0))), none, false⟩, ⟨.mv (.t 0), none, false⟩, ⟨.fad (.v 1) 1 none, some (.t 0, false), false⟩, ⟨.ldi (.t 0) none, some (.t 1, false), false⟩, ⟨.mv (.v 2), some (.t 2, false), false⟩, ⟨.bin .geq (.t 1) (.t 0), some (.t 3, false), false⟩, ⟨.pick (.t 4) (.c (.bool true)) (.t 0), none, false⟩, ⟨.mv (.t 0), none, false⟩], [], [], some (26, 0)⟩
abbrev r_mealy_Valid_9 : Reg := ⟨[⟨.mv (.c (.int (2))), none, false⟩], [(11, 0)], [1, 2], none⟩
abbrev r_mealy_Valid_10 : Reg := ⟨[⟨.fad (.v 1) 3 none, none, false⟩, ⟨.ldi (.t 0) none, none, false⟩, ⟨.len (.t 0), none, false⟩, ⟨.mv (.v 2), none, false⟩, ⟨.bin .neq (.t 1) (.t 0), none, false⟩, ⟨.mv (.t 0), none, false⟩], [], [], some (36, 0)⟩
abbrev r_mealy_Valid_11 : Reg := ⟨[⟨.mv (.c (.int (1))), none, false⟩], [(11, 0)], [1, 2], none⟩
abbrev r_mealy_Valid_12 : Reg := ⟨[⟨.mv (.v 2), none, false⟩, ⟨.mv (.c (.int (0))), none, false⟩], [(4, 1), (3, 0)], [], none⟩
abbrev r_mealy_Valid_13 : Reg := ⟨[⟨.bin .lss (.v 3) (.v 4), none, false⟩], [], [], some (44, 0)⟩
abbrev r_mealy_Valid_14 : Reg := ⟨[⟨.mv (.v 3), none, false⟩, ⟨.mv (.t 0), none, false⟩], [(5, 0)], [], none⟩
abbrev r_mealy_Valid_15 : Reg := ⟨[⟨.fad (.v 1) 2 none, none, false⟩, ⟨.ldi (.t 0) none, none, false⟩, ⟨.mv (.v 5), none, false⟩, ⟨.iad (.t 1) (.t 0) 1, none, false⟩, ⟨.ldi (.t 0) none, none, false⟩, ⟨.len (.t 0), none, false⟩, ⟨.fad (.v 1) 0 none, none, false⟩, ⟨.ldi (.t 0) none, none, false⟩, ⟨.bin .neq (.t 2) (.t 0), none, false⟩, ⟨.mv (.t 0), none, false⟩, ⟨.fad (.v 1) 3 none, some (.t 0, false), false⟩, ⟨.ldi (.t 0) none, some (.t 1, false), false⟩, ⟨.mv (.v 5), some (.t 2, false), false⟩, ⟨.iad (.t 1) (.t 0) 1, some (.t 3, false), false⟩, ⟨.ldi (.t 0) none, some (.t 4, false), false⟩, ⟨.len (.t 0), some (.t 5, false), false⟩, ⟨.fad (.v 1) 0 none, some (.t 6, false), false⟩, ⟨.ldi (.t 0) none, some (.t 7, false), false⟩, ⟨.bin .neq (.t 2) (.t 0), some (.t 8, false), false⟩, ⟨.pick (.t 9) (.c (.bool true)) (.t 0), none, false⟩], [], [], some (65, 0)⟩
abbrev r_mealy_Valid_16 : Reg := ⟨[⟨.mv (.c (.int (1))), none, false⟩], [(11, 0)], [1, 2, 3, 4, 5], none⟩
abbrev r_mealy_Valid_17 : Reg := ⟨[⟨.fad (.v 1) 0 none, none, false⟩, ⟨.ldi (.t 0) none, none, false⟩, ⟨.mv (.c (.int (0))), none, false⟩], [(7, 1), (6, 0)], [], none⟩
abbrev r_mealy_Valid_18 : Reg := ⟨[⟨.bin .lss (.v 6) (.v 7), none, false⟩], [], [], some (69, 0)⟩
abbrev r_mealy_Valid_19 : Reg := ⟨[⟨.mv (.v 6), none, false⟩, ⟨.mv (.t 0), none, false⟩], [(8, 0)], [], none⟩
abbrev r_mealy_Valid_20 : Reg := ⟨[⟨.fad (.v 1) 2 none, none, false⟩, ⟨.ldi (.t 0) none, none, false⟩, ⟨.mv (.v 5), none, false⟩, ⟨.iad (.t 1) (.t 0) 1, none, false⟩, ⟨.ldi (.t 0) none, none, false⟩, ⟨.mv (.v 8), none, false⟩, ⟨.iad (.t 1) (.t 0) 1, none, false⟩, ⟨.ldi (.t 0) none, none, false⟩, ⟨.fad (.v 1) 3 none, none, false⟩, ⟨.ldi (.t 0) none, none, false⟩, ⟨.mv (.v 5), none, false⟩, ⟨.iad (.t 1) (.t 0) 1, none, false⟩, ⟨.ldi (.t 0) none, none, false⟩, ⟨.mv (.v 8), none, false⟩, ⟨.iad (.t 1) (.t 0) 1, none, false⟩, ⟨.ldi (.t 0) none, none, false⟩, ⟨.mv (.t 8), none, false⟩, ⟨.mv (.t 1), none, false⟩], [(9, 1), (10, 0)], [8], none⟩
abbrev r_mealy_Valid_21 : Reg := ⟨[⟨.mv (.v 9), none, false⟩, ⟨.bin .lss (.t 0) (.c (.int (0))), none, false⟩, ⟨.mv (.t 0), none, false⟩, ⟨.mv (.v 9), some (.t 0, false), false⟩, ⟨.mv (.v 2), some (.t 1, false), false⟩, ⟨.bin .geq (.t 1) (.t 0), some (.t 2, false), false⟩, ⟨.pick (.t 3) (.c (.bool true)) (.t 0), none, false⟩, ⟨.mv (.t 0), none, false⟩, ⟨.mv (.v 10), some (.t 0, false), false⟩, ⟨.bin .lss (.t 0) (.c (.int (0))), some (.t 1, false), false⟩, ⟨.pick (.t 2) (.c (.bool true)) (.t 0), none, false⟩, ⟨.mv (.t 0), none, false⟩, ⟨.mv (.v 10), some (.t 0, false), false⟩, ⟨.bin .gtr (.t 0) (.c (.int (1048576))), some (.t 1, false), false⟩, ⟨.pick (.t 2) (.c (.bool true)) (.t 0), none, false⟩], [], [9, 10], some (101, 0)⟩
abbrev r_mealy_Valid_22 : Reg := ⟨[⟨.mv (.c (.int (2))), none, false⟩], [(11, 0)], [1, 2, 3, 4, 5, 6, 7], none⟩
abbrev r_mealy_Valid_23 : Reg := ⟨[⟨.bin .add (.v 6) (.c (.int (1))), none, false⟩, ⟨.mv (.t 0), none, false⟩], [(6, 0)], [], none⟩
abbrev b_mealy_Valid_3 : IC := (.seq (.reg r_mealy_Valid_18)
 (.seq (.cond 69 .skip (.exit 3))
 (.seq (.block 4 (.seq (.reg r_mealy_Valid_19)
 (.seq (.reg r_mealy_Valid_20)
 (.seq (.reg r_mealy_Valid_21)
 (.cond 101 (.seq (.reg r_mealy_Valid_22)
 .ret) .skip)))))
 (.reg r_mealy_Valid_23))))
abbrev r_mealy_Valid_24 : Reg := ⟨[⟨.bin .add (.v 3) (.c (.int (1))), none, false⟩, ⟨.mv (.t 0), none, false⟩], [(3, 0)], [5, 6, 7], none⟩
abbrev b_mealy_Valid_1 : IC := (.seq (.reg r_mealy_Valid_13)
 (.seq (.cond 44 .skip (.exit 1))
 (.seq (.block 2 (.seq (.reg r_mealy_Valid_14)
 (.seq (.seq (.reg r_mealy_Valid_15)
 (.cond 65 (.seq (.reg r_mealy_Valid_16)
 .ret) .skip))
 (.seq (.reg r_mealy_Valid_17)
 (.block 3 (.loop b_mealy_Valid_3))))))
 (.reg r_mealy_Valid_24))))
abbrev r_mealy_Valid_25 : Reg := ⟨[⟨.mv (.c (.int (0))), none, false⟩], [(11, 0)], [1, 2, 3, 4], none⟩
abbrev ir_mealy_Valid : Fn := { np := 1, nv := 12, res := [(11, none)], body :=
(.seq (.reg r_mealy_Valid_0)
 (.seq (.reg r_mealy_Valid_1)
 (.seq (.block 0 (.seq (.reg r_mealy_Valid_2)
 (.cond 11 (.seq (.reg r_mealy_Valid_3)
 .ret) (.seq (.reg r_mealy_Valid_4)
 (.cond 20 (.seq (.reg r_mealy_Valid_5)
 .ret) (.seq (.reg r_mealy_Valid_6)
 (.cond 23 (.seq (.reg r_mealy_Valid_7)
 .ret) (.seq (.reg r_mealy_Valid_8)
 (.cond 26 (.seq (.reg r_mealy_Valid_9)
 .ret) (.seq (.reg r_mealy_Valid_10)
 (.cond 36 (.seq (.reg r_mealy_Valid_11)
 .ret) .skip)))))))))))
 (.seq (.seq (.reg r_mealy_Valid_12)
 (.block 1 (.loop b_mealy_Valid_1)))
 (.seq (.reg r_mealy_Valid_25)
 .ret))))) }
/- f53 slices_Concat_Sint_int : 0:slices 1:_ 2:_ 3:_ 4:size 5:s 6:_ 7:_ 8:_ 9:newslice 10:s 11:_ -/
abbrev r_slices_Concat_Sint_int_0 : Reg := ⟨[⟨.mv (.c (.snil)), none, false⟩], [], [11], none⟩
abbrev r_slices_Concat_Sint_int_1 : Reg := ⟨[⟨.mv (.c (.int (0))), none, false⟩], [(4, 0)], [], none⟩
abbrev r_slices_Concat_Sint_int_2 : Reg := ⟨[⟨.mv (.v 0), none, false⟩, ⟨.len (.t 0), none, false⟩, ⟨.mv (.c (.int (0))), none, false⟩], [(3, 2), (2, 1), (1, 0)], [], none⟩
abbrev r_slices_Concat_Sint_int_3 : Reg := ⟨[⟨.bin .lss (.v 1) (.v 2), none, false⟩], [], [], some (12, 0)⟩
abbrev r_slices_Concat_Sint_int_4 : Reg := ⟨[⟨.iad (.v 3) (.v 1) 1, none, false⟩, ⟨.ld (.t 0) none, none, false⟩, ⟨.mv (.t 0), none, false⟩], [(5, 0)], [], none⟩
abbrev r_slices_Concat_Sint_int_5 : Reg := ⟨[⟨.mv (.v 4), none, false⟩, ⟨.mv (.v 5), none, false⟩, ⟨.len (.t 0), none, false⟩, ⟨.bin .add (.t 2) (.t 0), none, false⟩, ⟨.mv (.t 0), none, false⟩], [(4, 0)], [5], none⟩
abbrev r_slices_Concat_Sint_int_6 : Reg := ⟨[⟨.mv (.v 4), none, false⟩, ⟨.bin .lss (.t 0) (.c (.int (0))), none, false⟩], [], [], some (20, 0)⟩
abbrev r_slices_Concat_Sint_int_8 : Reg := ⟨[⟨.bin .add (.v 1) (.c (.int (1))), none, false⟩, ⟨.mv (.t 0), none, false⟩], [(1, 0)], [], none⟩
abbrev b_slices_Concat_Sint_int_0 : IC := (.seq (.reg r_slices_Concat_Sint_int_3)
 (.seq (.cond 12 .skip (.exit 0))
 (.seq (.block 1 (.seq (.reg r_slices_Concat_Sint_int_4)
 (.seq (.reg r_slices_Concat_Sint_int_5)
 (.seq (.reg r_slices_Concat_Sint_int_6)
 (.cond 20 .bad .skip)))))
 (.reg r_slices_Concat_Sint_int_8))))
abbrev r_slices_Concat_Sint_int_9 : Reg := ⟨[⟨.mv (.v 4), none, false⟩, ⟨.can F_slices_Grow_Sint_int [(.c (.snil)), (.t 0)], none, false⟩, ⟨.mv (.t 0), none, false⟩], [(9, 0)], [1, 2, 3, 4], none⟩
abbrev r_slices_Concat_Sint_int_10 : Reg := ⟨[⟨.mv (.v 0), none, false⟩, ⟨.len (.t 0), none, false⟩, ⟨.mv (.c (.int (0))), none, false⟩], [(8, 2), (7, 1), (6, 0)], [0], none⟩
abbrev r_slices_Concat_Sint_int_11 : Reg := ⟨[⟨.bin .lss (.v 6) (.v 7), none, false⟩], [], [], some (28, 0)⟩
abbrev r_slices_Concat_Sint_int_12 : Reg := ⟨[⟨.iad (.v 8) (.v 6) 1, none, false⟩, ⟨.ld (.t 0) none, none, false⟩, ⟨.mv (.t 0), none, false⟩], [(10, 0)], [], none⟩
abbrev r_slices_Concat_Sint_int_13 : Reg := ⟨[⟨.mv (.v 9), none, false⟩, ⟨.mv (.v 10), none, false⟩, ⟨.appw (.t 1) (.t 0) none, none, false⟩, ⟨.mv (.t 0), none, false⟩], [(9, 0)], [10], none⟩
abbrev r_slices_Concat_Sint_int_14 : Reg := ⟨[⟨.bin .add (.v 6) (.c (.int (1))), none, false⟩, ⟨.mv (.t 0), none, false⟩], [(6, 0)], [], none⟩
abbrev b_slices_Concat_Sint_int_2 : IC := (.seq (.reg r_slices_Concat_Sint_int_11)
 (.seq (.cond 28 .skip (.exit 2))
 (.seq (.block 3 (.seq (.reg r_slices_Concat_Sint_int_12)
 (.reg r_slices_Concat_Sint_int_13)))
 (.reg r_slices_Concat_Sint_int_14))))
abbrev r_slices_Concat_Sint_int_15 : Reg := ⟨[⟨.mv (.v 9), none, false⟩, ⟨.mv (.t 0), none, false⟩], [(11, 0)], [6, 7, 8, 9], none⟩
abbrev ir_slices_Concat_Sint_int : Fn := { np := 1, nv := 12, res := [(11, none)], body :=
(.seq (.reg r_slices_Concat_Sint_int_0)
 (.seq (.reg r_slices_Concat_Sint_int_1)
 (.seq (.seq (.reg r_slices_Concat_Sint_int_2)
 (.block 0 (.loop b_slices_Concat_Sint_int_0)))
 (.seq (.reg r_slices_Concat_Sint_int_9)
 (.seq (.seq (.reg r_slices_Concat_Sint_int_10)
 (.block 2 (.loop b_slices_Concat_Sint_int_2)))
 (.seq (.reg r_slices_Concat_Sint_int_15)
 .ret)))))) }
/- f54 diff_sorted_1 : 0:x 1:y 2:x 3:y 4:_ -/
abbrev r_diff_sorted_1_0 : Reg := ⟨[⟨.bxi (.v 0), none, false⟩, ⟨.bxi (.v 1), none, false⟩, ⟨.mv (.c (.int (0))), none, false⟩], [(2, 2), (3, 1)], [0, 1, 4], none⟩
abbrev r_diff_sorted_1_1 : Reg := ⟨[⟨.fad (.v 2) 0 none, none, false⟩, ⟨.ldi (.t 0) none, none, false⟩, ⟨.fad (.v 3) 0 none, none, false⟩, ⟨.ldi (.t 0) none, none, false⟩, ⟨.cal F_word_Compare [(.t 2), (.t 0)], none, false⟩, ⟨.mv (.t 0), none, false⟩], [(4, 0)], [2, 3], none⟩
abbrev ir_diff_sorted_1 : Fn := { np := 2, nv := 5, res := [(4, none)], body :=
(.seq (.reg r_diff_sorted_1_0)
 (.seq (.reg r_diff_sorted_1_1)
 .ret)) }
/- f56 cover_places : 0:m 1:from 2:m 3:seen 4:i 5:queue 6:_ 7:_ 8:_ 9:t 10:a 11:_ -/
abbrev r_cover_places_0 : Reg := ⟨[⟨.bxi (.v 0), none, false⟩, ⟨.mv (.c (.snil)), none, false⟩], [(2, 1)], [0, 11], none⟩
abbrev r_cover_places_1 : Reg := ⟨[⟨.fad (.v 2) 2 none, none, false⟩, ⟨.ldi (.t 0) none, none, false⟩, ⟨.len (.t 0), none, false⟩, ⟨.mks (.t 0) (.t 0) [.bool false] none, none, false⟩, ⟨.mv (.t 0), none, false⟩], [(3, 0)], [], none⟩
abbrev r_cover_places_2 : Reg := ⟨[⟨.mv (.v 3), none, false⟩, ⟨.mv (.v 1), none, false⟩, ⟨.iad (.t 1) (.t 0) 1, none, false⟩, ⟨.st (.t 0) (.c (.bool true)) 1, none, false⟩], [], [], none⟩
abbrev r_cover_places_3 : Reg := ⟨[⟨.mv (.v 1), none, false⟩, ⟨.bld [.int 0, .snil] [(0, 1, (.t 0))], none, false⟩, ⟨.litm [(.t 0)] (some 2), none, false⟩, ⟨.mv (.t 0), none, false⟩], [(5, 0)], [1], none⟩
abbrev r_cover_places_4 : Reg := ⟨[⟨.mv (.c (.int (0))), none, false⟩], [(4, 0)], [], none⟩
abbrev r_cover_places_5 : Reg := ⟨[⟨.mv (.v 4), none, false⟩, ⟨.mv (.v 5), none, false⟩, ⟨.len (.t 0), none, false⟩, ⟨.bin .lss (.t 2) (.t 0), none, false⟩], [], [], some (23, 0)⟩
abbrev r_cover_places_7 : Reg := ⟨[⟨.fad (.v 2) 2 none, none, false⟩, ⟨.ldi (.t 0) none, none, false⟩, ⟨.mv (.v 5), none, false⟩, ⟨.mv (.v 4), none, false⟩, ⟨.iad (.t 1) (.t 0) 2, none, false⟩, ⟨.fad (.t 0) 0 none, none, false⟩, ⟨.ld (.t 0) none, none, false⟩, ⟨.iad (.t 5) (.t 0) 1, none, false⟩, ⟨.ldi (.t 0) none, none, false⟩, ⟨.len (.t 0), none, false⟩, ⟨.mv (.c (.int (0))), none, false⟩], [(8, 2), (7, 1), (6, 0)], [], none⟩
abbrev r_cover_places_8 : Reg := ⟨[⟨.bin .lss (.v 6) (.v 7), none, false⟩], [], [], some (37, 0)⟩
abbrev r_cover_places_9 : Reg := ⟨[⟨.mv (.v 6), none, false⟩, ⟨.iad (.v 8) (.v 6) 1, none, false⟩, ⟨.ld (.t 0) none, none, false⟩, ⟨.mv (.t 2), none, false⟩, ⟨.mv (.t 1), none, false⟩], [(10, 1), (9, 0)], [], none⟩
abbrev r_cover_places_10 : Reg := ⟨[⟨.mv (.v 3), none, false⟩, ⟨.mv (.v 9), none, false⟩, ⟨.iad (.t 1) (.t 0) 1, none, false⟩, ⟨.ld (.t 0) none, none, false⟩, ⟨.not (.t 0), none, false⟩], [], [], some (45, 0)⟩
abbrev r_cover_places_11 : Reg := ⟨[⟨.mv (.v 3), none, false⟩, ⟨.mv (.v 9), none, false⟩, ⟨.iad (.t 1) (.t 0) 1, none, false⟩, ⟨.st (.t 0) (.c (.bool true)) 1, none, false⟩], [], [], none⟩
abbrev r_cover_places_12 : Reg := ⟨[⟨.mv (.v 5), none, false⟩, ⟨.mv (.v 9), none, false⟩, ⟨.mv (.v 5), none, false⟩, ⟨.mv (.v 4), none, false⟩, ⟨.iad (.t 1) (.t 0) 2, none, false⟩, ⟨.fad (.t 0) 1 none, none, false⟩, ⟨.ld (.t 0) none, none, false⟩, ⟨.mv (.v 10), none, false⟩, ⟨.liti [(.t 0)] 1, none, false⟩, ⟨.liti [(.t 2), (.t 0)] 1, none, false⟩, ⟨.cal F_word_Join [(.t 0)], none, false⟩, ⟨.bld [.int 0, .snil] [(0, 1, (.t 9)), (1, 1, (.t 0))], none, false⟩, ⟨.lita [(.t 0)] 2, none, false⟩, ⟨.appw (.t 12) (.t 0) (some 2), none, false⟩, ⟨.mv (.t 0), none, false⟩], [(5, 0)], [9, 10], none⟩
abbrev r_cover_places_13 : Reg := ⟨[⟨.bin .add (.v 6) (.c (.int (1))), none, false⟩, ⟨.mv (.t 0), none, false⟩], [(6, 0)], [9, 10], none⟩
abbrev b_cover_places_2 : IC := (.seq (.reg r_cover_places_8)
 (.seq (.cond 37 .skip (.exit 2))
 (.seq (.block 3 (.seq (.reg r_cover_places_9)
 (.seq (.reg r_cover_places_10)
 (.cond 45 (.seq (.reg r_cover_places_11)
 (.reg r_cover_places_12)) .skip))))
 (.reg r_cover_places_13))))
abbrev r_cover_places_6 : Reg := ⟨[⟨.mv (.v 4), none, false⟩, ⟨.bin .add (.t 0) (.c (.int (1))), none, false⟩, ⟨.mv (.t 0), none, false⟩], [(4, 0)], [6, 7, 8], none⟩
abbrev b_cover_places_0 : IC := (.seq (.seq (.reg r_cover_places_5)
 (.cond 23 .skip (.exit 0)))
 (.seq (.block 1 (.seq (.reg r_cover_places_7)
 (.block 2 (.loop b_cover_places_2))))
 (.reg r_cover_places_6)))
abbrev r_cover_places_14 : Reg := ⟨[⟨.mv (.v 5), none, false⟩, ⟨.mv (.t 0), none, false⟩], [(11, 0)], [2, 3, 4, 5], none⟩
abbrev ir_cover_places : Fn := { np := 2, nv := 12, res := [(11, none)], body :=
(.seq (.reg r_cover_places_0)
 (.seq (.reg r_cover_places_1)
 (.seq (.reg r_cover_places_2)
 (.seq (.reg r_cover_places_3)
 (.seq (.seq (.reg r_cover_places_4)
 (.block 0 (.loop b_cover_places_0)))
 (.seq (.reg r_cover_places_14)
 .ret)))))) }
/- f57 math_bits_Mul : 0:x 1:y 2:h 3:l 4:h 5:l 6:hi 7:lo -/
abbrev r_math_bits_Mul_0 : Reg := ⟨[⟨.mv (.c (.ik 7 (0))), none, false⟩, ⟨.mv (.c (.ik 7 (0))), none, false⟩], [], [6, 7], none⟩
abbrev r_math_bits_Mul_3 : Reg := ⟨[⟨.mv (.v 0), none, false⟩, ⟨.mv (.v 1), none, false⟩, ⟨.cal F_math_bits_Mul64 [(.t 1), (.t 0)], none, false⟩, ⟨.mv (.t 0), none, false⟩, ⟨.ext (.t 0) 0, none, false⟩, ⟨.ext (.t 1) 1, none, false⟩, ⟨.mv (.t 1), none, false⟩, ⟨.mv (.t 1), none, false⟩], [(4, 1), (5, 0)], [0, 1], none⟩
abbrev r_math_bits_Mul_4 : Reg := ⟨[⟨.mv (.v 4), none, false⟩, ⟨.mv (.v 5), none, false⟩, ⟨.mv (.t 1), none, false⟩, ⟨.mv (.t 1), none, false⟩], [(6, 1), (7, 0)], [4, 5], none⟩
abbrev ir_math_bits_Mul : Fn := { np := 2, nv := 8, res := [(6, none), (7, none)], body :=
(.seq (.reg r_math_bits_Mul_0)
 (.seq (.cut false .skip)
 (.seq (.reg r_math_bits_Mul_3)
 (.seq (.reg r_math_bits_Mul_4)
 .ret)))) }
/- f58 ref10_has : 0:l 1:n 2:i 3:_ -/
abbrev r_ref10_has_0 : Reg := ⟨[⟨.mv (.c (.bool false)), none, false⟩], [], [3], none⟩
abbrev r_ref10_has_1 : Reg := ⟨[⟨.mv (.c (.int (0))), none, false⟩], [(2, 0)], [], none⟩
abbrev r_ref10_has_2 : Reg := ⟨[⟨.mv (.v 2), none, false⟩, ⟨.mv (.v 0), none, false⟩, ⟨.len (.t 0), none, false⟩, ⟨.bin .lss (.t 2) (.t 0), none, false⟩], [], [], some (9, 0)⟩
abbrev r_ref10_has_4 : Reg := ⟨[⟨.mv (.v 0), none, false⟩, ⟨.mv (.v 2), none, false⟩, ⟨.iad (.t 1) (.t 0) 1, none, false⟩, ⟨.ld (.t 0) none, none, false⟩, ⟨.mv (.v 1), none, false⟩, ⟨.bin .eql (.t 1) (.t 0), none, false⟩], [], [], some (17, 0)⟩
abbrev r_ref10_has_5 : Reg := ⟨[⟨.mv (.c (.bool true)), none, false⟩], [(3, 0)], [0, 1, 2], none⟩
abbrev r_ref10_has_3 : Reg := ⟨[⟨.mv (.v 2), none, false⟩, ⟨.bin .add (.t 0) (.c (.int (1))), none, false⟩, ⟨.mv (.t 0), none, false⟩], [(2, 0)], [], none⟩
abbrev b_ref10_has_0 : IC := (.seq (.seq (.reg r_ref10_has_2)
 (.cond 9 .skip (.exit 0)))
 (.seq (.block 1 (.seq (.reg r_ref10_has_4)
 (.cond 17 (.seq (.reg r_ref10_has_5)
 .ret) .skip)))
 (.reg r_ref10_has_3)))
abbrev r_ref10_has_6 : Reg := ⟨[⟨.mv (.c (.bool false)), none, false⟩], [(3, 0)], [0, 1, 2], none⟩
abbrev ir_ref10_has : Fn := { np := 2, nv := 4, res := [(3, none)], body :=
(.seq (.reg r_ref10_has_0)
 (.seq (.seq (.reg r_ref10_has_1)
 (.block 0 (.loop b_ref10_has_0)))
 (.seq (.reg r_ref10_has_6)
 .ret))) }
/- f59 slices_IndexFunc_Sint_int : 0:s 1:f 2:_ 3:_ 4:i 5:_ -/
abbrev r_slices_IndexFunc_Sint_int_0 : Reg := ⟨[⟨.mv (.c (.int (0))), none, false⟩], [], [5], none⟩
abbrev r_slices_IndexFunc_Sint_int_1 : Reg := ⟨[⟨.mv (.v 0), none, false⟩, ⟨.len (.t 0), none, false⟩, ⟨.mv (.c (.int (0))), none, false⟩], [(3, 1), (2, 0)], [], none⟩
abbrev r_slices_IndexFunc_Sint_int_2 : Reg := ⟨[⟨.bin .lss (.v 2) (.v 3), none, false⟩], [], [], some (9, 0)⟩
abbrev r_slices_IndexFunc_Sint_int_3 : Reg := ⟨[⟨.mv (.v 2), none, false⟩, ⟨.mv (.t 0), none, false⟩], [(4, 0)], [], none⟩
abbrev r_slices_IndexFunc_Sint_int_4 : Reg := ⟨[⟨.mv (.v 1), none, false⟩, ⟨.mv (.v 0), none, false⟩, ⟨.mv (.v 4), none, false⟩, ⟨.iad (.t 1) (.t 0) 1, none, false⟩, ⟨.ld (.t 0) none, none, false⟩, ⟨.cald (.t 4) [(.t 0)], none, false⟩], [], [], some (16, 0)⟩
abbrev r_slices_IndexFunc_Sint_int_5 : Reg := ⟨[⟨.mv (.v 4), none, false⟩, ⟨.mv (.t 0), none, false⟩], [(5, 0)], [0, 1, 2, 3, 4], none⟩
abbrev r_slices_IndexFunc_Sint_int_6 : Reg := ⟨[⟨.bin .add (.v 2) (.c (.int (1))), none, false⟩, ⟨.mv (.t 0), none, false⟩], [(2, 0)], [4], none⟩
abbrev b_slices_IndexFunc_Sint_int_0 : IC := (.seq (.reg r_slices_IndexFunc_Sint_int_2)
 (.seq (.cond 9 .skip (.exit 0))
 (.seq (.block 1 (.seq (.reg r_slices_IndexFunc_Sint_int_3)
 (.seq (.reg r_slices_IndexFunc_Sint_int_4)
 (.cond 16 (.seq (.reg r_slices_IndexFunc_Sint_int_5)
 .ret) .skip))))
 (.reg r_slices_IndexFunc_Sint_int_6))))
abbrev r_slices_IndexFunc_Sint_int_7 : Reg := ⟨[⟨.mv (.c (.int (-1))), none, false⟩], [(5, 0)], [0, 1, 2, 3], none⟩
abbrev ir_slices_IndexFunc_Sint_int : Fn := { np := 2, nv := 6, res := [(5, none)], body :=
(.seq (.reg r_slices_IndexFunc_Sint_int_0)
 (.seq (.seq (.reg r_slices_IndexFunc_Sint_int_1)
 (.block 0 (.loop b_slices_IndexFunc_Sint_int_0)))
 (.seq (.reg r_slices_IndexFunc_Sint_int_7)
 .ret))) }
/- f60 ref06_row : 0:m 1:s 2:m 3:a 4:_ -/
abbrev r_ref06_row_0 : Reg := ⟨[⟨.bxi (.v 0), none, false⟩, ⟨.mv (.c (.int (0))), none, false⟩], [(2, 1)], [0, 4], none⟩
abbrev r_ref06_row_1 : Reg := ⟨[⟨.fad (.v 2) 2 none, none, false⟩, ⟨.ldi (.t 0) none, none, false⟩, ⟨.mv (.v 1), none, false⟩, ⟨.iad (.t 1) (.t 0) 1, none, false⟩, ⟨.ldi (.t 0) none, none, false⟩, ⟨.len (.t 0), none, false⟩, ⟨.fad (.v 2) 0 none, none, false⟩, ⟨.ldi (.t 0) none, none, false⟩, ⟨.bin .neq (.t 2) (.t 0), none, false⟩, ⟨.mv (.t 0), none, false⟩, ⟨.fad (.v 2) 3 none, some (.t 0, false), false⟩, ⟨.ldi (.t 0) none, some (.t 1, false), false⟩, ⟨.mv (.v 1), some (.t 2, false), false⟩, ⟨.iad (.t 1) (.t 0) 1, some (.t 3, false), false⟩, ⟨.ldi (.t 0) none, some (.t 4, false), false⟩, ⟨.len (.t 0), some (.t 5, false), false⟩, ⟨.fad (.v 2) 0 none, some (.t 6, false), false⟩, ⟨.ldi (.t 0) none, some (.t 7, false), false⟩, ⟨.bin .neq (.t 2) (.t 0), some (.t 8, false), false⟩, ⟨.pick (.t 9) (.c (.bool true)) (.t 0), none, false⟩], [], [], some (25, 0)⟩
abbrev r_ref06_row_2 : Reg := ⟨[⟨.mv (.c (.int (1))), none, false⟩], [(4, 0)], [1, 2], none⟩
abbrev r_ref06_row_3 : Reg := ⟨[⟨.mv (.c (.int (0))), none, false⟩], [(3, 0)], [], none⟩
abbrev r_ref06_row_4 : Reg := ⟨[⟨.mv (.v 3), none, false⟩, ⟨.fad (.v 2) 0 none, none, false⟩, ⟨.ldi (.t 0) none, none, false⟩, ⟨.bin .lss (.t 2) (.t 0), none, false⟩], [], [], some (29, 0)⟩
abbrev r_ref06_row_6 : Reg := ⟨[⟨.fad (.v 2) 2 none, none, false⟩, ⟨.ldi (.t 0) none, none, false⟩, ⟨.mv (.v 1), none, false⟩, ⟨.iad (.t 1) (.t 0) 1, none, false⟩, ⟨.ldi (.t 0) none, none, false⟩, ⟨.mv (.v 3), none, false⟩, ⟨.iad (.t 1) (.t 0) 1, none, false⟩, ⟨.ldi (.t 0) none, none, false⟩, ⟨.bin .lss (.t 0) (.c (.int (0))), none, false⟩, ⟨.mv (.t 0), none, false⟩, ⟨.fad (.v 2) 2 none, some (.t 0, false), false⟩, ⟨.ldi (.t 0) none, some (.t 1, false), false⟩, ⟨.mv (.v 1), some (.t 2, false), false⟩, ⟨.iad (.t 1) (.t 0) 1, some (.t 3, false), false⟩, ⟨.ldi (.t 0) none, some (.t 4, false), false⟩, ⟨.mv (.v 3), some (.t 5, false), false⟩, ⟨.iad (.t 1) (.t 0) 1, some (.t 6, false), false⟩, ⟨.ldi (.t 0) none, some (.t 7, false), false⟩, ⟨.fad (.v 2) 2 none, some (.t 8, false), false⟩, ⟨.ldi (.t 0) none, some (.t 9, false), false⟩, ⟨.len (.t 0), some (.t 10, false), false⟩, ⟨.bin .geq (.t 3) (.t 0), some (.t 11, false), false⟩, ⟨.pick (.t 12) (.c (.bool true)) (.t 0), none, false⟩, ⟨.mv (.t 0), none, false⟩, ⟨.fad (.v 2) 3 none, some (.t 0, false), false⟩, ⟨.ldi (.t 0) none, some (.t 1, false), false⟩, ⟨.mv (.v 1), some (.t 2, false), false⟩, ⟨.iad (.t 1) (.t 0) 1, some (.t 3, false), false⟩, ⟨.ldi (.t 0) none, some (.t 4, false), false⟩, ⟨.mv (.v 3), some (.t 5, false), false⟩, ⟨.iad (.t 1) (.t 0) 1, some (.t 6, false), false⟩, ⟨.ldi (.t 0) none, some (.t 7, false), false⟩, ⟨.bin .lss (.t 0) (.c (.int (0))), some (.t 8, false), false⟩, ⟨.pick (.t 9) (.c (.bool true)) (.t 0), none, false⟩, ⟨.mv (.t 0), none, false⟩, ⟨.fad (.v 2) 3 none, some (.t 0, false), false⟩, ⟨.ldi (.t 0) none, some (.t 1, false), false⟩, ⟨.mv (.v 1), some (.t 2, false), false⟩, ⟨.iad (.t 1) (.t 0) 1, some (.t 3, false), false⟩, ⟨.ldi (.t 0) none, some (.t 4, false), false⟩, ⟨.mv (.v 3), some (.t 5, false), false⟩, ⟨.iad (.t 1) (.t 0) 1, some (.t 6, false), false⟩, ⟨.ldi (.t 0) none, some (.t 7, false), false⟩, ⟨.bin .gtr (.t 0) (.c (.int (1048576))), some (.t 8, false), false⟩, ⟨.pick (.t 9) (.c (.bool true)) (.t 0), none, false⟩], [], [], some (76, 0)⟩
abbrev r_ref06_row_7 : Reg := ⟨[⟨.mv (.c (.int (2))), none, false⟩], [(4, 0)], [1, 2, 3], none⟩
abbrev r_ref06_row_5 : Reg := ⟨[⟨.mv (.v 3), none, false⟩, ⟨.bin .add (.t 0) (.c (.int (1))), none, false⟩, ⟨.mv (.t 0), none, false⟩], [(3, 0)], [], none⟩
abbrev b_ref06_row_0 : IC := (.seq (.seq (.reg r_ref06_row_4)
 (.cond 29 .skip (.exit 0)))
 (.seq (.block 1 (.seq (.reg r_ref06_row_6)
 (.cond 76 (.seq (.reg r_ref06_row_7)
 .ret) .skip)))
 (.reg r_ref06_row_5)))
abbrev r_ref06_row_8 : Reg := ⟨[⟨.mv (.c (.int (0))), none, false⟩], [(4, 0)], [1, 2, 3], none⟩
abbrev ir_ref06_row : Fn := { np := 2, nv := 5, res := [(4, none)], body :=
(.seq (.reg r_ref06_row_0)
 (.seq (.seq (.reg r_ref06_row_1)
 (.cond 25 (.seq (.reg r_ref06_row_2)
 .ret) .skip))
 (.seq (.seq (.reg r_ref06_row_3)
 (.block 0 (.loop b_ref06_row_0)))
 (.seq (.reg r_ref06_row_8)
 .ret)))) }
/- f61 word_permitted : 0:inputs 1:_ -/
abbrev r_word_permitted_0 : Reg := ⟨[⟨.mv (.c (.bool false)), none, false⟩], [], [1], none⟩
abbrev r_word_permitted_1 : Reg := ⟨[⟨.mv (.v 0), none, false⟩, ⟨.bin .geq (.t 0) (.c (.int (1))), none, false⟩, ⟨.mv (.t 0), none, false⟩, ⟨.mv (.v 0), some (.t 0, true), false⟩, ⟨.bin .leq (.t 0) (.c (.int (1024))), some (.t 1, true), false⟩, ⟨.pick (.t 2) (.t 0) (.c (.bool false)), none, false⟩, ⟨.mv (.t 0), none, false⟩], [(1, 0)], [0], none⟩
abbrev ir_word_permitted : Fn := { np := 1, nv := 2, res := [(1, none)], body :=
(.seq (.reg r_word_permitted_0)
 (.seq (.reg r_word_permitted_1)
 .ret)) }
/- f62 word_Check_1 : 0:a 1:_ 2:_ -/
abbrev r_word_Check_1_0 : Reg := ⟨[⟨.mv (.c (.bool false)), none, false⟩], [], [2], none⟩
abbrev r_word_Check_1_1 : Reg := ⟨[⟨.mv (.v 0), none, false⟩, ⟨.bin .lss (.t 0) (.c (.int (0))), none, false⟩, ⟨.mv (.t 0), none, false⟩, ⟨.mv (.v 0), some (.t 0, false), false⟩, ⟨.ld (.v 1) none, some (.t 1, false), false⟩, ⟨.bin .geq (.t 1) (.t 0), some (.t 2, false), false⟩, ⟨.pick (.t 3) (.c (.bool true)) (.t 0), none, false⟩, ⟨.mv (.t 0), none, false⟩], [(2, 0)], [0, 1], none⟩
abbrev ir_word_Check_1 : Fn := { np := 2, nv := 3, res := [(2, none)], body :=
(.seq (.reg r_word_Check_1_0)
 (.seq (.reg r_word_Check_1_1)
 .ret)) }
end Ab
