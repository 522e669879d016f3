/- The functions of the program as small texts, printed by a tool of mine. Condition: none. -/
import Derived.Test.YtgaidfgpedibhaaAbSimp
set_option linter.all false
namespace Ab
abbrev T_Pnested_stack_int : Nat := 86
abbrev T_nested_double : Nat := 80
abbrev T_nested_single : Nat := 65
def F_law43_NestedValid : Nat := 3
def F_law43_NestedAccepts : Nat := 4
def F_law43_NestedPairs : Nat := 5
def F_law43_NestedShortest : Nat := 6
def F_law43_NestedDiffers : Nat := 7
def F_law43_NestedConnects : Nat := 8
def F_law43_NestedFirst : Nat := 9
def F_law43_NestedApart : Nat := 10
def F_nested_Valid : Nat := 11
def F_ref43_Valid : Nat := 12
def F_law43_awake : Nat := 13
def F_nested_Accepts : Nat := 14
def F_ref43_Accepts : Nat := 15
def F_nested_Matched : Nat := 16
def F_ref43_Matched : Nat := 17
def F_law43_Small : Nat := 18
def F_nested_Pairs : Nat := 19
def F_ref43_Pairs : Nat := 20
def F_ref43_SameTables : Nat := 21
def F_nested_Shortest : Nat := 22
def F_ref43_Shortest : Nat := 23
def F_ref06_Ints : Nat := 24
def F_nested_Differ : Nat := 25
def F_ref43_Differ : Nat := 26
def F_ref43_From : Nat := 27
def F_ref01_Compare : Nat := 28
def F_nested_outside : Nat := 29
def F_nested_symbols : Nat := 30
def F_nested_row : Nat := 31
def F_ref43_sizes : Nat := 32
def F_ref43_state : Nat := 33
def F_law43_Brackets : Nat := 34
def F_word_Check : Nat := 35
def F_nested_levels : Nat := 36
def F_nested_single_call : Nat := 37
def F_nested_stack_int_push : Nat := 38
def F_nested_single_inner : Nat := 39
def F_nested_single_pop : Nat := 40
def F_nested_stack_int_pop : Nat := 41
def F_ref01_Check : Nat := 42
def F_ref43_Symbols : Nat := 43
def F_ref43_depths : Nat := 44
def F_nested_connected : Nat := 45
def F_ref43_connected : Nat := 46
def F_ref43_SameBools : Nat := 47
def F_nested_first : Nat := 48
def F_ref43_first : Nat := 49
def F_nested_double_size : Nat := 50
def F_nested_double_split : Nat := 51
def F_nested_single_size : Nat := 52
def F_ref43_product : Nat := 53
def F_ref01_Lex : Nat := 54
def F_slices_ContainsFunc_Sint_int : Nat := 55
def F_nested_outside_1 : Nat := 56
def F_ref43_isState : Nat := 57
def F_word_permitted : Nat := 58
def F_word_Check_1 : Nat := 59
def F_ref01_Size : Nat := 60
def F_nested_spread : Nat := 61
def F_nested_widen : Nat := 62
def F_ref43_joined : Nat := 63
def F_nested_newSearch : Nat := 64
def F_nested_search_level : Nat := 65
def F_word_Compare : Nat := 66
def F_slices_Clone_Sint_int : Nat := 67
def F_ref43_links : Nat := 68
def F_ref43_better : Nat := 69
def F_ref01_Join : Nat := 70
def F_ref43_pops : Nat := 71
def F_ref01_Common : Nat := 72
def F_slices_IndexFunc_Sint_int : Nat := 73
def F_nested_newBest : Nat := 74
def F_nested_best_offer : Nat := 75
def F_nested_best_take : Nat := 76
def F_cmp_Or_int : Nat := 77
def F_cmp_Compare_int : Nat := 78
def F_slices_Compare_Sint_int : Nat := 79
def F_ref43_improved : Nat := 80
def F_ref01_Same : Nat := 81
def F_cmp_isNaN_int : Nat := 82
def F_nested_double_call : Nat := 98
def F_nested_double_inner : Nat := 99
def F_nested_double_pop : Nat := 100
/- f3 law43_NestedValid : 0:n 1:n 2:_ -/
abbrev r_law43_NestedValid_0 : Reg := ⟨[⟨.bxi (.v 0), none, false⟩, ⟨.mv (.c (.bool false)), none, false⟩], [(1, 1)], [0, 2], none⟩
abbrev r_law43_NestedValid_1 : Reg := ⟨[⟨.ldi (.v 1) (some 10), none, false⟩, ⟨.cal F_nested_Valid [(.t 0)], none, false⟩, ⟨.ldi (.v 1) (some 10), none, false⟩, ⟨.cal F_ref43_Valid [(.t 0)], none, false⟩, ⟨.bin .eql (.t 2) (.t 0), none, false⟩, ⟨.mv (.t 0), none, false⟩, ⟨.cal F_law43_awake [], some (.t 0, true), false⟩, ⟨.pick (.t 1) (.t 0) (.c (.bool false)), none, false⟩, ⟨.mv (.t 0), none, false⟩], [(2, 0)], [1], none⟩
abbrev ir_law43_NestedValid : Fn := { np := 1, nv := 3, res := [(2, none)], body :=
(.seq (.reg r_law43_NestedValid_0)
 (.seq (.reg r_law43_NestedValid_1)
 .ret)) }
/- f4 law43_NestedAccepts : 0:n 1:w 2:n 3:x 4:y 5:e 6:f 7:_ -/
abbrev r_law43_NestedAccepts_0 : Reg := ⟨[⟨.bxi (.v 0), none, false⟩, ⟨.mv (.c (.bool false)), none, false⟩], [(2, 1)], [0, 7], none⟩
abbrev r_law43_NestedAccepts_1 : Reg := ⟨[⟨.mv (.v 1), none, false⟩, ⟨.len (.t 0), none, false⟩, ⟨.bin .gtr (.t 0) (.c (.int (1100))), none, false⟩], [], [], some (11, 0)⟩
abbrev r_law43_NestedAccepts_2 : Reg := ⟨[⟨.cal F_law43_awake [], none, false⟩, ⟨.mv (.t 0), none, false⟩], [(7, 0)], [1, 2], none⟩
abbrev r_law43_NestedAccepts_3 : Reg := ⟨[⟨.ldi (.v 2) (some 10), none, false⟩, ⟨.mv (.v 1), none, false⟩, ⟨.cal F_nested_Accepts [(.t 1), (.t 0)], none, false⟩, ⟨.mv (.t 0), none, false⟩, ⟨.ext (.t 0) 0, none, false⟩, ⟨.ext (.t 1) 1, none, false⟩, ⟨.mv (.t 1), none, false⟩, ⟨.mv (.t 1), none, false⟩], [(3, 1), (5, 0)], [], none⟩
abbrev r_law43_NestedAccepts_4 : Reg := ⟨[⟨.ldi (.v 2) (some 10), none, false⟩, ⟨.mv (.v 1), none, false⟩, ⟨.cal F_ref43_Accepts [(.t 1), (.t 0)], none, false⟩, ⟨.mv (.t 0), none, false⟩, ⟨.ext (.t 0) 0, none, false⟩, ⟨.ext (.t 1) 1, none, false⟩, ⟨.mv (.t 1), none, false⟩, ⟨.mv (.t 1), none, false⟩], [(4, 1), (6, 0)], [], none⟩
abbrev r_law43_NestedAccepts_5 : Reg := ⟨[⟨.ldi (.v 2) (some 10), none, false⟩, ⟨.mv (.v 1), none, false⟩, ⟨.cal F_nested_Matched [(.t 1), (.t 0)], none, false⟩, ⟨.ldi (.v 2) (some 10), none, false⟩, ⟨.mv (.v 1), none, false⟩, ⟨.cal F_ref43_Matched [(.t 1), (.t 0)], none, false⟩, ⟨.beq false (.t 3) (.t 0), none, false⟩, ⟨.mv (.t 0), none, false⟩, ⟨.mv (.v 3), some (.t 0, true), false⟩, ⟨.mv (.v 4), some (.t 1, true), false⟩, ⟨.beq false (.t 1) (.t 0), some (.t 2, true), false⟩, ⟨.pick (.t 3) (.t 0) (.c (.bool false)), none, false⟩, ⟨.mv (.t 0), none, false⟩, ⟨.mv (.v 5), some (.t 0, true), false⟩, ⟨.mv (.v 6), some (.t 1, true), false⟩, ⟨.bin .eql (.t 1) (.t 0), some (.t 2, true), false⟩, ⟨.pick (.t 3) (.t 0) (.c (.bool false)), none, false⟩, ⟨.mv (.t 0), none, false⟩, ⟨.cal F_law43_awake [], some (.t 0, true), false⟩, ⟨.pick (.t 1) (.t 0) (.c (.bool false)), none, false⟩, ⟨.mv (.t 0), none, false⟩], [(7, 0)], [1, 2, 3, 4, 5, 6], none⟩
abbrev ir_law43_NestedAccepts : Fn := { np := 2, nv := 8, res := [(7, none)], body :=
(.seq (.reg r_law43_NestedAccepts_0)
 (.seq (.seq (.reg r_law43_NestedAccepts_1)
 (.cond 11 (.seq (.reg r_law43_NestedAccepts_2)
 .ret) .skip))
 (.seq (.reg r_law43_NestedAccepts_3)
 (.seq (.reg r_law43_NestedAccepts_4)
 (.seq (.reg r_law43_NestedAccepts_5)
 .ret))))) }
/- f5 law43_NestedPairs : 0:n 1:n 2:x 3:y 4:e 5:f 6:_ -/
abbrev r_law43_NestedPairs_0 : Reg := ⟨[⟨.bxi (.v 0), none, false⟩, ⟨.mv (.c (.bool false)), none, false⟩], [(1, 1)], [0, 6], none⟩
abbrev r_law43_NestedPairs_1 : Reg := ⟨[⟨.ldi (.v 1) (some 10), none, false⟩, ⟨.cal F_law43_Small [(.t 0)], none, false⟩, ⟨.not (.t 0), none, false⟩], [], [], some (9, 0)⟩
abbrev r_law43_NestedPairs_2 : Reg := ⟨[⟨.cal F_law43_awake [], none, false⟩, ⟨.mv (.t 0), none, false⟩], [(6, 0)], [1], none⟩
abbrev r_law43_NestedPairs_3 : Reg := ⟨[⟨.ldi (.v 1) (some 10), none, false⟩, ⟨.cal F_nested_Pairs [(.t 0)], none, false⟩, ⟨.mv (.t 0), none, false⟩, ⟨.ext (.t 0) 0, none, false⟩, ⟨.ext (.t 1) 1, none, false⟩, ⟨.mv (.t 1), none, false⟩, ⟨.mv (.t 1), none, false⟩], [(2, 1), (4, 0)], [], none⟩
abbrev r_law43_NestedPairs_4 : Reg := ⟨[⟨.ldi (.v 1) (some 10), none, false⟩, ⟨.cal F_ref43_Pairs [(.t 0)], none, false⟩, ⟨.mv (.t 0), none, false⟩, ⟨.ext (.t 0) 0, none, false⟩, ⟨.ext (.t 1) 1, none, false⟩, ⟨.mv (.t 1), none, false⟩, ⟨.mv (.t 1), none, false⟩], [(3, 1), (5, 0)], [1], none⟩
abbrev r_law43_NestedPairs_5 : Reg := ⟨[⟨.mv (.v 2), none, false⟩, ⟨.mv (.v 3), none, false⟩, ⟨.cal F_ref43_SameTables [(.t 1), (.t 0)], none, false⟩, ⟨.mv (.t 0), none, false⟩, ⟨.mv (.v 4), some (.t 0, true), false⟩, ⟨.mv (.v 5), some (.t 1, true), false⟩, ⟨.bin .eql (.t 1) (.t 0), some (.t 2, true), false⟩, ⟨.pick (.t 3) (.t 0) (.c (.bool false)), none, false⟩, ⟨.mv (.t 0), none, false⟩, ⟨.cal F_law43_awake [], some (.t 0, true), false⟩, ⟨.pick (.t 1) (.t 0) (.c (.bool false)), none, false⟩, ⟨.mv (.t 0), none, false⟩], [(6, 0)], [2, 3, 4, 5], none⟩
abbrev ir_law43_NestedPairs : Fn := { np := 1, nv := 7, res := [(6, none)], body :=
(.seq (.reg r_law43_NestedPairs_0)
 (.seq (.seq (.reg r_law43_NestedPairs_1)
 (.cond 9 (.seq (.reg r_law43_NestedPairs_2)
 .ret) .skip))
 (.seq (.reg r_law43_NestedPairs_3)
 (.seq (.reg r_law43_NestedPairs_4)
 (.seq (.reg r_law43_NestedPairs_5)
 .ret))))) }
/- f6 law43_NestedShortest : 0:n 1:n 2:u 3:v 4:x 5:y 6:e 7:f 8:_ -/
abbrev r_law43_NestedShortest_0 : Reg := ⟨[⟨.bxi (.v 0), none, false⟩, ⟨.mv (.c (.bool false)), none, false⟩], [(1, 1)], [0, 8], none⟩
abbrev r_law43_NestedShortest_1 : Reg := ⟨[⟨.ldi (.v 1) (some 10), none, false⟩, ⟨.cal F_law43_Small [(.t 0)], none, false⟩, ⟨.not (.t 0), none, false⟩], [], [], some (11, 0)⟩
abbrev r_law43_NestedShortest_2 : Reg := ⟨[⟨.cal F_law43_awake [], none, false⟩, ⟨.mv (.t 0), none, false⟩], [(8, 0)], [1], none⟩
abbrev r_law43_NestedShortest_3 : Reg := ⟨[⟨.ldi (.v 1) (some 10), none, false⟩, ⟨.cal F_nested_Shortest [(.t 0)], none, false⟩, ⟨.mv (.t 0), none, false⟩, ⟨.ext (.t 0) 0, none, false⟩, ⟨.ext (.t 1) 1, none, false⟩, ⟨.ext (.t 2) 2, none, false⟩, ⟨.mv (.t 2), none, false⟩, ⟨.mv (.t 2), none, false⟩, ⟨.mv (.t 2), none, false⟩], [(2, 2), (4, 1), (6, 0)], [], none⟩
abbrev r_law43_NestedShortest_4 : Reg := ⟨[⟨.ldi (.v 1) (some 10), none, false⟩, ⟨.cal F_ref43_Shortest [(.t 0)], none, false⟩, ⟨.mv (.t 0), none, false⟩, ⟨.ext (.t 0) 0, none, false⟩, ⟨.ext (.t 1) 1, none, false⟩, ⟨.ext (.t 2) 2, none, false⟩, ⟨.mv (.t 2), none, false⟩, ⟨.mv (.t 2), none, false⟩, ⟨.mv (.t 2), none, false⟩], [(3, 2), (5, 1), (7, 0)], [1], none⟩
abbrev r_law43_NestedShortest_5 : Reg := ⟨[⟨.mv (.v 2), none, false⟩, ⟨.mv (.v 3), none, false⟩, ⟨.cal F_ref06_Ints [(.t 1), (.t 0)], none, false⟩, ⟨.mv (.t 0), none, false⟩, ⟨.mv (.v 4), some (.t 0, true), false⟩, ⟨.mv (.v 5), some (.t 1, true), false⟩, ⟨.beq false (.t 1) (.t 0), some (.t 2, true), false⟩, ⟨.pick (.t 3) (.t 0) (.c (.bool false)), none, false⟩, ⟨.mv (.t 0), none, false⟩, ⟨.mv (.v 6), some (.t 0, true), false⟩, ⟨.mv (.v 7), some (.t 1, true), false⟩, ⟨.bin .eql (.t 1) (.t 0), some (.t 2, true), false⟩, ⟨.pick (.t 3) (.t 0) (.c (.bool false)), none, false⟩, ⟨.mv (.t 0), none, false⟩, ⟨.cal F_law43_awake [], some (.t 0, true), false⟩, ⟨.pick (.t 1) (.t 0) (.c (.bool false)), none, false⟩, ⟨.mv (.t 0), none, false⟩], [(8, 0)], [2, 3, 4, 5, 6, 7], none⟩
abbrev ir_law43_NestedShortest : Fn := { np := 1, nv := 9, res := [(8, none)], body :=
(.seq (.reg r_law43_NestedShortest_0)
 (.seq (.seq (.reg r_law43_NestedShortest_1)
 (.cond 11 (.seq (.reg r_law43_NestedShortest_2)
 .ret) .skip))
 (.seq (.reg r_law43_NestedShortest_3)
 (.seq (.reg r_law43_NestedShortest_4)
 (.seq (.reg r_law43_NestedShortest_5)
 .ret))))) }
/- f7 law43_NestedDiffers : 0:a 1:b 2:a 3:b 4:u 5:v 6:x 7:y 8:e 9:f 10:_ -/
abbrev r_law43_NestedDiffers_0 : Reg := ⟨[⟨.bxi (.v 0), none, false⟩, ⟨.bxi (.v 1), none, false⟩, ⟨.mv (.c (.bool false)), none, false⟩], [(2, 2), (3, 1)], [0, 1, 10], none⟩
abbrev r_law43_NestedDiffers_1 : Reg := ⟨[⟨.ldi (.v 2) (some 10), none, false⟩, ⟨.cal F_law43_Small [(.t 0)], none, false⟩, ⟨.not (.t 0), none, false⟩, ⟨.mv (.t 0), none, false⟩, ⟨.ldi (.v 3) (some 10), some (.t 0, false), false⟩, ⟨.cal F_law43_Small [(.t 0)], some (.t 1, false), false⟩, ⟨.not (.t 0), some (.t 2, false), false⟩, ⟨.pick (.t 3) (.c (.bool true)) (.t 0), none, false⟩], [], [], some (18, 0)⟩
abbrev r_law43_NestedDiffers_2 : Reg := ⟨[⟨.cal F_law43_awake [], none, false⟩, ⟨.mv (.t 0), none, false⟩], [(10, 0)], [2, 3], none⟩
abbrev r_law43_NestedDiffers_3 : Reg := ⟨[⟨.ldi (.v 2) (some 10), none, false⟩, ⟨.ldi (.v 3) (some 10), none, false⟩, ⟨.cal F_nested_Differ [(.t 1), (.t 0)], none, false⟩, ⟨.mv (.t 0), none, false⟩, ⟨.ext (.t 0) 0, none, false⟩, ⟨.ext (.t 1) 1, none, false⟩, ⟨.ext (.t 2) 2, none, false⟩, ⟨.mv (.t 2), none, false⟩, ⟨.mv (.t 2), none, false⟩, ⟨.mv (.t 2), none, false⟩], [(4, 2), (6, 1), (8, 0)], [], none⟩
abbrev r_law43_NestedDiffers_4 : Reg := ⟨[⟨.ldi (.v 2) (some 10), none, false⟩, ⟨.ldi (.v 3) (some 10), none, false⟩, ⟨.cal F_ref43_Differ [(.t 1), (.t 0)], none, false⟩, ⟨.mv (.t 0), none, false⟩, ⟨.ext (.t 0) 0, none, false⟩, ⟨.ext (.t 1) 1, none, false⟩, ⟨.ext (.t 2) 2, none, false⟩, ⟨.mv (.t 2), none, false⟩, ⟨.mv (.t 2), none, false⟩, ⟨.mv (.t 2), none, false⟩], [(5, 2), (7, 1), (9, 0)], [2, 3], none⟩
abbrev r_law43_NestedDiffers_5 : Reg := ⟨[⟨.mv (.v 4), none, false⟩, ⟨.mv (.v 5), none, false⟩, ⟨.cal F_ref06_Ints [(.t 1), (.t 0)], none, false⟩, ⟨.mv (.t 0), none, false⟩, ⟨.mv (.v 6), some (.t 0, true), false⟩, ⟨.mv (.v 7), some (.t 1, true), false⟩, ⟨.beq false (.t 1) (.t 0), some (.t 2, true), false⟩, ⟨.pick (.t 3) (.t 0) (.c (.bool false)), none, false⟩, ⟨.mv (.t 0), none, false⟩, ⟨.mv (.v 8), some (.t 0, true), false⟩, ⟨.mv (.v 9), some (.t 1, true), false⟩, ⟨.bin .eql (.t 1) (.t 0), some (.t 2, true), false⟩, ⟨.pick (.t 3) (.t 0) (.c (.bool false)), none, false⟩, ⟨.mv (.t 0), none, false⟩, ⟨.cal F_law43_awake [], some (.t 0, true), false⟩, ⟨.pick (.t 1) (.t 0) (.c (.bool false)), none, false⟩, ⟨.mv (.t 0), none, false⟩], [(10, 0)], [4, 5, 6, 7, 8, 9], none⟩
abbrev ir_law43_NestedDiffers : Fn := { np := 2, nv := 11, res := [(10, none)], body :=
(.seq (.reg r_law43_NestedDiffers_0)
 (.seq (.seq (.reg r_law43_NestedDiffers_1)
 (.cond 18 (.seq (.reg r_law43_NestedDiffers_2)
 .ret) .skip))
 (.seq (.reg r_law43_NestedDiffers_3)
 (.seq (.reg r_law43_NestedDiffers_4)
 (.seq (.reg r_law43_NestedDiffers_5)
 .ret))))) }
/- f8 law43_NestedConnects : 0:n 1:w 2:n 3:e 4:t 5:x 6:x 7:y 8:z 9:x 10:_ -/
abbrev r_law43_NestedConnects_0 : Reg := ⟨[⟨.bxi (.v 0), none, false⟩, ⟨.mv (.c (.bool false)), none, false⟩], [(2, 1)], [0, 10], none⟩
abbrev r_law43_NestedConnects_1 : Reg := ⟨[⟨.ldi (.v 2) (some 10), none, false⟩, ⟨.cal F_law43_Small [(.t 0)], none, false⟩, ⟨.not (.t 0), none, false⟩, ⟨.mv (.t 0), none, false⟩, ⟨.mv (.v 1), some (.t 0, false), false⟩, ⟨.len (.t 0), some (.t 1, false), false⟩, ⟨.bin .gtr (.t 0) (.c (.int (60))), some (.t 2, false), false⟩, ⟨.pick (.t 3) (.c (.bool true)) (.t 0), none, false⟩], [], [], some (19, 0)⟩
abbrev r_law43_NestedConnects_2 : Reg := ⟨[⟨.cal F_law43_awake [], none, false⟩, ⟨.mv (.t 0), none, false⟩], [(10, 0)], [1, 2], none⟩
abbrev r_law43_NestedConnects_3 : Reg := ⟨[⟨.ldi (.v 2) (some 10), none, false⟩, ⟨.cal F_nested_Pairs [(.t 0)], none, false⟩, ⟨.mv (.t 0), none, false⟩, ⟨.ext (.t 0) 0, none, false⟩, ⟨.ext (.t 1) 1, none, false⟩, ⟨.mv (.t 1), none, false⟩, ⟨.mv (.t 1), none, false⟩], [(4, 1), (3, 0)], [], none⟩
abbrev r_law43_NestedConnects_4 : Reg := ⟨[⟨.mv (.v 3), none, false⟩, ⟨.bin .neq (.t 0) (.c (.int (0))), none, false⟩], [], [3], some (27, 0)⟩
abbrev r_law43_NestedConnects_5 : Reg := ⟨[⟨.mv (.v 4), none, false⟩, ⟨.len (.t 0), none, false⟩, ⟨.bin .eql (.t 0) (.c (.int (0))), none, false⟩, ⟨.mv (.t 0), none, false⟩, ⟨.cal F_law43_awake [], some (.t 0, true), false⟩, ⟨.pick (.t 1) (.t 0) (.c (.bool false)), none, false⟩, ⟨.mv (.t 0), none, false⟩], [(10, 0)], [1, 2, 4], none⟩
abbrev r_law43_NestedConnects_6 : Reg := ⟨[⟨.mv (.c (.int (0))), none, false⟩], [(5, 0)], [], none⟩
abbrev r_law43_NestedConnects_7 : Reg := ⟨[⟨.mv (.v 5), none, false⟩, ⟨.mv (.v 4), none, false⟩, ⟨.len (.t 0), none, false⟩, ⟨.bin .lss (.t 2) (.t 0), none, false⟩], [], [], some (37, 0)⟩
abbrev r_law43_NestedConnects_9 : Reg := ⟨[⟨.mv (.v 4), none, false⟩, ⟨.mv (.v 5), none, false⟩, ⟨.iad (.t 1) (.t 0) 1, none, false⟩, ⟨.ld (.t 0) none, none, false⟩, ⟨.len (.t 0), none, false⟩, ⟨.fad (.v 2) 5 none, none, false⟩, ⟨.ldi (.t 0) none, none, false⟩, ⟨.len (.t 0), none, false⟩, ⟨.bin .neq (.t 3) (.t 0), none, false⟩, ⟨.mv (.t 0), none, false⟩, ⟨.mv (.v 4), some (.t 0, false), false⟩, ⟨.mv (.v 5), some (.t 1, false), false⟩, ⟨.iad (.t 1) (.t 0) 1, some (.t 2, false), false⟩, ⟨.ld (.t 0) none, some (.t 3, false), false⟩, ⟨.mv (.v 5), some (.t 4, false), false⟩, ⟨.iad (.t 1) (.t 0) 1, some (.t 5, false), false⟩, ⟨.ld (.t 0) none, some (.t 6, false), false⟩, ⟨.not (.t 0), some (.t 7, false), false⟩, ⟨.pick (.t 8) (.c (.bool true)) (.t 0), none, false⟩], [], [], some (58, 0)⟩
abbrev r_law43_NestedConnects_10 : Reg := ⟨[⟨.mv (.c (.bool false)), none, false⟩], [(10, 0)], [1, 2, 4, 5], none⟩
abbrev r_law43_NestedConnects_8 : Reg := ⟨[⟨.mv (.v 5), none, false⟩, ⟨.bin .add (.t 0) (.c (.int (1))), none, false⟩, ⟨.mv (.t 0), none, false⟩], [(5, 0)], [], none⟩
abbrev b_law43_NestedConnects_0 : IC := (.seq (.seq (.reg r_law43_NestedConnects_7)
 (.cond 37 .skip (.exit 0)))
 (.seq (.block 1 (.seq (.reg r_law43_NestedConnects_9)
 (.cond 58 (.seq (.reg r_law43_NestedConnects_10)
 .ret) .skip)))
 (.reg r_law43_NestedConnects_8)))
abbrev r_law43_NestedConnects_11 : Reg := ⟨[⟨.mv (.c (.int (0))), none, false⟩], [(6, 0)], [5], none⟩
abbrev r_law43_NestedConnects_12 : Reg := ⟨[⟨.mv (.v 6), none, false⟩, ⟨.mv (.v 4), none, false⟩, ⟨.len (.t 0), none, false⟩, ⟨.bin .lss (.t 2) (.t 0), none, false⟩], [], [], some (62, 0)⟩
abbrev r_law43_NestedConnects_14 : Reg := ⟨[⟨.mv (.c (.int (0))), none, false⟩], [(7, 0)], [], none⟩
abbrev r_law43_NestedConnects_15 : Reg := ⟨[⟨.mv (.v 7), none, false⟩, ⟨.mv (.v 4), none, false⟩, ⟨.len (.t 0), none, false⟩, ⟨.bin .lss (.t 2) (.t 0), none, false⟩], [], [], some (68, 0)⟩
abbrev r_law43_NestedConnects_17 : Reg := ⟨[⟨.mv (.c (.int (0))), none, false⟩], [(8, 0)], [], none⟩
abbrev r_law43_NestedConnects_18 : Reg := ⟨[⟨.mv (.v 8), none, false⟩, ⟨.mv (.v 4), none, false⟩, ⟨.len (.t 0), none, false⟩, ⟨.bin .lss (.t 2) (.t 0), none, false⟩], [], [], some (74, 0)⟩
abbrev r_law43_NestedConnects_20 : Reg := ⟨[⟨.mv (.v 4), none, false⟩, ⟨.mv (.v 6), none, false⟩, ⟨.iad (.t 1) (.t 0) 1, none, false⟩, ⟨.ld (.t 0) none, none, false⟩, ⟨.mv (.v 7), none, false⟩, ⟨.iad (.t 1) (.t 0) 1, none, false⟩, ⟨.ld (.t 0) none, none, false⟩, ⟨.mv (.t 0), none, false⟩, ⟨.mv (.v 4), some (.t 0, true), false⟩, ⟨.mv (.v 7), some (.t 1, true), false⟩, ⟨.iad (.t 1) (.t 0) 1, some (.t 2, true), false⟩, ⟨.ld (.t 0) none, some (.t 3, true), false⟩, ⟨.mv (.v 8), some (.t 4, true), false⟩, ⟨.iad (.t 1) (.t 0) 1, some (.t 5, true), false⟩, ⟨.ld (.t 0) none, some (.t 6, true), false⟩, ⟨.pick (.t 7) (.t 0) (.c (.bool false)), none, false⟩, ⟨.mv (.t 0), none, false⟩, ⟨.mv (.v 4), some (.t 0, true), false⟩, ⟨.mv (.v 6), some (.t 1, true), false⟩, ⟨.iad (.t 1) (.t 0) 1, some (.t 2, true), false⟩, ⟨.ld (.t 0) none, some (.t 3, true), false⟩, ⟨.mv (.v 8), some (.t 4, true), false⟩, ⟨.iad (.t 1) (.t 0) 1, some (.t 5, true), false⟩, ⟨.ld (.t 0) none, some (.t 6, true), false⟩, ⟨.not (.t 0), some (.t 7, true), false⟩, ⟨.pick (.t 8) (.t 0) (.c (.bool false)), none, false⟩], [], [], some (102, 0)⟩
abbrev r_law43_NestedConnects_21 : Reg := ⟨[⟨.mv (.c (.bool false)), none, false⟩], [(10, 0)], [1, 2, 4, 6, 7, 8], none⟩
abbrev r_law43_NestedConnects_19 : Reg := ⟨[⟨.mv (.v 8), none, false⟩, ⟨.bin .add (.t 0) (.c (.int (1))), none, false⟩, ⟨.mv (.t 0), none, false⟩], [(8, 0)], [], none⟩
abbrev b_law43_NestedConnects_6 : IC := (.seq (.seq (.reg r_law43_NestedConnects_18)
 (.cond 74 .skip (.exit 6)))
 (.seq (.block 7 (.seq (.reg r_law43_NestedConnects_20)
 (.cond 102 (.seq (.reg r_law43_NestedConnects_21)
 .ret) .skip)))
 (.reg r_law43_NestedConnects_19)))
abbrev r_law43_NestedConnects_16 : Reg := ⟨[⟨.mv (.v 7), none, false⟩, ⟨.bin .add (.t 0) (.c (.int (1))), none, false⟩, ⟨.mv (.t 0), none, false⟩], [(7, 0)], [8], none⟩
abbrev b_law43_NestedConnects_4 : IC := (.seq (.seq (.reg r_law43_NestedConnects_15)
 (.cond 68 .skip (.exit 4)))
 (.seq (.block 5 (.seq (.reg r_law43_NestedConnects_17)
 (.block 6 (.loop b_law43_NestedConnects_6))))
 (.reg r_law43_NestedConnects_16)))
abbrev r_law43_NestedConnects_13 : Reg := ⟨[⟨.mv (.v 6), none, false⟩, ⟨.bin .add (.t 0) (.c (.int (1))), none, false⟩, ⟨.mv (.t 0), none, false⟩], [(6, 0)], [7], none⟩
abbrev b_law43_NestedConnects_2 : IC := (.seq (.seq (.reg r_law43_NestedConnects_12)
 (.cond 62 .skip (.exit 2)))
 (.seq (.block 3 (.seq (.reg r_law43_NestedConnects_14)
 (.block 4 (.loop b_law43_NestedConnects_4))))
 (.reg r_law43_NestedConnects_13)))
abbrev r_law43_NestedConnects_22 : Reg := ⟨[⟨.ldi (.v 2) (some 10), none, false⟩, ⟨.mv (.v 1), none, false⟩, ⟨.cal F_nested_Matched [(.t 1), (.t 0)], none, false⟩, ⟨.not (.t 0), none, false⟩], [], [6], some (106, 0)⟩
abbrev r_law43_NestedConnects_23 : Reg := ⟨[⟨.cal F_law43_awake [], none, false⟩, ⟨.mv (.t 0), none, false⟩], [(10, 0)], [1, 2, 4], none⟩
abbrev r_law43_NestedConnects_24 : Reg := ⟨[⟨.mv (.c (.int (0))), none, false⟩], [(9, 0)], [], none⟩
abbrev r_law43_NestedConnects_25 : Reg := ⟨[⟨.mv (.v 9), none, false⟩, ⟨.mv (.v 4), none, false⟩, ⟨.len (.t 0), none, false⟩, ⟨.bin .lss (.t 2) (.t 0), none, false⟩], [], [], some (111, 0)⟩
abbrev r_law43_NestedConnects_27 : Reg := ⟨[⟨.mv (.v 4), none, false⟩, ⟨.mv (.v 9), none, false⟩, ⟨.iad (.t 1) (.t 0) 1, none, false⟩, ⟨.ld (.t 0) none, none, false⟩, ⟨.ldi (.v 2) (some 10), none, false⟩, ⟨.mv (.v 9), none, false⟩, ⟨.mv (.v 1), none, false⟩, ⟨.cal F_ref43_From [(.t 2), (.t 1), (.t 0)], none, false⟩, ⟨.iad (.t 4) (.t 0) 1, none, false⟩, ⟨.ld (.t 0) none, none, false⟩, ⟨.not (.t 0), none, false⟩], [], [], some (124, 0)⟩
abbrev r_law43_NestedConnects_28 : Reg := ⟨[⟨.mv (.c (.bool false)), none, false⟩], [(10, 0)], [1, 2, 4, 9], none⟩
abbrev r_law43_NestedConnects_26 : Reg := ⟨[⟨.mv (.v 9), none, false⟩, ⟨.bin .add (.t 0) (.c (.int (1))), none, false⟩, ⟨.mv (.t 0), none, false⟩], [(9, 0)], [], none⟩
abbrev b_law43_NestedConnects_8 : IC := (.seq (.seq (.reg r_law43_NestedConnects_25)
 (.cond 111 .skip (.exit 8)))
 (.seq (.block 9 (.seq (.reg r_law43_NestedConnects_27)
 (.cond 124 (.seq (.reg r_law43_NestedConnects_28)
 .ret) .skip)))
 (.reg r_law43_NestedConnects_26)))
abbrev r_law43_NestedConnects_29 : Reg := ⟨[⟨.mv (.v 4), none, false⟩, ⟨.len (.t 0), none, false⟩, ⟨.fad (.v 2) 5 none, none, false⟩, ⟨.ldi (.t 0) none, none, false⟩, ⟨.len (.t 0), none, false⟩, ⟨.bin .eql (.t 3) (.t 0), none, false⟩, ⟨.mv (.t 0), none, false⟩, ⟨.cal F_law43_awake [], some (.t 0, true), false⟩, ⟨.pick (.t 1) (.t 0) (.c (.bool false)), none, false⟩, ⟨.mv (.t 0), none, false⟩], [(10, 0)], [1, 2, 4, 9], none⟩
abbrev ir_law43_NestedConnects : Fn := { np := 2, nv := 11, res := [(10, none)], body :=
(.seq (.reg r_law43_NestedConnects_0)
 (.seq (.seq (.reg r_law43_NestedConnects_1)
 (.cond 19 (.seq (.reg r_law43_NestedConnects_2)
 .ret) .skip))
 (.seq (.reg r_law43_NestedConnects_3)
 (.seq (.seq (.reg r_law43_NestedConnects_4)
 (.cond 27 (.seq (.reg r_law43_NestedConnects_5)
 .ret) .skip))
 (.seq (.seq (.reg r_law43_NestedConnects_6)
 (.block 0 (.loop b_law43_NestedConnects_0)))
 (.seq (.seq (.reg r_law43_NestedConnects_11)
 (.block 2 (.loop b_law43_NestedConnects_2)))
 (.seq (.seq (.reg r_law43_NestedConnects_22)
 (.cond 106 (.seq (.reg r_law43_NestedConnects_23)
 .ret) .skip))
 (.seq (.seq (.reg r_law43_NestedConnects_24)
 (.block 8 (.loop b_law43_NestedConnects_8)))
 (.seq (.reg r_law43_NestedConnects_29)
 .ret))))))))) }
/- f9 law43_NestedFirst : 0:n 1:w 2:n 3:e 4:u 5:ok 6:f 7:in 8:_ -/
abbrev r_law43_NestedFirst_0 : Reg := ⟨[⟨.bxi (.v 0), none, false⟩, ⟨.mv (.c (.bool false)), none, false⟩], [(2, 1)], [0, 8], none⟩
abbrev r_law43_NestedFirst_1 : Reg := ⟨[⟨.ldi (.v 2) (some 10), none, false⟩, ⟨.cal F_law43_Small [(.t 0)], none, false⟩, ⟨.not (.t 0), none, false⟩, ⟨.mv (.t 0), none, false⟩, ⟨.mv (.v 1), some (.t 0, false), false⟩, ⟨.len (.t 0), some (.t 1, false), false⟩, ⟨.bin .gtr (.t 0) (.c (.int (60))), some (.t 2, false), false⟩, ⟨.pick (.t 3) (.c (.bool true)) (.t 0), none, false⟩], [], [], some (17, 0)⟩
abbrev r_law43_NestedFirst_2 : Reg := ⟨[⟨.cal F_law43_awake [], none, false⟩, ⟨.mv (.t 0), none, false⟩], [(8, 0)], [1, 2], none⟩
abbrev r_law43_NestedFirst_3 : Reg := ⟨[⟨.ldi (.v 2) (some 10), none, false⟩, ⟨.cal F_nested_Shortest [(.t 0)], none, false⟩, ⟨.mv (.t 0), none, false⟩, ⟨.ext (.t 0) 0, none, false⟩, ⟨.ext (.t 1) 1, none, false⟩, ⟨.ext (.t 2) 2, none, false⟩, ⟨.mv (.t 2), none, false⟩, ⟨.mv (.t 2), none, false⟩, ⟨.mv (.t 2), none, false⟩], [(4, 2), (5, 1), (3, 0)], [], none⟩
abbrev r_law43_NestedFirst_4 : Reg := ⟨[⟨.mv (.v 3), none, false⟩, ⟨.bin .neq (.t 0) (.c (.int (0))), none, false⟩], [], [3], some (26, 0)⟩
abbrev r_law43_NestedFirst_5 : Reg := ⟨[⟨.mv (.v 4), none, false⟩, ⟨.len (.t 0), none, false⟩, ⟨.bin .eql (.t 0) (.c (.int (0))), none, false⟩, ⟨.mv (.t 0), none, false⟩, ⟨.mv (.v 5), some (.t 0, true), false⟩, ⟨.not (.t 0), some (.t 1, true), false⟩, ⟨.pick (.t 2) (.t 0) (.c (.bool false)), none, false⟩, ⟨.mv (.t 0), none, false⟩, ⟨.cal F_law43_awake [], some (.t 0, true), false⟩, ⟨.pick (.t 1) (.t 0) (.c (.bool false)), none, false⟩, ⟨.mv (.t 0), none, false⟩], [(8, 0)], [1, 2, 4, 5], none⟩
abbrev r_law43_NestedFirst_6 : Reg := ⟨[⟨.mv (.v 5), none, false⟩, ⟨.mv (.t 0), none, false⟩, ⟨.ldi (.v 2) (some 10), some (.t 0, true), false⟩, ⟨.mv (.v 4), some (.t 1, true), false⟩, ⟨.cal F_ref43_Matched [(.t 1), (.t 0)], some (.t 2, true), false⟩, ⟨.not (.t 0), some (.t 3, true), false⟩, ⟨.mv (.t 0), some (.t 4, true), false⟩, ⟨.fad (.v 2) 5 none, some (.t 0, false), false⟩, ⟨.ldi (.t 0) none, some (.t 1, false), false⟩, ⟨.ldi (.v 2) (some 10), some (.t 2, false), false⟩, ⟨.fad (.v 2) 4 none, some (.t 3, false), false⟩, ⟨.ldi (.t 0) none, some (.t 4, false), false⟩, ⟨.mv (.v 4), some (.t 5, false), false⟩, ⟨.cal F_ref43_From [(.t 3), (.t 1), (.t 0)], some (.t 6, false), false⟩, ⟨.iad (.t 5) (.t 0) 1, some (.t 7, false), false⟩, ⟨.ldi (.t 0) none, some (.t 8, false), false⟩, ⟨.not (.t 0), some (.t 9, false), false⟩, ⟨.pick (.t 10) (.c (.bool true)) (.t 0), some (.t 15, true), false⟩, ⟨.pick (.t 16) (.t 0) (.c (.bool false)), none, false⟩], [], [], some (55, 0)⟩
abbrev r_law43_NestedFirst_7 : Reg := ⟨[⟨.mv (.c (.bool false)), none, false⟩], [(8, 0)], [1, 2, 4, 5], none⟩
abbrev r_law43_NestedFirst_8 : Reg := ⟨[⟨.ldi (.v 2) (some 10), none, false⟩, ⟨.mv (.v 1), none, false⟩, ⟨.cal F_nested_Accepts [(.t 1), (.t 0)], none, false⟩, ⟨.mv (.t 0), none, false⟩, ⟨.ext (.t 0) 0, none, false⟩, ⟨.ext (.t 1) 1, none, false⟩, ⟨.mv (.t 1), none, false⟩, ⟨.mv (.t 1), none, false⟩], [(7, 1), (6, 0)], [2], none⟩
abbrev r_law43_NestedFirst_9 : Reg := ⟨[⟨.mv (.v 6), none, false⟩, ⟨.bin .eql (.t 0) (.c (.int (0))), none, false⟩, ⟨.mv (.t 0), none, false⟩, ⟨.mv (.v 7), some (.t 0, true), false⟩, ⟨.pick (.t 1) (.t 0) (.c (.bool false)), none, false⟩, ⟨.mv (.t 0), none, false⟩, ⟨.mv (.v 5), some (.t 0, true), false⟩, ⟨.not (.t 0), some (.t 1, true), false⟩, ⟨.mv (.t 0), some (.t 2, true), false⟩, ⟨.mv (.v 4), some (.t 0, false), false⟩, ⟨.mv (.v 1), some (.t 1, false), false⟩, ⟨.cal F_ref01_Compare [(.t 1), (.t 0)], some (.t 2, false), false⟩, ⟨.bin .gtr (.t 0) (.c (.int (0))), some (.t 3, false), false⟩, ⟨.pick (.t 4) (.c (.bool true)) (.t 0), some (.t 7, true), false⟩, ⟨.pick (.t 8) (.t 0) (.c (.bool false)), none, false⟩], [], [1, 4, 5, 6, 7], some (76, 0)⟩
abbrev r_law43_NestedFirst_10 : Reg := ⟨[⟨.mv (.c (.bool false)), none, false⟩], [(8, 0)], [], none⟩
abbrev r_law43_NestedFirst_11 : Reg := ⟨[⟨.cal F_law43_awake [], none, false⟩, ⟨.mv (.t 0), none, false⟩], [(8, 0)], [], none⟩
abbrev ir_law43_NestedFirst : Fn := { np := 2, nv := 9, res := [(8, none)], body :=
(.seq (.reg r_law43_NestedFirst_0)
 (.seq (.seq (.reg r_law43_NestedFirst_1)
 (.cond 17 (.seq (.reg r_law43_NestedFirst_2)
 .ret) .skip))
 (.seq (.reg r_law43_NestedFirst_3)
 (.seq (.seq (.reg r_law43_NestedFirst_4)
 (.cond 26 (.seq (.reg r_law43_NestedFirst_5)
 .ret) .skip))
 (.seq (.seq (.reg r_law43_NestedFirst_6)
 (.cond 55 (.seq (.reg r_law43_NestedFirst_7)
 .ret) .skip))
 (.seq (.reg r_law43_NestedFirst_8)
 (.seq (.seq (.reg r_law43_NestedFirst_9)
 (.cond 76 (.seq (.reg r_law43_NestedFirst_10)
 .ret) .skip))
 (.seq (.reg r_law43_NestedFirst_11)
 .ret)))))))) }
/- f10 law43_NestedApart : 0:a 1:b 2:w 3:a 4:b 5:e 6:u 7:differ 8:f 9:g 10:x 11:y 12:_ -/
abbrev r_law43_NestedApart_0 : Reg := ⟨[⟨.bxi (.v 0), none, false⟩, ⟨.bxi (.v 1), none, false⟩, ⟨.mv (.c (.bool false)), none, false⟩], [(3, 2), (4, 1)], [0, 1, 12], none⟩
abbrev r_law43_NestedApart_1 : Reg := ⟨[⟨.ldi (.v 3) (some 10), none, false⟩, ⟨.cal F_law43_Small [(.t 0)], none, false⟩, ⟨.not (.t 0), none, false⟩, ⟨.mv (.t 0), none, false⟩, ⟨.ldi (.v 4) (some 10), some (.t 0, false), false⟩, ⟨.cal F_law43_Small [(.t 0)], some (.t 1, false), false⟩, ⟨.not (.t 0), some (.t 2, false), false⟩, ⟨.pick (.t 3) (.c (.bool true)) (.t 0), none, false⟩, ⟨.mv (.t 0), none, false⟩, ⟨.mv (.v 2), some (.t 0, false), false⟩, ⟨.len (.t 0), some (.t 1, false), false⟩, ⟨.bin .gtr (.t 0) (.c (.int (60))), some (.t 2, false), false⟩, ⟨.pick (.t 3) (.c (.bool true)) (.t 0), none, false⟩], [], [], some (26, 0)⟩
abbrev r_law43_NestedApart_2 : Reg := ⟨[⟨.cal F_law43_awake [], none, false⟩, ⟨.mv (.t 0), none, false⟩], [(12, 0)], [2, 3, 4], none⟩
abbrev r_law43_NestedApart_3 : Reg := ⟨[⟨.ldi (.v 3) (some 10), none, false⟩, ⟨.ldi (.v 4) (some 10), none, false⟩, ⟨.cal F_nested_Differ [(.t 1), (.t 0)], none, false⟩, ⟨.mv (.t 0), none, false⟩, ⟨.ext (.t 0) 0, none, false⟩, ⟨.ext (.t 1) 1, none, false⟩, ⟨.ext (.t 2) 2, none, false⟩, ⟨.mv (.t 2), none, false⟩, ⟨.mv (.t 2), none, false⟩, ⟨.mv (.t 2), none, false⟩], [(6, 2), (7, 1), (5, 0)], [], none⟩
abbrev r_law43_NestedApart_4 : Reg := ⟨[⟨.mv (.v 5), none, false⟩, ⟨.bin .neq (.t 0) (.c (.int (0))), none, false⟩], [], [5], some (36, 0)⟩
abbrev r_law43_NestedApart_5 : Reg := ⟨[⟨.mv (.v 6), none, false⟩, ⟨.len (.t 0), none, false⟩, ⟨.bin .eql (.t 0) (.c (.int (0))), none, false⟩, ⟨.mv (.t 0), none, false⟩, ⟨.mv (.v 7), some (.t 0, true), false⟩, ⟨.not (.t 0), some (.t 1, true), false⟩, ⟨.pick (.t 2) (.t 0) (.c (.bool false)), none, false⟩, ⟨.mv (.t 0), none, false⟩, ⟨.cal F_law43_awake [], some (.t 0, true), false⟩, ⟨.pick (.t 1) (.t 0) (.c (.bool false)), none, false⟩, ⟨.mv (.t 0), none, false⟩], [(12, 0)], [2, 3, 4, 6, 7], none⟩
abbrev r_law43_NestedApart_6 : Reg := ⟨[⟨.mv (.v 7), none, false⟩, ⟨.mv (.t 0), none, false⟩, ⟨.ldi (.v 3) (some 10), some (.t 0, true), false⟩, ⟨.mv (.v 6), some (.t 1, true), false⟩, ⟨.cal F_ref43_Matched [(.t 1), (.t 0)], some (.t 2, true), false⟩, ⟨.not (.t 0), some (.t 3, true), false⟩, ⟨.mv (.t 0), some (.t 4, true), false⟩, ⟨.fad (.v 3) 5 none, some (.t 0, false), false⟩, ⟨.ldi (.t 0) none, some (.t 1, false), false⟩, ⟨.ldi (.v 3) (some 10), some (.t 2, false), false⟩, ⟨.fad (.v 3) 4 none, some (.t 3, false), false⟩, ⟨.ldi (.t 0) none, some (.t 4, false), false⟩, ⟨.mv (.v 6), some (.t 5, false), false⟩, ⟨.cal F_ref43_From [(.t 3), (.t 1), (.t 0)], some (.t 6, false), false⟩, ⟨.iad (.t 5) (.t 0) 1, some (.t 7, false), false⟩, ⟨.ldi (.t 0) none, some (.t 8, false), false⟩, ⟨.fad (.v 4) 5 none, some (.t 9, false), false⟩, ⟨.ldi (.t 0) none, some (.t 10, false), false⟩, ⟨.ldi (.v 4) (some 10), some (.t 11, false), false⟩, ⟨.fad (.v 4) 4 none, some (.t 12, false), false⟩, ⟨.ldi (.t 0) none, some (.t 13, false), false⟩, ⟨.mv (.v 6), some (.t 14, false), false⟩, ⟨.cal F_ref43_From [(.t 3), (.t 1), (.t 0)], some (.t 15, false), false⟩, ⟨.iad (.t 5) (.t 0) 1, some (.t 16, false), false⟩, ⟨.ldi (.t 0) none, some (.t 17, false), false⟩, ⟨.beq false (.t 9) (.t 0), some (.t 18, false), false⟩, ⟨.pick (.t 19) (.c (.bool true)) (.t 0), some (.t 24, true), false⟩, ⟨.pick (.t 25) (.t 0) (.c (.bool false)), none, false⟩], [], [], some (74, 0)⟩
abbrev r_law43_NestedApart_7 : Reg := ⟨[⟨.mv (.c (.bool false)), none, false⟩], [(12, 0)], [2, 3, 4, 6, 7], none⟩
abbrev r_law43_NestedApart_8 : Reg := ⟨[⟨.ldi (.v 3) (some 10), none, false⟩, ⟨.mv (.v 2), none, false⟩, ⟨.cal F_nested_Accepts [(.t 1), (.t 0)], none, false⟩, ⟨.mv (.t 0), none, false⟩, ⟨.ext (.t 0) 0, none, false⟩, ⟨.ext (.t 1) 1, none, false⟩, ⟨.mv (.t 1), none, false⟩, ⟨.mv (.t 1), none, false⟩], [(10, 1), (8, 0)], [3], none⟩
abbrev r_law43_NestedApart_9 : Reg := ⟨[⟨.ldi (.v 4) (some 10), none, false⟩, ⟨.mv (.v 2), none, false⟩, ⟨.cal F_nested_Accepts [(.t 1), (.t 0)], none, false⟩, ⟨.mv (.t 0), none, false⟩, ⟨.ext (.t 0) 0, none, false⟩, ⟨.ext (.t 1) 1, none, false⟩, ⟨.mv (.t 1), none, false⟩, ⟨.mv (.t 1), none, false⟩], [(11, 1), (9, 0)], [4], none⟩
abbrev r_law43_NestedApart_10 : Reg := ⟨[⟨.mv (.v 8), none, false⟩, ⟨.bin .eql (.t 0) (.c (.int (0))), none, false⟩, ⟨.mv (.t 0), none, false⟩, ⟨.mv (.v 9), some (.t 0, true), false⟩, ⟨.bin .eql (.t 0) (.c (.int (0))), some (.t 1, true), false⟩, ⟨.pick (.t 2) (.t 0) (.c (.bool false)), none, false⟩, ⟨.mv (.t 0), none, false⟩, ⟨.mv (.v 10), some (.t 0, true), false⟩, ⟨.mv (.v 11), some (.t 1, true), false⟩, ⟨.beq true (.t 1) (.t 0), some (.t 2, true), false⟩, ⟨.pick (.t 3) (.t 0) (.c (.bool false)), none, false⟩, ⟨.mv (.t 0), none, false⟩, ⟨.mv (.v 7), some (.t 0, true), false⟩, ⟨.not (.t 0), some (.t 1, true), false⟩, ⟨.mv (.t 0), some (.t 2, true), false⟩, ⟨.mv (.v 6), some (.t 0, false), false⟩, ⟨.mv (.v 2), some (.t 1, false), false⟩, ⟨.cal F_ref01_Compare [(.t 1), (.t 0)], some (.t 2, false), false⟩, ⟨.bin .gtr (.t 0) (.c (.int (0))), some (.t 3, false), false⟩, ⟨.pick (.t 4) (.c (.bool true)) (.t 0), some (.t 7, true), false⟩, ⟨.pick (.t 8) (.t 0) (.c (.bool false)), none, false⟩], [], [2, 6, 7, 8, 9, 10, 11], some (107, 0)⟩
abbrev r_law43_NestedApart_11 : Reg := ⟨[⟨.mv (.c (.bool false)), none, false⟩], [(12, 0)], [], none⟩
abbrev r_law43_NestedApart_12 : Reg := ⟨[⟨.cal F_law43_awake [], none, false⟩, ⟨.mv (.t 0), none, false⟩], [(12, 0)], [], none⟩
abbrev ir_law43_NestedApart : Fn := { np := 3, nv := 13, res := [(12, none)], body :=
(.seq (.reg r_law43_NestedApart_0)
 (.seq (.seq (.reg r_law43_NestedApart_1)
 (.cond 26 (.seq (.reg r_law43_NestedApart_2)
 .ret) .skip))
 (.seq (.reg r_law43_NestedApart_3)
 (.seq (.seq (.reg r_law43_NestedApart_4)
 (.cond 36 (.seq (.reg r_law43_NestedApart_5)
 .ret) .skip))
 (.seq (.seq (.reg r_law43_NestedApart_6)
 (.cond 74 (.seq (.reg r_law43_NestedApart_7)
 .ret) .skip))
 (.seq (.reg r_law43_NestedApart_8)
 (.seq (.reg r_law43_NestedApart_9)
 (.seq (.seq (.reg r_law43_NestedApart_10)
 (.cond 107 (.seq (.reg r_law43_NestedApart_11)
 .ret) .skip))
 (.seq (.reg r_law43_NestedApart_12)
 .ret))))))))) }
/- f11 nested_Valid : 0:n 1:n 2:states 3:_ 4:_ 5:s 6:e 7:_ -/
abbrev r_nested_Valid_0 : Reg := ⟨[⟨.bxi (.v 0), none, false⟩, ⟨.mv (.c (.int (0))), none, false⟩], [(1, 1)], [0, 7], none⟩
abbrev r_nested_Valid_1 : Reg := ⟨[⟨.fad (.v 1) 5 none, none, false⟩, ⟨.ldi (.t 0) none, none, false⟩, ⟨.len (.t 0), none, false⟩, ⟨.mv (.t 0), none, false⟩], [(2, 0)], [], none⟩
abbrev r_nested_Valid_2 : Reg := ⟨[⟨.fad (.v 1) 0 none, none, false⟩, ⟨.ldi (.t 0) none, none, false⟩, ⟨.fad (.v 1) 1 none, none, false⟩, ⟨.ldi (.t 0) none, none, false⟩, ⟨.fad (.v 1) 2 none, none, false⟩, ⟨.ldi (.t 0) none, none, false⟩, ⟨.liti [(.t 4), (.t 2), (.t 0)] 1, none, false⟩, ⟨.cal F_nested_outside [(.t 0), (.c (.int (65)))], none, false⟩, ⟨.mv (.t 0), none, false⟩], [], [], some (9, 0)⟩
abbrev r_nested_Valid_3 : Reg := ⟨[⟨.mv (.c (.int (2))), none, false⟩], [(7, 0)], [1, 2], none⟩
abbrev r_nested_Valid_4 : Reg := ⟨[⟨.ldi (.v 1) (some 10), none, false⟩, ⟨.cal F_nested_symbols [(.t 0)], none, false⟩, ⟨.bin .lss (.t 0) (.c (.int (1))), none, false⟩, ⟨.mv (.t 0), none, false⟩, ⟨.ldi (.v 1) (some 10), some (.t 0, false), false⟩, ⟨.cal F_nested_symbols [(.t 0)], some (.t 1, false), false⟩, ⟨.bin .gtr (.t 0) (.c (.int (64))), some (.t 2, false), false⟩, ⟨.pick (.t 3) (.c (.bool true)) (.t 0), none, false⟩, ⟨.mv (.t 0), none, false⟩, ⟨.fad (.v 1) 3 none, some (.t 0, false), false⟩, ⟨.ldi (.t 0) none, some (.t 1, false), false⟩, ⟨.bin .lss (.t 0) (.c (.int (1))), some (.t 2, false), false⟩, ⟨.pick (.t 3) (.c (.bool true)) (.t 0), none, false⟩, ⟨.mv (.t 0), none, false⟩, ⟨.fad (.v 1) 3 none, some (.t 0, false), false⟩, ⟨.ldi (.t 0) none, some (.t 1, false), false⟩, ⟨.bin .gtr (.t 0) (.c (.int (128))), some (.t 2, false), false⟩, ⟨.pick (.t 3) (.c (.bool true)) (.t 0), none, false⟩, ⟨.mv (.t 0), none, false⟩], [], [], some (18, 0)⟩
abbrev r_nested_Valid_5 : Reg := ⟨[⟨.mv (.c (.int (2))), none, false⟩], [(7, 0)], [1, 2], none⟩
abbrev r_nested_Valid_6 : Reg := ⟨[⟨.mv (.v 2), none, false⟩, ⟨.bin .eql (.t 0) (.c (.int (0))), none, false⟩, ⟨.mv (.t 0), none, false⟩], [], [], some (37, 0)⟩
abbrev r_nested_Valid_7 : Reg := ⟨[⟨.mv (.c (.int (19))), none, false⟩], [(7, 0)], [1, 2], none⟩
abbrev r_nested_Valid_8 : Reg := ⟨[⟨.mv (.v 2), none, false⟩, ⟨.bin .gtr (.t 0) (.c (.int (128))), none, false⟩, ⟨.mv (.t 0), none, false⟩], [], [], some (40, 0)⟩
abbrev r_nested_Valid_9 : Reg := ⟨[⟨.mv (.c (.int (11))), none, false⟩], [(7, 0)], [1, 2], none⟩
abbrev r_nested_Valid_10 : Reg := ⟨[⟨.fad (.v 1) 4 none, none, false⟩, ⟨.ldi (.t 0) none, none, false⟩, ⟨.bin .lss (.t 0) (.c (.int (0))), none, false⟩, ⟨.mv (.t 0), none, false⟩, ⟨.fad (.v 1) 4 none, some (.t 0, false), false⟩, ⟨.ldi (.t 0) none, some (.t 1, false), false⟩, ⟨.mv (.v 2), some (.t 2, false), false⟩, ⟨.bin .geq (.t 1) (.t 0), some (.t 3, false), false⟩, ⟨.pick (.t 4) (.c (.bool true)) (.t 0), none, false⟩, ⟨.mv (.t 0), none, false⟩], [], [], some (43, 0)⟩
abbrev r_nested_Valid_11 : Reg := ⟨[⟨.mv (.c (.int (2))), none, false⟩], [(7, 0)], [1, 2], none⟩
abbrev r_nested_Valid_12 : Reg := ⟨[⟨.fad (.v 1) 6 none, none, false⟩, ⟨.ldi (.t 0) none, none, false⟩, ⟨.len (.t 0), none, false⟩, ⟨.mv (.v 2), none, false⟩, ⟨.bin .neq (.t 1) (.t 0), none, false⟩, ⟨.mv (.t 0), none, false⟩, ⟨.fad (.v 1) 7 none, some (.t 0, false), false⟩, ⟨.ldi (.t 0) none, some (.t 1, false), false⟩, ⟨.len (.t 0), some (.t 2, false), false⟩, ⟨.mv (.v 2), some (.t 3, false), false⟩, ⟨.bin .neq (.t 1) (.t 0), some (.t 4, false), false⟩, ⟨.pick (.t 5) (.c (.bool true)) (.t 0), none, false⟩, ⟨.mv (.t 0), none, false⟩, ⟨.fad (.v 1) 8 none, some (.t 0, false), false⟩, ⟨.ldi (.t 0) none, some (.t 1, false), false⟩, ⟨.len (.t 0), some (.t 2, false), false⟩, ⟨.mv (.v 2), some (.t 3, false), false⟩, ⟨.bin .neq (.t 1) (.t 0), some (.t 4, false), false⟩, ⟨.pick (.t 5) (.c (.bool true)) (.t 0), none, false⟩, ⟨.mv (.t 0), none, false⟩, ⟨.fad (.v 1) 9 none, some (.t 0, false), false⟩, ⟨.ldi (.t 0) none, some (.t 1, false), false⟩, ⟨.len (.t 0), some (.t 2, false), false⟩, ⟨.mv (.v 2), some (.t 3, false), false⟩, ⟨.bin .neq (.t 1) (.t 0), some (.t 4, false), false⟩, ⟨.pick (.t 5) (.c (.bool true)) (.t 0), none, false⟩, ⟨.mv (.t 0), none, false⟩], [], [], some (53, 0)⟩
abbrev r_nested_Valid_13 : Reg := ⟨[⟨.mv (.c (.int (1))), none, false⟩], [(7, 0)], [1, 2], none⟩
abbrev r_nested_Valid_14 : Reg := ⟨[⟨.mv (.v 2), none, false⟩, ⟨.mv (.c (.int (0))), none, false⟩], [(4, 1), (3, 0)], [2], none⟩
abbrev r_nested_Valid_15 : Reg := ⟨[⟨.bin .lss (.v 3) (.v 4), none, false⟩], [], [], some (82, 0)⟩
abbrev r_nested_Valid_16 : Reg := ⟨[⟨.mv (.v 3), none, false⟩, ⟨.mv (.t 0), none, false⟩], [(5, 0)], [], none⟩
abbrev r_nested_Valid_17 : Reg := ⟨[⟨.ldi (.v 1) (some 10), none, false⟩, ⟨.mv (.v 5), none, false⟩, ⟨.cal F_nested_row [(.t 1), (.t 0)], none, false⟩, ⟨.mv (.t 0), none, false⟩], [(6, 0)], [5], none⟩
abbrev r_nested_Valid_18 : Reg := ⟨[⟨.mv (.v 6), none, false⟩, ⟨.bin .neq (.t 0) (.c (.int (0))), none, false⟩], [], [], some (88, 0)⟩
abbrev r_nested_Valid_19 : Reg := ⟨[⟨.mv (.v 6), none, false⟩, ⟨.mv (.t 0), none, false⟩], [(7, 0)], [1, 3, 4, 6], none⟩
abbrev r_nested_Valid_20 : Reg := ⟨[⟨.bin .add (.v 3) (.c (.int (1))), none, false⟩, ⟨.mv (.t 0), none, false⟩], [(3, 0)], [6], none⟩
abbrev b_nested_Valid_1 : IC := (.seq (.reg r_nested_Valid_15)
 (.seq (.cond 82 .skip (.exit 1))
 (.seq (.block 2 (.seq (.reg r_nested_Valid_16)
 (.seq (.reg r_nested_Valid_17)
 (.seq (.reg r_nested_Valid_18)
 (.cond 88 (.seq (.reg r_nested_Valid_19)
 .ret) .skip)))))
 (.reg r_nested_Valid_20))))
abbrev r_nested_Valid_21 : Reg := ⟨[⟨.mv (.c (.int (0))), none, false⟩], [(7, 0)], [1, 3, 4], none⟩
abbrev ir_nested_Valid : Fn := { np := 1, nv := 8, res := [(7, none)], body :=
(.seq (.reg r_nested_Valid_0)
 (.seq (.reg r_nested_Valid_1)
 (.seq (.block 0 (.seq (.reg r_nested_Valid_2)
 (.cond 9 (.seq (.reg r_nested_Valid_3)
 .ret) (.seq (.reg r_nested_Valid_4)
 (.cond 18 (.seq (.reg r_nested_Valid_5)
 .ret) (.seq (.reg r_nested_Valid_6)
 (.cond 37 (.seq (.reg r_nested_Valid_7)
 .ret) (.seq (.reg r_nested_Valid_8)
 (.cond 40 (.seq (.reg r_nested_Valid_9)
 .ret) (.seq (.reg r_nested_Valid_10)
 (.cond 43 (.seq (.reg r_nested_Valid_11)
 .ret) (.seq (.reg r_nested_Valid_12)
 (.cond 53 (.seq (.reg r_nested_Valid_13)
 .ret) .skip)))))))))))))
 (.seq (.seq (.reg r_nested_Valid_14)
 (.block 1 (.loop b_nested_Valid_1)))
 (.seq (.reg r_nested_Valid_21)
 .ret))))) }
/- f12 ref43_Valid : 0:n 1:n 2:e 3:s 4:e 5:_ -/
abbrev r_ref43_Valid_0 : Reg := ⟨[⟨.bxi (.v 0), none, false⟩, ⟨.mv (.c (.int (0))), none, false⟩], [(1, 1)], [0, 5], none⟩
abbrev r_ref43_Valid_1 : Reg := ⟨[⟨.ldi (.v 1) (some 10), none, false⟩, ⟨.cal F_ref43_sizes [(.t 0)], none, false⟩, ⟨.mv (.t 0), none, false⟩], [(2, 0)], [], none⟩
abbrev r_ref43_Valid_2 : Reg := ⟨[⟨.mv (.v 2), none, false⟩, ⟨.bin .neq (.t 0) (.c (.int (0))), none, false⟩], [], [], some (9, 0)⟩
abbrev r_ref43_Valid_3 : Reg := ⟨[⟨.mv (.v 2), none, false⟩, ⟨.mv (.t 0), none, false⟩], [(5, 0)], [1, 2], none⟩
abbrev r_ref43_Valid_4 : Reg := ⟨[⟨.mv (.c (.int (0))), none, false⟩], [(3, 0)], [2], none⟩
abbrev r_ref43_Valid_5 : Reg := ⟨[⟨.mv (.v 3), none, false⟩, ⟨.fad (.v 1) 5 none, none, false⟩, ⟨.ldi (.t 0) none, none, false⟩, ⟨.len (.t 0), none, false⟩, ⟨.bin .lss (.t 3) (.t 0), none, false⟩], [], [], some (15, 0)⟩
abbrev r_ref43_Valid_7 : Reg := ⟨[⟨.ldi (.v 1) (some 10), none, false⟩, ⟨.mv (.v 3), none, false⟩, ⟨.cal F_ref43_state [(.t 1), (.t 0)], none, false⟩, ⟨.mv (.t 0), none, false⟩], [(4, 0)], [], none⟩
abbrev r_ref43_Valid_8 : Reg := ⟨[⟨.mv (.v 4), none, false⟩, ⟨.bin .neq (.t 0) (.c (.int (0))), none, false⟩], [], [], some (22, 0)⟩
abbrev r_ref43_Valid_9 : Reg := ⟨[⟨.mv (.v 4), none, false⟩, ⟨.mv (.t 0), none, false⟩], [(5, 0)], [1, 3, 4], none⟩
abbrev r_ref43_Valid_6 : Reg := ⟨[⟨.mv (.v 3), none, false⟩, ⟨.bin .add (.t 0) (.c (.int (1))), none, false⟩, ⟨.mv (.t 0), none, false⟩], [(3, 0)], [4], none⟩
abbrev b_ref43_Valid_0 : IC := (.seq (.seq (.reg r_ref43_Valid_5)
 (.cond 15 .skip (.exit 0)))
 (.seq (.block 1 (.seq (.reg r_ref43_Valid_7)
 (.seq (.reg r_ref43_Valid_8)
 (.cond 22 (.seq (.reg r_ref43_Valid_9)
 .ret) .skip))))
 (.reg r_ref43_Valid_6)))
abbrev r_ref43_Valid_10 : Reg := ⟨[⟨.mv (.c (.int (0))), none, false⟩], [(5, 0)], [1, 3], none⟩
abbrev ir_ref43_Valid : Fn := { np := 1, nv := 6, res := [(5, none)], body :=
(.seq (.reg r_ref43_Valid_0)
 (.seq (.seq (.reg r_ref43_Valid_1)
 (.seq (.reg r_ref43_Valid_2)
 (.cond 9 (.seq (.reg r_ref43_Valid_3)
 .ret) .skip)))
 (.seq (.seq (.reg r_ref43_Valid_4)
 (.block 0 (.loop b_ref43_Valid_0)))
 (.seq (.reg r_ref43_Valid_10)
 .ret)))) }
/- f13 law43_awake : 0:all 1:e 2:f 3:g 4:h 5:i 6:j 7:a 8:b 9:c 10:ok 11:differ 12:w 13:t 14:v 15:_ -/
abbrev r_law43_awake_0 : Reg := ⟨[⟨.mv (.c (.bool false)), none, false⟩], [], [15], none⟩
abbrev r_law43_awake_1 : Reg := ⟨[⟨.cal F_law43_Brackets [], none, false⟩, ⟨.liti [(.c (.int (0))), (.c (.int (1))), (.c (.int (3))), (.c (.int (2)))] 1, none, false⟩, ⟨.cal F_nested_Accepts [(.t 1), (.t 0)], none, false⟩, ⟨.mv (.t 0), none, false⟩, ⟨.ext (.t 0) 0, none, false⟩, ⟨.ext (.t 1) 1, none, false⟩, ⟨.mv (.t 1), none, false⟩, ⟨.mv (.t 1), none, false⟩], [(7, 1), (1, 0)], [], none⟩
abbrev r_law43_awake_2 : Reg := ⟨[⟨.cal F_law43_Brackets [], none, false⟩, ⟨.liti [(.c (.int (0))), (.c (.int (3)))] 1, none, false⟩, ⟨.cal F_nested_Accepts [(.t 1), (.t 0)], none, false⟩, ⟨.mv (.t 0), none, false⟩, ⟨.ext (.t 0) 0, none, false⟩, ⟨.ext (.t 1) 1, none, false⟩, ⟨.mv (.t 1), none, false⟩, ⟨.mv (.t 1), none, false⟩], [(8, 1), (2, 0)], [], none⟩
abbrev r_law43_awake_3 : Reg := ⟨[⟨.cal F_law43_Brackets [], none, false⟩, ⟨.liti [(.c (.int (0)))] 1, none, false⟩, ⟨.cal F_nested_Accepts [(.t 1), (.t 0)], none, false⟩, ⟨.mv (.t 0), none, false⟩, ⟨.ext (.t 0) 0, none, false⟩, ⟨.ext (.t 1) 1, none, false⟩, ⟨.mv (.t 1), none, false⟩, ⟨.mv (.t 1), none, false⟩], [(9, 1), (3, 0)], [], none⟩
abbrev r_law43_awake_4 : Reg := ⟨[⟨.cal F_law43_Brackets [], none, false⟩, ⟨.cal F_nested_Pairs [(.t 0)], none, false⟩, ⟨.mv (.t 0), none, false⟩, ⟨.ext (.t 0) 0, none, false⟩, ⟨.ext (.t 1) 1, none, false⟩, ⟨.mv (.t 1), none, false⟩, ⟨.mv (.t 1), none, false⟩], [(13, 1), (4, 0)], [], none⟩
abbrev r_law43_awake_5 : Reg := ⟨[⟨.cal F_law43_Brackets [], none, false⟩, ⟨.cal F_nested_Shortest [(.t 0)], none, false⟩, ⟨.mv (.t 0), none, false⟩, ⟨.ext (.t 0) 0, none, false⟩, ⟨.ext (.t 1) 1, none, false⟩, ⟨.ext (.t 2) 2, none, false⟩, ⟨.mv (.t 2), none, false⟩, ⟨.mv (.t 2), none, false⟩, ⟨.mv (.t 2), none, false⟩], [(12, 2), (10, 1), (5, 0)], [], none⟩
abbrev r_law43_awake_6 : Reg := ⟨[⟨.cal F_law43_Brackets [], none, false⟩, ⟨.alc [.int 0, .int 0, .int 0, .int 0, .int 0, .snil, .snil, .snil, .snil, .snil] (some 10), none, false⟩, ⟨.st (.t 0) (.t 1) 10, none, false⟩], [(0, 1)], [], none⟩
abbrev r_law43_awake_7 : Reg := ⟨[⟨.liti [(.c (.bool true)), (.c (.bool true))] 1, none, false⟩, ⟨.fad (.v 0) 5 none, none, false⟩, ⟨.st (.t 0) (.t 1) 1, none, false⟩], [], [], none⟩
abbrev r_law43_awake_8 : Reg := ⟨[⟨.cal F_law43_Brackets [], none, false⟩, ⟨.ld (.v 0) (some 10), none, false⟩, ⟨.cal F_nested_Differ [(.t 1), (.t 0)], none, false⟩, ⟨.mv (.t 0), none, false⟩, ⟨.ext (.t 0) 0, none, false⟩, ⟨.ext (.t 1) 1, none, false⟩, ⟨.ext (.t 2) 2, none, false⟩, ⟨.mv (.t 2), none, false⟩, ⟨.mv (.t 2), none, false⟩, ⟨.mv (.t 2), none, false⟩], [(14, 2), (11, 1), (6, 0)], [0], none⟩
abbrev r_law43_awake_9 : Reg := ⟨[⟨.mv (.v 1), none, false⟩, ⟨.bin .neq (.t 0) (.c (.int (0))), none, false⟩, ⟨.mv (.t 0), none, false⟩, ⟨.mv (.v 2), some (.t 0, false), false⟩, ⟨.bin .neq (.t 0) (.c (.int (0))), some (.t 1, false), false⟩, ⟨.pick (.t 2) (.c (.bool true)) (.t 0), none, false⟩, ⟨.mv (.t 0), none, false⟩, ⟨.mv (.v 3), some (.t 0, false), false⟩, ⟨.bin .neq (.t 0) (.c (.int (0))), some (.t 1, false), false⟩, ⟨.pick (.t 2) (.c (.bool true)) (.t 0), none, false⟩, ⟨.mv (.t 0), none, false⟩, ⟨.mv (.v 4), some (.t 0, false), false⟩, ⟨.bin .neq (.t 0) (.c (.int (0))), some (.t 1, false), false⟩, ⟨.pick (.t 2) (.c (.bool true)) (.t 0), none, false⟩, ⟨.mv (.t 0), none, false⟩, ⟨.mv (.v 5), some (.t 0, false), false⟩, ⟨.bin .neq (.t 0) (.c (.int (0))), some (.t 1, false), false⟩, ⟨.pick (.t 2) (.c (.bool true)) (.t 0), none, false⟩, ⟨.mv (.t 0), none, false⟩, ⟨.mv (.v 6), some (.t 0, false), false⟩, ⟨.bin .neq (.t 0) (.c (.int (0))), some (.t 1, false), false⟩, ⟨.pick (.t 2) (.c (.bool true)) (.t 0), none, false⟩, ⟨.mv (.t 0), none, false⟩, ⟨.mv (.v 7), some (.t 0, false), false⟩, ⟨.not (.t 0), some (.t 1, false), false⟩, ⟨.pick (.t 2) (.c (.bool true)) (.t 0), none, false⟩, ⟨.mv (.t 0), none, false⟩, ⟨.mv (.v 8), some (.t 0, false), false⟩, ⟨.pick (.t 1) (.c (.bool true)) (.t 0), none, false⟩, ⟨.mv (.t 0), none, false⟩, ⟨.mv (.v 9), some (.t 0, false), false⟩, ⟨.pick (.t 1) (.c (.bool true)) (.t 0), none, false⟩, ⟨.mv (.t 0), none, false⟩, ⟨.mv (.v 10), some (.t 0, false), false⟩, ⟨.not (.t 0), some (.t 1, false), false⟩, ⟨.pick (.t 2) (.c (.bool true)) (.t 0), none, false⟩, ⟨.mv (.t 0), none, false⟩, ⟨.mv (.v 11), some (.t 0, false), false⟩, ⟨.not (.t 0), some (.t 1, false), false⟩, ⟨.pick (.t 2) (.c (.bool true)) (.t 0), none, false⟩, ⟨.mv (.t 0), none, false⟩, ⟨.mv (.v 12), some (.t 0, false), false⟩, ⟨.len (.t 0), some (.t 1, false), false⟩, ⟨.bin .neq (.t 0) (.c (.int (0))), some (.t 2, false), false⟩, ⟨.pick (.t 3) (.c (.bool true)) (.t 0), none, false⟩], [], [1, 2, 3, 4, 5, 6, 7, 8, 9, 10, 11, 12], some (99, 0)⟩
abbrev r_law43_awake_10 : Reg := ⟨[⟨.mv (.c (.bool false)), none, false⟩], [(15, 0)], [13, 14], none⟩
abbrev r_law43_awake_11 : Reg := ⟨[⟨.mv (.v 13), none, false⟩, ⟨.liti [(.c (.bool true)), (.c (.bool true))] 1, none, false⟩, ⟨.liti [(.c (.bool false)), (.c (.bool true))] 1, none, false⟩, ⟨.liti [(.t 1), (.t 0)] 1, none, false⟩, ⟨.cal F_ref43_SameTables [(.t 3), (.t 0)], none, false⟩, ⟨.mv (.t 0), none, false⟩, ⟨.mv (.v 14), some (.t 0, true), false⟩, ⟨.liti [(.c (.int (0))), (.c (.int (3)))] 1, some (.t 1, true), false⟩, ⟨.cal F_ref06_Ints [(.t 1), (.t 0)], some (.t 2, true), false⟩, ⟨.pick (.t 3) (.t 0) (.c (.bool false)), none, false⟩, ⟨.mv (.t 0), none, false⟩, ⟨.cal F_law43_Brackets [], some (.t 0, true), false⟩, ⟨.liti [(.c (.int (0))), (.c (.int (3)))] 1, some (.t 1, true), false⟩, ⟨.cal F_nested_Matched [(.t 1), (.t 0)], some (.t 2, true), false⟩, ⟨.pick (.t 3) (.t 0) (.c (.bool false)), none, false⟩, ⟨.mv (.t 0), none, false⟩, ⟨.cal F_law43_Brackets [], some (.t 0, true), false⟩, ⟨.liti [(.c (.int (0)))] 1, some (.t 1, true), false⟩, ⟨.cal F_nested_Matched [(.t 1), (.t 0)], some (.t 2, true), false⟩, ⟨.not (.t 0), some (.t 3, true), false⟩, ⟨.pick (.t 4) (.t 0) (.c (.bool false)), none, false⟩, ⟨.mv (.t 0), none, false⟩, ⟨.cal F_law43_Brackets [], some (.t 0, true), false⟩, ⟨.cal F_nested_Valid [(.t 0)], some (.t 1, true), false⟩, ⟨.bin .eql (.t 0) (.c (.int (0))), some (.t 2, true), false⟩, ⟨.pick (.t 3) (.t 0) (.c (.bool false)), none, false⟩, ⟨.mv (.t 0), none, false⟩], [(15, 0)], [13, 14], none⟩
abbrev ir_law43_awake : Fn := { np := 0, nv := 16, res := [(15, none)], body :=
(.seq (.reg r_law43_awake_0)
 (.seq (.reg r_law43_awake_1)
 (.seq (.reg r_law43_awake_2)
 (.seq (.reg r_law43_awake_3)
 (.seq (.reg r_law43_awake_4)
 (.seq (.reg r_law43_awake_5)
 (.seq (.reg r_law43_awake_6)
 (.seq (.reg r_law43_awake_7)
 (.seq (.reg r_law43_awake_8)
 (.seq (.seq (.reg r_law43_awake_9)
 (.cond 99 (.seq (.reg r_law43_awake_10)
 .ret) .skip))
 (.seq (.reg r_law43_awake_11)
 .ret))))))))))) }
/- f14 nested_Accepts : 0:n 1:w 2:n 3:e 4:e 5:most 6:ok 7:_ 8:_ 9:_ 10:a 11:m 12:s 13:g 14:pushed 15:next 16:_ 17:_ -/
abbrev r_nested_Accepts_0 : Reg := ⟨[⟨.bxi (.v 0), none, false⟩, ⟨.mv (.c (.bool false)), none, false⟩, ⟨.mv (.c (.int (0))), none, false⟩], [(2, 2)], [0, 16, 17], none⟩
abbrev r_nested_Accepts_1 : Reg := ⟨[⟨.ldi (.v 2) (some 10), none, false⟩, ⟨.cal F_nested_Valid [(.t 0)], none, false⟩, ⟨.mv (.t 0), none, false⟩], [(3, 0)], [], none⟩
abbrev r_nested_Accepts_2 : Reg := ⟨[⟨.mv (.v 3), none, false⟩, ⟨.bin .neq (.t 0) (.c (.int (0))), none, false⟩], [], [], some (20, 0)⟩
abbrev r_nested_Accepts_3 : Reg := ⟨[⟨.mv (.v 3), none, false⟩, ⟨.mv (.c (.bool false)), none, false⟩, ⟨.mv (.t 1), none, false⟩], [(16, 1), (17, 0)], [1, 2, 3], none⟩
abbrev r_nested_Accepts_4 : Reg := ⟨[⟨.mv (.v 1), none, false⟩, ⟨.ldi (.v 2) (some 10), none, false⟩, ⟨.cal F_nested_symbols [(.t 0)], none, false⟩, ⟨.cal F_word_Check [(.t 2), (.t 0)], none, false⟩, ⟨.mv (.t 0), none, false⟩], [(4, 0)], [3], none⟩
abbrev r_nested_Accepts_5 : Reg := ⟨[⟨.mv (.v 4), none, false⟩, ⟨.bin .neq (.t 0) (.c (.int (0))), none, false⟩], [], [], some (27, 0)⟩
abbrev r_nested_Accepts_6 : Reg := ⟨[⟨.mv (.v 4), none, false⟩, ⟨.mv (.c (.bool false)), none, false⟩, ⟨.mv (.t 1), none, false⟩], [(16, 1), (17, 0)], [1, 2, 4], none⟩
abbrev r_nested_Accepts_7 : Reg := ⟨[⟨.ldi (.v 2) (some 10), none, false⟩, ⟨.mv (.v 1), none, false⟩, ⟨.cal F_nested_levels [(.t 1), (.t 0)], none, false⟩, ⟨.mv (.t 0), none, false⟩, ⟨.ext (.t 0) 0, none, false⟩, ⟨.ext (.t 1) 1, none, false⟩, ⟨.mv (.t 1), none, false⟩, ⟨.mv (.t 1), none, false⟩], [(5, 1), (6, 0)], [4], none⟩
abbrev r_nested_Accepts_8 : Reg := ⟨[⟨.mv (.v 5), none, false⟩, ⟨.bin .gtr (.t 0) (.c (.int (64))), none, false⟩], [], [5], some (36, 0)⟩
abbrev r_nested_Accepts_9 : Reg := ⟨[⟨.mv (.c (.bool false)), none, false⟩, ⟨.mv (.c (.int (16))), none, false⟩], [(16, 1), (17, 0)], [1, 2, 6], none⟩
abbrev r_nested_Accepts_10 : Reg := ⟨[⟨.mv (.v 6), none, false⟩, ⟨.not (.t 0), none, false⟩], [], [6], some (38, 0)⟩
abbrev r_nested_Accepts_11 : Reg := ⟨[⟨.mv (.c (.bool false)), none, false⟩, ⟨.mv (.c (.int (0))), none, false⟩], [(16, 1), (17, 0)], [1, 2], none⟩
abbrev r_nested_Accepts_12 : Reg := ⟨[⟨.alc [.snil] (some 1), none, false⟩], [(14, 0)], [], none⟩
abbrev r_nested_Accepts_13 : Reg := ⟨[⟨.ldi (.v 2) (some 10), none, false⟩, ⟨.bld [.int 0, .int 0, .int 0, .int 0, .int 0, .snil, .snil, .snil, .snil, .snil] [(0, 10, (.t 0))], none, false⟩, ⟨.alc0 10, none, false⟩, ⟨.ini (.t 0) (.t 1) 10, none, false⟩], [(11, 0)], [], none⟩
abbrev r_nested_Accepts_14 : Reg := ⟨[⟨.fad (.v 2) 4 none, none, false⟩, ⟨.ldi (.t 0) none, none, false⟩, ⟨.mv (.t 0), none, false⟩], [(12, 0)], [], none⟩
abbrev r_nested_Accepts_15 : Reg := ⟨[⟨.mv (.v 1), none, false⟩, ⟨.len (.t 0), none, false⟩, ⟨.mv (.c (.int (0))), none, false⟩], [(9, 2), (8, 1), (7, 0)], [1], none⟩
abbrev r_nested_Accepts_16 : Reg := ⟨[⟨.bin .lss (.v 7) (.v 8), none, false⟩], [], [], some (46, 0)⟩
abbrev r_nested_Accepts_17 : Reg := ⟨[⟨.iad (.v 9) (.v 7) 1, none, false⟩, ⟨.ld (.t 0) none, none, false⟩, ⟨.mv (.t 0), none, false⟩], [(10, 0)], [], none⟩
abbrev r_nested_Accepts_19 : Reg := ⟨[⟨.mv (.v 10), none, false⟩, ⟨.fad (.v 2) 0 none, none, false⟩, ⟨.ldi (.t 0) none, none, false⟩, ⟨.bin .lss (.t 2) (.t 0), none, false⟩, ⟨.mv (.t 0), none, false⟩], [], [], some (60, 0)⟩
abbrev r_nested_Accepts_20 : Reg := ⟨[⟨.ldi (.v 11) (some 10), none, false⟩, ⟨.mv (.v 12), none, false⟩, ⟨.mv (.v 10), none, false⟩, ⟨.cal F_nested_single_call [(.t 2), (.t 1), (.t 0)], none, false⟩, ⟨.mv (.t 0), none, false⟩, ⟨.ext (.t 0) 0, none, false⟩, ⟨.ext (.t 1) 1, none, false⟩, ⟨.mv (.t 1), none, false⟩, ⟨.mv (.t 1), none, false⟩], [(15, 1), (13, 0)], [10, 12], none⟩
abbrev r_nested_Accepts_21 : Reg := ⟨[⟨.mv (.v 13), none, false⟩, ⟨.cam F_nested_stack_int_push [(.v 14), (.t 0)], none, false⟩], [], [13], none⟩
abbrev r_nested_Accepts_22 : Reg := ⟨[⟨.mv (.v 15), none, false⟩, ⟨.mv (.t 0), none, false⟩], [(12, 0)], [15], none⟩
abbrev r_nested_Accepts_23 : Reg := ⟨[⟨.mv (.v 10), none, false⟩, ⟨.fad (.v 2) 0 none, none, false⟩, ⟨.ldi (.t 0) none, none, false⟩, ⟨.fad (.v 2) 1 none, none, false⟩, ⟨.ldi (.t 0) none, none, false⟩, ⟨.bin .add (.t 2) (.t 0), none, false⟩, ⟨.bin .lss (.t 5) (.t 0), none, false⟩, ⟨.mv (.t 0), none, false⟩], [], [], some (75, 0)⟩
abbrev r_nested_Accepts_24 : Reg := ⟨[⟨.ldi (.v 11) (some 10), none, false⟩, ⟨.mv (.v 12), none, false⟩, ⟨.mv (.v 10), none, false⟩, ⟨.fad (.v 2) 0 none, none, false⟩, ⟨.ldi (.t 0) none, none, false⟩, ⟨.bin .sub (.t 2) (.t 0), none, false⟩, ⟨.cal F_nested_single_inner [(.t 5), (.t 4), (.t 0)], none, false⟩, ⟨.mv (.t 0), none, false⟩], [(12, 0)], [10], none⟩
abbrev r_nested_Accepts_18 : Reg := ⟨[⟨.ldi (.v 11) (some 10), none, false⟩, ⟨.mv (.v 12), none, false⟩, ⟨.cam F_nested_stack_int_pop [(.v 14)], none, false⟩, ⟨.mv (.v 10), none, false⟩, ⟨.fad (.v 2) 0 none, none, false⟩, ⟨.ldi (.t 0) none, none, false⟩, ⟨.bin .sub (.t 2) (.t 0), none, false⟩, ⟨.fad (.v 2) 1 none, none, false⟩, ⟨.ldi (.t 0) none, none, false⟩, ⟨.bin .sub (.t 2) (.t 0), none, false⟩, ⟨.cal F_nested_single_pop [(.t 9), (.t 8), (.t 7), (.t 0)], none, false⟩, ⟨.mv (.t 0), none, false⟩], [(12, 0)], [10], none⟩
abbrev r_nested_Accepts_25 : Reg := ⟨[⟨.bin .add (.v 7) (.c (.int (1))), none, false⟩, ⟨.mv (.t 0), none, false⟩], [(7, 0)], [], none⟩
abbrev b_nested_Accepts_0 : IC := (.seq (.reg r_nested_Accepts_16)
 (.seq (.cond 46 .skip (.exit 0))
 (.seq (.block 1 (.seq (.reg r_nested_Accepts_17)
 (.block 2 (.seq (.reg r_nested_Accepts_19)
 (.cond 60 (.seq (.reg r_nested_Accepts_20)
 (.seq (.reg r_nested_Accepts_21)
 (.reg r_nested_Accepts_22))) (.seq (.reg r_nested_Accepts_23)
 (.cond 75 (.reg r_nested_Accepts_24) (.reg r_nested_Accepts_18))))))))
 (.reg r_nested_Accepts_25))))
abbrev r_nested_Accepts_26 : Reg := ⟨[⟨.fad (.v 2) 5 none, none, false⟩, ⟨.ldi (.t 0) none, none, false⟩, ⟨.mv (.v 12), none, false⟩, ⟨.iad (.t 1) (.t 0) 1, none, false⟩, ⟨.ldi (.t 0) none, none, false⟩, ⟨.mv (.t 0), none, false⟩, ⟨.mv (.c (.int (0))), none, false⟩], [(16, 1), (17, 0)], [2, 7, 8, 9, 11, 12, 14], none⟩
abbrev ir_nested_Accepts : Fn := { np := 2, nv := 18, res := [(16, none), (17, none)], body :=
(.seq (.reg r_nested_Accepts_0)
 (.seq (.seq (.reg r_nested_Accepts_1)
 (.seq (.reg r_nested_Accepts_2)
 (.cond 20 (.seq (.reg r_nested_Accepts_3)
 .ret) .skip)))
 (.seq (.seq (.reg r_nested_Accepts_4)
 (.seq (.reg r_nested_Accepts_5)
 (.cond 27 (.seq (.reg r_nested_Accepts_6)
 .ret) .skip)))
 (.seq (.reg r_nested_Accepts_7)
 (.seq (.seq (.reg r_nested_Accepts_8)
 (.cond 36 (.seq (.reg r_nested_Accepts_9)
 .ret) .skip))
 (.seq (.seq (.reg r_nested_Accepts_10)
 (.cond 38 (.seq (.reg r_nested_Accepts_11)
 .ret) .skip))
 (.seq (.reg r_nested_Accepts_12)
 (.seq (.reg r_nested_Accepts_13)
 (.seq (.reg r_nested_Accepts_14)
 (.seq (.seq (.reg r_nested_Accepts_15)
 (.block 0 (.loop b_nested_Accepts_0)))
 (.seq (.reg r_nested_Accepts_26)
 .ret))))))))))) }
/- f15 ref43_Accepts : 0:n 1:w 2:n 3:e 4:e 5:most 6:_ 7:_ -/
abbrev r_ref43_Accepts_0 : Reg := ⟨[⟨.bxi (.v 0), none, false⟩, ⟨.mv (.c (.bool false)), none, false⟩, ⟨.mv (.c (.int (0))), none, false⟩], [(2, 2)], [0, 6, 7], none⟩
abbrev r_ref43_Accepts_1 : Reg := ⟨[⟨.ldi (.v 2) (some 10), none, false⟩, ⟨.cal F_ref43_Valid [(.t 0)], none, false⟩, ⟨.mv (.t 0), none, false⟩], [(3, 0)], [], none⟩
abbrev r_ref43_Accepts_2 : Reg := ⟨[⟨.mv (.v 3), none, false⟩, ⟨.bin .neq (.t 0) (.c (.int (0))), none, false⟩], [], [], some (14, 0)⟩
abbrev r_ref43_Accepts_3 : Reg := ⟨[⟨.mv (.v 3), none, false⟩, ⟨.mv (.c (.bool false)), none, false⟩, ⟨.mv (.t 1), none, false⟩], [(6, 1), (7, 0)], [1, 2, 3], none⟩
abbrev r_ref43_Accepts_4 : Reg := ⟨[⟨.mv (.v 1), none, false⟩, ⟨.ldi (.v 2) (some 10), none, false⟩, ⟨.cal F_ref43_Symbols [(.t 0)], none, false⟩, ⟨.cal F_ref01_Check [(.t 2), (.t 0)], none, false⟩, ⟨.mv (.t 0), none, false⟩], [(4, 0)], [3], none⟩
abbrev r_ref43_Accepts_5 : Reg := ⟨[⟨.mv (.v 4), none, false⟩, ⟨.bin .neq (.t 0) (.c (.int (0))), none, false⟩], [], [], some (21, 0)⟩
abbrev r_ref43_Accepts_6 : Reg := ⟨[⟨.mv (.v 4), none, false⟩, ⟨.mv (.c (.bool false)), none, false⟩, ⟨.mv (.t 1), none, false⟩], [(6, 1), (7, 0)], [1, 2, 4], none⟩
abbrev r_ref43_Accepts_7 : Reg := ⟨[⟨.ldi (.v 2) (some 10), none, false⟩, ⟨.mv (.v 1), none, false⟩, ⟨.cal F_ref43_depths [(.t 1), (.t 0)], none, false⟩, ⟨.mv (.t 0), none, false⟩, ⟨.ext (.t 0) 0, none, false⟩, ⟨.ext (.t 1) 1, none, false⟩, ⟨.ext (.t 2) 2, none, false⟩, ⟨.mv (.t 2), none, false⟩, ⟨.mv (.t 2), none, false⟩, ⟨.mv (.t 2), none, false⟩], [(5, 2)], [4], none⟩
abbrev r_ref43_Accepts_8 : Reg := ⟨[⟨.mv (.v 5), none, false⟩, ⟨.bin .gtr (.t 0) (.c (.int (64))), none, false⟩], [], [5], some (31, 0)⟩
abbrev r_ref43_Accepts_9 : Reg := ⟨[⟨.mv (.c (.bool false)), none, false⟩, ⟨.mv (.c (.int (16))), none, false⟩], [(6, 1), (7, 0)], [1, 2], none⟩
abbrev r_ref43_Accepts_10 : Reg := ⟨[⟨.ldi (.v 2) (some 10), none, false⟩, ⟨.mv (.v 1), none, false⟩, ⟨.cal F_ref43_Matched [(.t 1), (.t 0)], none, false⟩, ⟨.mv (.t 0), none, false⟩, ⟨.fad (.v 2) 5 none, some (.t 0, true), false⟩, ⟨.ldi (.t 0) none, some (.t 1, true), false⟩, ⟨.ldi (.v 2) (some 10), some (.t 2, true), false⟩, ⟨.fad (.v 2) 4 none, some (.t 3, true), false⟩, ⟨.ldi (.t 0) none, some (.t 4, true), false⟩, ⟨.mv (.v 1), some (.t 5, true), false⟩, ⟨.cal F_ref43_From [(.t 3), (.t 1), (.t 0)], some (.t 6, true), false⟩, ⟨.iad (.t 5) (.t 0) 1, some (.t 7, true), false⟩, ⟨.ldi (.t 0) none, some (.t 8, true), false⟩, ⟨.pick (.t 9) (.t 0) (.c (.bool false)), none, false⟩, ⟨.mv (.t 0), none, false⟩, ⟨.mv (.c (.int (0))), none, false⟩], [(6, 1), (7, 0)], [1, 2], none⟩
abbrev ir_ref43_Accepts : Fn := { np := 2, nv := 8, res := [(6, none), (7, none)], body :=
(.seq (.reg r_ref43_Accepts_0)
 (.seq (.seq (.reg r_ref43_Accepts_1)
 (.seq (.reg r_ref43_Accepts_2)
 (.cond 14 (.seq (.reg r_ref43_Accepts_3)
 .ret) .skip)))
 (.seq (.seq (.reg r_ref43_Accepts_4)
 (.seq (.reg r_ref43_Accepts_5)
 (.cond 21 (.seq (.reg r_ref43_Accepts_6)
 .ret) .skip)))
 (.seq (.seq (.reg r_ref43_Accepts_7)
 (.seq (.reg r_ref43_Accepts_8)
 (.cond 31 (.seq (.reg r_ref43_Accepts_9)
 .ret) .skip)))
 (.seq (.reg r_ref43_Accepts_10)
 .ret))))) }
/- f16 nested_Matched : 0:n 1:w 2:n 3:ok 4:_ -/
abbrev r_nested_Matched_0 : Reg := ⟨[⟨.bxi (.v 0), none, false⟩, ⟨.mv (.c (.bool false)), none, false⟩], [(2, 1)], [0, 4], none⟩
abbrev r_nested_Matched_1 : Reg := ⟨[⟨.ldi (.v 2) (some 10), none, false⟩, ⟨.cal F_nested_Valid [(.t 0)], none, false⟩, ⟨.bin .neq (.t 0) (.c (.int (0))), none, false⟩, ⟨.mv (.t 0), none, false⟩, ⟨.mv (.v 1), some (.t 0, false), false⟩, ⟨.ldi (.v 2) (some 10), some (.t 1, false), false⟩, ⟨.cal F_nested_symbols [(.t 0)], some (.t 2, false), false⟩, ⟨.cal F_word_Check [(.t 2), (.t 0)], some (.t 3, false), false⟩, ⟨.bin .neq (.t 0) (.c (.int (0))), some (.t 4, false), false⟩, ⟨.pick (.t 5) (.c (.bool true)) (.t 0), none, false⟩], [], [], some (16, 0)⟩
abbrev r_nested_Matched_2 : Reg := ⟨[⟨.mv (.c (.bool false)), none, false⟩], [(4, 0)], [1, 2], none⟩
abbrev r_nested_Matched_3 : Reg := ⟨[⟨.ldi (.v 2) (some 10), none, false⟩, ⟨.mv (.v 1), none, false⟩, ⟨.cal F_nested_levels [(.t 1), (.t 0)], none, false⟩, ⟨.mv (.t 0), none, false⟩, ⟨.ext (.t 0) 0, none, false⟩, ⟨.ext (.t 1) 1, none, false⟩, ⟨.mv (.t 1), none, false⟩, ⟨.mv (.t 1), none, false⟩], [(3, 0)], [1, 2], none⟩
abbrev r_nested_Matched_4 : Reg := ⟨[⟨.mv (.v 3), none, false⟩, ⟨.mv (.t 0), none, false⟩], [(4, 0)], [3], none⟩
abbrev ir_nested_Matched : Fn := { np := 2, nv := 5, res := [(4, none)], body :=
(.seq (.reg r_nested_Matched_0)
 (.seq (.seq (.reg r_nested_Matched_1)
 (.cond 16 (.seq (.reg r_nested_Matched_2)
 .ret) .skip))
 (.seq (.reg r_nested_Matched_3)
 (.seq (.reg r_nested_Matched_4)
 .ret)))) }
/- f17 ref43_Matched : 0:n 1:w 2:n 3:least 4:end 5:_ -/
abbrev r_ref43_Matched_0 : Reg := ⟨[⟨.bxi (.v 0), none, false⟩, ⟨.mv (.c (.bool false)), none, false⟩], [(2, 1)], [0, 5], none⟩
abbrev r_ref43_Matched_1 : Reg := ⟨[⟨.ldi (.v 2) (some 10), none, false⟩, ⟨.cal F_ref43_Valid [(.t 0)], none, false⟩, ⟨.bin .neq (.t 0) (.c (.int (0))), none, false⟩, ⟨.mv (.t 0), none, false⟩, ⟨.mv (.v 1), some (.t 0, false), false⟩, ⟨.ldi (.v 2) (some 10), some (.t 1, false), false⟩, ⟨.cal F_ref43_Symbols [(.t 0)], some (.t 2, false), false⟩, ⟨.cal F_ref01_Check [(.t 2), (.t 0)], some (.t 3, false), false⟩, ⟨.bin .neq (.t 0) (.c (.int (0))), some (.t 4, false), false⟩, ⟨.pick (.t 5) (.c (.bool true)) (.t 0), none, false⟩], [], [], some (17, 0)⟩
abbrev r_ref43_Matched_2 : Reg := ⟨[⟨.mv (.c (.bool false)), none, false⟩], [(5, 0)], [1, 2], none⟩
abbrev r_ref43_Matched_3 : Reg := ⟨[⟨.ldi (.v 2) (some 10), none, false⟩, ⟨.mv (.v 1), none, false⟩, ⟨.cal F_ref43_depths [(.t 1), (.t 0)], none, false⟩, ⟨.mv (.t 0), none, false⟩, ⟨.ext (.t 0) 0, none, false⟩, ⟨.ext (.t 1) 1, none, false⟩, ⟨.ext (.t 2) 2, none, false⟩, ⟨.mv (.t 2), none, false⟩, ⟨.mv (.t 2), none, false⟩, ⟨.mv (.t 2), none, false⟩], [(3, 1), (4, 0)], [1, 2], none⟩
abbrev r_ref43_Matched_4 : Reg := ⟨[⟨.mv (.v 3), none, false⟩, ⟨.bin .eql (.t 0) (.c (.int (0))), none, false⟩, ⟨.mv (.t 0), none, false⟩, ⟨.mv (.v 4), some (.t 0, true), false⟩, ⟨.bin .eql (.t 0) (.c (.int (0))), some (.t 1, true), false⟩, ⟨.pick (.t 2) (.t 0) (.c (.bool false)), none, false⟩, ⟨.mv (.t 0), none, false⟩], [(5, 0)], [3, 4], none⟩
abbrev ir_ref43_Matched : Fn := { np := 2, nv := 6, res := [(5, none)], body :=
(.seq (.reg r_ref43_Matched_0)
 (.seq (.seq (.reg r_ref43_Matched_1)
 (.cond 17 (.seq (.reg r_ref43_Matched_2)
 .ret) .skip))
 (.seq (.reg r_ref43_Matched_3)
 (.seq (.reg r_ref43_Matched_4)
 .ret)))) }
/- f18 law43_Small : 0:n 1:n 2:_ -/
abbrev r_law43_Small_0 : Reg := ⟨[⟨.bxi (.v 0), none, false⟩, ⟨.mv (.c (.bool false)), none, false⟩], [(1, 1)], [0, 2], none⟩
abbrev r_law43_Small_1 : Reg := ⟨[⟨.fad (.v 1) 5 none, none, false⟩, ⟨.ldi (.t 0) none, none, false⟩, ⟨.len (.t 0), none, false⟩, ⟨.bin .leq (.t 0) (.c (.int (5))), none, false⟩, ⟨.mv (.t 0), none, false⟩, ⟨.fad (.v 1) 3 none, some (.t 0, true), false⟩, ⟨.ldi (.t 0) none, some (.t 1, true), false⟩, ⟨.bin .leq (.t 0) (.c (.int (6))), some (.t 2, true), false⟩, ⟨.pick (.t 3) (.t 0) (.c (.bool false)), none, false⟩, ⟨.mv (.t 0), none, false⟩, ⟨.fad (.v 1) 0 none, some (.t 0, true), false⟩, ⟨.ldi (.t 0) none, some (.t 1, true), false⟩, ⟨.bin .leq (.t 0) (.c (.int (6))), some (.t 2, true), false⟩, ⟨.pick (.t 3) (.t 0) (.c (.bool false)), none, false⟩, ⟨.mv (.t 0), none, false⟩, ⟨.fad (.v 1) 1 none, some (.t 0, true), false⟩, ⟨.ldi (.t 0) none, some (.t 1, true), false⟩, ⟨.bin .leq (.t 0) (.c (.int (6))), some (.t 2, true), false⟩, ⟨.pick (.t 3) (.t 0) (.c (.bool false)), none, false⟩, ⟨.mv (.t 0), none, false⟩, ⟨.fad (.v 1) 2 none, some (.t 0, true), false⟩, ⟨.ldi (.t 0) none, some (.t 1, true), false⟩, ⟨.bin .leq (.t 0) (.c (.int (6))), some (.t 2, true), false⟩, ⟨.pick (.t 3) (.t 0) (.c (.bool false)), none, false⟩, ⟨.mv (.t 0), none, false⟩, ⟨.fad (.v 1) 0 none, some (.t 0, true), false⟩, ⟨.ldi (.t 0) none, some (.t 1, true), false⟩, ⟨.fad (.v 1) 1 none, some (.t 2, true), false⟩, ⟨.ldi (.t 0) none, some (.t 3, true), false⟩, ⟨.bin .addw (.t 2) (.t 0), some (.t 4, true), false⟩, ⟨.fad (.v 1) 2 none, some (.t 5, true), false⟩, ⟨.ldi (.t 0) none, some (.t 6, true), false⟩, ⟨.bin .addw (.t 2) (.t 0), some (.t 7, true), false⟩, ⟨.bin .leq (.t 0) (.c (.int (6))), some (.t 8, true), false⟩, ⟨.pick (.t 9) (.t 0) (.c (.bool false)), none, false⟩, ⟨.mv (.t 0), none, false⟩], [(2, 0)], [1], none⟩
abbrev ir_law43_Small : Fn := { np := 1, nv := 3, res := [(2, none)], body :=
(.seq (.reg r_law43_Small_0)
 (.seq (.reg r_law43_Small_1)
 .ret)) }
/- f19 nested_Pairs : 0:n 1:n 2:e 3:_ 4:_ -/
abbrev r_nested_Pairs_0 : Reg := ⟨[⟨.bxi (.v 0), none, false⟩, ⟨.mv (.c (.snil)), none, false⟩, ⟨.mv (.c (.int (0))), none, false⟩], [(1, 2)], [0, 3, 4], none⟩
abbrev r_nested_Pairs_1 : Reg := ⟨[⟨.ldi (.v 1) (some 10), none, false⟩, ⟨.cal F_nested_Valid [(.t 0)], none, false⟩, ⟨.mv (.t 0), none, false⟩], [(2, 0)], [], none⟩
abbrev r_nested_Pairs_2 : Reg := ⟨[⟨.mv (.v 2), none, false⟩, ⟨.bin .neq (.t 0) (.c (.int (0))), none, false⟩], [], [], some (8, 0)⟩
abbrev r_nested_Pairs_3 : Reg := ⟨[⟨.mv (.v 2), none, false⟩, ⟨.mv (.c (.snil)), none, false⟩, ⟨.mv (.t 1), none, false⟩], [(3, 1), (4, 0)], [1, 2], none⟩
abbrev r_nested_Pairs_4 : Reg := ⟨[⟨.ldi (.v 1) (some 10), none, false⟩, ⟨.bld [.int 0, .int 0, .int 0, .int 0, .int 0, .snil, .snil, .snil, .snil, .snil] [(0, 10, (.t 0))], none, false⟩, ⟨.mki T_nested_single (.t 0), none, false⟩, ⟨.ldi (.v 1) (some 10), none, false⟩, ⟨.cal F_nested_connected [(.t 1), (.t 0)], none, false⟩, ⟨.mv (.t 0), none, false⟩, ⟨.mv (.c (.int (0))), none, false⟩], [(3, 1), (4, 0)], [1, 2], none⟩
abbrev ir_nested_Pairs : Fn := { np := 1, nv := 5, res := [(3, none), (4, none)], body :=
(.seq (.reg r_nested_Pairs_0)
 (.seq (.seq (.reg r_nested_Pairs_1)
 (.seq (.reg r_nested_Pairs_2)
 (.cond 8 (.seq (.reg r_nested_Pairs_3)
 .ret) .skip)))
 (.seq (.reg r_nested_Pairs_4)
 .ret))) }
/- f20 ref43_Pairs : 0:n 1:n 2:e 3:_ 4:_ -/
abbrev r_ref43_Pairs_0 : Reg := ⟨[⟨.bxi (.v 0), none, false⟩, ⟨.mv (.c (.snil)), none, false⟩, ⟨.mv (.c (.int (0))), none, false⟩], [(1, 2)], [0, 3, 4], none⟩
abbrev r_ref43_Pairs_1 : Reg := ⟨[⟨.ldi (.v 1) (some 10), none, false⟩, ⟨.cal F_ref43_Valid [(.t 0)], none, false⟩, ⟨.mv (.t 0), none, false⟩], [(2, 0)], [], none⟩
abbrev r_ref43_Pairs_2 : Reg := ⟨[⟨.mv (.v 2), none, false⟩, ⟨.bin .neq (.t 0) (.c (.int (0))), none, false⟩], [], [], some (8, 0)⟩
abbrev r_ref43_Pairs_3 : Reg := ⟨[⟨.mv (.v 2), none, false⟩, ⟨.mv (.c (.snil)), none, false⟩, ⟨.mv (.t 1), none, false⟩], [(3, 1), (4, 0)], [1, 2], none⟩
abbrev r_ref43_Pairs_4 : Reg := ⟨[⟨.ldi (.v 1) (some 10), none, false⟩, ⟨.cal F_ref43_connected [(.t 0)], none, false⟩, ⟨.mv (.t 0), none, false⟩, ⟨.mv (.c (.int (0))), none, false⟩], [(3, 1), (4, 0)], [1, 2], none⟩
abbrev ir_ref43_Pairs : Fn := { np := 1, nv := 5, res := [(3, none), (4, none)], body :=
(.seq (.reg r_ref43_Pairs_0)
 (.seq (.seq (.reg r_ref43_Pairs_1)
 (.seq (.reg r_ref43_Pairs_2)
 (.cond 8 (.seq (.reg r_ref43_Pairs_3)
 .ret) .skip)))
 (.seq (.reg r_ref43_Pairs_4)
 .ret))) }
/- f21 ref43_SameTables : 0:a 1:b 2:i 3:_ -/
abbrev r_ref43_SameTables_0 : Reg := ⟨[⟨.mv (.c (.bool false)), none, false⟩], [], [3], none⟩
abbrev r_ref43_SameTables_1 : Reg := ⟨[⟨.mv (.v 0), none, false⟩, ⟨.len (.t 0), none, false⟩, ⟨.mv (.v 1), none, false⟩, ⟨.len (.t 0), none, false⟩, ⟨.bin .neq (.t 2) (.t 0), none, false⟩], [], [], some (10, 0)⟩
abbrev r_ref43_SameTables_2 : Reg := ⟨[⟨.mv (.c (.bool false)), none, false⟩], [(3, 0)], [0, 1], none⟩
abbrev r_ref43_SameTables_3 : Reg := ⟨[⟨.mv (.c (.int (0))), none, false⟩], [(2, 0)], [], none⟩
abbrev r_ref43_SameTables_4 : Reg := ⟨[⟨.mv (.v 2), none, false⟩, ⟨.mv (.v 0), none, false⟩, ⟨.len (.t 0), none, false⟩, ⟨.bin .lss (.t 2) (.t 0), none, false⟩], [], [], some (14, 0)⟩
abbrev r_ref43_SameTables_6 : Reg := ⟨[⟨.mv (.v 0), none, false⟩, ⟨.mv (.v 2), none, false⟩, ⟨.iad (.t 1) (.t 0) 1, none, false⟩, ⟨.ld (.t 0) none, none, false⟩, ⟨.mv (.v 1), none, false⟩, ⟨.mv (.v 2), none, false⟩, ⟨.iad (.t 1) (.t 0) 1, none, false⟩, ⟨.ld (.t 0) none, none, false⟩, ⟨.cal F_ref43_SameBools [(.t 4), (.t 0)], none, false⟩, ⟨.not (.t 0), none, false⟩], [], [], some (26, 0)⟩
abbrev r_ref43_SameTables_7 : Reg := ⟨[⟨.mv (.c (.bool false)), none, false⟩], [(3, 0)], [0, 1, 2], none⟩
abbrev r_ref43_SameTables_5 : Reg := ⟨[⟨.mv (.v 2), none, false⟩, ⟨.bin .add (.t 0) (.c (.int (1))), none, false⟩, ⟨.mv (.t 0), none, false⟩], [(2, 0)], [], none⟩
abbrev b_ref43_SameTables_0 : IC := (.seq (.seq (.reg r_ref43_SameTables_4)
 (.cond 14 .skip (.exit 0)))
 (.seq (.block 1 (.seq (.reg r_ref43_SameTables_6)
 (.cond 26 (.seq (.reg r_ref43_SameTables_7)
 .ret) .skip)))
 (.reg r_ref43_SameTables_5)))
abbrev r_ref43_SameTables_8 : Reg := ⟨[⟨.mv (.c (.bool true)), none, false⟩], [(3, 0)], [0, 1, 2], none⟩
abbrev ir_ref43_SameTables : Fn := { np := 2, nv := 4, res := [(3, none)], body :=
(.seq (.reg r_ref43_SameTables_0)
 (.seq (.seq (.reg r_ref43_SameTables_1)
 (.cond 10 (.seq (.reg r_ref43_SameTables_2)
 .ret) .skip))
 (.seq (.seq (.reg r_ref43_SameTables_3)
 (.block 0 (.loop b_ref43_SameTables_0)))
 (.seq (.reg r_ref43_SameTables_8)
 .ret)))) }
/- f22 nested_Shortest : 0:n 1:n 2:e 3:_ 4:_ 5:_ -/
abbrev r_nested_Shortest_0 : Reg := ⟨[⟨.bxi (.v 0), none, false⟩, ⟨.mv (.c (.snil)), none, false⟩, ⟨.mv (.c (.bool false)), none, false⟩, ⟨.mv (.c (.int (0))), none, false⟩], [(1, 3)], [0, 3, 4, 5], none⟩
abbrev r_nested_Shortest_1 : Reg := ⟨[⟨.ldi (.v 1) (some 10), none, false⟩, ⟨.cal F_nested_Valid [(.t 0)], none, false⟩, ⟨.mv (.t 0), none, false⟩], [(2, 0)], [], none⟩
abbrev r_nested_Shortest_2 : Reg := ⟨[⟨.mv (.v 2), none, false⟩, ⟨.bin .neq (.t 0) (.c (.int (0))), none, false⟩], [], [], some (9, 0)⟩
abbrev r_nested_Shortest_3 : Reg := ⟨[⟨.mv (.v 2), none, false⟩, ⟨.mv (.c (.snil)), none, false⟩, ⟨.mv (.c (.bool false)), none, false⟩, ⟨.mv (.t 2), none, false⟩], [(3, 2), (4, 1), (5, 0)], [1, 2], none⟩
abbrev r_nested_Shortest_4 : Reg := ⟨[⟨.ldi (.v 1) (some 10), none, false⟩, ⟨.bld [.int 0, .int 0, .int 0, .int 0, .int 0, .snil, .snil, .snil, .snil, .snil] [(0, 10, (.t 0))], none, false⟩, ⟨.mki T_nested_single (.t 0), none, false⟩, ⟨.ldi (.v 1) (some 10), none, false⟩, ⟨.fad (.v 1) 4 none, none, false⟩, ⟨.ldi (.t 0) none, none, false⟩, ⟨.fad (.v 1) 5 none, none, false⟩, ⟨.ldi (.t 0) none, none, false⟩, ⟨.cal F_nested_first [(.t 5), (.t 4), (.t 2), (.t 0)], none, false⟩, ⟨.ext (.t 0) 0, none, false⟩, ⟨.ext (.t 1) 1, none, false⟩, ⟨.ext (.t 2) 2, none, false⟩, ⟨.mv (.t 2), none, false⟩, ⟨.mv (.t 2), none, false⟩, ⟨.mv (.t 2), none, false⟩], [(3, 2), (4, 1), (5, 0)], [1, 2], none⟩
abbrev ir_nested_Shortest : Fn := { np := 1, nv := 6, res := [(3, none), (4, none), (5, none)], body :=
(.seq (.reg r_nested_Shortest_0)
 (.seq (.seq (.reg r_nested_Shortest_1)
 (.seq (.reg r_nested_Shortest_2)
 (.cond 9 (.seq (.reg r_nested_Shortest_3)
 .ret) .skip)))
 (.seq (.reg r_nested_Shortest_4)
 .ret))) }
/- f23 ref43_Shortest : 0:n 1:n 2:e 3:_ 4:_ 5:_ -/
abbrev r_ref43_Shortest_0 : Reg := ⟨[⟨.bxi (.v 0), none, false⟩, ⟨.mv (.c (.snil)), none, false⟩, ⟨.mv (.c (.bool false)), none, false⟩, ⟨.mv (.c (.int (0))), none, false⟩], [(1, 3)], [0, 3, 4, 5], none⟩
abbrev r_ref43_Shortest_1 : Reg := ⟨[⟨.ldi (.v 1) (some 10), none, false⟩, ⟨.cal F_ref43_Valid [(.t 0)], none, false⟩, ⟨.mv (.t 0), none, false⟩], [(2, 0)], [], none⟩
abbrev r_ref43_Shortest_2 : Reg := ⟨[⟨.mv (.v 2), none, false⟩, ⟨.bin .neq (.t 0) (.c (.int (0))), none, false⟩], [], [], some (9, 0)⟩
abbrev r_ref43_Shortest_3 : Reg := ⟨[⟨.mv (.v 2), none, false⟩, ⟨.mv (.c (.snil)), none, false⟩, ⟨.mv (.c (.bool false)), none, false⟩, ⟨.mv (.t 2), none, false⟩], [(3, 2), (4, 1), (5, 0)], [1, 2], none⟩
abbrev r_ref43_Shortest_4 : Reg := ⟨[⟨.ldi (.v 1) (some 10), none, false⟩, ⟨.cal F_ref43_first [(.t 0)], none, false⟩, ⟨.ext (.t 0) 0, none, false⟩, ⟨.ext (.t 1) 1, none, false⟩, ⟨.ext (.t 2) 2, none, false⟩, ⟨.mv (.t 2), none, false⟩, ⟨.mv (.t 2), none, false⟩, ⟨.mv (.t 2), none, false⟩], [(3, 2), (4, 1), (5, 0)], [1, 2], none⟩
abbrev ir_ref43_Shortest : Fn := { np := 1, nv := 6, res := [(3, none), (4, none), (5, none)], body :=
(.seq (.reg r_ref43_Shortest_0)
 (.seq (.seq (.reg r_ref43_Shortest_1)
 (.seq (.reg r_ref43_Shortest_2)
 (.cond 9 (.seq (.reg r_ref43_Shortest_3)
 .ret) .skip)))
 (.seq (.reg r_ref43_Shortest_4)
 .ret))) }
/- f24 ref06_Ints : 0:a 1:b 2:i 3:_ -/
abbrev r_ref06_Ints_0 : Reg := ⟨[⟨.mv (.c (.bool false)), none, false⟩], [], [3], none⟩
abbrev r_ref06_Ints_1 : Reg := ⟨[⟨.mv (.v 0), none, false⟩, ⟨.len (.t 0), none, false⟩, ⟨.mv (.v 1), none, false⟩, ⟨.len (.t 0), none, false⟩, ⟨.bin .neq (.t 2) (.t 0), none, false⟩], [], [], some (10, 0)⟩
abbrev r_ref06_Ints_2 : Reg := ⟨[⟨.mv (.c (.bool false)), none, false⟩], [(3, 0)], [0, 1], none⟩
abbrev r_ref06_Ints_3 : Reg := ⟨[⟨.mv (.c (.int (0))), none, false⟩], [(2, 0)], [], none⟩
abbrev r_ref06_Ints_4 : Reg := ⟨[⟨.mv (.v 2), none, false⟩, ⟨.mv (.v 0), none, false⟩, ⟨.len (.t 0), none, false⟩, ⟨.bin .lss (.t 2) (.t 0), none, false⟩], [], [], some (14, 0)⟩
abbrev r_ref06_Ints_6 : Reg := ⟨[⟨.mv (.v 0), none, false⟩, ⟨.mv (.v 2), none, false⟩, ⟨.iad (.t 1) (.t 0) 1, none, false⟩, ⟨.ld (.t 0) none, none, false⟩, ⟨.mv (.v 1), none, false⟩, ⟨.mv (.v 2), none, false⟩, ⟨.iad (.t 1) (.t 0) 1, none, false⟩, ⟨.ld (.t 0) none, none, false⟩, ⟨.bin .neq (.t 4) (.t 0), none, false⟩], [], [], some (25, 0)⟩
abbrev r_ref06_Ints_7 : Reg := ⟨[⟨.mv (.c (.bool false)), none, false⟩], [(3, 0)], [0, 1, 2], none⟩
abbrev r_ref06_Ints_5 : Reg := ⟨[⟨.mv (.v 2), none, false⟩, ⟨.bin .add (.t 0) (.c (.int (1))), none, false⟩, ⟨.mv (.t 0), none, false⟩], [(2, 0)], [], none⟩
abbrev b_ref06_Ints_0 : IC := (.seq (.seq (.reg r_ref06_Ints_4)
 (.cond 14 .skip (.exit 0)))
 (.seq (.block 1 (.seq (.reg r_ref06_Ints_6)
 (.cond 25 (.seq (.reg r_ref06_Ints_7)
 .ret) .skip)))
 (.reg r_ref06_Ints_5)))
abbrev r_ref06_Ints_8 : Reg := ⟨[⟨.mv (.c (.bool true)), none, false⟩], [(3, 0)], [0, 1, 2], none⟩
abbrev ir_ref06_Ints : Fn := { np := 2, nv := 4, res := [(3, none)], body :=
(.seq (.reg r_ref06_Ints_0)
 (.seq (.seq (.reg r_ref06_Ints_1)
 (.cond 10 (.seq (.reg r_ref06_Ints_2)
 .ret) .skip))
 (.seq (.seq (.reg r_ref06_Ints_3)
 (.block 0 (.loop b_ref06_Ints_0)))
 (.seq (.reg r_ref06_Ints_8)
 .ret)))) }
/- f25 nested_Differ : 0:a 1:b 2:a 3:e 4:b 5:e 6:m 7:good 8:_ 9:_ 10:s 11:x 12:y 13:_ 14:_ 15:_ -/
abbrev r_nested_Differ_0 : Reg := ⟨[⟨.bxi (.v 0), none, false⟩, ⟨.bxi (.v 1), none, false⟩, ⟨.mv (.c (.snil)), none, false⟩, ⟨.mv (.c (.bool false)), none, false⟩, ⟨.mv (.c (.int (0))), none, false⟩], [(2, 4), (4, 3)], [0, 1, 13, 14, 15], none⟩
abbrev r_nested_Differ_1 : Reg := ⟨[⟨.ldi (.v 2) (some 10), none, false⟩, ⟨.cal F_nested_Valid [(.t 0)], none, false⟩, ⟨.mv (.t 0), none, false⟩], [(3, 0)], [], none⟩
abbrev r_nested_Differ_2 : Reg := ⟨[⟨.mv (.v 3), none, false⟩, ⟨.bin .neq (.t 0) (.c (.int (0))), none, false⟩], [], [], some (17, 0)⟩
abbrev r_nested_Differ_3 : Reg := ⟨[⟨.mv (.v 3), none, false⟩, ⟨.mv (.c (.snil)), none, false⟩, ⟨.mv (.c (.bool false)), none, false⟩, ⟨.mv (.t 2), none, false⟩], [(13, 2), (14, 1), (15, 0)], [2, 3, 4], none⟩
abbrev r_nested_Differ_4 : Reg := ⟨[⟨.ldi (.v 4) (some 10), none, false⟩, ⟨.cal F_nested_Valid [(.t 0)], none, false⟩, ⟨.mv (.t 0), none, false⟩], [(5, 0)], [3], none⟩
abbrev r_nested_Differ_5 : Reg := ⟨[⟨.mv (.v 5), none, false⟩, ⟨.bin .neq (.t 0) (.c (.int (0))), none, false⟩], [], [], some (22, 0)⟩
abbrev r_nested_Differ_6 : Reg := ⟨[⟨.mv (.v 5), none, false⟩, ⟨.mv (.c (.snil)), none, false⟩, ⟨.mv (.c (.bool false)), none, false⟩, ⟨.mv (.t 2), none, false⟩], [(13, 2), (14, 1), (15, 0)], [2, 4, 5], none⟩
abbrev r_nested_Differ_7 : Reg := ⟨[⟨.fad (.v 2) 0 none, none, false⟩, ⟨.ldi (.t 0) none, none, false⟩, ⟨.fad (.v 4) 0 none, none, false⟩, ⟨.ldi (.t 0) none, none, false⟩, ⟨.bin .neq (.t 2) (.t 0), none, false⟩, ⟨.mv (.t 0), none, false⟩, ⟨.fad (.v 2) 1 none, some (.t 0, false), false⟩, ⟨.ldi (.t 0) none, some (.t 1, false), false⟩, ⟨.fad (.v 4) 1 none, some (.t 2, false), false⟩, ⟨.ldi (.t 0) none, some (.t 3, false), false⟩, ⟨.bin .neq (.t 2) (.t 0), some (.t 4, false), false⟩, ⟨.pick (.t 5) (.c (.bool true)) (.t 0), none, false⟩, ⟨.mv (.t 0), none, false⟩, ⟨.fad (.v 2) 2 none, some (.t 0, false), false⟩, ⟨.ldi (.t 0) none, some (.t 1, false), false⟩, ⟨.fad (.v 4) 2 none, some (.t 2, false), false⟩, ⟨.ldi (.t 0) none, some (.t 3, false), false⟩, ⟨.bin .neq (.t 2) (.t 0), some (.t 4, false), false⟩, ⟨.pick (.t 5) (.c (.bool true)) (.t 0), none, false⟩], [], [5], some (42, 0)⟩
abbrev r_nested_Differ_8 : Reg := ⟨[⟨.mv (.c (.snil)), none, false⟩, ⟨.mv (.c (.bool false)), none, false⟩, ⟨.mv (.c (.int (15))), none, false⟩], [(13, 2), (14, 1), (15, 0)], [2, 4], none⟩
abbrev r_nested_Differ_9 : Reg := ⟨[⟨.fad (.v 2) 5 none, none, false⟩, ⟨.ldi (.t 0) none, none, false⟩, ⟨.len (.t 0), none, false⟩, ⟨.fad (.v 4) 5 none, none, false⟩, ⟨.ldi (.t 0) none, none, false⟩, ⟨.len (.t 0), none, false⟩, ⟨.bin .mul (.t 3) (.t 0), none, false⟩, ⟨.bin .gtr (.t 0) (.c (.int (144))), none, false⟩, ⟨.mv (.t 0), none, false⟩, ⟨.fad (.v 2) 3 none, some (.t 0, false), false⟩, ⟨.ldi (.t 0) none, some (.t 1, false), false⟩, ⟨.fad (.v 4) 3 none, some (.t 2, false), false⟩, ⟨.ldi (.t 0) none, some (.t 3, false), false⟩, ⟨.bin .mul (.t 2) (.t 0), some (.t 4, false), false⟩, ⟨.bin .gtr (.t 0) (.c (.int (1024))), some (.t 5, false), false⟩, ⟨.pick (.t 6) (.c (.bool true)) (.t 0), none, false⟩], [], [], some (58, 0)⟩
abbrev r_nested_Differ_10 : Reg := ⟨[⟨.mv (.c (.snil)), none, false⟩, ⟨.mv (.c (.bool false)), none, false⟩, ⟨.mv (.c (.int (11))), none, false⟩], [(13, 2), (14, 1), (15, 0)], [2, 4], none⟩
abbrev r_nested_Differ_11 : Reg := ⟨[⟨.ldi (.v 2) (some 10), none, false⟩, ⟨.bld [.int 0, .int 0, .int 0, .int 0, .int 0, .snil, .snil, .snil, .snil, .snil] [(0, 10, (.t 0))], none, false⟩, ⟨.ldi (.v 4) (some 10), none, false⟩, ⟨.bld [.int 0, .int 0, .int 0, .int 0, .int 0, .snil, .snil, .snil, .snil, .snil] [(0, 10, (.t 0))], none, false⟩, ⟨.bld [.int 0, .int 0, .int 0, .int 0, .int 0, .snil, .snil, .snil, .snil, .snil, .int 0, .int 0, .int 0, .int 0, .int 0, .snil, .snil, .snil, .snil, .snil] [(0, 10, (.t 2)), (10, 10, (.t 0))], none, false⟩, ⟨.alc0 20, none, false⟩, ⟨.ini (.t 0) (.t 1) 20, none, false⟩], [(6, 0)], [], none⟩
abbrev r_nested_Differ_12 : Reg := ⟨[⟨.ldi (.v 6) (some 20), none, false⟩, ⟨.cal F_nested_double_size [(.t 0)], none, false⟩, ⟨.mks (.t 0) (.t 0) [.bool false] none, none, false⟩, ⟨.mv (.t 0), none, false⟩], [(7, 0)], [], none⟩
abbrev r_nested_Differ_13 : Reg := ⟨[⟨.mv (.v 7), none, false⟩, ⟨.len (.t 0), none, false⟩, ⟨.mv (.c (.int (0))), none, false⟩], [(9, 1), (8, 0)], [], none⟩
abbrev r_nested_Differ_14 : Reg := ⟨[⟨.bin .lss (.v 8) (.v 9), none, false⟩], [], [], some (70, 0)⟩
abbrev r_nested_Differ_15 : Reg := ⟨[⟨.mv (.v 8), none, false⟩, ⟨.mv (.t 0), none, false⟩], [(10, 0)], [], none⟩
abbrev r_nested_Differ_16 : Reg := ⟨[⟨.ldi (.v 6) (some 20), none, false⟩, ⟨.mv (.v 10), none, false⟩, ⟨.cal F_nested_double_split [(.t 1), (.t 0)], none, false⟩, ⟨.mv (.t 0), none, false⟩, ⟨.ext (.t 0) 0, none, false⟩, ⟨.ext (.t 1) 1, none, false⟩, ⟨.mv (.t 1), none, false⟩, ⟨.mv (.t 1), none, false⟩], [(11, 1), (12, 0)], [], none⟩
abbrev r_nested_Differ_17 : Reg := ⟨[⟨.mv (.v 7), none, false⟩, ⟨.mv (.v 10), none, false⟩, ⟨.fad (.v 2) 5 none, none, false⟩, ⟨.ldi (.t 0) none, none, false⟩, ⟨.mv (.v 11), none, false⟩, ⟨.iad (.t 1) (.t 0) 1, none, false⟩, ⟨.ldi (.t 0) none, none, false⟩, ⟨.fad (.v 4) 5 none, none, false⟩, ⟨.ldi (.t 0) none, none, false⟩, ⟨.mv (.v 12), none, false⟩, ⟨.iad (.t 1) (.t 0) 1, none, false⟩, ⟨.ldi (.t 0) none, none, false⟩, ⟨.beq true (.t 5) (.t 0), none, false⟩, ⟨.iad (.t 12) (.t 11) 1, none, false⟩, ⟨.st (.t 0) (.t 1) 1, none, false⟩], [], [10, 11, 12], none⟩
abbrev r_nested_Differ_18 : Reg := ⟨[⟨.bin .add (.v 8) (.c (.int (1))), none, false⟩, ⟨.mv (.t 0), none, false⟩], [(8, 0)], [], none⟩
abbrev b_nested_Differ_0 : IC := (.seq (.reg r_nested_Differ_14)
 (.seq (.cond 70 .skip (.exit 0))
 (.seq (.block 1 (.seq (.reg r_nested_Differ_15)
 (.seq (.reg r_nested_Differ_16)
 (.reg r_nested_Differ_17))))
 (.reg r_nested_Differ_18))))
abbrev r_nested_Differ_19 : Reg := ⟨[⟨.ldi (.v 6) (some 20), none, false⟩, ⟨.mki T_nested_double (.t 0), none, false⟩, ⟨.ldi (.v 2) (some 10), none, false⟩, ⟨.fad (.v 2) 4 none, none, false⟩, ⟨.ldi (.t 0) none, none, false⟩, ⟨.fad (.v 6) 10 (some 10), none, false⟩, ⟨.ldi (.t 0) (some 10), none, false⟩, ⟨.cal F_nested_single_size [(.t 0)], none, false⟩, ⟨.bin .mul (.t 3) (.t 0), none, false⟩, ⟨.fad (.v 4) 4 none, none, false⟩, ⟨.ldi (.t 0) none, none, false⟩, ⟨.bin .add (.t 2) (.t 0), none, false⟩, ⟨.mv (.v 7), none, false⟩, ⟨.cal F_nested_first [(.t 11), (.t 10), (.t 1), (.t 0)], none, false⟩, ⟨.ext (.t 0) 0, none, false⟩, ⟨.ext (.t 1) 1, none, false⟩, ⟨.ext (.t 2) 2, none, false⟩, ⟨.mv (.t 2), none, false⟩, ⟨.mv (.t 2), none, false⟩, ⟨.mv (.t 2), none, false⟩], [(13, 2), (14, 1), (15, 0)], [2, 4, 6, 7, 8, 9], none⟩
abbrev ir_nested_Differ : Fn := { np := 2, nv := 16, res := [(13, none), (14, none), (15, none)], body :=
(.seq (.reg r_nested_Differ_0)
 (.seq (.seq (.reg r_nested_Differ_1)
 (.seq (.reg r_nested_Differ_2)
 (.cond 17 (.seq (.reg r_nested_Differ_3)
 .ret) .skip)))
 (.seq (.seq (.reg r_nested_Differ_4)
 (.seq (.reg r_nested_Differ_5)
 (.cond 22 (.seq (.reg r_nested_Differ_6)
 .ret) .skip)))
 (.seq (.seq (.reg r_nested_Differ_7)
 (.cond 42 (.seq (.reg r_nested_Differ_8)
 .ret) .skip))
 (.seq (.seq (.reg r_nested_Differ_9)
 (.cond 58 (.seq (.reg r_nested_Differ_10)
 .ret) .skip))
 (.seq (.reg r_nested_Differ_11)
 (.seq (.reg r_nested_Differ_12)
 (.seq (.seq (.reg r_nested_Differ_13)
 (.seq (.block 0 (.loop b_nested_Differ_0)) (.frz 7)))
 (.seq (.reg r_nested_Differ_19)
 .ret))))))))) }
/- f26 ref43_Differ : 0:a 1:b 2:a 3:e 4:b 5:e 6:_ 7:_ 8:_ -/
abbrev r_ref43_Differ_0 : Reg := ⟨[⟨.bxi (.v 0), none, false⟩, ⟨.bxi (.v 1), none, false⟩, ⟨.mv (.c (.snil)), none, false⟩, ⟨.mv (.c (.bool false)), none, false⟩, ⟨.mv (.c (.int (0))), none, false⟩], [(2, 4), (4, 3)], [0, 1, 6, 7, 8], none⟩
abbrev r_ref43_Differ_1 : Reg := ⟨[⟨.ldi (.v 2) (some 10), none, false⟩, ⟨.cal F_ref43_Valid [(.t 0)], none, false⟩, ⟨.mv (.t 0), none, false⟩], [(3, 0)], [], none⟩
abbrev r_ref43_Differ_2 : Reg := ⟨[⟨.mv (.v 3), none, false⟩, ⟨.bin .neq (.t 0) (.c (.int (0))), none, false⟩], [], [], some (12, 0)⟩
abbrev r_ref43_Differ_3 : Reg := ⟨[⟨.mv (.v 3), none, false⟩, ⟨.mv (.c (.snil)), none, false⟩, ⟨.mv (.c (.bool false)), none, false⟩, ⟨.mv (.t 2), none, false⟩], [(6, 2), (7, 1), (8, 0)], [2, 3, 4], none⟩
abbrev r_ref43_Differ_4 : Reg := ⟨[⟨.ldi (.v 4) (some 10), none, false⟩, ⟨.cal F_ref43_Valid [(.t 0)], none, false⟩, ⟨.mv (.t 0), none, false⟩], [(5, 0)], [3], none⟩
abbrev r_ref43_Differ_5 : Reg := ⟨[⟨.mv (.v 5), none, false⟩, ⟨.bin .neq (.t 0) (.c (.int (0))), none, false⟩], [], [], some (17, 0)⟩
abbrev r_ref43_Differ_6 : Reg := ⟨[⟨.mv (.v 5), none, false⟩, ⟨.mv (.c (.snil)), none, false⟩, ⟨.mv (.c (.bool false)), none, false⟩, ⟨.mv (.t 2), none, false⟩], [(6, 2), (7, 1), (8, 0)], [2, 4, 5], none⟩
abbrev r_ref43_Differ_7 : Reg := ⟨[⟨.fad (.v 2) 0 none, none, false⟩, ⟨.ldi (.t 0) none, none, false⟩, ⟨.fad (.v 4) 0 none, none, false⟩, ⟨.ldi (.t 0) none, none, false⟩, ⟨.bin .neq (.t 2) (.t 0), none, false⟩, ⟨.mv (.t 0), none, false⟩, ⟨.fad (.v 2) 1 none, some (.t 0, false), false⟩, ⟨.ldi (.t 0) none, some (.t 1, false), false⟩, ⟨.fad (.v 4) 1 none, some (.t 2, false), false⟩, ⟨.ldi (.t 0) none, some (.t 3, false), false⟩, ⟨.bin .neq (.t 2) (.t 0), some (.t 4, false), false⟩, ⟨.pick (.t 5) (.c (.bool true)) (.t 0), none, false⟩, ⟨.mv (.t 0), none, false⟩, ⟨.fad (.v 2) 2 none, some (.t 0, false), false⟩, ⟨.ldi (.t 0) none, some (.t 1, false), false⟩, ⟨.fad (.v 4) 2 none, some (.t 2, false), false⟩, ⟨.ldi (.t 0) none, some (.t 3, false), false⟩, ⟨.bin .neq (.t 2) (.t 0), some (.t 4, false), false⟩, ⟨.pick (.t 5) (.c (.bool true)) (.t 0), none, false⟩], [], [5], some (37, 0)⟩
abbrev r_ref43_Differ_8 : Reg := ⟨[⟨.mv (.c (.snil)), none, false⟩, ⟨.mv (.c (.bool false)), none, false⟩, ⟨.mv (.c (.int (15))), none, false⟩], [(6, 2), (7, 1), (8, 0)], [2, 4], none⟩
abbrev r_ref43_Differ_9 : Reg := ⟨[⟨.fad (.v 2) 5 none, none, false⟩, ⟨.ldi (.t 0) none, none, false⟩, ⟨.len (.t 0), none, false⟩, ⟨.fad (.v 4) 5 none, none, false⟩, ⟨.ldi (.t 0) none, none, false⟩, ⟨.len (.t 0), none, false⟩, ⟨.bin .mul (.t 3) (.t 0), none, false⟩, ⟨.bin .gtr (.t 0) (.c (.int (144))), none, false⟩, ⟨.mv (.t 0), none, false⟩, ⟨.fad (.v 2) 3 none, some (.t 0, false), false⟩, ⟨.ldi (.t 0) none, some (.t 1, false), false⟩, ⟨.fad (.v 4) 3 none, some (.t 2, false), false⟩, ⟨.ldi (.t 0) none, some (.t 3, false), false⟩, ⟨.bin .mul (.t 2) (.t 0), some (.t 4, false), false⟩, ⟨.bin .gtr (.t 0) (.c (.int (1024))), some (.t 5, false), false⟩, ⟨.pick (.t 6) (.c (.bool true)) (.t 0), none, false⟩], [], [], some (53, 0)⟩
abbrev r_ref43_Differ_10 : Reg := ⟨[⟨.mv (.c (.snil)), none, false⟩, ⟨.mv (.c (.bool false)), none, false⟩, ⟨.mv (.c (.int (11))), none, false⟩], [(6, 2), (7, 1), (8, 0)], [2, 4], none⟩
abbrev r_ref43_Differ_11 : Reg := ⟨[⟨.ldi (.v 2) (some 10), none, false⟩, ⟨.ldi (.v 4) (some 10), none, false⟩, ⟨.cal F_ref43_product [(.t 1), (.t 0)], none, false⟩, ⟨.cal F_ref43_first [(.t 0)], none, false⟩, ⟨.ext (.t 0) 0, none, false⟩, ⟨.ext (.t 1) 1, none, false⟩, ⟨.ext (.t 2) 2, none, false⟩, ⟨.mv (.t 2), none, false⟩, ⟨.mv (.t 2), none, false⟩, ⟨.mv (.t 2), none, false⟩], [(6, 2), (7, 1), (8, 0)], [2, 4], none⟩
abbrev ir_ref43_Differ : Fn := { np := 2, nv := 9, res := [(6, none), (7, none), (8, none)], body :=
(.seq (.reg r_ref43_Differ_0)
 (.seq (.seq (.reg r_ref43_Differ_1)
 (.seq (.reg r_ref43_Differ_2)
 (.cond 12 (.seq (.reg r_ref43_Differ_3)
 .ret) .skip)))
 (.seq (.seq (.reg r_ref43_Differ_4)
 (.seq (.reg r_ref43_Differ_5)
 (.cond 17 (.seq (.reg r_ref43_Differ_6)
 .ret) .skip)))
 (.seq (.seq (.reg r_ref43_Differ_7)
 (.cond 37 (.seq (.reg r_ref43_Differ_8)
 .ret) .skip))
 (.seq (.seq (.reg r_ref43_Differ_9)
 (.cond 53 (.seq (.reg r_ref43_Differ_10)
 .ret) .skip))
 (.seq (.reg r_ref43_Differ_11)
 .ret)))))) }
/- f27 ref43_From : 0:n 1:s 2:w 3:i 4:x 5:n 6:stack 7:_ -/
abbrev r_ref43_From_0 : Reg := ⟨[⟨.bxi (.v 0), none, false⟩, ⟨.mv (.c (.int (0))), none, false⟩], [(5, 1)], [0, 7], none⟩
abbrev r_ref43_From_1 : Reg := ⟨[⟨.nl none, none, false⟩], [(6, 0)], [], none⟩
abbrev r_ref43_From_2 : Reg := ⟨[⟨.mv (.c (.int (0))), none, false⟩], [(3, 0)], [], none⟩
abbrev r_ref43_From_3 : Reg := ⟨[⟨.mv (.v 3), none, false⟩, ⟨.mv (.v 2), none, false⟩, ⟨.len (.t 0), none, false⟩, ⟨.bin .lss (.t 2) (.t 0), none, false⟩], [], [], some (13, 0)⟩
abbrev r_ref43_From_5 : Reg := ⟨[⟨.mv (.v 2), none, false⟩, ⟨.mv (.v 3), none, false⟩, ⟨.iad (.t 1) (.t 0) 1, none, false⟩, ⟨.ld (.t 0) none, none, false⟩, ⟨.mv (.t 0), none, false⟩], [(4, 0)], [], none⟩
abbrev r_ref43_From_8 : Reg := ⟨[⟨.mv (.v 4), none, false⟩, ⟨.fad (.v 5) 0 none, none, false⟩, ⟨.ldi (.t 0) none, none, false⟩, ⟨.bin .lss (.t 2) (.t 0), none, false⟩, ⟨.mv (.t 0), none, false⟩], [], [], some (47, 0)⟩
abbrev r_ref43_From_9 : Reg := ⟨[⟨.mv (.v 6), none, false⟩, ⟨.fad (.v 5) 7 none, none, false⟩, ⟨.ldi (.t 0) none, none, false⟩, ⟨.mv (.v 1), none, false⟩, ⟨.iad (.t 1) (.t 0) 1, none, false⟩, ⟨.ldi (.t 0) none, none, false⟩, ⟨.mv (.v 4), none, false⟩, ⟨.iad (.t 1) (.t 0) 1, none, false⟩, ⟨.ldi (.t 0) none, none, false⟩, ⟨.lita [(.t 0)] 1, none, false⟩, ⟨.appw (.t 9) (.t 0) none, none, false⟩, ⟨.mv (.t 0), none, false⟩], [(6, 0)], [], none⟩
abbrev r_ref43_From_10 : Reg := ⟨[⟨.fad (.v 5) 6 none, none, false⟩, ⟨.ldi (.t 0) none, none, false⟩, ⟨.mv (.v 1), none, false⟩, ⟨.iad (.t 1) (.t 0) 1, none, false⟩, ⟨.ldi (.t 0) none, none, false⟩, ⟨.mv (.v 4), none, false⟩, ⟨.iad (.t 1) (.t 0) 1, none, false⟩, ⟨.ldi (.t 0) none, none, false⟩, ⟨.mv (.t 0), none, false⟩], [(1, 0)], [4], none⟩
abbrev r_ref43_From_11 : Reg := ⟨[⟨.mv (.v 4), none, false⟩, ⟨.fad (.v 5) 0 none, none, false⟩, ⟨.ldi (.t 0) none, none, false⟩, ⟨.fad (.v 5) 1 none, none, false⟩, ⟨.ldi (.t 0) none, none, false⟩, ⟨.bin .add (.t 2) (.t 0), none, false⟩, ⟨.bin .lss (.t 5) (.t 0), none, false⟩, ⟨.mv (.t 0), none, false⟩], [], [], some (71, 0)⟩
abbrev r_ref43_From_12 : Reg := ⟨[⟨.fad (.v 5) 8 none, none, false⟩, ⟨.ldi (.t 0) none, none, false⟩, ⟨.mv (.v 1), none, false⟩, ⟨.iad (.t 1) (.t 0) 1, none, false⟩, ⟨.ldi (.t 0) none, none, false⟩, ⟨.mv (.v 4), none, false⟩, ⟨.fad (.v 5) 0 none, none, false⟩, ⟨.ldi (.t 0) none, none, false⟩, ⟨.bin .sub (.t 2) (.t 0), none, false⟩, ⟨.iad (.t 4) (.t 0) 1, none, false⟩, ⟨.ldi (.t 0) none, none, false⟩, ⟨.mv (.t 0), none, false⟩], [(1, 0)], [4], none⟩
abbrev r_ref43_From_6 : Reg := ⟨[⟨.fad (.v 5) 9 none, none, false⟩, ⟨.ldi (.t 0) none, none, false⟩, ⟨.mv (.v 1), none, false⟩, ⟨.iad (.t 1) (.t 0) 1, none, false⟩, ⟨.ldi (.t 0) none, none, false⟩, ⟨.mv (.v 6), none, false⟩, ⟨.mv (.v 6), none, false⟩, ⟨.len (.t 0), none, false⟩, ⟨.bin .sub (.t 0) (.c (.int (1))), none, false⟩, ⟨.iad (.t 3) (.t 0) 1, none, false⟩, ⟨.ld (.t 0) none, none, false⟩, ⟨.iad (.t 6) (.t 0) 1, none, false⟩, ⟨.ldi (.t 0) none, none, false⟩, ⟨.mv (.v 4), none, false⟩, ⟨.fad (.v 5) 0 none, none, false⟩, ⟨.ldi (.t 0) none, none, false⟩, ⟨.bin .sub (.t 2) (.t 0), none, false⟩, ⟨.fad (.v 5) 1 none, none, false⟩, ⟨.ldi (.t 0) none, none, false⟩, ⟨.bin .sub (.t 2) (.t 0), none, false⟩, ⟨.iad (.t 7) (.t 0) 1, none, false⟩, ⟨.ldi (.t 0) none, none, false⟩, ⟨.mv (.t 0), none, false⟩], [(1, 0)], [4], none⟩
abbrev r_ref43_From_7 : Reg := ⟨[⟨.mv (.v 6), none, false⟩, ⟨.mv (.v 6), none, false⟩, ⟨.len (.t 0), none, false⟩, ⟨.bin .sub (.t 0) (.c (.int (1))), none, false⟩, ⟨.slc (.t 3) none (some (.t 0)) 1, none, false⟩, ⟨.mv (.t 0), none, false⟩], [(6, 0)], [], none⟩
abbrev r_ref43_From_4 : Reg := ⟨[⟨.mv (.v 3), none, false⟩, ⟨.bin .add (.t 0) (.c (.int (1))), none, false⟩, ⟨.mv (.t 0), none, false⟩], [(3, 0)], [], none⟩
abbrev b_ref43_From_0 : IC := (.seq (.seq (.reg r_ref43_From_3)
 (.cond 13 .skip (.exit 0)))
 (.seq (.block 1 (.seq (.reg r_ref43_From_5)
 (.block 2 (.seq (.reg r_ref43_From_8)
 (.cond 47 (.seq (.reg r_ref43_From_9)
 (.reg r_ref43_From_10)) (.seq (.reg r_ref43_From_11)
 (.cond 71 (.reg r_ref43_From_12) (.seq (.reg r_ref43_From_6)
 (.reg r_ref43_From_7)))))))))
 (.reg r_ref43_From_4)))
abbrev r_ref43_From_13 : Reg := ⟨[⟨.mv (.v 1), none, false⟩, ⟨.mv (.t 0), none, false⟩], [(7, 0)], [1, 2, 3, 5, 6], none⟩
abbrev ir_ref43_From : Fn := { np := 3, nv := 8, res := [(7, none)], body :=
(.seq (.reg r_ref43_From_0)
 (.seq (.reg r_ref43_From_1)
 (.seq (.seq (.reg r_ref43_From_2)
 (.block 0 (.loop b_ref43_From_0)))
 (.seq (.reg r_ref43_From_13)
 .ret)))) }
/- f28 ref01_Compare : 0:a 1:b 2:_ -/
abbrev r_ref01_Compare_0 : Reg := ⟨[⟨.mv (.c (.int (0))), none, false⟩], [], [2], none⟩
abbrev r_ref01_Compare_1 : Reg := ⟨[⟨.mv (.v 0), none, false⟩, ⟨.len (.t 0), none, false⟩, ⟨.mv (.v 1), none, false⟩, ⟨.len (.t 0), none, false⟩, ⟨.bin .lss (.t 2) (.t 0), none, false⟩], [], [], some (9, 0)⟩
abbrev r_ref01_Compare_2 : Reg := ⟨[⟨.mv (.c (.int (-1))), none, false⟩], [(2, 0)], [0, 1], none⟩
abbrev r_ref01_Compare_3 : Reg := ⟨[⟨.mv (.v 0), none, false⟩, ⟨.len (.t 0), none, false⟩, ⟨.mv (.v 1), none, false⟩, ⟨.len (.t 0), none, false⟩, ⟨.bin .gtr (.t 2) (.t 0), none, false⟩], [], [], some (14, 0)⟩
abbrev r_ref01_Compare_4 : Reg := ⟨[⟨.mv (.c (.int (1))), none, false⟩], [(2, 0)], [0, 1], none⟩
abbrev r_ref01_Compare_5 : Reg := ⟨[⟨.mv (.v 0), none, false⟩, ⟨.mv (.v 1), none, false⟩, ⟨.cal F_ref01_Lex [(.t 1), (.t 0)], none, false⟩, ⟨.mv (.t 0), none, false⟩], [(2, 0)], [0, 1], none⟩
abbrev ir_ref01_Compare : Fn := { np := 2, nv := 3, res := [(2, none)], body :=
(.seq (.reg r_ref01_Compare_0)
 (.seq (.seq (.reg r_ref01_Compare_1)
 (.cond 9 (.seq (.reg r_ref01_Compare_2)
 .ret) .skip))
 (.seq (.seq (.reg r_ref01_Compare_3)
 (.cond 14 (.seq (.reg r_ref01_Compare_4)
 .ret) .skip))
 (.seq (.reg r_ref01_Compare_5)
 .ret)))) }
/- f29 nested_outside : 0:l 1:n 2:n 3:_ -/
abbrev r_nested_outside_0 : Reg := ⟨[⟨.bxi (.v 1), none, false⟩, ⟨.mv (.c (.bool false)), none, false⟩], [(2, 1)], [1, 3], none⟩
abbrev r_nested_outside_1 : Reg := ⟨[⟨.mv (.v 0), none, false⟩, ⟨.mkf F_nested_outside_1 [(.v 2)], none, false⟩, ⟨.cal F_slices_ContainsFunc_Sint_int [(.t 1), (.t 0)], none, false⟩, ⟨.mv (.t 0), none, false⟩], [(3, 0)], [0, 2], none⟩
abbrev ir_nested_outside : Fn := { np := 2, nv := 4, res := [(3, none)], body :=
(.seq (.reg r_nested_outside_0)
 (.seq (.reg r_nested_outside_1)
 .ret)) }
/- f30 nested_symbols : 0:n 1:n 2:_ -/
abbrev r_nested_symbols_0 : Reg := ⟨[⟨.bxi (.v 0), none, false⟩, ⟨.mv (.c (.int (0))), none, false⟩], [(1, 1)], [0, 2], none⟩
abbrev r_nested_symbols_1 : Reg := ⟨[⟨.fad (.v 1) 0 none, none, false⟩, ⟨.ldi (.t 0) none, none, false⟩, ⟨.fad (.v 1) 1 none, none, false⟩, ⟨.ldi (.t 0) none, none, false⟩, ⟨.bin .add (.t 2) (.t 0), none, false⟩, ⟨.fad (.v 1) 2 none, none, false⟩, ⟨.ldi (.t 0) none, none, false⟩, ⟨.bin .add (.t 2) (.t 0), none, false⟩, ⟨.mv (.t 0), none, false⟩], [(2, 0)], [1], none⟩
abbrev ir_nested_symbols : Fn := { np := 1, nv := 3, res := [(2, none)], body :=
(.seq (.reg r_nested_symbols_0)
 (.seq (.reg r_nested_symbols_1)
 .ret)) }
/- f31 nested_row : 0:n 1:s 2:n 3:states 4:_ 5:_ 6:_ 7:l 8:_ -/
abbrev r_nested_row_0 : Reg := ⟨[⟨.bxi (.v 0), none, false⟩, ⟨.mv (.c (.int (0))), none, false⟩], [(2, 1)], [0, 8], none⟩
abbrev r_nested_row_1 : Reg := ⟨[⟨.fad (.v 2) 5 none, none, false⟩, ⟨.ldi (.t 0) none, none, false⟩, ⟨.len (.t 0), none, false⟩, ⟨.mv (.t 0), none, false⟩], [(3, 0)], [], none⟩
abbrev r_nested_row_2 : Reg := ⟨[⟨.fad (.v 2) 6 none, none, false⟩, ⟨.ldi (.t 0) none, none, false⟩, ⟨.mv (.v 1), none, false⟩, ⟨.iad (.t 1) (.t 0) 1, none, false⟩, ⟨.ldi (.t 0) none, none, false⟩, ⟨.len (.t 0), none, false⟩, ⟨.fad (.v 2) 0 none, none, false⟩, ⟨.ldi (.t 0) none, none, false⟩, ⟨.bin .neq (.t 2) (.t 0), none, false⟩, ⟨.mv (.t 0), none, false⟩, ⟨.fad (.v 2) 7 none, some (.t 0, false), false⟩, ⟨.ldi (.t 0) none, some (.t 1, false), false⟩, ⟨.mv (.v 1), some (.t 2, false), false⟩, ⟨.iad (.t 1) (.t 0) 1, some (.t 3, false), false⟩, ⟨.ldi (.t 0) none, some (.t 4, false), false⟩, ⟨.len (.t 0), some (.t 5, false), false⟩, ⟨.fad (.v 2) 0 none, some (.t 6, false), false⟩, ⟨.ldi (.t 0) none, some (.t 7, false), false⟩, ⟨.bin .neq (.t 2) (.t 0), some (.t 8, false), false⟩, ⟨.pick (.t 9) (.c (.bool true)) (.t 0), none, false⟩, ⟨.mv (.t 0), none, false⟩, ⟨.fad (.v 2) 8 none, some (.t 0, false), false⟩, ⟨.ldi (.t 0) none, some (.t 1, false), false⟩, ⟨.mv (.v 1), some (.t 2, false), false⟩, ⟨.iad (.t 1) (.t 0) 1, some (.t 3, false), false⟩, ⟨.ldi (.t 0) none, some (.t 4, false), false⟩, ⟨.len (.t 0), some (.t 5, false), false⟩, ⟨.fad (.v 2) 1 none, some (.t 6, false), false⟩, ⟨.ldi (.t 0) none, some (.t 7, false), false⟩, ⟨.bin .neq (.t 2) (.t 0), some (.t 8, false), false⟩, ⟨.pick (.t 9) (.c (.bool true)) (.t 0), none, false⟩, ⟨.mv (.t 0), none, false⟩, ⟨.fad (.v 2) 9 none, some (.t 0, false), false⟩, ⟨.ldi (.t 0) none, some (.t 1, false), false⟩, ⟨.mv (.v 1), some (.t 2, false), false⟩, ⟨.iad (.t 1) (.t 0) 1, some (.t 3, false), false⟩, ⟨.ldi (.t 0) none, some (.t 4, false), false⟩, ⟨.len (.t 0), some (.t 5, false), false⟩, ⟨.fad (.v 2) 3 none, some (.t 6, false), false⟩, ⟨.ldi (.t 0) none, some (.t 7, false), false⟩, ⟨.bin .neq (.t 2) (.t 0), some (.t 8, false), false⟩, ⟨.pick (.t 9) (.c (.bool true)) (.t 0), none, false⟩], [], [], some (52, 0)⟩
abbrev r_nested_row_3 : Reg := ⟨[⟨.mv (.c (.int (1))), none, false⟩], [(8, 0)], [1, 2, 3], none⟩
abbrev r_nested_row_4 : Reg := ⟨[⟨.fad (.v 2) 6 none, none, false⟩, ⟨.ldi (.t 0) none, none, false⟩, ⟨.mv (.v 1), none, false⟩, ⟨.iad (.t 1) (.t 0) 1, none, false⟩, ⟨.ldi (.t 0) none, none, false⟩, ⟨.mv (.v 3), none, false⟩, ⟨.cal F_nested_outside [(.t 1), (.t 0)], none, false⟩, ⟨.mv (.t 0), none, false⟩, ⟨.fad (.v 2) 7 none, some (.t 0, false), false⟩, ⟨.ldi (.t 0) none, some (.t 1, false), false⟩, ⟨.mv (.v 1), some (.t 2, false), false⟩, ⟨.iad (.t 1) (.t 0) 1, some (.t 3, false), false⟩, ⟨.ldi (.t 0) none, some (.t 4, false), false⟩, ⟨.fad (.v 2) 3 none, some (.t 5, false), false⟩, ⟨.ldi (.t 0) none, some (.t 6, false), false⟩, ⟨.cal F_nested_outside [(.t 2), (.t 0)], some (.t 7, false), false⟩, ⟨.pick (.t 8) (.c (.bool true)) (.t 0), none, false⟩, ⟨.mv (.t 0), none, false⟩, ⟨.fad (.v 2) 8 none, some (.t 0, false), false⟩, ⟨.ldi (.t 0) none, some (.t 1, false), false⟩, ⟨.mv (.v 1), some (.t 2, false), false⟩, ⟨.iad (.t 1) (.t 0) 1, some (.t 3, false), false⟩, ⟨.ldi (.t 0) none, some (.t 4, false), false⟩, ⟨.mv (.v 3), some (.t 5, false), false⟩, ⟨.cal F_nested_outside [(.t 1), (.t 0)], some (.t 6, false), false⟩, ⟨.pick (.t 7) (.c (.bool true)) (.t 0), none, false⟩], [], [], some (78, 0)⟩
abbrev r_nested_row_5 : Reg := ⟨[⟨.mv (.c (.int (2))), none, false⟩], [(8, 0)], [1, 2, 3], none⟩
abbrev r_nested_row_6 : Reg := ⟨[⟨.fad (.v 2) 9 none, none, false⟩, ⟨.ldi (.t 0) none, none, false⟩, ⟨.mv (.v 1), none, false⟩, ⟨.iad (.t 1) (.t 0) 1, none, false⟩, ⟨.ldi (.t 0) none, none, false⟩, ⟨.len (.t 0), none, false⟩, ⟨.mv (.c (.int (0))), none, false⟩], [(6, 2), (5, 1), (4, 0)], [1], none⟩
abbrev r_nested_row_7 : Reg := ⟨[⟨.bin .lss (.v 4) (.v 5), none, false⟩], [], [], some (86, 0)⟩
abbrev r_nested_row_8 : Reg := ⟨[⟨.iad (.v 6) (.v 4) 1, none, false⟩, ⟨.ld (.t 0) none, none, false⟩, ⟨.mv (.t 0), none, false⟩], [(7, 0)], [], none⟩
abbrev r_nested_row_9 : Reg := ⟨[⟨.mv (.v 7), none, false⟩, ⟨.len (.t 0), none, false⟩, ⟨.fad (.v 2) 2 none, none, false⟩, ⟨.ldi (.t 0) none, none, false⟩, ⟨.bin .neq (.t 2) (.t 0), none, false⟩], [], [], some (93, 0)⟩
abbrev r_nested_row_10 : Reg := ⟨[⟨.mv (.c (.int (1))), none, false⟩], [(8, 0)], [2, 3, 4, 5, 6, 7], none⟩
abbrev r_nested_row_11 : Reg := ⟨[⟨.mv (.v 7), none, false⟩, ⟨.mv (.v 3), none, false⟩, ⟨.cal F_nested_outside [(.t 1), (.t 0)], none, false⟩], [], [7], some (96, 0)⟩
abbrev r_nested_row_12 : Reg := ⟨[⟨.mv (.c (.int (2))), none, false⟩], [(8, 0)], [2, 3, 4, 5, 6], none⟩
abbrev r_nested_row_13 : Reg := ⟨[⟨.bin .add (.v 4) (.c (.int (1))), none, false⟩, ⟨.mv (.t 0), none, false⟩], [(4, 0)], [], none⟩
abbrev b_nested_row_0 : IC := (.seq (.reg r_nested_row_7)
 (.seq (.cond 86 .skip (.exit 0))
 (.seq (.block 1 (.seq (.reg r_nested_row_8)
 (.seq (.seq (.reg r_nested_row_9)
 (.cond 93 (.seq (.reg r_nested_row_10)
 .ret) .skip))
 (.seq (.reg r_nested_row_11)
 (.cond 96 (.seq (.reg r_nested_row_12)
 .ret) .skip)))))
 (.reg r_nested_row_13))))
abbrev r_nested_row_14 : Reg := ⟨[⟨.mv (.c (.int (0))), none, false⟩], [(8, 0)], [2, 3, 4, 5, 6], none⟩
abbrev ir_nested_row : Fn := { np := 2, nv := 9, res := [(8, none)], body :=
(.seq (.reg r_nested_row_0)
 (.seq (.reg r_nested_row_1)
 (.seq (.seq (.reg r_nested_row_2)
 (.cond 52 (.seq (.reg r_nested_row_3)
 .ret) .skip))
 (.seq (.seq (.reg r_nested_row_4)
 (.cond 78 (.seq (.reg r_nested_row_5)
 .ret) .skip))
 (.seq (.seq (.reg r_nested_row_6)
 (.block 0 (.loop b_nested_row_0)))
 (.seq (.reg r_nested_row_14)
 .ret)))))) }
/- f32 ref43_sizes : 0:n 1:n 2:_ -/
abbrev r_ref43_sizes_0 : Reg := ⟨[⟨.bxi (.v 0), none, false⟩, ⟨.mv (.c (.int (0))), none, false⟩], [(1, 1)], [0, 2], none⟩
abbrev r_ref43_sizes_1 : Reg := ⟨[⟨.fad (.v 1) 0 none, none, false⟩, ⟨.ldi (.t 0) none, none, false⟩, ⟨.bin .lss (.t 0) (.c (.int (0))), none, false⟩, ⟨.mv (.t 0), none, false⟩, ⟨.fad (.v 1) 0 none, some (.t 0, false), false⟩, ⟨.ldi (.t 0) none, some (.t 1, false), false⟩, ⟨.bin .gtr (.t 0) (.c (.int (64))), some (.t 2, false), false⟩, ⟨.pick (.t 3) (.c (.bool true)) (.t 0), none, false⟩, ⟨.mv (.t 0), none, false⟩, ⟨.fad (.v 1) 1 none, some (.t 0, false), false⟩, ⟨.ldi (.t 0) none, some (.t 1, false), false⟩, ⟨.bin .lss (.t 0) (.c (.int (0))), some (.t 2, false), false⟩, ⟨.pick (.t 3) (.c (.bool true)) (.t 0), none, false⟩, ⟨.mv (.t 0), none, false⟩, ⟨.fad (.v 1) 1 none, some (.t 0, false), false⟩, ⟨.ldi (.t 0) none, some (.t 1, false), false⟩, ⟨.bin .gtr (.t 0) (.c (.int (64))), some (.t 2, false), false⟩, ⟨.pick (.t 3) (.c (.bool true)) (.t 0), none, false⟩, ⟨.mv (.t 0), none, false⟩, ⟨.fad (.v 1) 2 none, some (.t 0, false), false⟩, ⟨.ldi (.t 0) none, some (.t 1, false), false⟩, ⟨.bin .lss (.t 0) (.c (.int (0))), some (.t 2, false), false⟩, ⟨.pick (.t 3) (.c (.bool true)) (.t 0), none, false⟩, ⟨.mv (.t 0), none, false⟩, ⟨.fad (.v 1) 2 none, some (.t 0, false), false⟩, ⟨.ldi (.t 0) none, some (.t 1, false), false⟩, ⟨.bin .gtr (.t 0) (.c (.int (64))), some (.t 2, false), false⟩, ⟨.pick (.t 3) (.c (.bool true)) (.t 0), none, false⟩], [], [], some (30, 0)⟩
abbrev r_ref43_sizes_2 : Reg := ⟨[⟨.mv (.c (.int (2))), none, false⟩], [(2, 0)], [1], none⟩
abbrev r_ref43_sizes_3 : Reg := ⟨[⟨.ldi (.v 1) (some 10), none, false⟩, ⟨.cal F_ref43_Symbols [(.t 0)], none, false⟩, ⟨.bin .lss (.t 0) (.c (.int (1))), none, false⟩, ⟨.mv (.t 0), none, false⟩, ⟨.ldi (.v 1) (some 10), some (.t 0, false), false⟩, ⟨.cal F_ref43_Symbols [(.t 0)], some (.t 1, false), false⟩, ⟨.bin .gtr (.t 0) (.c (.int (64))), some (.t 2, false), false⟩, ⟨.pick (.t 3) (.c (.bool true)) (.t 0), none, false⟩, ⟨.mv (.t 0), none, false⟩, ⟨.fad (.v 1) 3 none, some (.t 0, false), false⟩, ⟨.ldi (.t 0) none, some (.t 1, false), false⟩, ⟨.bin .lss (.t 0) (.c (.int (1))), some (.t 2, false), false⟩, ⟨.pick (.t 3) (.c (.bool true)) (.t 0), none, false⟩, ⟨.mv (.t 0), none, false⟩, ⟨.fad (.v 1) 3 none, some (.t 0, false), false⟩, ⟨.ldi (.t 0) none, some (.t 1, false), false⟩, ⟨.bin .gtr (.t 0) (.c (.int (128))), some (.t 2, false), false⟩, ⟨.pick (.t 3) (.c (.bool true)) (.t 0), none, false⟩], [], [], some (48, 0)⟩
abbrev r_ref43_sizes_4 : Reg := ⟨[⟨.mv (.c (.int (2))), none, false⟩], [(2, 0)], [1], none⟩
abbrev r_ref43_sizes_5 : Reg := ⟨[⟨.fad (.v 1) 5 none, none, false⟩, ⟨.ldi (.t 0) none, none, false⟩, ⟨.len (.t 0), none, false⟩, ⟨.bin .eql (.t 0) (.c (.int (0))), none, false⟩], [], [], some (52, 0)⟩
abbrev r_ref43_sizes_6 : Reg := ⟨[⟨.mv (.c (.int (19))), none, false⟩], [(2, 0)], [1], none⟩
abbrev r_ref43_sizes_7 : Reg := ⟨[⟨.fad (.v 1) 5 none, none, false⟩, ⟨.ldi (.t 0) none, none, false⟩, ⟨.len (.t 0), none, false⟩, ⟨.bin .gtr (.t 0) (.c (.int (128))), none, false⟩], [], [], some (56, 0)⟩
abbrev r_ref43_sizes_8 : Reg := ⟨[⟨.mv (.c (.int (11))), none, false⟩], [(2, 0)], [1], none⟩
abbrev r_ref43_sizes_9 : Reg := ⟨[⟨.fad (.v 1) 4 none, none, false⟩, ⟨.ldi (.t 0) none, none, false⟩, ⟨.bin .lss (.t 0) (.c (.int (0))), none, false⟩, ⟨.mv (.t 0), none, false⟩, ⟨.fad (.v 1) 4 none, some (.t 0, false), false⟩, ⟨.ldi (.t 0) none, some (.t 1, false), false⟩, ⟨.fad (.v 1) 5 none, some (.t 2, false), false⟩, ⟨.ldi (.t 0) none, some (.t 3, false), false⟩, ⟨.len (.t 0), some (.t 4, false), false⟩, ⟨.bin .geq (.t 3) (.t 0), some (.t 5, false), false⟩, ⟨.pick (.t 6) (.c (.bool true)) (.t 0), none, false⟩], [], [], some (67, 0)⟩
abbrev r_ref43_sizes_10 : Reg := ⟨[⟨.mv (.c (.int (2))), none, false⟩], [(2, 0)], [1], none⟩
abbrev r_ref43_sizes_11 : Reg := ⟨[⟨.fad (.v 1) 6 none, none, false⟩, ⟨.ldi (.t 0) none, none, false⟩, ⟨.len (.t 0), none, false⟩, ⟨.fad (.v 1) 5 none, none, false⟩, ⟨.ldi (.t 0) none, none, false⟩, ⟨.len (.t 0), none, false⟩, ⟨.bin .neq (.t 3) (.t 0), none, false⟩, ⟨.mv (.t 0), none, false⟩, ⟨.fad (.v 1) 7 none, some (.t 0, false), false⟩, ⟨.ldi (.t 0) none, some (.t 1, false), false⟩, ⟨.len (.t 0), some (.t 2, false), false⟩, ⟨.fad (.v 1) 5 none, some (.t 3, false), false⟩, ⟨.ldi (.t 0) none, some (.t 4, false), false⟩, ⟨.len (.t 0), some (.t 5, false), false⟩, ⟨.bin .neq (.t 3) (.t 0), some (.t 6, false), false⟩, ⟨.pick (.t 7) (.c (.bool true)) (.t 0), none, false⟩, ⟨.mv (.t 0), none, false⟩, ⟨.fad (.v 1) 8 none, some (.t 0, false), false⟩, ⟨.ldi (.t 0) none, some (.t 1, false), false⟩, ⟨.len (.t 0), some (.t 2, false), false⟩, ⟨.fad (.v 1) 5 none, some (.t 3, false), false⟩, ⟨.ldi (.t 0) none, some (.t 4, false), false⟩, ⟨.len (.t 0), some (.t 5, false), false⟩, ⟨.bin .neq (.t 3) (.t 0), some (.t 6, false), false⟩, ⟨.pick (.t 7) (.c (.bool true)) (.t 0), none, false⟩, ⟨.mv (.t 0), none, false⟩, ⟨.fad (.v 1) 9 none, some (.t 0, false), false⟩, ⟨.ldi (.t 0) none, some (.t 1, false), false⟩, ⟨.len (.t 0), some (.t 2, false), false⟩, ⟨.fad (.v 1) 5 none, some (.t 3, false), false⟩, ⟨.ldi (.t 0) none, some (.t 4, false), false⟩, ⟨.len (.t 0), some (.t 5, false), false⟩, ⟨.bin .neq (.t 3) (.t 0), some (.t 6, false), false⟩, ⟨.pick (.t 7) (.c (.bool true)) (.t 0), none, false⟩], [], [1], some (101, 0)⟩
abbrev r_ref43_sizes_12 : Reg := ⟨[⟨.mv (.c (.int (1))), none, false⟩], [(2, 0)], [], none⟩
abbrev r_ref43_sizes_13 : Reg := ⟨[⟨.mv (.c (.int (0))), none, false⟩], [(2, 0)], [], none⟩
abbrev ir_ref43_sizes : Fn := { np := 1, nv := 3, res := [(2, none)], body :=
(.seq (.reg r_ref43_sizes_0)
 (.seq (.seq (.reg r_ref43_sizes_1)
 (.cond 30 (.seq (.reg r_ref43_sizes_2)
 .ret) .skip))
 (.seq (.seq (.reg r_ref43_sizes_3)
 (.cond 48 (.seq (.reg r_ref43_sizes_4)
 .ret) .skip))
 (.seq (.seq (.reg r_ref43_sizes_5)
 (.cond 52 (.seq (.reg r_ref43_sizes_6)
 .ret) .skip))
 (.seq (.seq (.reg r_ref43_sizes_7)
 (.cond 56 (.seq (.reg r_ref43_sizes_8)
 .ret) .skip))
 (.seq (.seq (.reg r_ref43_sizes_9)
 (.cond 67 (.seq (.reg r_ref43_sizes_10)
 .ret) .skip))
 (.seq (.seq (.reg r_ref43_sizes_11)
 (.cond 101 (.seq (.reg r_ref43_sizes_12)
 .ret) .skip))
 (.seq (.reg r_ref43_sizes_13)
 .ret)))))))) }
/- f33 ref43_state : 0:n 1:s 2:n 3:c 4:i 5:g 6:r 7:_ -/
abbrev r_ref43_state_0 : Reg := ⟨[⟨.bxi (.v 0), none, false⟩, ⟨.mv (.c (.int (0))), none, false⟩], [(2, 1)], [0, 7], none⟩
abbrev r_ref43_state_1 : Reg := ⟨[⟨.fad (.v 2) 6 none, none, false⟩, ⟨.ldi (.t 0) none, none, false⟩, ⟨.mv (.v 1), none, false⟩, ⟨.iad (.t 1) (.t 0) 1, none, false⟩, ⟨.ldi (.t 0) none, none, false⟩, ⟨.len (.t 0), none, false⟩, ⟨.fad (.v 2) 0 none, none, false⟩, ⟨.ldi (.t 0) none, none, false⟩, ⟨.bin .neq (.t 2) (.t 0), none, false⟩, ⟨.mv (.t 0), none, false⟩, ⟨.fad (.v 2) 7 none, some (.t 0, false), false⟩, ⟨.ldi (.t 0) none, some (.t 1, false), false⟩, ⟨.mv (.v 1), some (.t 2, false), false⟩, ⟨.iad (.t 1) (.t 0) 1, some (.t 3, false), false⟩, ⟨.ldi (.t 0) none, some (.t 4, false), false⟩, ⟨.len (.t 0), some (.t 5, false), false⟩, ⟨.fad (.v 2) 0 none, some (.t 6, false), false⟩, ⟨.ldi (.t 0) none, some (.t 7, false), false⟩, ⟨.bin .neq (.t 2) (.t 0), some (.t 8, false), false⟩, ⟨.pick (.t 9) (.c (.bool true)) (.t 0), none, false⟩, ⟨.mv (.t 0), none, false⟩, ⟨.fad (.v 2) 8 none, some (.t 0, false), false⟩, ⟨.ldi (.t 0) none, some (.t 1, false), false⟩, ⟨.mv (.v 1), some (.t 2, false), false⟩, ⟨.iad (.t 1) (.t 0) 1, some (.t 3, false), false⟩, ⟨.ldi (.t 0) none, some (.t 4, false), false⟩, ⟨.len (.t 0), some (.t 5, false), false⟩, ⟨.fad (.v 2) 1 none, some (.t 6, false), false⟩, ⟨.ldi (.t 0) none, some (.t 7, false), false⟩, ⟨.bin .neq (.t 2) (.t 0), some (.t 8, false), false⟩, ⟨.pick (.t 9) (.c (.bool true)) (.t 0), none, false⟩, ⟨.mv (.t 0), none, false⟩, ⟨.fad (.v 2) 9 none, some (.t 0, false), false⟩, ⟨.ldi (.t 0) none, some (.t 1, false), false⟩, ⟨.mv (.v 1), some (.t 2, false), false⟩, ⟨.iad (.t 1) (.t 0) 1, some (.t 3, false), false⟩, ⟨.ldi (.t 0) none, some (.t 4, false), false⟩, ⟨.len (.t 0), some (.t 5, false), false⟩, ⟨.fad (.v 2) 3 none, some (.t 6, false), false⟩, ⟨.ldi (.t 0) none, some (.t 7, false), false⟩, ⟨.bin .neq (.t 2) (.t 0), some (.t 8, false), false⟩, ⟨.pick (.t 9) (.c (.bool true)) (.t 0), none, false⟩], [], [], some (50, 0)⟩
abbrev r_ref43_state_2 : Reg := ⟨[⟨.mv (.c (.int (1))), none, false⟩], [(7, 0)], [1, 2], none⟩
abbrev r_ref43_state_3 : Reg := ⟨[⟨.mv (.c (.int (0))), none, false⟩], [(3, 0)], [], none⟩
abbrev r_ref43_state_4 : Reg := ⟨[⟨.mv (.v 3), none, false⟩, ⟨.fad (.v 2) 0 none, none, false⟩, ⟨.ldi (.t 0) none, none, false⟩, ⟨.bin .lss (.t 2) (.t 0), none, false⟩], [], [], some (54, 0)⟩
abbrev r_ref43_state_6 : Reg := ⟨[⟨.ldi (.v 2) (some 10), none, false⟩, ⟨.fad (.v 2) 6 none, none, false⟩, ⟨.ldi (.t 0) none, none, false⟩, ⟨.mv (.v 1), none, false⟩, ⟨.iad (.t 1) (.t 0) 1, none, false⟩, ⟨.ldi (.t 0) none, none, false⟩, ⟨.mv (.v 3), none, false⟩, ⟨.iad (.t 1) (.t 0) 1, none, false⟩, ⟨.ldi (.t 0) none, none, false⟩, ⟨.cal F_ref43_isState [(.t 8), (.t 0)], none, false⟩, ⟨.not (.t 0), none, false⟩, ⟨.mv (.t 0), none, false⟩, ⟨.fad (.v 2) 7 none, some (.t 0, false), false⟩, ⟨.ldi (.t 0) none, some (.t 1, false), false⟩, ⟨.mv (.v 1), some (.t 2, false), false⟩, ⟨.iad (.t 1) (.t 0) 1, some (.t 3, false), false⟩, ⟨.ldi (.t 0) none, some (.t 4, false), false⟩, ⟨.mv (.v 3), some (.t 5, false), false⟩, ⟨.iad (.t 1) (.t 0) 1, some (.t 6, false), false⟩, ⟨.ldi (.t 0) none, some (.t 7, false), false⟩, ⟨.bin .lss (.t 0) (.c (.int (0))), some (.t 8, false), false⟩, ⟨.pick (.t 9) (.c (.bool true)) (.t 0), none, false⟩, ⟨.mv (.t 0), none, false⟩, ⟨.fad (.v 2) 7 none, some (.t 0, false), false⟩, ⟨.ldi (.t 0) none, some (.t 1, false), false⟩, ⟨.mv (.v 1), some (.t 2, false), false⟩, ⟨.iad (.t 1) (.t 0) 1, some (.t 3, false), false⟩, ⟨.ldi (.t 0) none, some (.t 4, false), false⟩, ⟨.mv (.v 3), some (.t 5, false), false⟩, ⟨.iad (.t 1) (.t 0) 1, some (.t 6, false), false⟩, ⟨.ldi (.t 0) none, some (.t 7, false), false⟩, ⟨.fad (.v 2) 3 none, some (.t 8, false), false⟩, ⟨.ldi (.t 0) none, some (.t 9, false), false⟩, ⟨.bin .geq (.t 2) (.t 0), some (.t 10, false), false⟩, ⟨.pick (.t 11) (.c (.bool true)) (.t 0), none, false⟩], [], [], some (91, 0)⟩
abbrev r_ref43_state_7 : Reg := ⟨[⟨.mv (.c (.int (2))), none, false⟩], [(7, 0)], [1, 2, 3], none⟩
abbrev r_ref43_state_5 : Reg := ⟨[⟨.mv (.v 3), none, false⟩, ⟨.bin .add (.t 0) (.c (.int (1))), none, false⟩, ⟨.mv (.t 0), none, false⟩], [(3, 0)], [], none⟩
abbrev b_ref43_state_0 : IC := (.seq (.seq (.reg r_ref43_state_4)
 (.cond 54 .skip (.exit 0)))
 (.seq (.block 1 (.seq (.reg r_ref43_state_6)
 (.cond 91 (.seq (.reg r_ref43_state_7)
 .ret) .skip)))
 (.reg r_ref43_state_5)))
abbrev r_ref43_state_8 : Reg := ⟨[⟨.mv (.c (.int (0))), none, false⟩], [(4, 0)], [3], none⟩
abbrev r_ref43_state_9 : Reg := ⟨[⟨.mv (.v 4), none, false⟩, ⟨.fad (.v 2) 1 none, none, false⟩, ⟨.ldi (.t 0) none, none, false⟩, ⟨.bin .lss (.t 2) (.t 0), none, false⟩], [], [], some (95, 0)⟩
abbrev r_ref43_state_11 : Reg := ⟨[⟨.ldi (.v 2) (some 10), none, false⟩, ⟨.fad (.v 2) 8 none, none, false⟩, ⟨.ldi (.t 0) none, none, false⟩, ⟨.mv (.v 1), none, false⟩, ⟨.iad (.t 1) (.t 0) 1, none, false⟩, ⟨.ldi (.t 0) none, none, false⟩, ⟨.mv (.v 4), none, false⟩, ⟨.iad (.t 1) (.t 0) 1, none, false⟩, ⟨.ldi (.t 0) none, none, false⟩, ⟨.cal F_ref43_isState [(.t 8), (.t 0)], none, false⟩, ⟨.not (.t 0), none, false⟩], [], [], some (108, 0)⟩
abbrev r_ref43_state_12 : Reg := ⟨[⟨.mv (.c (.int (2))), none, false⟩], [(7, 0)], [1, 2, 4], none⟩
abbrev r_ref43_state_10 : Reg := ⟨[⟨.mv (.v 4), none, false⟩, ⟨.bin .add (.t 0) (.c (.int (1))), none, false⟩, ⟨.mv (.t 0), none, false⟩], [(4, 0)], [], none⟩
abbrev b_ref43_state_2 : IC := (.seq (.seq (.reg r_ref43_state_9)
 (.cond 95 .skip (.exit 2)))
 (.seq (.block 3 (.seq (.reg r_ref43_state_11)
 (.cond 108 (.seq (.reg r_ref43_state_12)
 .ret) .skip)))
 (.reg r_ref43_state_10)))
abbrev r_ref43_state_13 : Reg := ⟨[⟨.mv (.c (.int (0))), none, false⟩], [(5, 0)], [4], none⟩
abbrev r_ref43_state_14 : Reg := ⟨[⟨.mv (.v 5), none, false⟩, ⟨.fad (.v 2) 3 none, none, false⟩, ⟨.ldi (.t 0) none, none, false⟩, ⟨.bin .lss (.t 2) (.t 0), none, false⟩], [], [], some (112, 0)⟩
abbrev r_ref43_state_16 : Reg := ⟨[⟨.fad (.v 2) 9 none, none, false⟩, ⟨.ldi (.t 0) none, none, false⟩, ⟨.mv (.v 1), none, false⟩, ⟨.iad (.t 1) (.t 0) 1, none, false⟩, ⟨.ldi (.t 0) none, none, false⟩, ⟨.mv (.v 5), none, false⟩, ⟨.iad (.t 1) (.t 0) 1, none, false⟩, ⟨.ldi (.t 0) none, none, false⟩, ⟨.len (.t 0), none, false⟩, ⟨.fad (.v 2) 2 none, none, false⟩, ⟨.ldi (.t 0) none, none, false⟩, ⟨.bin .neq (.t 2) (.t 0), none, false⟩], [], [], some (126, 0)⟩
abbrev r_ref43_state_17 : Reg := ⟨[⟨.mv (.c (.int (1))), none, false⟩], [(7, 0)], [1, 2, 5], none⟩
abbrev r_ref43_state_18 : Reg := ⟨[⟨.mv (.c (.int (0))), none, false⟩], [(6, 0)], [], none⟩
abbrev r_ref43_state_19 : Reg := ⟨[⟨.mv (.v 6), none, false⟩, ⟨.fad (.v 2) 2 none, none, false⟩, ⟨.ldi (.t 0) none, none, false⟩, ⟨.bin .lss (.t 2) (.t 0), none, false⟩], [], [], some (130, 0)⟩
abbrev r_ref43_state_21 : Reg := ⟨[⟨.ldi (.v 2) (some 10), none, false⟩, ⟨.fad (.v 2) 9 none, none, false⟩, ⟨.ldi (.t 0) none, none, false⟩, ⟨.mv (.v 1), none, false⟩, ⟨.iad (.t 1) (.t 0) 1, none, false⟩, ⟨.ldi (.t 0) none, none, false⟩, ⟨.mv (.v 5), none, false⟩, ⟨.iad (.t 1) (.t 0) 1, none, false⟩, ⟨.ldi (.t 0) none, none, false⟩, ⟨.mv (.v 6), none, false⟩, ⟨.iad (.t 1) (.t 0) 1, none, false⟩, ⟨.ldi (.t 0) none, none, false⟩, ⟨.cal F_ref43_isState [(.t 11), (.t 0)], none, false⟩, ⟨.not (.t 0), none, false⟩], [], [], some (146, 0)⟩
abbrev r_ref43_state_22 : Reg := ⟨[⟨.mv (.c (.int (2))), none, false⟩], [(7, 0)], [1, 2, 5, 6], none⟩
abbrev r_ref43_state_20 : Reg := ⟨[⟨.mv (.v 6), none, false⟩, ⟨.bin .add (.t 0) (.c (.int (1))), none, false⟩, ⟨.mv (.t 0), none, false⟩], [(6, 0)], [], none⟩
abbrev b_ref43_state_6 : IC := (.seq (.seq (.reg r_ref43_state_19)
 (.cond 130 .skip (.exit 6)))
 (.seq (.block 7 (.seq (.reg r_ref43_state_21)
 (.cond 146 (.seq (.reg r_ref43_state_22)
 .ret) .skip)))
 (.reg r_ref43_state_20)))
abbrev r_ref43_state_15 : Reg := ⟨[⟨.mv (.v 5), none, false⟩, ⟨.bin .add (.t 0) (.c (.int (1))), none, false⟩, ⟨.mv (.t 0), none, false⟩], [(5, 0)], [6], none⟩
abbrev b_ref43_state_4 : IC := (.seq (.seq (.reg r_ref43_state_14)
 (.cond 112 .skip (.exit 4)))
 (.seq (.block 5 (.seq (.seq (.reg r_ref43_state_16)
 (.cond 126 (.seq (.reg r_ref43_state_17)
 .ret) .skip))
 (.seq (.reg r_ref43_state_18)
 (.block 6 (.loop b_ref43_state_6)))))
 (.reg r_ref43_state_15)))
abbrev r_ref43_state_23 : Reg := ⟨[⟨.mv (.c (.int (0))), none, false⟩], [(7, 0)], [1, 2, 5], none⟩
abbrev ir_ref43_state : Fn := { np := 2, nv := 8, res := [(7, none)], body :=
(.seq (.reg r_ref43_state_0)
 (.seq (.seq (.reg r_ref43_state_1)
 (.cond 50 (.seq (.reg r_ref43_state_2)
 .ret) .skip))
 (.seq (.seq (.reg r_ref43_state_3)
 (.block 0 (.loop b_ref43_state_0)))
 (.seq (.seq (.reg r_ref43_state_8)
 (.block 2 (.loop b_ref43_state_2)))
 (.seq (.seq (.reg r_ref43_state_13)
 (.block 4 (.loop b_ref43_state_4)))
 (.seq (.reg r_ref43_state_23)
 .ret)))))) }
/- f34 law43_Brackets : 0:_ -/
abbrev r_law43_Brackets_0 : Reg := ⟨[⟨.alc [.int 0, .int 0, .int 0, .int 0, .int 0, .snil, .snil, .snil, .snil, .snil] (some 10), none, false⟩], [(0, 0)], [], none⟩
abbrev r_law43_Brackets_1 : Reg := ⟨[⟨.liti [(.c (.bool true)), (.c (.bool false))] 1, none, false⟩, ⟨.liti [(.c (.int (0))), (.c (.int (0)))] 1, none, false⟩, ⟨.liti [(.c (.int (1))), (.c (.int (1)))] 1, none, false⟩, ⟨.liti [(.t 1), (.t 0)] 1, none, false⟩, ⟨.liti [(.c (.int (0))), (.c (.int (1)))] 1, none, false⟩, ⟨.liti [(.c (.int (0))), (.c (.int (0)))] 1, none, false⟩, ⟨.liti [(.t 1), (.t 0)] 1, none, false⟩, ⟨.liti [] 1, none, false⟩, ⟨.liti [] 1, none, false⟩, ⟨.liti [(.t 1), (.t 0)] 1, none, false⟩, ⟨.liti [(.c (.int (0))), (.c (.int (1)))] 1, none, false⟩, ⟨.liti [(.c (.int (1))), (.c (.int (0)))] 1, none, false⟩, ⟨.liti [(.t 1), (.t 0)] 1, none, false⟩, ⟨.liti [(.c (.int (1))), (.c (.int (1)))] 1, none, false⟩, ⟨.liti [(.c (.int (1))), (.c (.int (1)))] 1, none, false⟩, ⟨.liti [(.t 1), (.t 0)] 1, none, false⟩, ⟨.liti [(.t 3), (.t 0)] 1, none, false⟩, ⟨.bld [.int 0, .int 0, .int 0, .int 0, .int 0, .snil, .snil, .snil, .snil, .snil] [(0, 1, (.c (.int (2)))), (2, 1, (.c (.int (2)))), (3, 1, (.c (.int (2)))), (5, 1, (.t 16)), (6, 1, (.t 13)), (7, 1, (.t 10)), (8, 1, (.t 7)), (9, 1, (.t 0))], none, false⟩, ⟨.st (.v 0) (.t 0) 10, none, false⟩], [], [], none⟩
abbrev ir_law43_Brackets : Fn := { np := 0, nv := 1, res := [(0, some (some 10))], body :=
(.seq (.reg r_law43_Brackets_0)
 (.seq (.reg r_law43_Brackets_1)
 .ret)) }
/- f35 word_Check : 0:w 1:inputs 2:inputs 3:_ -/
abbrev r_word_Check_0 : Reg := ⟨[⟨.bxi (.v 1), none, false⟩, ⟨.mv (.c (.int (0))), none, false⟩], [(2, 1)], [1, 3], none⟩
abbrev r_word_Check_1 : Reg := ⟨[⟨.ldi (.v 2) none, none, false⟩, ⟨.cal F_word_permitted [(.t 0)], none, false⟩, ⟨.not (.t 0), none, false⟩, ⟨.mv (.t 0), none, false⟩], [], [], some (5, 0)⟩
abbrev r_word_Check_2 : Reg := ⟨[⟨.mv (.c (.int (2))), none, false⟩], [(3, 0)], [0, 2], none⟩
abbrev r_word_Check_3 : Reg := ⟨[⟨.mv (.v 0), none, false⟩, ⟨.len (.t 0), none, false⟩, ⟨.bin .gtr (.t 0) (.c (.int (1024))), none, false⟩, ⟨.mv (.t 0), none, false⟩], [], [], some (9, 0)⟩
abbrev r_word_Check_4 : Reg := ⟨[⟨.mv (.c (.int (3))), none, false⟩], [(3, 0)], [0, 2], none⟩
abbrev r_word_Check_5 : Reg := ⟨[⟨.mv (.v 0), none, false⟩, ⟨.mkf F_word_Check_1 [(.v 2)], none, false⟩, ⟨.cal F_slices_ContainsFunc_Sint_int [(.t 1), (.t 0)], none, false⟩, ⟨.mv (.t 0), none, false⟩], [], [0, 2], some (13, 0)⟩
abbrev r_word_Check_6 : Reg := ⟨[⟨.mv (.c (.int (1))), none, false⟩], [(3, 0)], [], none⟩
abbrev r_word_Check_7 : Reg := ⟨[⟨.mv (.c (.int (0))), none, false⟩], [(3, 0)], [], none⟩
abbrev ir_word_Check : Fn := { np := 2, nv := 4, res := [(3, none)], body :=
(.seq (.reg r_word_Check_0)
 (.seq (.block 0 (.seq (.reg r_word_Check_1)
 (.cond 5 (.seq (.reg r_word_Check_2)
 .ret) (.seq (.reg r_word_Check_3)
 (.cond 9 (.seq (.reg r_word_Check_4)
 .ret) (.seq (.reg r_word_Check_5)
 (.cond 13 (.seq (.reg r_word_Check_6)
 .ret) .skip)))))))
 (.seq (.reg r_word_Check_7)
 .ret))) }
/- f36 nested_levels : 0:n 1:w 2:_ 3:_ 4:_ 5:a 6:n 7:level 8:most 9:matched 10:_ 11:_ -/
abbrev r_nested_levels_0 : Reg := ⟨[⟨.bxi (.v 0), none, false⟩, ⟨.mv (.c (.int (0))), none, false⟩, ⟨.mv (.c (.bool false)), none, false⟩], [(6, 2)], [0, 10, 11], none⟩
abbrev r_nested_levels_1 : Reg := ⟨[⟨.mv (.c (.int (0))), none, false⟩, ⟨.mv (.c (.int (0))), none, false⟩, ⟨.mv (.c (.bool true)), none, false⟩], [(7, 2), (8, 1), (9, 0)], [], none⟩
abbrev r_nested_levels_2 : Reg := ⟨[⟨.mv (.v 1), none, false⟩, ⟨.len (.t 0), none, false⟩, ⟨.mv (.c (.int (0))), none, false⟩], [(4, 2), (3, 1), (2, 0)], [1], none⟩
abbrev r_nested_levels_3 : Reg := ⟨[⟨.bin .lss (.v 2) (.v 3), none, false⟩], [], [], some (14, 0)⟩
abbrev r_nested_levels_4 : Reg := ⟨[⟨.iad (.v 4) (.v 2) 1, none, false⟩, ⟨.ld (.t 0) none, none, false⟩, ⟨.mv (.t 0), none, false⟩], [(5, 0)], [], none⟩
abbrev r_nested_levels_5 : Reg := ⟨[⟨.mv (.v 5), none, false⟩, ⟨.fad (.v 6) 0 none, none, false⟩, ⟨.ldi (.t 0) none, none, false⟩, ⟨.bin .lss (.t 2) (.t 0), none, false⟩, ⟨.mv (.t 0), none, false⟩], [], [], some (17, 0)⟩
abbrev r_nested_levels_6 : Reg := ⟨[⟨.mv (.v 7), none, false⟩, ⟨.bin .add (.t 0) (.c (.int (1))), none, false⟩, ⟨.mv (.t 0), none, false⟩], [(7, 0)], [5], none⟩
abbrev r_nested_levels_7 : Reg := ⟨[⟨.mv (.v 5), none, false⟩, ⟨.fad (.v 6) 0 none, none, false⟩, ⟨.ldi (.t 0) none, none, false⟩, ⟨.fad (.v 6) 1 none, none, false⟩, ⟨.ldi (.t 0) none, none, false⟩, ⟨.bin .add (.t 2) (.t 0), none, false⟩, ⟨.bin .geq (.t 5) (.t 0), none, false⟩, ⟨.mv (.t 0), none, false⟩], [], [5], some (24, 0)⟩
abbrev r_nested_levels_8 : Reg := ⟨[⟨.mv (.v 7), none, false⟩, ⟨.bin .sub (.t 0) (.c (.int (1))), none, false⟩, ⟨.mv (.t 0), none, false⟩], [(7, 0)], [], none⟩
abbrev r_nested_levels_9 : Reg := ⟨[⟨.mv (.v 8), none, false⟩, ⟨.mv (.v 7), none, false⟩, ⟨.mx true (.t 1) (.t 0), none, false⟩, ⟨.mv (.t 0), none, false⟩], [(8, 0)], [], none⟩
abbrev r_nested_levels_10 : Reg := ⟨[⟨.mv (.v 9), none, false⟩, ⟨.mv (.t 0), none, false⟩, ⟨.mv (.v 7), some (.t 0, true), false⟩, ⟨.bin .geq (.t 0) (.c (.int (0))), some (.t 1, true), false⟩, ⟨.pick (.t 2) (.t 0) (.c (.bool false)), none, false⟩, ⟨.mv (.t 0), none, false⟩], [(9, 0)], [], none⟩
abbrev r_nested_levels_11 : Reg := ⟨[⟨.bin .add (.v 2) (.c (.int (1))), none, false⟩, ⟨.mv (.t 0), none, false⟩], [(2, 0)], [], none⟩
abbrev b_nested_levels_0 : IC := (.seq (.reg r_nested_levels_3)
 (.seq (.cond 14 .skip (.exit 0))
 (.seq (.block 1 (.seq (.reg r_nested_levels_4)
 (.seq (.block 2 (.seq (.reg r_nested_levels_5)
 (.cond 17 (.reg r_nested_levels_6) (.seq (.reg r_nested_levels_7)
 (.cond 24 (.reg r_nested_levels_8) .skip)))))
 (.seq (.reg r_nested_levels_9)
 (.reg r_nested_levels_10)))))
 (.reg r_nested_levels_11))))
abbrev r_nested_levels_12 : Reg := ⟨[⟨.mv (.v 8), none, false⟩, ⟨.mv (.v 9), none, false⟩, ⟨.mv (.t 0), none, false⟩, ⟨.mv (.v 7), some (.t 0, true), false⟩, ⟨.bin .eql (.t 0) (.c (.int (0))), some (.t 1, true), false⟩, ⟨.pick (.t 2) (.t 0) (.c (.bool false)), none, false⟩, ⟨.mv (.t 5), none, false⟩, ⟨.mv (.t 1), none, false⟩], [(10, 1), (11, 0)], [2, 3, 4, 6, 7, 8, 9], none⟩
abbrev ir_nested_levels : Fn := { np := 2, nv := 12, res := [(10, none), (11, none)], body :=
(.seq (.reg r_nested_levels_0)
 (.seq (.reg r_nested_levels_1)
 (.seq (.seq (.reg r_nested_levels_2)
 (.block 0 (.loop b_nested_levels_0)))
 (.seq (.reg r_nested_levels_12)
 .ret)))) }
/- f37 nested_single_call : 0:m 1:s 2:c 3:m 4:_ 5:_ -/
abbrev r_nested_single_call_0 : Reg := ⟨[⟨.bxi (.v 0), none, false⟩, ⟨.mv (.c (.int (0))), none, false⟩, ⟨.mv (.c (.int (0))), none, false⟩], [(3, 2)], [0, 4, 5], none⟩
abbrev r_nested_single_call_1 : Reg := ⟨[⟨.fad (.v 3) 0 (some 10), none, false⟩, ⟨.fad (.t 0) 6 none, none, false⟩, ⟨.ldi (.t 0) none, none, false⟩, ⟨.mv (.v 1), none, false⟩, ⟨.iad (.t 1) (.t 0) 1, none, false⟩, ⟨.ldi (.t 0) none, none, false⟩, ⟨.mv (.v 2), none, false⟩, ⟨.iad (.t 1) (.t 0) 1, none, false⟩, ⟨.ldi (.t 0) none, none, false⟩, ⟨.fad (.v 3) 0 (some 10), none, false⟩, ⟨.fad (.t 0) 7 none, none, false⟩, ⟨.ldi (.t 0) none, none, false⟩, ⟨.mv (.v 1), none, false⟩, ⟨.iad (.t 1) (.t 0) 1, none, false⟩, ⟨.ldi (.t 0) none, none, false⟩, ⟨.mv (.v 2), none, false⟩, ⟨.iad (.t 1) (.t 0) 1, none, false⟩, ⟨.ldi (.t 0) none, none, false⟩, ⟨.mv (.t 9), none, false⟩, ⟨.mv (.t 1), none, false⟩], [(4, 1), (5, 0)], [1, 2, 3], none⟩
abbrev ir_nested_single_call : Fn := { np := 3, nv := 6, res := [(4, none), (5, none)], body :=
(.seq (.reg r_nested_single_call_0)
 (.seq (.reg r_nested_single_call_1)
 .ret)) }
/- f38 nested_stack_int_push : 0:s 1:x -/
abbrev r_nested_stack_int_push_0 : Reg := ⟨[⟨.mv (.v 0), none, false⟩, ⟨.mv (.v 0), none, false⟩, ⟨.nck (.t 0), none, false⟩, ⟨.fad (.t 0) 0 none, none, false⟩, ⟨.ld (.t 0) none, none, false⟩, ⟨.mv (.v 1), none, false⟩, ⟨.lita [(.t 0)] 1, none, false⟩, ⟨.appw (.t 2) (.t 0) none, none, false⟩, ⟨.nck (.t 7), none, false⟩, ⟨.fad (.t 0) 0 none, none, false⟩, ⟨.st (.t 0) (.t 2) 1, none, false⟩], [], [0, 1], none⟩
abbrev ir_nested_stack_int_push : Fn := { np := 2, nv := 2, res := [], body :=
(.reg r_nested_stack_int_push_0) }
/- f39 nested_single_inner : 0:m 1:s 2:i 3:m 4:_ -/
abbrev r_nested_single_inner_0 : Reg := ⟨[⟨.bxi (.v 0), none, false⟩, ⟨.mv (.c (.int (0))), none, false⟩], [(3, 1)], [0, 4], none⟩
abbrev r_nested_single_inner_1 : Reg := ⟨[⟨.fad (.v 3) 0 (some 10), none, false⟩, ⟨.fad (.t 0) 8 none, none, false⟩, ⟨.ldi (.t 0) none, none, false⟩, ⟨.mv (.v 1), none, false⟩, ⟨.iad (.t 1) (.t 0) 1, none, false⟩, ⟨.ldi (.t 0) none, none, false⟩, ⟨.mv (.v 2), none, false⟩, ⟨.iad (.t 1) (.t 0) 1, none, false⟩, ⟨.ldi (.t 0) none, none, false⟩, ⟨.mv (.t 0), none, false⟩], [(4, 0)], [1, 2, 3], none⟩
abbrev ir_nested_single_inner : Fn := { np := 3, nv := 5, res := [(4, none)], body :=
(.seq (.reg r_nested_single_inner_0)
 (.seq (.reg r_nested_single_inner_1)
 .ret)) }
/- f40 nested_single_pop : 0:m 1:s 2:g 3:r 4:m 5:_ -/
abbrev r_nested_single_pop_0 : Reg := ⟨[⟨.bxi (.v 0), none, false⟩, ⟨.mv (.c (.int (0))), none, false⟩], [(4, 1)], [0, 5], none⟩
abbrev r_nested_single_pop_1 : Reg := ⟨[⟨.fad (.v 4) 0 (some 10), none, false⟩, ⟨.fad (.t 0) 9 none, none, false⟩, ⟨.ldi (.t 0) none, none, false⟩, ⟨.mv (.v 1), none, false⟩, ⟨.iad (.t 1) (.t 0) 1, none, false⟩, ⟨.ldi (.t 0) none, none, false⟩, ⟨.mv (.v 2), none, false⟩, ⟨.iad (.t 1) (.t 0) 1, none, false⟩, ⟨.ldi (.t 0) none, none, false⟩, ⟨.mv (.v 3), none, false⟩, ⟨.iad (.t 1) (.t 0) 1, none, false⟩, ⟨.ldi (.t 0) none, none, false⟩, ⟨.mv (.t 0), none, false⟩], [(5, 0)], [1, 2, 3, 4], none⟩
abbrev ir_nested_single_pop : Fn := { np := 4, nv := 6, res := [(5, none)], body :=
(.seq (.reg r_nested_single_pop_0)
 (.seq (.reg r_nested_single_pop_1)
 .ret)) }
/- f41 nested_stack_int_pop : 0:s 1:x 2:_ -/
abbrev r_nested_stack_int_pop_0 : Reg := ⟨[⟨.mv (.c (.int (0))), none, false⟩], [], [2], none⟩
abbrev r_nested_stack_int_pop_1 : Reg := ⟨[⟨.mv (.v 0), none, false⟩, ⟨.nck (.t 0), none, false⟩, ⟨.fad (.t 0) 0 none, none, false⟩, ⟨.ld (.t 0) none, none, false⟩, ⟨.mv (.v 0), none, false⟩, ⟨.nck (.t 0), none, false⟩, ⟨.fad (.t 0) 0 none, none, false⟩, ⟨.ld (.t 0) none, none, false⟩, ⟨.len (.t 0), none, false⟩, ⟨.bin .sub (.t 0) (.c (.int (1))), none, false⟩, ⟨.iad (.t 6) (.t 0) 1, none, false⟩, ⟨.ld (.t 0) none, none, false⟩, ⟨.mv (.t 0), none, false⟩], [(1, 0)], [], none⟩
abbrev r_nested_stack_int_pop_2 : Reg := ⟨[⟨.mv (.v 0), none, false⟩, ⟨.mv (.v 0), none, false⟩, ⟨.nck (.t 0), none, false⟩, ⟨.fad (.t 0) 0 none, none, false⟩, ⟨.ld (.t 0) none, none, false⟩, ⟨.mv (.v 0), none, false⟩, ⟨.nck (.t 0), none, false⟩, ⟨.fad (.t 0) 0 none, none, false⟩, ⟨.ld (.t 0) none, none, false⟩, ⟨.len (.t 0), none, false⟩, ⟨.bin .sub (.t 0) (.c (.int (1))), none, false⟩, ⟨.slc (.t 6) none (some (.t 0)) 1, none, false⟩, ⟨.nck (.t 11), none, false⟩, ⟨.fad (.t 0) 0 none, none, false⟩, ⟨.st (.t 0) (.t 2) 1, none, false⟩], [], [0], none⟩
abbrev r_nested_stack_int_pop_3 : Reg := ⟨[⟨.mv (.v 1), none, false⟩, ⟨.mv (.t 0), none, false⟩], [(2, 0)], [1], none⟩
abbrev ir_nested_stack_int_pop : Fn := { np := 1, nv := 3, res := [(2, none)], body :=
(.seq (.reg r_nested_stack_int_pop_0)
 (.seq (.reg r_nested_stack_int_pop_1)
 (.seq (.reg r_nested_stack_int_pop_2)
 (.seq (.reg r_nested_stack_int_pop_3)
 .ret)))) }
/- f42 ref01_Check : 0:w 1:inputs 2:i 3:_ -/
abbrev r_ref01_Check_0 : Reg := ⟨[⟨.mv (.c (.int (0))), none, false⟩], [], [3], none⟩
abbrev r_ref01_Check_1 : Reg := ⟨[⟨.mv (.v 1), none, false⟩, ⟨.cal F_ref01_Size [(.t 0)], none, false⟩, ⟨.not (.t 0), none, false⟩], [], [], some (8, 0)⟩
abbrev r_ref01_Check_2 : Reg := ⟨[⟨.mv (.c (.int (2))), none, false⟩], [(3, 0)], [0, 1], none⟩
abbrev r_ref01_Check_3 : Reg := ⟨[⟨.mv (.v 0), none, false⟩, ⟨.len (.t 0), none, false⟩, ⟨.bin .gtr (.t 0) (.c (.int (1024))), none, false⟩], [], [], some (11, 0)⟩
abbrev r_ref01_Check_4 : Reg := ⟨[⟨.mv (.c (.int (3))), none, false⟩], [(3, 0)], [0, 1], none⟩
abbrev r_ref01_Check_5 : Reg := ⟨[⟨.mv (.c (.int (0))), none, false⟩], [(2, 0)], [], none⟩
abbrev r_ref01_Check_6 : Reg := ⟨[⟨.mv (.v 2), none, false⟩, ⟨.mv (.v 0), none, false⟩, ⟨.len (.t 0), none, false⟩, ⟨.bin .lss (.t 2) (.t 0), none, false⟩], [], [], some (15, 0)⟩
abbrev r_ref01_Check_8 : Reg := ⟨[⟨.mv (.v 0), none, false⟩, ⟨.mv (.v 2), none, false⟩, ⟨.iad (.t 1) (.t 0) 1, none, false⟩, ⟨.ld (.t 0) none, none, false⟩, ⟨.bin .lss (.t 0) (.c (.int (0))), none, false⟩, ⟨.mv (.t 0), none, false⟩, ⟨.mv (.v 0), some (.t 0, false), false⟩, ⟨.mv (.v 2), some (.t 1, false), false⟩, ⟨.iad (.t 1) (.t 0) 1, some (.t 2, false), false⟩, ⟨.ld (.t 0) none, some (.t 3, false), false⟩, ⟨.mv (.v 1), some (.t 4, false), false⟩, ⟨.bin .geq (.t 1) (.t 0), some (.t 5, false), false⟩, ⟨.pick (.t 6) (.c (.bool true)) (.t 0), none, false⟩], [], [], some (30, 0)⟩
abbrev r_ref01_Check_9 : Reg := ⟨[⟨.mv (.c (.int (1))), none, false⟩], [(3, 0)], [0, 1, 2], none⟩
abbrev r_ref01_Check_7 : Reg := ⟨[⟨.mv (.v 2), none, false⟩, ⟨.bin .add (.t 0) (.c (.int (1))), none, false⟩, ⟨.mv (.t 0), none, false⟩], [(2, 0)], [], none⟩
abbrev b_ref01_Check_0 : IC := (.seq (.seq (.reg r_ref01_Check_6)
 (.cond 15 .skip (.exit 0)))
 (.seq (.block 1 (.seq (.reg r_ref01_Check_8)
 (.cond 30 (.seq (.reg r_ref01_Check_9)
 .ret) .skip)))
 (.reg r_ref01_Check_7)))
abbrev r_ref01_Check_10 : Reg := ⟨[⟨.mv (.c (.int (0))), none, false⟩], [(3, 0)], [0, 1, 2], none⟩
abbrev ir_ref01_Check : Fn := { np := 2, nv := 4, res := [(3, none)], body :=
(.seq (.reg r_ref01_Check_0)
 (.seq (.seq (.reg r_ref01_Check_1)
 (.cond 8 (.seq (.reg r_ref01_Check_2)
 .ret) .skip))
 (.seq (.seq (.reg r_ref01_Check_3)
 (.cond 11 (.seq (.reg r_ref01_Check_4)
 .ret) .skip))
 (.seq (.seq (.reg r_ref01_Check_5)
 (.block 0 (.loop b_ref01_Check_0)))
 (.seq (.reg r_ref01_Check_10)
 .ret))))) }
/- f43 ref43_Symbols : 0:n 1:n 2:_ -/
abbrev r_ref43_Symbols_0 : Reg := ⟨[⟨.bxi (.v 0), none, false⟩, ⟨.mv (.c (.int (0))), none, false⟩], [(1, 1)], [0, 2], none⟩
abbrev r_ref43_Symbols_1 : Reg := ⟨[⟨.fad (.v 1) 0 none, none, false⟩, ⟨.ldi (.t 0) none, none, false⟩, ⟨.fad (.v 1) 1 none, none, false⟩, ⟨.ldi (.t 0) none, none, false⟩, ⟨.bin .add (.t 2) (.t 0), none, false⟩, ⟨.fad (.v 1) 2 none, none, false⟩, ⟨.ldi (.t 0) none, none, false⟩, ⟨.bin .add (.t 2) (.t 0), none, false⟩, ⟨.mv (.t 0), none, false⟩], [(2, 0)], [1], none⟩
abbrev ir_ref43_Symbols : Fn := { np := 1, nv := 3, res := [(2, none)], body :=
(.seq (.reg r_ref43_Symbols_0)
 (.seq (.reg r_ref43_Symbols_1)
 .ret)) }
/- f44 ref43_depths : 0:n 1:w 2:i 3:n 4:now 5:most 6:least 7:_ 8:_ 9:_ -/
abbrev r_ref43_depths_0 : Reg := ⟨[⟨.bxi (.v 0), none, false⟩, ⟨.mv (.c (.int (0))), none, false⟩, ⟨.mv (.c (.int (0))), none, false⟩, ⟨.mv (.c (.int (0))), none, false⟩], [(3, 3)], [0, 7, 8, 9], none⟩
abbrev r_ref43_depths_1 : Reg := ⟨[⟨.mv (.c (.int (0))), none, false⟩, ⟨.mv (.c (.int (0))), none, false⟩, ⟨.mv (.c (.int (0))), none, false⟩], [(5, 2), (6, 1), (4, 0)], [], none⟩
abbrev r_ref43_depths_2 : Reg := ⟨[⟨.mv (.c (.int (0))), none, false⟩], [(2, 0)], [], none⟩
abbrev r_ref43_depths_3 : Reg := ⟨[⟨.mv (.v 2), none, false⟩, ⟨.mv (.v 1), none, false⟩, ⟨.len (.t 0), none, false⟩, ⟨.bin .lss (.t 2) (.t 0), none, false⟩], [], [], some (14, 0)⟩
abbrev r_ref43_depths_5 : Reg := ⟨[⟨.mv (.v 1), none, false⟩, ⟨.mv (.v 2), none, false⟩, ⟨.iad (.t 1) (.t 0) 1, none, false⟩, ⟨.ld (.t 0) none, none, false⟩, ⟨.fad (.v 3) 0 none, none, false⟩, ⟨.ldi (.t 0) none, none, false⟩, ⟨.bin .lss (.t 2) (.t 0), none, false⟩], [], [], some (23, 0)⟩
abbrev r_ref43_depths_6 : Reg := ⟨[⟨.mv (.v 4), none, false⟩, ⟨.bin .add (.t 0) (.c (.int (1))), none, false⟩, ⟨.mv (.t 0), none, false⟩], [(4, 0)], [], none⟩
abbrev r_ref43_depths_7 : Reg := ⟨[⟨.mv (.v 1), none, false⟩, ⟨.mv (.v 2), none, false⟩, ⟨.iad (.t 1) (.t 0) 1, none, false⟩, ⟨.ld (.t 0) none, none, false⟩, ⟨.fad (.v 3) 0 none, none, false⟩, ⟨.ldi (.t 0) none, none, false⟩, ⟨.fad (.v 3) 1 none, none, false⟩, ⟨.ldi (.t 0) none, none, false⟩, ⟨.bin .add (.t 2) (.t 0), none, false⟩, ⟨.bin .geq (.t 5) (.t 0), none, false⟩], [], [], some (35, 0)⟩
abbrev r_ref43_depths_8 : Reg := ⟨[⟨.mv (.v 4), none, false⟩, ⟨.bin .sub (.t 0) (.c (.int (1))), none, false⟩, ⟨.mv (.t 0), none, false⟩], [(4, 0)], [], none⟩
abbrev r_ref43_depths_9 : Reg := ⟨[⟨.mv (.v 5), none, false⟩, ⟨.mv (.v 4), none, false⟩, ⟨.mx true (.t 1) (.t 0), none, false⟩, ⟨.mv (.t 0), none, false⟩], [(5, 0)], [], none⟩
abbrev r_ref43_depths_10 : Reg := ⟨[⟨.mv (.v 6), none, false⟩, ⟨.mv (.v 4), none, false⟩, ⟨.mx false (.t 1) (.t 0), none, false⟩, ⟨.mv (.t 0), none, false⟩], [(6, 0)], [], none⟩
abbrev r_ref43_depths_4 : Reg := ⟨[⟨.mv (.v 2), none, false⟩, ⟨.bin .add (.t 0) (.c (.int (1))), none, false⟩, ⟨.mv (.t 0), none, false⟩], [(2, 0)], [], none⟩
abbrev b_ref43_depths_0 : IC := (.seq (.seq (.reg r_ref43_depths_3)
 (.cond 14 .skip (.exit 0)))
 (.seq (.block 1 (.seq (.seq (.reg r_ref43_depths_5)
 (.cond 23 (.reg r_ref43_depths_6) .skip))
 (.seq (.seq (.reg r_ref43_depths_7)
 (.cond 35 (.reg r_ref43_depths_8) .skip))
 (.seq (.reg r_ref43_depths_9)
 (.reg r_ref43_depths_10)))))
 (.reg r_ref43_depths_4)))
abbrev r_ref43_depths_11 : Reg := ⟨[⟨.mv (.v 5), none, false⟩, ⟨.mv (.v 6), none, false⟩, ⟨.mv (.v 4), none, false⟩, ⟨.mv (.t 2), none, false⟩, ⟨.mv (.t 2), none, false⟩, ⟨.mv (.t 2), none, false⟩], [(7, 2), (8, 1), (9, 0)], [1, 2, 3, 4, 5, 6], none⟩
abbrev ir_ref43_depths : Fn := { np := 2, nv := 10, res := [(7, none), (8, none), (9, none)], body :=
(.seq (.reg r_ref43_depths_0)
 (.seq (.reg r_ref43_depths_1)
 (.seq (.seq (.reg r_ref43_depths_2)
 (.block 0 (.loop b_ref43_depths_0)))
 (.seq (.reg r_ref43_depths_11)
 .ret)))) }
/- f45 nested_connected : 0:m 1:n 2:steps 3:_ 4:_ 5:s 6:n 7:_ 8:_ 9:i 10:reach 11:_ 12:_ 13:s 14:_ -/
abbrev r_nested_connected_0 : Reg := ⟨[⟨.bxm (.v 1) (some 10), none, false⟩, ⟨.mv (.c (.snil)), none, false⟩], [(6, 1)], [1, 14], none⟩
abbrev r_nested_connected_1 : Reg := ⟨[⟨.mv (.v 0), none, false⟩, ⟨.inv (.t 0) [(T_nested_single, F_nested_single_size), (T_nested_double, F_nested_double_size)] [], none, false⟩, ⟨.mks (.t 0) (.t 0) [.snil] none, none, false⟩, ⟨.mv (.t 0), none, false⟩], [(2, 0)], [], none⟩
abbrev r_nested_connected_2 : Reg := ⟨[⟨.mv (.v 2), none, false⟩, ⟨.len (.t 0), none, false⟩, ⟨.mv (.c (.int (0))), none, false⟩], [(4, 1), (3, 0)], [], none⟩
abbrev r_nested_connected_3 : Reg := ⟨[⟨.bin .lss (.v 3) (.v 4), none, false⟩], [], [], some (16, 0)⟩
abbrev r_nested_connected_4 : Reg := ⟨[⟨.mv (.v 3), none, false⟩, ⟨.mv (.t 0), none, false⟩], [(5, 0)], [], none⟩
abbrev r_nested_connected_5 : Reg := ⟨[⟨.mv (.v 2), none, false⟩, ⟨.mv (.v 5), none, false⟩, ⟨.mv (.v 0), none, false⟩, ⟨.inv (.t 0) [(T_nested_single, F_nested_single_size), (T_nested_double, F_nested_double_size)] [], none, false⟩, ⟨.mks (.t 0) (.t 0) [.bool false] none, none, false⟩, ⟨.iad (.t 4) (.t 3) 1, none, false⟩, ⟨.st (.t 0) (.t 1) 1, none, false⟩], [], [], none⟩
abbrev r_nested_connected_6 : Reg := ⟨[⟨.fad (.v 6) 1 none, none, false⟩, ⟨.ld (.t 0) none, none, false⟩, ⟨.mv (.c (.int (0))), none, false⟩], [(8, 1), (7, 0)], [], none⟩
abbrev r_nested_connected_7 : Reg := ⟨[⟨.bin .lss (.v 7) (.v 8), none, false⟩], [], [], some (27, 0)⟩
abbrev r_nested_connected_8 : Reg := ⟨[⟨.mv (.v 7), none, false⟩, ⟨.mv (.t 0), none, false⟩], [(9, 0)], [], none⟩
abbrev r_nested_connected_9 : Reg := ⟨[⟨.mv (.v 2), none, false⟩, ⟨.mv (.v 5), none, false⟩, ⟨.iad (.t 1) (.t 0) 1, none, false⟩, ⟨.ld (.t 0) none, none, false⟩, ⟨.mv (.v 0), none, false⟩, ⟨.mv (.v 5), none, false⟩, ⟨.mv (.v 9), none, false⟩, ⟨.inv (.t 2) [(T_nested_single, F_nested_single_inner), (T_nested_double, F_nested_double_inner)] [(.t 1), (.t 0)], none, false⟩, ⟨.iad (.t 4) (.t 0) 1, none, false⟩, ⟨.st (.t 0) (.c (.bool true)) 1, none, false⟩], [], [9], none⟩
abbrev r_nested_connected_10 : Reg := ⟨[⟨.bin .add (.v 7) (.c (.int (1))), none, false⟩, ⟨.mv (.t 0), none, false⟩], [(7, 0)], [], none⟩
abbrev b_nested_connected_2 : IC := (.seq (.reg r_nested_connected_7)
 (.seq (.cond 27 .skip (.exit 2))
 (.seq (.block 3 (.seq (.reg r_nested_connected_8)
 (.reg r_nested_connected_9)))
 (.reg r_nested_connected_10))))
abbrev r_nested_connected_11 : Reg := ⟨[⟨.bin .add (.v 3) (.c (.int (1))), none, false⟩, ⟨.mv (.t 0), none, false⟩], [(3, 0)], [5, 7, 8], none⟩
abbrev b_nested_connected_0 : IC := (.seq (.reg r_nested_connected_3)
 (.seq (.cond 16 .skip (.exit 0))
 (.seq (.block 1 (.seq (.reg r_nested_connected_4)
 (.seq (.reg r_nested_connected_5)
 (.seq (.reg r_nested_connected_6)
 (.block 2 (.loop b_nested_connected_2))))))
 (.reg r_nested_connected_11))))
abbrev r_nested_connected_12 : Reg := ⟨[⟨.mv (.v 0), none, false⟩, ⟨.inv (.t 0) [(T_nested_single, F_nested_single_size), (T_nested_double, F_nested_double_size)] [], none, false⟩, ⟨.mks (.t 0) (.t 0) [.snil] none, none, false⟩, ⟨.mv (.t 0), none, false⟩], [(10, 0)], [3, 4], none⟩
abbrev r_nested_connected_13 : Reg := ⟨[⟨.mv (.v 10), none, false⟩, ⟨.len (.t 0), none, false⟩, ⟨.mv (.c (.int (0))), none, false⟩], [(12, 1), (11, 0)], [], none⟩
abbrev r_nested_connected_14 : Reg := ⟨[⟨.bin .lss (.v 11) (.v 12), none, false⟩], [], [], some (46, 0)⟩
abbrev r_nested_connected_15 : Reg := ⟨[⟨.mv (.v 11), none, false⟩, ⟨.mv (.t 0), none, false⟩], [(13, 0)], [], none⟩
abbrev r_nested_connected_16 : Reg := ⟨[⟨.mv (.v 10), none, false⟩, ⟨.mv (.v 13), none, false⟩, ⟨.mv (.v 2), none, false⟩, ⟨.mv (.v 13), none, false⟩, ⟨.cab F_nested_spread [(.t 1), (.t 0)], none, false⟩, ⟨.iad (.t 4) (.t 3) 1, none, false⟩, ⟨.st (.t 0) (.t 1) 1, none, false⟩], [], [13], none⟩
abbrev r_nested_connected_17 : Reg := ⟨[⟨.bin .add (.v 11) (.c (.int (1))), none, false⟩, ⟨.mv (.t 0), none, false⟩], [(11, 0)], [], none⟩
abbrev b_nested_connected_6 : IC := (.seq (.reg r_nested_connected_14)
 (.seq (.cond 46 .skip (.exit 6))
 (.seq (.block 7 (.seq (.reg r_nested_connected_15)
 (.reg r_nested_connected_16)))
 (.reg r_nested_connected_17))))
abbrev r_nested_connected_18 : Reg := ⟨[⟨.mv (.v 0), none, false⟩, ⟨.ld (.v 6) (some 10), none, false⟩, ⟨.mv (.v 2), none, false⟩, ⟨.mv (.v 10), none, false⟩, ⟨.cam F_nested_widen [(.t 3), (.t 2), (.t 1), (.t 0)], none, false⟩, ⟨.not (.t 0), none, false⟩], [], [11, 12], some (60, 0)⟩
abbrev r_nested_connected_19 : Reg := ⟨[⟨.mv (.v 10), none, false⟩, ⟨.mv (.t 0), none, false⟩], [(14, 0)], [0, 2, 6, 10], none⟩
abbrev b_nested_connected_4 : IC := (.block 5 (.seq (.reg r_nested_connected_12)
 (.seq (.seq (.reg r_nested_connected_13)
 (.block 6 (.loop b_nested_connected_6)))
 (.seq (.reg r_nested_connected_18)
 (.cond 60 (.seq (.reg r_nested_connected_19)
 .ret) .skip)))))
abbrev ir_nested_connected : Fn := { np := 2, nv := 15, res := [(14, none)], body :=
(.seq (.reg r_nested_connected_0)
 (.seq (.reg r_nested_connected_1)
 (.seq (.seq (.reg r_nested_connected_2)
 (.block 0 (.loop b_nested_connected_0)))
 (.block 4 (.loop b_nested_connected_4))))) }
/- f46 ref43_connected : 0:n 1:s 2:n 3:table 4:changed 5:s 6:t 7:_ -/
abbrev r_ref43_connected_0 : Reg := ⟨[⟨.bxi (.v 0), none, false⟩, ⟨.mv (.c (.snil)), none, false⟩], [(2, 1)], [0, 7], none⟩
abbrev r_ref43_connected_1 : Reg := ⟨[⟨.nl none, none, false⟩], [(3, 0)], [], none⟩
abbrev r_ref43_connected_2 : Reg := ⟨[⟨.mv (.c (.int (0))), none, false⟩], [(1, 0)], [], none⟩
abbrev r_ref43_connected_3 : Reg := ⟨[⟨.mv (.v 1), none, false⟩, ⟨.fad (.v 2) 5 none, none, false⟩, ⟨.ldi (.t 0) none, none, false⟩, ⟨.len (.t 0), none, false⟩, ⟨.bin .lss (.t 3) (.t 0), none, false⟩], [], [], some (12, 0)⟩
abbrev r_ref43_connected_5 : Reg := ⟨[⟨.mv (.v 3), none, false⟩, ⟨.fad (.v 2) 5 none, none, false⟩, ⟨.ldi (.t 0) none, none, false⟩, ⟨.len (.t 0), none, false⟩, ⟨.mks (.t 0) (.t 0) [.bool false] none, none, false⟩, ⟨.lita [(.t 0)] 1, none, false⟩, ⟨.appw (.t 5) (.t 0) none, none, false⟩, ⟨.mv (.t 0), none, false⟩], [(3, 0)], [], none⟩
abbrev r_ref43_connected_6 : Reg := ⟨[⟨.mv (.v 3), none, false⟩, ⟨.mv (.v 1), none, false⟩, ⟨.iad (.t 1) (.t 0) 1, none, false⟩, ⟨.ld (.t 0) none, none, false⟩, ⟨.mv (.v 1), none, false⟩, ⟨.iad (.t 1) (.t 0) 1, none, false⟩, ⟨.st (.t 0) (.c (.bool true)) 1, none, false⟩], [], [], none⟩
abbrev r_ref43_connected_4 : Reg := ⟨[⟨.mv (.v 1), none, false⟩, ⟨.bin .add (.t 0) (.c (.int (1))), none, false⟩, ⟨.mv (.t 0), none, false⟩], [(1, 0)], [], none⟩
abbrev b_ref43_connected_0 : IC := (.seq (.seq (.reg r_ref43_connected_3)
 (.cond 12 .skip (.exit 0)))
 (.seq (.block 1 (.seq (.reg r_ref43_connected_5)
 (.reg r_ref43_connected_6)))
 (.reg r_ref43_connected_4)))
abbrev r_ref43_connected_7 : Reg := ⟨[⟨.mv (.c (.bool true)), none, false⟩], [(4, 0)], [1], none⟩
abbrev r_ref43_connected_8 : Reg := ⟨[⟨.mv (.v 4), none, false⟩], [], [4, 5], some (28, 0)⟩
abbrev r_ref43_connected_9 : Reg := ⟨[⟨.mv (.c (.bool false)), none, false⟩], [(4, 0)], [], none⟩
abbrev r_ref43_connected_10 : Reg := ⟨[⟨.mv (.c (.int (0))), none, false⟩], [(5, 0)], [], none⟩
abbrev r_ref43_connected_11 : Reg := ⟨[⟨.mv (.v 5), none, false⟩, ⟨.fad (.v 2) 5 none, none, false⟩, ⟨.ldi (.t 0) none, none, false⟩, ⟨.len (.t 0), none, false⟩, ⟨.bin .lss (.t 3) (.t 0), none, false⟩], [], [], some (33, 0)⟩
abbrev r_ref43_connected_13 : Reg := ⟨[⟨.mv (.c (.int (0))), none, false⟩], [(6, 0)], [], none⟩
abbrev r_ref43_connected_14 : Reg := ⟨[⟨.mv (.v 6), none, false⟩, ⟨.fad (.v 2) 5 none, none, false⟩, ⟨.ldi (.t 0) none, none, false⟩, ⟨.len (.t 0), none, false⟩, ⟨.bin .lss (.t 3) (.t 0), none, false⟩], [], [], some (40, 0)⟩
abbrev r_ref43_connected_16 : Reg := ⟨[⟨.mv (.v 3), none, false⟩, ⟨.mv (.v 5), none, false⟩, ⟨.iad (.t 1) (.t 0) 1, none, false⟩, ⟨.ld (.t 0) none, none, false⟩, ⟨.mv (.v 6), none, false⟩, ⟨.iad (.t 1) (.t 0) 1, none, false⟩, ⟨.ld (.t 0) none, none, false⟩, ⟨.not (.t 0), none, false⟩, ⟨.mv (.t 0), none, false⟩, ⟨.ldi (.v 2) (some 10), some (.t 0, true), false⟩, ⟨.mv (.v 3), some (.t 1, true), false⟩, ⟨.mv (.v 5), some (.t 2, true), false⟩, ⟨.mv (.v 6), some (.t 3, true), false⟩, ⟨.cab F_ref43_joined [(.t 3), (.t 2), (.t 1), (.t 0)], some (.t 4, true), false⟩, ⟨.pick (.t 5) (.t 0) (.c (.bool false)), none, false⟩], [], [], some (57, 0)⟩
abbrev r_ref43_connected_17 : Reg := ⟨[⟨.mv (.v 3), none, false⟩, ⟨.mv (.v 5), none, false⟩, ⟨.iad (.t 1) (.t 0) 1, none, false⟩, ⟨.ld (.t 0) none, none, false⟩, ⟨.mv (.v 6), none, false⟩, ⟨.iad (.t 1) (.t 0) 1, none, false⟩, ⟨.st (.t 0) (.c (.bool true)) 1, none, false⟩], [], [4], none⟩
abbrev r_ref43_connected_18 : Reg := ⟨[⟨.mv (.c (.bool true)), none, false⟩], [(4, 0)], [], none⟩
abbrev r_ref43_connected_15 : Reg := ⟨[⟨.mv (.v 6), none, false⟩, ⟨.bin .add (.t 0) (.c (.int (1))), none, false⟩, ⟨.mv (.t 0), none, false⟩], [(6, 0)], [], none⟩
abbrev b_ref43_connected_6 : IC := (.seq (.seq (.reg r_ref43_connected_14)
 (.cond 40 .skip (.exit 6)))
 (.seq (.block 7 (.seq (.reg r_ref43_connected_16)
 (.cond 57 (.seq (.reg r_ref43_connected_17)
 (.reg r_ref43_connected_18)) .skip)))
 (.reg r_ref43_connected_15)))
abbrev r_ref43_connected_12 : Reg := ⟨[⟨.mv (.v 5), none, false⟩, ⟨.bin .add (.t 0) (.c (.int (1))), none, false⟩, ⟨.mv (.t 0), none, false⟩], [(5, 0)], [6], none⟩
abbrev b_ref43_connected_4 : IC := (.seq (.seq (.reg r_ref43_connected_11)
 (.cond 33 .skip (.exit 4)))
 (.seq (.block 5 (.seq (.reg r_ref43_connected_13)
 (.block 6 (.loop b_ref43_connected_6))))
 (.reg r_ref43_connected_12)))
abbrev b_ref43_connected_2 : IC := (.seq (.seq (.reg r_ref43_connected_8)
 (.cond 28 .skip (.exit 2)))
 (.block 3 (.seq (.reg r_ref43_connected_9)
 (.seq (.reg r_ref43_connected_10)
 (.block 4 (.loop b_ref43_connected_4))))))
abbrev r_ref43_connected_19 : Reg := ⟨[⟨.mv (.v 3), none, false⟩, ⟨.mv (.t 0), none, false⟩], [(7, 0)], [2, 3], none⟩
abbrev ir_ref43_connected : Fn := { np := 1, nv := 8, res := [(7, none)], body :=
(.seq (.reg r_ref43_connected_0)
 (.seq (.reg r_ref43_connected_1)
 (.seq (.seq (.reg r_ref43_connected_2)
 (.block 0 (.loop b_ref43_connected_0)))
 (.seq (.seq (.reg r_ref43_connected_7)
 (.block 2 (.loop b_ref43_connected_2)))
 (.seq (.reg r_ref43_connected_19)
 .ret))))) }
/- f47 ref43_SameBools : 0:a 1:b 2:i 3:_ -/
abbrev r_ref43_SameBools_0 : Reg := ⟨[⟨.mv (.c (.bool false)), none, false⟩], [], [3], none⟩
abbrev r_ref43_SameBools_1 : Reg := ⟨[⟨.mv (.v 0), none, false⟩, ⟨.len (.t 0), none, false⟩, ⟨.mv (.v 1), none, false⟩, ⟨.len (.t 0), none, false⟩, ⟨.bin .neq (.t 2) (.t 0), none, false⟩], [], [], some (10, 0)⟩
abbrev r_ref43_SameBools_2 : Reg := ⟨[⟨.mv (.c (.bool false)), none, false⟩], [(3, 0)], [0, 1], none⟩
abbrev r_ref43_SameBools_3 : Reg := ⟨[⟨.mv (.c (.int (0))), none, false⟩], [(2, 0)], [], none⟩
abbrev r_ref43_SameBools_4 : Reg := ⟨[⟨.mv (.v 2), none, false⟩, ⟨.mv (.v 0), none, false⟩, ⟨.len (.t 0), none, false⟩, ⟨.bin .lss (.t 2) (.t 0), none, false⟩], [], [], some (14, 0)⟩
abbrev r_ref43_SameBools_6 : Reg := ⟨[⟨.mv (.v 0), none, false⟩, ⟨.mv (.v 2), none, false⟩, ⟨.iad (.t 1) (.t 0) 1, none, false⟩, ⟨.ld (.t 0) none, none, false⟩, ⟨.mv (.v 1), none, false⟩, ⟨.mv (.v 2), none, false⟩, ⟨.iad (.t 1) (.t 0) 1, none, false⟩, ⟨.ld (.t 0) none, none, false⟩, ⟨.beq true (.t 4) (.t 0), none, false⟩], [], [], some (25, 0)⟩
abbrev r_ref43_SameBools_7 : Reg := ⟨[⟨.mv (.c (.bool false)), none, false⟩], [(3, 0)], [0, 1, 2], none⟩
abbrev r_ref43_SameBools_5 : Reg := ⟨[⟨.mv (.v 2), none, false⟩, ⟨.bin .add (.t 0) (.c (.int (1))), none, false⟩, ⟨.mv (.t 0), none, false⟩], [(2, 0)], [], none⟩
abbrev b_ref43_SameBools_0 : IC := (.seq (.seq (.reg r_ref43_SameBools_4)
 (.cond 14 .skip (.exit 0)))
 (.seq (.block 1 (.seq (.reg r_ref43_SameBools_6)
 (.cond 25 (.seq (.reg r_ref43_SameBools_7)
 .ret) .skip)))
 (.reg r_ref43_SameBools_5)))
abbrev r_ref43_SameBools_8 : Reg := ⟨[⟨.mv (.c (.bool true)), none, false⟩], [(3, 0)], [0, 1, 2], none⟩
abbrev ir_ref43_SameBools : Fn := { np := 2, nv := 4, res := [(3, none)], body :=
(.seq (.reg r_ref43_SameBools_0)
 (.seq (.seq (.reg r_ref43_SameBools_1)
 (.cond 10 (.seq (.reg r_ref43_SameBools_2)
 .ret) .skip))
 (.seq (.seq (.reg r_ref43_SameBools_3)
 (.block 0 (.loop b_ref43_SameBools_0)))
 (.seq (.reg r_ref43_SameBools_8)
 .ret)))) }
/- f48 nested_first : 0:m 1:n 2:start 3:good 4:n 5:_ 6:_ 7:_ 8:possible 9:ok 10:t 11:_ 12:x 13:length 14:_ 15:_ 16:_ 17:p 18:ok 19:w 20:out 21:_ 22:_ 23:_ -/
abbrev r_nested_first_0 : Reg := ⟨[⟨.bxi (.v 1), none, false⟩, ⟨.mv (.c (.snil)), none, false⟩, ⟨.mv (.c (.bool false)), none, false⟩, ⟨.mv (.c (.int (0))), none, false⟩], [(4, 3)], [1, 21, 22, 23], none⟩
abbrev r_nested_first_1 : Reg := ⟨[⟨.mv (.c (.bool false)), none, false⟩], [(8, 0)], [], none⟩
abbrev r_nested_first_2 : Reg := ⟨[⟨.mv (.v 0), none, false⟩, ⟨.ldi (.v 4) (some 10), none, false⟩, ⟨.cal F_nested_connected [(.t 1), (.t 0)], none, false⟩, ⟨.mv (.v 2), none, false⟩, ⟨.iad (.t 1) (.t 0) 1, none, false⟩, ⟨.ld (.t 0) none, none, false⟩, ⟨.len (.t 0), none, false⟩, ⟨.mv (.c (.int (0))), none, false⟩], [(7, 2), (6, 1), (5, 0)], [], none⟩
abbrev r_nested_first_3 : Reg := ⟨[⟨.bin .lss (.v 5) (.v 6), none, false⟩], [], [], some (29, 0)⟩
abbrev r_nested_first_4 : Reg := ⟨[⟨.mv (.v 5), none, false⟩, ⟨.iad (.v 7) (.v 5) 1, none, false⟩, ⟨.ld (.t 0) none, none, false⟩, ⟨.mv (.t 2), none, false⟩, ⟨.mv (.t 1), none, false⟩], [(10, 1), (9, 0)], [], none⟩
abbrev r_nested_first_5 : Reg := ⟨[⟨.mv (.v 8), none, false⟩, ⟨.mv (.t 0), none, false⟩, ⟨.mv (.v 9), some (.t 0, false), false⟩, ⟨.mv (.t 0), some (.t 1, false), false⟩, ⟨.mv (.v 3), some (.t 0, true), false⟩, ⟨.mv (.v 10), some (.t 1, true), false⟩, ⟨.iad (.t 1) (.t 0) 1, some (.t 2, true), false⟩, ⟨.ld (.t 0) none, some (.t 3, true), false⟩, ⟨.pick (.t 4) (.t 0) (.c (.bool false)), some (.t 6, false), false⟩, ⟨.pick (.t 7) (.c (.bool true)) (.t 0), none, false⟩, ⟨.mv (.t 0), none, false⟩], [(8, 0)], [9, 10], none⟩
abbrev r_nested_first_6 : Reg := ⟨[⟨.bin .add (.v 5) (.c (.int (1))), none, false⟩, ⟨.mv (.t 0), none, false⟩], [(5, 0)], [], none⟩
abbrev b_nested_first_0 : IC := (.seq (.reg r_nested_first_3)
 (.seq (.cond 29 .skip (.exit 0))
 (.seq (.block 1 (.seq (.reg r_nested_first_4)
 (.reg r_nested_first_5)))
 (.reg r_nested_first_6))))
abbrev r_nested_first_7 : Reg := ⟨[⟨.mv (.v 8), none, false⟩, ⟨.not (.t 0), none, false⟩], [], [5, 6, 7, 8], some (45, 0)⟩
abbrev r_nested_first_8 : Reg := ⟨[⟨.mv (.c (.snil)), none, false⟩, ⟨.mv (.c (.bool false)), none, false⟩, ⟨.mv (.c (.int (0))), none, false⟩], [(21, 2), (22, 1), (23, 0)], [0, 2, 3, 4], none⟩
abbrev r_nested_first_9 : Reg := ⟨[⟨.mv (.v 0), none, false⟩, ⟨.ldi (.v 4) (some 10), none, false⟩, ⟨.can F_nested_newSearch [(.t 1), (.t 0)], none, false⟩, ⟨.mv (.t 0), none, false⟩], [(12, 0)], [0, 4], none⟩
abbrev r_nested_first_10 : Reg := ⟨[⟨.mv (.c (.int (0))), none, false⟩], [(11, 0)], [], none⟩
abbrev r_nested_first_11 : Reg := ⟨[⟨.bin .lss (.v 11) (.c (.int (1025))), none, false⟩], [], [], some (50, 0)⟩
abbrev r_nested_first_12 : Reg := ⟨[⟨.mv (.v 11), none, false⟩, ⟨.mv (.t 0), none, false⟩], [(13, 0)], [], none⟩
abbrev r_nested_first_13 : Reg := ⟨[⟨.mv (.c (.snil)), none, false⟩], [(20, 0)], [], none⟩
abbrev r_nested_first_14 : Reg := ⟨[⟨.mv (.c (.bool false)), none, false⟩], [(18, 0)], [], none⟩
abbrev r_nested_first_15 : Reg := ⟨[⟨.mv (.v 12), none, false⟩, ⟨.mv (.v 13), none, false⟩, ⟨.cam F_nested_search_level [(.t 1), (.t 0)], none, false⟩, ⟨.len (.t 0), none, false⟩, ⟨.mv (.c (.int (0))), none, false⟩], [(16, 2), (15, 1), (14, 0)], [13], none⟩
abbrev r_nested_first_16 : Reg := ⟨[⟨.bin .lss (.v 14) (.v 15), none, false⟩], [], [], some (57, 0)⟩
abbrev r_nested_first_17 : Reg := ⟨[⟨.iad (.v 16) (.v 14) 2, none, false⟩, ⟨.ld (.t 0) (some 2), none, false⟩, ⟨.alc0 2, none, false⟩, ⟨.ini (.t 0) (.t 1) 2, none, false⟩], [(17, 0)], [], none⟩
abbrev r_nested_first_18 : Reg := ⟨[⟨.mv (.v 12), none, false⟩, ⟨.nck (.t 0), none, false⟩, ⟨.fad (.t 0) 12 none, none, false⟩, ⟨.ld (.t 0) none, none, false⟩, ⟨.nck (.t 0), none, false⟩, ⟨.fad (.t 0) 0 none, none, false⟩, ⟨.ld (.t 0) none, none, false⟩, ⟨.iada (.v 17) (.c (.int (0))) 2 none, none, false⟩, ⟨.ldi (.t 0) none, none, false⟩, ⟨.iad (.t 2) (.t 0) 1, none, false⟩, ⟨.ld (.t 0) none, none, false⟩, ⟨.iada (.v 17) (.c (.int (1))) 2 none, none, false⟩, ⟨.ldi (.t 0) none, none, false⟩, ⟨.iad (.t 2) (.t 0) 1, none, false⟩, ⟨.ld (.t 0) none, none, false⟩, ⟨.mv (.t 0), none, false⟩], [(19, 0)], [], none⟩
abbrev r_nested_first_19 : Reg := ⟨[⟨.iada (.v 17) (.c (.int (0))) 2 none, none, false⟩, ⟨.ldi (.t 0) none, none, false⟩, ⟨.mv (.v 2), none, false⟩, ⟨.bin .eql (.t 1) (.t 0), none, false⟩, ⟨.mv (.t 0), none, false⟩, ⟨.mv (.v 3), some (.t 0, true), false⟩, ⟨.iada (.v 17) (.c (.int (1))) 2 none, some (.t 1, true), false⟩, ⟨.ldi (.t 0) none, some (.t 2, true), false⟩, ⟨.iad (.t 2) (.t 0) 1, some (.t 3, true), false⟩, ⟨.ld (.t 0) none, some (.t 4, true), false⟩, ⟨.pick (.t 5) (.t 0) (.c (.bool false)), none, false⟩, ⟨.mv (.t 0), none, false⟩, ⟨.mv (.v 18), some (.t 0, true), false⟩, ⟨.not (.t 0), some (.t 1, true), false⟩, ⟨.mv (.t 0), some (.t 2, true), false⟩, ⟨.mv (.v 19), some (.t 0, false), false⟩, ⟨.mv (.v 20), some (.t 1, false), false⟩, ⟨.cal F_word_Compare [(.t 1), (.t 0)], some (.t 2, false), false⟩, ⟨.bin .lss (.t 0) (.c (.int (0))), some (.t 3, false), false⟩, ⟨.pick (.t 4) (.c (.bool true)) (.t 0), some (.t 7, true), false⟩, ⟨.pick (.t 8) (.t 0) (.c (.bool false)), none, false⟩], [], [17], some (95, 0)⟩
abbrev r_nested_first_20 : Reg := ⟨[⟨.mv (.v 19), none, false⟩, ⟨.mv (.t 0), none, false⟩, ⟨.mv (.c (.bool true)), none, false⟩], [(20, 1), (18, 0)], [19], none⟩
abbrev r_nested_first_21 : Reg := ⟨[⟨.bin .add (.v 14) (.c (.int (1))), none, false⟩, ⟨.mv (.t 0), none, false⟩], [(14, 0)], [19], none⟩
abbrev b_nested_first_4 : IC := (.seq (.reg r_nested_first_16)
 (.seq (.cond 57 .skip (.exit 4))
 (.seq (.block 5 (.seq (.reg r_nested_first_17)
 (.seq (.reg r_nested_first_18)
 (.seq (.reg r_nested_first_19)
 (.cond 95 (.reg r_nested_first_20) .skip)))))
 (.reg r_nested_first_21))))
abbrev r_nested_first_22 : Reg := ⟨[⟨.mv (.v 18), none, false⟩], [], [14, 15, 16, 18], some (98, 0)⟩
abbrev r_nested_first_23 : Reg := ⟨[⟨.mv (.v 20), none, false⟩, ⟨.cal F_slices_Clone_Sint_int [(.t 0)], none, false⟩, ⟨.mv (.t 0), none, false⟩, ⟨.mv (.c (.bool true)), none, false⟩, ⟨.mv (.c (.int (0))), none, false⟩], [(21, 2), (22, 1), (23, 0)], [2, 3, 11, 12, 20], none⟩
abbrev r_nested_first_24 : Reg := ⟨[⟨.bin .add (.v 11) (.c (.int (1))), none, false⟩, ⟨.mv (.t 0), none, false⟩], [(11, 0)], [20], none⟩
abbrev b_nested_first_2 : IC := (.seq (.reg r_nested_first_11)
 (.seq (.cond 50 .skip (.exit 2))
 (.seq (.block 3 (.seq (.reg r_nested_first_12)
 (.seq (.reg r_nested_first_13)
 (.seq (.reg r_nested_first_14)
 (.seq (.seq (.reg r_nested_first_15)
 (.block 4 (.loop b_nested_first_4)))
 (.seq (.reg r_nested_first_22)
 (.cond 98 (.seq (.reg r_nested_first_23)
 .ret) .skip)))))))
 (.reg r_nested_first_24))))
abbrev r_nested_first_25 : Reg := ⟨[⟨.mv (.c (.snil)), none, false⟩, ⟨.mv (.c (.bool false)), none, false⟩, ⟨.mv (.c (.int (3))), none, false⟩], [(21, 2), (22, 1), (23, 0)], [2, 3, 11, 12], none⟩
abbrev ir_nested_first : Fn := { np := 4, nv := 24, res := [(21, none), (22, none), (23, none)], body :=
(.seq (.reg r_nested_first_0)
 (.seq (.reg r_nested_first_1)
 (.seq (.seq (.reg r_nested_first_2)
 (.block 0 (.loop b_nested_first_0)))
 (.seq (.seq (.reg r_nested_first_7)
 (.cond 45 (.seq (.reg r_nested_first_8)
 .ret) .skip))
 (.seq (.reg r_nested_first_9)
 (.seq (.seq (.reg r_nested_first_10)
 (.block 2 (.loop b_nested_first_2)))
 (.seq (.reg r_nested_first_25)
 .ret))))))) }
/- f49 ref43_first : 0:n 1:n 2:t 3:found 4:pairs 5:table 6:best 7:_ 8:_ 9:_ -/
abbrev r_ref43_first_0 : Reg := ⟨[⟨.bxi (.v 0), none, false⟩, ⟨.mv (.c (.snil)), none, false⟩, ⟨.mv (.c (.bool false)), none, false⟩, ⟨.mv (.c (.int (0))), none, false⟩], [(1, 3)], [0, 7, 8, 9], none⟩
abbrev r_ref43_first_1 : Reg := ⟨[⟨.ldi (.v 1) (some 10), none, false⟩, ⟨.cal F_ref43_links [(.t 0)], none, false⟩, ⟨.mv (.t 0), none, false⟩], [(5, 0)], [], none⟩
abbrev r_ref43_first_2 : Reg := ⟨[⟨.ldi (.v 1) (some 10), none, false⟩, ⟨.cal F_ref43_connected [(.t 0)], none, false⟩, ⟨.mv (.t 0), none, false⟩], [(4, 0)], [], none⟩
abbrev r_ref43_first_3 : Reg := ⟨[⟨.alc [.bool false, .snil] (some 2), none, false⟩], [(6, 0)], [], none⟩
abbrev r_ref43_first_4 : Reg := ⟨[⟨.mv (.c (.bool false)), none, false⟩], [(3, 0)], [], none⟩
abbrev r_ref43_first_5 : Reg := ⟨[⟨.mv (.c (.int (0))), none, false⟩], [(2, 0)], [], none⟩
abbrev r_ref43_first_6 : Reg := ⟨[⟨.mv (.v 2), none, false⟩, ⟨.fad (.v 1) 5 none, none, false⟩, ⟨.ldi (.t 0) none, none, false⟩, ⟨.len (.t 0), none, false⟩, ⟨.bin .lss (.t 3) (.t 0), none, false⟩], [], [], some (18, 0)⟩
abbrev r_ref43_first_8 : Reg := ⟨[⟨.fad (.v 1) 5 none, none, false⟩, ⟨.ldi (.t 0) none, none, false⟩, ⟨.mv (.v 2), none, false⟩, ⟨.iad (.t 1) (.t 0) 1, none, false⟩, ⟨.ldi (.t 0) none, none, false⟩, ⟨.not (.t 0), none, false⟩], [], [], some (26, 0)⟩
abbrev r_ref43_first_9 : Reg := ⟨[⟨.mv (.v 3), none, false⟩, ⟨.mv (.t 0), none, false⟩, ⟨.mv (.v 4), some (.t 0, false), false⟩, ⟨.fad (.v 1) 4 none, some (.t 1, false), false⟩, ⟨.ldi (.t 0) none, some (.t 2, false), false⟩, ⟨.iad (.t 2) (.t 0) 1, some (.t 3, false), false⟩, ⟨.ld (.t 0) none, some (.t 4, false), false⟩, ⟨.mv (.v 2), some (.t 5, false), false⟩, ⟨.iad (.t 1) (.t 0) 1, some (.t 6, false), false⟩, ⟨.ld (.t 0) none, some (.t 7, false), false⟩, ⟨.pick (.t 8) (.c (.bool true)) (.t 0), none, false⟩, ⟨.mv (.t 0), none, false⟩], [(3, 0)], [], none⟩
abbrev r_ref43_first_10 : Reg := ⟨[⟨.mv (.v 5), none, false⟩, ⟨.fad (.v 1) 4 none, none, false⟩, ⟨.ldi (.t 0) none, none, false⟩, ⟨.iad (.t 2) (.t 0) 1, none, false⟩, ⟨.ld (.t 0) none, none, false⟩, ⟨.mv (.v 2), none, false⟩, ⟨.iad (.t 1) (.t 0) 2, none, false⟩, ⟨.fad (.t 0) 0 none, none, false⟩, ⟨.ld (.t 0) none, none, false⟩], [], [], some (46, 0)⟩
abbrev r_ref43_first_11 : Reg := ⟨[⟨.ld (.v 6) (some 2), none, false⟩, ⟨.mv (.v 5), none, false⟩, ⟨.fad (.v 1) 4 none, none, false⟩, ⟨.ldi (.t 0) none, none, false⟩, ⟨.iad (.t 2) (.t 0) 1, none, false⟩, ⟨.ld (.t 0) none, none, false⟩, ⟨.mv (.v 2), none, false⟩, ⟨.iad (.t 1) (.t 0) 2, none, false⟩, ⟨.fad (.t 0) 1 none, none, false⟩, ⟨.ld (.t 0) none, none, false⟩, ⟨.cal F_ref43_better [(.t 9), (.t 0)], none, false⟩, ⟨.st (.v 6) (.t 0) 2, none, false⟩], [], [], none⟩
abbrev r_ref43_first_7 : Reg := ⟨[⟨.mv (.v 2), none, false⟩, ⟨.bin .add (.t 0) (.c (.int (1))), none, false⟩, ⟨.mv (.t 0), none, false⟩], [(2, 0)], [], none⟩
abbrev b_ref43_first_0 : IC := (.seq (.seq (.reg r_ref43_first_6)
 (.cond 18 .skip (.exit 0)))
 (.seq (.block 1 (.seq (.seq (.reg r_ref43_first_8)
 (.cond 26 (.exit 1) .skip))
 (.seq (.reg r_ref43_first_9)
 (.seq (.reg r_ref43_first_10)
 (.cond 46 (.reg r_ref43_first_11) .skip)))))
 (.reg r_ref43_first_7)))
abbrev r_ref43_first_12 : Reg := ⟨[⟨.mv (.v 3), none, false⟩, ⟨.mv (.t 0), none, false⟩, ⟨.fad (.v 6) 0 none, some (.t 0, true), false⟩, ⟨.ld (.t 0) none, some (.t 1, true), false⟩, ⟨.not (.t 0), some (.t 2, true), false⟩, ⟨.pick (.t 3) (.t 0) (.c (.bool false)), none, false⟩], [], [1, 2, 3, 4, 5], some (63, 0)⟩
abbrev r_ref43_first_13 : Reg := ⟨[⟨.mv (.c (.snil)), none, false⟩, ⟨.mv (.c (.bool false)), none, false⟩, ⟨.mv (.c (.int (3))), none, false⟩], [(7, 2), (8, 1), (9, 0)], [6], none⟩
abbrev r_ref43_first_14 : Reg := ⟨[⟨.fad (.v 6) 1 none, none, false⟩, ⟨.ld (.t 0) none, none, false⟩, ⟨.liti [(.t 0)] 1, none, false⟩, ⟨.cal F_ref01_Join [(.t 0)], none, false⟩, ⟨.fad (.v 6) 0 none, none, false⟩, ⟨.ld (.t 0) none, none, false⟩, ⟨.mv (.t 2), none, false⟩, ⟨.mv (.t 1), none, false⟩, ⟨.mv (.c (.int (0))), none, false⟩], [(7, 2), (8, 1), (9, 0)], [6], none⟩
abbrev ir_ref43_first : Fn := { np := 1, nv := 10, res := [(7, none), (8, none), (9, none)], body :=
(.seq (.reg r_ref43_first_0)
 (.seq (.reg r_ref43_first_1)
 (.seq (.reg r_ref43_first_2)
 (.seq (.reg r_ref43_first_3)
 (.seq (.reg r_ref43_first_4)
 (.seq (.seq (.reg r_ref43_first_5)
 (.block 0 (.loop b_ref43_first_0)))
 (.seq (.seq (.reg r_ref43_first_12)
 (.cond 63 (.seq (.reg r_ref43_first_13)
 .ret) .skip))
 (.seq (.reg r_ref43_first_14)
 .ret)))))))) }
/- f50 nested_double_size : 0:m 1:m 2:_ -/
abbrev r_nested_double_size_0 : Reg := ⟨[⟨.bxi (.v 0), none, false⟩, ⟨.mv (.c (.int (0))), none, false⟩], [(1, 1)], [0, 2], none⟩
abbrev r_nested_double_size_1 : Reg := ⟨[⟨.fad (.v 1) 0 (some 10), none, false⟩, ⟨.ldi (.t 0) (some 10), none, false⟩, ⟨.cal F_nested_single_size [(.t 0)], none, false⟩, ⟨.fad (.v 1) 10 (some 10), none, false⟩, ⟨.ldi (.t 0) (some 10), none, false⟩, ⟨.cal F_nested_single_size [(.t 0)], none, false⟩, ⟨.bin .mul (.t 3) (.t 0), none, false⟩, ⟨.mv (.t 0), none, false⟩], [(2, 0)], [1], none⟩
abbrev ir_nested_double_size : Fn := { np := 1, nv := 3, res := [(2, none)], body :=
(.seq (.reg r_nested_double_size_0)
 (.seq (.reg r_nested_double_size_1)
 .ret)) }
/- f51 nested_double_split : 0:m 1:s 2:m 3:_ 4:_ -/
abbrev r_nested_double_split_0 : Reg := ⟨[⟨.bxi (.v 0), none, false⟩, ⟨.mv (.c (.int (0))), none, false⟩, ⟨.mv (.c (.int (0))), none, false⟩], [(2, 2)], [0, 3, 4], none⟩
abbrev r_nested_double_split_1 : Reg := ⟨[⟨.mv (.v 1), none, false⟩, ⟨.fad (.v 2) 10 (some 10), none, false⟩, ⟨.ldi (.t 0) (some 10), none, false⟩, ⟨.cal F_nested_single_size [(.t 0)], none, false⟩, ⟨.bin .quo (.t 3) (.t 0), none, false⟩, ⟨.mv (.v 1), none, false⟩, ⟨.fad (.v 2) 10 (some 10), none, false⟩, ⟨.ldi (.t 0) (some 10), none, false⟩, ⟨.cal F_nested_single_size [(.t 0)], none, false⟩, ⟨.bin .rem (.t 3) (.t 0), none, false⟩, ⟨.mv (.t 5), none, false⟩, ⟨.mv (.t 1), none, false⟩], [(3, 1), (4, 0)], [1, 2], none⟩
abbrev ir_nested_double_split : Fn := { np := 2, nv := 5, res := [(3, none), (4, none)], body :=
(.seq (.reg r_nested_double_split_0)
 (.seq (.reg r_nested_double_split_1)
 .ret)) }
/- f52 nested_single_size : 0:m 1:m 2:_ -/
abbrev r_nested_single_size_0 : Reg := ⟨[⟨.bxi (.v 0), none, false⟩, ⟨.mv (.c (.int (0))), none, false⟩], [(1, 1)], [0, 2], none⟩
abbrev r_nested_single_size_1 : Reg := ⟨[⟨.fad (.v 1) 0 (some 10), none, false⟩, ⟨.fad (.t 0) 5 none, none, false⟩, ⟨.ldi (.t 0) none, none, false⟩, ⟨.len (.t 0), none, false⟩, ⟨.mv (.t 0), none, false⟩], [(2, 0)], [1], none⟩
abbrev ir_nested_single_size : Fn := { np := 1, nv := 3, res := [(2, none)], body :=
(.seq (.reg r_nested_single_size_0)
 (.seq (.reg r_nested_single_size_1)
 .ret)) }
/- f53 ref43_product : 0:a 1:b 2:b 3:a 4:k 5:x 6:y 7:c 8:call 9:push 10:i 11:inner 12:n 13:_ -/
abbrev r_ref43_product_0 : Reg := ⟨[⟨.bxi (.v 0), none, false⟩, ⟨.bxi (.v 1), none, false⟩, ⟨.alc [.int 0, .int 0, .int 0, .int 0, .int 0, .snil, .snil, .snil, .snil, .snil] (some 10), none, false⟩], [(3, 2), (2, 1), (13, 0)], [0, 1], none⟩
abbrev r_ref43_product_1 : Reg := ⟨[⟨.fad (.v 2) 5 none, none, false⟩, ⟨.ldi (.t 0) none, none, false⟩, ⟨.len (.t 0), none, false⟩, ⟨.mv (.t 0), none, false⟩], [(4, 0)], [], none⟩
abbrev r_ref43_product_2 : Reg := ⟨[⟨.fad (.v 3) 0 none, none, false⟩, ⟨.ldi (.t 0) none, none, false⟩, ⟨.fad (.v 3) 1 none, none, false⟩, ⟨.ldi (.t 0) none, none, false⟩, ⟨.fad (.v 3) 2 none, none, false⟩, ⟨.ldi (.t 0) none, none, false⟩, ⟨.fad (.v 3) 3 none, none, false⟩, ⟨.ldi (.t 0) none, none, false⟩, ⟨.fad (.v 2) 3 none, none, false⟩, ⟨.ldi (.t 0) none, none, false⟩, ⟨.bin .mul (.t 2) (.t 0), none, false⟩, ⟨.fad (.v 3) 4 none, none, false⟩, ⟨.ldi (.t 0) none, none, false⟩, ⟨.mv (.v 4), none, false⟩, ⟨.bin .mul (.t 1) (.t 0), none, false⟩, ⟨.fad (.v 2) 4 none, none, false⟩, ⟨.ldi (.t 0) none, none, false⟩, ⟨.bin .add (.t 2) (.t 0), none, false⟩, ⟨.bld [.int 0, .int 0, .int 0, .int 0, .int 0, .snil, .snil, .snil, .snil, .snil] [(0, 1, (.t 16)), (1, 1, (.t 14)), (2, 1, (.t 12)), (3, 1, (.t 7)), (4, 1, (.t 0))], none, false⟩, ⟨.alc [.int 0, .int 0, .int 0, .int 0, .int 0, .snil, .snil, .snil, .snil, .snil] (some 10), none, false⟩, ⟨.st (.t 0) (.t 1) 10, none, false⟩], [(12, 1)], [], none⟩
abbrev r_ref43_product_3 : Reg := ⟨[⟨.mv (.c (.int (0))), none, false⟩], [(5, 0)], [], none⟩
abbrev r_ref43_product_4 : Reg := ⟨[⟨.mv (.v 5), none, false⟩, ⟨.fad (.v 3) 5 none, none, false⟩, ⟨.ldi (.t 0) none, none, false⟩, ⟨.len (.t 0), none, false⟩, ⟨.bin .lss (.t 3) (.t 0), none, false⟩], [], [], some (40, 0)⟩
abbrev r_ref43_product_6 : Reg := ⟨[⟨.mv (.c (.int (0))), none, false⟩], [(6, 0)], [], none⟩
abbrev r_ref43_product_7 : Reg := ⟨[⟨.mv (.v 6), none, false⟩, ⟨.mv (.v 4), none, false⟩, ⟨.bin .lss (.t 1) (.t 0), none, false⟩], [], [], some (45, 0)⟩
abbrev r_ref43_product_9 : Reg := ⟨[⟨.nl none, none, false⟩, ⟨.nl none, none, false⟩, ⟨.nl none, none, false⟩], [(8, 2), (9, 1), (11, 0)], [], none⟩
abbrev r_ref43_product_10 : Reg := ⟨[⟨.mv (.c (.int (0))), none, false⟩], [(7, 0)], [], none⟩
abbrev r_ref43_product_11 : Reg := ⟨[⟨.mv (.v 7), none, false⟩, ⟨.fad (.v 3) 0 none, none, false⟩, ⟨.ldi (.t 0) none, none, false⟩, ⟨.bin .lss (.t 2) (.t 0), none, false⟩], [], [], some (51, 0)⟩
abbrev r_ref43_product_13 : Reg := ⟨[⟨.mv (.v 8), none, false⟩, ⟨.fad (.v 3) 6 none, none, false⟩, ⟨.ldi (.t 0) none, none, false⟩, ⟨.mv (.v 5), none, false⟩, ⟨.iad (.t 1) (.t 0) 1, none, false⟩, ⟨.ldi (.t 0) none, none, false⟩, ⟨.mv (.v 7), none, false⟩, ⟨.iad (.t 1) (.t 0) 1, none, false⟩, ⟨.ldi (.t 0) none, none, false⟩, ⟨.mv (.v 4), none, false⟩, ⟨.bin .mul (.t 1) (.t 0), none, false⟩, ⟨.fad (.v 2) 6 none, none, false⟩, ⟨.ldi (.t 0) none, none, false⟩, ⟨.mv (.v 6), none, false⟩, ⟨.iad (.t 1) (.t 0) 1, none, false⟩, ⟨.ldi (.t 0) none, none, false⟩, ⟨.mv (.v 7), none, false⟩, ⟨.iad (.t 1) (.t 0) 1, none, false⟩, ⟨.ldi (.t 0) none, none, false⟩, ⟨.bin .add (.t 8) (.t 0), none, false⟩, ⟨.lita [(.t 0)] 1, none, false⟩, ⟨.app (.t 20) (.t 0) none, none, false⟩, ⟨.mv (.t 0), none, false⟩], [(8, 0)], [], none⟩
abbrev r_ref43_product_14 : Reg := ⟨[⟨.mv (.v 9), none, false⟩, ⟨.fad (.v 3) 7 none, none, false⟩, ⟨.ldi (.t 0) none, none, false⟩, ⟨.mv (.v 5), none, false⟩, ⟨.iad (.t 1) (.t 0) 1, none, false⟩, ⟨.ldi (.t 0) none, none, false⟩, ⟨.mv (.v 7), none, false⟩, ⟨.iad (.t 1) (.t 0) 1, none, false⟩, ⟨.ldi (.t 0) none, none, false⟩, ⟨.fad (.v 2) 3 none, none, false⟩, ⟨.ldi (.t 0) none, none, false⟩, ⟨.bin .mul (.t 2) (.t 0), none, false⟩, ⟨.fad (.v 2) 7 none, none, false⟩, ⟨.ldi (.t 0) none, none, false⟩, ⟨.mv (.v 6), none, false⟩, ⟨.iad (.t 1) (.t 0) 1, none, false⟩, ⟨.ldi (.t 0) none, none, false⟩, ⟨.mv (.v 7), none, false⟩, ⟨.iad (.t 1) (.t 0) 1, none, false⟩, ⟨.ldi (.t 0) none, none, false⟩, ⟨.bin .add (.t 8) (.t 0), none, false⟩, ⟨.lita [(.t 0)] 1, none, false⟩, ⟨.app (.t 21) (.t 0) none, none, false⟩, ⟨.mv (.t 0), none, false⟩], [(9, 0)], [], none⟩
abbrev r_ref43_product_12 : Reg := ⟨[⟨.mv (.v 7), none, false⟩, ⟨.bin .add (.t 0) (.c (.int (1))), none, false⟩, ⟨.mv (.t 0), none, false⟩], [(7, 0)], [], none⟩
abbrev b_ref43_product_4 : IC := (.seq (.seq (.reg r_ref43_product_11)
 (.cond 51 .skip (.exit 4)))
 (.seq (.block 5 (.seq (.reg r_ref43_product_13)
 (.reg r_ref43_product_14)))
 (.reg r_ref43_product_12)))
abbrev r_ref43_product_15 : Reg := ⟨[⟨.mv (.c (.int (0))), none, false⟩], [(10, 0)], [7], none⟩
abbrev r_ref43_product_16 : Reg := ⟨[⟨.mv (.v 10), none, false⟩, ⟨.fad (.v 3) 1 none, none, false⟩, ⟨.ldi (.t 0) none, none, false⟩, ⟨.bin .lss (.t 2) (.t 0), none, false⟩], [], [], some (102, 0)⟩
abbrev r_ref43_product_18 : Reg := ⟨[⟨.mv (.v 11), none, false⟩, ⟨.fad (.v 3) 8 none, none, false⟩, ⟨.ldi (.t 0) none, none, false⟩, ⟨.mv (.v 5), none, false⟩, ⟨.iad (.t 1) (.t 0) 1, none, false⟩, ⟨.ldi (.t 0) none, none, false⟩, ⟨.mv (.v 10), none, false⟩, ⟨.iad (.t 1) (.t 0) 1, none, false⟩, ⟨.ldi (.t 0) none, none, false⟩, ⟨.mv (.v 4), none, false⟩, ⟨.bin .mul (.t 1) (.t 0), none, false⟩, ⟨.fad (.v 2) 8 none, none, false⟩, ⟨.ldi (.t 0) none, none, false⟩, ⟨.mv (.v 6), none, false⟩, ⟨.iad (.t 1) (.t 0) 1, none, false⟩, ⟨.ldi (.t 0) none, none, false⟩, ⟨.mv (.v 10), none, false⟩, ⟨.iad (.t 1) (.t 0) 1, none, false⟩, ⟨.ldi (.t 0) none, none, false⟩, ⟨.bin .add (.t 8) (.t 0), none, false⟩, ⟨.lita [(.t 0)] 1, none, false⟩, ⟨.app (.t 20) (.t 0) none, none, false⟩, ⟨.mv (.t 0), none, false⟩], [(11, 0)], [], none⟩
abbrev r_ref43_product_17 : Reg := ⟨[⟨.mv (.v 10), none, false⟩, ⟨.bin .add (.t 0) (.c (.int (1))), none, false⟩, ⟨.mv (.t 0), none, false⟩], [(10, 0)], [], none⟩
abbrev b_ref43_product_6 : IC := (.seq (.seq (.reg r_ref43_product_16)
 (.cond 102 .skip (.exit 6)))
 (.seq (.block 7 (.reg r_ref43_product_18))
 (.reg r_ref43_product_17)))
abbrev r_ref43_product_19 : Reg := ⟨[⟨.fad (.v 12) 5 none, none, false⟩, ⟨.ld (.t 0) none, none, false⟩, ⟨.fad (.v 3) 5 none, none, false⟩, ⟨.ldi (.t 0) none, none, false⟩, ⟨.mv (.v 5), none, false⟩, ⟨.iad (.t 1) (.t 0) 1, none, false⟩, ⟨.ldi (.t 0) none, none, false⟩, ⟨.fad (.v 2) 5 none, none, false⟩, ⟨.ldi (.t 0) none, none, false⟩, ⟨.mv (.v 6), none, false⟩, ⟨.iad (.t 1) (.t 0) 1, none, false⟩, ⟨.ldi (.t 0) none, none, false⟩, ⟨.beq true (.t 5) (.t 0), none, false⟩, ⟨.lita [(.t 0)] 1, none, false⟩, ⟨.app (.t 12) (.t 0) none, none, false⟩, ⟨.fad (.v 12) 5 none, none, false⟩, ⟨.st (.t 0) (.t 1) 1, none, false⟩], [], [10], none⟩
abbrev r_ref43_product_20 : Reg := ⟨[⟨.fad (.v 12) 6 none, none, false⟩, ⟨.ld (.t 0) none, none, false⟩, ⟨.mv (.v 8), none, false⟩, ⟨.lita [(.t 0)] 1, none, false⟩, ⟨.appw (.t 2) (.t 0) none, none, false⟩, ⟨.fad (.v 12) 6 none, none, false⟩, ⟨.st (.t 0) (.t 1) 1, none, false⟩], [], [8], none⟩
abbrev r_ref43_product_21 : Reg := ⟨[⟨.fad (.v 12) 7 none, none, false⟩, ⟨.ld (.t 0) none, none, false⟩, ⟨.mv (.v 9), none, false⟩, ⟨.lita [(.t 0)] 1, none, false⟩, ⟨.appw (.t 2) (.t 0) none, none, false⟩, ⟨.fad (.v 12) 7 none, none, false⟩, ⟨.st (.t 0) (.t 1) 1, none, false⟩], [], [9], none⟩
abbrev r_ref43_product_22 : Reg := ⟨[⟨.fad (.v 12) 8 none, none, false⟩, ⟨.ld (.t 0) none, none, false⟩, ⟨.mv (.v 11), none, false⟩, ⟨.lita [(.t 0)] 1, none, false⟩, ⟨.appw (.t 2) (.t 0) none, none, false⟩, ⟨.fad (.v 12) 8 none, none, false⟩, ⟨.st (.t 0) (.t 1) 1, none, false⟩], [], [11], none⟩
abbrev r_ref43_product_23 : Reg := ⟨[⟨.fad (.v 12) 9 none, none, false⟩, ⟨.ld (.t 0) none, none, false⟩, ⟨.ldi (.v 3) (some 10), none, false⟩, ⟨.ldi (.v 2) (some 10), none, false⟩, ⟨.mv (.v 5), none, false⟩, ⟨.mv (.v 6), none, false⟩, ⟨.cal F_ref43_pops [(.t 3), (.t 2), (.t 1), (.t 0)], none, false⟩, ⟨.lita [(.t 0)] 1, none, false⟩, ⟨.app (.t 6) (.t 0) none, none, false⟩, ⟨.fad (.v 12) 9 none, none, false⟩, ⟨.st (.t 0) (.t 1) 1, none, false⟩], [], [], none⟩
abbrev r_ref43_product_8 : Reg := ⟨[⟨.mv (.v 6), none, false⟩, ⟨.bin .add (.t 0) (.c (.int (1))), none, false⟩, ⟨.mv (.t 0), none, false⟩], [(6, 0)], [], none⟩
abbrev b_ref43_product_2 : IC := (.seq (.seq (.reg r_ref43_product_7)
 (.cond 45 .skip (.exit 2)))
 (.seq (.block 3 (.seq (.reg r_ref43_product_9)
 (.seq (.seq (.reg r_ref43_product_10)
 (.block 4 (.loop b_ref43_product_4)))
 (.seq (.seq (.reg r_ref43_product_15)
 (.block 6 (.loop b_ref43_product_6)))
 (.seq (.reg r_ref43_product_19)
 (.seq (.reg r_ref43_product_20)
 (.seq (.reg r_ref43_product_21)
 (.seq (.reg r_ref43_product_22)
 (.reg r_ref43_product_23)))))))))
 (.reg r_ref43_product_8)))
abbrev r_ref43_product_5 : Reg := ⟨[⟨.mv (.v 5), none, false⟩, ⟨.bin .add (.t 0) (.c (.int (1))), none, false⟩, ⟨.mv (.t 0), none, false⟩], [(5, 0)], [6], none⟩
abbrev b_ref43_product_0 : IC := (.seq (.seq (.reg r_ref43_product_4)
 (.cond 40 .skip (.exit 0)))
 (.seq (.block 1 (.seq (.reg r_ref43_product_6)
 (.block 2 (.loop b_ref43_product_2))))
 (.reg r_ref43_product_5)))
abbrev r_ref43_product_24 : Reg := ⟨[⟨.ld (.v 12) (some 10), none, false⟩, ⟨.st (.v 13) (.t 0) 10, none, false⟩], [], [2, 3, 4, 5, 12], none⟩
abbrev ir_ref43_product : Fn := { np := 2, nv := 14, res := [(13, some (some 10))], body :=
(.seq (.reg r_ref43_product_0)
 (.seq (.reg r_ref43_product_1)
 (.seq (.reg r_ref43_product_2)
 (.seq (.seq (.reg r_ref43_product_3)
 (.block 0 (.loop b_ref43_product_0)))
 (.seq (.reg r_ref43_product_24)
 .ret))))) }
/- f54 ref01_Lex : 0:a 1:b 2:i 3:_ 4:_ -/
abbrev r_ref01_Lex_0 : Reg := ⟨[⟨.mv (.c (.int (0))), none, false⟩], [], [3], none⟩
abbrev r_ref01_Lex_1 : Reg := ⟨[⟨.mv (.v 0), none, false⟩, ⟨.mv (.v 1), none, false⟩, ⟨.cal F_ref01_Common [(.t 1), (.t 0)], none, false⟩, ⟨.mv (.t 0), none, false⟩], [(2, 0)], [], none⟩
abbrev r_ref01_Lex_2 : Reg := ⟨[⟨.mv (.v 2), none, false⟩, ⟨.mv (.v 0), none, false⟩, ⟨.len (.t 0), none, false⟩, ⟨.bin .eql (.t 2) (.t 0), none, false⟩, ⟨.mv (.t 0), none, false⟩, ⟨.mv (.v 2), some (.t 0, true), false⟩, ⟨.mv (.v 1), some (.t 1, true), false⟩, ⟨.len (.t 0), some (.t 2, true), false⟩, ⟨.bin .eql (.t 2) (.t 0), some (.t 3, true), false⟩, ⟨.pick (.t 4) (.t 0) (.c (.bool false)), none, false⟩, ⟨.mv (.t 0), none, false⟩], [], [], some (9, 0)⟩
abbrev r_ref01_Lex_3 : Reg := ⟨[⟨.mv (.c (.int (0))), none, false⟩], [(3, 0)], [0, 1, 2], none⟩
abbrev r_ref01_Lex_4 : Reg := ⟨[⟨.mv (.v 2), none, false⟩, ⟨.mv (.v 0), none, false⟩, ⟨.len (.t 0), none, false⟩, ⟨.bin .eql (.t 2) (.t 0), none, false⟩, ⟨.mv (.t 0), none, false⟩], [(4, 0)], [], none⟩
abbrev r_ref01_Lex_5 : Reg := ⟨[⟨.mv (.v 2), none, false⟩, ⟨.mv (.v 1), none, false⟩, ⟨.len (.t 0), none, false⟩, ⟨.bin .lss (.t 2) (.t 0), none, false⟩, ⟨.mv (.t 0), none, false⟩, ⟨.mv (.v 0), some (.t 0, true), false⟩, ⟨.mv (.v 2), some (.t 1, true), false⟩, ⟨.iad (.t 1) (.t 0) 1, some (.t 2, true), false⟩, ⟨.ld (.t 0) none, some (.t 3, true), false⟩, ⟨.mv (.v 1), some (.t 4, true), false⟩, ⟨.mv (.v 2), some (.t 5, true), false⟩, ⟨.iad (.t 1) (.t 0) 1, some (.t 6, true), false⟩, ⟨.ld (.t 0) none, some (.t 7, true), false⟩, ⟨.bin .lss (.t 4) (.t 0), some (.t 8, true), false⟩, ⟨.pick (.t 9) (.t 0) (.c (.bool false)), none, false⟩, ⟨.mv (.t 0), none, false⟩], [(4, 0)], [0, 1, 2], none⟩
abbrev r_ref01_Lex_6 : Reg := ⟨[⟨.mv (.c (.int (-1))), none, false⟩], [(3, 0)], [0, 1, 2, 4], none⟩
abbrev r_ref01_Lex_7 : Reg := ⟨[⟨.mv (.c (.int (1))), none, false⟩], [(3, 0)], [0, 1, 2, 4], none⟩
abbrev ir_ref01_Lex : Fn := { np := 2, nv := 5, res := [(3, none)], body :=
(.seq (.reg r_ref01_Lex_0)
 (.seq (.reg r_ref01_Lex_1)
 (.seq (.block 0 (.seq (.reg r_ref01_Lex_2)
 (.cond 9 (.seq (.reg r_ref01_Lex_3)
 .ret) (.seq (.seq (.reg r_ref01_Lex_4)
 (.condv 4 .skip (.reg r_ref01_Lex_5)))
 (.condv 4 (.seq (.reg r_ref01_Lex_6)
 .ret) .skip)))))
 (.seq (.reg r_ref01_Lex_7)
 .ret)))) }
/- f55 slices_ContainsFunc_Sint_int : 0:s 1:f 2:_ -/
abbrev r_slices_ContainsFunc_Sint_int_0 : Reg := ⟨[⟨.mv (.c (.bool false)), none, false⟩], [], [2], none⟩
abbrev r_slices_ContainsFunc_Sint_int_1 : Reg := ⟨[⟨.mv (.v 0), none, false⟩, ⟨.mv (.v 1), none, false⟩, ⟨.cal F_slices_IndexFunc_Sint_int [(.t 1), (.t 0)], none, false⟩, ⟨.bin .geq (.t 0) (.c (.int (0))), none, false⟩, ⟨.mv (.t 0), none, false⟩], [(2, 0)], [0, 1], none⟩
abbrev ir_slices_ContainsFunc_Sint_int : Fn := { np := 2, nv := 3, res := [(2, none)], body :=
(.seq (.reg r_slices_ContainsFunc_Sint_int_0)
 (.seq (.reg r_slices_ContainsFunc_Sint_int_1)
 .ret)) }
/- f56 nested_outside_1 : 0:x 1:_ 2:_ -/
abbrev r_nested_outside_1_0 : Reg := ⟨[⟨.mv (.c (.bool false)), none, false⟩], [], [2], none⟩
abbrev r_nested_outside_1_1 : Reg := ⟨[⟨.mv (.v 0), none, false⟩, ⟨.bin .lss (.t 0) (.c (.int (0))), none, false⟩, ⟨.mv (.t 0), none, false⟩, ⟨.mv (.v 0), some (.t 0, false), false⟩, ⟨.ld (.v 1) none, some (.t 1, false), false⟩, ⟨.bin .geq (.t 1) (.t 0), some (.t 2, false), false⟩, ⟨.pick (.t 3) (.c (.bool true)) (.t 0), none, false⟩, ⟨.mv (.t 0), none, false⟩], [(2, 0)], [0, 1], none⟩
abbrev ir_nested_outside_1 : Fn := { np := 2, nv := 3, res := [(2, none)], body :=
(.seq (.reg r_nested_outside_1_0)
 (.seq (.reg r_nested_outside_1_1)
 .ret)) }
/- f57 ref43_isState : 0:n 1:s 2:n 3:_ -/
abbrev r_ref43_isState_0 : Reg := ⟨[⟨.bxi (.v 0), none, false⟩, ⟨.mv (.c (.bool false)), none, false⟩], [(2, 1)], [0, 3], none⟩
abbrev r_ref43_isState_1 : Reg := ⟨[⟨.mv (.v 1), none, false⟩, ⟨.bin .geq (.t 0) (.c (.int (0))), none, false⟩, ⟨.mv (.t 0), none, false⟩, ⟨.mv (.v 1), some (.t 0, true), false⟩, ⟨.fad (.v 2) 5 none, some (.t 1, true), false⟩, ⟨.ldi (.t 0) none, some (.t 2, true), false⟩, ⟨.len (.t 0), some (.t 3, true), false⟩, ⟨.bin .lss (.t 3) (.t 0), some (.t 4, true), false⟩, ⟨.pick (.t 5) (.t 0) (.c (.bool false)), none, false⟩, ⟨.mv (.t 0), none, false⟩], [(3, 0)], [1, 2], none⟩
abbrev ir_ref43_isState : Fn := { np := 2, nv := 4, res := [(3, none)], body :=
(.seq (.reg r_ref43_isState_0)
 (.seq (.reg r_ref43_isState_1)
 .ret)) }
/- f58 word_permitted : 0:inputs 1:_ -/
abbrev r_word_permitted_0 : Reg := ⟨[⟨.mv (.c (.bool false)), none, false⟩], [], [1], none⟩
abbrev r_word_permitted_1 : Reg := ⟨[⟨.mv (.v 0), none, false⟩, ⟨.bin .geq (.t 0) (.c (.int (1))), none, false⟩, ⟨.mv (.t 0), none, false⟩, ⟨.mv (.v 0), some (.t 0, true), false⟩, ⟨.bin .leq (.t 0) (.c (.int (1024))), some (.t 1, true), false⟩, ⟨.pick (.t 2) (.t 0) (.c (.bool false)), none, false⟩, ⟨.mv (.t 0), none, false⟩], [(1, 0)], [0], none⟩
abbrev ir_word_permitted : Fn := { np := 1, nv := 2, res := [(1, none)], body :=
(.seq (.reg r_word_permitted_0)
 (.seq (.reg r_word_permitted_1)
 .ret)) }
/- f59 word_Check_1 : 0:a 1:_ 2:_ -/
abbrev r_word_Check_1_0 : Reg := ⟨[⟨.mv (.c (.bool false)), none, false⟩], [], [2], none⟩
abbrev r_word_Check_1_1 : Reg := ⟨[⟨.mv (.v 0), none, false⟩, ⟨.bin .lss (.t 0) (.c (.int (0))), none, false⟩, ⟨.mv (.t 0), none, false⟩, ⟨.mv (.v 0), some (.t 0, false), false⟩, ⟨.ld (.v 1) none, some (.t 1, false), false⟩, ⟨.bin .geq (.t 1) (.t 0), some (.t 2, false), false⟩, ⟨.pick (.t 3) (.c (.bool true)) (.t 0), none, false⟩, ⟨.mv (.t 0), none, false⟩], [(2, 0)], [0, 1], none⟩
abbrev ir_word_Check_1 : Fn := { np := 2, nv := 3, res := [(2, none)], body :=
(.seq (.reg r_word_Check_1_0)
 (.seq (.reg r_word_Check_1_1)
 .ret)) }
/- f60 ref01_Size : 0:inputs 1:_ -/
abbrev r_ref01_Size_0 : Reg := ⟨[⟨.mv (.c (.bool false)), none, false⟩], [], [1], none⟩
abbrev r_ref01_Size_1 : Reg := ⟨[⟨.mv (.v 0), none, false⟩, ⟨.bin .geq (.t 0) (.c (.int (1))), none, false⟩, ⟨.mv (.t 0), none, false⟩, ⟨.mv (.v 0), some (.t 0, true), false⟩, ⟨.bin .leq (.t 0) (.c (.int (1024))), some (.t 1, true), false⟩, ⟨.pick (.t 2) (.t 0) (.c (.bool false)), none, false⟩, ⟨.mv (.t 0), none, false⟩], [(1, 0)], [0], none⟩
abbrev ir_ref01_Size : Fn := { np := 1, nv := 2, res := [(1, none)], body :=
(.seq (.reg r_ref01_Size_0)
 (.seq (.reg r_ref01_Size_1)
 .ret)) }
/- f61 nested_spread : 0:steps 1:from 2:seen 3:i 4:l 5:_ 6:_ 7:_ 8:ok 9:t 10:_ -/
abbrev r_nested_spread_0 : Reg := ⟨[⟨.mv (.c (.snil)), none, false⟩], [], [10], none⟩
abbrev r_nested_spread_1 : Reg := ⟨[⟨.mv (.v 0), none, false⟩, ⟨.len (.t 0), none, false⟩, ⟨.mks (.t 0) (.t 0) [.bool false] none, none, false⟩, ⟨.mv (.t 0), none, false⟩], [(2, 0)], [], none⟩
abbrev r_nested_spread_2 : Reg := ⟨[⟨.mv (.v 2), none, false⟩, ⟨.mv (.v 1), none, false⟩, ⟨.iad (.t 1) (.t 0) 1, none, false⟩, ⟨.st (.t 0) (.c (.bool true)) 1, none, false⟩], [], [], none⟩
abbrev r_nested_spread_3 : Reg := ⟨[⟨.mv (.v 1), none, false⟩, ⟨.litm [(.t 0)] none, none, false⟩, ⟨.mv (.t 0), none, false⟩], [(4, 0)], [1], none⟩
abbrev r_nested_spread_4 : Reg := ⟨[⟨.mv (.c (.int (0))), none, false⟩], [(3, 0)], [], none⟩
abbrev r_nested_spread_5 : Reg := ⟨[⟨.mv (.v 3), none, false⟩, ⟨.mv (.v 4), none, false⟩, ⟨.len (.t 0), none, false⟩, ⟨.bin .lss (.t 2) (.t 0), none, false⟩], [], [], some (21, 0)⟩
abbrev r_nested_spread_7 : Reg := ⟨[⟨.mv (.v 0), none, false⟩, ⟨.mv (.v 4), none, false⟩, ⟨.mv (.v 3), none, false⟩, ⟨.iad (.t 1) (.t 0) 1, none, false⟩, ⟨.ld (.t 0) none, none, false⟩, ⟨.iad (.t 4) (.t 0) 1, none, false⟩, ⟨.ld (.t 0) none, none, false⟩, ⟨.len (.t 0), none, false⟩, ⟨.mv (.c (.int (0))), none, false⟩], [(7, 2), (6, 1), (5, 0)], [], none⟩
abbrev r_nested_spread_8 : Reg := ⟨[⟨.bin .lss (.v 5) (.v 6), none, false⟩], [], [], some (33, 0)⟩
abbrev r_nested_spread_9 : Reg := ⟨[⟨.mv (.v 5), none, false⟩, ⟨.iad (.v 7) (.v 5) 1, none, false⟩, ⟨.ld (.t 0) none, none, false⟩, ⟨.mv (.t 2), none, false⟩, ⟨.mv (.t 1), none, false⟩], [(9, 1), (8, 0)], [], none⟩
abbrev r_nested_spread_10 : Reg := ⟨[⟨.mv (.v 8), none, false⟩, ⟨.mv (.t 0), none, false⟩, ⟨.mv (.v 2), some (.t 0, true), false⟩, ⟨.mv (.v 9), some (.t 1, true), false⟩, ⟨.iad (.t 1) (.t 0) 1, some (.t 2, true), false⟩, ⟨.ld (.t 0) none, some (.t 3, true), false⟩, ⟨.not (.t 0), some (.t 4, true), false⟩, ⟨.pick (.t 5) (.t 0) (.c (.bool false)), none, false⟩], [], [8], some (44, 0)⟩
abbrev r_nested_spread_11 : Reg := ⟨[⟨.mv (.v 2), none, false⟩, ⟨.mv (.v 9), none, false⟩, ⟨.iad (.t 1) (.t 0) 1, none, false⟩, ⟨.st (.t 0) (.c (.bool true)) 1, none, false⟩], [], [], none⟩
abbrev r_nested_spread_12 : Reg := ⟨[⟨.mv (.v 4), none, false⟩, ⟨.mv (.v 9), none, false⟩, ⟨.lita [(.t 0)] 1, none, false⟩, ⟨.appw (.t 2) (.t 0) none, none, false⟩, ⟨.mv (.t 0), none, false⟩], [(4, 0)], [9], none⟩
abbrev r_nested_spread_13 : Reg := ⟨[⟨.bin .add (.v 5) (.c (.int (1))), none, false⟩, ⟨.mv (.t 0), none, false⟩], [(5, 0)], [9], none⟩
abbrev b_nested_spread_2 : IC := (.seq (.reg r_nested_spread_8)
 (.seq (.cond 33 .skip (.exit 2))
 (.seq (.block 3 (.seq (.reg r_nested_spread_9)
 (.seq (.reg r_nested_spread_10)
 (.cond 44 (.seq (.reg r_nested_spread_11)
 (.reg r_nested_spread_12)) .skip))))
 (.reg r_nested_spread_13))))
abbrev r_nested_spread_6 : Reg := ⟨[⟨.mv (.v 3), none, false⟩, ⟨.bin .add (.t 0) (.c (.int (1))), none, false⟩, ⟨.mv (.t 0), none, false⟩], [(3, 0)], [5, 6, 7], none⟩
abbrev b_nested_spread_0 : IC := (.seq (.seq (.reg r_nested_spread_5)
 (.cond 21 .skip (.exit 0)))
 (.seq (.block 1 (.seq (.reg r_nested_spread_7)
 (.block 2 (.loop b_nested_spread_2))))
 (.reg r_nested_spread_6)))
abbrev r_nested_spread_14 : Reg := ⟨[⟨.mv (.v 2), none, false⟩, ⟨.mv (.t 0), none, false⟩], [(10, 0)], [0, 2, 3, 4], none⟩
abbrev ir_nested_spread : Fn := { np := 2, nv := 11, res := [(10, none)], body :=
(.seq (.reg r_nested_spread_0)
 (.seq (.reg r_nested_spread_1)
 (.seq (.reg r_nested_spread_2)
 (.seq (.reg r_nested_spread_3)
 (.seq (.seq (.reg r_nested_spread_4)
 (.block 0 (.loop b_nested_spread_0)))
 (.seq (.reg r_nested_spread_14)
 .ret)))))) }
/- f62 nested_widen : 0:m 1:n 2:steps 3:reach 4:_ 5:_ 6:n 7:_ 8:_ 9:s 10:c 11:from 12:_ 13:_ 14:_ 15:r 16:ok 17:t 18:g 19:changed 20:u 21:_ -/
abbrev r_nested_widen_0 : Reg := ⟨[⟨.bxi (.v 1), none, false⟩, ⟨.mv (.c (.bool false)), none, false⟩], [(6, 1)], [1, 21], none⟩
abbrev r_nested_widen_1 : Reg := ⟨[⟨.mv (.c (.bool false)), none, false⟩], [(19, 0)], [], none⟩
abbrev r_nested_widen_2 : Reg := ⟨[⟨.mv (.v 2), none, false⟩, ⟨.len (.t 0), none, false⟩, ⟨.mv (.c (.int (0))), none, false⟩], [(5, 1), (4, 0)], [], none⟩
abbrev r_nested_widen_3 : Reg := ⟨[⟨.bin .lss (.v 4) (.v 5), none, false⟩], [], [], some (21, 0)⟩
abbrev r_nested_widen_4 : Reg := ⟨[⟨.mv (.v 4), none, false⟩, ⟨.mv (.t 0), none, false⟩], [(9, 0)], [], none⟩
abbrev r_nested_widen_5 : Reg := ⟨[⟨.fad (.v 6) 0 none, none, false⟩, ⟨.ldi (.t 0) none, none, false⟩, ⟨.mv (.c (.int (0))), none, false⟩], [(8, 1), (7, 0)], [], none⟩
abbrev r_nested_widen_6 : Reg := ⟨[⟨.bin .lss (.v 7) (.v 8), none, false⟩], [], [], some (26, 0)⟩
abbrev r_nested_widen_7 : Reg := ⟨[⟨.mv (.v 7), none, false⟩, ⟨.mv (.t 0), none, false⟩], [(10, 0)], [], none⟩
abbrev r_nested_widen_8 : Reg := ⟨[⟨.mv (.v 0), none, false⟩, ⟨.mv (.v 9), none, false⟩, ⟨.mv (.v 10), none, false⟩, ⟨.inv (.t 2) [(T_nested_single, F_nested_single_call), (T_nested_double, F_nested_double_call)] [(.t 1), (.t 0)], none, false⟩, ⟨.mv (.t 0), none, false⟩, ⟨.ext (.t 0) 0, none, false⟩, ⟨.ext (.t 1) 1, none, false⟩, ⟨.mv (.t 1), none, false⟩, ⟨.mv (.t 1), none, false⟩], [(11, 1), (18, 0)], [10], none⟩
abbrev r_nested_widen_9 : Reg := ⟨[⟨.mv (.v 3), none, false⟩, ⟨.mv (.v 11), none, false⟩, ⟨.iad (.t 1) (.t 0) 1, none, false⟩, ⟨.ld (.t 0) none, none, false⟩, ⟨.len (.t 0), none, false⟩, ⟨.mv (.c (.int (0))), none, false⟩], [(14, 2), (13, 1), (12, 0)], [11], none⟩
abbrev r_nested_widen_10 : Reg := ⟨[⟨.bin .lss (.v 12) (.v 13), none, false⟩], [], [], some (41, 0)⟩
abbrev r_nested_widen_11 : Reg := ⟨[⟨.mv (.v 12), none, false⟩, ⟨.iad (.v 14) (.v 12) 1, none, false⟩, ⟨.ld (.t 0) none, none, false⟩, ⟨.mv (.t 2), none, false⟩, ⟨.mv (.t 1), none, false⟩], [(17, 1), (16, 0)], [], none⟩
abbrev r_nested_widen_12 : Reg := ⟨[⟨.mv (.c (.int (0))), none, false⟩], [(15, 0)], [], none⟩
abbrev r_nested_widen_13 : Reg := ⟨[⟨.mv (.v 15), none, false⟩, ⟨.fad (.v 6) 2 none, none, false⟩, ⟨.ldi (.t 0) none, none, false⟩, ⟨.bin .lss (.t 2) (.t 0), none, false⟩, ⟨.mv (.t 0), none, false⟩, ⟨.mv (.v 16), some (.t 0, true), false⟩, ⟨.pick (.t 1) (.t 0) (.c (.bool false)), none, false⟩], [], [], some (51, 0)⟩
abbrev r_nested_widen_15 : Reg := ⟨[⟨.mv (.v 0), none, false⟩, ⟨.mv (.v 17), none, false⟩, ⟨.mv (.v 18), none, false⟩, ⟨.mv (.v 15), none, false⟩, ⟨.inv (.t 3) [(T_nested_single, F_nested_single_pop), (T_nested_double, F_nested_double_pop), (T_Pnested_stack_int, F_nested_stack_int_pop)] [(.t 2), (.t 1), (.t 0)], none, false⟩, ⟨.mv (.t 0), none, false⟩], [(20, 0)], [], none⟩
abbrev r_nested_widen_16 : Reg := ⟨[⟨.mv (.v 19), none, false⟩, ⟨.mv (.t 0), none, false⟩, ⟨.mv (.v 2), some (.t 0, false), false⟩, ⟨.mv (.v 9), some (.t 1, false), false⟩, ⟨.iad (.t 1) (.t 0) 1, some (.t 2, false), false⟩, ⟨.ld (.t 0) none, some (.t 3, false), false⟩, ⟨.mv (.v 20), some (.t 4, false), false⟩, ⟨.iad (.t 1) (.t 0) 1, some (.t 5, false), false⟩, ⟨.ld (.t 0) none, some (.t 6, false), false⟩, ⟨.not (.t 0), some (.t 7, false), false⟩, ⟨.pick (.t 8) (.c (.bool true)) (.t 0), none, false⟩, ⟨.mv (.t 0), none, false⟩], [(19, 0)], [], none⟩
abbrev r_nested_widen_17 : Reg := ⟨[⟨.mv (.v 2), none, false⟩, ⟨.mv (.v 9), none, false⟩, ⟨.iad (.t 1) (.t 0) 1, none, false⟩, ⟨.ld (.t 0) none, none, false⟩, ⟨.mv (.v 20), none, false⟩, ⟨.iad (.t 1) (.t 0) 1, none, false⟩, ⟨.st (.t 0) (.c (.bool true)) 1, none, false⟩], [], [20], none⟩
abbrev r_nested_widen_14 : Reg := ⟨[⟨.mv (.v 15), none, false⟩, ⟨.bin .add (.t 0) (.c (.int (1))), none, false⟩, ⟨.mv (.t 0), none, false⟩], [(15, 0)], [], none⟩
abbrev b_nested_widen_6 : IC := (.seq (.seq (.reg r_nested_widen_13)
 (.cond 51 .skip (.exit 6)))
 (.seq (.block 7 (.seq (.reg r_nested_widen_15)
 (.seq (.reg r_nested_widen_16)
 (.reg r_nested_widen_17))))
 (.reg r_nested_widen_14)))
abbrev r_nested_widen_18 : Reg := ⟨[⟨.bin .add (.v 12) (.c (.int (1))), none, false⟩, ⟨.mv (.t 0), none, false⟩], [(12, 0)], [15, 16, 17], none⟩
abbrev b_nested_widen_4 : IC := (.seq (.reg r_nested_widen_10)
 (.seq (.cond 41 .skip (.exit 4))
 (.seq (.block 5 (.seq (.reg r_nested_widen_11)
 (.seq (.reg r_nested_widen_12)
 (.block 6 (.loop b_nested_widen_6)))))
 (.reg r_nested_widen_18))))
abbrev r_nested_widen_19 : Reg := ⟨[⟨.bin .add (.v 7) (.c (.int (1))), none, false⟩, ⟨.mv (.t 0), none, false⟩], [(7, 0)], [12, 13, 14, 18], none⟩
abbrev b_nested_widen_2 : IC := (.seq (.reg r_nested_widen_6)
 (.seq (.cond 26 .skip (.exit 2))
 (.seq (.block 3 (.seq (.reg r_nested_widen_7)
 (.seq (.reg r_nested_widen_8)
 (.seq (.reg r_nested_widen_9)
 (.block 4 (.loop b_nested_widen_4))))))
 (.reg r_nested_widen_19))))
abbrev r_nested_widen_20 : Reg := ⟨[⟨.bin .add (.v 4) (.c (.int (1))), none, false⟩, ⟨.mv (.t 0), none, false⟩], [(4, 0)], [7, 8, 9], none⟩
abbrev b_nested_widen_0 : IC := (.seq (.reg r_nested_widen_3)
 (.seq (.cond 21 .skip (.exit 0))
 (.seq (.block 1 (.seq (.reg r_nested_widen_4)
 (.seq (.reg r_nested_widen_5)
 (.block 2 (.loop b_nested_widen_2)))))
 (.reg r_nested_widen_20))))
abbrev r_nested_widen_21 : Reg := ⟨[⟨.mv (.v 19), none, false⟩, ⟨.mv (.t 0), none, false⟩], [(21, 0)], [0, 2, 3, 4, 5, 6, 19], none⟩
abbrev ir_nested_widen : Fn := { np := 4, nv := 22, res := [(21, none)], body :=
(.seq (.reg r_nested_widen_0)
 (.seq (.reg r_nested_widen_1)
 (.seq (.seq (.reg r_nested_widen_2)
 (.block 0 (.loop b_nested_widen_0)))
 (.seq (.reg r_nested_widen_21)
 .ret)))) }
/- f63 ref43_joined : 0:n 1:table 2:s 3:t 4:i 5:n 6:c 7:p 8:r 9:_ -/
abbrev r_ref43_joined_0 : Reg := ⟨[⟨.bxi (.v 0), none, false⟩, ⟨.mv (.c (.bool false)), none, false⟩], [(5, 1)], [0, 9], none⟩
abbrev r_ref43_joined_1 : Reg := ⟨[⟨.mv (.c (.int (0))), none, false⟩], [(4, 0)], [], none⟩
abbrev r_ref43_joined_2 : Reg := ⟨[⟨.mv (.v 4), none, false⟩, ⟨.fad (.v 5) 1 none, none, false⟩, ⟨.ldi (.t 0) none, none, false⟩, ⟨.bin .lss (.t 2) (.t 0), none, false⟩], [], [], some (16, 0)⟩
abbrev r_ref43_joined_4 : Reg := ⟨[⟨.mv (.v 1), none, false⟩, ⟨.fad (.v 5) 8 none, none, false⟩, ⟨.ldi (.t 0) none, none, false⟩, ⟨.mv (.v 2), none, false⟩, ⟨.iad (.t 1) (.t 0) 1, none, false⟩, ⟨.ldi (.t 0) none, none, false⟩, ⟨.mv (.v 4), none, false⟩, ⟨.iad (.t 1) (.t 0) 1, none, false⟩, ⟨.ldi (.t 0) none, none, false⟩, ⟨.iad (.t 8) (.t 0) 1, none, false⟩, ⟨.ld (.t 0) none, none, false⟩, ⟨.mv (.v 3), none, false⟩, ⟨.iad (.t 1) (.t 0) 1, none, false⟩, ⟨.ld (.t 0) none, none, false⟩], [], [], some (32, 0)⟩
abbrev r_ref43_joined_5 : Reg := ⟨[⟨.mv (.c (.bool true)), none, false⟩], [(9, 0)], [1, 2, 3, 4, 5], none⟩
abbrev r_ref43_joined_3 : Reg := ⟨[⟨.mv (.v 4), none, false⟩, ⟨.bin .add (.t 0) (.c (.int (1))), none, false⟩, ⟨.mv (.t 0), none, false⟩], [(4, 0)], [], none⟩
abbrev b_ref43_joined_0 : IC := (.seq (.seq (.reg r_ref43_joined_2)
 (.cond 16 .skip (.exit 0)))
 (.seq (.block 1 (.seq (.reg r_ref43_joined_4)
 (.cond 32 (.seq (.reg r_ref43_joined_5)
 .ret) .skip)))
 (.reg r_ref43_joined_3)))
abbrev r_ref43_joined_6 : Reg := ⟨[⟨.mv (.c (.int (0))), none, false⟩], [(6, 0)], [4], none⟩
abbrev r_ref43_joined_7 : Reg := ⟨[⟨.mv (.v 6), none, false⟩, ⟨.fad (.v 5) 0 none, none, false⟩, ⟨.ldi (.t 0) none, none, false⟩, ⟨.bin .lss (.t 2) (.t 0), none, false⟩], [], [], some (36, 0)⟩
abbrev r_ref43_joined_9 : Reg := ⟨[⟨.mv (.c (.int (0))), none, false⟩], [(7, 0)], [], none⟩
abbrev r_ref43_joined_10 : Reg := ⟨[⟨.mv (.v 7), none, false⟩, ⟨.fad (.v 5) 5 none, none, false⟩, ⟨.ldi (.t 0) none, none, false⟩, ⟨.len (.t 0), none, false⟩, ⟨.bin .lss (.t 3) (.t 0), none, false⟩], [], [], some (43, 0)⟩
abbrev r_ref43_joined_12 : Reg := ⟨[⟨.mv (.v 1), none, false⟩, ⟨.fad (.v 5) 6 none, none, false⟩, ⟨.ldi (.t 0) none, none, false⟩, ⟨.mv (.v 2), none, false⟩, ⟨.iad (.t 1) (.t 0) 1, none, false⟩, ⟨.ldi (.t 0) none, none, false⟩, ⟨.mv (.v 6), none, false⟩, ⟨.iad (.t 1) (.t 0) 1, none, false⟩, ⟨.ldi (.t 0) none, none, false⟩, ⟨.iad (.t 8) (.t 0) 1, none, false⟩, ⟨.ld (.t 0) none, none, false⟩, ⟨.mv (.v 7), none, false⟩, ⟨.iad (.t 1) (.t 0) 1, none, false⟩, ⟨.ld (.t 0) none, none, false⟩, ⟨.not (.t 0), none, false⟩], [], [], some (60, 0)⟩
abbrev r_ref43_joined_13 : Reg := ⟨[⟨.mv (.c (.int (0))), none, false⟩], [(8, 0)], [], none⟩
abbrev r_ref43_joined_14 : Reg := ⟨[⟨.mv (.v 8), none, false⟩, ⟨.fad (.v 5) 2 none, none, false⟩, ⟨.ldi (.t 0) none, none, false⟩, ⟨.bin .lss (.t 2) (.t 0), none, false⟩], [], [], some (64, 0)⟩
abbrev r_ref43_joined_16 : Reg := ⟨[⟨.mv (.v 1), none, false⟩, ⟨.fad (.v 5) 9 none, none, false⟩, ⟨.ldi (.t 0) none, none, false⟩, ⟨.mv (.v 7), none, false⟩, ⟨.iad (.t 1) (.t 0) 1, none, false⟩, ⟨.ldi (.t 0) none, none, false⟩, ⟨.fad (.v 5) 7 none, none, false⟩, ⟨.ldi (.t 0) none, none, false⟩, ⟨.mv (.v 2), none, false⟩, ⟨.iad (.t 1) (.t 0) 1, none, false⟩, ⟨.ldi (.t 0) none, none, false⟩, ⟨.mv (.v 6), none, false⟩, ⟨.iad (.t 1) (.t 0) 1, none, false⟩, ⟨.ldi (.t 0) none, none, false⟩, ⟨.iad (.t 8) (.t 0) 1, none, false⟩, ⟨.ldi (.t 0) none, none, false⟩, ⟨.mv (.v 8), none, false⟩, ⟨.iad (.t 1) (.t 0) 1, none, false⟩, ⟨.ldi (.t 0) none, none, false⟩, ⟨.iad (.t 18) (.t 0) 1, none, false⟩, ⟨.ld (.t 0) none, none, false⟩, ⟨.mv (.v 3), none, false⟩, ⟨.iad (.t 1) (.t 0) 1, none, false⟩, ⟨.ld (.t 0) none, none, false⟩], [], [], some (90, 0)⟩
abbrev r_ref43_joined_17 : Reg := ⟨[⟨.mv (.c (.bool true)), none, false⟩], [(9, 0)], [1, 2, 3, 5, 6, 7, 8], none⟩
abbrev r_ref43_joined_15 : Reg := ⟨[⟨.mv (.v 8), none, false⟩, ⟨.bin .add (.t 0) (.c (.int (1))), none, false⟩, ⟨.mv (.t 0), none, false⟩], [(8, 0)], [], none⟩
abbrev b_ref43_joined_6 : IC := (.seq (.seq (.reg r_ref43_joined_14)
 (.cond 64 .skip (.exit 6)))
 (.seq (.block 7 (.seq (.reg r_ref43_joined_16)
 (.cond 90 (.seq (.reg r_ref43_joined_17)
 .ret) .skip)))
 (.reg r_ref43_joined_15)))
abbrev r_ref43_joined_11 : Reg := ⟨[⟨.mv (.v 7), none, false⟩, ⟨.bin .add (.t 0) (.c (.int (1))), none, false⟩, ⟨.mv (.t 0), none, false⟩], [(7, 0)], [8], none⟩
abbrev b_ref43_joined_4 : IC := (.seq (.seq (.reg r_ref43_joined_10)
 (.cond 43 .skip (.exit 4)))
 (.seq (.block 5 (.seq (.seq (.reg r_ref43_joined_12)
 (.cond 60 (.exit 5) .skip))
 (.seq (.reg r_ref43_joined_13)
 (.block 6 (.loop b_ref43_joined_6)))))
 (.reg r_ref43_joined_11)))
abbrev r_ref43_joined_8 : Reg := ⟨[⟨.mv (.v 6), none, false⟩, ⟨.bin .add (.t 0) (.c (.int (1))), none, false⟩, ⟨.mv (.t 0), none, false⟩], [(6, 0)], [7], none⟩
abbrev b_ref43_joined_2 : IC := (.seq (.seq (.reg r_ref43_joined_7)
 (.cond 36 .skip (.exit 2)))
 (.seq (.block 3 (.seq (.reg r_ref43_joined_9)
 (.block 4 (.loop b_ref43_joined_4))))
 (.reg r_ref43_joined_8)))
abbrev r_ref43_joined_18 : Reg := ⟨[⟨.mv (.c (.bool false)), none, false⟩], [(9, 0)], [1, 2, 3, 5, 6], none⟩
abbrev ir_ref43_joined : Fn := { np := 4, nv := 10, res := [(9, none)], body :=
(.seq (.reg r_ref43_joined_0)
 (.seq (.seq (.reg r_ref43_joined_1)
 (.block 0 (.loop b_ref43_joined_0)))
 (.seq (.seq (.reg r_ref43_joined_6)
 (.block 2 (.loop b_ref43_joined_2)))
 (.seq (.reg r_ref43_joined_18)
 .ret)))) }
/- f64 nested_newSearch : 0:m 1:n 2:n 3:_ 4:_ 5:x 6:s 7:_ 8:_ 9:i 10:_ 11:_ 12:c 13:t 14:g 15:_ -/
abbrev r_nested_newSearch_0 : Reg := ⟨[⟨.bxi (.v 1), none, false⟩, ⟨.mv (.c (.pnil)), none, false⟩], [(2, 1)], [1, 15], none⟩
abbrev r_nested_newSearch_1 : Reg := ⟨[⟨.mv (.v 0), none, false⟩, ⟨.ldi (.v 2) (some 10), none, false⟩, ⟨.mv (.v 0), none, false⟩, ⟨.inv (.t 0) [(T_nested_single, F_nested_single_size), (T_nested_double, F_nested_double_size)] [], none, false⟩, ⟨.can F_nested_newBest [(.t 0)], none, false⟩, ⟨.mv (.v 0), none, false⟩, ⟨.inv (.t 0) [(T_nested_single, F_nested_single_size), (T_nested_double, F_nested_double_size)] [], none, false⟩, ⟨.can F_nested_newBest [(.t 0)], none, false⟩, ⟨.mv (.v 0), none, false⟩, ⟨.inv (.t 0) [(T_nested_single, F_nested_single_size), (T_nested_double, F_nested_double_size)] [], none, false⟩, ⟨.mks (.t 0) (.t 0) [.snil] none, none, false⟩, ⟨.bld [.inil, .int 0, .int 0, .int 0, .int 0, .int 0, .snil, .snil, .snil, .snil, .snil, .pnil, .pnil, .snil] [(0, 1, (.t 10)), (1, 10, (.t 9)), (11, 1, (.t 6)), (12, 1, (.t 3)), (13, 1, (.t 0))], none, false⟩, ⟨.bxm (.t 0) (some 14), none, false⟩, ⟨.mv (.t 0), none, false⟩], [(5, 0)], [], none⟩
abbrev r_nested_newSearch_2 : Reg := ⟨[⟨.mv (.v 0), none, false⟩, ⟨.inv (.t 0) [(T_nested_single, F_nested_single_size), (T_nested_double, F_nested_double_size)] [], none, false⟩, ⟨.mv (.c (.int (0))), none, false⟩], [(4, 1), (3, 0)], [], none⟩
abbrev r_nested_newSearch_3 : Reg := ⟨[⟨.bin .lss (.v 3) (.v 4), none, false⟩], [], [], some (27, 0)⟩
abbrev r_nested_newSearch_4 : Reg := ⟨[⟨.mv (.v 3), none, false⟩, ⟨.mv (.t 0), none, false⟩], [(6, 0)], [], none⟩
abbrev r_nested_newSearch_5 : Reg := ⟨[⟨.mv (.v 5), none, false⟩, ⟨.nck (.t 0), none, false⟩, ⟨.fad (.t 0) 12 none, none, false⟩, ⟨.ld (.t 0) none, none, false⟩, ⟨.mv (.v 6), none, false⟩, ⟨.mv (.v 6), none, false⟩, ⟨.cam F_nested_best_offer [(.t 2), (.t 1), (.t 0), (.c (.snil)), (.c (.snil))], none, false⟩], [], [], none⟩
abbrev r_nested_newSearch_6 : Reg := ⟨[⟨.fad (.v 2) 1 none, none, false⟩, ⟨.ldi (.t 0) none, none, false⟩, ⟨.mv (.c (.int (0))), none, false⟩], [(8, 1), (7, 0)], [], none⟩
abbrev r_nested_newSearch_7 : Reg := ⟨[⟨.bin .lss (.v 7) (.v 8), none, false⟩], [], [], some (39, 0)⟩
abbrev r_nested_newSearch_8 : Reg := ⟨[⟨.mv (.v 7), none, false⟩, ⟨.mv (.t 0), none, false⟩], [(9, 0)], [], none⟩
abbrev r_nested_newSearch_9 : Reg := ⟨[⟨.mv (.v 5), none, false⟩, ⟨.nck (.t 0), none, false⟩, ⟨.fad (.t 0) 11 none, none, false⟩, ⟨.ld (.t 0) none, none, false⟩, ⟨.mv (.v 6), none, false⟩, ⟨.mv (.v 0), none, false⟩, ⟨.mv (.v 6), none, false⟩, ⟨.mv (.v 9), none, false⟩, ⟨.inv (.t 2) [(T_nested_single, F_nested_single_inner), (T_nested_double, F_nested_double_inner)] [(.t 1), (.t 0)], none, false⟩, ⟨.fad (.v 2) 0 none, none, false⟩, ⟨.ldi (.t 0) none, none, false⟩, ⟨.mv (.v 9), none, false⟩, ⟨.bin .add (.t 1) (.t 0), none, false⟩, ⟨.litm [(.t 0)] none, none, false⟩, ⟨.cam F_nested_best_offer [(.t 10), (.t 9), (.t 5), (.t 0), (.c (.snil))], none, false⟩], [], [9], none⟩
abbrev r_nested_newSearch_10 : Reg := ⟨[⟨.bin .add (.v 7) (.c (.int (1))), none, false⟩, ⟨.mv (.t 0), none, false⟩], [(7, 0)], [], none⟩
abbrev b_nested_newSearch_2 : IC := (.seq (.reg r_nested_newSearch_7)
 (.seq (.cond 39 .skip (.exit 2))
 (.seq (.block 3 (.seq (.reg r_nested_newSearch_8)
 (.reg r_nested_newSearch_9)))
 (.reg r_nested_newSearch_10))))
abbrev r_nested_newSearch_11 : Reg := ⟨[⟨.fad (.v 2) 0 none, none, false⟩, ⟨.ldi (.t 0) none, none, false⟩, ⟨.mv (.c (.int (0))), none, false⟩], [(11, 1), (10, 0)], [7, 8], none⟩
abbrev r_nested_newSearch_12 : Reg := ⟨[⟨.bin .lss (.v 10) (.v 11), none, false⟩], [], [], some (60, 0)⟩
abbrev r_nested_newSearch_13 : Reg := ⟨[⟨.mv (.v 10), none, false⟩, ⟨.mv (.t 0), none, false⟩], [(12, 0)], [], none⟩
abbrev r_nested_newSearch_14 : Reg := ⟨[⟨.mv (.v 0), none, false⟩, ⟨.mv (.v 6), none, false⟩, ⟨.mv (.v 12), none, false⟩, ⟨.inv (.t 2) [(T_nested_single, F_nested_single_call), (T_nested_double, F_nested_double_call)] [(.t 1), (.t 0)], none, false⟩, ⟨.mv (.t 0), none, false⟩, ⟨.ext (.t 0) 0, none, false⟩, ⟨.ext (.t 1) 1, none, false⟩, ⟨.mv (.t 1), none, false⟩, ⟨.mv (.t 1), none, false⟩], [(13, 1), (14, 0)], [], none⟩
abbrev r_nested_newSearch_15 : Reg := ⟨[⟨.mv (.v 5), none, false⟩, ⟨.nck (.t 0), none, false⟩, ⟨.fad (.t 0) 13 none, none, false⟩, ⟨.ld (.t 0) none, none, false⟩, ⟨.mv (.v 13), none, false⟩, ⟨.mv (.v 5), none, false⟩, ⟨.nck (.t 0), none, false⟩, ⟨.fad (.t 0) 13 none, none, false⟩, ⟨.ld (.t 0) none, none, false⟩, ⟨.mv (.v 13), none, false⟩, ⟨.iad (.t 1) (.t 0) 1, none, false⟩, ⟨.ld (.t 0) none, none, false⟩, ⟨.mv (.v 6), none, false⟩, ⟨.mv (.v 12), none, false⟩, ⟨.mv (.v 14), none, false⟩, ⟨.bld [.int 0, .int 0, .int 0] [(0, 1, (.t 2)), (1, 1, (.t 1)), (2, 1, (.t 0))], none, false⟩, ⟨.lita [(.t 0)] 3, none, false⟩, ⟨.app (.t 5) (.t 0) (some 3), none, false⟩, ⟨.iad (.t 14) (.t 13) 1, none, false⟩, ⟨.st (.t 0) (.t 1) 1, none, false⟩], [], [12, 13, 14], none⟩
abbrev r_nested_newSearch_16 : Reg := ⟨[⟨.bin .add (.v 10) (.c (.int (1))), none, false⟩, ⟨.mv (.t 0), none, false⟩], [(10, 0)], [], none⟩
abbrev b_nested_newSearch_4 : IC := (.seq (.reg r_nested_newSearch_12)
 (.seq (.cond 60 .skip (.exit 4))
 (.seq (.block 5 (.seq (.reg r_nested_newSearch_13)
 (.seq (.reg r_nested_newSearch_14)
 (.reg r_nested_newSearch_15))))
 (.reg r_nested_newSearch_16))))
abbrev r_nested_newSearch_17 : Reg := ⟨[⟨.bin .add (.v 3) (.c (.int (1))), none, false⟩, ⟨.mv (.t 0), none, false⟩], [(3, 0)], [6, 10, 11], none⟩
abbrev b_nested_newSearch_0 : IC := (.seq (.reg r_nested_newSearch_3)
 (.seq (.cond 27 .skip (.exit 0))
 (.seq (.block 1 (.seq (.reg r_nested_newSearch_4)
 (.seq (.reg r_nested_newSearch_5)
 (.seq (.seq (.reg r_nested_newSearch_6)
 (.block 2 (.loop b_nested_newSearch_2)))
 (.seq (.reg r_nested_newSearch_11)
 (.block 4 (.loop b_nested_newSearch_4)))))))
 (.reg r_nested_newSearch_17))))
abbrev r_nested_newSearch_18 : Reg := ⟨[⟨.mv (.v 5), none, false⟩, ⟨.mv (.t 0), none, false⟩], [(15, 0)], [0, 2, 3, 4, 5], none⟩
abbrev ir_nested_newSearch : Fn := { np := 2, nv := 16, res := [(15, none)], body :=
(.seq (.reg r_nested_newSearch_0)
 (.seq (.reg r_nested_newSearch_1)
 (.seq (.seq (.reg r_nested_newSearch_2)
 (.block 0 (.loop b_nested_newSearch_0)))
 (.seq (.reg r_nested_newSearch_18)
 .ret)))) }
/- f65 nested_search_level : 0:x 1:n 2:_ 3:_ 4:_ 5:p 6:_ 7:_ 8:_ 9:ok 10:t 11:found 12:_ 13:_ 14:_ 15:p 16:_ 17:_ 18:s 19:w 20:_ 21:_ 22:_ 23:_ 24:_ 25:k 26:r 27:_ -/
abbrev r_nested_search_level_0 : Reg := ⟨[⟨.mv (.c (.snil)), none, false⟩], [], [27], none⟩
abbrev r_nested_search_level_1 : Reg := ⟨[⟨.mv (.v 0), none, false⟩, ⟨.nck (.t 0), none, false⟩, ⟨.fad (.t 0) 11 none, none, false⟩, ⟨.ld (.t 0) none, none, false⟩, ⟨.mv (.v 1), none, false⟩, ⟨.cam F_nested_best_take [(.t 1), (.t 0)], none, false⟩, ⟨.len (.t 0), none, false⟩, ⟨.mv (.c (.int (0))), none, false⟩], [(4, 2), (3, 1), (2, 0)], [], none⟩
abbrev r_nested_search_level_2 : Reg := ⟨[⟨.bin .lss (.v 2) (.v 3), none, false⟩], [], [], some (25, 0)⟩
abbrev r_nested_search_level_3 : Reg := ⟨[⟨.iad (.v 4) (.v 2) 2, none, false⟩, ⟨.ld (.t 0) (some 2), none, false⟩, ⟨.alc [.int 0, .int 0] (some 2), none, false⟩, ⟨.st (.t 0) (.t 1) 2, none, false⟩], [(5, 1)], [], none⟩
abbrev r_nested_search_level_4 : Reg := ⟨[⟨.mv (.v 0), none, false⟩, ⟨.nck (.t 0), none, false⟩, ⟨.fad (.t 0) 12 none, none, false⟩, ⟨.ld (.t 0) none, none, false⟩, ⟨.nck (.t 0), none, false⟩, ⟨.fad (.t 0) 1 none, none, false⟩, ⟨.ld (.t 0) none, none, false⟩, ⟨.iada (.v 5) (.c (.int (1))) 2 none, none, false⟩, ⟨.ld (.t 0) none, none, false⟩, ⟨.iad (.t 2) (.t 0) 1, none, false⟩, ⟨.ld (.t 0) none, none, false⟩, ⟨.len (.t 0), none, false⟩, ⟨.mv (.c (.int (0))), none, false⟩], [(8, 2), (7, 1), (6, 0)], [], none⟩
abbrev r_nested_search_level_5 : Reg := ⟨[⟨.bin .lss (.v 6) (.v 7), none, false⟩], [], [], some (41, 0)⟩
abbrev r_nested_search_level_6 : Reg := ⟨[⟨.mv (.v 6), none, false⟩, ⟨.iad (.v 8) (.v 6) 1, none, false⟩, ⟨.ld (.t 0) none, none, false⟩, ⟨.mv (.t 2), none, false⟩, ⟨.mv (.t 1), none, false⟩], [(10, 1), (9, 0)], [], none⟩
abbrev r_nested_search_level_7 : Reg := ⟨[⟨.mv (.v 9), none, false⟩], [], [9], some (45, 0)⟩
abbrev r_nested_search_level_8 : Reg := ⟨[⟨.mv (.v 0), none, false⟩, ⟨.nck (.t 0), none, false⟩, ⟨.fad (.t 0) 12 none, none, false⟩, ⟨.ld (.t 0) none, none, false⟩, ⟨.iada (.v 5) (.c (.int (0))) 2 none, none, false⟩, ⟨.ld (.t 0) none, none, false⟩, ⟨.mv (.v 10), none, false⟩, ⟨.mv (.v 0), none, false⟩, ⟨.nck (.t 0), none, false⟩, ⟨.fad (.t 0) 11 none, none, false⟩, ⟨.ld (.t 0) none, none, false⟩, ⟨.nck (.t 0), none, false⟩, ⟨.fad (.t 0) 0 none, none, false⟩, ⟨.ld (.t 0) none, none, false⟩, ⟨.iada (.v 5) (.c (.int (0))) 2 none, none, false⟩, ⟨.ld (.t 0) none, none, false⟩, ⟨.iad (.t 2) (.t 0) 1, none, false⟩, ⟨.ld (.t 0) none, none, false⟩, ⟨.iada (.v 5) (.c (.int (1))) 2 none, none, false⟩, ⟨.ld (.t 0) none, none, false⟩, ⟨.iad (.t 2) (.t 0) 1, none, false⟩, ⟨.ld (.t 0) none, none, false⟩, ⟨.mv (.v 0), none, false⟩, ⟨.nck (.t 0), none, false⟩, ⟨.fad (.t 0) 12 none, none, false⟩, ⟨.ld (.t 0) none, none, false⟩, ⟨.nck (.t 0), none, false⟩, ⟨.fad (.t 0) 0 none, none, false⟩, ⟨.ld (.t 0) none, none, false⟩, ⟨.iada (.v 5) (.c (.int (1))) 2 none, none, false⟩, ⟨.ld (.t 0) none, none, false⟩, ⟨.iad (.t 2) (.t 0) 1, none, false⟩, ⟨.ld (.t 0) none, none, false⟩, ⟨.mv (.v 10), none, false⟩, ⟨.iad (.t 1) (.t 0) 1, none, false⟩, ⟨.ld (.t 0) none, none, false⟩, ⟨.cam F_nested_best_offer [(.t 32), (.t 30), (.t 29), (.t 14), (.t 0)], none, false⟩], [], [10], none⟩
abbrev r_nested_search_level_9 : Reg := ⟨[⟨.bin .add (.v 6) (.c (.int (1))), none, false⟩, ⟨.mv (.t 0), none, false⟩], [(6, 0)], [10], none⟩
abbrev b_nested_search_level_2 : IC := (.seq (.reg r_nested_search_level_5)
 (.seq (.cond 41 .skip (.exit 2))
 (.seq (.block 3 (.seq (.reg r_nested_search_level_6)
 (.seq (.reg r_nested_search_level_7)
 (.cond 45 (.reg r_nested_search_level_8) .skip))))
 (.reg r_nested_search_level_9))))
abbrev r_nested_search_level_10 : Reg := ⟨[⟨.bin .add (.v 2) (.c (.int (1))), none, false⟩, ⟨.mv (.t 0), none, false⟩], [(2, 0)], [5, 6, 7, 8], none⟩
abbrev b_nested_search_level_0 : IC := (.seq (.reg r_nested_search_level_2)
 (.seq (.cond 25 .skip (.exit 0))
 (.seq (.block 1 (.seq (.reg r_nested_search_level_3)
 (.seq (.reg r_nested_search_level_4)
 (.block 2 (.loop b_nested_search_level_2)))))
 (.reg r_nested_search_level_10))))
abbrev r_nested_search_level_11 : Reg := ⟨[⟨.mv (.v 0), none, false⟩, ⟨.nck (.t 0), none, false⟩, ⟨.fad (.t 0) 12 none, none, false⟩, ⟨.ld (.t 0) none, none, false⟩, ⟨.mv (.v 1), none, false⟩, ⟨.cam F_nested_best_take [(.t 1), (.t 0)], none, false⟩, ⟨.mv (.t 0), none, false⟩], [(11, 0)], [1, 2, 3, 4], none⟩
abbrev r_nested_search_level_12 : Reg := ⟨[⟨.mv (.v 11), none, false⟩, ⟨.len (.t 0), none, false⟩, ⟨.mv (.c (.int (0))), none, false⟩], [(14, 2), (13, 1), (12, 0)], [], none⟩
abbrev r_nested_search_level_13 : Reg := ⟨[⟨.bin .lss (.v 12) (.v 13), none, false⟩], [], [], some (94, 0)⟩
abbrev r_nested_search_level_14 : Reg := ⟨[⟨.iad (.v 14) (.v 12) 2, none, false⟩, ⟨.ld (.t 0) (some 2), none, false⟩, ⟨.alc [.int 0, .int 0] (some 2), none, false⟩, ⟨.st (.t 0) (.t 1) 2, none, false⟩], [(15, 1)], [], none⟩
abbrev r_nested_search_level_15 : Reg := ⟨[⟨.mv (.v 0), none, false⟩, ⟨.nck (.t 0), none, false⟩, ⟨.fad (.t 0) 12 none, none, false⟩, ⟨.ld (.t 0) none, none, false⟩, ⟨.nck (.t 0), none, false⟩, ⟨.fad (.t 0) 0 none, none, false⟩, ⟨.ld (.t 0) none, none, false⟩, ⟨.iada (.v 15) (.c (.int (0))) 2 none, none, false⟩, ⟨.ld (.t 0) none, none, false⟩, ⟨.iad (.t 2) (.t 0) 1, none, false⟩, ⟨.ld (.t 0) none, none, false⟩, ⟨.iada (.v 15) (.c (.int (1))) 2 none, none, false⟩, ⟨.ld (.t 0) none, none, false⟩, ⟨.iad (.t 2) (.t 0) 1, none, false⟩, ⟨.ld (.t 0) none, none, false⟩, ⟨.mv (.t 0), none, false⟩], [(19, 0)], [], none⟩
abbrev r_nested_search_level_16 : Reg := ⟨[⟨.mv (.v 0), none, false⟩, ⟨.nck (.t 0), none, false⟩, ⟨.fad (.t 0) 0 none, none, false⟩, ⟨.ld (.t 0) none, none, false⟩, ⟨.inv (.t 0) [(T_nested_single, F_nested_single_size), (T_nested_double, F_nested_double_size)] [], none, false⟩, ⟨.mv (.c (.int (0))), none, false⟩], [(17, 1), (16, 0)], [], none⟩
abbrev r_nested_search_level_17 : Reg := ⟨[⟨.bin .lss (.v 16) (.v 17), none, false⟩], [], [], some (118, 0)⟩
abbrev r_nested_search_level_18 : Reg := ⟨[⟨.mv (.v 16), none, false⟩, ⟨.mv (.t 0), none, false⟩], [(18, 0)], [], none⟩
abbrev r_nested_search_level_19 : Reg := ⟨[⟨.mv (.v 0), none, false⟩, ⟨.nck (.t 0), none, false⟩, ⟨.fad (.t 0) 11 none, none, false⟩, ⟨.ld (.t 0) none, none, false⟩, ⟨.nck (.t 0), none, false⟩, ⟨.fad (.t 0) 1 none, none, false⟩, ⟨.ld (.t 0) none, none, false⟩, ⟨.mv (.v 18), none, false⟩, ⟨.iad (.t 1) (.t 0) 1, none, false⟩, ⟨.ld (.t 0) none, none, false⟩, ⟨.iada (.v 15) (.c (.int (0))) 2 none, none, false⟩, ⟨.ld (.t 0) none, none, false⟩, ⟨.iad (.t 2) (.t 0) 1, none, false⟩, ⟨.ld (.t 0) none, none, false⟩], [], [], some (133, 0)⟩
abbrev r_nested_search_level_20 : Reg := ⟨[⟨.mv (.v 0), none, false⟩, ⟨.nck (.t 0), none, false⟩, ⟨.fad (.t 0) 12 none, none, false⟩, ⟨.ld (.t 0) none, none, false⟩, ⟨.mv (.v 18), none, false⟩, ⟨.iada (.v 15) (.c (.int (1))) 2 none, none, false⟩, ⟨.ld (.t 0) none, none, false⟩, ⟨.mv (.v 0), none, false⟩, ⟨.nck (.t 0), none, false⟩, ⟨.fad (.t 0) 11 none, none, false⟩, ⟨.ld (.t 0) none, none, false⟩, ⟨.nck (.t 0), none, false⟩, ⟨.fad (.t 0) 0 none, none, false⟩, ⟨.ld (.t 0) none, none, false⟩, ⟨.mv (.v 18), none, false⟩, ⟨.iad (.t 1) (.t 0) 1, none, false⟩, ⟨.ld (.t 0) none, none, false⟩, ⟨.iada (.v 15) (.c (.int (0))) 2 none, none, false⟩, ⟨.ld (.t 0) none, none, false⟩, ⟨.iad (.t 2) (.t 0) 1, none, false⟩, ⟨.ld (.t 0) none, none, false⟩, ⟨.mv (.v 19), none, false⟩, ⟨.cam F_nested_best_offer [(.t 18), (.t 17), (.t 15), (.t 1), (.t 0)], none, false⟩], [], [18], none⟩
abbrev r_nested_search_level_21 : Reg := ⟨[⟨.bin .add (.v 16) (.c (.int (1))), none, false⟩, ⟨.mv (.t 0), none, false⟩], [(16, 0)], [18], none⟩
abbrev b_nested_search_level_6 : IC := (.seq (.reg r_nested_search_level_17)
 (.seq (.cond 118 .skip (.exit 6))
 (.seq (.block 7 (.seq (.reg r_nested_search_level_18)
 (.seq (.reg r_nested_search_level_19)
 (.cond 133 (.reg r_nested_search_level_20) .skip))))
 (.reg r_nested_search_level_21))))
abbrev r_nested_search_level_22 : Reg := ⟨[⟨.mv (.v 0), none, false⟩, ⟨.nck (.t 0), none, false⟩, ⟨.fad (.t 0) 13 none, none, false⟩, ⟨.ld (.t 0) none, none, false⟩, ⟨.iada (.v 15) (.c (.int (0))) 2 none, none, false⟩, ⟨.ld (.t 0) none, none, false⟩, ⟨.iad (.t 2) (.t 0) 1, none, false⟩, ⟨.ld (.t 0) none, none, false⟩, ⟨.len (.t 0), none, false⟩, ⟨.mv (.c (.int (0))), none, false⟩], [(22, 2), (21, 1), (20, 0)], [16, 17], none⟩
abbrev r_nested_search_level_23 : Reg := ⟨[⟨.bin .lss (.v 20) (.v 21), none, false⟩], [], [], some (168, 0)⟩
abbrev r_nested_search_level_24 : Reg := ⟨[⟨.iad (.v 22) (.v 20) 3, none, false⟩, ⟨.ld (.t 0) (some 3), none, false⟩, ⟨.alc [.int 0, .int 0, .int 0] (some 3), none, false⟩, ⟨.st (.t 0) (.t 1) 3, none, false⟩], [(25, 1)], [], none⟩
abbrev r_nested_search_level_25 : Reg := ⟨[⟨.mv (.v 0), none, false⟩, ⟨.nck (.t 0), none, false⟩, ⟨.fad (.t 0) 1 (some 10), none, false⟩, ⟨.fad (.t 0) 2 none, none, false⟩, ⟨.ld (.t 0) none, none, false⟩, ⟨.mv (.c (.int (0))), none, false⟩], [(24, 1), (23, 0)], [], none⟩
abbrev r_nested_search_level_26 : Reg := ⟨[⟨.bin .lss (.v 23) (.v 24), none, false⟩], [], [], some (177, 0)⟩
abbrev r_nested_search_level_27 : Reg := ⟨[⟨.mv (.v 23), none, false⟩, ⟨.mv (.t 0), none, false⟩], [(26, 0)], [], none⟩
abbrev r_nested_search_level_28 : Reg := ⟨[⟨.mv (.v 0), none, false⟩, ⟨.nck (.t 0), none, false⟩, ⟨.fad (.t 0) 11 none, none, false⟩, ⟨.ld (.t 0) none, none, false⟩, ⟨.fad (.v 25) 0 none, none, false⟩, ⟨.ld (.t 0) none, none, false⟩, ⟨.mv (.v 0), none, false⟩, ⟨.nck (.t 0), none, false⟩, ⟨.fad (.t 0) 0 none, none, false⟩, ⟨.ld (.t 0) none, none, false⟩, ⟨.iada (.v 15) (.c (.int (1))) 2 none, none, false⟩, ⟨.ld (.t 0) none, none, false⟩, ⟨.fad (.v 25) 2 none, none, false⟩, ⟨.ld (.t 0) none, none, false⟩, ⟨.mv (.v 26), none, false⟩, ⟨.inv (.t 5) [(T_nested_single, F_nested_single_pop), (T_nested_double, F_nested_double_pop), (T_Pnested_stack_int, F_nested_stack_int_pop)] [(.t 3), (.t 1), (.t 0)], none, false⟩, ⟨.fad (.v 25) 1 none, none, false⟩, ⟨.ld (.t 0) none, none, false⟩, ⟨.lita [(.t 0)] 1, none, false⟩, ⟨.mv (.v 19), none, false⟩, ⟨.app (.t 1) (.t 0) none, none, false⟩, ⟨.mv (.v 0), none, false⟩, ⟨.nck (.t 0), none, false⟩, ⟨.fad (.t 0) 1 (some 10), none, false⟩, ⟨.fad (.t 0) 0 none, none, false⟩, ⟨.ld (.t 0) none, none, true⟩, ⟨.mv (.v 0), none, false⟩, ⟨.nck (.t 0), none, false⟩, ⟨.fad (.t 0) 1 (some 10), none, false⟩, ⟨.fad (.t 0) 1 none, none, false⟩, ⟨.ld (.t 0) none, none, true⟩, ⟨.bin .add (.t 5) (.t 0), none, false⟩, ⟨.mv (.v 26), none, false⟩, ⟨.bin .add (.t 1) (.t 0), none, false⟩, ⟨.liti [(.t 0)] 1, none, false⟩, ⟨.cam F_nested_best_offer [(.t 31), (.t 29), (.t 19), (.t 14), (.t 0)], none, false⟩], [], [26], none⟩
abbrev r_nested_search_level_29 : Reg := ⟨[⟨.bin .add (.v 23) (.c (.int (1))), none, false⟩, ⟨.mv (.t 0), none, false⟩], [(23, 0)], [], none⟩
abbrev b_nested_search_level_10 : IC := (.seq (.reg r_nested_search_level_26)
 (.seq (.cond 177 .skip (.exit 10))
 (.seq (.block 11 (.seq (.reg r_nested_search_level_27)
 (.reg r_nested_search_level_28)))
 (.reg r_nested_search_level_29))))
abbrev r_nested_search_level_30 : Reg := ⟨[⟨.bin .add (.v 20) (.c (.int (1))), none, false⟩, ⟨.mv (.t 0), none, false⟩], [(20, 0)], [23, 24, 25], none⟩
abbrev b_nested_search_level_8 : IC := (.seq (.reg r_nested_search_level_23)
 (.seq (.cond 168 .skip (.exit 8))
 (.seq (.block 9 (.seq (.reg r_nested_search_level_24)
 (.seq (.reg r_nested_search_level_25)
 (.block 10 (.loop b_nested_search_level_10)))))
 (.reg r_nested_search_level_30))))
abbrev r_nested_search_level_31 : Reg := ⟨[⟨.bin .add (.v 12) (.c (.int (1))), none, false⟩, ⟨.mv (.t 0), none, false⟩], [(12, 0)], [15, 19, 20, 21, 22], none⟩
abbrev b_nested_search_level_4 : IC := (.seq (.reg r_nested_search_level_13)
 (.seq (.cond 94 .skip (.exit 4))
 (.seq (.block 5 (.seq (.reg r_nested_search_level_14)
 (.seq (.reg r_nested_search_level_15)
 (.seq (.seq (.reg r_nested_search_level_16)
 (.block 6 (.loop b_nested_search_level_6)))
 (.seq (.reg r_nested_search_level_22)
 (.block 8 (.loop b_nested_search_level_8)))))))
 (.reg r_nested_search_level_31))))
abbrev r_nested_search_level_32 : Reg := ⟨[⟨.mv (.v 11), none, false⟩, ⟨.mv (.t 0), none, false⟩], [(27, 0)], [0, 11, 12, 13, 14], none⟩
abbrev ir_nested_search_level : Fn := { np := 2, nv := 28, res := [(27, none)], body :=
(.seq (.reg r_nested_search_level_0)
 (.seq (.seq (.reg r_nested_search_level_1)
 (.block 0 (.loop b_nested_search_level_0)))
 (.seq (.reg r_nested_search_level_11)
 (.seq (.seq (.reg r_nested_search_level_12)
 (.block 4 (.loop b_nested_search_level_4)))
 (.seq (.reg r_nested_search_level_32)
 .ret))))) }
/- f66 word_Compare : 0:a 1:b 2:_ -/
abbrev r_word_Compare_0 : Reg := ⟨[⟨.mv (.c (.int (0))), none, false⟩], [], [2], none⟩
abbrev r_word_Compare_1 : Reg := ⟨[⟨.mv (.v 0), none, false⟩, ⟨.len (.t 0), none, false⟩, ⟨.mv (.v 1), none, false⟩, ⟨.len (.t 0), none, false⟩, ⟨.cal F_cmp_Compare_int [(.t 2), (.t 0)], none, false⟩, ⟨.mv (.v 0), none, false⟩, ⟨.mv (.v 1), none, false⟩, ⟨.cal F_slices_Compare_Sint_int [(.t 1), (.t 0)], none, false⟩, ⟨.liti [(.t 3), (.t 0)] 1, none, false⟩, ⟨.cal F_cmp_Or_int [(.t 0)], none, false⟩, ⟨.mv (.t 0), none, false⟩], [(2, 0)], [0, 1], none⟩
abbrev ir_word_Compare : Fn := { np := 2, nv := 3, res := [(2, none)], body :=
(.seq (.reg r_word_Compare_0)
 (.seq (.reg r_word_Compare_1)
 .ret)) }
/- f67 slices_Clone_Sint_int : 0:s 1:_ -/
abbrev r_slices_Clone_Sint_int_0 : Reg := ⟨[⟨.mv (.c (.snil)), none, false⟩], [], [1], none⟩
abbrev r_slices_Clone_Sint_int_1 : Reg := ⟨[⟨.mv (.v 0), none, false⟩, ⟨.bnl false (.t 0), none, false⟩], [], [], some (4, 0)⟩
abbrev r_slices_Clone_Sint_int_2 : Reg := ⟨[⟨.mv (.c (.snil)), none, false⟩], [(1, 0)], [0], none⟩
abbrev r_slices_Clone_Sint_int_3 : Reg := ⟨[⟨.lita [] 1, none, false⟩, ⟨.mv (.v 0), none, false⟩, ⟨.appw (.t 1) (.t 0) none, none, false⟩, ⟨.mv (.t 0), none, false⟩], [(1, 0)], [0], none⟩
abbrev ir_slices_Clone_Sint_int : Fn := { np := 1, nv := 2, res := [(1, none)], body :=
(.seq (.reg r_slices_Clone_Sint_int_0)
 (.seq (.seq (.reg r_slices_Clone_Sint_int_1)
 (.cond 4 (.seq (.reg r_slices_Clone_Sint_int_2)
 .ret) .skip))
 (.seq (.reg r_slices_Clone_Sint_int_3)
 .ret))) }
/- f68 ref43_links : 0:n 1:s 2:n 3:table 4:changed 5:s 6:t 7:x 8:_ -/
abbrev r_ref43_links_0 : Reg := ⟨[⟨.bxm (.v 0) (some 10), none, false⟩, ⟨.mv (.c (.snil)), none, false⟩], [(2, 1)], [0, 8], none⟩
abbrev r_ref43_links_1 : Reg := ⟨[⟨.nl none, none, false⟩], [(3, 0)], [], none⟩
abbrev r_ref43_links_2 : Reg := ⟨[⟨.mv (.c (.int (0))), none, false⟩], [(1, 0)], [], none⟩
abbrev r_ref43_links_3 : Reg := ⟨[⟨.mv (.v 1), none, false⟩, ⟨.fad (.v 2) 5 none, none, false⟩, ⟨.ld (.t 0) none, none, false⟩, ⟨.len (.t 0), none, false⟩, ⟨.bin .lss (.t 3) (.t 0), none, false⟩], [], [], some (13, 0)⟩
abbrev r_ref43_links_5 : Reg := ⟨[⟨.mv (.v 3), none, false⟩, ⟨.fad (.v 2) 5 none, none, false⟩, ⟨.ld (.t 0) none, none, false⟩, ⟨.len (.t 0), none, false⟩, ⟨.mks (.t 0) (.t 0) [.bool false, .snil] (some 2), none, false⟩, ⟨.lita [(.t 0)] 1, none, false⟩, ⟨.appw (.t 5) (.t 0) none, none, false⟩, ⟨.mv (.t 0), none, false⟩], [(3, 0)], [], none⟩
abbrev r_ref43_links_6 : Reg := ⟨[⟨.mv (.v 3), none, false⟩, ⟨.mv (.v 1), none, false⟩, ⟨.iad (.t 1) (.t 0) 1, none, false⟩, ⟨.ld (.t 0) none, none, false⟩, ⟨.mv (.v 1), none, false⟩, ⟨.bld [.bool false, .snil] [(0, 1, (.c (.bool true)))], none, false⟩, ⟨.iad (.t 2) (.t 1) 2, none, false⟩, ⟨.st (.t 0) (.t 1) 2, none, false⟩], [], [], none⟩
abbrev r_ref43_links_4 : Reg := ⟨[⟨.mv (.v 1), none, false⟩, ⟨.bin .add (.t 0) (.c (.int (1))), none, false⟩, ⟨.mv (.t 0), none, false⟩], [(1, 0)], [], none⟩
abbrev b_ref43_links_0 : IC := (.seq (.seq (.reg r_ref43_links_3)
 (.cond 13 .skip (.exit 0)))
 (.seq (.block 1 (.seq (.reg r_ref43_links_5)
 (.reg r_ref43_links_6)))
 (.reg r_ref43_links_4)))
abbrev r_ref43_links_7 : Reg := ⟨[⟨.mv (.c (.bool true)), none, false⟩], [(4, 0)], [1], none⟩
abbrev r_ref43_links_8 : Reg := ⟨[⟨.mv (.v 4), none, false⟩], [], [4, 5], some (30, 0)⟩
abbrev r_ref43_links_9 : Reg := ⟨[⟨.mv (.c (.bool false)), none, false⟩], [(4, 0)], [], none⟩
abbrev r_ref43_links_10 : Reg := ⟨[⟨.mv (.c (.int (0))), none, false⟩], [(5, 0)], [], none⟩
abbrev r_ref43_links_11 : Reg := ⟨[⟨.mv (.v 5), none, false⟩, ⟨.fad (.v 2) 5 none, none, false⟩, ⟨.ld (.t 0) none, none, false⟩, ⟨.len (.t 0), none, false⟩, ⟨.bin .lss (.t 3) (.t 0), none, false⟩], [], [], some (35, 0)⟩
abbrev r_ref43_links_13 : Reg := ⟨[⟨.mv (.c (.int (0))), none, false⟩], [(6, 0)], [], none⟩
abbrev r_ref43_links_14 : Reg := ⟨[⟨.mv (.v 6), none, false⟩, ⟨.fad (.v 2) 5 none, none, false⟩, ⟨.ld (.t 0) none, none, false⟩, ⟨.len (.t 0), none, false⟩, ⟨.bin .lss (.t 3) (.t 0), none, false⟩], [], [], some (42, 0)⟩
abbrev r_ref43_links_16 : Reg := ⟨[⟨.ld (.v 2) (some 10), none, false⟩, ⟨.mv (.v 3), none, false⟩, ⟨.mv (.v 5), none, false⟩, ⟨.mv (.v 6), none, false⟩, ⟨.cam F_ref43_improved [(.t 3), (.t 2), (.t 1), (.t 0)], none, false⟩, ⟨.alc0 2, none, false⟩, ⟨.ini (.t 0) (.t 1) 2, none, false⟩], [(7, 0)], [], none⟩
abbrev r_ref43_links_17 : Reg := ⟨[⟨.fad (.v 7) 0 none, none, false⟩, ⟨.ldi (.t 0) none, none, false⟩, ⟨.mv (.v 3), none, false⟩, ⟨.mv (.v 5), none, false⟩, ⟨.iad (.t 1) (.t 0) 1, none, false⟩, ⟨.ld (.t 0) none, none, false⟩, ⟨.mv (.v 6), none, false⟩, ⟨.iad (.t 1) (.t 0) 2, none, false⟩, ⟨.fad (.t 0) 0 none, none, false⟩, ⟨.ld (.t 0) none, none, false⟩, ⟨.beq true (.t 8) (.t 0), none, false⟩, ⟨.mv (.t 0), none, false⟩, ⟨.fad (.v 7) 0 none, some (.t 0, false), false⟩, ⟨.ldi (.t 0) none, some (.t 1, false), false⟩, ⟨.mv (.t 0), some (.t 2, false), false⟩, ⟨.fad (.v 7) 1 none, some (.t 0, true), false⟩, ⟨.ldi (.t 0) none, some (.t 1, true), false⟩, ⟨.mv (.v 3), some (.t 2, true), false⟩, ⟨.mv (.v 5), some (.t 3, true), false⟩, ⟨.iad (.t 1) (.t 0) 1, some (.t 4, true), false⟩, ⟨.ld (.t 0) none, some (.t 5, true), false⟩, ⟨.mv (.v 6), some (.t 6, true), false⟩, ⟨.iad (.t 1) (.t 0) 2, some (.t 7, true), false⟩, ⟨.fad (.t 0) 1 none, some (.t 8, true), false⟩, ⟨.ld (.t 0) none, some (.t 9, true), false⟩, ⟨.cal F_ref01_Same [(.t 8), (.t 0)], some (.t 10, true), false⟩, ⟨.not (.t 0), some (.t 11, true), false⟩, ⟨.pick (.t 12) (.t 0) (.c (.bool false)), some (.t 15, false), false⟩, ⟨.pick (.t 16) (.c (.bool true)) (.t 0), none, false⟩], [], [], some (78, 0)⟩
abbrev r_ref43_links_18 : Reg := ⟨[⟨.mv (.v 3), none, false⟩, ⟨.mv (.v 5), none, false⟩, ⟨.iad (.t 1) (.t 0) 1, none, false⟩, ⟨.ld (.t 0) none, none, false⟩, ⟨.mv (.v 6), none, false⟩, ⟨.ldi (.v 7) (some 2), none, false⟩, ⟨.iad (.t 2) (.t 1) 2, none, false⟩, ⟨.st (.t 0) (.t 1) 2, none, false⟩], [], [4, 7], none⟩
abbrev r_ref43_links_19 : Reg := ⟨[⟨.mv (.c (.bool true)), none, false⟩], [(4, 0)], [], none⟩
abbrev r_ref43_links_15 : Reg := ⟨[⟨.mv (.v 6), none, false⟩, ⟨.bin .add (.t 0) (.c (.int (1))), none, false⟩, ⟨.mv (.t 0), none, false⟩], [(6, 0)], [7], none⟩
abbrev b_ref43_links_6 : IC := (.seq (.seq (.reg r_ref43_links_14)
 (.cond 42 .skip (.exit 6)))
 (.seq (.block 7 (.seq (.reg r_ref43_links_16)
 (.seq (.reg r_ref43_links_17)
 (.cond 78 (.seq (.reg r_ref43_links_18)
 (.reg r_ref43_links_19)) .skip))))
 (.reg r_ref43_links_15)))
abbrev r_ref43_links_12 : Reg := ⟨[⟨.mv (.v 5), none, false⟩, ⟨.bin .add (.t 0) (.c (.int (1))), none, false⟩, ⟨.mv (.t 0), none, false⟩], [(5, 0)], [6], none⟩
abbrev b_ref43_links_4 : IC := (.seq (.seq (.reg r_ref43_links_11)
 (.cond 35 .skip (.exit 4)))
 (.seq (.block 5 (.seq (.reg r_ref43_links_13)
 (.block 6 (.loop b_ref43_links_6))))
 (.reg r_ref43_links_12)))
abbrev b_ref43_links_2 : IC := (.seq (.seq (.reg r_ref43_links_8)
 (.cond 30 .skip (.exit 2)))
 (.block 3 (.seq (.reg r_ref43_links_9)
 (.seq (.reg r_ref43_links_10)
 (.block 4 (.loop b_ref43_links_4))))))
abbrev r_ref43_links_20 : Reg := ⟨[⟨.mv (.v 3), none, false⟩, ⟨.mv (.t 0), none, false⟩], [(8, 0)], [2, 3], none⟩
abbrev ir_ref43_links : Fn := { np := 1, nv := 9, res := [(8, none)], body :=
(.seq (.reg r_ref43_links_0)
 (.seq (.reg r_ref43_links_1)
 (.seq (.seq (.reg r_ref43_links_2)
 (.block 0 (.loop b_ref43_links_0)))
 (.seq (.seq (.reg r_ref43_links_7)
 (.block 2 (.loop b_ref43_links_2)))
 (.seq (.reg r_ref43_links_20)
 .ret))))) }
/- f69 ref43_better : 0:l 1:w 2:l 3:_ -/
abbrev r_ref43_better_0 : Reg := ⟨[⟨.bxi (.v 0), none, false⟩, ⟨.alc [.bool false, .snil] (some 2), none, false⟩], [(2, 1), (3, 0)], [0], none⟩
abbrev r_ref43_better_1 : Reg := ⟨[⟨.mv (.v 1), none, false⟩, ⟨.len (.t 0), none, false⟩, ⟨.bin .gtr (.t 0) (.c (.int (1024))), none, false⟩, ⟨.mv (.t 0), none, false⟩, ⟨.fad (.v 2) 0 none, some (.t 0, false), false⟩, ⟨.ldi (.t 0) none, some (.t 1, false), false⟩, ⟨.mv (.t 0), some (.t 2, false), false⟩, ⟨.fad (.v 2) 1 none, some (.t 0, true), false⟩, ⟨.ldi (.t 0) none, some (.t 1, true), false⟩, ⟨.mv (.v 1), some (.t 2, true), false⟩, ⟨.cal F_ref01_Compare [(.t 1), (.t 0)], some (.t 3, true), false⟩, ⟨.bin .leq (.t 0) (.c (.int (0))), some (.t 4, true), false⟩, ⟨.pick (.t 5) (.t 0) (.c (.bool false)), some (.t 8, false), false⟩, ⟨.pick (.t 9) (.c (.bool true)) (.t 0), none, false⟩], [], [], some (18, 0)⟩
abbrev r_ref43_better_2 : Reg := ⟨[⟨.ldi (.v 2) (some 2), none, false⟩, ⟨.st (.v 3) (.t 0) 2, none, false⟩], [], [1, 2], none⟩
abbrev r_ref43_better_3 : Reg := ⟨[⟨.mv (.v 1), none, false⟩, ⟨.bld [.bool false, .snil] [(0, 1, (.c (.bool true))), (1, 1, (.t 0))], none, false⟩, ⟨.st (.v 3) (.t 0) 2, none, false⟩], [], [1, 2], none⟩
abbrev ir_ref43_better : Fn := { np := 2, nv := 4, res := [(3, some (some 2))], body :=
(.seq (.reg r_ref43_better_0)
 (.seq (.seq (.reg r_ref43_better_1)
 (.cond 18 (.seq (.reg r_ref43_better_2)
 .ret) .skip))
 (.seq (.reg r_ref43_better_3)
 .ret))) }
/- f70 ref01_Join : 0:parts 1:i 2:out 3:_ -/
abbrev r_ref01_Join_0 : Reg := ⟨[⟨.mv (.c (.snil)), none, false⟩], [], [3], none⟩
abbrev r_ref01_Join_1 : Reg := ⟨[⟨.nl none, none, false⟩], [(2, 0)], [], none⟩
abbrev r_ref01_Join_2 : Reg := ⟨[⟨.mv (.c (.int (0))), none, false⟩], [(1, 0)], [], none⟩
abbrev r_ref01_Join_3 : Reg := ⟨[⟨.mv (.v 1), none, false⟩, ⟨.mv (.v 0), none, false⟩, ⟨.len (.t 0), none, false⟩, ⟨.bin .lss (.t 2) (.t 0), none, false⟩], [], [], some (8, 0)⟩
abbrev r_ref01_Join_5 : Reg := ⟨[⟨.mv (.v 2), none, false⟩, ⟨.mv (.v 0), none, false⟩, ⟨.mv (.v 1), none, false⟩, ⟨.iad (.t 1) (.t 0) 1, none, false⟩, ⟨.ld (.t 0) none, none, false⟩, ⟨.appw (.t 4) (.t 0) none, none, false⟩, ⟨.mv (.t 0), none, false⟩], [(2, 0)], [], none⟩
abbrev r_ref01_Join_4 : Reg := ⟨[⟨.mv (.v 1), none, false⟩, ⟨.bin .add (.t 0) (.c (.int (1))), none, false⟩, ⟨.mv (.t 0), none, false⟩], [(1, 0)], [], none⟩
abbrev b_ref01_Join_0 : IC := (.seq (.seq (.reg r_ref01_Join_3)
 (.cond 8 .skip (.exit 0)))
 (.seq (.block 1 (.reg r_ref01_Join_5))
 (.reg r_ref01_Join_4)))
abbrev r_ref01_Join_6 : Reg := ⟨[⟨.mv (.v 2), none, false⟩, ⟨.mv (.t 0), none, false⟩], [(3, 0)], [0, 1, 2], none⟩
abbrev ir_ref01_Join : Fn := { np := 1, nv := 4, res := [(3, none)], body :=
(.seq (.reg r_ref01_Join_0)
 (.seq (.reg r_ref01_Join_1)
 (.seq (.seq (.reg r_ref01_Join_2)
 (.block 0 (.loop b_ref01_Join_0)))
 (.seq (.reg r_ref01_Join_6)
 .ret)))) }
/- f71 ref43_pops : 0:a 1:b 2:x 3:y 4:g 5:a 6:h 7:b 8:r 9:row 10:out 11:_ -/
abbrev r_ref43_pops_0 : Reg := ⟨[⟨.bxi (.v 0), none, false⟩, ⟨.bxi (.v 1), none, false⟩, ⟨.mv (.c (.snil)), none, false⟩], [(5, 2), (7, 1)], [0, 1, 11], none⟩
abbrev r_ref43_pops_1 : Reg := ⟨[⟨.nl none, none, false⟩], [(10, 0)], [], none⟩
abbrev r_ref43_pops_2 : Reg := ⟨[⟨.mv (.c (.int (0))), none, false⟩], [(4, 0)], [], none⟩
abbrev r_ref43_pops_3 : Reg := ⟨[⟨.mv (.v 4), none, false⟩, ⟨.fad (.v 5) 3 none, none, false⟩, ⟨.ldi (.t 0) none, none, false⟩, ⟨.bin .lss (.t 2) (.t 0), none, false⟩], [], [], some (17, 0)⟩
abbrev r_ref43_pops_5 : Reg := ⟨[⟨.mv (.c (.int (0))), none, false⟩], [(6, 0)], [], none⟩
abbrev r_ref43_pops_6 : Reg := ⟨[⟨.mv (.v 6), none, false⟩, ⟨.fad (.v 7) 3 none, none, false⟩, ⟨.ldi (.t 0) none, none, false⟩, ⟨.bin .lss (.t 2) (.t 0), none, false⟩], [], [], some (23, 0)⟩
abbrev r_ref43_pops_8 : Reg := ⟨[⟨.nl none, none, false⟩], [(9, 0)], [], none⟩
abbrev r_ref43_pops_9 : Reg := ⟨[⟨.mv (.c (.int (0))), none, false⟩], [(8, 0)], [], none⟩
abbrev r_ref43_pops_10 : Reg := ⟨[⟨.mv (.v 8), none, false⟩, ⟨.fad (.v 5) 2 none, none, false⟩, ⟨.ldi (.t 0) none, none, false⟩, ⟨.bin .lss (.t 2) (.t 0), none, false⟩], [], [], some (29, 0)⟩
abbrev r_ref43_pops_12 : Reg := ⟨[⟨.mv (.v 9), none, false⟩, ⟨.fad (.v 5) 9 none, none, false⟩, ⟨.ldi (.t 0) none, none, false⟩, ⟨.mv (.v 2), none, false⟩, ⟨.iad (.t 1) (.t 0) 1, none, false⟩, ⟨.ldi (.t 0) none, none, false⟩, ⟨.mv (.v 4), none, false⟩, ⟨.iad (.t 1) (.t 0) 1, none, false⟩, ⟨.ldi (.t 0) none, none, false⟩, ⟨.mv (.v 8), none, false⟩, ⟨.iad (.t 1) (.t 0) 1, none, false⟩, ⟨.ldi (.t 0) none, none, false⟩, ⟨.fad (.v 7) 5 none, none, false⟩, ⟨.ldi (.t 0) none, none, false⟩, ⟨.len (.t 0), none, false⟩, ⟨.bin .mul (.t 3) (.t 0), none, false⟩, ⟨.fad (.v 7) 9 none, none, false⟩, ⟨.ldi (.t 0) none, none, false⟩, ⟨.mv (.v 3), none, false⟩, ⟨.iad (.t 1) (.t 0) 1, none, false⟩, ⟨.ldi (.t 0) none, none, false⟩, ⟨.mv (.v 6), none, false⟩, ⟨.iad (.t 1) (.t 0) 1, none, false⟩, ⟨.ldi (.t 0) none, none, false⟩, ⟨.mv (.v 8), none, false⟩, ⟨.iad (.t 1) (.t 0) 1, none, false⟩, ⟨.ldi (.t 0) none, none, false⟩, ⟨.bin .add (.t 11) (.t 0), none, false⟩, ⟨.lita [(.t 0)] 1, none, false⟩, ⟨.app (.t 28) (.t 0) none, none, false⟩, ⟨.mv (.t 0), none, false⟩], [(9, 0)], [], none⟩
abbrev r_ref43_pops_11 : Reg := ⟨[⟨.mv (.v 8), none, false⟩, ⟨.bin .add (.t 0) (.c (.int (1))), none, false⟩, ⟨.mv (.t 0), none, false⟩], [(8, 0)], [], none⟩
abbrev b_ref43_pops_4 : IC := (.seq (.seq (.reg r_ref43_pops_10)
 (.cond 29 .skip (.exit 4)))
 (.seq (.block 5 (.reg r_ref43_pops_12))
 (.reg r_ref43_pops_11)))
abbrev r_ref43_pops_13 : Reg := ⟨[⟨.mv (.v 10), none, false⟩, ⟨.mv (.v 9), none, false⟩, ⟨.lita [(.t 0)] 1, none, false⟩, ⟨.appw (.t 2) (.t 0) none, none, false⟩, ⟨.mv (.t 0), none, false⟩], [(10, 0)], [8, 9], none⟩
abbrev r_ref43_pops_7 : Reg := ⟨[⟨.mv (.v 6), none, false⟩, ⟨.bin .add (.t 0) (.c (.int (1))), none, false⟩, ⟨.mv (.t 0), none, false⟩], [(6, 0)], [], none⟩
abbrev b_ref43_pops_2 : IC := (.seq (.seq (.reg r_ref43_pops_6)
 (.cond 23 .skip (.exit 2)))
 (.seq (.block 3 (.seq (.reg r_ref43_pops_8)
 (.seq (.seq (.reg r_ref43_pops_9)
 (.block 4 (.loop b_ref43_pops_4)))
 (.reg r_ref43_pops_13))))
 (.reg r_ref43_pops_7)))
abbrev r_ref43_pops_4 : Reg := ⟨[⟨.mv (.v 4), none, false⟩, ⟨.bin .add (.t 0) (.c (.int (1))), none, false⟩, ⟨.mv (.t 0), none, false⟩], [(4, 0)], [6], none⟩
abbrev b_ref43_pops_0 : IC := (.seq (.seq (.reg r_ref43_pops_3)
 (.cond 17 .skip (.exit 0)))
 (.seq (.block 1 (.seq (.reg r_ref43_pops_5)
 (.block 2 (.loop b_ref43_pops_2))))
 (.reg r_ref43_pops_4)))
abbrev r_ref43_pops_14 : Reg := ⟨[⟨.mv (.v 10), none, false⟩, ⟨.mv (.t 0), none, false⟩], [(11, 0)], [2, 3, 4, 5, 7, 10], none⟩
abbrev ir_ref43_pops : Fn := { np := 4, nv := 12, res := [(11, none)], body :=
(.seq (.reg r_ref43_pops_0)
 (.seq (.reg r_ref43_pops_1)
 (.seq (.seq (.reg r_ref43_pops_2)
 (.block 0 (.loop b_ref43_pops_0)))
 (.seq (.reg r_ref43_pops_14)
 .ret)))) }
end Ab
