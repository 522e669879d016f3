/- The functions of the program as small texts, printed by a tool of mine. Condition: none. -/
import Derived.Test.YtmmkhoncblnicaaIr0
set_option linter.all false
namespace Ab
/- f63 mealy_machine_move : 0:m 1:s 2:a 3:m 4:_ 5:_ -/
abbrev r_mealy_machine_move_0 : Reg := ⟨[⟨.bxi (.v 0), none, false⟩, ⟨.mv (.c (.int (0))), none, false⟩, ⟨.mv (.c (.int (0))), none, false⟩], [(3, 2)], [0, 4, 5], none⟩
abbrev r_mealy_machine_move_1 : Reg := ⟨[⟨.fad (.v 3) 0 (some 4), none, false⟩, ⟨.fad (.t 0) 2 none, none, false⟩, ⟨.ldi (.t 0) none, none, false⟩, ⟨.mv (.v 1), none, false⟩, ⟨.iad (.t 1) (.t 0) 1, none, false⟩, ⟨.ldi (.t 0) none, none, false⟩, ⟨.mv (.v 2), none, false⟩, ⟨.iad (.t 1) (.t 0) 1, none, false⟩, ⟨.ldi (.t 0) none, none, false⟩, ⟨.fad (.v 3) 0 (some 4), none, false⟩, ⟨.fad (.t 0) 3 none, none, false⟩, ⟨.ldi (.t 0) none, none, false⟩, ⟨.mv (.v 1), none, false⟩, ⟨.iad (.t 1) (.t 0) 1, none, false⟩, ⟨.ldi (.t 0) none, none, false⟩, ⟨.mv (.v 2), none, false⟩, ⟨.iad (.t 1) (.t 0) 1, none, false⟩, ⟨.ldi (.t 0) none, none, false⟩, ⟨.mv (.t 9), none, false⟩, ⟨.mv (.t 1), none, false⟩], [(4, 1), (5, 0)], [1, 2, 3], none⟩
abbrev ir_mealy_machine_move : Fn := { np := 3, nv := 6, res := [(4, none), (5, none)], body :=
(.seq (.reg r_mealy_machine_move_0)
 (.seq (.reg r_mealy_machine_move_1)
 .ret)) }
/- f64 cmp_isNaN_int : 0:x 1:_ -/
abbrev r_cmp_isNaN_int_0 : Reg := ⟨[⟨.mv (.c (.bool false)), none, false⟩], [], [1], none⟩
abbrev r_cmp_isNaN_int_1 : Reg := ⟨[⟨.mv (.v 0), none, false⟩, ⟨.mv (.v 0), none, false⟩, ⟨.bin .neq (.t 1) (.t 0), none, false⟩, ⟨.mv (.t 0), none, false⟩], [(1, 0)], [0], none⟩
abbrev ir_cmp_isNaN_int : Fn := { np := 1, nv := 2, res := [(1, none)], body :=
(.seq (.reg r_cmp_isNaN_int_0)
 (.seq (.reg r_cmp_isNaN_int_1)
 .ret)) }
/- f65 slices_Clone_Sint_int : 0:s 1:_ -/
abbrev r_slices_Clone_Sint_int_0 : Reg := ⟨[⟨.mv (.c (.snil)), none, false⟩], [], [1], none⟩
abbrev r_slices_Clone_Sint_int_1 : Reg := ⟨[⟨.mv (.v 0), none, false⟩, ⟨.bnl false (.t 0), none, false⟩], [], [], some (4, 0)⟩
abbrev r_slices_Clone_Sint_int_2 : Reg := ⟨[⟨.mv (.c (.snil)), none, false⟩], [(1, 0)], [0], none⟩
abbrev r_slices_Clone_Sint_int_3 : Reg := ⟨[⟨.lita [] 1, none, false⟩, ⟨.mv (.v 0), none, false⟩, ⟨.appw (.t 1) (.t 0) none, none, false⟩, ⟨.mv (.t 0), none, false⟩], [(1, 0)], [0], none⟩
abbrev ir_slices_Clone_Sint_int : Fn := { np := 1, nv := 2, res := [(1, none)], body :=
(.seq (.reg r_slices_Clone_Sint_int_0)
 (.seq (.seq (.reg r_slices_Clone_Sint_int_1)
 (.cond 4 (.seq (.reg r_slices_Clone_Sint_int_2)
 .ret) .skip))
 (.seq (.reg r_slices_Clone_Sint_int_3)
 .ret))) }
/- f66 minimize_Partition : 0:m 1:k 2:m 3:e 4:class 5:_ 6:_ -/
abbrev r_minimize_Partition_0 : Reg := ⟨[⟨.bxi (.v 0), none, false⟩, ⟨.mv (.c (.snil)), none, false⟩, ⟨.mv (.c (.int (0))), none, false⟩], [(2, 2)], [0, 5, 6], none⟩
abbrev r_minimize_Partition_1 : Reg := ⟨[⟨.ldi (.v 2) (some 4), none, false⟩, ⟨.cal F_mealy_Valid [(.t 0)], none, false⟩, ⟨.mv (.t 0), none, false⟩], [(3, 0)], [], none⟩
abbrev r_minimize_Partition_2 : Reg := ⟨[⟨.mv (.v 3), none, false⟩, ⟨.bin .neq (.t 0) (.c (.int (0))), none, false⟩], [], [], some (12, 0)⟩
abbrev r_minimize_Partition_3 : Reg := ⟨[⟨.mv (.v 3), none, false⟩, ⟨.mv (.c (.snil)), none, false⟩, ⟨.mv (.t 1), none, false⟩], [(5, 1), (6, 0)], [1, 2, 3], none⟩
abbrev r_minimize_Partition_4 : Reg := ⟨[⟨.ldi (.v 2) (some 4), none, false⟩, ⟨.mv (.v 1), none, false⟩, ⟨.cal F_minimize_refine [(.t 1), (.t 0)], none, false⟩, ⟨.mv (.t 0), none, false⟩, ⟨.ext (.t 0) 0, none, false⟩, ⟨.ext (.t 1) 1, none, false⟩, ⟨.mv (.t 1), none, false⟩, ⟨.mv (.t 1), none, false⟩], [(4, 1)], [1, 2, 3], none⟩
abbrev r_minimize_Partition_5 : Reg := ⟨[⟨.mv (.v 4), none, false⟩, ⟨.mv (.t 0), none, false⟩, ⟨.mv (.c (.int (0))), none, false⟩], [(5, 1), (6, 0)], [4], none⟩
abbrev ir_minimize_Partition : Fn := { np := 2, nv := 7, res := [(5, none), (6, none)], body :=
(.seq (.reg r_minimize_Partition_0)
 (.seq (.seq (.reg r_minimize_Partition_1)
 (.seq (.reg r_minimize_Partition_2)
 (.cond 12 (.seq (.reg r_minimize_Partition_3)
 .ret) .skip)))
 (.seq (.reg r_minimize_Partition_4)
 (.seq (.reg r_minimize_Partition_5)
 .ret)))) }
/- f72 minimize_refine : 0:m 1:k 2:m 3:_ 4:_ 5:class 6:count 7:n 8:i 9:finer 10:_ 11:_ -/
abbrev r_minimize_refine_0 : Reg := ⟨[⟨.bxi (.v 0), none, false⟩, ⟨.mv (.c (.snil)), none, false⟩, ⟨.mv (.c (.int (0))), none, false⟩], [(2, 2)], [0, 10, 11], none⟩
abbrev r_minimize_refine_1 : Reg := ⟨[⟨.fad (.v 2) 2 none, none, false⟩, ⟨.ldi (.t 0) none, none, false⟩, ⟨.len (.t 0), none, false⟩, ⟨.mks (.t 0) (.t 0) [.int 0] none, none, false⟩, ⟨.mv (.t 0), none, false⟩, ⟨.mv (.c (.int (1))), none, false⟩], [(5, 1), (7, 0)], [], none⟩
abbrev r_minimize_refine_2 : Reg := ⟨[⟨.mv (.v 1), none, false⟩, ⟨.mx true (.t 0) (.c (.int (0))), none, false⟩, ⟨.fad (.v 2) 2 none, none, false⟩, ⟨.ldi (.t 0) none, none, false⟩, ⟨.len (.t 0), none, false⟩, ⟨.mx false (.t 3) (.t 0), none, false⟩, ⟨.mv (.c (.int (0))), none, false⟩], [(4, 1), (3, 0)], [], none⟩
abbrev r_minimize_refine_3 : Reg := ⟨[⟨.bin .lss (.v 3) (.v 4), none, false⟩], [], [], some (22, 0)⟩
abbrev r_minimize_refine_4 : Reg := ⟨[⟨.mv (.v 3), none, false⟩, ⟨.mv (.t 0), none, false⟩], [(8, 0)], [], none⟩
abbrev r_minimize_refine_5 : Reg := ⟨[⟨.ldi (.v 2) (some 4), none, false⟩, ⟨.mv (.v 5), none, false⟩, ⟨.cab F_minimize_next [(.t 1), (.t 0)], none, false⟩, ⟨.mv (.t 0), none, false⟩, ⟨.ext (.t 0) 0, none, false⟩, ⟨.ext (.t 1) 1, none, false⟩, ⟨.mv (.t 1), none, false⟩, ⟨.mv (.t 1), none, false⟩], [(9, 1), (6, 0)], [], none⟩
abbrev r_minimize_refine_6 : Reg := ⟨[⟨.mv (.v 6), none, false⟩, ⟨.mv (.v 7), none, false⟩, ⟨.bin .eql (.t 1) (.t 0), none, false⟩], [], [7], some (32, 0)⟩
abbrev r_minimize_refine_7 : Reg := ⟨[⟨.mv (.v 5), none, false⟩, ⟨.mv (.v 8), none, false⟩, ⟨.mv (.t 1), none, false⟩, ⟨.mv (.t 1), none, false⟩], [(10, 1), (11, 0)], [1, 2, 3, 4, 5, 6, 8, 9], none⟩
abbrev r_minimize_refine_8 : Reg := ⟨[⟨.mv (.v 9), none, false⟩, ⟨.mv (.v 6), none, false⟩, ⟨.mv (.t 1), none, false⟩, ⟨.mv (.t 1), none, false⟩], [(5, 1), (7, 0)], [6, 8, 9], none⟩
abbrev r_minimize_refine_9 : Reg := ⟨[⟨.bin .add (.v 3) (.c (.int (1))), none, false⟩, ⟨.mv (.t 0), none, false⟩], [(3, 0)], [], none⟩
abbrev b_minimize_refine_0 : IC := (.seq (.reg r_minimize_refine_3)
 (.seq (.cond 22 .skip (.exit 0))
 (.seq (.block 1 (.seq (.reg r_minimize_refine_4)
 (.seq (.reg r_minimize_refine_5)
 (.seq (.seq (.reg r_minimize_refine_6)
 (.cond 32 (.seq (.reg r_minimize_refine_7)
 .ret) .skip))
 (.reg r_minimize_refine_8)))))
 (.reg r_minimize_refine_9))))
abbrev r_minimize_refine_10 : Reg := ⟨[⟨.mv (.v 5), none, false⟩, ⟨.mv (.v 1), none, false⟩, ⟨.mx true (.t 0) (.c (.int (0))), none, false⟩, ⟨.fad (.v 2) 2 none, none, false⟩, ⟨.ldi (.t 0) none, none, false⟩, ⟨.len (.t 0), none, false⟩, ⟨.mx false (.t 3) (.t 0), none, false⟩, ⟨.mv (.t 6), none, false⟩, ⟨.mv (.t 1), none, false⟩], [(10, 1), (11, 0)], [1, 2, 3, 4, 5, 7], none⟩
abbrev ir_minimize_refine : Fn := { np := 2, nv := 12, res := [(10, none), (11, none)], body :=
(.seq (.reg r_minimize_refine_0)
 (.seq (.reg r_minimize_refine_1)
 (.seq (.seq (.reg r_minimize_refine_2)
 (.block 0 (.loop b_minimize_refine_0)))
 (.seq (.reg r_minimize_refine_10)
 .ret)))) }
/- f83 minimize_next : 0:m 1:class 2:_ 3:_ 4:m 5:_ 6:_ 7:a 8:s 9:x 10:numbers 11:ok 12:n 13:out 14:_ 15:_ -/
abbrev r_minimize_next_0 : Reg := ⟨[⟨.bxi (.v 0), none, false⟩, ⟨.mv (.c (.snil)), none, false⟩, ⟨.mv (.c (.int (0))), none, false⟩], [(4, 2)], [0, 14, 15], none⟩
abbrev r_minimize_next_1 : Reg := ⟨[⟨.mkm, none, false⟩, ⟨.mv (.t 0), none, false⟩], [(10, 0)], [], none⟩
abbrev r_minimize_next_2 : Reg := ⟨[⟨.mv (.v 1), none, false⟩, ⟨.len (.t 0), none, false⟩, ⟨.mks (.t 0) (.t 0) [.int 0] none, none, false⟩, ⟨.mv (.t 0), none, false⟩], [(13, 0)], [], none⟩
abbrev r_minimize_next_3 : Reg := ⟨[⟨.mv (.v 1), none, false⟩, ⟨.len (.t 0), none, false⟩, ⟨.mv (.c (.int (0))), none, false⟩], [(3, 1), (2, 0)], [], none⟩
abbrev r_minimize_next_4 : Reg := ⟨[⟨.bin .lss (.v 2) (.v 3), none, false⟩], [], [], some (20, 0)⟩
abbrev r_minimize_next_5 : Reg := ⟨[⟨.mv (.v 2), none, false⟩, ⟨.mv (.t 0), none, false⟩], [(8, 0)], [], none⟩
abbrev r_minimize_next_6 : Reg := ⟨[⟨.alc [.int 0, .int 0, .int 0, .int 0, .int 0, .int 0, .int 0, .int 0, .int 0, .int 0, .int 0, .int 0, .int 0, .int 0, .int 0, .int 0, .int 0, .int 0, .int 0, .int 0, .int 0, .int 0, .int 0, .int 0, .int 0, .int 0, .int 0, .int 0, .int 0, .int 0, .int 0, .int 0, .int 0, .int 0, .int 0, .int 0, .int 0, .int 0, .int 0, .int 0, .int 0, .int 0, .int 0, .int 0, .int 0, .int 0, .int 0, .int 0, .int 0, .int 0, .int 0, .int 0, .int 0, .int 0, .int 0, .int 0, .int 0, .int 0, .int 0, .int 0, .int 0, .int 0, .int 0, .int 0, .int 0, .int 0, .int 0, .int 0, .int 0, .int 0, .int 0, .int 0, .int 0, .int 0, .int 0, .int 0, .int 0, .int 0, .int 0, .int 0, .int 0, .int 0, .int 0, .int 0, .int 0, .int 0, .int 0, .int 0, .int 0, .int 0, .int 0, .int 0, .int 0, .int 0, .int 0, .int 0, .int 0, .int 0, .int 0, .int 0, .int 0, .int 0, .int 0, .int 0, .int 0, .int 0, .int 0, .int 0, .int 0, .int 0, .int 0, .int 0, .int 0, .int 0, .int 0, .int 0, .int 0, .int 0, .int 0, .int 0, .int 0, .int 0, .int 0, .int 0, .int 0, .int 0, .int 0, .int 0] (some 128), none, false⟩], [(9, 0)], [], none⟩
abbrev r_minimize_next_7 : Reg := ⟨[⟨.fad (.v 4) 0 none, none, false⟩, ⟨.ldi (.t 0) none, none, false⟩, ⟨.mv (.c (.int (0))), none, false⟩], [(6, 1), (5, 0)], [], none⟩
abbrev r_minimize_next_8 : Reg := ⟨[⟨.bin .lss (.v 5) (.v 6), none, false⟩], [], [], some (25, 0)⟩
abbrev r_minimize_next_9 : Reg := ⟨[⟨.mv (.v 5), none, false⟩, ⟨.mv (.t 0), none, false⟩], [(7, 0)], [], none⟩
abbrev r_minimize_next_10 : Reg := ⟨[⟨.mv (.v 7), none, false⟩, ⟨.fad (.v 4) 3 none, none, false⟩, ⟨.ldi (.t 0) none, none, false⟩, ⟨.mv (.v 8), none, false⟩, ⟨.iad (.t 1) (.t 0) 1, none, false⟩, ⟨.ldi (.t 0) none, none, false⟩, ⟨.mv (.v 7), none, false⟩, ⟨.iad (.t 1) (.t 0) 1, none, false⟩, ⟨.ldi (.t 0) none, none, false⟩, ⟨.iada (.v 9) (.t 8) 128 none, none, false⟩, ⟨.st (.t 0) (.t 1) 1, none, false⟩], [], [], none⟩
abbrev r_minimize_next_11 : Reg := ⟨[⟨.mv (.v 7), none, false⟩, ⟨.bin .add (.c (.int (64))) (.t 0), none, false⟩, ⟨.mv (.v 1), none, false⟩, ⟨.fad (.v 4) 2 none, none, false⟩, ⟨.ldi (.t 0) none, none, false⟩, ⟨.mv (.v 8), none, false⟩, ⟨.iad (.t 1) (.t 0) 1, none, false⟩, ⟨.ldi (.t 0) none, none, false⟩, ⟨.mv (.v 7), none, false⟩, ⟨.iad (.t 1) (.t 0) 1, none, false⟩, ⟨.ldi (.t 0) none, none, false⟩, ⟨.iad (.t 8) (.t 0) 1, none, false⟩, ⟨.ld (.t 0) none, none, false⟩, ⟨.iada (.v 9) (.t 11) 128 none, none, false⟩, ⟨.st (.t 0) (.t 1) 1, none, false⟩], [], [7], none⟩
abbrev r_minimize_next_12 : Reg := ⟨[⟨.bin .add (.v 5) (.c (.int (1))), none, false⟩, ⟨.mv (.t 0), none, false⟩], [(5, 0)], [], none⟩
abbrev b_minimize_next_2 : IC := (.lex (.seq (.reg r_minimize_next_8)
 (.seq (.cond 25 .skip (.exit 2))
 (.seq (.block 3 (.seq (.reg r_minimize_next_9)
 (.seq (.reg r_minimize_next_10)
 (.reg r_minimize_next_11))))
 (.reg r_minimize_next_12)))))
abbrev r_minimize_next_13 : Reg := ⟨[⟨.mv (.v 10), none, false⟩, ⟨.ld (.v 9) (some 128), none, false⟩, ⟨.mlk (.t 1) 130 (.t 0) (.int 0) true, none, false⟩, ⟨.mv (.t 0), none, false⟩, ⟨.ext (.t 0) 0, none, false⟩, ⟨.ext (.t 1) 1, none, false⟩, ⟨.mv (.t 1), none, false⟩, ⟨.mv (.t 1), none, false⟩], [(12, 1), (11, 0)], [5, 6], none⟩
abbrev r_minimize_next_14 : Reg := ⟨[⟨.mv (.v 11), none, false⟩, ⟨.not (.t 0), none, false⟩], [], [11], some (59, 0)⟩
abbrev r_minimize_next_15 : Reg := ⟨[⟨.mv (.v 10), none, false⟩, ⟨.mln (.t 0), none, false⟩, ⟨.mv (.t 0), none, false⟩], [(12, 0)], [], none⟩
abbrev r_minimize_next_16 : Reg := ⟨[⟨.mv (.v 10), none, false⟩, ⟨.ld (.v 9) (some 128), none, false⟩, ⟨.mv (.v 12), none, false⟩, ⟨.mup (.t 2) 130 (.t 1) (.t 0), none, false⟩], [], [9], none⟩
abbrev r_minimize_next_17 : Reg := ⟨[⟨.mv (.v 13), none, false⟩, ⟨.mv (.v 8), none, false⟩, ⟨.mv (.v 12), none, false⟩, ⟨.iad (.t 2) (.t 1) 1, none, false⟩, ⟨.st (.t 0) (.t 1) 1, none, false⟩], [], [8, 9, 12], none⟩
abbrev r_minimize_next_18 : Reg := ⟨[⟨.bin .add (.v 2) (.c (.int (1))), none, false⟩, ⟨.mv (.t 0), none, false⟩], [(2, 0)], [], none⟩
abbrev b_minimize_next_0 : IC := (.lex (.seq (.reg r_minimize_next_4)
 (.seq (.cond 20 .skip (.exit 0))
 (.seq (.block 1 (.seq (.reg r_minimize_next_5)
 (.seq (.reg r_minimize_next_6)
 (.seq (.seq (.reg r_minimize_next_7)
 (.block 2 (.loop b_minimize_next_2)))
 (.seq (.reg r_minimize_next_13)
 (.seq (.seq (.reg r_minimize_next_14)
 (.cond 59 (.seq (.reg r_minimize_next_15)
 (.reg r_minimize_next_16)) .skip))
 (.reg r_minimize_next_17)))))))
 (.reg r_minimize_next_18)))))
abbrev r_minimize_next_19 : Reg := ⟨[⟨.mv (.v 13), none, false⟩, ⟨.mv (.v 10), none, false⟩, ⟨.mln (.t 0), none, false⟩, ⟨.mv (.t 2), none, false⟩, ⟨.mv (.t 1), none, false⟩], [(14, 1), (15, 0)], [1, 2, 3, 4, 10, 13], none⟩
abbrev ir_minimize_next : Fn := { np := 2, nv := 16, res := [(14, none), (15, none)], body :=
(.seq (.reg r_minimize_next_0)
 (.seq (.reg r_minimize_next_1)
 (.seq (.reg r_minimize_next_2)
 (.seq (.seq (.reg r_minimize_next_3)
 (.block 0 (.loop b_minimize_next_0)))
 (.seq (.reg r_minimize_next_19)
 .ret))))) }
end Ab
