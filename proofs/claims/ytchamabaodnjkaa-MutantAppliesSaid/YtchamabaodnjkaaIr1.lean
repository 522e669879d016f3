/- The functions of the program as small texts, printed by a tool of mine. Condition: none. -/
import Derived.Test.YtchamabaodnjkaaIr0
set_option linter.all false
namespace Ab
/- f67 cmp_Less_int : 0:x 1:y 2:_ -/
abbrev r_cmp_Less_int_0 : Reg := ⟨[⟨.mv (.c (.bool false)), none, false⟩], [], [2], none⟩
abbrev r_cmp_Less_int_1 : Reg := ⟨[⟨.mv (.v 0), none, false⟩, ⟨.cal F_cmp_isNaN_int [(.t 0)], none, false⟩, ⟨.mv (.t 0), none, false⟩, ⟨.mv (.v 1), some (.t 0, true), false⟩, ⟨.cal F_cmp_isNaN_int [(.t 0)], some (.t 1, true), false⟩, ⟨.not (.t 0), some (.t 2, true), false⟩, ⟨.pick (.t 3) (.t 0) (.c (.bool false)), none, false⟩, ⟨.mv (.t 0), none, false⟩, ⟨.mv (.v 0), some (.t 0, false), false⟩, ⟨.mv (.v 1), some (.t 1, false), false⟩, ⟨.bin .lss (.t 1) (.t 0), some (.t 2, false), false⟩, ⟨.pick (.t 3) (.c (.bool true)) (.t 0), none, false⟩, ⟨.mv (.t 0), none, false⟩], [(2, 0)], [0, 1], none⟩
abbrev ir_cmp_Less_int : Fn := { np := 2, nv := 3, res := [(2, none)], body :=
(.seq (.reg r_cmp_Less_int_0)
 (.seq (.reg r_cmp_Less_int_1)
 .ret)) }
/- f68 slices_partitionEqualOrdered_int : 0:data 1:a 2:b 3:pivot 4:i 5:j 6:newpivot -/
abbrev r_slices_partitionEqualOrdered_int_0 : Reg := ⟨[⟨.mv (.c (.int (0))), none, false⟩], [], [6], none⟩
abbrev r_slices_partitionEqualOrdered_int_1 : Reg := ⟨[⟨.mv (.v 0), none, false⟩, ⟨.mv (.v 1), none, false⟩, ⟨.mv (.v 0), none, false⟩, ⟨.mv (.v 3), none, false⟩, ⟨.mv (.v 0), none, false⟩, ⟨.mv (.v 3), none, false⟩, ⟨.iad (.t 1) (.t 0) 1, none, false⟩, ⟨.ld (.t 0) none, none, false⟩, ⟨.mv (.v 0), none, false⟩, ⟨.mv (.v 1), none, false⟩, ⟨.iad (.t 1) (.t 0) 1, none, false⟩, ⟨.ld (.t 0) none, none, false⟩, ⟨.iad (.t 11) (.t 10) 1, none, false⟩, ⟨.st (.t 0) (.t 5) 1, none, false⟩, ⟨.iad (.t 11) (.t 10) 1, none, false⟩, ⟨.st (.t 0) (.t 3) 1, none, false⟩], [], [3], none⟩
abbrev r_slices_partitionEqualOrdered_int_2 : Reg := ⟨[⟨.mv (.v 1), none, false⟩, ⟨.bin .add (.t 0) (.c (.int (1))), none, false⟩, ⟨.mv (.v 2), none, false⟩, ⟨.bin .sub (.t 0) (.c (.int (1))), none, false⟩, ⟨.mv (.t 2), none, false⟩, ⟨.mv (.t 1), none, false⟩], [(4, 1), (5, 0)], [2], none⟩
abbrev r_slices_partitionEqualOrdered_int_3 : Reg := ⟨[⟨.mv (.v 4), none, false⟩, ⟨.mv (.v 5), none, false⟩, ⟨.bin .leq (.t 1) (.t 0), none, false⟩, ⟨.mv (.t 0), none, false⟩, ⟨.mv (.v 0), some (.t 0, true), false⟩, ⟨.mv (.v 1), some (.t 1, true), false⟩, ⟨.iad (.t 1) (.t 0) 1, some (.t 2, true), false⟩, ⟨.ld (.t 0) none, some (.t 3, true), false⟩, ⟨.mv (.v 0), some (.t 4, true), false⟩, ⟨.mv (.v 4), some (.t 5, true), false⟩, ⟨.iad (.t 1) (.t 0) 1, some (.t 6, true), false⟩, ⟨.ld (.t 0) none, some (.t 7, true), false⟩, ⟨.cal F_cmp_Less_int [(.t 4), (.t 0)], some (.t 8, true), false⟩, ⟨.not (.t 0), some (.t 9, true), false⟩, ⟨.pick (.t 10) (.t 0) (.c (.bool false)), none, false⟩], [], [], some (43, 0)⟩
abbrev r_slices_partitionEqualOrdered_int_4 : Reg := ⟨[⟨.mv (.v 4), none, false⟩, ⟨.bin .add (.t 0) (.c (.int (1))), none, false⟩, ⟨.mv (.t 0), none, false⟩], [(4, 0)], [], none⟩
abbrev b_slices_partitionEqualOrdered_int_2 : IC := (.seq (.seq (.reg r_slices_partitionEqualOrdered_int_3)
 (.cond 43 .skip (.exit 2)))
 (.block 3 (.reg r_slices_partitionEqualOrdered_int_4)))
abbrev r_slices_partitionEqualOrdered_int_5 : Reg := ⟨[⟨.mv (.v 4), none, false⟩, ⟨.mv (.v 5), none, false⟩, ⟨.bin .leq (.t 1) (.t 0), none, false⟩, ⟨.mv (.t 0), none, false⟩, ⟨.mv (.v 0), some (.t 0, true), false⟩, ⟨.mv (.v 1), some (.t 1, true), false⟩, ⟨.iad (.t 1) (.t 0) 1, some (.t 2, true), false⟩, ⟨.ld (.t 0) none, some (.t 3, true), false⟩, ⟨.mv (.v 0), some (.t 4, true), false⟩, ⟨.mv (.v 5), some (.t 5, true), false⟩, ⟨.iad (.t 1) (.t 0) 1, some (.t 6, true), false⟩, ⟨.ld (.t 0) none, some (.t 7, true), false⟩, ⟨.cal F_cmp_Less_int [(.t 4), (.t 0)], some (.t 8, true), false⟩, ⟨.pick (.t 9) (.t 0) (.c (.bool false)), none, false⟩], [], [], some (59, 0)⟩
abbrev r_slices_partitionEqualOrdered_int_6 : Reg := ⟨[⟨.mv (.v 5), none, false⟩, ⟨.bin .sub (.t 0) (.c (.int (1))), none, false⟩, ⟨.mv (.t 0), none, false⟩], [(5, 0)], [], none⟩
abbrev b_slices_partitionEqualOrdered_int_4 : IC := (.seq (.seq (.reg r_slices_partitionEqualOrdered_int_5)
 (.cond 59 .skip (.exit 4)))
 (.block 5 (.reg r_slices_partitionEqualOrdered_int_6)))
abbrev r_slices_partitionEqualOrdered_int_7 : Reg := ⟨[⟨.mv (.v 4), none, false⟩, ⟨.mv (.v 5), none, false⟩, ⟨.bin .gtr (.t 1) (.t 0), none, false⟩], [], [], some (64, 0)⟩
abbrev r_slices_partitionEqualOrdered_int_8 : Reg := ⟨[⟨.mv (.v 0), none, false⟩, ⟨.mv (.v 4), none, false⟩, ⟨.mv (.v 0), none, false⟩, ⟨.mv (.v 5), none, false⟩, ⟨.mv (.v 0), none, false⟩, ⟨.mv (.v 5), none, false⟩, ⟨.iad (.t 1) (.t 0) 1, none, false⟩, ⟨.ld (.t 0) none, none, false⟩, ⟨.mv (.v 0), none, false⟩, ⟨.mv (.v 4), none, false⟩, ⟨.iad (.t 1) (.t 0) 1, none, false⟩, ⟨.ld (.t 0) none, none, false⟩, ⟨.iad (.t 11) (.t 10) 1, none, false⟩, ⟨.st (.t 0) (.t 5) 1, none, false⟩, ⟨.iad (.t 11) (.t 10) 1, none, false⟩, ⟨.st (.t 0) (.t 3) 1, none, false⟩], [], [], none⟩
abbrev r_slices_partitionEqualOrdered_int_9 : Reg := ⟨[⟨.mv (.v 4), none, false⟩, ⟨.bin .add (.t 0) (.c (.int (1))), none, false⟩, ⟨.mv (.t 0), none, false⟩], [(4, 0)], [], none⟩
abbrev r_slices_partitionEqualOrdered_int_10 : Reg := ⟨[⟨.mv (.v 5), none, false⟩, ⟨.bin .sub (.t 0) (.c (.int (1))), none, false⟩, ⟨.mv (.t 0), none, false⟩], [(5, 0)], [], none⟩
abbrev b_slices_partitionEqualOrdered_int_0 : IC := (.block 1 (.seq (.block 2 (.loop b_slices_partitionEqualOrdered_int_2))
 (.seq (.block 4 (.loop b_slices_partitionEqualOrdered_int_4))
 (.seq (.seq (.reg r_slices_partitionEqualOrdered_int_7)
 (.cond 64 (.exit 0) .skip))
 (.seq (.reg r_slices_partitionEqualOrdered_int_8)
 (.seq (.reg r_slices_partitionEqualOrdered_int_9)
 (.reg r_slices_partitionEqualOrdered_int_10)))))))
abbrev r_slices_partitionEqualOrdered_int_11 : Reg := ⟨[⟨.mv (.v 4), none, false⟩, ⟨.mv (.t 0), none, false⟩], [(6, 0)], [0, 1, 4, 5], none⟩
abbrev ir_slices_partitionEqualOrdered_int : Fn := { np := 4, nv := 7, res := [(6, none)], body :=
(.seq (.reg r_slices_partitionEqualOrdered_int_0)
 (.seq (.reg r_slices_partitionEqualOrdered_int_1)
 (.seq (.reg r_slices_partitionEqualOrdered_int_2)
 (.seq (.block 0 (.loop b_slices_partitionEqualOrdered_int_0))
 (.seq (.reg r_slices_partitionEqualOrdered_int_11)
 .ret))))) }
/- f69 slices_partitionOrdered_int : 0:data 1:a 2:b 3:pivot 4:i 5:j 6:newpivot 7:alreadyPartitioned -/
abbrev r_slices_partitionOrdered_int_0 : Reg := ⟨[⟨.mv (.c (.int (0))), none, false⟩, ⟨.mv (.c (.bool false)), none, false⟩], [], [6, 7], none⟩
abbrev r_slices_partitionOrdered_int_1 : Reg := ⟨[⟨.mv (.v 0), none, false⟩, ⟨.mv (.v 1), none, false⟩, ⟨.mv (.v 0), none, false⟩, ⟨.mv (.v 3), none, false⟩, ⟨.mv (.v 0), none, false⟩, ⟨.mv (.v 3), none, false⟩, ⟨.iad (.t 1) (.t 0) 1, none, false⟩, ⟨.ld (.t 0) none, none, false⟩, ⟨.mv (.v 0), none, false⟩, ⟨.mv (.v 1), none, false⟩, ⟨.iad (.t 1) (.t 0) 1, none, false⟩, ⟨.ld (.t 0) none, none, false⟩, ⟨.iad (.t 11) (.t 10) 1, none, false⟩, ⟨.st (.t 0) (.t 5) 1, none, false⟩, ⟨.iad (.t 11) (.t 10) 1, none, false⟩, ⟨.st (.t 0) (.t 3) 1, none, false⟩], [], [3], none⟩
abbrev r_slices_partitionOrdered_int_2 : Reg := ⟨[⟨.mv (.v 1), none, false⟩, ⟨.bin .add (.t 0) (.c (.int (1))), none, false⟩, ⟨.mv (.v 2), none, false⟩, ⟨.bin .sub (.t 0) (.c (.int (1))), none, false⟩, ⟨.mv (.t 2), none, false⟩, ⟨.mv (.t 1), none, false⟩], [(4, 1), (5, 0)], [2], none⟩
abbrev r_slices_partitionOrdered_int_3 : Reg := ⟨[⟨.mv (.v 4), none, false⟩, ⟨.mv (.v 5), none, false⟩, ⟨.bin .leq (.t 1) (.t 0), none, false⟩, ⟨.mv (.t 0), none, false⟩, ⟨.mv (.v 0), some (.t 0, true), false⟩, ⟨.mv (.v 4), some (.t 1, true), false⟩, ⟨.iad (.t 1) (.t 0) 1, some (.t 2, true), false⟩, ⟨.ld (.t 0) none, some (.t 3, true), false⟩, ⟨.mv (.v 0), some (.t 4, true), false⟩, ⟨.mv (.v 1), some (.t 5, true), false⟩, ⟨.iad (.t 1) (.t 0) 1, some (.t 6, true), false⟩, ⟨.ld (.t 0) none, some (.t 7, true), false⟩, ⟨.cal F_cmp_Less_int [(.t 4), (.t 0)], some (.t 8, true), false⟩, ⟨.pick (.t 9) (.t 0) (.c (.bool false)), none, false⟩], [], [], some (43, 0)⟩
abbrev r_slices_partitionOrdered_int_4 : Reg := ⟨[⟨.mv (.v 4), none, false⟩, ⟨.bin .add (.t 0) (.c (.int (1))), none, false⟩, ⟨.mv (.t 0), none, false⟩], [(4, 0)], [], none⟩
abbrev b_slices_partitionOrdered_int_0 : IC := (.seq (.seq (.reg r_slices_partitionOrdered_int_3)
 (.cond 43 .skip (.exit 0)))
 (.block 1 (.reg r_slices_partitionOrdered_int_4)))
abbrev r_slices_partitionOrdered_int_5 : Reg := ⟨[⟨.mv (.v 4), none, false⟩, ⟨.mv (.v 5), none, false⟩, ⟨.bin .leq (.t 1) (.t 0), none, false⟩, ⟨.mv (.t 0), none, false⟩, ⟨.mv (.v 0), some (.t 0, true), false⟩, ⟨.mv (.v 5), some (.t 1, true), false⟩, ⟨.iad (.t 1) (.t 0) 1, some (.t 2, true), false⟩, ⟨.ld (.t 0) none, some (.t 3, true), false⟩, ⟨.mv (.v 0), some (.t 4, true), false⟩, ⟨.mv (.v 1), some (.t 5, true), false⟩, ⟨.iad (.t 1) (.t 0) 1, some (.t 6, true), false⟩, ⟨.ld (.t 0) none, some (.t 7, true), false⟩, ⟨.cal F_cmp_Less_int [(.t 4), (.t 0)], some (.t 8, true), false⟩, ⟨.not (.t 0), some (.t 9, true), false⟩, ⟨.pick (.t 10) (.t 0) (.c (.bool false)), none, false⟩], [], [], some (60, 0)⟩
abbrev r_slices_partitionOrdered_int_6 : Reg := ⟨[⟨.mv (.v 5), none, false⟩, ⟨.bin .sub (.t 0) (.c (.int (1))), none, false⟩, ⟨.mv (.t 0), none, false⟩], [(5, 0)], [], none⟩
abbrev b_slices_partitionOrdered_int_2 : IC := (.seq (.seq (.reg r_slices_partitionOrdered_int_5)
 (.cond 60 .skip (.exit 2)))
 (.block 3 (.reg r_slices_partitionOrdered_int_6)))
abbrev r_slices_partitionOrdered_int_7 : Reg := ⟨[⟨.mv (.v 4), none, false⟩, ⟨.mv (.v 5), none, false⟩, ⟨.bin .gtr (.t 1) (.t 0), none, false⟩], [], [], some (65, 0)⟩
abbrev r_slices_partitionOrdered_int_8 : Reg := ⟨[⟨.mv (.v 0), none, false⟩, ⟨.mv (.v 5), none, false⟩, ⟨.mv (.v 0), none, false⟩, ⟨.mv (.v 1), none, false⟩, ⟨.mv (.v 0), none, false⟩, ⟨.mv (.v 1), none, false⟩, ⟨.iad (.t 1) (.t 0) 1, none, false⟩, ⟨.ld (.t 0) none, none, false⟩, ⟨.mv (.v 0), none, false⟩, ⟨.mv (.v 5), none, false⟩, ⟨.iad (.t 1) (.t 0) 1, none, false⟩, ⟨.ld (.t 0) none, none, false⟩, ⟨.iad (.t 11) (.t 10) 1, none, false⟩, ⟨.st (.t 0) (.t 5) 1, none, false⟩, ⟨.iad (.t 11) (.t 10) 1, none, false⟩, ⟨.st (.t 0) (.t 3) 1, none, false⟩], [], [0, 1, 4], none⟩
abbrev r_slices_partitionOrdered_int_9 : Reg := ⟨[⟨.mv (.v 5), none, false⟩, ⟨.mv (.t 0), none, false⟩, ⟨.mv (.c (.bool true)), none, false⟩], [(6, 1), (7, 0)], [5], none⟩
abbrev r_slices_partitionOrdered_int_10 : Reg := ⟨[⟨.mv (.v 0), none, false⟩, ⟨.mv (.v 4), none, false⟩, ⟨.mv (.v 0), none, false⟩, ⟨.mv (.v 5), none, false⟩, ⟨.mv (.v 0), none, false⟩, ⟨.mv (.v 5), none, false⟩, ⟨.iad (.t 1) (.t 0) 1, none, false⟩, ⟨.ld (.t 0) none, none, false⟩, ⟨.mv (.v 0), none, false⟩, ⟨.mv (.v 4), none, false⟩, ⟨.iad (.t 1) (.t 0) 1, none, false⟩, ⟨.ld (.t 0) none, none, false⟩, ⟨.iad (.t 11) (.t 10) 1, none, false⟩, ⟨.st (.t 0) (.t 5) 1, none, false⟩, ⟨.iad (.t 11) (.t 10) 1, none, false⟩, ⟨.st (.t 0) (.t 3) 1, none, false⟩], [], [], none⟩
abbrev r_slices_partitionOrdered_int_11 : Reg := ⟨[⟨.mv (.v 4), none, false⟩, ⟨.bin .add (.t 0) (.c (.int (1))), none, false⟩, ⟨.mv (.t 0), none, false⟩], [(4, 0)], [], none⟩
abbrev r_slices_partitionOrdered_int_12 : Reg := ⟨[⟨.mv (.v 5), none, false⟩, ⟨.bin .sub (.t 0) (.c (.int (1))), none, false⟩, ⟨.mv (.t 0), none, false⟩], [(5, 0)], [], none⟩
abbrev r_slices_partitionOrdered_int_13 : Reg := ⟨[⟨.mv (.v 4), none, false⟩, ⟨.mv (.v 5), none, false⟩, ⟨.bin .leq (.t 1) (.t 0), none, false⟩, ⟨.mv (.t 0), none, false⟩, ⟨.mv (.v 0), some (.t 0, true), false⟩, ⟨.mv (.v 4), some (.t 1, true), false⟩, ⟨.iad (.t 1) (.t 0) 1, some (.t 2, true), false⟩, ⟨.ld (.t 0) none, some (.t 3, true), false⟩, ⟨.mv (.v 0), some (.t 4, true), false⟩, ⟨.mv (.v 1), some (.t 5, true), false⟩, ⟨.iad (.t 1) (.t 0) 1, some (.t 6, true), false⟩, ⟨.ld (.t 0) none, some (.t 7, true), false⟩, ⟨.cal F_cmp_Less_int [(.t 4), (.t 0)], some (.t 8, true), false⟩, ⟨.pick (.t 9) (.t 0) (.c (.bool false)), none, false⟩], [], [], some (112, 0)⟩
abbrev r_slices_partitionOrdered_int_14 : Reg := ⟨[⟨.mv (.v 4), none, false⟩, ⟨.bin .add (.t 0) (.c (.int (1))), none, false⟩, ⟨.mv (.t 0), none, false⟩], [(4, 0)], [], none⟩
abbrev b_slices_partitionOrdered_int_6 : IC := (.seq (.seq (.reg r_slices_partitionOrdered_int_13)
 (.cond 112 .skip (.exit 6)))
 (.block 7 (.reg r_slices_partitionOrdered_int_14)))
abbrev r_slices_partitionOrdered_int_15 : Reg := ⟨[⟨.mv (.v 4), none, false⟩, ⟨.mv (.v 5), none, false⟩, ⟨.bin .leq (.t 1) (.t 0), none, false⟩, ⟨.mv (.t 0), none, false⟩, ⟨.mv (.v 0), some (.t 0, true), false⟩, ⟨.mv (.v 5), some (.t 1, true), false⟩, ⟨.iad (.t 1) (.t 0) 1, some (.t 2, true), false⟩, ⟨.ld (.t 0) none, some (.t 3, true), false⟩, ⟨.mv (.v 0), some (.t 4, true), false⟩, ⟨.mv (.v 1), some (.t 5, true), false⟩, ⟨.iad (.t 1) (.t 0) 1, some (.t 6, true), false⟩, ⟨.ld (.t 0) none, some (.t 7, true), false⟩, ⟨.cal F_cmp_Less_int [(.t 4), (.t 0)], some (.t 8, true), false⟩, ⟨.not (.t 0), some (.t 9, true), false⟩, ⟨.pick (.t 10) (.t 0) (.c (.bool false)), none, false⟩], [], [], some (129, 0)⟩
abbrev r_slices_partitionOrdered_int_16 : Reg := ⟨[⟨.mv (.v 5), none, false⟩, ⟨.bin .sub (.t 0) (.c (.int (1))), none, false⟩, ⟨.mv (.t 0), none, false⟩], [(5, 0)], [], none⟩
abbrev b_slices_partitionOrdered_int_8 : IC := (.seq (.seq (.reg r_slices_partitionOrdered_int_15)
 (.cond 129 .skip (.exit 8)))
 (.block 9 (.reg r_slices_partitionOrdered_int_16)))
abbrev r_slices_partitionOrdered_int_17 : Reg := ⟨[⟨.mv (.v 4), none, false⟩, ⟨.mv (.v 5), none, false⟩, ⟨.bin .gtr (.t 1) (.t 0), none, false⟩], [], [], some (134, 0)⟩
abbrev r_slices_partitionOrdered_int_18 : Reg := ⟨[⟨.mv (.v 0), none, false⟩, ⟨.mv (.v 4), none, false⟩, ⟨.mv (.v 0), none, false⟩, ⟨.mv (.v 5), none, false⟩, ⟨.mv (.v 0), none, false⟩, ⟨.mv (.v 5), none, false⟩, ⟨.iad (.t 1) (.t 0) 1, none, false⟩, ⟨.ld (.t 0) none, none, false⟩, ⟨.mv (.v 0), none, false⟩, ⟨.mv (.v 4), none, false⟩, ⟨.iad (.t 1) (.t 0) 1, none, false⟩, ⟨.ld (.t 0) none, none, false⟩, ⟨.iad (.t 11) (.t 10) 1, none, false⟩, ⟨.st (.t 0) (.t 5) 1, none, false⟩, ⟨.iad (.t 11) (.t 10) 1, none, false⟩, ⟨.st (.t 0) (.t 3) 1, none, false⟩], [], [], none⟩
abbrev r_slices_partitionOrdered_int_19 : Reg := ⟨[⟨.mv (.v 4), none, false⟩, ⟨.bin .add (.t 0) (.c (.int (1))), none, false⟩, ⟨.mv (.t 0), none, false⟩], [(4, 0)], [], none⟩
abbrev r_slices_partitionOrdered_int_20 : Reg := ⟨[⟨.mv (.v 5), none, false⟩, ⟨.bin .sub (.t 0) (.c (.int (1))), none, false⟩, ⟨.mv (.t 0), none, false⟩], [(5, 0)], [], none⟩
abbrev b_slices_partitionOrdered_int_4 : IC := (.block 5 (.seq (.block 6 (.loop b_slices_partitionOrdered_int_6))
 (.seq (.block 8 (.loop b_slices_partitionOrdered_int_8))
 (.seq (.seq (.reg r_slices_partitionOrdered_int_17)
 (.cond 134 (.exit 4) .skip))
 (.seq (.reg r_slices_partitionOrdered_int_18)
 (.seq (.reg r_slices_partitionOrdered_int_19)
 (.reg r_slices_partitionOrdered_int_20)))))))
abbrev r_slices_partitionOrdered_int_21 : Reg := ⟨[⟨.mv (.v 0), none, false⟩, ⟨.mv (.v 5), none, false⟩, ⟨.mv (.v 0), none, false⟩, ⟨.mv (.v 1), none, false⟩, ⟨.mv (.v 0), none, false⟩, ⟨.mv (.v 1), none, false⟩, ⟨.iad (.t 1) (.t 0) 1, none, false⟩, ⟨.ld (.t 0) none, none, false⟩, ⟨.mv (.v 0), none, false⟩, ⟨.mv (.v 5), none, false⟩, ⟨.iad (.t 1) (.t 0) 1, none, false⟩, ⟨.ld (.t 0) none, none, false⟩, ⟨.iad (.t 11) (.t 10) 1, none, false⟩, ⟨.st (.t 0) (.t 5) 1, none, false⟩, ⟨.iad (.t 11) (.t 10) 1, none, false⟩, ⟨.st (.t 0) (.t 3) 1, none, false⟩], [], [0, 1, 4], none⟩
abbrev r_slices_partitionOrdered_int_22 : Reg := ⟨[⟨.mv (.v 5), none, false⟩, ⟨.mv (.t 0), none, false⟩, ⟨.mv (.c (.bool false)), none, false⟩], [(6, 1), (7, 0)], [5], none⟩
abbrev ir_slices_partitionOrdered_int : Fn := { np := 4, nv := 8, res := [(6, none), (7, none)], body :=
(.seq (.reg r_slices_partitionOrdered_int_0)
 (.seq (.reg r_slices_partitionOrdered_int_1)
 (.seq (.reg r_slices_partitionOrdered_int_2)
 (.seq (.block 0 (.loop b_slices_partitionOrdered_int_0))
 (.seq (.block 2 (.loop b_slices_partitionOrdered_int_2))
 (.seq (.seq (.reg r_slices_partitionOrdered_int_7)
 (.cond 65 (.seq (.reg r_slices_partitionOrdered_int_8)
 (.seq (.reg r_slices_partitionOrdered_int_9)
 .ret)) .skip))
 (.seq (.reg r_slices_partitionOrdered_int_10)
 (.seq (.reg r_slices_partitionOrdered_int_11)
 (.seq (.reg r_slices_partitionOrdered_int_12)
 (.seq (.block 4 (.loop b_slices_partitionOrdered_int_4))
 (.seq (.reg r_slices_partitionOrdered_int_21)
 (.seq (.reg r_slices_partitionOrdered_int_22)
 .ret)))))))))))) }
/- f70 math_bits_Len32 : 0:x 1:n -/
abbrev r_math_bits_Len32_0 : Reg := ⟨[⟨.mv (.c (.int (0))), none, false⟩], [(1, 0)], [], none⟩
abbrev r_math_bits_Len32_3 : Reg := ⟨[⟨.mv (.c (.int (16))), none, false⟩], [(1, 0)], [], none⟩
abbrev r_math_bits_Len32_6 : Reg := ⟨[⟨.mv (.v 1), none, false⟩, ⟨.bin .add (.t 0) (.c (.int (8))), none, false⟩, ⟨.mv (.t 0), none, false⟩], [(1, 0)], [], none⟩
abbrev ir_math_bits_Len32 : Fn := { np := 1, nv := 2, res := [(1, none)], body :=
(.seq (.reg r_math_bits_Len32_0)
 (.seq (.seq .bad
 (.cond 4 (.seq .bad
 (.reg r_math_bits_Len32_3)) .skip))
 (.seq (.seq .bad
 (.cond 8 (.seq .bad
 (.reg r_math_bits_Len32_6)) .skip))
 (.seq .bad
 .ret)))) }
/- f71 math_bits_Len64 : 0:x 1:n -/
abbrev r_math_bits_Len64_0 : Reg := ⟨[⟨.mv (.c (.int (0))), none, false⟩], [(1, 0)], [], none⟩
abbrev r_math_bits_Len64_3 : Reg := ⟨[⟨.mv (.c (.int (32))), none, false⟩], [(1, 0)], [], none⟩
abbrev r_math_bits_Len64_6 : Reg := ⟨[⟨.mv (.v 1), none, false⟩, ⟨.bin .add (.t 0) (.c (.int (16))), none, false⟩, ⟨.mv (.t 0), none, false⟩], [(1, 0)], [], none⟩
abbrev r_math_bits_Len64_9 : Reg := ⟨[⟨.mv (.v 1), none, false⟩, ⟨.bin .add (.t 0) (.c (.int (8))), none, false⟩, ⟨.mv (.t 0), none, false⟩], [(1, 0)], [], none⟩
abbrev ir_math_bits_Len64 : Fn := { np := 1, nv := 2, res := [(1, none)], body :=
(.seq (.reg r_math_bits_Len64_0)
 (.seq (.seq .bad
 (.cond 4 (.seq .bad
 (.reg r_math_bits_Len64_3)) .skip))
 (.seq (.seq .bad
 (.cond 8 (.seq .bad
 (.reg r_math_bits_Len64_6)) .skip))
 (.seq (.seq .bad
 (.cond 14 (.seq .bad
 (.reg r_math_bits_Len64_9)) .skip))
 (.seq .bad
 .ret))))) }
/- f72 slices_IndexFunc_Sint_int : 0:s 1:f 2:_ 3:_ 4:i 5:_ -/
abbrev r_slices_IndexFunc_Sint_int_0 : Reg := ⟨[⟨.mv (.c (.int (0))), none, false⟩], [], [5], none⟩
abbrev r_slices_IndexFunc_Sint_int_1 : Reg := ⟨[⟨.mv (.v 0), none, false⟩, ⟨.len (.t 0), none, false⟩, ⟨.mv (.c (.int (0))), none, false⟩], [(3, 1), (2, 0)], [], none⟩
abbrev r_slices_IndexFunc_Sint_int_2 : Reg := ⟨[⟨.bin .lss (.v 2) (.v 3), none, false⟩], [], [], some (9, 0)⟩
abbrev r_slices_IndexFunc_Sint_int_3 : Reg := ⟨[⟨.mv (.v 2), none, false⟩, ⟨.mv (.t 0), none, false⟩], [(4, 0)], [], none⟩
abbrev r_slices_IndexFunc_Sint_int_4 : Reg := ⟨[⟨.mv (.v 1), none, false⟩, ⟨.mv (.v 0), none, false⟩, ⟨.mv (.v 4), none, false⟩, ⟨.iad (.t 1) (.t 0) 1, none, false⟩, ⟨.ld (.t 0) none, none, false⟩, ⟨.cald (.t 4) [(.t 0)], none, false⟩], [], [], some (16, 0)⟩
abbrev r_slices_IndexFunc_Sint_int_5 : Reg := ⟨[⟨.mv (.v 4), none, false⟩, ⟨.mv (.t 0), none, false⟩], [(5, 0)], [0, 1, 2, 3, 4], none⟩
abbrev r_slices_IndexFunc_Sint_int_6 : Reg := ⟨[⟨.bin .add (.v 2) (.c (.int (1))), none, false⟩, ⟨.mv (.t 0), none, false⟩], [(2, 0)], [4], none⟩
abbrev b_slices_IndexFunc_Sint_int_0 : IC := (.seq (.reg r_slices_IndexFunc_Sint_int_2)
 (.seq (.cond 9 .skip (.exit 0))
 (.seq (.block 1 (.seq (.reg r_slices_IndexFunc_Sint_int_3)
 (.seq (.reg r_slices_IndexFunc_Sint_int_4)
 (.cond 16 (.seq (.reg r_slices_IndexFunc_Sint_int_5)
 .ret) .skip))))
 (.reg r_slices_IndexFunc_Sint_int_6))))
abbrev r_slices_IndexFunc_Sint_int_7 : Reg := ⟨[⟨.mv (.c (.int (-1))), none, false⟩], [(5, 0)], [0, 1, 2, 3], none⟩
abbrev ir_slices_IndexFunc_Sint_int : Fn := { np := 2, nv := 6, res := [(5, none)], body :=
(.seq (.reg r_slices_IndexFunc_Sint_int_0)
 (.seq (.seq (.reg r_slices_IndexFunc_Sint_int_1)
 (.block 0 (.loop b_slices_IndexFunc_Sint_int_0)))
 (.seq (.reg r_slices_IndexFunc_Sint_int_7)
 .ret))) }
/- f73 mealy_From : 0:m 1:s 2:w 3:m 4:e 5:e 6:r 7:out 8:_ 9:_ 10:_ -/
abbrev r_mealy_From_0 : Reg := ⟨[⟨.bxi (.v 0), none, false⟩, ⟨.mv (.c (.snil)), none, false⟩, ⟨.mv (.c (.int (0))), none, false⟩, ⟨.mv (.c (.int (0))), none, false⟩], [(3, 3)], [0, 8, 9, 10], none⟩
abbrev r_mealy_From_1 : Reg := ⟨[⟨.ldi (.v 3) (some 4), none, false⟩, ⟨.mv (.v 1), none, false⟩, ⟨.cal F_mealy_state [(.t 1), (.t 0)], none, false⟩, ⟨.mv (.t 0), none, false⟩], [(4, 0)], [], none⟩
abbrev r_mealy_From_2 : Reg := ⟨[⟨.mv (.v 4), none, false⟩, ⟨.bin .neq (.t 0) (.c (.int (0))), none, false⟩], [], [], some (17, 0)⟩
abbrev r_mealy_From_3 : Reg := ⟨[⟨.mv (.v 4), none, false⟩, ⟨.mv (.c (.snil)), none, false⟩, ⟨.mv (.c (.int (0))), none, false⟩, ⟨.mv (.t 2), none, false⟩], [(8, 2), (9, 1), (10, 0)], [1, 2, 3, 4], none⟩
abbrev r_mealy_From_4 : Reg := ⟨[⟨.mv (.v 2), none, false⟩, ⟨.fad (.v 3) 0 none, none, false⟩, ⟨.ldi (.t 0) none, none, false⟩, ⟨.cal F_word_Check [(.t 2), (.t 0)], none, false⟩, ⟨.mv (.t 0), none, false⟩], [(5, 0)], [4], none⟩
abbrev r_mealy_From_5 : Reg := ⟨[⟨.mv (.v 5), none, false⟩, ⟨.bin .neq (.t 0) (.c (.int (0))), none, false⟩], [], [], some (24, 0)⟩
abbrev r_mealy_From_6 : Reg := ⟨[⟨.mv (.v 5), none, false⟩, ⟨.mv (.c (.snil)), none, false⟩, ⟨.mv (.c (.int (0))), none, false⟩, ⟨.mv (.t 2), none, false⟩], [(8, 2), (9, 1), (10, 0)], [1, 2, 3, 5], none⟩
abbrev r_mealy_From_7 : Reg := ⟨[⟨.ldi (.v 3) (some 4), none, false⟩, ⟨.bld [.int 0, .int 0, .snil, .snil] [(0, 4, (.t 0))], none, false⟩, ⟨.mv (.v 1), none, false⟩, ⟨.bld [.int 0, .int 0, .snil, .snil, .int 0] [(0, 4, (.t 1)), (4, 1, (.t 0))], none, false⟩, ⟨.bxm (.t 0) (some 5), none, false⟩, ⟨.mv (.t 0), none, false⟩], [(6, 0)], [1, 3, 5], none⟩
abbrev r_mealy_From_8 : Reg := ⟨[⟨.mv (.v 6), none, false⟩, ⟨.mv (.v 2), none, false⟩, ⟨.cam F_mealy_runner_run [(.t 1), (.t 0)], none, false⟩, ⟨.mv (.t 0), none, false⟩], [(7, 0)], [2], none⟩
abbrev r_mealy_From_9 : Reg := ⟨[⟨.mv (.v 7), none, false⟩, ⟨.mv (.v 6), none, false⟩, ⟨.nck (.t 0), none, false⟩, ⟨.fad (.t 0) 4 none, none, false⟩, ⟨.ld (.t 0) none, none, false⟩, ⟨.mv (.t 4), none, false⟩, ⟨.mv (.t 1), none, false⟩, ⟨.mv (.c (.int (0))), none, false⟩], [(8, 2), (9, 1), (10, 0)], [6, 7], none⟩
abbrev ir_mealy_From : Fn := { np := 3, nv := 11, res := [(8, none), (9, none), (10, none)], body :=
(.seq (.reg r_mealy_From_0)
 (.seq (.seq (.reg r_mealy_From_1)
 (.seq (.reg r_mealy_From_2)
 (.cond 17 (.seq (.reg r_mealy_From_3)
 .ret) .skip)))
 (.seq (.seq (.reg r_mealy_From_4)
 (.seq (.reg r_mealy_From_5)
 (.cond 24 (.seq (.reg r_mealy_From_6)
 .ret) .skip)))
 (.seq (.reg r_mealy_From_7)
 (.seq (.reg r_mealy_From_8)
 (.seq (.reg r_mealy_From_9)
 .ret)))))) }
/- f74 ref09_Check : 0:a 1:b 2:a 3:e 4:b 5:e 6:_ -/
abbrev r_ref09_Check_0 : Reg := ⟨[⟨.bxi (.v 0), none, false⟩, ⟨.bxi (.v 1), none, false⟩, ⟨.mv (.c (.int (0))), none, false⟩], [(2, 2), (4, 1)], [0, 1, 6], none⟩
abbrev r_ref09_Check_1 : Reg := ⟨[⟨.ldi (.v 2) (some 4), none, false⟩, ⟨.cal F_ref06_Valid [(.t 0)], none, false⟩, ⟨.mv (.t 0), none, false⟩], [(3, 0)], [], none⟩
abbrev r_ref09_Check_2 : Reg := ⟨[⟨.mv (.v 3), none, false⟩, ⟨.bin .neq (.t 0) (.c (.int (0))), none, false⟩], [], [], some (10, 0)⟩
abbrev r_ref09_Check_3 : Reg := ⟨[⟨.mv (.v 3), none, false⟩, ⟨.mv (.t 0), none, false⟩], [(6, 0)], [2, 3, 4], none⟩
abbrev r_ref09_Check_4 : Reg := ⟨[⟨.ldi (.v 4) (some 4), none, false⟩, ⟨.cal F_ref06_Valid [(.t 0)], none, false⟩, ⟨.mv (.t 0), none, false⟩], [(5, 0)], [3], none⟩
abbrev r_ref09_Check_5 : Reg := ⟨[⟨.mv (.v 5), none, false⟩, ⟨.bin .neq (.t 0) (.c (.int (0))), none, false⟩], [], [], some (15, 0)⟩
abbrev r_ref09_Check_6 : Reg := ⟨[⟨.mv (.v 5), none, false⟩, ⟨.mv (.t 0), none, false⟩], [(6, 0)], [2, 4, 5], none⟩
abbrev r_ref09_Check_7 : Reg := ⟨[⟨.fad (.v 2) 0 none, none, false⟩, ⟨.ldi (.t 0) none, none, false⟩, ⟨.fad (.v 4) 0 none, none, false⟩, ⟨.ldi (.t 0) none, none, false⟩, ⟨.bin .neq (.t 2) (.t 0), none, false⟩], [], [2, 4, 5], some (21, 0)⟩
abbrev r_ref09_Check_8 : Reg := ⟨[⟨.mv (.c (.int (15))), none, false⟩], [(6, 0)], [], none⟩
abbrev r_ref09_Check_9 : Reg := ⟨[⟨.mv (.c (.int (0))), none, false⟩], [(6, 0)], [], none⟩
abbrev ir_ref09_Check : Fn := { np := 2, nv := 7, res := [(6, none)], body :=
(.seq (.reg r_ref09_Check_0)
 (.seq (.seq (.reg r_ref09_Check_1)
 (.seq (.reg r_ref09_Check_2)
 (.cond 10 (.seq (.reg r_ref09_Check_3)
 .ret) .skip)))
 (.seq (.seq (.reg r_ref09_Check_4)
 (.seq (.reg r_ref09_Check_5)
 (.cond 15 (.seq (.reg r_ref09_Check_6)
 .ret) .skip)))
 (.seq (.seq (.reg r_ref09_Check_7)
 (.cond 21 (.seq (.reg r_ref09_Check_8)
 .ret) .skip))
 (.seq (.reg r_ref09_Check_9)
 .ret))))) }
/- f75 ref09_first : 0:a 1:b 2:s 3:t 4:i 5:l 6:x 7:a 8:b 9:w 10:k 11:known 12:p 13:q 14:_ 15:_ -/
abbrev r_ref09_first_0 : Reg := ⟨[⟨.bxi (.v 0), none, false⟩, ⟨.bxi (.v 1), none, false⟩, ⟨.mv (.c (.snil)), none, false⟩, ⟨.mv (.c (.bool false)), none, false⟩], [(7, 3), (8, 2)], [0, 1, 14, 15], none⟩
abbrev r_ref09_first_1 : Reg := ⟨[⟨.mv (.v 2), none, false⟩, ⟨.mv (.v 3), none, false⟩, ⟨.bld [.int 0, .int 0, .snil] [(0, 1, (.t 1)), (1, 1, (.t 0))], none, false⟩, ⟨.litm [(.t 0)] (some 3), none, false⟩, ⟨.mv (.t 0), none, false⟩], [(5, 0)], [2, 3], none⟩
abbrev r_ref09_first_2 : Reg := ⟨[⟨.mv (.c (.int (0))), none, false⟩], [(4, 0)], [], none⟩
abbrev r_ref09_first_3 : Reg := ⟨[⟨.mv (.v 4), none, false⟩, ⟨.mv (.v 5), none, false⟩, ⟨.len (.t 0), none, false⟩, ⟨.bin .lss (.t 2) (.t 0), none, false⟩], [], [], some (25, 0)⟩
abbrev r_ref09_first_5 : Reg := ⟨[⟨.mv (.c (.int (0))), none, false⟩], [(6, 0)], [], none⟩
abbrev r_ref09_first_6 : Reg := ⟨[⟨.mv (.v 6), none, false⟩, ⟨.fad (.v 7) 0 none, none, false⟩, ⟨.ldi (.t 0) none, none, false⟩, ⟨.bin .lss (.t 2) (.t 0), none, false⟩], [], [], some (31, 0)⟩
abbrev r_ref09_first_8 : Reg := ⟨[⟨.mv (.v 5), none, false⟩, ⟨.mv (.v 4), none, false⟩, ⟨.iad (.t 1) (.t 0) 3, none, false⟩, ⟨.fad (.t 0) 2 none, none, false⟩, ⟨.ld (.t 0) none, none, false⟩, ⟨.mv (.v 6), none, false⟩, ⟨.cal F_ref09_Extended [(.t 1), (.t 0)], none, false⟩, ⟨.mv (.t 0), none, false⟩], [(9, 0)], [], none⟩
abbrev r_ref09_first_9 : Reg := ⟨[⟨.fad (.v 7) 3 none, none, false⟩, ⟨.ldi (.t 0) none, none, false⟩, ⟨.mv (.v 5), none, false⟩, ⟨.mv (.v 4), none, false⟩, ⟨.iad (.t 1) (.t 0) 3, none, false⟩, ⟨.fad (.t 0) 0 none, none, false⟩, ⟨.ld (.t 0) none, none, false⟩, ⟨.iad (.t 5) (.t 0) 1, none, false⟩, ⟨.ldi (.t 0) none, none, false⟩, ⟨.mv (.v 6), none, false⟩, ⟨.iad (.t 1) (.t 0) 1, none, false⟩, ⟨.ldi (.t 0) none, none, false⟩, ⟨.fad (.v 8) 3 none, none, false⟩, ⟨.ldi (.t 0) none, none, false⟩, ⟨.mv (.v 5), none, false⟩, ⟨.mv (.v 4), none, false⟩, ⟨.iad (.t 1) (.t 0) 3, none, false⟩, ⟨.fad (.t 0) 1 none, none, false⟩, ⟨.ld (.t 0) none, none, false⟩, ⟨.iad (.t 5) (.t 0) 1, none, false⟩, ⟨.ldi (.t 0) none, none, false⟩, ⟨.mv (.v 6), none, false⟩, ⟨.iad (.t 1) (.t 0) 1, none, false⟩, ⟨.ldi (.t 0) none, none, false⟩, ⟨.bin .neq (.t 12) (.t 0), none, false⟩], [], [], some (65, 0)⟩
abbrev r_ref09_first_10 : Reg := ⟨[⟨.mv (.v 9), none, false⟩, ⟨.mv (.t 0), none, false⟩, ⟨.mv (.c (.bool true)), none, false⟩], [(14, 1), (15, 0)], [4, 5, 6, 7, 8, 9], none⟩
abbrev r_ref09_first_11 : Reg := ⟨[⟨.fad (.v 7) 2 none, none, false⟩, ⟨.ldi (.t 0) none, none, false⟩, ⟨.mv (.v 5), none, false⟩, ⟨.mv (.v 4), none, false⟩, ⟨.iad (.t 1) (.t 0) 3, none, false⟩, ⟨.fad (.t 0) 0 none, none, false⟩, ⟨.ld (.t 0) none, none, false⟩, ⟨.iad (.t 5) (.t 0) 1, none, false⟩, ⟨.ldi (.t 0) none, none, false⟩, ⟨.mv (.v 6), none, false⟩, ⟨.iad (.t 1) (.t 0) 1, none, false⟩, ⟨.ldi (.t 0) none, none, false⟩, ⟨.fad (.v 8) 2 none, none, false⟩, ⟨.ldi (.t 0) none, none, false⟩, ⟨.mv (.v 5), none, false⟩, ⟨.mv (.v 4), none, false⟩, ⟨.iad (.t 1) (.t 0) 3, none, false⟩, ⟨.fad (.t 0) 1 none, none, false⟩, ⟨.ld (.t 0) none, none, false⟩, ⟨.iad (.t 5) (.t 0) 1, none, false⟩, ⟨.ldi (.t 0) none, none, false⟩, ⟨.mv (.v 6), none, false⟩, ⟨.iad (.t 1) (.t 0) 1, none, false⟩, ⟨.ldi (.t 0) none, none, false⟩, ⟨.mv (.t 12), none, false⟩, ⟨.mv (.t 1), none, false⟩], [(12, 1), (13, 0)], [], none⟩
abbrev r_ref09_first_12 : Reg := ⟨[⟨.mv (.c (.bool false)), none, false⟩], [(11, 0)], [], none⟩
abbrev r_ref09_first_13 : Reg := ⟨[⟨.mv (.c (.int (0))), none, false⟩], [(10, 0)], [], none⟩
abbrev r_ref09_first_14 : Reg := ⟨[⟨.mv (.v 10), none, false⟩, ⟨.mv (.v 5), none, false⟩, ⟨.len (.t 0), none, false⟩, ⟨.bin .lss (.t 2) (.t 0), none, false⟩], [], [], some (94, 0)⟩
abbrev r_ref09_first_16 : Reg := ⟨[⟨.mv (.v 11), none, false⟩, ⟨.mv (.t 0), none, false⟩, ⟨.mv (.v 5), some (.t 0, false), false⟩, ⟨.mv (.v 10), some (.t 1, false), false⟩, ⟨.iad (.t 1) (.t 0) 3, some (.t 2, false), false⟩, ⟨.fad (.t 0) 0 none, some (.t 3, false), false⟩, ⟨.ld (.t 0) none, some (.t 4, false), false⟩, ⟨.mv (.v 12), some (.t 5, false), false⟩, ⟨.bin .eql (.t 1) (.t 0), some (.t 6, false), false⟩, ⟨.mv (.t 0), some (.t 7, false), false⟩, ⟨.mv (.v 5), some (.t 0, true), false⟩, ⟨.mv (.v 10), some (.t 1, true), false⟩, ⟨.iad (.t 1) (.t 0) 3, some (.t 2, true), false⟩, ⟨.fad (.t 0) 1 none, some (.t 3, true), false⟩, ⟨.ld (.t 0) none, some (.t 4, true), false⟩, ⟨.mv (.v 13), some (.t 5, true), false⟩, ⟨.bin .eql (.t 1) (.t 0), some (.t 6, true), false⟩, ⟨.pick (.t 7) (.t 0) (.c (.bool false)), some (.t 15, false), false⟩, ⟨.pick (.t 16) (.c (.bool true)) (.t 0), none, false⟩, ⟨.mv (.t 0), none, false⟩], [(11, 0)], [], none⟩
abbrev r_ref09_first_15 : Reg := ⟨[⟨.mv (.v 10), none, false⟩, ⟨.bin .add (.t 0) (.c (.int (1))), none, false⟩, ⟨.mv (.t 0), none, false⟩], [(10, 0)], [], none⟩
abbrev b_ref09_first_4 : IC := (.seq (.seq (.reg r_ref09_first_14)
 (.cond 94 .skip (.exit 4)))
 (.seq (.block 5 (.reg r_ref09_first_16))
 (.reg r_ref09_first_15)))
abbrev r_ref09_first_17 : Reg := ⟨[⟨.mv (.v 11), none, false⟩, ⟨.not (.t 0), none, false⟩], [], [10, 11], some (117, 0)⟩
abbrev r_ref09_first_18 : Reg := ⟨[⟨.mv (.v 5), none, false⟩, ⟨.mv (.v 12), none, false⟩, ⟨.mv (.v 13), none, false⟩, ⟨.mv (.v 9), none, false⟩, ⟨.bld [.int 0, .int 0, .snil] [(0, 1, (.t 2)), (1, 1, (.t 1)), (2, 1, (.t 0))], none, false⟩, ⟨.lita [(.t 0)] 3, none, false⟩, ⟨.appw (.t 5) (.t 0) (some 3), none, false⟩, ⟨.mv (.t 0), none, false⟩], [(5, 0)], [9, 12, 13], none⟩
abbrev r_ref09_first_7 : Reg := ⟨[⟨.mv (.v 6), none, false⟩, ⟨.bin .add (.t 0) (.c (.int (1))), none, false⟩, ⟨.mv (.t 0), none, false⟩], [(6, 0)], [9, 12, 13], none⟩
abbrev b_ref09_first_2 : IC := (.seq (.seq (.reg r_ref09_first_6)
 (.cond 31 .skip (.exit 2)))
 (.seq (.block 3 (.seq (.reg r_ref09_first_8)
 (.seq (.seq (.reg r_ref09_first_9)
 (.cond 65 (.seq (.reg r_ref09_first_10)
 .ret) .skip))
 (.seq (.reg r_ref09_first_11)
 (.seq (.reg r_ref09_first_12)
 (.seq (.seq (.reg r_ref09_first_13)
 (.block 4 (.loop b_ref09_first_4)))
 (.seq (.reg r_ref09_first_17)
 (.cond 117 (.reg r_ref09_first_18) .skip))))))))
 (.reg r_ref09_first_7)))
abbrev r_ref09_first_4 : Reg := ⟨[⟨.mv (.v 4), none, false⟩, ⟨.bin .add (.t 0) (.c (.int (1))), none, false⟩, ⟨.mv (.t 0), none, false⟩], [(4, 0)], [6], none⟩
abbrev b_ref09_first_0 : IC := (.seq (.seq (.reg r_ref09_first_3)
 (.cond 25 .skip (.exit 0)))
 (.seq (.block 1 (.seq (.reg r_ref09_first_5)
 (.block 2 (.loop b_ref09_first_2))))
 (.reg r_ref09_first_4)))
abbrev r_ref09_first_19 : Reg := ⟨[⟨.mv (.c (.snil)), none, false⟩, ⟨.mv (.c (.bool false)), none, false⟩], [(14, 1), (15, 0)], [4, 5, 7, 8], none⟩
abbrev ir_ref09_first : Fn := { np := 4, nv := 16, res := [(14, none), (15, none)], body :=
(.seq (.reg r_ref09_first_0)
 (.seq (.reg r_ref09_first_1)
 (.seq (.seq (.reg r_ref09_first_2)
 (.block 0 (.loop b_ref09_first_0)))
 (.seq (.reg r_ref09_first_19)
 .ret)))) }
/- f76 ref06_From : 0:m 1:s 2:w 3:m 4:e 5:e 6:out 7:end 8:_ 9:_ 10:_ -/
abbrev r_ref06_From_0 : Reg := ⟨[⟨.bxi (.v 0), none, false⟩, ⟨.mv (.c (.snil)), none, false⟩, ⟨.mv (.c (.int (0))), none, false⟩, ⟨.mv (.c (.int (0))), none, false⟩], [(3, 3)], [0, 8, 9, 10], none⟩
abbrev r_ref06_From_1 : Reg := ⟨[⟨.ldi (.v 3) (some 4), none, false⟩, ⟨.cal F_ref06_Valid [(.t 0)], none, false⟩, ⟨.mv (.t 0), none, false⟩], [(4, 0)], [], none⟩
abbrev r_ref06_From_2 : Reg := ⟨[⟨.mv (.v 4), none, false⟩, ⟨.bin .neq (.t 0) (.c (.int (0))), none, false⟩], [], [], some (16, 0)⟩
abbrev r_ref06_From_3 : Reg := ⟨[⟨.mv (.v 4), none, false⟩, ⟨.mv (.c (.snil)), none, false⟩, ⟨.mv (.c (.int (0))), none, false⟩, ⟨.mv (.t 2), none, false⟩], [(8, 2), (9, 1), (10, 0)], [1, 2, 3, 4], none⟩
abbrev r_ref06_From_4 : Reg := ⟨[⟨.mv (.v 1), none, false⟩, ⟨.bin .lss (.t 0) (.c (.int (0))), none, false⟩, ⟨.mv (.t 0), none, false⟩, ⟨.mv (.v 1), some (.t 0, false), false⟩, ⟨.fad (.v 3) 2 none, some (.t 1, false), false⟩, ⟨.ldi (.t 0) none, some (.t 2, false), false⟩, ⟨.len (.t 0), some (.t 3, false), false⟩, ⟨.bin .geq (.t 3) (.t 0), some (.t 4, false), false⟩, ⟨.pick (.t 5) (.c (.bool true)) (.t 0), none, false⟩], [], [4], some (26, 0)⟩
abbrev r_ref06_From_5 : Reg := ⟨[⟨.mv (.c (.snil)), none, false⟩, ⟨.mv (.c (.int (0))), none, false⟩, ⟨.mv (.c (.int (2))), none, false⟩], [(8, 2), (9, 1), (10, 0)], [1, 2, 3], none⟩
abbrev r_ref06_From_6 : Reg := ⟨[⟨.mv (.v 2), none, false⟩, ⟨.fad (.v 3) 0 none, none, false⟩, ⟨.ldi (.t 0) none, none, false⟩, ⟨.cal F_ref01_Check [(.t 2), (.t 0)], none, false⟩, ⟨.mv (.t 0), none, false⟩], [(5, 0)], [], none⟩
abbrev r_ref06_From_7 : Reg := ⟨[⟨.mv (.v 5), none, false⟩, ⟨.bin .neq (.t 0) (.c (.int (0))), none, false⟩], [], [], some (32, 0)⟩
abbrev r_ref06_From_8 : Reg := ⟨[⟨.mv (.v 5), none, false⟩, ⟨.mv (.c (.snil)), none, false⟩, ⟨.mv (.c (.int (0))), none, false⟩, ⟨.mv (.t 2), none, false⟩], [(8, 2), (9, 1), (10, 0)], [1, 2, 3, 5], none⟩
abbrev r_ref06_From_9 : Reg := ⟨[⟨.ldi (.v 3) (some 4), none, false⟩, ⟨.mv (.v 1), none, false⟩, ⟨.mv (.v 2), none, false⟩, ⟨.cal F_ref06_Outs [(.t 2), (.t 1), (.t 0)], none, false⟩, ⟨.mv (.t 0), none, false⟩, ⟨.ext (.t 0) 0, none, false⟩, ⟨.ext (.t 1) 1, none, false⟩, ⟨.mv (.t 1), none, false⟩, ⟨.mv (.t 1), none, false⟩], [(6, 1), (7, 0)], [1, 2, 3, 5], none⟩
abbrev r_ref06_From_10 : Reg := ⟨[⟨.mv (.v 6), none, false⟩, ⟨.mv (.v 7), none, false⟩, ⟨.mv (.t 1), none, false⟩, ⟨.mv (.t 1), none, false⟩, ⟨.mv (.c (.int (0))), none, false⟩], [(8, 2), (9, 1), (10, 0)], [6, 7], none⟩
abbrev ir_ref06_From : Fn := { np := 3, nv := 11, res := [(8, none), (9, none), (10, none)], body :=
(.seq (.reg r_ref06_From_0)
 (.seq (.seq (.reg r_ref06_From_1)
 (.seq (.reg r_ref06_From_2)
 (.cond 16 (.seq (.reg r_ref06_From_3)
 .ret) .skip)))
 (.seq (.seq (.reg r_ref06_From_4)
 (.cond 26 (.seq (.reg r_ref06_From_5)
 .ret) .skip))
 (.seq (.seq (.reg r_ref06_From_6)
 (.seq (.reg r_ref06_From_7)
 (.cond 32 (.seq (.reg r_ref06_From_8)
 .ret) .skip)))
 (.seq (.reg r_ref06_From_9)
 (.seq (.reg r_ref06_From_10)
 .ret)))))) }
/- f77 slices_Concat_Sint_int : 0:slices 1:_ 2:_ 3:_ 4:size 5:s 6:_ 7:_ 8:_ 9:newslice 10:s 11:_ -/
abbrev r_slices_Concat_Sint_int_0 : Reg := ⟨[⟨.mv (.c (.snil)), none, false⟩], [], [11], none⟩
abbrev r_slices_Concat_Sint_int_1 : Reg := ⟨[⟨.mv (.c (.int (0))), none, false⟩], [(4, 0)], [], none⟩
abbrev r_slices_Concat_Sint_int_2 : Reg := ⟨[⟨.mv (.v 0), none, false⟩, ⟨.len (.t 0), none, false⟩, ⟨.mv (.c (.int (0))), none, false⟩], [(3, 2), (2, 1), (1, 0)], [], none⟩
abbrev r_slices_Concat_Sint_int_3 : Reg := ⟨[⟨.bin .lss (.v 1) (.v 2), none, false⟩], [], [], some (12, 0)⟩
abbrev r_slices_Concat_Sint_int_4 : Reg := ⟨[⟨.iad (.v 3) (.v 1) 1, none, false⟩, ⟨.ld (.t 0) none, none, false⟩, ⟨.mv (.t 0), none, false⟩], [(5, 0)], [], none⟩
abbrev r_slices_Concat_Sint_int_5 : Reg := ⟨[⟨.mv (.v 4), none, false⟩, ⟨.mv (.v 5), none, false⟩, ⟨.len (.t 0), none, false⟩, ⟨.bin .add (.t 2) (.t 0), none, false⟩, ⟨.mv (.t 0), none, false⟩], [(4, 0)], [5], none⟩
abbrev r_slices_Concat_Sint_int_6 : Reg := ⟨[⟨.mv (.v 4), none, false⟩, ⟨.bin .lss (.t 0) (.c (.int (0))), none, false⟩], [], [], some (20, 0)⟩
abbrev r_slices_Concat_Sint_int_8 : Reg := ⟨[⟨.bin .add (.v 1) (.c (.int (1))), none, false⟩, ⟨.mv (.t 0), none, false⟩], [(1, 0)], [], none⟩
abbrev b_slices_Concat_Sint_int_0 : IC := (.seq (.reg r_slices_Concat_Sint_int_3)
 (.seq (.cond 12 .skip (.exit 0))
 (.seq (.block 1 (.seq (.reg r_slices_Concat_Sint_int_4)
 (.seq (.reg r_slices_Concat_Sint_int_5)
 (.seq (.reg r_slices_Concat_Sint_int_6)
 (.cond 20 .bad .skip)))))
 (.reg r_slices_Concat_Sint_int_8))))
abbrev r_slices_Concat_Sint_int_9 : Reg := ⟨[⟨.mv (.v 4), none, false⟩, ⟨.can F_slices_Grow_Sint_int [(.c (.snil)), (.t 0)], none, false⟩, ⟨.mv (.t 0), none, false⟩], [(9, 0)], [1, 2, 3, 4], none⟩
abbrev r_slices_Concat_Sint_int_10 : Reg := ⟨[⟨.mv (.v 0), none, false⟩, ⟨.len (.t 0), none, false⟩, ⟨.mv (.c (.int (0))), none, false⟩], [(8, 2), (7, 1), (6, 0)], [0], none⟩
abbrev r_slices_Concat_Sint_int_11 : Reg := ⟨[⟨.bin .lss (.v 6) (.v 7), none, false⟩], [], [], some (28, 0)⟩
abbrev r_slices_Concat_Sint_int_12 : Reg := ⟨[⟨.iad (.v 8) (.v 6) 1, none, false⟩, ⟨.ld (.t 0) none, none, false⟩, ⟨.mv (.t 0), none, false⟩], [(10, 0)], [], none⟩
abbrev r_slices_Concat_Sint_int_13 : Reg := ⟨[⟨.mv (.v 9), none, false⟩, ⟨.mv (.v 10), none, false⟩, ⟨.appw (.t 1) (.t 0) none, none, false⟩, ⟨.mv (.t 0), none, false⟩], [(9, 0)], [10], none⟩
abbrev r_slices_Concat_Sint_int_14 : Reg := ⟨[⟨.bin .add (.v 6) (.c (.int (1))), none, false⟩, ⟨.mv (.t 0), none, false⟩], [(6, 0)], [], none⟩
abbrev b_slices_Concat_Sint_int_2 : IC := (.seq (.reg r_slices_Concat_Sint_int_11)
 (.seq (.cond 28 .skip (.exit 2))
 (.seq (.block 3 (.seq (.reg r_slices_Concat_Sint_int_12)
 (.reg r_slices_Concat_Sint_int_13)))
 (.reg r_slices_Concat_Sint_int_14))))
abbrev r_slices_Concat_Sint_int_15 : Reg := ⟨[⟨.mv (.v 9), none, false⟩, ⟨.mv (.t 0), none, false⟩], [(11, 0)], [6, 7, 8, 9], none⟩
abbrev ir_slices_Concat_Sint_int : Fn := { np := 1, nv := 12, res := [(11, none)], body :=
(.seq (.reg r_slices_Concat_Sint_int_0)
 (.seq (.reg r_slices_Concat_Sint_int_1)
 (.seq (.seq (.reg r_slices_Concat_Sint_int_2)
 (.block 0 (.loop b_slices_Concat_Sint_int_0)))
 (.seq (.reg r_slices_Concat_Sint_int_9)
 (.seq (.seq (.reg r_slices_Concat_Sint_int_10)
 (.block 2 (.loop b_slices_Concat_Sint_int_2)))
 (.seq (.reg r_slices_Concat_Sint_int_15)
 .ret)))))) }
/- f78 slices_siftDownOrdered_int : 0:data 1:lo 2:hi 3:first 4:root 5:child -/
abbrev r_slices_siftDownOrdered_int_0 : Reg := ⟨[⟨.mv (.v 1), none, false⟩, ⟨.mv (.t 0), none, false⟩], [(4, 0)], [1], none⟩
abbrev r_slices_siftDownOrdered_int_1 : Reg := ⟨[⟨.mv (.v 4), none, false⟩, ⟨.bin .mul (.c (.int (2))) (.t 0), none, false⟩, ⟨.bin .add (.t 0) (.c (.int (1))), none, false⟩, ⟨.mv (.t 0), none, false⟩], [(5, 0)], [], none⟩
abbrev r_slices_siftDownOrdered_int_2 : Reg := ⟨[⟨.mv (.v 5), none, false⟩, ⟨.mv (.v 2), none, false⟩, ⟨.bin .geq (.t 1) (.t 0), none, false⟩], [], [], some (16, 0)⟩
abbrev r_slices_siftDownOrdered_int_3 : Reg := ⟨[⟨.mv (.v 5), none, false⟩, ⟨.bin .add (.t 0) (.c (.int (1))), none, false⟩, ⟨.mv (.v 2), none, false⟩, ⟨.bin .lss (.t 1) (.t 0), none, false⟩, ⟨.mv (.t 0), none, false⟩, ⟨.mv (.v 0), some (.t 0, true), false⟩, ⟨.mv (.v 3), some (.t 1, true), false⟩, ⟨.mv (.v 5), some (.t 2, true), false⟩, ⟨.bin .add (.t 1) (.t 0), some (.t 3, true), false⟩, ⟨.iad (.t 3) (.t 0) 1, some (.t 4, true), false⟩, ⟨.ld (.t 0) none, some (.t 5, true), false⟩, ⟨.mv (.v 0), some (.t 6, true), false⟩, ⟨.mv (.v 3), some (.t 7, true), false⟩, ⟨.mv (.v 5), some (.t 8, true), false⟩, ⟨.bin .add (.t 1) (.t 0), some (.t 9, true), false⟩, ⟨.bin .add (.t 0) (.c (.int (1))), some (.t 10, true), false⟩, ⟨.iad (.t 4) (.t 0) 1, some (.t 11, true), false⟩, ⟨.ld (.t 0) none, some (.t 12, true), false⟩, ⟨.cal F_cmp_Less_int [(.t 7), (.t 0)], some (.t 13, true), false⟩, ⟨.pick (.t 14) (.t 0) (.c (.bool false)), none, false⟩], [], [], some (36, 0)⟩
abbrev r_slices_siftDownOrdered_int_4 : Reg := ⟨[⟨.mv (.v 5), none, false⟩, ⟨.bin .add (.t 0) (.c (.int (1))), none, false⟩, ⟨.mv (.t 0), none, false⟩], [(5, 0)], [], none⟩
abbrev r_slices_siftDownOrdered_int_5 : Reg := ⟨[⟨.mv (.v 0), none, false⟩, ⟨.mv (.v 3), none, false⟩, ⟨.mv (.v 4), none, false⟩, ⟨.bin .add (.t 1) (.t 0), none, false⟩, ⟨.iad (.t 3) (.t 0) 1, none, false⟩, ⟨.ld (.t 0) none, none, false⟩, ⟨.mv (.v 0), none, false⟩, ⟨.mv (.v 3), none, false⟩, ⟨.mv (.v 5), none, false⟩, ⟨.bin .add (.t 1) (.t 0), none, false⟩, ⟨.iad (.t 3) (.t 0) 1, none, false⟩, ⟨.ld (.t 0) none, none, false⟩, ⟨.cal F_cmp_Less_int [(.t 6), (.t 0)], none, false⟩, ⟨.not (.t 0), none, false⟩], [], [], some (52, 0)⟩
abbrev r_slices_siftDownOrdered_int_6 : Reg := ⟨[⟨.mv (.v 0), none, false⟩, ⟨.mv (.v 3), none, false⟩, ⟨.mv (.v 4), none, false⟩, ⟨.bin .add (.t 1) (.t 0), none, false⟩, ⟨.mv (.v 0), none, false⟩, ⟨.mv (.v 3), none, false⟩, ⟨.mv (.v 5), none, false⟩, ⟨.bin .add (.t 1) (.t 0), none, false⟩, ⟨.mv (.v 0), none, false⟩, ⟨.mv (.v 3), none, false⟩, ⟨.mv (.v 5), none, false⟩, ⟨.bin .add (.t 1) (.t 0), none, false⟩, ⟨.iad (.t 3) (.t 0) 1, none, false⟩, ⟨.ld (.t 0) none, none, false⟩, ⟨.mv (.v 0), none, false⟩, ⟨.mv (.v 3), none, false⟩, ⟨.mv (.v 4), none, false⟩, ⟨.bin .add (.t 1) (.t 0), none, false⟩, ⟨.iad (.t 3) (.t 0) 1, none, false⟩, ⟨.ld (.t 0) none, none, false⟩, ⟨.iad (.t 19) (.t 16) 1, none, false⟩, ⟨.st (.t 0) (.t 7) 1, none, false⟩, ⟨.iad (.t 17) (.t 14) 1, none, false⟩, ⟨.st (.t 0) (.t 3) 1, none, false⟩], [], [4], none⟩
abbrev r_slices_siftDownOrdered_int_7 : Reg := ⟨[⟨.mv (.v 5), none, false⟩, ⟨.mv (.t 0), none, false⟩], [(4, 0)], [5], none⟩
abbrev b_slices_siftDownOrdered_int_0 : IC := (.block 1 (.seq (.reg r_slices_siftDownOrdered_int_1)
 (.seq (.seq (.reg r_slices_siftDownOrdered_int_2)
 (.cond 16 (.exit 0) .skip))
 (.seq (.seq (.reg r_slices_siftDownOrdered_int_3)
 (.cond 36 (.reg r_slices_siftDownOrdered_int_4) .skip))
 (.seq (.seq (.reg r_slices_siftDownOrdered_int_5)
 (.cond 52 .ret .skip))
 (.seq (.reg r_slices_siftDownOrdered_int_6)
 (.reg r_slices_siftDownOrdered_int_7)))))))
abbrev ir_slices_siftDownOrdered_int : Fn := { np := 4, nv := 6, res := [], body :=
(.seq (.reg r_slices_siftDownOrdered_int_0)
 (.block 0 (.loop b_slices_siftDownOrdered_int_0))) }
/- f79 slices_nextPowerOfTwo : 0:length 1:_ -/
abbrev r_slices_nextPowerOfTwo_0 : Reg := ⟨[⟨.mv (.c (.ik 7 (0))), none, false⟩], [], [1], none⟩
abbrev ir_slices_nextPowerOfTwo : Fn := { np := 1, nv := 2, res := [(1, none)], body :=
(.seq (.reg r_slices_nextPowerOfTwo_0)
 (.seq .bad
 .ret)) }
/- f80 slices_xorshift_Next : 0:r 1:_ -/
abbrev r_slices_xorshift_Next_0 : Reg := ⟨[⟨.mv (.c (.ik 7 (0))), none, false⟩], [], [1], none⟩
abbrev r_slices_xorshift_Next_4 : Reg := ⟨[⟨.mv (.v 0), none, false⟩, ⟨.nck (.t 0), none, false⟩, ⟨.ld (.t 0) none, none, false⟩, ⟨.mv (.t 0), none, false⟩], [(1, 0)], [], none⟩
abbrev ir_slices_xorshift_Next : Fn := { np := 1, nv := 2, res := [(1, none)], body :=
(.seq (.reg r_slices_xorshift_Next_0)
 (.seq .bad
 (.seq .bad
 (.seq .bad
 (.seq (.reg r_slices_xorshift_Next_4)
 .ret))))) }
/- f81 slices_medianAdjacentOrdered_int : 0:data 1:a 2:swaps 3:_ -/
abbrev r_slices_medianAdjacentOrdered_int_0 : Reg := ⟨[⟨.mv (.c (.int (0))), none, false⟩], [], [3], none⟩
abbrev r_slices_medianAdjacentOrdered_int_1 : Reg := ⟨[⟨.mv (.v 0), none, false⟩, ⟨.mv (.v 1), none, false⟩, ⟨.bin .sub (.t 0) (.c (.int (1))), none, false⟩, ⟨.mv (.v 1), none, false⟩, ⟨.mv (.v 1), none, false⟩, ⟨.bin .add (.t 0) (.c (.int (1))), none, false⟩, ⟨.mv (.v 2), none, false⟩, ⟨.cal F_slices_medianOrdered_int [(.t 6), (.t 4), (.t 3), (.t 1), (.t 0)], none, false⟩, ⟨.mv (.t 0), none, false⟩], [(3, 0)], [0, 1, 2], none⟩
abbrev ir_slices_medianAdjacentOrdered_int : Fn := { np := 3, nv := 4, res := [(3, none)], body :=
(.seq (.reg r_slices_medianAdjacentOrdered_int_0)
 (.seq (.reg r_slices_medianAdjacentOrdered_int_1)
 .ret)) }
/- f82 slices_medianOrdered_int : 0:data 1:a 2:b 3:c 4:swaps 5:_ -/
abbrev r_slices_medianOrdered_int_0 : Reg := ⟨[⟨.mv (.c (.int (0))), none, false⟩], [], [5], none⟩
abbrev r_slices_medianOrdered_int_1 : Reg := ⟨[⟨.mv (.v 0), none, false⟩, ⟨.mv (.v 1), none, false⟩, ⟨.mv (.v 2), none, false⟩, ⟨.mv (.v 4), none, false⟩, ⟨.cal F_slices_order2Ordered_int [(.t 3), (.t 2), (.t 1), (.t 0)], none, false⟩, ⟨.mv (.t 0), none, false⟩, ⟨.ext (.t 0) 0, none, false⟩, ⟨.ext (.t 1) 1, none, false⟩, ⟨.mv (.t 1), none, false⟩, ⟨.mv (.t 1), none, false⟩], [(1, 1), (2, 0)], [], none⟩
abbrev r_slices_medianOrdered_int_2 : Reg := ⟨[⟨.mv (.v 0), none, false⟩, ⟨.mv (.v 2), none, false⟩, ⟨.mv (.v 3), none, false⟩, ⟨.mv (.v 4), none, false⟩, ⟨.cal F_slices_order2Ordered_int [(.t 3), (.t 2), (.t 1), (.t 0)], none, false⟩, ⟨.mv (.t 0), none, false⟩, ⟨.ext (.t 0) 0, none, false⟩, ⟨.ext (.t 1) 1, none, false⟩, ⟨.mv (.t 1), none, false⟩, ⟨.mv (.t 1), none, false⟩], [(2, 1)], [3], none⟩
abbrev r_slices_medianOrdered_int_3 : Reg := ⟨[⟨.mv (.v 0), none, false⟩, ⟨.mv (.v 1), none, false⟩, ⟨.mv (.v 2), none, false⟩, ⟨.mv (.v 4), none, false⟩, ⟨.cal F_slices_order2Ordered_int [(.t 3), (.t 2), (.t 1), (.t 0)], none, false⟩, ⟨.mv (.t 0), none, false⟩, ⟨.ext (.t 0) 0, none, false⟩, ⟨.ext (.t 1) 1, none, false⟩, ⟨.mv (.t 1), none, false⟩, ⟨.mv (.t 1), none, false⟩], [(2, 0)], [0, 1, 4], none⟩
abbrev r_slices_medianOrdered_int_4 : Reg := ⟨[⟨.mv (.v 2), none, false⟩, ⟨.mv (.t 0), none, false⟩], [(5, 0)], [2], none⟩
abbrev ir_slices_medianOrdered_int : Fn := { np := 5, nv := 6, res := [(5, none)], body :=
(.seq (.reg r_slices_medianOrdered_int_0)
 (.seq (.reg r_slices_medianOrdered_int_1)
 (.seq (.reg r_slices_medianOrdered_int_2)
 (.seq (.reg r_slices_medianOrdered_int_3)
 (.seq (.reg r_slices_medianOrdered_int_4)
 .ret))))) }
/- f83 cmp_isNaN_int : 0:x 1:_ -/
abbrev r_cmp_isNaN_int_0 : Reg := ⟨[⟨.mv (.c (.bool false)), none, false⟩], [], [1], none⟩
abbrev r_cmp_isNaN_int_1 : Reg := ⟨[⟨.mv (.v 0), none, false⟩, ⟨.mv (.v 0), none, false⟩, ⟨.bin .neq (.t 1) (.t 0), none, false⟩, ⟨.mv (.t 0), none, false⟩], [(1, 0)], [0], none⟩
abbrev ir_cmp_isNaN_int : Fn := { np := 1, nv := 2, res := [(1, none)], body :=
(.seq (.reg r_cmp_isNaN_int_0)
 (.seq (.reg r_cmp_isNaN_int_1)
 .ret)) }
/- f84 mealy_state : 0:m 1:s 2:m 3:e 4:_ -/
abbrev r_mealy_state_0 : Reg := ⟨[⟨.bxi (.v 0), none, false⟩, ⟨.mv (.c (.int (0))), none, false⟩], [(2, 1)], [0, 4], none⟩
abbrev r_mealy_state_1 : Reg := ⟨[⟨.ldi (.v 2) (some 4), none, false⟩, ⟨.cal F_mealy_Valid [(.t 0)], none, false⟩, ⟨.mv (.t 0), none, false⟩], [(3, 0)], [], none⟩
abbrev r_mealy_state_2 : Reg := ⟨[⟨.mv (.v 3), none, false⟩, ⟨.bin .neq (.t 0) (.c (.int (0))), none, false⟩], [], [], some (9, 0)⟩
abbrev r_mealy_state_3 : Reg := ⟨[⟨.mv (.v 3), none, false⟩, ⟨.mv (.t 0), none, false⟩], [(4, 0)], [1, 2, 3], none⟩
abbrev r_mealy_state_4 : Reg := ⟨[⟨.mv (.v 1), none, false⟩, ⟨.bin .lss (.t 0) (.c (.int (0))), none, false⟩, ⟨.mv (.t 0), none, false⟩, ⟨.mv (.v 1), some (.t 0, false), false⟩, ⟨.fad (.v 2) 2 none, some (.t 1, false), false⟩, ⟨.ldi (.t 0) none, some (.t 2, false), false⟩, ⟨.len (.t 0), some (.t 3, false), false⟩, ⟨.bin .geq (.t 3) (.t 0), some (.t 4, false), false⟩, ⟨.pick (.t 5) (.c (.bool true)) (.t 0), none, false⟩], [], [1, 2, 3], some (19, 0)⟩
abbrev r_mealy_state_5 : Reg := ⟨[⟨.mv (.c (.int (2))), none, false⟩], [(4, 0)], [], none⟩
abbrev r_mealy_state_6 : Reg := ⟨[⟨.mv (.c (.int (0))), none, false⟩], [(4, 0)], [], none⟩
abbrev ir_mealy_state : Fn := { np := 2, nv := 5, res := [(4, none)], body :=
(.seq (.reg r_mealy_state_0)
 (.seq (.seq (.reg r_mealy_state_1)
 (.seq (.reg r_mealy_state_2)
 (.cond 9 (.seq (.reg r_mealy_state_3)
 .ret) .skip)))
 (.seq (.seq (.reg r_mealy_state_4)
 (.cond 19 (.seq (.reg r_mealy_state_5)
 .ret) .skip))
 (.seq (.reg r_mealy_state_6)
 .ret)))) }
/- f85 mealy_runner_run : 0:r 1:w 2:_ 3:_ 4:_ 5:a 6:next 7:out 8:o 9:_ -/
abbrev r_mealy_runner_run_0 : Reg := ⟨[⟨.mv (.c (.snil)), none, false⟩], [], [9], none⟩
abbrev r_mealy_runner_run_1 : Reg := ⟨[⟨.nl none, none, false⟩], [(7, 0)], [], none⟩
abbrev r_mealy_runner_run_2 : Reg := ⟨[⟨.mv (.v 1), none, false⟩, ⟨.len (.t 0), none, false⟩, ⟨.mv (.c (.int (0))), none, false⟩], [(4, 2), (3, 1), (2, 0)], [1], none⟩
abbrev r_mealy_runner_run_3 : Reg := ⟨[⟨.bin .lss (.v 2) (.v 3), none, false⟩], [], [], some (13, 0)⟩
abbrev r_mealy_runner_run_4 : Reg := ⟨[⟨.iad (.v 4) (.v 2) 1, none, false⟩, ⟨.ld (.t 0) none, none, false⟩, ⟨.mv (.t 0), none, false⟩], [(5, 0)], [], none⟩
abbrev r_mealy_runner_run_5 : Reg := ⟨[⟨.mv (.v 0), none, false⟩, ⟨.nck (.t 0), none, false⟩, ⟨.fad (.t 0) 0 (some 4), none, false⟩, ⟨.ld (.t 0) (some 4), none, false⟩, ⟨.mv (.v 0), none, false⟩, ⟨.nck (.t 0), none, false⟩, ⟨.fad (.t 0) 4 none, none, false⟩, ⟨.ld (.t 0) none, none, false⟩, ⟨.mv (.v 5), none, false⟩, ⟨.cal F_mealy_machine_move [(.t 5), (.t 1), (.t 0)], none, false⟩, ⟨.mv (.t 0), none, false⟩, ⟨.ext (.t 0) 0, none, false⟩, ⟨.ext (.t 1) 1, none, false⟩, ⟨.mv (.t 1), none, false⟩, ⟨.mv (.t 1), none, false⟩], [(6, 1), (8, 0)], [5], none⟩
abbrev r_mealy_runner_run_6 : Reg := ⟨[⟨.mv (.v 0), none, false⟩, ⟨.mv (.v 6), none, false⟩, ⟨.nck (.t 1), none, false⟩, ⟨.fad (.t 0) 4 none, none, false⟩, ⟨.st (.t 0) (.t 2) 1, none, false⟩], [], [6], none⟩
abbrev r_mealy_runner_run_7 : Reg := ⟨[⟨.mv (.v 7), none, false⟩, ⟨.mv (.v 8), none, false⟩, ⟨.lita [(.t 0)] 1, none, false⟩, ⟨.appw (.t 2) (.t 0) none, none, false⟩, ⟨.mv (.t 0), none, false⟩], [(7, 0)], [8], none⟩
abbrev r_mealy_runner_run_8 : Reg := ⟨[⟨.bin .add (.v 2) (.c (.int (1))), none, false⟩, ⟨.mv (.t 0), none, false⟩], [(2, 0)], [], none⟩
abbrev b_mealy_runner_run_0 : IC := (.seq (.reg r_mealy_runner_run_3)
 (.seq (.cond 13 .skip (.exit 0))
 (.seq (.block 1 (.seq (.reg r_mealy_runner_run_4)
 (.seq (.reg r_mealy_runner_run_5)
 (.seq (.reg r_mealy_runner_run_6)
 (.reg r_mealy_runner_run_7)))))
 (.reg r_mealy_runner_run_8))))
abbrev r_mealy_runner_run_9 : Reg := ⟨[⟨.mv (.v 7), none, false⟩, ⟨.mv (.t 0), none, false⟩], [(9, 0)], [0, 2, 3, 4, 7], none⟩
abbrev ir_mealy_runner_run : Fn := { np := 2, nv := 10, res := [(9, none)], body :=
(.seq (.reg r_mealy_runner_run_0)
 (.seq (.reg r_mealy_runner_run_1)
 (.seq (.seq (.reg r_mealy_runner_run_2)
 (.block 0 (.loop b_mealy_runner_run_0)))
 (.seq (.reg r_mealy_runner_run_9)
 .ret)))) }
/- f86 ref09_Extended : 0:w 1:a 2:out 3:_ -/
abbrev r_ref09_Extended_0 : Reg := ⟨[⟨.mv (.c (.snil)), none, false⟩], [], [3], none⟩
abbrev r_ref09_Extended_1 : Reg := ⟨[⟨.nl none, none, false⟩], [(2, 0)], [], none⟩
abbrev r_ref09_Extended_2 : Reg := ⟨[⟨.mv (.v 2), none, false⟩, ⟨.mv (.v 0), none, false⟩, ⟨.appw (.t 1) (.t 0) none, none, false⟩, ⟨.mv (.t 0), none, false⟩], [(2, 0)], [0], none⟩
abbrev r_ref09_Extended_3 : Reg := ⟨[⟨.mv (.v 2), none, false⟩, ⟨.mv (.v 1), none, false⟩, ⟨.lita [(.t 0)] 1, none, false⟩, ⟨.appw (.t 2) (.t 0) none, none, false⟩, ⟨.mv (.t 0), none, false⟩], [(2, 0)], [1], none⟩
abbrev r_ref09_Extended_4 : Reg := ⟨[⟨.mv (.v 2), none, false⟩, ⟨.mv (.t 0), none, false⟩], [(3, 0)], [2], none⟩
abbrev ir_ref09_Extended : Fn := { np := 2, nv := 4, res := [(3, none)], body :=
(.seq (.reg r_ref09_Extended_0)
 (.seq (.reg r_ref09_Extended_1)
 (.seq (.reg r_ref09_Extended_2)
 (.seq (.reg r_ref09_Extended_3)
 (.seq (.reg r_ref09_Extended_4)
 .ret))))) }
/- f87 ref06_Outs : 0:m 1:s 2:w 3:i 4:out 5:m 6:_ 7:_ -/
abbrev r_ref06_Outs_0 : Reg := ⟨[⟨.bxi (.v 0), none, false⟩, ⟨.mv (.c (.snil)), none, false⟩, ⟨.mv (.c (.int (0))), none, false⟩], [(5, 2)], [0, 6, 7], none⟩
abbrev r_ref06_Outs_1 : Reg := ⟨[⟨.nl none, none, false⟩], [(4, 0)], [], none⟩
abbrev r_ref06_Outs_2 : Reg := ⟨[⟨.mv (.c (.int (0))), none, false⟩], [(3, 0)], [], none⟩
abbrev r_ref06_Outs_3 : Reg := ⟨[⟨.mv (.v 3), none, false⟩, ⟨.mv (.v 2), none, false⟩, ⟨.len (.t 0), none, false⟩, ⟨.bin .lss (.t 2) (.t 0), none, false⟩], [], [], some (13, 0)⟩
abbrev r_ref06_Outs_5 : Reg := ⟨[⟨.mv (.v 4), none, false⟩, ⟨.fad (.v 5) 3 none, none, false⟩, ⟨.ldi (.t 0) none, none, false⟩, ⟨.mv (.v 1), none, false⟩, ⟨.iad (.t 1) (.t 0) 1, none, false⟩, ⟨.ldi (.t 0) none, none, false⟩, ⟨.mv (.v 2), none, false⟩, ⟨.mv (.v 3), none, false⟩, ⟨.iad (.t 1) (.t 0) 1, none, false⟩, ⟨.ld (.t 0) none, none, false⟩, ⟨.iad (.t 4) (.t 0) 1, none, false⟩, ⟨.ldi (.t 0) none, none, false⟩, ⟨.lita [(.t 0)] 1, none, false⟩, ⟨.app (.t 12) (.t 0) none, none, false⟩, ⟨.mv (.t 0), none, false⟩], [(4, 0)], [], none⟩
abbrev r_ref06_Outs_6 : Reg := ⟨[⟨.fad (.v 5) 2 none, none, false⟩, ⟨.ldi (.t 0) none, none, false⟩, ⟨.mv (.v 1), none, false⟩, ⟨.iad (.t 1) (.t 0) 1, none, false⟩, ⟨.ldi (.t 0) none, none, false⟩, ⟨.mv (.v 2), none, false⟩, ⟨.mv (.v 3), none, false⟩, ⟨.iad (.t 1) (.t 0) 1, none, false⟩, ⟨.ld (.t 0) none, none, false⟩, ⟨.iad (.t 4) (.t 0) 1, none, false⟩, ⟨.ldi (.t 0) none, none, false⟩, ⟨.mv (.t 0), none, false⟩], [(1, 0)], [], none⟩
abbrev r_ref06_Outs_4 : Reg := ⟨[⟨.mv (.v 3), none, false⟩, ⟨.bin .add (.t 0) (.c (.int (1))), none, false⟩, ⟨.mv (.t 0), none, false⟩], [(3, 0)], [], none⟩
abbrev b_ref06_Outs_0 : IC := (.seq (.seq (.reg r_ref06_Outs_3)
 (.cond 13 .skip (.exit 0)))
 (.seq (.block 1 (.seq (.reg r_ref06_Outs_5)
 (.reg r_ref06_Outs_6)))
 (.reg r_ref06_Outs_4)))
abbrev r_ref06_Outs_7 : Reg := ⟨[⟨.mv (.v 4), none, false⟩, ⟨.mv (.v 1), none, false⟩, ⟨.mv (.t 1), none, false⟩, ⟨.mv (.t 1), none, false⟩], [(6, 1), (7, 0)], [1, 2, 3, 4, 5], none⟩
abbrev ir_ref06_Outs : Fn := { np := 3, nv := 8, res := [(6, none), (7, none)], body :=
(.seq (.reg r_ref06_Outs_0)
 (.seq (.reg r_ref06_Outs_1)
 (.seq (.seq (.reg r_ref06_Outs_2)
 (.block 0 (.loop b_ref06_Outs_0)))
 (.seq (.reg r_ref06_Outs_7)
 .ret)))) }
/- f88 slices_Grow_Sint_int : 0:s 1:n 2:_ -/
abbrev r_slices_Grow_Sint_int_0 : Reg := ⟨[⟨.mv (.c (.snil)), none, false⟩], [], [2], none⟩
abbrev r_slices_Grow_Sint_int_1 : Reg := ⟨[⟨.mv (.v 1), none, false⟩, ⟨.bin .lss (.t 0) (.c (.int (0))), none, false⟩], [], [], some (6, 0)⟩
abbrev r_slices_Grow_Sint_int_3 : Reg := ⟨[⟨.mv (.v 1), none, false⟩, ⟨.mv (.v 0), none, false⟩, ⟨.capn (.t 0), none, false⟩, ⟨.mv (.v 0), none, false⟩, ⟨.len (.t 0), none, false⟩, ⟨.bin .sub (.t 2) (.t 0), none, false⟩, ⟨.bin .sub (.t 5) (.t 0), none, false⟩, ⟨.mv (.t 0), none, false⟩], [(1, 0)], [], none⟩
abbrev r_slices_Grow_Sint_int_4 : Reg := ⟨[⟨.mv (.v 1), none, false⟩, ⟨.bin .gtr (.t 0) (.c (.int (0))), none, false⟩], [], [], some (16, 0)⟩
abbrev r_slices_Grow_Sint_int_5 : Reg := ⟨[⟨.mv (.v 0), none, false⟩, ⟨.mv (.v 0), none, false⟩, ⟨.capn (.t 0), none, false⟩, ⟨.slc (.t 2) none (some (.t 0)) 1, none, false⟩, ⟨.mv (.v 1), none, false⟩, ⟨.appw (.t 1) (.t 0) none, none, false⟩, ⟨.mv (.v 0), none, false⟩, ⟨.len (.t 0), none, false⟩, ⟨.slc (.t 2) none (some (.t 0)) 1, none, false⟩, ⟨.mv (.t 0), none, false⟩], [(0, 0)], [1], none⟩
abbrev r_slices_Grow_Sint_int_6 : Reg := ⟨[⟨.mv (.v 0), none, false⟩, ⟨.mv (.t 0), none, false⟩], [(2, 0)], [0, 1], none⟩
abbrev ir_slices_Grow_Sint_int : Fn := { np := 2, nv := 3, res := [(2, none)], body :=
(.seq (.reg r_slices_Grow_Sint_int_0)
 (.seq (.seq (.reg r_slices_Grow_Sint_int_1)
 (.cond 6 .bad .skip))
 (.seq (.seq (.reg r_slices_Grow_Sint_int_3)
 (.seq (.reg r_slices_Grow_Sint_int_4)
 (.cond 16 (.reg r_slices_Grow_Sint_int_5) .skip)))
 (.seq (.reg r_slices_Grow_Sint_int_6)
 .ret)))) }
/- f89 slices_order2Ordered_int : 0:data 1:a 2:b 3:swaps 4:_ 5:_ -/
abbrev r_slices_order2Ordered_int_0 : Reg := ⟨[⟨.mv (.c (.int (0))), none, false⟩, ⟨.mv (.c (.int (0))), none, false⟩], [], [4, 5], none⟩
abbrev r_slices_order2Ordered_int_1 : Reg := ⟨[⟨.mv (.v 0), none, false⟩, ⟨.mv (.v 2), none, false⟩, ⟨.iad (.t 1) (.t 0) 1, none, false⟩, ⟨.ld (.t 0) none, none, false⟩, ⟨.mv (.v 0), none, false⟩, ⟨.mv (.v 1), none, false⟩, ⟨.iad (.t 1) (.t 0) 1, none, false⟩, ⟨.ld (.t 0) none, none, false⟩, ⟨.cal F_cmp_Less_int [(.t 4), (.t 0)], none, false⟩], [], [0], some (18, 0)⟩
abbrev r_slices_order2Ordered_int_2 : Reg := ⟨[⟨.mv (.v 3), none, false⟩, ⟨.nck (.t 0), none, false⟩, ⟨.ld (.t 0) none, none, false⟩, ⟨.bin .add (.t 0) (.c (.int (1))), none, false⟩, ⟨.nck (.t 3), none, false⟩, ⟨.st (.t 0) (.t 1) 1, none, false⟩], [], [3], none⟩
abbrev r_slices_order2Ordered_int_3 : Reg := ⟨[⟨.mv (.v 2), none, false⟩, ⟨.mv (.v 1), none, false⟩, ⟨.mv (.t 1), none, false⟩, ⟨.mv (.t 1), none, false⟩], [(4, 1), (5, 0)], [1, 2], none⟩
abbrev r_slices_order2Ordered_int_4 : Reg := ⟨[⟨.mv (.v 1), none, false⟩, ⟨.mv (.v 2), none, false⟩, ⟨.mv (.t 1), none, false⟩, ⟨.mv (.t 1), none, false⟩], [(4, 1), (5, 0)], [1, 2, 3], none⟩
abbrev ir_slices_order2Ordered_int : Fn := { np := 4, nv := 6, res := [(4, none), (5, none)], body :=
(.seq (.reg r_slices_order2Ordered_int_0)
 (.seq (.seq (.reg r_slices_order2Ordered_int_1)
 (.cond 18 (.seq (.reg r_slices_order2Ordered_int_2)
 (.seq (.reg r_slices_order2Ordered_int_3)
 .ret)) .skip))
 (.seq (.reg r_slices_order2Ordered_int_4)
 .ret))) }
/- f90 mealy_machine_move : 0:m 1:s 2:a 3:m 4:_ 5:_ -/
abbrev r_mealy_machine_move_0 : Reg := ⟨[⟨.bxi (.v 0), none, false⟩, ⟨.mv (.c (.int (0))), none, false⟩, ⟨.mv (.c (.int (0))), none, false⟩], [(3, 2)], [0, 4, 5], none⟩
abbrev r_mealy_machine_move_1 : Reg := ⟨[⟨.fad (.v 3) 0 (some 4), none, false⟩, ⟨.fad (.t 0) 2 none, none, false⟩, ⟨.ldi (.t 0) none, none, false⟩, ⟨.mv (.v 1), none, false⟩, ⟨.iad (.t 1) (.t 0) 1, none, false⟩, ⟨.ldi (.t 0) none, none, false⟩, ⟨.mv (.v 2), none, false⟩, ⟨.iad (.t 1) (.t 0) 1, none, false⟩, ⟨.ldi (.t 0) none, none, false⟩, ⟨.fad (.v 3) 0 (some 4), none, false⟩, ⟨.fad (.t 0) 3 none, none, false⟩, ⟨.ldi (.t 0) none, none, false⟩, ⟨.mv (.v 1), none, false⟩, ⟨.iad (.t 1) (.t 0) 1, none, false⟩, ⟨.ldi (.t 0) none, none, false⟩, ⟨.mv (.v 2), none, false⟩, ⟨.iad (.t 1) (.t 0) 1, none, false⟩, ⟨.ldi (.t 0) none, none, false⟩, ⟨.mv (.t 9), none, false⟩, ⟨.mv (.t 1), none, false⟩], [(4, 1), (5, 0)], [1, 2, 3], none⟩
abbrev ir_mealy_machine_move : Fn := { np := 3, nv := 6, res := [(4, none), (5, none)], body :=
(.seq (.reg r_mealy_machine_move_0)
 (.seq (.reg r_mealy_machine_move_1)
 .ret)) }
end Ab
