/- The functions of the program as small texts, printed by a tool of mine. Condition: none. -/
import Derived.Test.YtbpkebkldaifgaaIr0
set_option linter.all false
namespace Ab
/- f75 slices_partitionEqualCmpFunc_Sint : 0:data 1:a 2:b 3:pivot 4:cmp 5:i 6:j 7:newpivot -/
abbrev r_slices_partitionEqualCmpFunc_Sint_0 : Reg := ⟨[⟨.mv (.c (.int (0))), none, false⟩], [], [7], none⟩
abbrev r_slices_partitionEqualCmpFunc_Sint_1 : Reg := ⟨[⟨.mv (.v 0), none, false⟩, ⟨.mv (.v 1), none, false⟩, ⟨.mv (.v 0), none, false⟩, ⟨.mv (.v 3), none, false⟩, ⟨.mv (.v 0), none, false⟩, ⟨.mv (.v 3), none, false⟩, ⟨.iad (.t 1) (.t 0) 1, none, false⟩, ⟨.ld (.t 0) none, none, false⟩, ⟨.mv (.v 0), none, false⟩, ⟨.mv (.v 1), none, false⟩, ⟨.iad (.t 1) (.t 0) 1, none, false⟩, ⟨.ld (.t 0) none, none, false⟩, ⟨.iad (.t 11) (.t 10) 1, none, false⟩, ⟨.st (.t 0) (.t 5) 1, none, false⟩, ⟨.iad (.t 11) (.t 10) 1, none, false⟩, ⟨.st (.t 0) (.t 3) 1, none, false⟩], [], [3], none⟩
abbrev r_slices_partitionEqualCmpFunc_Sint_2 : Reg := ⟨[⟨.mv (.v 1), none, false⟩, ⟨.bin .add (.t 0) (.c (.int (1))), none, false⟩, ⟨.mv (.v 2), none, false⟩, ⟨.bin .sub (.t 0) (.c (.int (1))), none, false⟩, ⟨.mv (.t 2), none, false⟩, ⟨.mv (.t 1), none, false⟩], [(5, 1), (6, 0)], [2], none⟩
abbrev r_slices_partitionEqualCmpFunc_Sint_3 : Reg := ⟨[⟨.mv (.v 5), none, false⟩, ⟨.mv (.v 6), none, false⟩, ⟨.bin .leq (.t 1) (.t 0), none, false⟩, ⟨.mv (.t 0), none, false⟩, ⟨.mv (.v 4), some (.t 0, true), false⟩, ⟨.mv (.v 0), some (.t 1, true), false⟩, ⟨.mv (.v 1), some (.t 2, true), false⟩, ⟨.iad (.t 1) (.t 0) 1, some (.t 3, true), false⟩, ⟨.ld (.t 0) none, some (.t 4, true), false⟩, ⟨.mv (.v 0), some (.t 5, true), false⟩, ⟨.mv (.v 5), some (.t 6, true), false⟩, ⟨.iad (.t 1) (.t 0) 1, some (.t 7, true), false⟩, ⟨.ld (.t 0) none, some (.t 8, true), false⟩, ⟨.cald (.t 8) [(.t 4), (.t 0)], some (.t 9, true), false⟩, ⟨.bin .lss (.t 0) (.c (.int (0))), some (.t 10, true), false⟩, ⟨.not (.t 0), some (.t 11, true), false⟩, ⟨.pick (.t 12) (.t 0) (.c (.bool false)), none, false⟩], [], [], some (47, 0)⟩
abbrev r_slices_partitionEqualCmpFunc_Sint_4 : Reg := ⟨[⟨.mv (.v 5), none, false⟩, ⟨.bin .add (.t 0) (.c (.int (1))), none, false⟩, ⟨.mv (.t 0), none, false⟩], [(5, 0)], [], none⟩
abbrev b_slices_partitionEqualCmpFunc_Sint_2 : IC := (.seq (.seq (.reg r_slices_partitionEqualCmpFunc_Sint_3)
 (.cond 47 .skip (.exit 2)))
 (.block 3 (.reg r_slices_partitionEqualCmpFunc_Sint_4)))
abbrev r_slices_partitionEqualCmpFunc_Sint_5 : Reg := ⟨[⟨.mv (.v 5), none, false⟩, ⟨.mv (.v 6), none, false⟩, ⟨.bin .leq (.t 1) (.t 0), none, false⟩, ⟨.mv (.t 0), none, false⟩, ⟨.mv (.v 4), some (.t 0, true), false⟩, ⟨.mv (.v 0), some (.t 1, true), false⟩, ⟨.mv (.v 1), some (.t 2, true), false⟩, ⟨.iad (.t 1) (.t 0) 1, some (.t 3, true), false⟩, ⟨.ld (.t 0) none, some (.t 4, true), false⟩, ⟨.mv (.v 0), some (.t 5, true), false⟩, ⟨.mv (.v 6), some (.t 6, true), false⟩, ⟨.iad (.t 1) (.t 0) 1, some (.t 7, true), false⟩, ⟨.ld (.t 0) none, some (.t 8, true), false⟩, ⟨.cald (.t 8) [(.t 4), (.t 0)], some (.t 9, true), false⟩, ⟨.bin .lss (.t 0) (.c (.int (0))), some (.t 10, true), false⟩, ⟨.pick (.t 11) (.t 0) (.c (.bool false)), none, false⟩], [], [], some (65, 0)⟩
abbrev r_slices_partitionEqualCmpFunc_Sint_6 : Reg := ⟨[⟨.mv (.v 6), none, false⟩, ⟨.bin .sub (.t 0) (.c (.int (1))), none, false⟩, ⟨.mv (.t 0), none, false⟩], [(6, 0)], [], none⟩
abbrev b_slices_partitionEqualCmpFunc_Sint_4 : IC := (.seq (.seq (.reg r_slices_partitionEqualCmpFunc_Sint_5)
 (.cond 65 .skip (.exit 4)))
 (.block 5 (.reg r_slices_partitionEqualCmpFunc_Sint_6)))
abbrev r_slices_partitionEqualCmpFunc_Sint_7 : Reg := ⟨[⟨.mv (.v 5), none, false⟩, ⟨.mv (.v 6), none, false⟩, ⟨.bin .gtr (.t 1) (.t 0), none, false⟩], [], [], some (70, 0)⟩
abbrev r_slices_partitionEqualCmpFunc_Sint_8 : Reg := ⟨[⟨.mv (.v 0), none, false⟩, ⟨.mv (.v 5), none, false⟩, ⟨.mv (.v 0), none, false⟩, ⟨.mv (.v 6), none, false⟩, ⟨.mv (.v 0), none, false⟩, ⟨.mv (.v 6), none, false⟩, ⟨.iad (.t 1) (.t 0) 1, none, false⟩, ⟨.ld (.t 0) none, none, false⟩, ⟨.mv (.v 0), none, false⟩, ⟨.mv (.v 5), none, false⟩, ⟨.iad (.t 1) (.t 0) 1, none, false⟩, ⟨.ld (.t 0) none, none, false⟩, ⟨.iad (.t 11) (.t 10) 1, none, false⟩, ⟨.st (.t 0) (.t 5) 1, none, false⟩, ⟨.iad (.t 11) (.t 10) 1, none, false⟩, ⟨.st (.t 0) (.t 3) 1, none, false⟩], [], [], none⟩
abbrev r_slices_partitionEqualCmpFunc_Sint_9 : Reg := ⟨[⟨.mv (.v 5), none, false⟩, ⟨.bin .add (.t 0) (.c (.int (1))), none, false⟩, ⟨.mv (.t 0), none, false⟩], [(5, 0)], [], none⟩
abbrev r_slices_partitionEqualCmpFunc_Sint_10 : Reg := ⟨[⟨.mv (.v 6), none, false⟩, ⟨.bin .sub (.t 0) (.c (.int (1))), none, false⟩, ⟨.mv (.t 0), none, false⟩], [(6, 0)], [], none⟩
abbrev b_slices_partitionEqualCmpFunc_Sint_0 : IC := (.block 1 (.seq (.block 2 (.loop b_slices_partitionEqualCmpFunc_Sint_2))
 (.seq (.block 4 (.loop b_slices_partitionEqualCmpFunc_Sint_4))
 (.seq (.seq (.reg r_slices_partitionEqualCmpFunc_Sint_7)
 (.cond 70 (.exit 0) .skip))
 (.seq (.reg r_slices_partitionEqualCmpFunc_Sint_8)
 (.seq (.reg r_slices_partitionEqualCmpFunc_Sint_9)
 (.reg r_slices_partitionEqualCmpFunc_Sint_10)))))))
abbrev r_slices_partitionEqualCmpFunc_Sint_11 : Reg := ⟨[⟨.mv (.v 5), none, false⟩, ⟨.mv (.t 0), none, false⟩], [(7, 0)], [0, 1, 4, 5, 6], none⟩
abbrev ir_slices_partitionEqualCmpFunc_Sint : Fn := { np := 5, nv := 8, res := [(7, none)], body :=
(.seq (.reg r_slices_partitionEqualCmpFunc_Sint_0)
 (.seq (.reg r_slices_partitionEqualCmpFunc_Sint_1)
 (.seq (.reg r_slices_partitionEqualCmpFunc_Sint_2)
 (.seq (.block 0 (.loop b_slices_partitionEqualCmpFunc_Sint_0))
 (.seq (.reg r_slices_partitionEqualCmpFunc_Sint_11)
 .ret))))) }
/- f76 slices_partitionCmpFunc_Sint : 0:data 1:a 2:b 3:pivot 4:cmp 5:i 6:j 7:newpivot 8:alreadyPartitioned -/
abbrev r_slices_partitionCmpFunc_Sint_0 : Reg := ⟨[⟨.mv (.c (.int (0))), none, false⟩, ⟨.mv (.c (.bool false)), none, false⟩], [], [7, 8], none⟩
abbrev r_slices_partitionCmpFunc_Sint_1 : Reg := ⟨[⟨.mv (.v 0), none, false⟩, ⟨.mv (.v 1), none, false⟩, ⟨.mv (.v 0), none, false⟩, ⟨.mv (.v 3), none, false⟩, ⟨.mv (.v 0), none, false⟩, ⟨.mv (.v 3), none, false⟩, ⟨.iad (.t 1) (.t 0) 1, none, false⟩, ⟨.ld (.t 0) none, none, false⟩, ⟨.mv (.v 0), none, false⟩, ⟨.mv (.v 1), none, false⟩, ⟨.iad (.t 1) (.t 0) 1, none, false⟩, ⟨.ld (.t 0) none, none, false⟩, ⟨.iad (.t 11) (.t 10) 1, none, false⟩, ⟨.st (.t 0) (.t 5) 1, none, false⟩, ⟨.iad (.t 11) (.t 10) 1, none, false⟩, ⟨.st (.t 0) (.t 3) 1, none, false⟩], [], [3], none⟩
abbrev r_slices_partitionCmpFunc_Sint_2 : Reg := ⟨[⟨.mv (.v 1), none, false⟩, ⟨.bin .add (.t 0) (.c (.int (1))), none, false⟩, ⟨.mv (.v 2), none, false⟩, ⟨.bin .sub (.t 0) (.c (.int (1))), none, false⟩, ⟨.mv (.t 2), none, false⟩, ⟨.mv (.t 1), none, false⟩], [(5, 1), (6, 0)], [2], none⟩
abbrev r_slices_partitionCmpFunc_Sint_3 : Reg := ⟨[⟨.mv (.v 5), none, false⟩, ⟨.mv (.v 6), none, false⟩, ⟨.bin .leq (.t 1) (.t 0), none, false⟩, ⟨.mv (.t 0), none, false⟩, ⟨.mv (.v 4), some (.t 0, true), false⟩, ⟨.mv (.v 0), some (.t 1, true), false⟩, ⟨.mv (.v 5), some (.t 2, true), false⟩, ⟨.iad (.t 1) (.t 0) 1, some (.t 3, true), false⟩, ⟨.ld (.t 0) none, some (.t 4, true), false⟩, ⟨.mv (.v 0), some (.t 5, true), false⟩, ⟨.mv (.v 1), some (.t 6, true), false⟩, ⟨.iad (.t 1) (.t 0) 1, some (.t 7, true), false⟩, ⟨.ld (.t 0) none, some (.t 8, true), false⟩, ⟨.cald (.t 8) [(.t 4), (.t 0)], some (.t 9, true), false⟩, ⟨.bin .lss (.t 0) (.c (.int (0))), some (.t 10, true), false⟩, ⟨.pick (.t 11) (.t 0) (.c (.bool false)), none, false⟩], [], [], some (47, 0)⟩
abbrev r_slices_partitionCmpFunc_Sint_4 : Reg := ⟨[⟨.mv (.v 5), none, false⟩, ⟨.bin .add (.t 0) (.c (.int (1))), none, false⟩, ⟨.mv (.t 0), none, false⟩], [(5, 0)], [], none⟩
abbrev b_slices_partitionCmpFunc_Sint_0 : IC := (.seq (.seq (.reg r_slices_partitionCmpFunc_Sint_3)
 (.cond 47 .skip (.exit 0)))
 (.block 1 (.reg r_slices_partitionCmpFunc_Sint_4)))
abbrev r_slices_partitionCmpFunc_Sint_5 : Reg := ⟨[⟨.mv (.v 5), none, false⟩, ⟨.mv (.v 6), none, false⟩, ⟨.bin .leq (.t 1) (.t 0), none, false⟩, ⟨.mv (.t 0), none, false⟩, ⟨.mv (.v 4), some (.t 0, true), false⟩, ⟨.mv (.v 0), some (.t 1, true), false⟩, ⟨.mv (.v 6), some (.t 2, true), false⟩, ⟨.iad (.t 1) (.t 0) 1, some (.t 3, true), false⟩, ⟨.ld (.t 0) none, some (.t 4, true), false⟩, ⟨.mv (.v 0), some (.t 5, true), false⟩, ⟨.mv (.v 1), some (.t 6, true), false⟩, ⟨.iad (.t 1) (.t 0) 1, some (.t 7, true), false⟩, ⟨.ld (.t 0) none, some (.t 8, true), false⟩, ⟨.cald (.t 8) [(.t 4), (.t 0)], some (.t 9, true), false⟩, ⟨.bin .lss (.t 0) (.c (.int (0))), some (.t 10, true), false⟩, ⟨.not (.t 0), some (.t 11, true), false⟩, ⟨.pick (.t 12) (.t 0) (.c (.bool false)), none, false⟩], [], [], some (66, 0)⟩
abbrev r_slices_partitionCmpFunc_Sint_6 : Reg := ⟨[⟨.mv (.v 6), none, false⟩, ⟨.bin .sub (.t 0) (.c (.int (1))), none, false⟩, ⟨.mv (.t 0), none, false⟩], [(6, 0)], [], none⟩
abbrev b_slices_partitionCmpFunc_Sint_2 : IC := (.seq (.seq (.reg r_slices_partitionCmpFunc_Sint_5)
 (.cond 66 .skip (.exit 2)))
 (.block 3 (.reg r_slices_partitionCmpFunc_Sint_6)))
abbrev r_slices_partitionCmpFunc_Sint_7 : Reg := ⟨[⟨.mv (.v 5), none, false⟩, ⟨.mv (.v 6), none, false⟩, ⟨.bin .gtr (.t 1) (.t 0), none, false⟩], [], [], some (71, 0)⟩
abbrev r_slices_partitionCmpFunc_Sint_8 : Reg := ⟨[⟨.mv (.v 0), none, false⟩, ⟨.mv (.v 6), none, false⟩, ⟨.mv (.v 0), none, false⟩, ⟨.mv (.v 1), none, false⟩, ⟨.mv (.v 0), none, false⟩, ⟨.mv (.v 1), none, false⟩, ⟨.iad (.t 1) (.t 0) 1, none, false⟩, ⟨.ld (.t 0) none, none, false⟩, ⟨.mv (.v 0), none, false⟩, ⟨.mv (.v 6), none, false⟩, ⟨.iad (.t 1) (.t 0) 1, none, false⟩, ⟨.ld (.t 0) none, none, false⟩, ⟨.iad (.t 11) (.t 10) 1, none, false⟩, ⟨.st (.t 0) (.t 5) 1, none, false⟩, ⟨.iad (.t 11) (.t 10) 1, none, false⟩, ⟨.st (.t 0) (.t 3) 1, none, false⟩], [], [0, 1, 4, 5], none⟩
abbrev r_slices_partitionCmpFunc_Sint_9 : Reg := ⟨[⟨.mv (.v 6), none, false⟩, ⟨.mv (.t 0), none, false⟩, ⟨.mv (.c (.bool true)), none, false⟩], [(7, 1), (8, 0)], [6], none⟩
abbrev r_slices_partitionCmpFunc_Sint_10 : Reg := ⟨[⟨.mv (.v 0), none, false⟩, ⟨.mv (.v 5), none, false⟩, ⟨.mv (.v 0), none, false⟩, ⟨.mv (.v 6), none, false⟩, ⟨.mv (.v 0), none, false⟩, ⟨.mv (.v 6), none, false⟩, ⟨.iad (.t 1) (.t 0) 1, none, false⟩, ⟨.ld (.t 0) none, none, false⟩, ⟨.mv (.v 0), none, false⟩, ⟨.mv (.v 5), none, false⟩, ⟨.iad (.t 1) (.t 0) 1, none, false⟩, ⟨.ld (.t 0) none, none, false⟩, ⟨.iad (.t 11) (.t 10) 1, none, false⟩, ⟨.st (.t 0) (.t 5) 1, none, false⟩, ⟨.iad (.t 11) (.t 10) 1, none, false⟩, ⟨.st (.t 0) (.t 3) 1, none, false⟩], [], [], none⟩
abbrev r_slices_partitionCmpFunc_Sint_11 : Reg := ⟨[⟨.mv (.v 5), none, false⟩, ⟨.bin .add (.t 0) (.c (.int (1))), none, false⟩, ⟨.mv (.t 0), none, false⟩], [(5, 0)], [], none⟩
abbrev r_slices_partitionCmpFunc_Sint_12 : Reg := ⟨[⟨.mv (.v 6), none, false⟩, ⟨.bin .sub (.t 0) (.c (.int (1))), none, false⟩, ⟨.mv (.t 0), none, false⟩], [(6, 0)], [], none⟩
abbrev r_slices_partitionCmpFunc_Sint_13 : Reg := ⟨[⟨.mv (.v 5), none, false⟩, ⟨.mv (.v 6), none, false⟩, ⟨.bin .leq (.t 1) (.t 0), none, false⟩, ⟨.mv (.t 0), none, false⟩, ⟨.mv (.v 4), some (.t 0, true), false⟩, ⟨.mv (.v 0), some (.t 1, true), false⟩, ⟨.mv (.v 5), some (.t 2, true), false⟩, ⟨.iad (.t 1) (.t 0) 1, some (.t 3, true), false⟩, ⟨.ld (.t 0) none, some (.t 4, true), false⟩, ⟨.mv (.v 0), some (.t 5, true), false⟩, ⟨.mv (.v 1), some (.t 6, true), false⟩, ⟨.iad (.t 1) (.t 0) 1, some (.t 7, true), false⟩, ⟨.ld (.t 0) none, some (.t 8, true), false⟩, ⟨.cald (.t 8) [(.t 4), (.t 0)], some (.t 9, true), false⟩, ⟨.bin .lss (.t 0) (.c (.int (0))), some (.t 10, true), false⟩, ⟨.pick (.t 11) (.t 0) (.c (.bool false)), none, false⟩], [], [], some (120, 0)⟩
abbrev r_slices_partitionCmpFunc_Sint_14 : Reg := ⟨[⟨.mv (.v 5), none, false⟩, ⟨.bin .add (.t 0) (.c (.int (1))), none, false⟩, ⟨.mv (.t 0), none, false⟩], [(5, 0)], [], none⟩
abbrev b_slices_partitionCmpFunc_Sint_6 : IC := (.seq (.seq (.reg r_slices_partitionCmpFunc_Sint_13)
 (.cond 120 .skip (.exit 6)))
 (.block 7 (.reg r_slices_partitionCmpFunc_Sint_14)))
abbrev r_slices_partitionCmpFunc_Sint_15 : Reg := ⟨[⟨.mv (.v 5), none, false⟩, ⟨.mv (.v 6), none, false⟩, ⟨.bin .leq (.t 1) (.t 0), none, false⟩, ⟨.mv (.t 0), none, false⟩, ⟨.mv (.v 4), some (.t 0, true), false⟩, ⟨.mv (.v 0), some (.t 1, true), false⟩, ⟨.mv (.v 6), some (.t 2, true), false⟩, ⟨.iad (.t 1) (.t 0) 1, some (.t 3, true), false⟩, ⟨.ld (.t 0) none, some (.t 4, true), false⟩, ⟨.mv (.v 0), some (.t 5, true), false⟩, ⟨.mv (.v 1), some (.t 6, true), false⟩, ⟨.iad (.t 1) (.t 0) 1, some (.t 7, true), false⟩, ⟨.ld (.t 0) none, some (.t 8, true), false⟩, ⟨.cald (.t 8) [(.t 4), (.t 0)], some (.t 9, true), false⟩, ⟨.bin .lss (.t 0) (.c (.int (0))), some (.t 10, true), false⟩, ⟨.not (.t 0), some (.t 11, true), false⟩, ⟨.pick (.t 12) (.t 0) (.c (.bool false)), none, false⟩], [], [], some (139, 0)⟩
abbrev r_slices_partitionCmpFunc_Sint_16 : Reg := ⟨[⟨.mv (.v 6), none, false⟩, ⟨.bin .sub (.t 0) (.c (.int (1))), none, false⟩, ⟨.mv (.t 0), none, false⟩], [(6, 0)], [], none⟩
abbrev b_slices_partitionCmpFunc_Sint_8 : IC := (.seq (.seq (.reg r_slices_partitionCmpFunc_Sint_15)
 (.cond 139 .skip (.exit 8)))
 (.block 9 (.reg r_slices_partitionCmpFunc_Sint_16)))
abbrev r_slices_partitionCmpFunc_Sint_17 : Reg := ⟨[⟨.mv (.v 5), none, false⟩, ⟨.mv (.v 6), none, false⟩, ⟨.bin .gtr (.t 1) (.t 0), none, false⟩], [], [], some (144, 0)⟩
abbrev r_slices_partitionCmpFunc_Sint_18 : Reg := ⟨[⟨.mv (.v 0), none, false⟩, ⟨.mv (.v 5), none, false⟩, ⟨.mv (.v 0), none, false⟩, ⟨.mv (.v 6), none, false⟩, ⟨.mv (.v 0), none, false⟩, ⟨.mv (.v 6), none, false⟩, ⟨.iad (.t 1) (.t 0) 1, none, false⟩, ⟨.ld (.t 0) none, none, false⟩, ⟨.mv (.v 0), none, false⟩, ⟨.mv (.v 5), none, false⟩, ⟨.iad (.t 1) (.t 0) 1, none, false⟩, ⟨.ld (.t 0) none, none, false⟩, ⟨.iad (.t 11) (.t 10) 1, none, false⟩, ⟨.st (.t 0) (.t 5) 1, none, false⟩, ⟨.iad (.t 11) (.t 10) 1, none, false⟩, ⟨.st (.t 0) (.t 3) 1, none, false⟩], [], [], none⟩
abbrev r_slices_partitionCmpFunc_Sint_19 : Reg := ⟨[⟨.mv (.v 5), none, false⟩, ⟨.bin .add (.t 0) (.c (.int (1))), none, false⟩, ⟨.mv (.t 0), none, false⟩], [(5, 0)], [], none⟩
abbrev r_slices_partitionCmpFunc_Sint_20 : Reg := ⟨[⟨.mv (.v 6), none, false⟩, ⟨.bin .sub (.t 0) (.c (.int (1))), none, false⟩, ⟨.mv (.t 0), none, false⟩], [(6, 0)], [], none⟩
abbrev b_slices_partitionCmpFunc_Sint_4 : IC := (.block 5 (.seq (.block 6 (.loop b_slices_partitionCmpFunc_Sint_6))
 (.seq (.block 8 (.loop b_slices_partitionCmpFunc_Sint_8))
 (.seq (.seq (.reg r_slices_partitionCmpFunc_Sint_17)
 (.cond 144 (.exit 4) .skip))
 (.seq (.reg r_slices_partitionCmpFunc_Sint_18)
 (.seq (.reg r_slices_partitionCmpFunc_Sint_19)
 (.reg r_slices_partitionCmpFunc_Sint_20)))))))
abbrev r_slices_partitionCmpFunc_Sint_21 : Reg := ⟨[⟨.mv (.v 0), none, false⟩, ⟨.mv (.v 6), none, false⟩, ⟨.mv (.v 0), none, false⟩, ⟨.mv (.v 1), none, false⟩, ⟨.mv (.v 0), none, false⟩, ⟨.mv (.v 1), none, false⟩, ⟨.iad (.t 1) (.t 0) 1, none, false⟩, ⟨.ld (.t 0) none, none, false⟩, ⟨.mv (.v 0), none, false⟩, ⟨.mv (.v 6), none, false⟩, ⟨.iad (.t 1) (.t 0) 1, none, false⟩, ⟨.ld (.t 0) none, none, false⟩, ⟨.iad (.t 11) (.t 10) 1, none, false⟩, ⟨.st (.t 0) (.t 5) 1, none, false⟩, ⟨.iad (.t 11) (.t 10) 1, none, false⟩, ⟨.st (.t 0) (.t 3) 1, none, false⟩], [], [0, 1, 4, 5], none⟩
abbrev r_slices_partitionCmpFunc_Sint_22 : Reg := ⟨[⟨.mv (.v 6), none, false⟩, ⟨.mv (.t 0), none, false⟩, ⟨.mv (.c (.bool false)), none, false⟩], [(7, 1), (8, 0)], [6], none⟩
abbrev ir_slices_partitionCmpFunc_Sint : Fn := { np := 5, nv := 9, res := [(7, none), (8, none)], body :=
(.seq (.reg r_slices_partitionCmpFunc_Sint_0)
 (.seq (.reg r_slices_partitionCmpFunc_Sint_1)
 (.seq (.reg r_slices_partitionCmpFunc_Sint_2)
 (.seq (.block 0 (.loop b_slices_partitionCmpFunc_Sint_0))
 (.seq (.block 2 (.loop b_slices_partitionCmpFunc_Sint_2))
 (.seq (.seq (.reg r_slices_partitionCmpFunc_Sint_7)
 (.cond 71 (.seq (.reg r_slices_partitionCmpFunc_Sint_8)
 (.seq (.reg r_slices_partitionCmpFunc_Sint_9)
 .ret)) .skip))
 (.seq (.reg r_slices_partitionCmpFunc_Sint_10)
 (.seq (.reg r_slices_partitionCmpFunc_Sint_11)
 (.seq (.reg r_slices_partitionCmpFunc_Sint_12)
 (.seq (.block 4 (.loop b_slices_partitionCmpFunc_Sint_4))
 (.seq (.reg r_slices_partitionCmpFunc_Sint_21)
 (.seq (.reg r_slices_partitionCmpFunc_Sint_22)
 .ret)))))))))))) }
/- f77 math_bits_Len32 : 0:x 1:n -/
abbrev r_math_bits_Len32_0 : Reg := ⟨[⟨.mv (.c (.int (0))), none, false⟩], [(1, 0)], [], none⟩
abbrev r_math_bits_Len32_3 : Reg := ⟨[⟨.mv (.c (.int (16))), none, false⟩], [(1, 0)], [], none⟩
abbrev r_math_bits_Len32_6 : Reg := ⟨[⟨.mv (.v 1), none, false⟩, ⟨.bin .add (.t 0) (.c (.int (8))), none, false⟩, ⟨.mv (.t 0), none, false⟩], [(1, 0)], [], none⟩
abbrev ir_math_bits_Len32 : Fn := { np := 1, nv := 2, res := [(1, none)], body :=
(.seq (.reg r_math_bits_Len32_0)
 (.seq (.seq .bad
 (.cond 4 (.seq .bad
 (.reg r_math_bits_Len32_3)) .skip))
 (.seq (.seq .bad
 (.cond 8 (.seq .bad
 (.reg r_math_bits_Len32_6)) .skip))
 (.seq .bad
 .ret)))) }
/- f78 math_bits_Len64 : 0:x 1:n -/
abbrev r_math_bits_Len64_0 : Reg := ⟨[⟨.mv (.c (.int (0))), none, false⟩], [(1, 0)], [], none⟩
abbrev r_math_bits_Len64_3 : Reg := ⟨[⟨.mv (.c (.int (32))), none, false⟩], [(1, 0)], [], none⟩
abbrev r_math_bits_Len64_6 : Reg := ⟨[⟨.mv (.v 1), none, false⟩, ⟨.bin .add (.t 0) (.c (.int (16))), none, false⟩, ⟨.mv (.t 0), none, false⟩], [(1, 0)], [], none⟩
abbrev r_math_bits_Len64_9 : Reg := ⟨[⟨.mv (.v 1), none, false⟩, ⟨.bin .add (.t 0) (.c (.int (8))), none, false⟩, ⟨.mv (.t 0), none, false⟩], [(1, 0)], [], none⟩
abbrev ir_math_bits_Len64 : Fn := { np := 1, nv := 2, res := [(1, none)], body :=
(.seq (.reg r_math_bits_Len64_0)
 (.seq (.seq .bad
 (.cond 4 (.seq .bad
 (.reg r_math_bits_Len64_3)) .skip))
 (.seq (.seq .bad
 (.cond 8 (.seq .bad
 (.reg r_math_bits_Len64_6)) .skip))
 (.seq (.seq .bad
 (.cond 14 (.seq .bad
 (.reg r_math_bits_Len64_9)) .skip))
 (.seq .bad
 .ret))))) }
/- f79 slices_siftDownCmpFunc_Sint : 0:data 1:lo 2:hi 3:first 4:cmp 5:root 6:child -/
abbrev r_slices_siftDownCmpFunc_Sint_0 : Reg := ⟨[⟨.mv (.v 1), none, false⟩, ⟨.mv (.t 0), none, false⟩], [(5, 0)], [1], none⟩
abbrev r_slices_siftDownCmpFunc_Sint_1 : Reg := ⟨[⟨.mv (.v 5), none, false⟩, ⟨.bin .mul (.c (.int (2))) (.t 0), none, false⟩, ⟨.bin .add (.t 0) (.c (.int (1))), none, false⟩, ⟨.mv (.t 0), none, false⟩], [(6, 0)], [], none⟩
abbrev r_slices_siftDownCmpFunc_Sint_2 : Reg := ⟨[⟨.mv (.v 6), none, false⟩, ⟨.mv (.v 2), none, false⟩, ⟨.bin .geq (.t 1) (.t 0), none, false⟩], [], [], some (18, 0)⟩
abbrev r_slices_siftDownCmpFunc_Sint_3 : Reg := ⟨[⟨.mv (.v 6), none, false⟩, ⟨.bin .add (.t 0) (.c (.int (1))), none, false⟩, ⟨.mv (.v 2), none, false⟩, ⟨.bin .lss (.t 1) (.t 0), none, false⟩, ⟨.mv (.t 0), none, false⟩, ⟨.mv (.v 4), some (.t 0, true), false⟩, ⟨.mv (.v 0), some (.t 1, true), false⟩, ⟨.mv (.v 3), some (.t 2, true), false⟩, ⟨.mv (.v 6), some (.t 3, true), false⟩, ⟨.bin .add (.t 1) (.t 0), some (.t 4, true), false⟩, ⟨.iad (.t 3) (.t 0) 1, some (.t 5, true), false⟩, ⟨.ld (.t 0) none, some (.t 6, true), false⟩, ⟨.mv (.v 0), some (.t 7, true), false⟩, ⟨.mv (.v 3), some (.t 8, true), false⟩, ⟨.mv (.v 6), some (.t 9, true), false⟩, ⟨.bin .add (.t 1) (.t 0), some (.t 10, true), false⟩, ⟨.bin .add (.t 0) (.c (.int (1))), some (.t 11, true), false⟩, ⟨.iad (.t 4) (.t 0) 1, some (.t 12, true), false⟩, ⟨.ld (.t 0) none, some (.t 13, true), false⟩, ⟨.cald (.t 13) [(.t 7), (.t 0)], some (.t 14, true), false⟩, ⟨.bin .lss (.t 0) (.c (.int (0))), some (.t 15, true), false⟩, ⟨.pick (.t 16) (.t 0) (.c (.bool false)), none, false⟩], [], [], some (40, 0)⟩
abbrev r_slices_siftDownCmpFunc_Sint_4 : Reg := ⟨[⟨.mv (.v 6), none, false⟩, ⟨.bin .add (.t 0) (.c (.int (1))), none, false⟩, ⟨.mv (.t 0), none, false⟩], [(6, 0)], [], none⟩
abbrev r_slices_siftDownCmpFunc_Sint_5 : Reg := ⟨[⟨.mv (.v 4), none, false⟩, ⟨.mv (.v 0), none, false⟩, ⟨.mv (.v 3), none, false⟩, ⟨.mv (.v 5), none, false⟩, ⟨.bin .add (.t 1) (.t 0), none, false⟩, ⟨.iad (.t 3) (.t 0) 1, none, false⟩, ⟨.ld (.t 0) none, none, false⟩, ⟨.mv (.v 0), none, false⟩, ⟨.mv (.v 3), none, false⟩, ⟨.mv (.v 6), none, false⟩, ⟨.bin .add (.t 1) (.t 0), none, false⟩, ⟨.iad (.t 3) (.t 0) 1, none, false⟩, ⟨.ld (.t 0) none, none, false⟩, ⟨.cald (.t 12) [(.t 6), (.t 0)], none, false⟩, ⟨.bin .lss (.t 0) (.c (.int (0))), none, false⟩, ⟨.not (.t 0), none, false⟩], [], [], some (58, 0)⟩
abbrev r_slices_siftDownCmpFunc_Sint_6 : Reg := ⟨[⟨.mv (.v 0), none, false⟩, ⟨.mv (.v 3), none, false⟩, ⟨.mv (.v 5), none, false⟩, ⟨.bin .add (.t 1) (.t 0), none, false⟩, ⟨.mv (.v 0), none, false⟩, ⟨.mv (.v 3), none, false⟩, ⟨.mv (.v 6), none, false⟩, ⟨.bin .add (.t 1) (.t 0), none, false⟩, ⟨.mv (.v 0), none, false⟩, ⟨.mv (.v 3), none, false⟩, ⟨.mv (.v 6), none, false⟩, ⟨.bin .add (.t 1) (.t 0), none, false⟩, ⟨.iad (.t 3) (.t 0) 1, none, false⟩, ⟨.ld (.t 0) none, none, false⟩, ⟨.mv (.v 0), none, false⟩, ⟨.mv (.v 3), none, false⟩, ⟨.mv (.v 5), none, false⟩, ⟨.bin .add (.t 1) (.t 0), none, false⟩, ⟨.iad (.t 3) (.t 0) 1, none, false⟩, ⟨.ld (.t 0) none, none, false⟩, ⟨.iad (.t 19) (.t 16) 1, none, false⟩, ⟨.st (.t 0) (.t 7) 1, none, false⟩, ⟨.iad (.t 17) (.t 14) 1, none, false⟩, ⟨.st (.t 0) (.t 3) 1, none, false⟩], [], [5], none⟩
abbrev r_slices_siftDownCmpFunc_Sint_7 : Reg := ⟨[⟨.mv (.v 6), none, false⟩, ⟨.mv (.t 0), none, false⟩], [(5, 0)], [6], none⟩
abbrev b_slices_siftDownCmpFunc_Sint_0 : IC := (.block 1 (.seq (.reg r_slices_siftDownCmpFunc_Sint_1)
 (.seq (.seq (.reg r_slices_siftDownCmpFunc_Sint_2)
 (.cond 18 (.exit 0) .skip))
 (.seq (.seq (.reg r_slices_siftDownCmpFunc_Sint_3)
 (.cond 40 (.reg r_slices_siftDownCmpFunc_Sint_4) .skip))
 (.seq (.seq (.reg r_slices_siftDownCmpFunc_Sint_5)
 (.cond 58 .ret .skip))
 (.seq (.reg r_slices_siftDownCmpFunc_Sint_6)
 (.reg r_slices_siftDownCmpFunc_Sint_7)))))))
abbrev ir_slices_siftDownCmpFunc_Sint : Fn := { np := 5, nv := 7, res := [], body :=
(.seq (.reg r_slices_siftDownCmpFunc_Sint_0)
 (.block 0 (.loop b_slices_siftDownCmpFunc_Sint_0))) }
/- f80 slices_nextPowerOfTwo : 0:length 1:_ -/
abbrev r_slices_nextPowerOfTwo_0 : Reg := ⟨[⟨.mv (.c (.ik 7 (0))), none, false⟩], [], [1], none⟩
abbrev ir_slices_nextPowerOfTwo : Fn := { np := 1, nv := 2, res := [(1, none)], body :=
(.seq (.reg r_slices_nextPowerOfTwo_0)
 (.seq .bad
 .ret)) }
/- f81 slices_xorshift_Next : 0:r 1:_ -/
abbrev r_slices_xorshift_Next_0 : Reg := ⟨[⟨.mv (.c (.ik 7 (0))), none, false⟩], [], [1], none⟩
abbrev r_slices_xorshift_Next_4 : Reg := ⟨[⟨.mv (.v 0), none, false⟩, ⟨.nck (.t 0), none, false⟩, ⟨.ld (.t 0) none, none, false⟩, ⟨.mv (.t 0), none, false⟩], [(1, 0)], [], none⟩
abbrev ir_slices_xorshift_Next : Fn := { np := 1, nv := 2, res := [(1, none)], body :=
(.seq (.reg r_slices_xorshift_Next_0)
 (.seq .bad
 (.seq .bad
 (.seq .bad
 (.seq (.reg r_slices_xorshift_Next_4)
 .ret))))) }
/- f82 slices_medianAdjacentCmpFunc_Sint : 0:data 1:a 2:swaps 3:cmp 4:_ -/
abbrev r_slices_medianAdjacentCmpFunc_Sint_0 : Reg := ⟨[⟨.mv (.c (.int (0))), none, false⟩], [], [4], none⟩
abbrev r_slices_medianAdjacentCmpFunc_Sint_1 : Reg := ⟨[⟨.mv (.v 0), none, false⟩, ⟨.mv (.v 1), none, false⟩, ⟨.bin .sub (.t 0) (.c (.int (1))), none, false⟩, ⟨.mv (.v 1), none, false⟩, ⟨.mv (.v 1), none, false⟩, ⟨.bin .add (.t 0) (.c (.int (1))), none, false⟩, ⟨.mv (.v 2), none, false⟩, ⟨.mv (.v 3), none, false⟩, ⟨.cal F_slices_medianCmpFunc_Sint [(.t 7), (.t 5), (.t 4), (.t 2), (.t 1), (.t 0)], none, false⟩, ⟨.mv (.t 0), none, false⟩], [(4, 0)], [0, 1, 2, 3], none⟩
abbrev ir_slices_medianAdjacentCmpFunc_Sint : Fn := { np := 4, nv := 5, res := [(4, none)], body :=
(.seq (.reg r_slices_medianAdjacentCmpFunc_Sint_0)
 (.seq (.reg r_slices_medianAdjacentCmpFunc_Sint_1)
 .ret)) }
/- f83 slices_medianCmpFunc_Sint : 0:data 1:a 2:b 3:c 4:swaps 5:cmp 6:_ -/
abbrev r_slices_medianCmpFunc_Sint_0 : Reg := ⟨[⟨.mv (.c (.int (0))), none, false⟩], [], [6], none⟩
abbrev r_slices_medianCmpFunc_Sint_1 : Reg := ⟨[⟨.mv (.v 0), none, false⟩, ⟨.mv (.v 1), none, false⟩, ⟨.mv (.v 2), none, false⟩, ⟨.mv (.v 4), none, false⟩, ⟨.mv (.v 5), none, false⟩, ⟨.cal F_slices_order2CmpFunc_Sint [(.t 4), (.t 3), (.t 2), (.t 1), (.t 0)], none, false⟩, ⟨.mv (.t 0), none, false⟩, ⟨.ext (.t 0) 0, none, false⟩, ⟨.ext (.t 1) 1, none, false⟩, ⟨.mv (.t 1), none, false⟩, ⟨.mv (.t 1), none, false⟩], [(1, 1), (2, 0)], [], none⟩
abbrev r_slices_medianCmpFunc_Sint_2 : Reg := ⟨[⟨.mv (.v 0), none, false⟩, ⟨.mv (.v 2), none, false⟩, ⟨.mv (.v 3), none, false⟩, ⟨.mv (.v 4), none, false⟩, ⟨.mv (.v 5), none, false⟩, ⟨.cal F_slices_order2CmpFunc_Sint [(.t 4), (.t 3), (.t 2), (.t 1), (.t 0)], none, false⟩, ⟨.mv (.t 0), none, false⟩, ⟨.ext (.t 0) 0, none, false⟩, ⟨.ext (.t 1) 1, none, false⟩, ⟨.mv (.t 1), none, false⟩, ⟨.mv (.t 1), none, false⟩], [(2, 1)], [3], none⟩
abbrev r_slices_medianCmpFunc_Sint_3 : Reg := ⟨[⟨.mv (.v 0), none, false⟩, ⟨.mv (.v 1), none, false⟩, ⟨.mv (.v 2), none, false⟩, ⟨.mv (.v 4), none, false⟩, ⟨.mv (.v 5), none, false⟩, ⟨.cal F_slices_order2CmpFunc_Sint [(.t 4), (.t 3), (.t 2), (.t 1), (.t 0)], none, false⟩, ⟨.mv (.t 0), none, false⟩, ⟨.ext (.t 0) 0, none, false⟩, ⟨.ext (.t 1) 1, none, false⟩, ⟨.mv (.t 1), none, false⟩, ⟨.mv (.t 1), none, false⟩], [(2, 0)], [0, 1, 4, 5], none⟩
abbrev r_slices_medianCmpFunc_Sint_4 : Reg := ⟨[⟨.mv (.v 2), none, false⟩, ⟨.mv (.t 0), none, false⟩], [(6, 0)], [2], none⟩
abbrev ir_slices_medianCmpFunc_Sint : Fn := { np := 6, nv := 7, res := [(6, none)], body :=
(.seq (.reg r_slices_medianCmpFunc_Sint_0)
 (.seq (.reg r_slices_medianCmpFunc_Sint_1)
 (.seq (.reg r_slices_medianCmpFunc_Sint_2)
 (.seq (.reg r_slices_medianCmpFunc_Sint_3)
 (.seq (.reg r_slices_medianCmpFunc_Sint_4)
 .ret))))) }
/- f84 slices_order2CmpFunc_Sint : 0:data 1:a 2:b 3:swaps 4:cmp 5:_ 6:_ -/
abbrev r_slices_order2CmpFunc_Sint_0 : Reg := ⟨[⟨.mv (.c (.int (0))), none, false⟩, ⟨.mv (.c (.int (0))), none, false⟩], [], [5, 6], none⟩
abbrev r_slices_order2CmpFunc_Sint_1 : Reg := ⟨[⟨.mv (.v 4), none, false⟩, ⟨.mv (.v 0), none, false⟩, ⟨.mv (.v 2), none, false⟩, ⟨.iad (.t 1) (.t 0) 1, none, false⟩, ⟨.ld (.t 0) none, none, false⟩, ⟨.mv (.v 0), none, false⟩, ⟨.mv (.v 1), none, false⟩, ⟨.iad (.t 1) (.t 0) 1, none, false⟩, ⟨.ld (.t 0) none, none, false⟩, ⟨.cald (.t 8) [(.t 4), (.t 0)], none, false⟩, ⟨.bin .lss (.t 0) (.c (.int (0))), none, false⟩], [], [0, 4], some (22, 0)⟩
abbrev r_slices_order2CmpFunc_Sint_2 : Reg := ⟨[⟨.mv (.v 3), none, false⟩, ⟨.nck (.t 0), none, false⟩, ⟨.ld (.t 0) none, none, false⟩, ⟨.bin .add (.t 0) (.c (.int (1))), none, false⟩, ⟨.nck (.t 3), none, false⟩, ⟨.st (.t 0) (.t 1) 1, none, false⟩], [], [3], none⟩
abbrev r_slices_order2CmpFunc_Sint_3 : Reg := ⟨[⟨.mv (.v 2), none, false⟩, ⟨.mv (.v 1), none, false⟩, ⟨.mv (.t 1), none, false⟩, ⟨.mv (.t 1), none, false⟩], [(5, 1), (6, 0)], [1, 2], none⟩
abbrev r_slices_order2CmpFunc_Sint_4 : Reg := ⟨[⟨.mv (.v 1), none, false⟩, ⟨.mv (.v 2), none, false⟩, ⟨.mv (.t 1), none, false⟩, ⟨.mv (.t 1), none, false⟩], [(5, 1), (6, 0)], [1, 2, 3], none⟩
abbrev ir_slices_order2CmpFunc_Sint : Fn := { np := 5, nv := 7, res := [(5, none), (6, none)], body :=
(.seq (.reg r_slices_order2CmpFunc_Sint_0)
 (.seq (.seq (.reg r_slices_order2CmpFunc_Sint_1)
 (.cond 22 (.seq (.reg r_slices_order2CmpFunc_Sint_2)
 (.seq (.reg r_slices_order2CmpFunc_Sint_3)
 .ret)) .skip))
 (.seq (.reg r_slices_order2CmpFunc_Sint_4)
 .ret))) }
end Ab
