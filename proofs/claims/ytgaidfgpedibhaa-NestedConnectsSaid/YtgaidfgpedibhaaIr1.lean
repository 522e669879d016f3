/- The functions of the program as small texts, printed by a tool of mine. Condition: none. -/
import Derived.Test.YtgaidfgpedibhaaIr0
set_option linter.all false
namespace Ab
/- f72 ref01_Common : 0:a 1:b 2:i 3:_ -/
abbrev r_ref01_Common_0 : Reg := ⟨[⟨.mv (.c (.int (0))), none, false⟩], [], [3], none⟩
abbrev r_ref01_Common_1 : Reg := ⟨[⟨.mv (.c (.int (0))), none, false⟩], [(2, 0)], [], none⟩
abbrev r_ref01_Common_2 : Reg := ⟨[⟨.mv (.v 2), none, false⟩, ⟨.mv (.v 0), none, false⟩, ⟨.len (.t 0), none, false⟩, ⟨.bin .lss (.t 2) (.t 0), none, false⟩, ⟨.mv (.t 0), none, false⟩, ⟨.mv (.v 2), some (.t 0, true), false⟩, ⟨.mv (.v 1), some (.t 1, true), false⟩, ⟨.len (.t 0), some (.t 2, true), false⟩, ⟨.bin .lss (.t 2) (.t 0), some (.t 3, true), false⟩, ⟨.pick (.t 4) (.t 0) (.c (.bool false)), none, false⟩, ⟨.mv (.t 0), none, false⟩, ⟨.mv (.v 0), some (.t 0, true), false⟩, ⟨.mv (.v 2), some (.t 1, true), false⟩, ⟨.iad (.t 1) (.t 0) 1, some (.t 2, true), false⟩, ⟨.ld (.t 0) none, some (.t 3, true), false⟩, ⟨.mv (.v 1), some (.t 4, true), false⟩, ⟨.mv (.v 2), some (.t 5, true), false⟩, ⟨.iad (.t 1) (.t 0) 1, some (.t 6, true), false⟩, ⟨.ld (.t 0) none, some (.t 7, true), false⟩, ⟨.bin .eql (.t 4) (.t 0), some (.t 8, true), false⟩, ⟨.pick (.t 9) (.t 0) (.c (.bool false)), none, false⟩], [], [], some (26, 0)⟩
abbrev r_ref01_Common_3 : Reg := ⟨[⟨.mv (.v 2), none, false⟩, ⟨.bin .add (.t 0) (.c (.int (1))), none, false⟩, ⟨.mv (.t 0), none, false⟩], [(2, 0)], [], none⟩
abbrev b_ref01_Common_0 : IC := (.seq (.seq (.reg r_ref01_Common_2)
 (.cond 26 .skip (.exit 0)))
 (.block 1 (.reg r_ref01_Common_3)))
abbrev r_ref01_Common_4 : Reg := ⟨[⟨.mv (.v 2), none, false⟩, ⟨.mv (.t 0), none, false⟩], [(3, 0)], [0, 1, 2], none⟩
abbrev ir_ref01_Common : Fn := { np := 2, nv := 4, res := [(3, none)], body :=
(.seq (.reg r_ref01_Common_0)
 (.seq (.reg r_ref01_Common_1)
 (.seq (.block 0 (.loop b_ref01_Common_0))
 (.seq (.reg r_ref01_Common_4)
 .ret)))) }
/- f73 slices_IndexFunc_Sint_int : 0:s 1:f 2:_ 3:_ 4:i 5:_ -/
abbrev r_slices_IndexFunc_Sint_int_0 : Reg := ⟨[⟨.mv (.c (.int (0))), none, false⟩], [], [5], none⟩
abbrev r_slices_IndexFunc_Sint_int_1 : Reg := ⟨[⟨.mv (.v 0), none, false⟩, ⟨.len (.t 0), none, false⟩, ⟨.mv (.c (.int (0))), none, false⟩], [(3, 1), (2, 0)], [], none⟩
abbrev r_slices_IndexFunc_Sint_int_2 : Reg := ⟨[⟨.bin .lss (.v 2) (.v 3), none, false⟩], [], [], some (9, 0)⟩
abbrev r_slices_IndexFunc_Sint_int_3 : Reg := ⟨[⟨.mv (.v 2), none, false⟩, ⟨.mv (.t 0), none, false⟩], [(4, 0)], [], none⟩
abbrev r_slices_IndexFunc_Sint_int_4 : Reg := ⟨[⟨.mv (.v 1), none, false⟩, ⟨.mv (.v 0), none, false⟩, ⟨.mv (.v 4), none, false⟩, ⟨.iad (.t 1) (.t 0) 1, none, false⟩, ⟨.ld (.t 0) none, none, false⟩, ⟨.cald (.t 4) [(.t 0)], none, false⟩], [], [], some (16, 0)⟩
abbrev r_slices_IndexFunc_Sint_int_5 : Reg := ⟨[⟨.mv (.v 4), none, false⟩, ⟨.mv (.t 0), none, false⟩], [(5, 0)], [0, 1, 2, 3, 4], none⟩
abbrev r_slices_IndexFunc_Sint_int_6 : Reg := ⟨[⟨.bin .add (.v 2) (.c (.int (1))), none, false⟩, ⟨.mv (.t 0), none, false⟩], [(2, 0)], [4], none⟩
abbrev b_slices_IndexFunc_Sint_int_0 : IC := (.seq (.reg r_slices_IndexFunc_Sint_int_2)
 (.seq (.cond 9 .skip (.exit 0))
 (.seq (.block 1 (.seq (.reg r_slices_IndexFunc_Sint_int_3)
 (.seq (.reg r_slices_IndexFunc_Sint_int_4)
 (.cond 16 (.seq (.reg r_slices_IndexFunc_Sint_int_5)
 .ret) .skip))))
 (.reg r_slices_IndexFunc_Sint_int_6))))
abbrev r_slices_IndexFunc_Sint_int_7 : Reg := ⟨[⟨.mv (.c (.int (-1))), none, false⟩], [(5, 0)], [0, 1, 2, 3], none⟩
abbrev ir_slices_IndexFunc_Sint_int : Fn := { np := 2, nv := 6, res := [(5, none)], body :=
(.seq (.reg r_slices_IndexFunc_Sint_int_0)
 (.seq (.seq (.reg r_slices_IndexFunc_Sint_int_1)
 (.block 0 (.loop b_slices_IndexFunc_Sint_int_0)))
 (.seq (.reg r_slices_IndexFunc_Sint_int_7)
 .ret))) }
/- f74 nested_newBest : 0:states 1:_ 2:_ 3:b 4:_ -/
abbrev r_nested_newBest_0 : Reg := ⟨[⟨.mv (.c (.pnil)), none, false⟩], [], [4], none⟩
abbrev r_nested_newBest_1 : Reg := ⟨[⟨.mks (.c (.int (1025))) (.c (.int (1025))) [.snil] none, none, false⟩, ⟨.bld [.snil, .snil, .snil] [(2, 1, (.t 0))], none, false⟩, ⟨.bxm (.t 0) (some 3), none, false⟩, ⟨.mv (.t 0), none, false⟩], [(3, 0)], [], none⟩
abbrev r_nested_newBest_2 : Reg := ⟨[⟨.mv (.v 0), none, false⟩, ⟨.mv (.c (.int (0))), none, false⟩], [(2, 1), (1, 0)], [], none⟩
abbrev r_nested_newBest_3 : Reg := ⟨[⟨.bin .lss (.v 1) (.v 2), none, false⟩], [], [], some (9, 0)⟩
abbrev r_nested_newBest_4 : Reg := ⟨[⟨.mv (.v 3), none, false⟩, ⟨.mv (.v 3), none, false⟩, ⟨.nck (.t 0), none, false⟩, ⟨.fad (.t 0) 0 none, none, false⟩, ⟨.ld (.t 0) none, none, false⟩, ⟨.mv (.v 0), none, false⟩, ⟨.mks (.t 0) (.t 0) [.snil] none, none, false⟩, ⟨.lita [(.t 0)] 1, none, false⟩, ⟨.app (.t 3) (.t 0) none, none, false⟩, ⟨.nck (.t 8), none, false⟩, ⟨.fad (.t 0) 0 none, none, false⟩, ⟨.st (.t 0) (.t 2) 1, none, false⟩], [], [], none⟩
abbrev r_nested_newBest_5 : Reg := ⟨[⟨.mv (.v 3), none, false⟩, ⟨.mv (.v 3), none, false⟩, ⟨.nck (.t 0), none, false⟩, ⟨.fad (.t 0) 1 none, none, false⟩, ⟨.ld (.t 0) none, none, false⟩, ⟨.mv (.v 0), none, false⟩, ⟨.mks (.t 0) (.t 0) [.bool false] none, none, false⟩, ⟨.lita [(.t 0)] 1, none, false⟩, ⟨.app (.t 3) (.t 0) none, none, false⟩, ⟨.nck (.t 8), none, false⟩, ⟨.fad (.t 0) 1 none, none, false⟩, ⟨.st (.t 0) (.t 2) 1, none, false⟩], [], [], none⟩
abbrev r_nested_newBest_6 : Reg := ⟨[⟨.bin .add (.v 1) (.c (.int (1))), none, false⟩, ⟨.mv (.t 0), none, false⟩], [(1, 0)], [], none⟩
abbrev b_nested_newBest_0 : IC := (.seq (.reg r_nested_newBest_3)
 (.seq (.cond 9 .skip (.exit 0))
 (.seq (.block 1 (.seq (.reg r_nested_newBest_4)
 (.reg r_nested_newBest_5)))
 (.reg r_nested_newBest_6))))
abbrev r_nested_newBest_7 : Reg := ⟨[⟨.mv (.v 3), none, false⟩, ⟨.mv (.t 0), none, false⟩], [(4, 0)], [0, 1, 2, 3], none⟩
abbrev ir_nested_newBest : Fn := { np := 1, nv := 5, res := [(4, none)], body :=
(.seq (.reg r_nested_newBest_0)
 (.seq (.reg r_nested_newBest_1)
 (.seq (.seq (.reg r_nested_newBest_2)
 (.block 0 (.loop b_nested_newBest_0)))
 (.seq (.reg r_nested_newBest_7)
 .ret)))) }
/- f75 nested_best_offer : 0:b 1:s 2:t 3:v 4:w 5:n 6:old 7:x -/
abbrev r_nested_best_offer_0 : Reg := ⟨[⟨.mv (.v 3), none, false⟩, ⟨.len (.t 0), none, false⟩, ⟨.mv (.v 4), none, false⟩, ⟨.len (.t 0), none, false⟩, ⟨.bin .add (.t 2) (.t 0), none, false⟩, ⟨.mv (.t 0), none, false⟩], [(5, 0)], [], none⟩
abbrev r_nested_best_offer_1 : Reg := ⟨[⟨.mv (.v 0), none, false⟩, ⟨.nck (.t 0), none, false⟩, ⟨.fad (.t 0) 0 none, none, false⟩, ⟨.ld (.t 0) none, none, false⟩, ⟨.mv (.v 1), none, false⟩, ⟨.iad (.t 1) (.t 0) 1, none, false⟩, ⟨.ld (.t 0) none, none, false⟩, ⟨.mv (.v 2), none, false⟩, ⟨.iad (.t 1) (.t 0) 1, none, false⟩, ⟨.ld (.t 0) none, none, false⟩, ⟨.mv (.t 0), none, false⟩], [(6, 0)], [], none⟩
abbrev r_nested_best_offer_2 : Reg := ⟨[⟨.mv (.v 5), none, false⟩, ⟨.bin .gtr (.t 0) (.c (.int (1024))), none, false⟩, ⟨.mv (.t 0), none, false⟩, ⟨.mv (.v 0), some (.t 0, false), false⟩, ⟨.nck (.t 0), some (.t 1, false), false⟩, ⟨.fad (.t 0) 1 none, some (.t 2, false), false⟩, ⟨.ld (.t 0) none, some (.t 3, false), false⟩, ⟨.mv (.v 1), some (.t 4, false), false⟩, ⟨.iad (.t 1) (.t 0) 1, some (.t 5, false), false⟩, ⟨.ld (.t 0) none, some (.t 6, false), false⟩, ⟨.mv (.v 2), some (.t 7, false), false⟩, ⟨.iad (.t 1) (.t 0) 1, some (.t 8, false), false⟩, ⟨.ld (.t 0) none, some (.t 9, false), false⟩, ⟨.pick (.t 10) (.c (.bool true)) (.t 0), none, false⟩, ⟨.mv (.t 0), none, false⟩, ⟨.mv (.v 6), some (.t 0, false), false⟩, ⟨.bnl true (.t 0), some (.t 1, false), false⟩, ⟨.mv (.t 0), some (.t 2, false), false⟩, ⟨.mv (.v 6), some (.t 0, true), false⟩, ⟨.len (.t 0), some (.t 1, true), false⟩, ⟨.mv (.v 5), some (.t 2, true), false⟩, ⟨.bin .lss (.t 1) (.t 0), some (.t 3, true), false⟩, ⟨.pick (.t 4) (.t 0) (.c (.bool false)), some (.t 7, false), false⟩, ⟨.pick (.t 8) (.c (.bool true)) (.t 0), none, false⟩], [], [], some (51, 0)⟩
abbrev r_nested_best_offer_3 : Reg := ⟨[⟨.mv (.v 5), none, false⟩, ⟨.bin .add (.t 0) (.c (.int (1))), none, false⟩, ⟨.mks (.c (.int (0))) (.t 0) [.int 0] none, none, false⟩, ⟨.mv (.v 3), none, false⟩, ⟨.appw (.t 1) (.t 0) none, none, false⟩, ⟨.mv (.v 4), none, false⟩, ⟨.appw (.t 1) (.t 0) none, none, false⟩, ⟨.mv (.t 0), none, false⟩], [(7, 0)], [3, 4], none⟩
abbrev r_nested_best_offer_4 : Reg := ⟨[⟨.mv (.v 6), none, false⟩, ⟨.bnl true (.t 0), none, false⟩, ⟨.mv (.t 0), none, false⟩, ⟨.mv (.v 6), some (.t 0, true), false⟩, ⟨.mv (.v 7), some (.t 1, true), false⟩, ⟨.cal F_word_Compare [(.t 1), (.t 0)], some (.t 2, true), false⟩, ⟨.bin .leq (.t 0) (.c (.int (0))), some (.t 3, true), false⟩, ⟨.pick (.t 4) (.t 0) (.c (.bool false)), none, false⟩], [], [], some (66, 0)⟩
abbrev r_nested_best_offer_5 : Reg := ⟨[⟨.mv (.v 0), none, false⟩, ⟨.nck (.t 0), none, false⟩, ⟨.fad (.t 0) 0 none, none, false⟩, ⟨.ld (.t 0) none, none, false⟩, ⟨.mv (.v 1), none, false⟩, ⟨.iad (.t 1) (.t 0) 1, none, false⟩, ⟨.ld (.t 0) none, none, false⟩, ⟨.mv (.v 2), none, false⟩, ⟨.mv (.v 7), none, false⟩, ⟨.iad (.t 2) (.t 1) 1, none, false⟩, ⟨.st (.t 0) (.t 1) 1, none, false⟩], [], [7], none⟩
abbrev r_nested_best_offer_6 : Reg := ⟨[⟨.mv (.v 6), none, false⟩, ⟨.bnl false (.t 0), none, false⟩, ⟨.mv (.t 0), none, false⟩, ⟨.mv (.v 6), some (.t 0, false), false⟩, ⟨.len (.t 0), some (.t 1, false), false⟩, ⟨.mv (.v 5), some (.t 2, false), false⟩, ⟨.bin .gtr (.t 1) (.t 0), some (.t 3, false), false⟩, ⟨.pick (.t 4) (.c (.bool true)) (.t 0), none, false⟩], [], [6], some (84, 0)⟩
abbrev r_nested_best_offer_7 : Reg := ⟨[⟨.mv (.v 0), none, false⟩, ⟨.nck (.t 0), none, false⟩, ⟨.fad (.t 0) 2 none, none, false⟩, ⟨.ld (.t 0) none, none, false⟩, ⟨.mv (.v 5), none, false⟩, ⟨.mv (.v 0), none, false⟩, ⟨.nck (.t 0), none, false⟩, ⟨.fad (.t 0) 2 none, none, false⟩, ⟨.ld (.t 0) none, none, false⟩, ⟨.mv (.v 5), none, false⟩, ⟨.iad (.t 1) (.t 0) 1, none, false⟩, ⟨.ld (.t 0) none, none, false⟩, ⟨.mv (.v 1), none, false⟩, ⟨.mv (.v 2), none, false⟩, ⟨.bld [.int 0, .int 0] [(0, 1, (.t 1)), (1, 1, (.t 0))], none, false⟩, ⟨.lita [(.t 0)] 2, none, false⟩, ⟨.app (.t 4) (.t 0) (some 2), none, false⟩, ⟨.iad (.t 13) (.t 12) 1, none, false⟩, ⟨.st (.t 0) (.t 1) 1, none, false⟩], [], [0, 1, 2, 5], none⟩
abbrev ir_nested_best_offer : Fn := { np := 5, nv := 8, res := [], body :=
(.seq (.reg r_nested_best_offer_0)
 (.seq (.reg r_nested_best_offer_1)
 (.seq (.seq (.reg r_nested_best_offer_2)
 (.cond 51 .ret .skip))
 (.seq (.seq (.reg r_nested_best_offer_3) (.frz 7))
 (.seq (.seq (.reg r_nested_best_offer_4)
 (.cond 66 .ret .skip))
 (.seq (.reg r_nested_best_offer_5)
 (.seq (.reg r_nested_best_offer_6)
 (.cond 84 (.reg r_nested_best_offer_7) .skip)))))))) }
/- f76 nested_best_take : 0:b 1:n 2:_ 3:_ 4:_ 5:p 6:out 7:_ -/
abbrev r_nested_best_take_0 : Reg := ⟨[⟨.mv (.c (.snil)), none, false⟩], [], [7], none⟩
abbrev r_nested_best_take_1 : Reg := ⟨[⟨.nl (some 2), none, false⟩], [(6, 0)], [], none⟩
abbrev r_nested_best_take_2 : Reg := ⟨[⟨.mv (.v 0), none, false⟩, ⟨.nck (.t 0), none, false⟩, ⟨.fad (.t 0) 2 none, none, false⟩, ⟨.ld (.t 0) none, none, false⟩, ⟨.mv (.v 1), none, false⟩, ⟨.iad (.t 1) (.t 0) 1, none, false⟩, ⟨.ld (.t 0) none, none, false⟩, ⟨.len (.t 0), none, false⟩, ⟨.mv (.c (.int (0))), none, false⟩], [(4, 2), (3, 1), (2, 0)], [1], none⟩
abbrev r_nested_best_take_3 : Reg := ⟨[⟨.bin .lss (.v 2) (.v 3), none, false⟩], [], [], some (17, 0)⟩
abbrev r_nested_best_take_4 : Reg := ⟨[⟨.iad (.v 4) (.v 2) 2, none, false⟩, ⟨.ld (.t 0) (some 2), none, false⟩, ⟨.alc0 2, none, false⟩, ⟨.ini (.t 0) (.t 1) 2, none, false⟩], [(5, 0)], [], none⟩
abbrev r_nested_best_take_5 : Reg := ⟨[⟨.mv (.v 0), none, false⟩, ⟨.nck (.t 0), none, false⟩, ⟨.fad (.t 0) 1 none, none, false⟩, ⟨.ld (.t 0) none, none, false⟩, ⟨.iada (.v 5) (.c (.int (0))) 2 none, none, false⟩, ⟨.ldi (.t 0) none, none, false⟩, ⟨.iad (.t 2) (.t 0) 1, none, false⟩, ⟨.ld (.t 0) none, none, false⟩, ⟨.iada (.v 5) (.c (.int (1))) 2 none, none, false⟩, ⟨.ldi (.t 0) none, none, false⟩, ⟨.iad (.t 2) (.t 0) 1, none, false⟩, ⟨.ld (.t 0) none, none, false⟩, ⟨.not (.t 0), none, false⟩], [], [], some (32, 0)⟩
abbrev r_nested_best_take_6 : Reg := ⟨[⟨.mv (.v 0), none, false⟩, ⟨.nck (.t 0), none, false⟩, ⟨.fad (.t 0) 1 none, none, false⟩, ⟨.ld (.t 0) none, none, false⟩, ⟨.iada (.v 5) (.c (.int (0))) 2 none, none, false⟩, ⟨.ldi (.t 0) none, none, false⟩, ⟨.iad (.t 2) (.t 0) 1, none, false⟩, ⟨.ld (.t 0) none, none, false⟩, ⟨.iada (.v 5) (.c (.int (1))) 2 none, none, false⟩, ⟨.ldi (.t 0) none, none, false⟩, ⟨.iad (.t 2) (.t 0) 1, none, false⟩, ⟨.st (.t 0) (.c (.bool true)) 1, none, false⟩], [], [], none⟩
abbrev r_nested_best_take_7 : Reg := ⟨[⟨.mv (.v 6), none, false⟩, ⟨.ldi (.v 5) (some 2), none, false⟩, ⟨.lita [(.t 0)] 2, none, false⟩, ⟨.appw (.t 2) (.t 0) (some 2), none, false⟩, ⟨.mv (.t 0), none, false⟩], [(6, 0)], [5], none⟩
abbrev r_nested_best_take_8 : Reg := ⟨[⟨.bin .add (.v 2) (.c (.int (1))), none, false⟩, ⟨.mv (.t 0), none, false⟩], [(2, 0)], [5], none⟩
abbrev b_nested_best_take_0 : IC := (.seq (.reg r_nested_best_take_3)
 (.seq (.cond 17 .skip (.exit 0))
 (.seq (.block 1 (.seq (.reg r_nested_best_take_4)
 (.seq (.reg r_nested_best_take_5)
 (.cond 32 (.seq (.reg r_nested_best_take_6)
 (.reg r_nested_best_take_7)) .skip))))
 (.reg r_nested_best_take_8))))
abbrev r_nested_best_take_9 : Reg := ⟨[⟨.mv (.v 6), none, false⟩, ⟨.mv (.t 0), none, false⟩], [(7, 0)], [0, 2, 3, 4, 6], none⟩
abbrev ir_nested_best_take : Fn := { np := 2, nv := 8, res := [(7, none)], body :=
(.seq (.reg r_nested_best_take_0)
 (.seq (.reg r_nested_best_take_1)
 (.seq (.seq (.reg r_nested_best_take_2)
 (.block 0 (.loop b_nested_best_take_0)))
 (.seq (.reg r_nested_best_take_9)
 .ret)))) }
/- f77 cmp_Or_int : 0:vals 1:_ 2:_ 3:_ 4:val 5:zero 6:_ -/
abbrev r_cmp_Or_int_0 : Reg := ⟨[⟨.mv (.c (.int (0))), none, false⟩], [], [6], none⟩
abbrev r_cmp_Or_int_1 : Reg := ⟨[⟨.mv (.c (.int (0))), none, false⟩], [(5, 0)], [], none⟩
abbrev r_cmp_Or_int_2 : Reg := ⟨[⟨.mv (.v 0), none, false⟩, ⟨.len (.t 0), none, false⟩, ⟨.mv (.c (.int (0))), none, false⟩], [(3, 2), (2, 1), (1, 0)], [0], none⟩
abbrev r_cmp_Or_int_3 : Reg := ⟨[⟨.bin .lss (.v 1) (.v 2), none, false⟩], [], [], some (9, 0)⟩
abbrev r_cmp_Or_int_4 : Reg := ⟨[⟨.iad (.v 3) (.v 1) 1, none, false⟩, ⟨.ld (.t 0) none, none, false⟩, ⟨.mv (.t 0), none, false⟩], [(4, 0)], [], none⟩
abbrev r_cmp_Or_int_5 : Reg := ⟨[⟨.mv (.v 4), none, false⟩, ⟨.mv (.v 5), none, false⟩, ⟨.bin .neq (.t 1) (.t 0), none, false⟩], [], [], some (14, 0)⟩
abbrev r_cmp_Or_int_6 : Reg := ⟨[⟨.mv (.v 4), none, false⟩, ⟨.mv (.t 0), none, false⟩], [(6, 0)], [1, 2, 3, 4, 5], none⟩
abbrev r_cmp_Or_int_7 : Reg := ⟨[⟨.bin .add (.v 1) (.c (.int (1))), none, false⟩, ⟨.mv (.t 0), none, false⟩], [(1, 0)], [4], none⟩
abbrev b_cmp_Or_int_0 : IC := (.seq (.reg r_cmp_Or_int_3)
 (.seq (.cond 9 .skip (.exit 0))
 (.seq (.block 1 (.seq (.reg r_cmp_Or_int_4)
 (.seq (.reg r_cmp_Or_int_5)
 (.cond 14 (.seq (.reg r_cmp_Or_int_6)
 .ret) .skip))))
 (.reg r_cmp_Or_int_7))))
abbrev r_cmp_Or_int_8 : Reg := ⟨[⟨.mv (.v 5), none, false⟩, ⟨.mv (.t 0), none, false⟩], [(6, 0)], [1, 2, 3, 5], none⟩
abbrev ir_cmp_Or_int : Fn := { np := 1, nv := 7, res := [(6, none)], body :=
(.seq (.reg r_cmp_Or_int_0)
 (.seq (.reg r_cmp_Or_int_1)
 (.seq (.seq (.reg r_cmp_Or_int_2)
 (.block 0 (.loop b_cmp_Or_int_0)))
 (.seq (.reg r_cmp_Or_int_8)
 .ret)))) }
/- f78 cmp_Compare_int : 0:x 1:y 2:xNaN 3:yNaN 4:_ -/
abbrev r_cmp_Compare_int_0 : Reg := ⟨[⟨.mv (.c (.int (0))), none, false⟩], [], [4], none⟩
abbrev r_cmp_Compare_int_1 : Reg := ⟨[⟨.mv (.v 0), none, false⟩, ⟨.cal F_cmp_isNaN_int [(.t 0)], none, false⟩, ⟨.mv (.t 0), none, false⟩], [(2, 0)], [], none⟩
abbrev r_cmp_Compare_int_2 : Reg := ⟨[⟨.mv (.v 1), none, false⟩, ⟨.cal F_cmp_isNaN_int [(.t 0)], none, false⟩, ⟨.mv (.t 0), none, false⟩], [(3, 0)], [], none⟩
abbrev r_cmp_Compare_int_3 : Reg := ⟨[⟨.mv (.v 2), none, false⟩], [], [2], some (11, 0)⟩
abbrev r_cmp_Compare_int_4 : Reg := ⟨[⟨.mv (.v 3), none, false⟩], [], [0, 1, 3], some (12, 0)⟩
abbrev r_cmp_Compare_int_5 : Reg := ⟨[⟨.mv (.c (.int (0))), none, false⟩], [(4, 0)], [], none⟩
abbrev r_cmp_Compare_int_6 : Reg := ⟨[⟨.mv (.c (.int (-1))), none, false⟩], [(4, 0)], [], none⟩
abbrev r_cmp_Compare_int_7 : Reg := ⟨[⟨.mv (.v 3), none, false⟩], [], [3], some (13, 0)⟩
abbrev r_cmp_Compare_int_8 : Reg := ⟨[⟨.mv (.c (.int (1))), none, false⟩], [(4, 0)], [0, 1], none⟩
abbrev r_cmp_Compare_int_9 : Reg := ⟨[⟨.mv (.v 0), none, false⟩, ⟨.mv (.v 1), none, false⟩, ⟨.bin .lss (.t 1) (.t 0), none, false⟩], [], [], some (16, 0)⟩
abbrev r_cmp_Compare_int_10 : Reg := ⟨[⟨.mv (.c (.int (-1))), none, false⟩], [(4, 0)], [0, 1], none⟩
abbrev r_cmp_Compare_int_11 : Reg := ⟨[⟨.mv (.v 0), none, false⟩, ⟨.mv (.v 1), none, false⟩, ⟨.bin .gtr (.t 1) (.t 0), none, false⟩], [], [0, 1], some (19, 0)⟩
abbrev r_cmp_Compare_int_12 : Reg := ⟨[⟨.mv (.c (.int (1))), none, false⟩], [(4, 0)], [], none⟩
abbrev r_cmp_Compare_int_13 : Reg := ⟨[⟨.mv (.c (.int (0))), none, false⟩], [(4, 0)], [], none⟩
abbrev ir_cmp_Compare_int : Fn := { np := 2, nv := 5, res := [(4, none)], body :=
(.seq (.reg r_cmp_Compare_int_0)
 (.seq (.reg r_cmp_Compare_int_1)
 (.seq (.reg r_cmp_Compare_int_2)
 (.seq (.seq (.reg r_cmp_Compare_int_3)
 (.cond 11 (.seq (.seq (.reg r_cmp_Compare_int_4)
 (.cond 12 (.seq (.reg r_cmp_Compare_int_5)
 .ret) .skip))
 (.seq (.reg r_cmp_Compare_int_6)
 .ret)) .skip))
 (.seq (.seq (.reg r_cmp_Compare_int_7)
 (.cond 13 (.seq (.reg r_cmp_Compare_int_8)
 .ret) .skip))
 (.seq (.seq (.reg r_cmp_Compare_int_9)
 (.cond 16 (.seq (.reg r_cmp_Compare_int_10)
 .ret) .skip))
 (.seq (.seq (.reg r_cmp_Compare_int_11)
 (.cond 19 (.seq (.reg r_cmp_Compare_int_12)
 .ret) .skip))
 (.seq (.reg r_cmp_Compare_int_13)
 .ret)))))))) }
/- f79 slices_Compare_Sint_int : 0:s1 1:s2 2:_ 3:_ 4:_ 5:i 6:v1 7:v2 8:c 9:_ -/
abbrev r_slices_Compare_Sint_int_0 : Reg := ⟨[⟨.mv (.c (.int (0))), none, false⟩], [], [9], none⟩
abbrev r_slices_Compare_Sint_int_1 : Reg := ⟨[⟨.mv (.v 0), none, false⟩, ⟨.len (.t 0), none, false⟩, ⟨.mv (.c (.int (0))), none, false⟩], [(4, 2), (3, 1), (2, 0)], [], none⟩
abbrev r_slices_Compare_Sint_int_2 : Reg := ⟨[⟨.bin .lss (.v 2) (.v 3), none, false⟩], [], [], some (12, 0)⟩
abbrev r_slices_Compare_Sint_int_3 : Reg := ⟨[⟨.mv (.v 2), none, false⟩, ⟨.iad (.v 4) (.v 2) 1, none, false⟩, ⟨.ld (.t 0) none, none, false⟩, ⟨.mv (.t 2), none, false⟩, ⟨.mv (.t 1), none, false⟩], [(5, 1), (6, 0)], [], none⟩
abbrev r_slices_Compare_Sint_int_4 : Reg := ⟨[⟨.mv (.v 5), none, false⟩, ⟨.mv (.v 1), none, false⟩, ⟨.len (.t 0), none, false⟩, ⟨.bin .geq (.t 2) (.t 0), none, false⟩], [], [], some (19, 0)⟩
abbrev r_slices_Compare_Sint_int_5 : Reg := ⟨[⟨.mv (.c (.int (1))), none, false⟩], [(9, 0)], [0, 1, 2, 3, 4, 5, 6], none⟩
abbrev r_slices_Compare_Sint_int_6 : Reg := ⟨[⟨.mv (.v 1), none, false⟩, ⟨.mv (.v 5), none, false⟩, ⟨.iad (.t 1) (.t 0) 1, none, false⟩, ⟨.ld (.t 0) none, none, false⟩, ⟨.mv (.t 0), none, false⟩], [(7, 0)], [5], none⟩
abbrev r_slices_Compare_Sint_int_7 : Reg := ⟨[⟨.mv (.v 6), none, false⟩, ⟨.mv (.v 7), none, false⟩, ⟨.cal F_cmp_Compare_int [(.t 1), (.t 0)], none, false⟩, ⟨.mv (.t 0), none, false⟩], [(8, 0)], [6, 7], none⟩
abbrev r_slices_Compare_Sint_int_8 : Reg := ⟨[⟨.mv (.v 8), none, false⟩, ⟨.bin .neq (.t 0) (.c (.int (0))), none, false⟩], [], [], some (28, 0)⟩
abbrev r_slices_Compare_Sint_int_9 : Reg := ⟨[⟨.mv (.v 8), none, false⟩, ⟨.mv (.t 0), none, false⟩], [(9, 0)], [0, 1, 2, 3, 4, 8], none⟩
abbrev r_slices_Compare_Sint_int_10 : Reg := ⟨[⟨.bin .add (.v 2) (.c (.int (1))), none, false⟩, ⟨.mv (.t 0), none, false⟩], [(2, 0)], [8], none⟩
abbrev b_slices_Compare_Sint_int_0 : IC := (.seq (.reg r_slices_Compare_Sint_int_2)
 (.seq (.cond 12 .skip (.exit 0))
 (.seq (.block 1 (.seq (.reg r_slices_Compare_Sint_int_3)
 (.seq (.seq (.reg r_slices_Compare_Sint_int_4)
 (.cond 19 (.seq (.reg r_slices_Compare_Sint_int_5)
 .ret) .skip))
 (.seq (.reg r_slices_Compare_Sint_int_6)
 (.seq (.reg r_slices_Compare_Sint_int_7)
 (.seq (.reg r_slices_Compare_Sint_int_8)
 (.cond 28 (.seq (.reg r_slices_Compare_Sint_int_9)
 .ret) .skip)))))))
 (.reg r_slices_Compare_Sint_int_10))))
abbrev r_slices_Compare_Sint_int_11 : Reg := ⟨[⟨.mv (.v 0), none, false⟩, ⟨.len (.t 0), none, false⟩, ⟨.mv (.v 1), none, false⟩, ⟨.len (.t 0), none, false⟩, ⟨.bin .lss (.t 2) (.t 0), none, false⟩], [], [0, 1, 2, 3, 4], some (35, 0)⟩
abbrev r_slices_Compare_Sint_int_12 : Reg := ⟨[⟨.mv (.c (.int (-1))), none, false⟩], [(9, 0)], [], none⟩
abbrev r_slices_Compare_Sint_int_13 : Reg := ⟨[⟨.mv (.c (.int (0))), none, false⟩], [(9, 0)], [], none⟩
abbrev ir_slices_Compare_Sint_int : Fn := { np := 2, nv := 10, res := [(9, none)], body :=
(.seq (.reg r_slices_Compare_Sint_int_0)
 (.seq (.seq (.reg r_slices_Compare_Sint_int_1)
 (.block 0 (.loop b_slices_Compare_Sint_int_0)))
 (.seq (.seq (.reg r_slices_Compare_Sint_int_11)
 (.cond 35 (.seq (.reg r_slices_Compare_Sint_int_12)
 .ret) .skip))
 (.seq (.reg r_slices_Compare_Sint_int_13)
 .ret)))) }
/- f80 ref43_improved : 0:n 1:table 2:s 3:t 4:i 5:n 6:x 7:best 8:c 9:p 10:r 11:x 12:y 13:_ -/
abbrev r_ref43_improved_0 : Reg := ⟨[⟨.bxi (.v 0), none, false⟩, ⟨.alc [.bool false, .snil] (some 2), none, false⟩], [(5, 1), (13, 0)], [0], none⟩
abbrev r_ref43_improved_1 : Reg := ⟨[⟨.mv (.v 1), none, false⟩, ⟨.mv (.v 2), none, false⟩, ⟨.iad (.t 1) (.t 0) 1, none, false⟩, ⟨.ld (.t 0) none, none, false⟩, ⟨.mv (.v 3), none, false⟩, ⟨.iad (.t 1) (.t 0) 2, none, false⟩, ⟨.ld (.t 0) (some 2), none, false⟩, ⟨.alc [.bool false, .snil] (some 2), none, false⟩, ⟨.st (.t 0) (.t 1) 2, none, false⟩], [(7, 1)], [], none⟩
abbrev r_ref43_improved_2 : Reg := ⟨[⟨.mv (.c (.int (0))), none, false⟩], [(4, 0)], [], none⟩
abbrev r_ref43_improved_3 : Reg := ⟨[⟨.mv (.v 4), none, false⟩, ⟨.fad (.v 5) 1 none, none, false⟩, ⟨.ldi (.t 0) none, none, false⟩, ⟨.bin .lss (.t 2) (.t 0), none, false⟩], [], [], some (27, 0)⟩
abbrev r_ref43_improved_5 : Reg := ⟨[⟨.mv (.v 1), none, false⟩, ⟨.fad (.v 5) 8 none, none, false⟩, ⟨.ldi (.t 0) none, none, false⟩, ⟨.mv (.v 2), none, false⟩, ⟨.iad (.t 1) (.t 0) 1, none, false⟩, ⟨.ldi (.t 0) none, none, false⟩, ⟨.mv (.v 4), none, false⟩, ⟨.iad (.t 1) (.t 0) 1, none, false⟩, ⟨.ldi (.t 0) none, none, false⟩, ⟨.iad (.t 8) (.t 0) 1, none, false⟩, ⟨.ld (.t 0) none, none, false⟩, ⟨.mv (.v 3), none, false⟩, ⟨.iad (.t 1) (.t 0) 2, none, false⟩, ⟨.ld (.t 0) (some 2), none, false⟩, ⟨.alc0 2, none, false⟩, ⟨.ini (.t 0) (.t 1) 2, none, false⟩], [(6, 0)], [], none⟩
abbrev r_ref43_improved_6 : Reg := ⟨[⟨.fad (.v 6) 0 none, none, false⟩, ⟨.ldi (.t 0) none, none, false⟩], [], [], some (45, 0)⟩
abbrev r_ref43_improved_7 : Reg := ⟨[⟨.ld (.v 7) (some 2), none, false⟩, ⟨.fad (.v 5) 0 none, none, false⟩, ⟨.ldi (.t 0) none, none, false⟩, ⟨.mv (.v 4), none, false⟩, ⟨.bin .add (.t 1) (.t 0), none, false⟩, ⟨.liti [(.t 0)] 1, none, false⟩, ⟨.fad (.v 6) 1 none, none, false⟩, ⟨.ldi (.t 0) none, none, false⟩, ⟨.liti [(.t 2), (.t 0)] 1, none, false⟩, ⟨.cal F_ref01_Join [(.t 0)], none, false⟩, ⟨.cal F_ref43_better [(.t 9), (.t 0)], none, false⟩, ⟨.st (.v 7) (.t 0) 2, none, false⟩], [], [6], none⟩
abbrev r_ref43_improved_4 : Reg := ⟨[⟨.mv (.v 4), none, false⟩, ⟨.bin .add (.t 0) (.c (.int (1))), none, false⟩, ⟨.mv (.t 0), none, false⟩], [(4, 0)], [6], none⟩
abbrev b_ref43_improved_0 : IC := (.seq (.seq (.reg r_ref43_improved_3)
 (.cond 27 .skip (.exit 0)))
 (.seq (.block 1 (.seq (.reg r_ref43_improved_5)
 (.seq (.reg r_ref43_improved_6)
 (.cond 45 (.reg r_ref43_improved_7) .skip))))
 (.reg r_ref43_improved_4)))
abbrev r_ref43_improved_8 : Reg := ⟨[⟨.mv (.c (.int (0))), none, false⟩], [(8, 0)], [4], none⟩
abbrev r_ref43_improved_9 : Reg := ⟨[⟨.mv (.v 8), none, false⟩, ⟨.fad (.v 5) 0 none, none, false⟩, ⟨.ldi (.t 0) none, none, false⟩, ⟨.bin .lss (.t 2) (.t 0), none, false⟩], [], [], some (60, 0)⟩
abbrev r_ref43_improved_11 : Reg := ⟨[⟨.mv (.c (.int (0))), none, false⟩], [(9, 0)], [], none⟩
abbrev r_ref43_improved_12 : Reg := ⟨[⟨.mv (.v 9), none, false⟩, ⟨.fad (.v 5) 5 none, none, false⟩, ⟨.ldi (.t 0) none, none, false⟩, ⟨.len (.t 0), none, false⟩, ⟨.bin .lss (.t 3) (.t 0), none, false⟩], [], [], some (67, 0)⟩
abbrev r_ref43_improved_14 : Reg := ⟨[⟨.mv (.v 1), none, false⟩, ⟨.fad (.v 5) 6 none, none, false⟩, ⟨.ldi (.t 0) none, none, false⟩, ⟨.mv (.v 2), none, false⟩, ⟨.iad (.t 1) (.t 0) 1, none, false⟩, ⟨.ldi (.t 0) none, none, false⟩, ⟨.mv (.v 8), none, false⟩, ⟨.iad (.t 1) (.t 0) 1, none, false⟩, ⟨.ldi (.t 0) none, none, false⟩, ⟨.iad (.t 8) (.t 0) 1, none, false⟩, ⟨.ld (.t 0) none, none, false⟩, ⟨.mv (.v 9), none, false⟩, ⟨.iad (.t 1) (.t 0) 2, none, false⟩, ⟨.ld (.t 0) (some 2), none, false⟩, ⟨.alc0 2, none, false⟩, ⟨.ini (.t 0) (.t 1) 2, none, false⟩], [(11, 0)], [], none⟩
abbrev r_ref43_improved_15 : Reg := ⟨[⟨.mv (.c (.int (0))), none, false⟩], [(10, 0)], [], none⟩
abbrev r_ref43_improved_16 : Reg := ⟨[⟨.mv (.v 10), none, false⟩, ⟨.fad (.v 5) 2 none, none, false⟩, ⟨.ldi (.t 0) none, none, false⟩, ⟨.bin .lss (.t 2) (.t 0), none, false⟩, ⟨.mv (.t 0), none, false⟩, ⟨.fad (.v 11) 0 none, some (.t 0, true), false⟩, ⟨.ldi (.t 0) none, some (.t 1, true), false⟩, ⟨.pick (.t 2) (.t 0) (.c (.bool false)), none, false⟩], [], [], some (91, 0)⟩
abbrev r_ref43_improved_18 : Reg := ⟨[⟨.mv (.v 1), none, false⟩, ⟨.fad (.v 5) 9 none, none, false⟩, ⟨.ldi (.t 0) none, none, false⟩, ⟨.mv (.v 9), none, false⟩, ⟨.iad (.t 1) (.t 0) 1, none, false⟩, ⟨.ldi (.t 0) none, none, false⟩, ⟨.fad (.v 5) 7 none, none, false⟩, ⟨.ldi (.t 0) none, none, false⟩, ⟨.mv (.v 2), none, false⟩, ⟨.iad (.t 1) (.t 0) 1, none, false⟩, ⟨.ldi (.t 0) none, none, false⟩, ⟨.mv (.v 8), none, false⟩, ⟨.iad (.t 1) (.t 0) 1, none, false⟩, ⟨.ldi (.t 0) none, none, false⟩, ⟨.iad (.t 8) (.t 0) 1, none, false⟩, ⟨.ldi (.t 0) none, none, false⟩, ⟨.mv (.v 10), none, false⟩, ⟨.iad (.t 1) (.t 0) 1, none, false⟩, ⟨.ldi (.t 0) none, none, false⟩, ⟨.iad (.t 18) (.t 0) 1, none, false⟩, ⟨.ld (.t 0) none, none, false⟩, ⟨.mv (.v 3), none, false⟩, ⟨.iad (.t 1) (.t 0) 2, none, false⟩, ⟨.ld (.t 0) (some 2), none, false⟩, ⟨.alc0 2, none, false⟩, ⟨.ini (.t 0) (.t 1) 2, none, false⟩], [(12, 0)], [], none⟩
abbrev r_ref43_improved_19 : Reg := ⟨[⟨.fad (.v 12) 0 none, none, false⟩, ⟨.ldi (.t 0) none, none, false⟩], [], [], some (119, 0)⟩
abbrev r_ref43_improved_20 : Reg := ⟨[⟨.ld (.v 7) (some 2), none, false⟩, ⟨.mv (.v 8), none, false⟩, ⟨.liti [(.t 0)] 1, none, false⟩, ⟨.fad (.v 11) 1 none, none, false⟩, ⟨.ldi (.t 0) none, none, false⟩, ⟨.fad (.v 5) 0 none, none, false⟩, ⟨.ldi (.t 0) none, none, false⟩, ⟨.fad (.v 5) 1 none, none, false⟩, ⟨.ldi (.t 0) none, none, false⟩, ⟨.bin .add (.t 2) (.t 0), none, false⟩, ⟨.mv (.v 10), none, false⟩, ⟨.bin .add (.t 1) (.t 0), none, false⟩, ⟨.liti [(.t 0)] 1, none, false⟩, ⟨.fad (.v 12) 1 none, none, false⟩, ⟨.ldi (.t 0) none, none, false⟩, ⟨.liti [(.t 12), (.t 10), (.t 2), (.t 0)] 1, none, false⟩, ⟨.cal F_ref01_Join [(.t 0)], none, false⟩, ⟨.cal F_ref43_better [(.t 16), (.t 0)], none, false⟩, ⟨.st (.v 7) (.t 0) 2, none, false⟩], [], [12], none⟩
abbrev r_ref43_improved_17 : Reg := ⟨[⟨.mv (.v 10), none, false⟩, ⟨.bin .add (.t 0) (.c (.int (1))), none, false⟩, ⟨.mv (.t 0), none, false⟩], [(10, 0)], [12], none⟩
abbrev b_ref43_improved_6 : IC := (.seq (.seq (.reg r_ref43_improved_16)
 (.cond 91 .skip (.exit 6)))
 (.seq (.block 7 (.seq (.reg r_ref43_improved_18)
 (.seq (.reg r_ref43_improved_19)
 (.cond 119 (.reg r_ref43_improved_20) .skip))))
 (.reg r_ref43_improved_17)))
abbrev r_ref43_improved_13 : Reg := ⟨[⟨.mv (.v 9), none, false⟩, ⟨.bin .add (.t 0) (.c (.int (1))), none, false⟩, ⟨.mv (.t 0), none, false⟩], [(9, 0)], [10, 11], none⟩
abbrev b_ref43_improved_4 : IC := (.seq (.seq (.reg r_ref43_improved_12)
 (.cond 67 .skip (.exit 4)))
 (.seq (.block 5 (.seq (.reg r_ref43_improved_14)
 (.seq (.reg r_ref43_improved_15)
 (.block 6 (.loop b_ref43_improved_6)))))
 (.reg r_ref43_improved_13)))
abbrev r_ref43_improved_10 : Reg := ⟨[⟨.mv (.v 8), none, false⟩, ⟨.bin .add (.t 0) (.c (.int (1))), none, false⟩, ⟨.mv (.t 0), none, false⟩], [(8, 0)], [9], none⟩
abbrev b_ref43_improved_2 : IC := (.seq (.seq (.reg r_ref43_improved_9)
 (.cond 60 .skip (.exit 2)))
 (.seq (.block 3 (.seq (.reg r_ref43_improved_11)
 (.block 4 (.loop b_ref43_improved_4))))
 (.reg r_ref43_improved_10)))
abbrev r_ref43_improved_21 : Reg := ⟨[⟨.ld (.v 7) (some 2), none, false⟩, ⟨.st (.v 13) (.t 0) 2, none, false⟩], [], [1, 2, 3, 5, 7, 8], none⟩
abbrev ir_ref43_improved : Fn := { np := 4, nv := 14, res := [(13, some (some 2))], body :=
(.seq (.reg r_ref43_improved_0)
 (.seq (.reg r_ref43_improved_1)
 (.seq (.seq (.reg r_ref43_improved_2)
 (.block 0 (.loop b_ref43_improved_0)))
 (.seq (.seq (.reg r_ref43_improved_8)
 (.block 2 (.loop b_ref43_improved_2)))
 (.seq (.reg r_ref43_improved_21)
 .ret))))) }
/- f81 ref01_Same : 0:a 1:b 2:_ -/
abbrev r_ref01_Same_0 : Reg := ⟨[⟨.mv (.c (.bool false)), none, false⟩], [], [2], none⟩
abbrev r_ref01_Same_1 : Reg := ⟨[⟨.mv (.v 0), none, false⟩, ⟨.len (.t 0), none, false⟩, ⟨.mv (.v 1), none, false⟩, ⟨.len (.t 0), none, false⟩, ⟨.bin .eql (.t 2) (.t 0), none, false⟩, ⟨.mv (.t 0), none, false⟩, ⟨.mv (.v 0), some (.t 0, true), false⟩, ⟨.mv (.v 1), some (.t 1, true), false⟩, ⟨.cal F_ref01_Common [(.t 1), (.t 0)], some (.t 2, true), false⟩, ⟨.mv (.v 0), some (.t 3, true), false⟩, ⟨.len (.t 0), some (.t 4, true), false⟩, ⟨.bin .eql (.t 2) (.t 0), some (.t 5, true), false⟩, ⟨.pick (.t 6) (.t 0) (.c (.bool false)), none, false⟩, ⟨.mv (.t 0), none, false⟩], [(2, 0)], [0, 1], none⟩
abbrev ir_ref01_Same : Fn := { np := 2, nv := 3, res := [(2, none)], body :=
(.seq (.reg r_ref01_Same_0)
 (.seq (.reg r_ref01_Same_1)
 .ret)) }
/- f82 cmp_isNaN_int : 0:x 1:_ -/
abbrev r_cmp_isNaN_int_0 : Reg := ⟨[⟨.mv (.c (.bool false)), none, false⟩], [], [1], none⟩
abbrev r_cmp_isNaN_int_1 : Reg := ⟨[⟨.mv (.v 0), none, false⟩, ⟨.mv (.v 0), none, false⟩, ⟨.bin .neq (.t 1) (.t 0), none, false⟩, ⟨.mv (.t 0), none, false⟩], [(1, 0)], [0], none⟩
abbrev ir_cmp_isNaN_int : Fn := { np := 1, nv := 2, res := [(1, none)], body :=
(.seq (.reg r_cmp_isNaN_int_0)
 (.seq (.reg r_cmp_isNaN_int_1)
 .ret)) }
/- f98 nested_double_call : 0:m 1:s 2:c 3:m 4:x 5:y 6:p 7:q 8:g 9:h 10:_ 11:_ -/
abbrev r_nested_double_call_0 : Reg := ⟨[⟨.bxi (.v 0), none, false⟩, ⟨.mv (.c (.int (0))), none, false⟩, ⟨.mv (.c (.int (0))), none, false⟩], [(3, 2)], [0, 10, 11], none⟩
abbrev r_nested_double_call_1 : Reg := ⟨[⟨.ldi (.v 3) (some 20), none, false⟩, ⟨.mv (.v 1), none, false⟩, ⟨.cal F_nested_double_split [(.t 1), (.t 0)], none, false⟩, ⟨.mv (.t 0), none, false⟩, ⟨.ext (.t 0) 0, none, false⟩, ⟨.ext (.t 1) 1, none, false⟩, ⟨.mv (.t 1), none, false⟩, ⟨.mv (.t 1), none, false⟩], [(4, 1), (5, 0)], [1], none⟩
abbrev r_nested_double_call_2 : Reg := ⟨[⟨.fad (.v 3) 0 (some 10), none, false⟩, ⟨.ldi (.t 0) (some 10), none, false⟩, ⟨.mv (.v 4), none, false⟩, ⟨.mv (.v 2), none, false⟩, ⟨.cal F_nested_single_call [(.t 2), (.t 1), (.t 0)], none, false⟩, ⟨.mv (.t 0), none, false⟩, ⟨.ext (.t 0) 0, none, false⟩, ⟨.ext (.t 1) 1, none, false⟩, ⟨.mv (.t 1), none, false⟩, ⟨.mv (.t 1), none, false⟩], [(6, 1), (8, 0)], [4], none⟩
abbrev r_nested_double_call_3 : Reg := ⟨[⟨.fad (.v 3) 10 (some 10), none, false⟩, ⟨.ldi (.t 0) (some 10), none, false⟩, ⟨.mv (.v 5), none, false⟩, ⟨.mv (.v 2), none, false⟩, ⟨.cal F_nested_single_call [(.t 2), (.t 1), (.t 0)], none, false⟩, ⟨.mv (.t 0), none, false⟩, ⟨.ext (.t 0) 0, none, false⟩, ⟨.ext (.t 1) 1, none, false⟩, ⟨.mv (.t 1), none, false⟩, ⟨.mv (.t 1), none, false⟩], [(7, 1), (9, 0)], [2, 5], none⟩
abbrev r_nested_double_call_4 : Reg := ⟨[⟨.mv (.v 6), none, false⟩, ⟨.fad (.v 3) 10 (some 10), none, false⟩, ⟨.ldi (.t 0) (some 10), none, false⟩, ⟨.cal F_nested_single_size [(.t 0)], none, false⟩, ⟨.bin .mul (.t 3) (.t 0), none, false⟩, ⟨.mv (.v 7), none, false⟩, ⟨.bin .add (.t 1) (.t 0), none, false⟩, ⟨.mv (.v 8), none, false⟩, ⟨.fad (.v 3) 10 (some 10), none, false⟩, ⟨.fad (.t 0) 0 (some 10), none, false⟩, ⟨.fad (.t 0) 3 none, none, false⟩, ⟨.ldi (.t 0) none, none, false⟩, ⟨.bin .mul (.t 4) (.t 0), none, false⟩, ⟨.mv (.v 9), none, false⟩, ⟨.bin .add (.t 1) (.t 0), none, false⟩, ⟨.mv (.t 8), none, false⟩, ⟨.mv (.t 1), none, false⟩], [(10, 1), (11, 0)], [3, 6, 7, 8, 9], none⟩
abbrev ir_nested_double_call : Fn := { np := 3, nv := 12, res := [(10, none), (11, none)], body :=
(.seq (.reg r_nested_double_call_0)
 (.seq (.reg r_nested_double_call_1)
 (.seq (.reg r_nested_double_call_2)
 (.seq (.reg r_nested_double_call_3)
 (.seq (.reg r_nested_double_call_4)
 .ret))))) }
/- f99 nested_double_inner : 0:m 1:s 2:i 3:m 4:x 5:y 6:_ -/
abbrev r_nested_double_inner_0 : Reg := ⟨[⟨.bxi (.v 0), none, false⟩, ⟨.mv (.c (.int (0))), none, false⟩], [(3, 1)], [0, 6], none⟩
abbrev r_nested_double_inner_1 : Reg := ⟨[⟨.ldi (.v 3) (some 20), none, false⟩, ⟨.mv (.v 1), none, false⟩, ⟨.cal F_nested_double_split [(.t 1), (.t 0)], none, false⟩, ⟨.mv (.t 0), none, false⟩, ⟨.ext (.t 0) 0, none, false⟩, ⟨.ext (.t 1) 1, none, false⟩, ⟨.mv (.t 1), none, false⟩, ⟨.mv (.t 1), none, false⟩], [(4, 1), (5, 0)], [1], none⟩
abbrev r_nested_double_inner_2 : Reg := ⟨[⟨.fad (.v 3) 0 (some 10), none, false⟩, ⟨.ldi (.t 0) (some 10), none, false⟩, ⟨.mv (.v 4), none, false⟩, ⟨.mv (.v 2), none, false⟩, ⟨.cal F_nested_single_inner [(.t 2), (.t 1), (.t 0)], none, false⟩, ⟨.fad (.v 3) 10 (some 10), none, false⟩, ⟨.ldi (.t 0) (some 10), none, false⟩, ⟨.cal F_nested_single_size [(.t 0)], none, false⟩, ⟨.bin .mul (.t 3) (.t 0), none, false⟩, ⟨.fad (.v 3) 10 (some 10), none, false⟩, ⟨.ldi (.t 0) (some 10), none, false⟩, ⟨.mv (.v 5), none, false⟩, ⟨.mv (.v 2), none, false⟩, ⟨.cal F_nested_single_inner [(.t 2), (.t 1), (.t 0)], none, false⟩, ⟨.bin .add (.t 5) (.t 0), none, false⟩, ⟨.mv (.t 0), none, false⟩], [(6, 0)], [2, 3, 4, 5], none⟩
abbrev ir_nested_double_inner : Fn := { np := 3, nv := 7, res := [(6, none)], body :=
(.seq (.reg r_nested_double_inner_0)
 (.seq (.reg r_nested_double_inner_1)
 (.seq (.reg r_nested_double_inner_2)
 .ret))) }
/- f100 nested_double_pop : 0:m 1:s 2:g 3:r 4:m 5:x 6:y 7:_ -/
abbrev r_nested_double_pop_0 : Reg := ⟨[⟨.bxi (.v 0), none, false⟩, ⟨.mv (.c (.int (0))), none, false⟩], [(4, 1)], [0, 7], none⟩
abbrev r_nested_double_pop_1 : Reg := ⟨[⟨.ldi (.v 4) (some 20), none, false⟩, ⟨.mv (.v 1), none, false⟩, ⟨.cal F_nested_double_split [(.t 1), (.t 0)], none, false⟩, ⟨.mv (.t 0), none, false⟩, ⟨.ext (.t 0) 0, none, false⟩, ⟨.ext (.t 1) 1, none, false⟩, ⟨.mv (.t 1), none, false⟩, ⟨.mv (.t 1), none, false⟩], [(5, 1), (6, 0)], [1], none⟩
abbrev r_nested_double_pop_2 : Reg := ⟨[⟨.fad (.v 4) 0 (some 10), none, false⟩, ⟨.ldi (.t 0) (some 10), none, false⟩, ⟨.mv (.v 5), none, false⟩, ⟨.mv (.v 2), none, false⟩, ⟨.fad (.v 4) 10 (some 10), none, false⟩, ⟨.fad (.t 0) 0 (some 10), none, false⟩, ⟨.fad (.t 0) 3 none, none, false⟩, ⟨.ldi (.t 0) none, none, false⟩, ⟨.bin .quo (.t 4) (.t 0), none, false⟩, ⟨.mv (.v 3), none, false⟩, ⟨.cal F_nested_single_pop [(.t 8), (.t 7), (.t 1), (.t 0)], none, false⟩, ⟨.fad (.v 4) 10 (some 10), none, false⟩, ⟨.ldi (.t 0) (some 10), none, false⟩, ⟨.cal F_nested_single_size [(.t 0)], none, false⟩, ⟨.bin .mul (.t 3) (.t 0), none, false⟩, ⟨.fad (.v 4) 10 (some 10), none, false⟩, ⟨.ldi (.t 0) (some 10), none, false⟩, ⟨.mv (.v 6), none, false⟩, ⟨.mv (.v 2), none, false⟩, ⟨.fad (.v 4) 10 (some 10), none, false⟩, ⟨.fad (.t 0) 0 (some 10), none, false⟩, ⟨.fad (.t 0) 3 none, none, false⟩, ⟨.ldi (.t 0) none, none, false⟩, ⟨.bin .rem (.t 4) (.t 0), none, false⟩, ⟨.mv (.v 3), none, false⟩, ⟨.cal F_nested_single_pop [(.t 8), (.t 7), (.t 1), (.t 0)], none, false⟩, ⟨.bin .add (.t 11) (.t 0), none, false⟩, ⟨.mv (.t 0), none, false⟩], [(7, 0)], [2, 3, 4, 5, 6], none⟩
abbrev ir_nested_double_pop : Fn := { np := 4, nv := 8, res := [(7, none)], body :=
(.seq (.reg r_nested_double_pop_0)
 (.seq (.reg r_nested_double_pop_1)
 (.seq (.reg r_nested_double_pop_2)
 .ret))) }
end Ab
