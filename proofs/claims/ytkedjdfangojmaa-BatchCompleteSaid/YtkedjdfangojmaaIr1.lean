/- The functions of the program as small texts, printed by a tool of mine. Condition: none. -/
import Derived.Test.YtkedjdfangojmaaIr0
set_option linter.all false
namespace Ab
/- f77 cover_places : 0:m 1:from 2:m 3:seen 4:i 5:queue 6:_ 7:_ 8:_ 9:t 10:a 11:_ -/
abbrev r_cover_places_0 : Reg := ⟨[⟨.bxi (.v 0), none, false⟩, ⟨.mv (.c (.snil)), none, false⟩], [(2, 1)], [0, 11], none⟩
abbrev r_cover_places_1 : Reg := ⟨[⟨.fad (.v 2) 2 none, none, false⟩, ⟨.ldi (.t 0) none, none, false⟩, ⟨.len (.t 0), none, false⟩, ⟨.mks (.t 0) (.t 0) [.bool false] none, none, false⟩, ⟨.mv (.t 0), none, false⟩], [(3, 0)], [], none⟩
abbrev r_cover_places_2 : Reg := ⟨[⟨.mv (.v 3), none, false⟩, ⟨.mv (.v 1), none, false⟩, ⟨.iad (.t 1) (.t 0) 1, none, false⟩, ⟨.st (.t 0) (.c (.bool true)) 1, none, false⟩], [], [], none⟩
abbrev r_cover_places_3 : Reg := ⟨[⟨.mv (.v 1), none, false⟩, ⟨.bld [.int 0, .snil] [(0, 1, (.t 0))], none, false⟩, ⟨.litm [(.t 0)] (some 2), none, false⟩, ⟨.mv (.t 0), none, false⟩], [(5, 0)], [1], none⟩
abbrev r_cover_places_4 : Reg := ⟨[⟨.mv (.c (.int (0))), none, false⟩], [(4, 0)], [], none⟩
abbrev r_cover_places_5 : Reg := ⟨[⟨.mv (.v 4), none, false⟩, ⟨.mv (.v 5), none, false⟩, ⟨.len (.t 0), none, false⟩, ⟨.bin .lss (.t 2) (.t 0), none, false⟩], [], [], some (23, 0)⟩
abbrev r_cover_places_7 : Reg := ⟨[⟨.fad (.v 2) 2 none, none, false⟩, ⟨.ldi (.t 0) none, none, false⟩, ⟨.mv (.v 5), none, false⟩, ⟨.mv (.v 4), none, false⟩, ⟨.iad (.t 1) (.t 0) 2, none, false⟩, ⟨.fad (.t 0) 0 none, none, false⟩, ⟨.ld (.t 0) none, none, false⟩, ⟨.iad (.t 5) (.t 0) 1, none, false⟩, ⟨.ldi (.t 0) none, none, false⟩, ⟨.len (.t 0), none, false⟩, ⟨.mv (.c (.int (0))), none, false⟩], [(8, 2), (7, 1), (6, 0)], [], none⟩
abbrev r_cover_places_8 : Reg := ⟨[⟨.bin .lss (.v 6) (.v 7), none, false⟩], [], [], some (37, 0)⟩
abbrev r_cover_places_9 : Reg := ⟨[⟨.mv (.v 6), none, false⟩, ⟨.iad (.v 8) (.v 6) 1, none, false⟩, ⟨.ld (.t 0) none, none, false⟩, ⟨.mv (.t 2), none, false⟩, ⟨.mv (.t 1), none, false⟩], [(10, 1), (9, 0)], [], none⟩
abbrev r_cover_places_10 : Reg := ⟨[⟨.mv (.v 3), none, false⟩, ⟨.mv (.v 9), none, false⟩, ⟨.iad (.t 1) (.t 0) 1, none, false⟩, ⟨.ld (.t 0) none, none, false⟩, ⟨.not (.t 0), none, false⟩], [], [], some (45, 0)⟩
abbrev r_cover_places_11 : Reg := ⟨[⟨.mv (.v 3), none, false⟩, ⟨.mv (.v 9), none, false⟩, ⟨.iad (.t 1) (.t 0) 1, none, false⟩, ⟨.st (.t 0) (.c (.bool true)) 1, none, false⟩], [], [], none⟩
abbrev r_cover_places_12 : Reg := ⟨[⟨.mv (.v 5), none, false⟩, ⟨.mv (.v 9), none, false⟩, ⟨.mv (.v 5), none, false⟩, ⟨.mv (.v 4), none, false⟩, ⟨.iad (.t 1) (.t 0) 2, none, false⟩, ⟨.fad (.t 0) 1 none, none, false⟩, ⟨.ld (.t 0) none, none, false⟩, ⟨.mv (.v 10), none, false⟩, ⟨.liti [(.t 0)] 1, none, false⟩, ⟨.liti [(.t 2), (.t 0)] 1, none, false⟩, ⟨.cal F_word_Join [(.t 0)], none, false⟩, ⟨.bld [.int 0, .snil] [(0, 1, (.t 9)), (1, 1, (.t 0))], none, false⟩, ⟨.lita [(.t 0)] 2, none, false⟩, ⟨.appw (.t 12) (.t 0) (some 2), none, false⟩, ⟨.mv (.t 0), none, false⟩], [(5, 0)], [9, 10], none⟩
abbrev r_cover_places_13 : Reg := ⟨[⟨.bin .add (.v 6) (.c (.int (1))), none, false⟩, ⟨.mv (.t 0), none, false⟩], [(6, 0)], [9, 10], none⟩
abbrev b_cover_places_2 : IC := (.seq (.reg r_cover_places_8)
 (.seq (.cond 37 .skip (.exit 2))
 (.seq (.block 3 (.seq (.reg r_cover_places_9)
 (.seq (.reg r_cover_places_10)
 (.cond 45 (.seq (.reg r_cover_places_11)
 (.reg r_cover_places_12)) .skip))))
 (.reg r_cover_places_13))))
abbrev r_cover_places_6 : Reg := ⟨[⟨.mv (.v 4), none, false⟩, ⟨.bin .add (.t 0) (.c (.int (1))), none, false⟩, ⟨.mv (.t 0), none, false⟩], [(4, 0)], [6, 7, 8], none⟩
abbrev b_cover_places_0 : IC := (.seq (.seq (.reg r_cover_places_5)
 (.cond 23 .skip (.exit 0)))
 (.seq (.block 1 (.seq (.reg r_cover_places_7)
 (.block 2 (.loop b_cover_places_2))))
 (.reg r_cover_places_6)))
abbrev r_cover_places_14 : Reg := ⟨[⟨.mv (.v 5), none, false⟩, ⟨.mv (.t 0), none, false⟩], [(11, 0)], [2, 3, 4, 5], none⟩
abbrev ir_cover_places : Fn := { np := 2, nv := 12, res := [(11, none)], body :=
(.seq (.reg r_cover_places_0)
 (.seq (.reg r_cover_places_1)
 (.seq (.reg r_cover_places_2)
 (.seq (.reg r_cover_places_3)
 (.seq (.seq (.reg r_cover_places_4)
 (.block 0 (.loop b_cover_places_0)))
 (.seq (.reg r_cover_places_14)
 .ret)))))) }
/- f78 mealy_state : 0:m 1:s 2:m 3:e 4:_ -/
abbrev r_mealy_state_0 : Reg := ⟨[⟨.bxi (.v 0), none, false⟩, ⟨.mv (.c (.int (0))), none, false⟩], [(2, 1)], [0, 4], none⟩
abbrev r_mealy_state_1 : Reg := ⟨[⟨.ldi (.v 2) (some 4), none, false⟩, ⟨.cal F_mealy_Valid [(.t 0)], none, false⟩, ⟨.mv (.t 0), none, false⟩], [(3, 0)], [], none⟩
abbrev r_mealy_state_2 : Reg := ⟨[⟨.mv (.v 3), none, false⟩, ⟨.bin .neq (.t 0) (.c (.int (0))), none, false⟩], [], [], some (9, 0)⟩
abbrev r_mealy_state_3 : Reg := ⟨[⟨.mv (.v 3), none, false⟩, ⟨.mv (.t 0), none, false⟩], [(4, 0)], [1, 2, 3], none⟩
abbrev r_mealy_state_4 : Reg := ⟨[⟨.mv (.v 1), none, false⟩, ⟨.bin .lss (.t 0) (.c (.int (0))), none, false⟩, ⟨.mv (.t 0), none, false⟩, ⟨.mv (.v 1), some (.t 0, false), false⟩, ⟨.fad (.v 2) 2 none, some (.t 1, false), false⟩, ⟨.ldi (.t 0) none, some (.t 2, false), false⟩, ⟨.len (.t 0), some (.t 3, false), false⟩, ⟨.bin .geq (.t 3) (.t 0), some (.t 4, false), false⟩, ⟨.pick (.t 5) (.c (.bool true)) (.t 0), none, false⟩], [], [1, 2, 3], some (19, 0)⟩
abbrev r_mealy_state_5 : Reg := ⟨[⟨.mv (.c (.int (2))), none, false⟩], [(4, 0)], [], none⟩
abbrev r_mealy_state_6 : Reg := ⟨[⟨.mv (.c (.int (0))), none, false⟩], [(4, 0)], [], none⟩
abbrev ir_mealy_state : Fn := { np := 2, nv := 5, res := [(4, none)], body :=
(.seq (.reg r_mealy_state_0)
 (.seq (.seq (.reg r_mealy_state_1)
 (.seq (.reg r_mealy_state_2)
 (.cond 9 (.seq (.reg r_mealy_state_3)
 .ret) .skip)))
 (.seq (.seq (.reg r_mealy_state_4)
 (.cond 19 (.seq (.reg r_mealy_state_5)
 .ret) .skip))
 (.seq (.reg r_mealy_state_6)
 .ret)))) }
/- f79 mealy_runner_run : 0:r 1:w 2:_ 3:_ 4:_ 5:a 6:next 7:out 8:o 9:_ -/
abbrev r_mealy_runner_run_0 : Reg := ⟨[⟨.mv (.c (.snil)), none, false⟩], [], [9], none⟩
abbrev r_mealy_runner_run_1 : Reg := ⟨[⟨.nl none, none, false⟩], [(7, 0)], [], none⟩
abbrev r_mealy_runner_run_2 : Reg := ⟨[⟨.mv (.v 1), none, false⟩, ⟨.len (.t 0), none, false⟩, ⟨.mv (.c (.int (0))), none, false⟩], [(4, 2), (3, 1), (2, 0)], [1], none⟩
abbrev r_mealy_runner_run_3 : Reg := ⟨[⟨.bin .lss (.v 2) (.v 3), none, false⟩], [], [], some (13, 0)⟩
abbrev r_mealy_runner_run_4 : Reg := ⟨[⟨.iad (.v 4) (.v 2) 1, none, false⟩, ⟨.ld (.t 0) none, none, false⟩, ⟨.mv (.t 0), none, false⟩], [(5, 0)], [], none⟩
abbrev r_mealy_runner_run_5 : Reg := ⟨[⟨.mv (.v 0), none, false⟩, ⟨.nck (.t 0), none, false⟩, ⟨.fad (.t 0) 0 (some 4), none, false⟩, ⟨.ld (.t 0) (some 4), none, false⟩, ⟨.mv (.v 0), none, false⟩, ⟨.nck (.t 0), none, false⟩, ⟨.fad (.t 0) 4 none, none, false⟩, ⟨.ld (.t 0) none, none, false⟩, ⟨.mv (.v 5), none, false⟩, ⟨.cal F_mealy_machine_move [(.t 5), (.t 1), (.t 0)], none, false⟩, ⟨.mv (.t 0), none, false⟩, ⟨.ext (.t 0) 0, none, false⟩, ⟨.ext (.t 1) 1, none, false⟩, ⟨.mv (.t 1), none, false⟩, ⟨.mv (.t 1), none, false⟩], [(6, 1), (8, 0)], [5], none⟩
abbrev r_mealy_runner_run_6 : Reg := ⟨[⟨.mv (.v 0), none, false⟩, ⟨.mv (.v 6), none, false⟩, ⟨.nck (.t 1), none, false⟩, ⟨.fad (.t 0) 4 none, none, false⟩, ⟨.st (.t 0) (.t 2) 1, none, false⟩], [], [6], none⟩
abbrev r_mealy_runner_run_7 : Reg := ⟨[⟨.mv (.v 7), none, false⟩, ⟨.mv (.v 8), none, false⟩, ⟨.lita [(.t 0)] 1, none, false⟩, ⟨.appw (.t 2) (.t 0) none, none, false⟩, ⟨.mv (.t 0), none, false⟩], [(7, 0)], [8], none⟩
abbrev r_mealy_runner_run_8 : Reg := ⟨[⟨.bin .add (.v 2) (.c (.int (1))), none, false⟩, ⟨.mv (.t 0), none, false⟩], [(2, 0)], [], none⟩
abbrev b_mealy_runner_run_0 : IC := (.seq (.reg r_mealy_runner_run_3)
 (.seq (.cond 13 .skip (.exit 0))
 (.seq (.block 1 (.seq (.reg r_mealy_runner_run_4)
 (.seq (.reg r_mealy_runner_run_5)
 (.seq (.reg r_mealy_runner_run_6)
 (.reg r_mealy_runner_run_7)))))
 (.reg r_mealy_runner_run_8))))
abbrev r_mealy_runner_run_9 : Reg := ⟨[⟨.mv (.v 7), none, false⟩, ⟨.mv (.t 0), none, false⟩], [(9, 0)], [0, 2, 3, 4, 7], none⟩
abbrev ir_mealy_runner_run : Fn := { np := 2, nv := 10, res := [(9, none)], body :=
(.seq (.reg r_mealy_runner_run_0)
 (.seq (.reg r_mealy_runner_run_1)
 (.seq (.seq (.reg r_mealy_runner_run_2)
 (.block 0 (.loop b_mealy_runner_run_0)))
 (.seq (.reg r_mealy_runner_run_9)
 .ret)))) }
/- f80 ref10_Access : 0:m 1:m 2:e 3:i 4:states 5:a 6:t 7:words 8:_ 9:_ 10:_ -/
abbrev r_ref10_Access_0 : Reg := ⟨[⟨.bxi (.v 0), none, false⟩, ⟨.mv (.c (.snil)), none, false⟩, ⟨.mv (.c (.snil)), none, false⟩, ⟨.mv (.c (.int (0))), none, false⟩], [(1, 3)], [0, 8, 9, 10], none⟩
abbrev r_ref10_Access_1 : Reg := ⟨[⟨.ldi (.v 1) (some 4), none, false⟩, ⟨.cal F_ref06_Valid [(.t 0)], none, false⟩, ⟨.mv (.t 0), none, false⟩], [(2, 0)], [], none⟩
abbrev r_ref10_Access_2 : Reg := ⟨[⟨.mv (.v 2), none, false⟩, ⟨.bin .neq (.t 0) (.c (.int (0))), none, false⟩], [], [], some (14, 0)⟩
abbrev r_ref10_Access_3 : Reg := ⟨[⟨.mv (.v 2), none, false⟩, ⟨.mv (.c (.snil)), none, false⟩, ⟨.mv (.c (.snil)), none, false⟩, ⟨.mv (.t 2), none, false⟩], [(8, 2), (9, 1), (10, 0)], [1, 2], none⟩
abbrev r_ref10_Access_4 : Reg := ⟨[⟨.fad (.v 1) 1 none, none, false⟩, ⟨.ldi (.t 0) none, none, false⟩, ⟨.litm [(.t 0)] none, none, false⟩, ⟨.mv (.t 0), none, false⟩], [(4, 0)], [2], none⟩
abbrev r_ref10_Access_5 : Reg := ⟨[⟨.liti [] 1, none, false⟩, ⟨.litm [(.t 0)] none, none, false⟩, ⟨.mv (.t 0), none, false⟩], [(7, 0)], [], none⟩
abbrev r_ref10_Access_6 : Reg := ⟨[⟨.mv (.c (.int (0))), none, false⟩], [(3, 0)], [], none⟩
abbrev r_ref10_Access_7 : Reg := ⟨[⟨.mv (.v 3), none, false⟩, ⟨.mv (.v 4), none, false⟩, ⟨.len (.t 0), none, false⟩, ⟨.bin .lss (.t 2) (.t 0), none, false⟩], [], [], some (24, 0)⟩
abbrev r_ref10_Access_9 : Reg := ⟨[⟨.mv (.c (.int (0))), none, false⟩], [(5, 0)], [], none⟩
abbrev r_ref10_Access_10 : Reg := ⟨[⟨.mv (.v 5), none, false⟩, ⟨.fad (.v 1) 0 none, none, false⟩, ⟨.ldi (.t 0) none, none, false⟩, ⟨.bin .lss (.t 2) (.t 0), none, false⟩], [], [], some (30, 0)⟩
abbrev r_ref10_Access_12 : Reg := ⟨[⟨.fad (.v 1) 2 none, none, false⟩, ⟨.ldi (.t 0) none, none, false⟩, ⟨.mv (.v 4), none, false⟩, ⟨.mv (.v 3), none, false⟩, ⟨.iad (.t 1) (.t 0) 1, none, false⟩, ⟨.ld (.t 0) none, none, false⟩, ⟨.iad (.t 4) (.t 0) 1, none, false⟩, ⟨.ldi (.t 0) none, none, false⟩, ⟨.mv (.v 5), none, false⟩, ⟨.iad (.t 1) (.t 0) 1, none, false⟩, ⟨.ldi (.t 0) none, none, false⟩, ⟨.mv (.t 0), none, false⟩], [(6, 0)], [], none⟩
abbrev r_ref10_Access_13 : Reg := ⟨[⟨.mv (.v 4), none, false⟩, ⟨.mv (.v 6), none, false⟩, ⟨.cab F_ref10_has [(.t 1), (.t 0)], none, false⟩, ⟨.not (.t 0), none, false⟩], [], [], some (47, 0)⟩
abbrev r_ref10_Access_14 : Reg := ⟨[⟨.mv (.v 4), none, false⟩, ⟨.mv (.v 6), none, false⟩, ⟨.lita [(.t 0)] 1, none, false⟩, ⟨.appw (.t 2) (.t 0) none, none, false⟩, ⟨.mv (.t 0), none, false⟩], [(4, 0)], [6], none⟩
abbrev r_ref10_Access_15 : Reg := ⟨[⟨.mv (.v 7), none, false⟩, ⟨.mv (.v 7), none, false⟩, ⟨.mv (.v 3), none, false⟩, ⟨.iad (.t 1) (.t 0) 1, none, false⟩, ⟨.ld (.t 0) none, none, false⟩, ⟨.mv (.v 5), none, false⟩, ⟨.cal F_ref09_Extended [(.t 1), (.t 0)], none, false⟩, ⟨.lita [(.t 0)] 1, none, false⟩, ⟨.appw (.t 7) (.t 0) none, none, false⟩, ⟨.mv (.t 0), none, false⟩], [(7, 0)], [], none⟩
abbrev r_ref10_Access_11 : Reg := ⟨[⟨.mv (.v 5), none, false⟩, ⟨.bin .add (.t 0) (.c (.int (1))), none, false⟩, ⟨.mv (.t 0), none, false⟩], [(5, 0)], [6], none⟩
abbrev b_ref10_Access_2 : IC := (.seq (.seq (.reg r_ref10_Access_10)
 (.cond 30 .skip (.exit 2)))
 (.seq (.block 3 (.seq (.reg r_ref10_Access_12)
 (.seq (.reg r_ref10_Access_13)
 (.cond 47 (.seq (.reg r_ref10_Access_14)
 (.reg r_ref10_Access_15)) .skip))))
 (.reg r_ref10_Access_11)))
abbrev r_ref10_Access_8 : Reg := ⟨[⟨.mv (.v 3), none, false⟩, ⟨.bin .add (.t 0) (.c (.int (1))), none, false⟩, ⟨.mv (.t 0), none, false⟩], [(3, 0)], [5], none⟩
abbrev b_ref10_Access_0 : IC := (.seq (.seq (.reg r_ref10_Access_7)
 (.cond 24 .skip (.exit 0)))
 (.seq (.block 1 (.seq (.reg r_ref10_Access_9)
 (.block 2 (.loop b_ref10_Access_2))))
 (.reg r_ref10_Access_8)))
abbrev r_ref10_Access_16 : Reg := ⟨[⟨.mv (.v 4), none, false⟩, ⟨.mv (.v 7), none, false⟩, ⟨.mv (.t 1), none, false⟩, ⟨.mv (.t 1), none, false⟩, ⟨.mv (.c (.int (0))), none, false⟩], [(8, 2), (9, 1), (10, 0)], [1, 3, 4, 7], none⟩
abbrev ir_ref10_Access : Fn := { np := 1, nv := 11, res := [(8, none), (9, none), (10, none)], body :=
(.seq (.reg r_ref10_Access_0)
 (.seq (.seq (.reg r_ref10_Access_1)
 (.seq (.reg r_ref10_Access_2)
 (.cond 14 (.seq (.reg r_ref10_Access_3)
 .ret) .skip)))
 (.seq (.reg r_ref10_Access_4)
 (.seq (.reg r_ref10_Access_5)
 (.seq (.seq (.reg r_ref10_Access_6)
 (.block 0 (.loop b_ref10_Access_0)))
 (.seq (.reg r_ref10_Access_16)
 .ret)))))) }
/- f81 ref16_add : 0:o 1:t 2:o 3:t 4:i 5:done 6:i 7:x 8:out 9:_ -/
abbrev r_ref16_add_0 : Reg := ⟨[⟨.bxi (.v 0), none, false⟩, ⟨.bxi (.v 1), none, false⟩, ⟨.alc [.int 0, .snil] (some 2), none, false⟩], [(2, 2), (3, 1), (9, 0)], [0, 1], none⟩
abbrev r_ref16_add_1 : Reg := ⟨[⟨.fad (.v 2) 0 none, none, false⟩, ⟨.ldi (.t 0) none, none, false⟩, ⟨.bld [.int 0, .snil] [(0, 1, (.t 0))], none, false⟩, ⟨.alc [.int 0, .snil] (some 2), none, false⟩, ⟨.st (.t 0) (.t 1) 2, none, false⟩], [(8, 1)], [], none⟩
abbrev r_ref16_add_2 : Reg := ⟨[⟨.fad (.v 3) 0 none, none, false⟩, ⟨.ldi (.t 0) none, none, false⟩, ⟨.len (.t 0), none, false⟩, ⟨.bin .eql (.t 0) (.c (.int (0))), none, false⟩, ⟨.mv (.t 0), none, false⟩], [(5, 0)], [], none⟩
abbrev r_ref16_add_3 : Reg := ⟨[⟨.mv (.c (.int (0))), none, false⟩], [(4, 0)], [], none⟩
abbrev r_ref16_add_4 : Reg := ⟨[⟨.mv (.v 4), none, false⟩, ⟨.fad (.v 2) 1 none, none, false⟩, ⟨.ldi (.t 0) none, none, false⟩, ⟨.len (.t 0), none, false⟩, ⟨.bin .lss (.t 3) (.t 0), none, false⟩], [], [], some (21, 0)⟩
abbrev r_ref16_add_6 : Reg := ⟨[⟨.mv (.v 5), none, false⟩, ⟨.mv (.t 0), none, false⟩, ⟨.fad (.v 2) 1 none, some (.t 0, false), false⟩, ⟨.ldi (.t 0) none, some (.t 1, false), false⟩, ⟨.mv (.v 4), some (.t 2, false), false⟩, ⟨.iad (.t 1) (.t 0) 2, some (.t 3, false), false⟩, ⟨.fad (.t 0) 0 none, some (.t 4, false), false⟩, ⟨.ldi (.t 0) none, some (.t 5, false), false⟩, ⟨.fad (.v 3) 0 none, some (.t 6, false), false⟩, ⟨.ldi (.t 0) none, some (.t 7, false), false⟩, ⟨.cal F_ref01_HasPrefix [(.t 2), (.t 0)], some (.t 8, false), false⟩, ⟨.pick (.t 9) (.c (.bool true)) (.t 0), none, false⟩, ⟨.mv (.t 0), none, false⟩], [(5, 0)], [], none⟩
abbrev r_ref16_add_5 : Reg := ⟨[⟨.mv (.v 4), none, false⟩, ⟨.bin .add (.t 0) (.c (.int (1))), none, false⟩, ⟨.mv (.t 0), none, false⟩], [(4, 0)], [], none⟩
abbrev b_ref16_add_0 : IC := (.seq (.seq (.reg r_ref16_add_4)
 (.cond 21 .skip (.exit 0)))
 (.seq (.block 1 (.reg r_ref16_add_6))
 (.reg r_ref16_add_5)))
abbrev r_ref16_add_7 : Reg := ⟨[⟨.mv (.c (.int (0))), none, false⟩], [(6, 0)], [4], none⟩
abbrev r_ref16_add_8 : Reg := ⟨[⟨.mv (.v 6), none, false⟩, ⟨.fad (.v 2) 1 none, none, false⟩, ⟨.ldi (.t 0) none, none, false⟩, ⟨.len (.t 0), none, false⟩, ⟨.bin .lss (.t 3) (.t 0), none, false⟩], [], [], some (40, 0)⟩
abbrev r_ref16_add_10 : Reg := ⟨[⟨.fad (.v 2) 1 none, none, false⟩, ⟨.ldi (.t 0) none, none, false⟩, ⟨.mv (.v 6), none, false⟩, ⟨.iad (.t 1) (.t 0) 2, none, false⟩, ⟨.ldi (.t 0) (some 2), none, false⟩, ⟨.alc0 2, none, false⟩, ⟨.ini (.t 0) (.t 1) 2, none, false⟩], [(7, 0)], [], none⟩
abbrev r_ref16_add_11 : Reg := ⟨[⟨.mv (.v 5), none, false⟩, ⟨.not (.t 0), none, false⟩, ⟨.mv (.t 0), none, false⟩, ⟨.fad (.v 3) 0 none, some (.t 0, true), false⟩, ⟨.ldi (.t 0) none, some (.t 1, true), false⟩, ⟨.fad (.v 7) 0 none, some (.t 2, true), false⟩, ⟨.ldi (.t 0) none, some (.t 3, true), false⟩, ⟨.cal F_ref01_Compare [(.t 2), (.t 0)], some (.t 4, true), false⟩, ⟨.bin .lss (.t 0) (.c (.int (0))), some (.t 5, true), false⟩, ⟨.pick (.t 6) (.t 0) (.c (.bool false)), none, false⟩], [], [], some (57, 0)⟩
abbrev r_ref16_add_12 : Reg := ⟨[⟨.fad (.v 8) 1 none, none, false⟩, ⟨.ld (.t 0) none, none, false⟩, ⟨.ldi (.v 3) (some 2), none, false⟩, ⟨.cal F_ref16_copied [(.t 0)], none, false⟩, ⟨.lita [(.t 0)] 2, none, false⟩, ⟨.app (.t 3) (.t 0) (some 2), none, false⟩, ⟨.fad (.v 8) 1 none, none, false⟩, ⟨.st (.t 0) (.t 1) 1, none, false⟩], [], [5], none⟩
abbrev r_ref16_add_13 : Reg := ⟨[⟨.mv (.c (.bool true)), none, false⟩], [(5, 0)], [], none⟩
abbrev r_ref16_add_14 : Reg := ⟨[⟨.fad (.v 3) 0 none, none, false⟩, ⟨.ldi (.t 0) none, none, false⟩, ⟨.fad (.v 7) 0 none, none, false⟩, ⟨.ldi (.t 0) none, none, false⟩, ⟨.cal F_ref01_HasPrefix [(.t 2), (.t 0)], none, false⟩, ⟨.not (.t 0), none, false⟩, ⟨.mv (.t 0), none, false⟩, ⟨.fad (.v 3) 0 none, some (.t 0, false), false⟩, ⟨.ldi (.t 0) none, some (.t 1, false), false⟩, ⟨.len (.t 0), some (.t 2, false), false⟩, ⟨.fad (.v 7) 0 none, some (.t 3, false), false⟩, ⟨.ldi (.t 0) none, some (.t 4, false), false⟩, ⟨.len (.t 0), some (.t 5, false), false⟩, ⟨.bin .eql (.t 3) (.t 0), some (.t 6, false), false⟩, ⟨.pick (.t 7) (.c (.bool true)) (.t 0), none, false⟩], [], [], some (79, 0)⟩
abbrev r_ref16_add_15 : Reg := ⟨[⟨.fad (.v 8) 1 none, none, false⟩, ⟨.ld (.t 0) none, none, false⟩, ⟨.ldi (.v 7) (some 2), none, false⟩, ⟨.cal F_ref16_copied [(.t 0)], none, false⟩, ⟨.lita [(.t 0)] 2, none, false⟩, ⟨.app (.t 3) (.t 0) (some 2), none, false⟩, ⟨.fad (.v 8) 1 none, none, false⟩, ⟨.st (.t 0) (.t 1) 1, none, false⟩], [], [7], none⟩
abbrev r_ref16_add_9 : Reg := ⟨[⟨.mv (.v 6), none, false⟩, ⟨.bin .add (.t 0) (.c (.int (1))), none, false⟩, ⟨.mv (.t 0), none, false⟩], [(6, 0)], [7], none⟩
abbrev b_ref16_add_2 : IC := (.seq (.seq (.reg r_ref16_add_8)
 (.cond 40 .skip (.exit 2)))
 (.seq (.block 3 (.seq (.reg r_ref16_add_10)
 (.seq (.seq (.reg r_ref16_add_11)
 (.cond 57 (.seq (.reg r_ref16_add_12)
 (.reg r_ref16_add_13)) .skip))
 (.seq (.reg r_ref16_add_14)
 (.cond 79 (.reg r_ref16_add_15) .skip)))))
 (.reg r_ref16_add_9)))
abbrev r_ref16_add_16 : Reg := ⟨[⟨.mv (.v 5), none, false⟩, ⟨.not (.t 0), none, false⟩], [], [2, 5, 6], some (88, 0)⟩
abbrev r_ref16_add_17 : Reg := ⟨[⟨.fad (.v 8) 1 none, none, false⟩, ⟨.ld (.t 0) none, none, false⟩, ⟨.ldi (.v 3) (some 2), none, false⟩, ⟨.cal F_ref16_copied [(.t 0)], none, false⟩, ⟨.lita [(.t 0)] 2, none, false⟩, ⟨.app (.t 3) (.t 0) (some 2), none, false⟩, ⟨.fad (.v 8) 1 none, none, false⟩, ⟨.st (.t 0) (.t 1) 1, none, false⟩], [], [3], none⟩
abbrev r_ref16_add_18 : Reg := ⟨[⟨.ld (.v 8) (some 2), none, false⟩, ⟨.st (.v 9) (.t 0) 2, none, false⟩], [], [3, 8], none⟩
abbrev ir_ref16_add : Fn := { np := 2, nv := 10, res := [(9, some (some 2))], body :=
(.seq (.reg r_ref16_add_0)
 (.seq (.reg r_ref16_add_1)
 (.seq (.reg r_ref16_add_2)
 (.seq (.seq (.reg r_ref16_add_3)
 (.block 0 (.loop b_ref16_add_0)))
 (.seq (.seq (.reg r_ref16_add_7)
 (.block 2 (.loop b_ref16_add_2)))
 (.seq (.seq (.reg r_ref16_add_16)
 (.cond 88 (.reg r_ref16_add_17) .skip))
 (.seq (.reg r_ref16_add_18)
 .ret))))))) }
/- f82 ref02_with : 0:l 1:w 2:k 3:i 4:_ -/
abbrev r_ref02_with_0 : Reg := ⟨[⟨.mv (.c (.snil)), none, false⟩], [], [4], none⟩
abbrev r_ref02_with_1 : Reg := ⟨[⟨.mv (.v 0), none, false⟩, ⟨.mv (.v 1), none, false⟩, ⟨.cab F_ref02_place [(.t 1), (.t 0)], none, false⟩, ⟨.mv (.t 0), none, false⟩], [(2, 0)], [], none⟩
abbrev r_ref02_with_2 : Reg := ⟨[⟨.mv (.v 2), none, false⟩, ⟨.mv (.v 0), none, false⟩, ⟨.len (.t 0), none, false⟩, ⟨.bin .lss (.t 2) (.t 0), none, false⟩, ⟨.mv (.t 0), none, false⟩, ⟨.mv (.v 0), some (.t 0, true), false⟩, ⟨.mv (.v 2), some (.t 1, true), false⟩, ⟨.iad (.t 1) (.t 0) 1, some (.t 2, true), false⟩, ⟨.ld (.t 0) none, some (.t 3, true), false⟩, ⟨.mv (.v 1), some (.t 4, true), false⟩, ⟨.cab F_ref01_Same [(.t 1), (.t 0)], some (.t 5, true), false⟩, ⟨.pick (.t 6) (.t 0) (.c (.bool false)), none, false⟩], [], [], some (21, 0)⟩
abbrev r_ref02_with_3 : Reg := ⟨[⟨.mv (.v 0), none, false⟩, ⟨.mv (.t 0), none, false⟩], [(4, 0)], [0, 1, 2], none⟩
abbrev r_ref02_with_4 : Reg := ⟨[⟨.mv (.v 0), none, false⟩, ⟨.lita [(.c (.snil))] 1, none, false⟩, ⟨.appw (.t 1) (.t 0) none, none, false⟩, ⟨.mv (.t 0), none, false⟩], [(0, 0)], [], none⟩
abbrev r_ref02_with_5 : Reg := ⟨[⟨.mv (.v 0), none, false⟩, ⟨.len (.t 0), none, false⟩, ⟨.bin .sub (.t 0) (.c (.int (1))), none, false⟩, ⟨.mv (.t 0), none, false⟩], [(3, 0)], [], none⟩
abbrev r_ref02_with_6 : Reg := ⟨[⟨.mv (.v 3), none, false⟩, ⟨.mv (.v 2), none, false⟩, ⟨.bin .gtr (.t 1) (.t 0), none, false⟩], [], [], some (31, 0)⟩
abbrev r_ref02_with_8 : Reg := ⟨[⟨.mv (.v 0), none, false⟩, ⟨.mv (.v 3), none, false⟩, ⟨.mv (.v 0), none, false⟩, ⟨.mv (.v 3), none, false⟩, ⟨.bin .sub (.t 0) (.c (.int (1))), none, false⟩, ⟨.iad (.t 2) (.t 0) 1, none, false⟩, ⟨.ld (.t 0) none, none, false⟩, ⟨.iad (.t 6) (.t 5) 1, none, false⟩, ⟨.st (.t 0) (.t 1) 1, none, false⟩], [], [], none⟩
abbrev r_ref02_with_7 : Reg := ⟨[⟨.mv (.v 3), none, false⟩, ⟨.bin .sub (.t 0) (.c (.int (1))), none, false⟩, ⟨.mv (.t 0), none, false⟩], [(3, 0)], [], none⟩
abbrev b_ref02_with_0 : IC := (.seq (.seq (.reg r_ref02_with_6)
 (.cond 31 .skip (.exit 0)))
 (.seq (.block 1 (.reg r_ref02_with_8))
 (.reg r_ref02_with_7)))
abbrev r_ref02_with_9 : Reg := ⟨[⟨.mv (.v 0), none, false⟩, ⟨.mv (.v 2), none, false⟩, ⟨.lita [] 1, none, false⟩, ⟨.mv (.v 1), none, false⟩, ⟨.appw (.t 1) (.t 0) none, none, false⟩, ⟨.iad (.t 4) (.t 3) 1, none, false⟩, ⟨.st (.t 0) (.t 1) 1, none, false⟩], [], [1, 2, 3], none⟩
abbrev r_ref02_with_10 : Reg := ⟨[⟨.mv (.v 0), none, false⟩, ⟨.mv (.t 0), none, false⟩], [(4, 0)], [0], none⟩
abbrev ir_ref02_with : Fn := { np := 2, nv := 5, res := [(4, none)], body :=
(.seq (.reg r_ref02_with_0)
 (.seq (.reg r_ref02_with_1)
 (.seq (.seq (.reg r_ref02_with_2)
 (.cond 21 (.seq (.reg r_ref02_with_3)
 .ret) .skip))
 (.seq (.reg r_ref02_with_4)
 (.seq (.seq (.reg r_ref02_with_5)
 (.block 0 (.loop b_ref02_with_0)))
 (.seq (.reg r_ref02_with_9)
 (.seq (.reg r_ref02_with_10)
 .ret))))))) }
/- f83 slices_IndexFunc_Sint_int : 0:s 1:f 2:_ 3:_ 4:i 5:_ -/
abbrev r_slices_IndexFunc_Sint_int_0 : Reg := ⟨[⟨.mv (.c (.int (0))), none, false⟩], [], [5], none⟩
abbrev r_slices_IndexFunc_Sint_int_1 : Reg := ⟨[⟨.mv (.v 0), none, false⟩, ⟨.len (.t 0), none, false⟩, ⟨.mv (.c (.int (0))), none, false⟩], [(3, 1), (2, 0)], [], none⟩
abbrev r_slices_IndexFunc_Sint_int_2 : Reg := ⟨[⟨.bin .lss (.v 2) (.v 3), none, false⟩], [], [], some (9, 0)⟩
abbrev r_slices_IndexFunc_Sint_int_3 : Reg := ⟨[⟨.mv (.v 2), none, false⟩, ⟨.mv (.t 0), none, false⟩], [(4, 0)], [], none⟩
abbrev r_slices_IndexFunc_Sint_int_4 : Reg := ⟨[⟨.mv (.v 1), none, false⟩, ⟨.mv (.v 0), none, false⟩, ⟨.mv (.v 4), none, false⟩, ⟨.iad (.t 1) (.t 0) 1, none, false⟩, ⟨.ld (.t 0) none, none, false⟩, ⟨.cald (.t 4) [(.t 0)], none, false⟩], [], [], some (16, 0)⟩
abbrev r_slices_IndexFunc_Sint_int_5 : Reg := ⟨[⟨.mv (.v 4), none, false⟩, ⟨.mv (.t 0), none, false⟩], [(5, 0)], [0, 1, 2, 3, 4], none⟩
abbrev r_slices_IndexFunc_Sint_int_6 : Reg := ⟨[⟨.bin .add (.v 2) (.c (.int (1))), none, false⟩, ⟨.mv (.t 0), none, false⟩], [(2, 0)], [4], none⟩
abbrev b_slices_IndexFunc_Sint_int_0 : IC := (.seq (.reg r_slices_IndexFunc_Sint_int_2)
 (.seq (.cond 9 .skip (.exit 0))
 (.seq (.block 1 (.seq (.reg r_slices_IndexFunc_Sint_int_3)
 (.seq (.reg r_slices_IndexFunc_Sint_int_4)
 (.cond 16 (.seq (.reg r_slices_IndexFunc_Sint_int_5)
 .ret) .skip))))
 (.reg r_slices_IndexFunc_Sint_int_6))))
abbrev r_slices_IndexFunc_Sint_int_7 : Reg := ⟨[⟨.mv (.c (.int (-1))), none, false⟩], [(5, 0)], [0, 1, 2, 3], none⟩
abbrev ir_slices_IndexFunc_Sint_int : Fn := { np := 2, nv := 6, res := [(5, none)], body :=
(.seq (.reg r_slices_IndexFunc_Sint_int_0)
 (.seq (.seq (.reg r_slices_IndexFunc_Sint_int_1)
 (.block 0 (.loop b_slices_IndexFunc_Sint_int_0)))
 (.seq (.reg r_slices_IndexFunc_Sint_int_7)
 .ret))) }
/- f84 word_Common : 0:a 1:b 2:_ 3:_ 4:i 5:_ -/
abbrev r_word_Common_0 : Reg := ⟨[⟨.mv (.c (.int (0))), none, false⟩], [], [5], none⟩
abbrev r_word_Common_1 : Reg := ⟨[⟨.mv (.v 0), none, false⟩, ⟨.len (.t 0), none, false⟩, ⟨.mv (.v 1), none, false⟩, ⟨.len (.t 0), none, false⟩, ⟨.mx false (.t 2) (.t 0), none, false⟩, ⟨.mv (.c (.int (0))), none, false⟩], [(3, 1), (2, 0)], [], none⟩
abbrev r_word_Common_2 : Reg := ⟨[⟨.bin .lss (.v 2) (.v 3), none, false⟩], [], [], some (12, 0)⟩
abbrev r_word_Common_3 : Reg := ⟨[⟨.mv (.v 2), none, false⟩, ⟨.mv (.t 0), none, false⟩], [(4, 0)], [], none⟩
abbrev r_word_Common_4 : Reg := ⟨[⟨.mv (.v 0), none, false⟩, ⟨.mv (.v 4), none, false⟩, ⟨.iad (.t 1) (.t 0) 1, none, false⟩, ⟨.ld (.t 0) none, none, false⟩, ⟨.mv (.v 1), none, false⟩, ⟨.mv (.v 4), none, false⟩, ⟨.iad (.t 1) (.t 0) 1, none, false⟩, ⟨.ld (.t 0) none, none, false⟩, ⟨.bin .neq (.t 4) (.t 0), none, false⟩], [], [], some (22, 0)⟩
abbrev r_word_Common_5 : Reg := ⟨[⟨.mv (.v 4), none, false⟩, ⟨.mv (.t 0), none, false⟩], [(5, 0)], [0, 1, 2, 3, 4], none⟩
abbrev r_word_Common_6 : Reg := ⟨[⟨.bin .add (.v 2) (.c (.int (1))), none, false⟩, ⟨.mv (.t 0), none, false⟩], [(2, 0)], [4], none⟩
abbrev b_word_Common_0 : IC := (.seq (.reg r_word_Common_2)
 (.seq (.cond 12 .skip (.exit 0))
 (.seq (.block 1 (.seq (.reg r_word_Common_3)
 (.seq (.reg r_word_Common_4)
 (.cond 22 (.seq (.reg r_word_Common_5)
 .ret) .skip))))
 (.reg r_word_Common_6))))
abbrev r_word_Common_7 : Reg := ⟨[⟨.mv (.v 0), none, false⟩, ⟨.len (.t 0), none, false⟩, ⟨.mv (.v 1), none, false⟩, ⟨.len (.t 0), none, false⟩, ⟨.mx false (.t 2) (.t 0), none, false⟩, ⟨.mv (.t 0), none, false⟩], [(5, 0)], [0, 1, 2, 3], none⟩
abbrev ir_word_Common : Fn := { np := 2, nv := 6, res := [(5, none)], body :=
(.seq (.reg r_word_Common_0)
 (.seq (.seq (.reg r_word_Common_1)
 (.block 0 (.loop b_word_Common_0)))
 (.seq (.reg r_word_Common_7)
 .ret))) }
/- f85 slices_Clone_SSint_Sint : 0:s 1:_ -/
abbrev r_slices_Clone_SSint_Sint_0 : Reg := ⟨[⟨.mv (.c (.snil)), none, false⟩], [], [1], none⟩
abbrev r_slices_Clone_SSint_Sint_1 : Reg := ⟨[⟨.mv (.v 0), none, false⟩, ⟨.bnl false (.t 0), none, false⟩], [], [], some (4, 0)⟩
abbrev r_slices_Clone_SSint_Sint_2 : Reg := ⟨[⟨.mv (.c (.snil)), none, false⟩], [(1, 0)], [0], none⟩
abbrev r_slices_Clone_SSint_Sint_3 : Reg := ⟨[⟨.lita [] 1, none, false⟩, ⟨.mv (.v 0), none, false⟩, ⟨.appw (.t 1) (.t 0) none, none, false⟩, ⟨.mv (.t 0), none, false⟩], [(1, 0)], [0], none⟩
abbrev ir_slices_Clone_SSint_Sint : Fn := { np := 1, nv := 2, res := [(1, none)], body :=
(.seq (.reg r_slices_Clone_SSint_Sint_0)
 (.seq (.seq (.reg r_slices_Clone_SSint_Sint_1)
 (.cond 4 (.seq (.reg r_slices_Clone_SSint_Sint_2)
 .ret) .skip))
 (.seq (.reg r_slices_Clone_SSint_Sint_3)
 .ret))) }
/- f86 slices_SortFunc_SSint_Sint : 0:x 1:cmp 2:n -/
abbrev r_slices_SortFunc_SSint_Sint_0 : Reg := ⟨[⟨.mv (.v 0), none, false⟩, ⟨.len (.t 0), none, false⟩, ⟨.mv (.t 0), none, false⟩], [(2, 0)], [], none⟩
abbrev ir_slices_SortFunc_SSint_Sint : Fn := { np := 2, nv := 3, res := [], body :=
(.seq (.reg r_slices_SortFunc_SSint_Sint_0)
 .bad) }
/- f87 slices_CompactFunc_SSint_Sint : 0:s 1:eq 2:k 3:k2 4:s2 5:_ -/
abbrev r_slices_CompactFunc_SSint_Sint_0 : Reg := ⟨[⟨.mv (.c (.snil)), none, false⟩], [], [5], none⟩
abbrev r_slices_CompactFunc_SSint_Sint_1 : Reg := ⟨[⟨.mv (.v 0), none, false⟩, ⟨.len (.t 0), none, false⟩, ⟨.bin .lss (.t 0) (.c (.int (2))), none, false⟩], [], [], some (10, 0)⟩
abbrev r_slices_CompactFunc_SSint_Sint_2 : Reg := ⟨[⟨.mv (.v 0), none, false⟩, ⟨.mv (.t 0), none, false⟩], [(5, 0)], [0, 1], none⟩
abbrev r_slices_CompactFunc_SSint_Sint_3 : Reg := ⟨[⟨.mv (.c (.int (1))), none, false⟩], [(2, 0)], [], none⟩
abbrev r_slices_CompactFunc_SSint_Sint_4 : Reg := ⟨[⟨.mv (.v 2), none, false⟩, ⟨.mv (.v 0), none, false⟩, ⟨.len (.t 0), none, false⟩, ⟨.bin .lss (.t 2) (.t 0), none, false⟩], [], [], some (15, 0)⟩
abbrev r_slices_CompactFunc_SSint_Sint_6 : Reg := ⟨[⟨.mv (.v 1), none, false⟩, ⟨.mv (.v 0), none, false⟩, ⟨.mv (.v 2), none, false⟩, ⟨.iad (.t 1) (.t 0) 1, none, false⟩, ⟨.ld (.t 0) none, none, false⟩, ⟨.mv (.v 0), none, false⟩, ⟨.mv (.v 2), none, false⟩, ⟨.bin .sub (.t 0) (.c (.int (1))), none, false⟩, ⟨.iad (.t 2) (.t 0) 1, none, false⟩, ⟨.ld (.t 0) none, none, false⟩, ⟨.cald (.t 9) [(.t 5), (.t 0)], none, false⟩], [], [], some (28, 0)⟩
abbrev r_slices_CompactFunc_SSint_Sint_7 : Reg := ⟨[⟨.mv (.v 0), none, false⟩, ⟨.mv (.v 2), none, false⟩, ⟨.slc (.t 1) (some (.t 0)) none 1, none, false⟩, ⟨.mv (.t 0), none, false⟩], [(4, 0)], [], none⟩
abbrev r_slices_CompactFunc_SSint_Sint_8 : Reg := ⟨[⟨.mv (.c (.int (1))), none, false⟩], [(3, 0)], [], none⟩
abbrev r_slices_CompactFunc_SSint_Sint_9 : Reg := ⟨[⟨.mv (.v 3), none, false⟩, ⟨.mv (.v 4), none, false⟩, ⟨.len (.t 0), none, false⟩, ⟨.bin .lss (.t 2) (.t 0), none, false⟩], [], [], some (35, 0)⟩
abbrev r_slices_CompactFunc_SSint_Sint_11 : Reg := ⟨[⟨.mv (.v 1), none, false⟩, ⟨.mv (.v 4), none, false⟩, ⟨.mv (.v 3), none, false⟩, ⟨.iad (.t 1) (.t 0) 1, none, false⟩, ⟨.ld (.t 0) none, none, false⟩, ⟨.mv (.v 4), none, false⟩, ⟨.mv (.v 3), none, false⟩, ⟨.bin .sub (.t 0) (.c (.int (1))), none, false⟩, ⟨.iad (.t 2) (.t 0) 1, none, false⟩, ⟨.ld (.t 0) none, none, false⟩, ⟨.cald (.t 9) [(.t 5), (.t 0)], none, false⟩, ⟨.not (.t 0), none, false⟩], [], [], some (49, 0)⟩
abbrev r_slices_CompactFunc_SSint_Sint_12 : Reg := ⟨[⟨.mv (.v 0), none, false⟩, ⟨.mv (.v 2), none, false⟩, ⟨.mv (.v 4), none, false⟩, ⟨.mv (.v 3), none, false⟩, ⟨.iad (.t 1) (.t 0) 1, none, false⟩, ⟨.ld (.t 0) none, none, false⟩, ⟨.iad (.t 5) (.t 4) 1, none, false⟩, ⟨.st (.t 0) (.t 1) 1, none, false⟩], [], [], none⟩
abbrev r_slices_CompactFunc_SSint_Sint_13 : Reg := ⟨[⟨.mv (.v 2), none, false⟩, ⟨.bin .add (.t 0) (.c (.int (1))), none, false⟩, ⟨.mv (.t 0), none, false⟩], [(2, 0)], [], none⟩
abbrev r_slices_CompactFunc_SSint_Sint_10 : Reg := ⟨[⟨.mv (.v 3), none, false⟩, ⟨.bin .add (.t 0) (.c (.int (1))), none, false⟩, ⟨.mv (.t 0), none, false⟩], [(3, 0)], [], none⟩
abbrev b_slices_CompactFunc_SSint_Sint_2 : IC := (.seq (.seq (.reg r_slices_CompactFunc_SSint_Sint_9)
 (.cond 35 .skip (.exit 2)))
 (.seq (.block 3 (.seq (.reg r_slices_CompactFunc_SSint_Sint_11)
 (.cond 49 (.seq (.reg r_slices_CompactFunc_SSint_Sint_12)
 (.reg r_slices_CompactFunc_SSint_Sint_13)) .skip)))
 (.reg r_slices_CompactFunc_SSint_Sint_10)))
abbrev r_slices_CompactFunc_SSint_Sint_14 : Reg := ⟨[⟨.mv (.v 0), none, false⟩, ⟨.mv (.v 2), none, false⟩, ⟨.slc (.t 1) (some (.t 0)) none 1, none, false⟩, ⟨.clr (.t 0) [.snil] none, none, false⟩], [], [1, 3, 4], none⟩
abbrev r_slices_CompactFunc_SSint_Sint_15 : Reg := ⟨[⟨.mv (.v 0), none, false⟩, ⟨.mv (.v 2), none, false⟩, ⟨.slc (.t 1) none (some (.t 0)) 1, none, false⟩, ⟨.mv (.t 0), none, false⟩], [(5, 0)], [0, 2], none⟩
abbrev r_slices_CompactFunc_SSint_Sint_5 : Reg := ⟨[⟨.mv (.v 2), none, false⟩, ⟨.bin .add (.t 0) (.c (.int (1))), none, false⟩, ⟨.mv (.t 0), none, false⟩], [(2, 0)], [], none⟩
abbrev b_slices_CompactFunc_SSint_Sint_0 : IC := (.seq (.seq (.reg r_slices_CompactFunc_SSint_Sint_4)
 (.cond 15 .skip (.exit 0)))
 (.seq (.block 1 (.seq (.reg r_slices_CompactFunc_SSint_Sint_6)
 (.cond 28 (.seq (.reg r_slices_CompactFunc_SSint_Sint_7)
 (.seq (.seq (.reg r_slices_CompactFunc_SSint_Sint_8)
 (.block 2 (.loop b_slices_CompactFunc_SSint_Sint_2)))
 (.seq (.reg r_slices_CompactFunc_SSint_Sint_14)
 (.seq (.reg r_slices_CompactFunc_SSint_Sint_15)
 .ret)))) .skip)))
 (.reg r_slices_CompactFunc_SSint_Sint_5)))
abbrev r_slices_CompactFunc_SSint_Sint_16 : Reg := ⟨[⟨.mv (.v 0), none, false⟩, ⟨.mv (.t 0), none, false⟩], [(5, 0)], [0, 1, 2], none⟩
abbrev ir_slices_CompactFunc_SSint_Sint : Fn := { np := 2, nv := 6, res := [(5, none)], body :=
(.seq (.reg r_slices_CompactFunc_SSint_Sint_0)
 (.seq (.seq (.reg r_slices_CompactFunc_SSint_Sint_1)
 (.cond 10 (.seq (.reg r_slices_CompactFunc_SSint_Sint_2)
 .ret) .skip))
 (.seq (.seq (.reg r_slices_CompactFunc_SSint_Sint_3)
 (.block 0 (.loop b_slices_CompactFunc_SSint_Sint_0)))
 (.seq (.reg r_slices_CompactFunc_SSint_Sint_16)
 .ret)))) }
/- f88 wordset_ordered_1 : 0:a 1:b 2:_ 3:_ -/
abbrev r_wordset_ordered_1_0 : Reg := ⟨[⟨.mv (.c (.bool false)), none, false⟩], [], [3], none⟩
abbrev r_wordset_ordered_1_1 : Reg := ⟨[⟨.ld (.v 2) none, none, false⟩, ⟨.mv (.v 0), none, false⟩, ⟨.mv (.v 1), none, false⟩, ⟨.cald (.t 2) [(.t 1), (.t 0)], none, false⟩, ⟨.bin .eql (.t 0) (.c (.int (0))), none, false⟩, ⟨.mv (.t 0), none, false⟩], [(3, 0)], [0, 1, 2], none⟩
abbrev ir_wordset_ordered_1 : Fn := { np := 3, nv := 4, res := [(3, none)], body :=
(.seq (.reg r_wordset_ordered_1_0)
 (.seq (.reg r_wordset_ordered_1_1)
 .ret)) }
/- f89 slices_Compare_Sint_int : 0:s1 1:s2 2:_ 3:_ 4:_ 5:i 6:v1 7:v2 8:c 9:_ -/
abbrev r_slices_Compare_Sint_int_0 : Reg := ⟨[⟨.mv (.c (.int (0))), none, false⟩], [], [9], none⟩
abbrev r_slices_Compare_Sint_int_1 : Reg := ⟨[⟨.mv (.v 0), none, false⟩, ⟨.len (.t 0), none, false⟩, ⟨.mv (.c (.int (0))), none, false⟩], [(4, 2), (3, 1), (2, 0)], [], none⟩
abbrev r_slices_Compare_Sint_int_2 : Reg := ⟨[⟨.bin .lss (.v 2) (.v 3), none, false⟩], [], [], some (12, 0)⟩
abbrev r_slices_Compare_Sint_int_3 : Reg := ⟨[⟨.mv (.v 2), none, false⟩, ⟨.iad (.v 4) (.v 2) 1, none, false⟩, ⟨.ld (.t 0) none, none, false⟩, ⟨.mv (.t 2), none, false⟩, ⟨.mv (.t 1), none, false⟩], [(5, 1), (6, 0)], [], none⟩
abbrev r_slices_Compare_Sint_int_4 : Reg := ⟨[⟨.mv (.v 5), none, false⟩, ⟨.mv (.v 1), none, false⟩, ⟨.len (.t 0), none, false⟩, ⟨.bin .geq (.t 2) (.t 0), none, false⟩], [], [], some (19, 0)⟩
abbrev r_slices_Compare_Sint_int_5 : Reg := ⟨[⟨.mv (.c (.int (1))), none, false⟩], [(9, 0)], [0, 1, 2, 3, 4, 5, 6], none⟩
abbrev r_slices_Compare_Sint_int_6 : Reg := ⟨[⟨.mv (.v 1), none, false⟩, ⟨.mv (.v 5), none, false⟩, ⟨.iad (.t 1) (.t 0) 1, none, false⟩, ⟨.ld (.t 0) none, none, false⟩, ⟨.mv (.t 0), none, false⟩], [(7, 0)], [5], none⟩
abbrev r_slices_Compare_Sint_int_7 : Reg := ⟨[⟨.mv (.v 6), none, false⟩, ⟨.mv (.v 7), none, false⟩, ⟨.cal F_cmp_Compare_int [(.t 1), (.t 0)], none, false⟩, ⟨.mv (.t 0), none, false⟩], [(8, 0)], [6, 7], none⟩
abbrev r_slices_Compare_Sint_int_8 : Reg := ⟨[⟨.mv (.v 8), none, false⟩, ⟨.bin .neq (.t 0) (.c (.int (0))), none, false⟩], [], [], some (28, 0)⟩
abbrev r_slices_Compare_Sint_int_9 : Reg := ⟨[⟨.mv (.v 8), none, false⟩, ⟨.mv (.t 0), none, false⟩], [(9, 0)], [0, 1, 2, 3, 4, 8], none⟩
abbrev r_slices_Compare_Sint_int_10 : Reg := ⟨[⟨.bin .add (.v 2) (.c (.int (1))), none, false⟩, ⟨.mv (.t 0), none, false⟩], [(2, 0)], [8], none⟩
abbrev b_slices_Compare_Sint_int_0 : IC := (.seq (.reg r_slices_Compare_Sint_int_2)
 (.seq (.cond 12 .skip (.exit 0))
 (.seq (.block 1 (.seq (.reg r_slices_Compare_Sint_int_3)
 (.seq (.seq (.reg r_slices_Compare_Sint_int_4)
 (.cond 19 (.seq (.reg r_slices_Compare_Sint_int_5)
 .ret) .skip))
 (.seq (.reg r_slices_Compare_Sint_int_6)
 (.seq (.reg r_slices_Compare_Sint_int_7)
 (.seq (.reg r_slices_Compare_Sint_int_8)
 (.cond 28 (.seq (.reg r_slices_Compare_Sint_int_9)
 .ret) .skip)))))))
 (.reg r_slices_Compare_Sint_int_10))))
abbrev r_slices_Compare_Sint_int_11 : Reg := ⟨[⟨.mv (.v 0), none, false⟩, ⟨.len (.t 0), none, false⟩, ⟨.mv (.v 1), none, false⟩, ⟨.len (.t 0), none, false⟩, ⟨.bin .lss (.t 2) (.t 0), none, false⟩], [], [0, 1, 2, 3, 4], some (35, 0)⟩
abbrev r_slices_Compare_Sint_int_12 : Reg := ⟨[⟨.mv (.c (.int (-1))), none, false⟩], [(9, 0)], [], none⟩
abbrev r_slices_Compare_Sint_int_13 : Reg := ⟨[⟨.mv (.c (.int (0))), none, false⟩], [(9, 0)], [], none⟩
abbrev ir_slices_Compare_Sint_int : Fn := { np := 2, nv := 10, res := [(9, none)], body :=
(.seq (.reg r_slices_Compare_Sint_int_0)
 (.seq (.seq (.reg r_slices_Compare_Sint_int_1)
 (.block 0 (.loop b_slices_Compare_Sint_int_0)))
 (.seq (.seq (.reg r_slices_Compare_Sint_int_11)
 (.cond 35 (.seq (.reg r_slices_Compare_Sint_int_12)
 .ret) .skip))
 (.seq (.reg r_slices_Compare_Sint_int_13)
 .ret)))) }
/- f90 word_Compare : 0:a 1:b 2:_ -/
abbrev r_word_Compare_0 : Reg := ⟨[⟨.mv (.c (.int (0))), none, false⟩], [], [2], none⟩
abbrev r_word_Compare_1 : Reg := ⟨[⟨.mv (.v 0), none, false⟩, ⟨.len (.t 0), none, false⟩, ⟨.mv (.v 1), none, false⟩, ⟨.len (.t 0), none, false⟩, ⟨.cal F_cmp_Compare_int [(.t 2), (.t 0)], none, false⟩, ⟨.mv (.v 0), none, false⟩, ⟨.mv (.v 1), none, false⟩, ⟨.cal F_slices_Compare_Sint_int [(.t 1), (.t 0)], none, false⟩, ⟨.liti [(.t 3), (.t 0)] 1, none, false⟩, ⟨.cal F_cmp_Or_int [(.t 0)], none, false⟩, ⟨.mv (.t 0), none, false⟩], [(2, 0)], [0, 1], none⟩
abbrev ir_word_Compare : Fn := { np := 2, nv := 3, res := [(2, none)], body :=
(.seq (.reg r_word_Compare_0)
 (.seq (.reg r_word_Compare_1)
 .ret)) }
/- f91 device_costs_1 : 0:n 1:_ -/
abbrev r_device_costs_1_0 : Reg := ⟨[⟨.mv (.c (.bool false)), none, false⟩], [], [1], none⟩
abbrev r_device_costs_1_1 : Reg := ⟨[⟨.mv (.v 0), none, false⟩, ⟨.cal F_device_outside [(.t 0), (.c (.int (1048576)))], none, false⟩, ⟨.mv (.t 0), none, false⟩], [(1, 0)], [0], none⟩
abbrev ir_device_costs_1 : Fn := { np := 1, nv := 2, res := [(1, none)], body :=
(.seq (.reg r_device_costs_1_0)
 (.seq (.reg r_device_costs_1_1)
 .ret)) }
/- f92 device_outside : 0:n 1:most 2:_ -/
abbrev r_device_outside_0 : Reg := ⟨[⟨.mv (.c (.bool false)), none, false⟩], [], [2], none⟩
abbrev r_device_outside_1 : Reg := ⟨[⟨.mv (.v 0), none, false⟩, ⟨.bin .lss (.t 0) (.c (.int (0))), none, false⟩, ⟨.mv (.t 0), none, false⟩, ⟨.mv (.v 0), some (.t 0, false), false⟩, ⟨.mv (.v 1), some (.t 1, false), false⟩, ⟨.bin .gtr (.t 1) (.t 0), some (.t 2, false), false⟩, ⟨.pick (.t 3) (.c (.bool true)) (.t 0), none, false⟩, ⟨.mv (.t 0), none, false⟩], [(2, 0)], [0, 1], none⟩
abbrev ir_device_outside : Fn := { np := 2, nv := 3, res := [(2, none)], body :=
(.seq (.reg r_device_outside_0)
 (.seq (.reg r_device_outside_1)
 .ret)) }
/- f93 slices_Grow_Sint_int : 0:s 1:n 2:_ -/
abbrev r_slices_Grow_Sint_int_0 : Reg := ⟨[⟨.mv (.c (.snil)), none, false⟩], [], [2], none⟩
abbrev r_slices_Grow_Sint_int_1 : Reg := ⟨[⟨.mv (.v 1), none, false⟩, ⟨.bin .lss (.t 0) (.c (.int (0))), none, false⟩], [], [], some (6, 0)⟩
abbrev r_slices_Grow_Sint_int_3 : Reg := ⟨[⟨.mv (.v 1), none, false⟩, ⟨.mv (.v 0), none, false⟩, ⟨.capn (.t 0), none, false⟩, ⟨.mv (.v 0), none, false⟩, ⟨.len (.t 0), none, false⟩, ⟨.bin .sub (.t 2) (.t 0), none, false⟩, ⟨.bin .sub (.t 5) (.t 0), none, false⟩, ⟨.mv (.t 0), none, false⟩], [(1, 0)], [], none⟩
abbrev r_slices_Grow_Sint_int_4 : Reg := ⟨[⟨.mv (.v 1), none, false⟩, ⟨.bin .gtr (.t 0) (.c (.int (0))), none, false⟩], [], [], some (16, 0)⟩
abbrev r_slices_Grow_Sint_int_5 : Reg := ⟨[⟨.mv (.v 0), none, false⟩, ⟨.mv (.v 0), none, false⟩, ⟨.capn (.t 0), none, false⟩, ⟨.slc (.t 2) none (some (.t 0)) 1, none, false⟩, ⟨.mv (.v 1), none, false⟩, ⟨.appw (.t 1) (.t 0) none, none, false⟩, ⟨.mv (.v 0), none, false⟩, ⟨.len (.t 0), none, false⟩, ⟨.slc (.t 2) none (some (.t 0)) 1, none, false⟩, ⟨.mv (.t 0), none, false⟩], [(0, 0)], [1], none⟩
abbrev r_slices_Grow_Sint_int_6 : Reg := ⟨[⟨.mv (.v 0), none, false⟩, ⟨.mv (.t 0), none, false⟩], [(2, 0)], [0, 1], none⟩
abbrev ir_slices_Grow_Sint_int : Fn := { np := 2, nv := 3, res := [(2, none)], body :=
(.seq (.reg r_slices_Grow_Sint_int_0)
 (.seq (.seq (.reg r_slices_Grow_Sint_int_1)
 (.cond 6 .bad .skip))
 (.seq (.seq (.reg r_slices_Grow_Sint_int_3)
 (.seq (.reg r_slices_Grow_Sint_int_4)
 (.cond 16 (.reg r_slices_Grow_Sint_int_5) .skip)))
 (.seq (.reg r_slices_Grow_Sint_int_6)
 .ret)))) }
/- f94 mealy_machine_move : 0:m 1:s 2:a 3:m 4:_ 5:_ -/
abbrev r_mealy_machine_move_0 : Reg := ⟨[⟨.bxi (.v 0), none, false⟩, ⟨.mv (.c (.int (0))), none, false⟩, ⟨.mv (.c (.int (0))), none, false⟩], [(3, 2)], [0, 4, 5], none⟩
abbrev r_mealy_machine_move_1 : Reg := ⟨[⟨.fad (.v 3) 0 (some 4), none, false⟩, ⟨.fad (.t 0) 2 none, none, false⟩, ⟨.ldi (.t 0) none, none, false⟩, ⟨.mv (.v 1), none, false⟩, ⟨.iad (.t 1) (.t 0) 1, none, false⟩, ⟨.ldi (.t 0) none, none, false⟩, ⟨.mv (.v 2), none, false⟩, ⟨.iad (.t 1) (.t 0) 1, none, false⟩, ⟨.ldi (.t 0) none, none, false⟩, ⟨.fad (.v 3) 0 (some 4), none, false⟩, ⟨.fad (.t 0) 3 none, none, false⟩, ⟨.ldi (.t 0) none, none, false⟩, ⟨.mv (.v 1), none, false⟩, ⟨.iad (.t 1) (.t 0) 1, none, false⟩, ⟨.ldi (.t 0) none, none, false⟩, ⟨.mv (.v 2), none, false⟩, ⟨.iad (.t 1) (.t 0) 1, none, false⟩, ⟨.ldi (.t 0) none, none, false⟩, ⟨.mv (.t 9), none, false⟩, ⟨.mv (.t 1), none, false⟩], [(4, 1), (5, 0)], [1, 2, 3], none⟩
abbrev ir_mealy_machine_move : Fn := { np := 3, nv := 6, res := [(4, none), (5, none)], body :=
(.seq (.reg r_mealy_machine_move_0)
 (.seq (.reg r_mealy_machine_move_1)
 .ret)) }
/- f95 ref10_has : 0:l 1:n 2:i 3:_ -/
abbrev r_ref10_has_0 : Reg := ⟨[⟨.mv (.c (.bool false)), none, false⟩], [], [3], none⟩
abbrev r_ref10_has_1 : Reg := ⟨[⟨.mv (.c (.int (0))), none, false⟩], [(2, 0)], [], none⟩
abbrev r_ref10_has_2 : Reg := ⟨[⟨.mv (.v 2), none, false⟩, ⟨.mv (.v 0), none, false⟩, ⟨.len (.t 0), none, false⟩, ⟨.bin .lss (.t 2) (.t 0), none, false⟩], [], [], some (9, 0)⟩
abbrev r_ref10_has_4 : Reg := ⟨[⟨.mv (.v 0), none, false⟩, ⟨.mv (.v 2), none, false⟩, ⟨.iad (.t 1) (.t 0) 1, none, false⟩, ⟨.ld (.t 0) none, none, false⟩, ⟨.mv (.v 1), none, false⟩, ⟨.bin .eql (.t 1) (.t 0), none, false⟩], [], [], some (17, 0)⟩
abbrev r_ref10_has_5 : Reg := ⟨[⟨.mv (.c (.bool true)), none, false⟩], [(3, 0)], [0, 1, 2], none⟩
abbrev r_ref10_has_3 : Reg := ⟨[⟨.mv (.v 2), none, false⟩, ⟨.bin .add (.t 0) (.c (.int (1))), none, false⟩, ⟨.mv (.t 0), none, false⟩], [(2, 0)], [], none⟩
abbrev b_ref10_has_0 : IC := (.seq (.seq (.reg r_ref10_has_2)
 (.cond 9 .skip (.exit 0)))
 (.seq (.block 1 (.seq (.reg r_ref10_has_4)
 (.cond 17 (.seq (.reg r_ref10_has_5)
 .ret) .skip)))
 (.reg r_ref10_has_3)))
abbrev r_ref10_has_6 : Reg := ⟨[⟨.mv (.c (.bool false)), none, false⟩], [(3, 0)], [0, 1, 2], none⟩
abbrev ir_ref10_has : Fn := { np := 2, nv := 4, res := [(3, none)], body :=
(.seq (.reg r_ref10_has_0)
 (.seq (.seq (.reg r_ref10_has_1)
 (.block 0 (.loop b_ref10_has_0)))
 (.seq (.reg r_ref10_has_6)
 .ret))) }
/- f96 ref09_Extended : 0:w 1:a 2:out 3:_ -/
abbrev r_ref09_Extended_0 : Reg := ⟨[⟨.mv (.c (.snil)), none, false⟩], [], [3], none⟩
abbrev r_ref09_Extended_1 : Reg := ⟨[⟨.nl none, none, false⟩], [(2, 0)], [], none⟩
abbrev r_ref09_Extended_2 : Reg := ⟨[⟨.mv (.v 2), none, false⟩, ⟨.mv (.v 0), none, false⟩, ⟨.appw (.t 1) (.t 0) none, none, false⟩, ⟨.mv (.t 0), none, false⟩], [(2, 0)], [0], none⟩
abbrev r_ref09_Extended_3 : Reg := ⟨[⟨.mv (.v 2), none, false⟩, ⟨.mv (.v 1), none, false⟩, ⟨.lita [(.t 0)] 1, none, false⟩, ⟨.appw (.t 2) (.t 0) none, none, false⟩, ⟨.mv (.t 0), none, false⟩], [(2, 0)], [1], none⟩
abbrev r_ref09_Extended_4 : Reg := ⟨[⟨.mv (.v 2), none, false⟩, ⟨.mv (.t 0), none, false⟩], [(3, 0)], [2], none⟩
abbrev ir_ref09_Extended : Fn := { np := 2, nv := 4, res := [(3, none)], body :=
(.seq (.reg r_ref09_Extended_0)
 (.seq (.reg r_ref09_Extended_1)
 (.seq (.reg r_ref09_Extended_2)
 (.seq (.reg r_ref09_Extended_3)
 (.seq (.reg r_ref09_Extended_4)
 .ret))))) }
/- f97 ref16_copied : 0:t 1:t 2:_ -/
abbrev r_ref16_copied_0 : Reg := ⟨[⟨.bxi (.v 0), none, false⟩, ⟨.alc [.snil, .snil] (some 2), none, false⟩], [(1, 1), (2, 0)], [0], none⟩
abbrev r_ref16_copied_1 : Reg := ⟨[⟨.fad (.v 1) 0 none, none, false⟩, ⟨.ldi (.t 0) none, none, false⟩, ⟨.liti [(.t 0)] 1, none, false⟩, ⟨.cal F_ref01_Join [(.t 0)], none, false⟩, ⟨.fad (.v 1) 1 none, none, false⟩, ⟨.ldi (.t 0) none, none, false⟩, ⟨.liti [(.t 0)] 1, none, false⟩, ⟨.cal F_ref01_Join [(.t 0)], none, false⟩, ⟨.bld [.snil, .snil] [(0, 1, (.t 4)), (1, 1, (.t 0))], none, false⟩, ⟨.st (.v 2) (.t 0) 2, none, false⟩], [], [1], none⟩
abbrev ir_ref16_copied : Fn := { np := 1, nv := 3, res := [(2, some (some 2))], body :=
(.seq (.reg r_ref16_copied_0)
 (.seq (.reg r_ref16_copied_1)
 .ret)) }
/- f98 ref02_place : 0:l 1:w 2:low 3:high 4:k 5:_ -/
abbrev r_ref02_place_0 : Reg := ⟨[⟨.mv (.c (.int (0))), none, false⟩], [], [5], none⟩
abbrev r_ref02_place_1 : Reg := ⟨[⟨.mv (.v 0), none, false⟩, ⟨.len (.t 0), none, false⟩, ⟨.mv (.c (.int (0))), none, false⟩, ⟨.mv (.t 1), none, false⟩], [(2, 1), (3, 0)], [], none⟩
abbrev r_ref02_place_2 : Reg := ⟨[⟨.mv (.v 2), none, false⟩, ⟨.mv (.v 3), none, false⟩, ⟨.bin .lss (.t 1) (.t 0), none, false⟩], [], [], some (12, 0)⟩
abbrev r_ref02_place_3 : Reg := ⟨[⟨.mv (.v 2), none, false⟩, ⟨.mv (.v 3), none, false⟩, ⟨.bin .add (.t 1) (.t 0), none, false⟩, ⟨.bin .quo (.t 0) (.c (.int (2))), none, false⟩, ⟨.mv (.t 0), none, false⟩], [(4, 0)], [], none⟩
abbrev r_ref02_place_4 : Reg := ⟨[⟨.mv (.v 0), none, false⟩, ⟨.mv (.v 4), none, false⟩, ⟨.iad (.t 1) (.t 0) 1, none, false⟩, ⟨.ld (.t 0) none, none, false⟩, ⟨.mv (.v 1), none, false⟩, ⟨.cal F_ref01_Compare [(.t 1), (.t 0)], none, false⟩, ⟨.bin .lss (.t 0) (.c (.int (0))), none, false⟩], [], [], some (23, 0)⟩
abbrev r_ref02_place_5 : Reg := ⟨[⟨.mv (.v 4), none, false⟩, ⟨.bin .add (.t 0) (.c (.int (1))), none, false⟩, ⟨.mv (.t 0), none, false⟩], [(2, 0)], [4], none⟩
abbrev r_ref02_place_6 : Reg := ⟨[⟨.mv (.v 4), none, false⟩, ⟨.mv (.t 0), none, false⟩], [(3, 0)], [4], none⟩
abbrev b_ref02_place_0 : IC := (.seq (.seq (.reg r_ref02_place_2)
 (.cond 12 .skip (.exit 0)))
 (.block 1 (.seq (.reg r_ref02_place_3)
 (.seq (.reg r_ref02_place_4)
 (.cond 23 (.reg r_ref02_place_5) (.reg r_ref02_place_6))))))
abbrev r_ref02_place_7 : Reg := ⟨[⟨.mv (.v 2), none, false⟩, ⟨.mv (.t 0), none, false⟩], [(5, 0)], [0, 1, 2, 3], none⟩
abbrev ir_ref02_place : Fn := { np := 2, nv := 6, res := [(5, none)], body :=
(.seq (.reg r_ref02_place_0)
 (.seq (.reg r_ref02_place_1)
 (.seq (.block 0 (.loop b_ref02_place_0))
 (.seq (.reg r_ref02_place_7)
 .ret)))) }
/- f99 slices_pdqsortCmpFunc_Sint : 0:data 1:a 2:b 3:limit 4:cmp 5:length 6:wasBalanced 7:hint 8:pivot 9:wasPartitioned 10:mid 11:alreadyPartitioned 12:mid 13:leftLen 14:rightLen 15:balanceThreshold -/
abbrev r_slices_pdqsortCmpFunc_Sint_0 : Reg := ⟨[⟨.mv (.c (.bool true)), none, false⟩], [(6, 0)], [], none⟩
abbrev r_slices_pdqsortCmpFunc_Sint_1 : Reg := ⟨[⟨.mv (.c (.bool true)), none, false⟩], [(9, 0)], [], none⟩
abbrev r_slices_pdqsortCmpFunc_Sint_2 : Reg := ⟨[⟨.mv (.v 2), none, false⟩, ⟨.mv (.v 1), none, false⟩, ⟨.bin .sub (.t 1) (.t 0), none, false⟩, ⟨.mv (.t 0), none, false⟩], [(5, 0)], [], none⟩
abbrev r_slices_pdqsortCmpFunc_Sint_3 : Reg := ⟨[⟨.mv (.v 5), none, false⟩, ⟨.bin .leq (.t 0) (.c (.int (12))), none, false⟩], [], [], some (25, 0)⟩
abbrev r_slices_pdqsortCmpFunc_Sint_4 : Reg := ⟨[⟨.mv (.v 0), none, false⟩, ⟨.mv (.v 1), none, false⟩, ⟨.mv (.v 2), none, false⟩, ⟨.mv (.v 4), none, false⟩, ⟨.cal F_slices_insertionSortCmpFunc_Sint [(.t 3), (.t 2), (.t 1), (.t 0)], none, false⟩], [], [0, 1, 2, 3, 4, 5, 6, 9], none⟩
abbrev r_slices_pdqsortCmpFunc_Sint_5 : Reg := ⟨[⟨.mv (.v 3), none, false⟩, ⟨.bin .eql (.t 0) (.c (.int (0))), none, false⟩], [], [], some (32, 0)⟩
abbrev r_slices_pdqsortCmpFunc_Sint_6 : Reg := ⟨[⟨.mv (.v 0), none, false⟩, ⟨.mv (.v 1), none, false⟩, ⟨.mv (.v 2), none, false⟩, ⟨.mv (.v 4), none, false⟩, ⟨.cal F_slices_heapSortCmpFunc_Sint [(.t 3), (.t 2), (.t 1), (.t 0)], none, false⟩], [], [0, 1, 2, 3, 4, 5, 6, 9], none⟩
abbrev r_slices_pdqsortCmpFunc_Sint_7 : Reg := ⟨[⟨.mv (.v 6), none, false⟩, ⟨.not (.t 0), none, false⟩], [], [], some (39, 0)⟩
abbrev r_slices_pdqsortCmpFunc_Sint_8 : Reg := ⟨[⟨.mv (.v 0), none, false⟩, ⟨.mv (.v 1), none, false⟩, ⟨.mv (.v 2), none, false⟩, ⟨.mv (.v 4), none, false⟩, ⟨.cal F_slices_breakPatternsCmpFunc_Sint [(.t 3), (.t 2), (.t 1), (.t 0)], none, false⟩], [], [], none⟩
abbrev r_slices_pdqsortCmpFunc_Sint_9 : Reg := ⟨[⟨.mv (.v 3), none, false⟩, ⟨.bin .sub (.t 0) (.c (.int (1))), none, false⟩, ⟨.mv (.t 0), none, false⟩], [(3, 0)], [], none⟩
abbrev r_slices_pdqsortCmpFunc_Sint_10 : Reg := ⟨[⟨.mv (.v 0), none, false⟩, ⟨.mv (.v 1), none, false⟩, ⟨.mv (.v 2), none, false⟩, ⟨.mv (.v 4), none, false⟩, ⟨.cal F_slices_choosePivotCmpFunc_Sint [(.t 3), (.t 2), (.t 1), (.t 0)], none, false⟩, ⟨.mv (.t 0), none, false⟩, ⟨.ext (.t 0) 0, none, false⟩, ⟨.ext (.t 1) 1, none, false⟩, ⟨.mv (.t 1), none, false⟩, ⟨.mv (.t 1), none, false⟩], [(8, 1), (7, 0)], [], none⟩
abbrev r_slices_pdqsortCmpFunc_Sint_11 : Reg := ⟨[⟨.mv (.v 7), none, false⟩, ⟨.bin .eql (.t 0) (.c (.int (2))), none, false⟩], [], [], some (56, 0)⟩
abbrev r_slices_pdqsortCmpFunc_Sint_12 : Reg := ⟨[⟨.mv (.v 0), none, false⟩, ⟨.mv (.v 1), none, false⟩, ⟨.mv (.v 2), none, false⟩, ⟨.mv (.v 4), none, false⟩, ⟨.cal F_slices_reverseRangeCmpFunc_Sint [(.t 3), (.t 2), (.t 1), (.t 0)], none, false⟩], [], [7], none⟩
abbrev r_slices_pdqsortCmpFunc_Sint_13 : Reg := ⟨[⟨.mv (.v 2), none, false⟩, ⟨.bin .sub (.t 0) (.c (.int (1))), none, false⟩, ⟨.mv (.v 8), none, false⟩, ⟨.mv (.v 1), none, false⟩, ⟨.bin .sub (.t 1) (.t 0), none, false⟩, ⟨.bin .sub (.t 3) (.t 0), none, false⟩, ⟨.mv (.t 0), none, false⟩], [(8, 0)], [], none⟩
abbrev r_slices_pdqsortCmpFunc_Sint_14 : Reg := ⟨[⟨.mv (.c (.int (1))), none, false⟩], [(7, 0)], [], none⟩
abbrev r_slices_pdqsortCmpFunc_Sint_15 : Reg := ⟨[⟨.mv (.v 6), none, false⟩, ⟨.mv (.t 0), none, false⟩, ⟨.mv (.v 9), some (.t 0, true), false⟩, ⟨.pick (.t 1) (.t 0) (.c (.bool false)), none, false⟩, ⟨.mv (.t 0), none, false⟩, ⟨.mv (.v 7), some (.t 0, true), false⟩, ⟨.bin .eql (.t 0) (.c (.int (1))), some (.t 1, true), false⟩, ⟨.pick (.t 2) (.t 0) (.c (.bool false)), none, false⟩], [], [7], some (75, 0)⟩
abbrev r_slices_pdqsortCmpFunc_Sint_16 : Reg := ⟨[⟨.mv (.v 0), none, false⟩, ⟨.mv (.v 1), none, false⟩, ⟨.mv (.v 2), none, false⟩, ⟨.mv (.v 4), none, false⟩, ⟨.cal F_slices_partialInsertionSortCmpFunc_Sint [(.t 3), (.t 2), (.t 1), (.t 0)], none, false⟩], [], [], some (80, 0)⟩
abbrev r_slices_pdqsortCmpFunc_Sint_17 : Reg := ⟨[⟨.mv (.v 1), none, false⟩, ⟨.bin .gtr (.t 0) (.c (.int (0))), none, false⟩, ⟨.mv (.t 0), none, false⟩, ⟨.mv (.v 4), some (.t 0, true), false⟩, ⟨.mv (.v 0), some (.t 1, true), false⟩, ⟨.mv (.v 1), some (.t 2, true), false⟩, ⟨.bin .sub (.t 0) (.c (.int (1))), some (.t 3, true), false⟩, ⟨.iad (.t 2) (.t 0) 1, some (.t 4, true), false⟩, ⟨.ld (.t 0) none, some (.t 5, true), false⟩, ⟨.mv (.v 0), some (.t 6, true), false⟩, ⟨.mv (.v 8), some (.t 7, true), false⟩, ⟨.iad (.t 1) (.t 0) 1, some (.t 8, true), false⟩, ⟨.ld (.t 0) none, some (.t 9, true), false⟩, ⟨.cald (.t 9) [(.t 4), (.t 0)], some (.t 10, true), false⟩, ⟨.bin .lss (.t 0) (.c (.int (0))), some (.t 11, true), false⟩, ⟨.not (.t 0), some (.t 12, true), false⟩, ⟨.pick (.t 13) (.t 0) (.c (.bool false)), none, false⟩], [], [], some (97, 0)⟩
abbrev r_slices_pdqsortCmpFunc_Sint_18 : Reg := ⟨[⟨.mv (.v 0), none, false⟩, ⟨.mv (.v 1), none, false⟩, ⟨.mv (.v 2), none, false⟩, ⟨.mv (.v 8), none, false⟩, ⟨.mv (.v 4), none, false⟩, ⟨.cal F_slices_partitionEqualCmpFunc_Sint [(.t 4), (.t 3), (.t 2), (.t 1), (.t 0)], none, false⟩, ⟨.mv (.t 0), none, false⟩], [(10, 0)], [1, 5, 8], none⟩
abbrev r_slices_pdqsortCmpFunc_Sint_19 : Reg := ⟨[⟨.mv (.v 10), none, false⟩, ⟨.mv (.t 0), none, false⟩], [(1, 0)], [10], none⟩
abbrev r_slices_pdqsortCmpFunc_Sint_20 : Reg := ⟨[⟨.mv (.v 0), none, false⟩, ⟨.mv (.v 1), none, false⟩, ⟨.mv (.v 2), none, false⟩, ⟨.mv (.v 8), none, false⟩, ⟨.mv (.v 4), none, false⟩, ⟨.cal F_slices_partitionCmpFunc_Sint [(.t 4), (.t 3), (.t 2), (.t 1), (.t 0)], none, false⟩, ⟨.mv (.t 0), none, false⟩, ⟨.ext (.t 0) 0, none, false⟩, ⟨.ext (.t 1) 1, none, false⟩, ⟨.mv (.t 1), none, false⟩, ⟨.mv (.t 1), none, false⟩], [(12, 1), (11, 0)], [6, 8, 9], none⟩
abbrev r_slices_pdqsortCmpFunc_Sint_21 : Reg := ⟨[⟨.mv (.v 11), none, false⟩, ⟨.mv (.t 0), none, false⟩], [(9, 0)], [11], none⟩
abbrev r_slices_pdqsortCmpFunc_Sint_22 : Reg := ⟨[⟨.mv (.v 12), none, false⟩, ⟨.mv (.v 1), none, false⟩, ⟨.bin .sub (.t 1) (.t 0), none, false⟩, ⟨.mv (.v 2), none, false⟩, ⟨.mv (.v 12), none, false⟩, ⟨.bin .sub (.t 1) (.t 0), none, false⟩, ⟨.mv (.t 3), none, false⟩, ⟨.mv (.t 1), none, false⟩], [(13, 1), (14, 0)], [], none⟩
abbrev r_slices_pdqsortCmpFunc_Sint_23 : Reg := ⟨[⟨.mv (.v 5), none, false⟩, ⟨.bin .quo (.t 0) (.c (.int (8))), none, false⟩, ⟨.mv (.t 0), none, false⟩], [(15, 0)], [5], none⟩
abbrev r_slices_pdqsortCmpFunc_Sint_24 : Reg := ⟨[⟨.mv (.v 13), none, false⟩, ⟨.mv (.v 14), none, false⟩, ⟨.bin .lss (.t 1) (.t 0), none, false⟩], [], [], some (125, 0)⟩
abbrev r_slices_pdqsortCmpFunc_Sint_25 : Reg := ⟨[⟨.mv (.v 13), none, false⟩, ⟨.mv (.v 15), none, false⟩, ⟨.bin .geq (.t 1) (.t 0), none, false⟩, ⟨.mv (.t 0), none, false⟩], [(6, 0)], [13, 14, 15], none⟩
abbrev r_slices_pdqsortCmpFunc_Sint_26 : Reg := ⟨[⟨.mv (.v 0), none, false⟩, ⟨.mv (.v 1), none, false⟩, ⟨.mv (.v 12), none, false⟩, ⟨.mv (.v 3), none, false⟩, ⟨.mv (.v 4), none, false⟩, ⟨.cal F_slices_pdqsortCmpFunc_Sint [(.t 4), (.t 3), (.t 2), (.t 1), (.t 0)], none, false⟩], [], [1], none⟩
abbrev r_slices_pdqsortCmpFunc_Sint_27 : Reg := ⟨[⟨.mv (.v 12), none, false⟩, ⟨.bin .add (.t 0) (.c (.int (1))), none, false⟩, ⟨.mv (.t 0), none, false⟩], [(1, 0)], [12], none⟩
abbrev r_slices_pdqsortCmpFunc_Sint_28 : Reg := ⟨[⟨.mv (.v 14), none, false⟩, ⟨.mv (.v 15), none, false⟩, ⟨.bin .geq (.t 1) (.t 0), none, false⟩, ⟨.mv (.t 0), none, false⟩], [(6, 0)], [13, 14, 15], none⟩
abbrev r_slices_pdqsortCmpFunc_Sint_29 : Reg := ⟨[⟨.mv (.v 0), none, false⟩, ⟨.mv (.v 12), none, false⟩, ⟨.bin .add (.t 0) (.c (.int (1))), none, false⟩, ⟨.mv (.v 2), none, false⟩, ⟨.mv (.v 3), none, false⟩, ⟨.mv (.v 4), none, false⟩, ⟨.cal F_slices_pdqsortCmpFunc_Sint [(.t 5), (.t 3), (.t 2), (.t 1), (.t 0)], none, false⟩], [], [2], none⟩
abbrev r_slices_pdqsortCmpFunc_Sint_30 : Reg := ⟨[⟨.mv (.v 12), none, false⟩, ⟨.mv (.t 0), none, false⟩], [(2, 0)], [12], none⟩
abbrev b_slices_pdqsortCmpFunc_Sint_0 : IC := (.block 1 (.seq (.reg r_slices_pdqsortCmpFunc_Sint_2)
 (.seq (.seq (.reg r_slices_pdqsortCmpFunc_Sint_3)
 (.cond 25 (.seq (.reg r_slices_pdqsortCmpFunc_Sint_4)
 .ret) .skip))
 (.seq (.seq (.reg r_slices_pdqsortCmpFunc_Sint_5)
 (.cond 32 (.seq (.reg r_slices_pdqsortCmpFunc_Sint_6)
 .ret) .skip))
 (.seq (.seq (.reg r_slices_pdqsortCmpFunc_Sint_7)
 (.cond 39 (.seq (.reg r_slices_pdqsortCmpFunc_Sint_8)
 (.reg r_slices_pdqsortCmpFunc_Sint_9)) .skip))
 (.seq (.reg r_slices_pdqsortCmpFunc_Sint_10)
 (.seq (.seq (.reg r_slices_pdqsortCmpFunc_Sint_11)
 (.cond 56 (.seq (.reg r_slices_pdqsortCmpFunc_Sint_12)
 (.seq (.reg r_slices_pdqsortCmpFunc_Sint_13)
 (.reg r_slices_pdqsortCmpFunc_Sint_14))) .skip))
 (.seq (.seq (.reg r_slices_pdqsortCmpFunc_Sint_15)
 (.cond 75 (.seq (.reg r_slices_pdqsortCmpFunc_Sint_16)
 (.cond 80 .ret .skip)) .skip))
 (.seq (.seq (.reg r_slices_pdqsortCmpFunc_Sint_17)
 (.cond 97 (.seq (.reg r_slices_pdqsortCmpFunc_Sint_18)
 (.seq (.reg r_slices_pdqsortCmpFunc_Sint_19)
 (.exit 1))) .skip))
 (.seq (.reg r_slices_pdqsortCmpFunc_Sint_20)
 (.seq (.reg r_slices_pdqsortCmpFunc_Sint_21)
 (.seq (.reg r_slices_pdqsortCmpFunc_Sint_22)
 (.seq (.reg r_slices_pdqsortCmpFunc_Sint_23)
 (.seq (.reg r_slices_pdqsortCmpFunc_Sint_24)
 (.cond 125 (.seq (.reg r_slices_pdqsortCmpFunc_Sint_25)
 (.seq (.reg r_slices_pdqsortCmpFunc_Sint_26)
 (.reg r_slices_pdqsortCmpFunc_Sint_27))) (.seq (.reg r_slices_pdqsortCmpFunc_Sint_28)
 (.seq (.reg r_slices_pdqsortCmpFunc_Sint_29)
 (.reg r_slices_pdqsortCmpFunc_Sint_30))))))))))))))))))
abbrev ir_slices_pdqsortCmpFunc_Sint : Fn := { np := 5, nv := 16, res := [], body :=
(.seq (.reg r_slices_pdqsortCmpFunc_Sint_0)
 (.seq (.reg r_slices_pdqsortCmpFunc_Sint_1)
 (.block 0 (.loop b_slices_pdqsortCmpFunc_Sint_0)))) }
/- f100 math_bits_Len : 0:x 1:_ -/
abbrev r_math_bits_Len_0 : Reg := ⟨[⟨.mv (.c (.int (0))), none, false⟩], [], [1], none⟩
abbrev r_math_bits_Len_2 : Reg := ⟨[⟨.mv (.v 0), none, false⟩, ⟨.cal F_math_bits_Len64 [(.t 0)], none, false⟩, ⟨.mv (.t 0), none, false⟩], [(1, 0)], [0], none⟩
abbrev ir_math_bits_Len : Fn := { np := 1, nv := 2, res := [(1, none)], body :=
(.seq (.reg r_math_bits_Len_0)
 (.seq (.cut false .skip)
 (.seq (.reg r_math_bits_Len_2)
 .ret))) }
/- f101 cmp_Compare_int : 0:x 1:y 2:xNaN 3:yNaN 4:_ -/
abbrev r_cmp_Compare_int_0 : Reg := ⟨[⟨.mv (.c (.int (0))), none, false⟩], [], [4], none⟩
abbrev r_cmp_Compare_int_1 : Reg := ⟨[⟨.mv (.v 0), none, false⟩, ⟨.cal F_cmp_isNaN_int [(.t 0)], none, false⟩, ⟨.mv (.t 0), none, false⟩], [(2, 0)], [], none⟩
abbrev r_cmp_Compare_int_2 : Reg := ⟨[⟨.mv (.v 1), none, false⟩, ⟨.cal F_cmp_isNaN_int [(.t 0)], none, false⟩, ⟨.mv (.t 0), none, false⟩], [(3, 0)], [], none⟩
abbrev r_cmp_Compare_int_3 : Reg := ⟨[⟨.mv (.v 2), none, false⟩], [], [2], some (11, 0)⟩
abbrev r_cmp_Compare_int_4 : Reg := ⟨[⟨.mv (.v 3), none, false⟩], [], [0, 1, 3], some (12, 0)⟩
abbrev r_cmp_Compare_int_5 : Reg := ⟨[⟨.mv (.c (.int (0))), none, false⟩], [(4, 0)], [], none⟩
abbrev r_cmp_Compare_int_6 : Reg := ⟨[⟨.mv (.c (.int (-1))), none, false⟩], [(4, 0)], [], none⟩
abbrev r_cmp_Compare_int_7 : Reg := ⟨[⟨.mv (.v 3), none, false⟩], [], [3], some (13, 0)⟩
abbrev r_cmp_Compare_int_8 : Reg := ⟨[⟨.mv (.c (.int (1))), none, false⟩], [(4, 0)], [0, 1], none⟩
abbrev r_cmp_Compare_int_9 : Reg := ⟨[⟨.mv (.v 0), none, false⟩, ⟨.mv (.v 1), none, false⟩, ⟨.bin .lss (.t 1) (.t 0), none, false⟩], [], [], some (16, 0)⟩
abbrev r_cmp_Compare_int_10 : Reg := ⟨[⟨.mv (.c (.int (-1))), none, false⟩], [(4, 0)], [0, 1], none⟩
abbrev r_cmp_Compare_int_11 : Reg := ⟨[⟨.mv (.v 0), none, false⟩, ⟨.mv (.v 1), none, false⟩, ⟨.bin .gtr (.t 1) (.t 0), none, false⟩], [], [0, 1], some (19, 0)⟩
abbrev r_cmp_Compare_int_12 : Reg := ⟨[⟨.mv (.c (.int (1))), none, false⟩], [(4, 0)], [], none⟩
abbrev r_cmp_Compare_int_13 : Reg := ⟨[⟨.mv (.c (.int (0))), none, false⟩], [(4, 0)], [], none⟩
abbrev ir_cmp_Compare_int : Fn := { np := 2, nv := 5, res := [(4, none)], body :=
(.seq (.reg r_cmp_Compare_int_0)
 (.seq (.reg r_cmp_Compare_int_1)
 (.seq (.reg r_cmp_Compare_int_2)
 (.seq (.seq (.reg r_cmp_Compare_int_3)
 (.cond 11 (.seq (.seq (.reg r_cmp_Compare_int_4)
 (.cond 12 (.seq (.reg r_cmp_Compare_int_5)
 .ret) .skip))
 (.seq (.reg r_cmp_Compare_int_6)
 .ret)) .skip))
 (.seq (.seq (.reg r_cmp_Compare_int_7)
 (.cond 13 (.seq (.reg r_cmp_Compare_int_8)
 .ret) .skip))
 (.seq (.seq (.reg r_cmp_Compare_int_9)
 (.cond 16 (.seq (.reg r_cmp_Compare_int_10)
 .ret) .skip))
 (.seq (.seq (.reg r_cmp_Compare_int_11)
 (.cond 19 (.seq (.reg r_cmp_Compare_int_12)
 .ret) .skip))
 (.seq (.reg r_cmp_Compare_int_13)
 .ret)))))))) }
/- f102 cmp_Or_int : 0:vals 1:_ 2:_ 3:_ 4:val 5:zero 6:_ -/
abbrev r_cmp_Or_int_0 : Reg := ⟨[⟨.mv (.c (.int (0))), none, false⟩], [], [6], none⟩
abbrev r_cmp_Or_int_1 : Reg := ⟨[⟨.mv (.c (.int (0))), none, false⟩], [(5, 0)], [], none⟩
abbrev r_cmp_Or_int_2 : Reg := ⟨[⟨.mv (.v 0), none, false⟩, ⟨.len (.t 0), none, false⟩, ⟨.mv (.c (.int (0))), none, false⟩], [(3, 2), (2, 1), (1, 0)], [0], none⟩
abbrev r_cmp_Or_int_3 : Reg := ⟨[⟨.bin .lss (.v 1) (.v 2), none, false⟩], [], [], some (9, 0)⟩
abbrev r_cmp_Or_int_4 : Reg := ⟨[⟨.iad (.v 3) (.v 1) 1, none, false⟩, ⟨.ld (.t 0) none, none, false⟩, ⟨.mv (.t 0), none, false⟩], [(4, 0)], [], none⟩
abbrev r_cmp_Or_int_5 : Reg := ⟨[⟨.mv (.v 4), none, false⟩, ⟨.mv (.v 5), none, false⟩, ⟨.bin .neq (.t 1) (.t 0), none, false⟩], [], [], some (14, 0)⟩
abbrev r_cmp_Or_int_6 : Reg := ⟨[⟨.mv (.v 4), none, false⟩, ⟨.mv (.t 0), none, false⟩], [(6, 0)], [1, 2, 3, 4, 5], none⟩
abbrev r_cmp_Or_int_7 : Reg := ⟨[⟨.bin .add (.v 1) (.c (.int (1))), none, false⟩, ⟨.mv (.t 0), none, false⟩], [(1, 0)], [4], none⟩
abbrev b_cmp_Or_int_0 : IC := (.seq (.reg r_cmp_Or_int_3)
 (.seq (.cond 9 .skip (.exit 0))
 (.seq (.block 1 (.seq (.reg r_cmp_Or_int_4)
 (.seq (.reg r_cmp_Or_int_5)
 (.cond 14 (.seq (.reg r_cmp_Or_int_6)
 .ret) .skip))))
 (.reg r_cmp_Or_int_7))))
abbrev r_cmp_Or_int_8 : Reg := ⟨[⟨.mv (.v 5), none, false⟩, ⟨.mv (.t 0), none, false⟩], [(6, 0)], [1, 2, 3, 5], none⟩
abbrev ir_cmp_Or_int : Fn := { np := 1, nv := 7, res := [(6, none)], body :=
(.seq (.reg r_cmp_Or_int_0)
 (.seq (.reg r_cmp_Or_int_1)
 (.seq (.seq (.reg r_cmp_Or_int_2)
 (.block 0 (.loop b_cmp_Or_int_0)))
 (.seq (.reg r_cmp_Or_int_8)
 .ret)))) }
/- f103 slices_insertionSortCmpFunc_Sint : 0:data 1:a 2:b 3:cmp 4:i 5:j -/
abbrev r_slices_insertionSortCmpFunc_Sint_0 : Reg := ⟨[⟨.mv (.v 1), none, false⟩, ⟨.bin .add (.t 0) (.c (.int (1))), none, false⟩, ⟨.mv (.t 0), none, false⟩], [(4, 0)], [], none⟩
abbrev r_slices_insertionSortCmpFunc_Sint_1 : Reg := ⟨[⟨.mv (.v 4), none, false⟩, ⟨.mv (.v 2), none, false⟩, ⟨.bin .lss (.t 1) (.t 0), none, false⟩], [], [], some (14, 0)⟩
abbrev r_slices_insertionSortCmpFunc_Sint_3 : Reg := ⟨[⟨.mv (.v 4), none, false⟩, ⟨.mv (.t 0), none, false⟩], [(5, 0)], [], none⟩
abbrev r_slices_insertionSortCmpFunc_Sint_4 : Reg := ⟨[⟨.mv (.v 5), none, false⟩, ⟨.mv (.v 1), none, false⟩, ⟨.bin .gtr (.t 1) (.t 0), none, false⟩, ⟨.mv (.t 0), none, false⟩, ⟨.mv (.v 3), some (.t 0, true), false⟩, ⟨.mv (.v 0), some (.t 1, true), false⟩, ⟨.mv (.v 5), some (.t 2, true), false⟩, ⟨.iad (.t 1) (.t 0) 1, some (.t 3, true), false⟩, ⟨.ld (.t 0) none, some (.t 4, true), false⟩, ⟨.mv (.v 0), some (.t 5, true), false⟩, ⟨.mv (.v 5), some (.t 6, true), false⟩, ⟨.bin .sub (.t 0) (.c (.int (1))), some (.t 7, true), false⟩, ⟨.iad (.t 2) (.t 0) 1, some (.t 8, true), false⟩, ⟨.ld (.t 0) none, some (.t 9, true), false⟩, ⟨.cald (.t 9) [(.t 5), (.t 0)], some (.t 10, true), false⟩, ⟨.bin .lss (.t 0) (.c (.int (0))), some (.t 11, true), false⟩, ⟨.pick (.t 12) (.t 0) (.c (.bool false)), none, false⟩], [], [], some (34, 0)⟩
abbrev r_slices_insertionSortCmpFunc_Sint_6 : Reg := ⟨[⟨.mv (.v 0), none, false⟩, ⟨.mv (.v 5), none, false⟩, ⟨.mv (.v 0), none, false⟩, ⟨.mv (.v 5), none, false⟩, ⟨.bin .sub (.t 0) (.c (.int (1))), none, false⟩, ⟨.mv (.v 0), none, false⟩, ⟨.mv (.v 5), none, false⟩, ⟨.bin .sub (.t 0) (.c (.int (1))), none, false⟩, ⟨.iad (.t 2) (.t 0) 1, none, false⟩, ⟨.ld (.t 0) none, none, false⟩, ⟨.mv (.v 0), none, false⟩, ⟨.mv (.v 5), none, false⟩, ⟨.iad (.t 1) (.t 0) 1, none, false⟩, ⟨.ld (.t 0) none, none, false⟩, ⟨.iad (.t 13) (.t 12) 1, none, false⟩, ⟨.st (.t 0) (.t 5) 1, none, false⟩, ⟨.iad (.t 13) (.t 11) 1, none, false⟩, ⟨.st (.t 0) (.t 3) 1, none, false⟩], [], [], none⟩
abbrev r_slices_insertionSortCmpFunc_Sint_5 : Reg := ⟨[⟨.mv (.v 5), none, false⟩, ⟨.bin .sub (.t 0) (.c (.int (1))), none, false⟩, ⟨.mv (.t 0), none, false⟩], [(5, 0)], [], none⟩
abbrev b_slices_insertionSortCmpFunc_Sint_2 : IC := (.seq (.seq (.reg r_slices_insertionSortCmpFunc_Sint_4)
 (.cond 34 .skip (.exit 2)))
 (.seq (.block 3 (.reg r_slices_insertionSortCmpFunc_Sint_6))
 (.reg r_slices_insertionSortCmpFunc_Sint_5)))
abbrev r_slices_insertionSortCmpFunc_Sint_2 : Reg := ⟨[⟨.mv (.v 4), none, false⟩, ⟨.bin .add (.t 0) (.c (.int (1))), none, false⟩, ⟨.mv (.t 0), none, false⟩], [(4, 0)], [5], none⟩
abbrev b_slices_insertionSortCmpFunc_Sint_0 : IC := (.seq (.seq (.reg r_slices_insertionSortCmpFunc_Sint_1)
 (.cond 14 .skip (.exit 0)))
 (.seq (.block 1 (.seq (.reg r_slices_insertionSortCmpFunc_Sint_3)
 (.block 2 (.loop b_slices_insertionSortCmpFunc_Sint_2))))
 (.reg r_slices_insertionSortCmpFunc_Sint_2)))
abbrev ir_slices_insertionSortCmpFunc_Sint : Fn := { np := 4, nv := 6, res := [], body :=
(.seq (.reg r_slices_insertionSortCmpFunc_Sint_0)
 (.block 0 (.loop b_slices_insertionSortCmpFunc_Sint_0))) }
/- f104 slices_heapSortCmpFunc_Sint : 0:data 1:a 2:b 3:cmp 4:hi 5:i 6:first 7:i 8:lo -/
abbrev r_slices_heapSortCmpFunc_Sint_0 : Reg := ⟨[⟨.mv (.v 1), none, false⟩, ⟨.mv (.t 0), none, false⟩], [(6, 0)], [], none⟩
abbrev r_slices_heapSortCmpFunc_Sint_1 : Reg := ⟨[⟨.mv (.c (.int (0))), none, false⟩], [(8, 0)], [], none⟩
abbrev r_slices_heapSortCmpFunc_Sint_2 : Reg := ⟨[⟨.mv (.v 2), none, false⟩, ⟨.mv (.v 1), none, false⟩, ⟨.bin .sub (.t 1) (.t 0), none, false⟩, ⟨.mv (.t 0), none, false⟩], [(4, 0)], [1, 2], none⟩
abbrev r_slices_heapSortCmpFunc_Sint_3 : Reg := ⟨[⟨.mv (.v 4), none, false⟩, ⟨.bin .sub (.t 0) (.c (.int (1))), none, false⟩, ⟨.bin .quo (.t 0) (.c (.int (2))), none, false⟩, ⟨.mv (.t 0), none, false⟩], [(5, 0)], [], none⟩
abbrev r_slices_heapSortCmpFunc_Sint_4 : Reg := ⟨[⟨.mv (.v 5), none, false⟩, ⟨.bin .geq (.t 0) (.c (.int (0))), none, false⟩], [], [], some (21, 0)⟩
abbrev r_slices_heapSortCmpFunc_Sint_6 : Reg := ⟨[⟨.mv (.v 0), none, false⟩, ⟨.mv (.v 5), none, false⟩, ⟨.mv (.v 4), none, false⟩, ⟨.mv (.v 6), none, false⟩, ⟨.mv (.v 3), none, false⟩, ⟨.cal F_slices_siftDownCmpFunc_Sint [(.t 4), (.t 3), (.t 2), (.t 1), (.t 0)], none, false⟩], [], [], none⟩
abbrev r_slices_heapSortCmpFunc_Sint_5 : Reg := ⟨[⟨.mv (.v 5), none, false⟩, ⟨.bin .sub (.t 0) (.c (.int (1))), none, false⟩, ⟨.mv (.t 0), none, false⟩], [(5, 0)], [], none⟩
abbrev b_slices_heapSortCmpFunc_Sint_0 : IC := (.seq (.seq (.reg r_slices_heapSortCmpFunc_Sint_4)
 (.cond 21 .skip (.exit 0)))
 (.seq (.block 1 (.reg r_slices_heapSortCmpFunc_Sint_6))
 (.reg r_slices_heapSortCmpFunc_Sint_5)))
abbrev r_slices_heapSortCmpFunc_Sint_7 : Reg := ⟨[⟨.mv (.v 4), none, false⟩, ⟨.bin .sub (.t 0) (.c (.int (1))), none, false⟩, ⟨.mv (.t 0), none, false⟩], [(7, 0)], [4, 5], none⟩
abbrev r_slices_heapSortCmpFunc_Sint_8 : Reg := ⟨[⟨.mv (.v 7), none, false⟩, ⟨.bin .geq (.t 0) (.c (.int (0))), none, false⟩], [], [], some (33, 0)⟩
abbrev r_slices_heapSortCmpFunc_Sint_10 : Reg := ⟨[⟨.mv (.v 0), none, false⟩, ⟨.mv (.v 6), none, false⟩, ⟨.mv (.v 0), none, false⟩, ⟨.mv (.v 6), none, false⟩, ⟨.mv (.v 7), none, false⟩, ⟨.bin .add (.t 1) (.t 0), none, false⟩, ⟨.mv (.v 0), none, false⟩, ⟨.mv (.v 6), none, false⟩, ⟨.mv (.v 7), none, false⟩, ⟨.bin .add (.t 1) (.t 0), none, false⟩, ⟨.iad (.t 3) (.t 0) 1, none, false⟩, ⟨.ld (.t 0) none, none, false⟩, ⟨.mv (.v 0), none, false⟩, ⟨.mv (.v 6), none, false⟩, ⟨.iad (.t 1) (.t 0) 1, none, false⟩, ⟨.ld (.t 0) none, none, false⟩, ⟨.iad (.t 15) (.t 14) 1, none, false⟩, ⟨.st (.t 0) (.t 5) 1, none, false⟩, ⟨.iad (.t 15) (.t 12) 1, none, false⟩, ⟨.st (.t 0) (.t 3) 1, none, false⟩], [], [], none⟩
abbrev r_slices_heapSortCmpFunc_Sint_11 : Reg := ⟨[⟨.mv (.v 0), none, false⟩, ⟨.mv (.v 8), none, false⟩, ⟨.mv (.v 7), none, false⟩, ⟨.mv (.v 6), none, false⟩, ⟨.mv (.v 3), none, false⟩, ⟨.cal F_slices_siftDownCmpFunc_Sint [(.t 4), (.t 3), (.t 2), (.t 1), (.t 0)], none, false⟩], [], [], none⟩
abbrev r_slices_heapSortCmpFunc_Sint_9 : Reg := ⟨[⟨.mv (.v 7), none, false⟩, ⟨.bin .sub (.t 0) (.c (.int (1))), none, false⟩, ⟨.mv (.t 0), none, false⟩], [(7, 0)], [], none⟩
abbrev b_slices_heapSortCmpFunc_Sint_2 : IC := (.seq (.seq (.reg r_slices_heapSortCmpFunc_Sint_8)
 (.cond 33 .skip (.exit 2)))
 (.seq (.block 3 (.seq (.reg r_slices_heapSortCmpFunc_Sint_10)
 (.reg r_slices_heapSortCmpFunc_Sint_11)))
 (.reg r_slices_heapSortCmpFunc_Sint_9)))
abbrev ir_slices_heapSortCmpFunc_Sint : Fn := { np := 4, nv := 9, res := [], body :=
(.seq (.reg r_slices_heapSortCmpFunc_Sint_0)
 (.seq (.reg r_slices_heapSortCmpFunc_Sint_1)
 (.seq (.reg r_slices_heapSortCmpFunc_Sint_2)
 (.seq (.seq (.reg r_slices_heapSortCmpFunc_Sint_3)
 (.block 0 (.loop b_slices_heapSortCmpFunc_Sint_0)))
 (.seq (.reg r_slices_heapSortCmpFunc_Sint_7)
 (.block 2 (.loop b_slices_heapSortCmpFunc_Sint_2))))))) }
/- f105 slices_breakPatternsCmpFunc_Sint : 0:data 1:a 2:b 3:cmp 4:length 5:idx 6:random 7:modulus 8:other -/
abbrev r_slices_breakPatternsCmpFunc_Sint_0 : Reg := ⟨[⟨.mv (.v 2), none, false⟩, ⟨.mv (.v 1), none, false⟩, ⟨.bin .sub (.t 1) (.t 0), none, false⟩, ⟨.mv (.t 0), none, false⟩], [(4, 0)], [2, 3], none⟩
abbrev r_slices_breakPatternsCmpFunc_Sint_1 : Reg := ⟨[⟨.mv (.v 4), none, false⟩, ⟨.bin .geq (.t 0) (.c (.int (8))), none, false⟩], [], [], some (17, 0)⟩
abbrev r_slices_breakPatternsCmpFunc_Sint_3 : Reg := ⟨[⟨.mv (.v 4), none, false⟩, ⟨.cal F_slices_nextPowerOfTwo [(.t 0)], none, false⟩, ⟨.mv (.t 0), none, false⟩], [(7, 0)], [], none⟩
abbrev r_slices_breakPatternsCmpFunc_Sint_4 : Reg := ⟨[⟨.mv (.v 1), none, false⟩, ⟨.mv (.v 4), none, false⟩, ⟨.bin .quo (.t 0) (.c (.int (4))), none, false⟩, ⟨.bin .mul (.t 0) (.c (.int (2))), none, false⟩, ⟨.bin .add (.t 3) (.t 0), none, false⟩, ⟨.bin .sub (.t 0) (.c (.int (1))), none, false⟩, ⟨.mv (.t 0), none, false⟩], [(5, 0)], [], none⟩
abbrev r_slices_breakPatternsCmpFunc_Sint_5 : Reg := ⟨[⟨.mv (.v 5), none, false⟩, ⟨.mv (.v 1), none, false⟩, ⟨.mv (.v 4), none, false⟩, ⟨.bin .quo (.t 0) (.c (.int (4))), none, false⟩, ⟨.bin .mul (.t 0) (.c (.int (2))), none, false⟩, ⟨.bin .add (.t 3) (.t 0), none, false⟩, ⟨.bin .add (.t 0) (.c (.int (1))), none, false⟩, ⟨.bin .leq (.t 6) (.t 0), none, false⟩], [], [], some (35, 0)⟩
abbrev r_slices_breakPatternsCmpFunc_Sint_8 : Reg := ⟨[⟨.mv (.v 8), none, false⟩, ⟨.mv (.v 4), none, false⟩, ⟨.bin .geq (.t 1) (.t 0), none, false⟩], [], [], some (45, 0)⟩
abbrev r_slices_breakPatternsCmpFunc_Sint_9 : Reg := ⟨[⟨.mv (.v 8), none, false⟩, ⟨.mv (.v 4), none, false⟩, ⟨.bin .sub (.t 1) (.t 0), none, false⟩, ⟨.mv (.t 0), none, false⟩], [(8, 0)], [], none⟩
abbrev r_slices_breakPatternsCmpFunc_Sint_10 : Reg := ⟨[⟨.mv (.v 0), none, false⟩, ⟨.mv (.v 5), none, false⟩, ⟨.mv (.v 0), none, false⟩, ⟨.mv (.v 1), none, false⟩, ⟨.mv (.v 8), none, false⟩, ⟨.bin .add (.t 1) (.t 0), none, false⟩, ⟨.mv (.v 0), none, false⟩, ⟨.mv (.v 1), none, false⟩, ⟨.mv (.v 8), none, false⟩, ⟨.bin .add (.t 1) (.t 0), none, false⟩, ⟨.iad (.t 3) (.t 0) 1, none, false⟩, ⟨.ld (.t 0) none, none, false⟩, ⟨.mv (.v 0), none, false⟩, ⟨.mv (.v 5), none, false⟩, ⟨.iad (.t 1) (.t 0) 1, none, false⟩, ⟨.ld (.t 0) none, none, false⟩, ⟨.iad (.t 15) (.t 14) 1, none, false⟩, ⟨.st (.t 0) (.t 5) 1, none, false⟩, ⟨.iad (.t 15) (.t 12) 1, none, false⟩, ⟨.st (.t 0) (.t 3) 1, none, false⟩], [], [8], none⟩
abbrev r_slices_breakPatternsCmpFunc_Sint_6 : Reg := ⟨[⟨.mv (.v 5), none, false⟩, ⟨.bin .add (.t 0) (.c (.int (1))), none, false⟩, ⟨.mv (.t 0), none, false⟩], [(5, 0)], [], none⟩
abbrev b_slices_breakPatternsCmpFunc_Sint_0 : IC := (.seq (.seq (.reg r_slices_breakPatternsCmpFunc_Sint_5)
 (.cond 35 .skip (.exit 0)))
 (.seq (.block 1 (.seq .bad
 (.seq (.seq (.reg r_slices_breakPatternsCmpFunc_Sint_8)
 (.cond 45 (.reg r_slices_breakPatternsCmpFunc_Sint_9) .skip))
 (.reg r_slices_breakPatternsCmpFunc_Sint_10))))
 (.reg r_slices_breakPatternsCmpFunc_Sint_6)))
abbrev ir_slices_breakPatternsCmpFunc_Sint : Fn := { np := 4, nv := 9, res := [], body :=
(.seq (.reg r_slices_breakPatternsCmpFunc_Sint_0)
 (.seq (.reg r_slices_breakPatternsCmpFunc_Sint_1)
 (.cond 17 (.seq .bad
 (.seq (.reg r_slices_breakPatternsCmpFunc_Sint_3)
 (.seq (.reg r_slices_breakPatternsCmpFunc_Sint_4)
 (.block 0 (.loop b_slices_breakPatternsCmpFunc_Sint_0))))) .skip))) }
/- f106 slices_choosePivotCmpFunc_Sint : 0:data 1:a 2:b 3:cmp 4:l 5:i 6:swaps 7:j 8:k 9:_ 10:pivot 11:hint -/
abbrev r_slices_choosePivotCmpFunc_Sint_0 : Reg := ⟨[⟨.mv (.c (.int (0))), none, false⟩, ⟨.mv (.c (.int (0))), none, false⟩], [], [10, 11], none⟩
abbrev r_slices_choosePivotCmpFunc_Sint_1 : Reg := ⟨[⟨.mv (.v 2), none, false⟩, ⟨.mv (.v 1), none, false⟩, ⟨.bin .sub (.t 1) (.t 0), none, false⟩, ⟨.mv (.t 0), none, false⟩], [(4, 0)], [2], none⟩
abbrev r_slices_choosePivotCmpFunc_Sint_2 : Reg := ⟨[⟨.alc [.int 0] none, none, false⟩], [(6, 0)], [], none⟩
abbrev r_slices_choosePivotCmpFunc_Sint_3 : Reg := ⟨[⟨.mv (.v 1), none, false⟩, ⟨.mv (.v 4), none, false⟩, ⟨.bin .quo (.t 0) (.c (.int (4))), none, false⟩, ⟨.bin .mul (.t 0) (.c (.int (1))), none, false⟩, ⟨.bin .add (.t 3) (.t 0), none, false⟩, ⟨.mv (.t 0), none, false⟩], [(5, 0)], [], none⟩
abbrev r_slices_choosePivotCmpFunc_Sint_4 : Reg := ⟨[⟨.mv (.v 1), none, false⟩, ⟨.mv (.v 4), none, false⟩, ⟨.bin .quo (.t 0) (.c (.int (4))), none, false⟩, ⟨.bin .mul (.t 0) (.c (.int (2))), none, false⟩, ⟨.bin .add (.t 3) (.t 0), none, false⟩, ⟨.mv (.t 0), none, false⟩], [(7, 0)], [], none⟩
abbrev r_slices_choosePivotCmpFunc_Sint_5 : Reg := ⟨[⟨.mv (.v 1), none, false⟩, ⟨.mv (.v 4), none, false⟩, ⟨.bin .quo (.t 0) (.c (.int (4))), none, false⟩, ⟨.bin .mul (.t 0) (.c (.int (3))), none, false⟩, ⟨.bin .add (.t 3) (.t 0), none, false⟩, ⟨.mv (.t 0), none, false⟩], [(8, 0)], [1], none⟩
abbrev r_slices_choosePivotCmpFunc_Sint_6 : Reg := ⟨[⟨.mv (.v 4), none, false⟩, ⟨.bin .geq (.t 0) (.c (.int (8))), none, false⟩], [], [], some (34, 0)⟩
abbrev r_slices_choosePivotCmpFunc_Sint_7 : Reg := ⟨[⟨.mv (.v 4), none, false⟩, ⟨.bin .geq (.t 0) (.c (.int (50))), none, false⟩], [], [4], some (36, 0)⟩
abbrev r_slices_choosePivotCmpFunc_Sint_8 : Reg := ⟨[⟨.mv (.v 0), none, false⟩, ⟨.mv (.v 5), none, false⟩, ⟨.mv (.v 3), none, false⟩, ⟨.cal F_slices_medianAdjacentCmpFunc_Sint [(.t 2), (.t 1), (.v 6), (.t 0)], none, false⟩, ⟨.mv (.t 0), none, false⟩], [(5, 0)], [], none⟩
abbrev r_slices_choosePivotCmpFunc_Sint_9 : Reg := ⟨[⟨.mv (.v 0), none, false⟩, ⟨.mv (.v 7), none, false⟩, ⟨.mv (.v 3), none, false⟩, ⟨.cal F_slices_medianAdjacentCmpFunc_Sint [(.t 2), (.t 1), (.v 6), (.t 0)], none, false⟩, ⟨.mv (.t 0), none, false⟩], [(7, 0)], [], none⟩
abbrev r_slices_choosePivotCmpFunc_Sint_10 : Reg := ⟨[⟨.mv (.v 0), none, false⟩, ⟨.mv (.v 8), none, false⟩, ⟨.mv (.v 3), none, false⟩, ⟨.cal F_slices_medianAdjacentCmpFunc_Sint [(.t 2), (.t 1), (.v 6), (.t 0)], none, false⟩, ⟨.mv (.t 0), none, false⟩], [(8, 0)], [], none⟩
abbrev r_slices_choosePivotCmpFunc_Sint_11 : Reg := ⟨[⟨.mv (.v 0), none, false⟩, ⟨.mv (.v 5), none, false⟩, ⟨.mv (.v 7), none, false⟩, ⟨.mv (.v 8), none, false⟩, ⟨.mv (.v 3), none, false⟩, ⟨.cal F_slices_medianCmpFunc_Sint [(.t 4), (.t 3), (.t 2), (.t 1), (.v 6), (.t 0)], none, false⟩, ⟨.mv (.t 0), none, false⟩], [(7, 0)], [0, 3, 5, 8], none⟩
abbrev r_slices_choosePivotCmpFunc_Sint_12 : Reg := ⟨[⟨.ld (.v 6) none, none, false⟩], [(9, 0)], [0, 3, 4, 5, 6, 8], none⟩
abbrev r_slices_choosePivotCmpFunc_Sint_14 : Reg := ⟨[⟨.bin .eql (.v 9) (.c (.int (0))), none, false⟩, ⟨.mv (.t 0), none, false⟩], [], [], some (57, 0)⟩
abbrev r_slices_choosePivotCmpFunc_Sint_15 : Reg := ⟨[⟨.mv (.v 7), none, false⟩, ⟨.mv (.t 0), none, false⟩, ⟨.mv (.c (.int (1))), none, false⟩], [(10, 1), (11, 0)], [7, 9], none⟩
abbrev r_slices_choosePivotCmpFunc_Sint_16 : Reg := ⟨[⟨.bin .eql (.v 9) (.c (.int (12))), none, false⟩, ⟨.mv (.t 0), none, false⟩], [], [9], some (60, 0)⟩
abbrev r_slices_choosePivotCmpFunc_Sint_17 : Reg := ⟨[⟨.mv (.v 7), none, false⟩, ⟨.mv (.t 0), none, false⟩, ⟨.mv (.c (.int (2))), none, false⟩], [(10, 1), (11, 0)], [7], none⟩
abbrev r_slices_choosePivotCmpFunc_Sint_13 : Reg := ⟨[⟨.mv (.v 7), none, false⟩, ⟨.mv (.t 0), none, false⟩, ⟨.mv (.c (.int (0))), none, false⟩], [(10, 1), (11, 0)], [7], none⟩
abbrev ir_slices_choosePivotCmpFunc_Sint : Fn := { np := 4, nv := 12, res := [(10, none), (11, none)], body :=
(.seq (.reg r_slices_choosePivotCmpFunc_Sint_0)
 (.seq (.reg r_slices_choosePivotCmpFunc_Sint_1)
 (.seq (.reg r_slices_choosePivotCmpFunc_Sint_2)
 (.seq (.reg r_slices_choosePivotCmpFunc_Sint_3)
 (.seq (.reg r_slices_choosePivotCmpFunc_Sint_4)
 (.seq (.reg r_slices_choosePivotCmpFunc_Sint_5)
 (.seq (.seq (.reg r_slices_choosePivotCmpFunc_Sint_6)
 (.cond 34 (.seq (.seq (.reg r_slices_choosePivotCmpFunc_Sint_7)
 (.cond 36 (.seq (.reg r_slices_choosePivotCmpFunc_Sint_8)
 (.seq (.reg r_slices_choosePivotCmpFunc_Sint_9)
 (.reg r_slices_choosePivotCmpFunc_Sint_10))) .skip))
 (.reg r_slices_choosePivotCmpFunc_Sint_11)) .skip))
 (.seq (.reg r_slices_choosePivotCmpFunc_Sint_12)
 (.block 0 (.seq (.reg r_slices_choosePivotCmpFunc_Sint_14)
 (.cond 57 (.seq (.reg r_slices_choosePivotCmpFunc_Sint_15)
 .ret) (.seq (.reg r_slices_choosePivotCmpFunc_Sint_16)
 (.cond 60 (.seq (.reg r_slices_choosePivotCmpFunc_Sint_17)
 .ret) (.seq (.reg r_slices_choosePivotCmpFunc_Sint_13)
 .ret)))))))))))))) }
/- f107 slices_reverseRangeCmpFunc_Sint : 0:data 1:a 2:b 3:cmp 4:i 5:j -/
abbrev r_slices_reverseRangeCmpFunc_Sint_0 : Reg := ⟨[⟨.mv (.v 1), none, false⟩, ⟨.mv (.t 0), none, false⟩], [(4, 0)], [1, 3], none⟩
abbrev r_slices_reverseRangeCmpFunc_Sint_1 : Reg := ⟨[⟨.mv (.v 2), none, false⟩, ⟨.bin .sub (.t 0) (.c (.int (1))), none, false⟩, ⟨.mv (.t 0), none, false⟩], [(5, 0)], [2], none⟩
abbrev r_slices_reverseRangeCmpFunc_Sint_2 : Reg := ⟨[⟨.mv (.v 4), none, false⟩, ⟨.mv (.v 5), none, false⟩, ⟨.bin .lss (.t 1) (.t 0), none, false⟩], [], [], some (15, 0)⟩
abbrev r_slices_reverseRangeCmpFunc_Sint_3 : Reg := ⟨[⟨.mv (.v 0), none, false⟩, ⟨.mv (.v 4), none, false⟩, ⟨.mv (.v 0), none, false⟩, ⟨.mv (.v 5), none, false⟩, ⟨.mv (.v 0), none, false⟩, ⟨.mv (.v 5), none, false⟩, ⟨.iad (.t 1) (.t 0) 1, none, false⟩, ⟨.ld (.t 0) none, none, false⟩, ⟨.mv (.v 0), none, false⟩, ⟨.mv (.v 4), none, false⟩, ⟨.iad (.t 1) (.t 0) 1, none, false⟩, ⟨.ld (.t 0) none, none, false⟩, ⟨.iad (.t 11) (.t 10) 1, none, false⟩, ⟨.st (.t 0) (.t 5) 1, none, false⟩, ⟨.iad (.t 11) (.t 10) 1, none, false⟩, ⟨.st (.t 0) (.t 3) 1, none, false⟩], [], [], none⟩
abbrev r_slices_reverseRangeCmpFunc_Sint_4 : Reg := ⟨[⟨.mv (.v 4), none, false⟩, ⟨.bin .add (.t 0) (.c (.int (1))), none, false⟩, ⟨.mv (.t 0), none, false⟩], [(4, 0)], [], none⟩
abbrev r_slices_reverseRangeCmpFunc_Sint_5 : Reg := ⟨[⟨.mv (.v 5), none, false⟩, ⟨.bin .sub (.t 0) (.c (.int (1))), none, false⟩, ⟨.mv (.t 0), none, false⟩], [(5, 0)], [], none⟩
abbrev b_slices_reverseRangeCmpFunc_Sint_0 : IC := (.seq (.seq (.reg r_slices_reverseRangeCmpFunc_Sint_2)
 (.cond 15 .skip (.exit 0)))
 (.block 1 (.seq (.reg r_slices_reverseRangeCmpFunc_Sint_3)
 (.seq (.reg r_slices_reverseRangeCmpFunc_Sint_4)
 (.reg r_slices_reverseRangeCmpFunc_Sint_5)))))
abbrev ir_slices_reverseRangeCmpFunc_Sint : Fn := { np := 4, nv := 6, res := [], body :=
(.seq (.reg r_slices_reverseRangeCmpFunc_Sint_0)
 (.seq (.reg r_slices_reverseRangeCmpFunc_Sint_1)
 (.block 0 (.loop b_slices_reverseRangeCmpFunc_Sint_0)))) }
/- f108 slices_partialInsertionSortCmpFunc_Sint : 0:data 1:a 2:b 3:cmp 4:j 5:i 6:j 7:j 8:_ -/
abbrev r_slices_partialInsertionSortCmpFunc_Sint_0 : Reg := ⟨[⟨.mv (.c (.bool false)), none, false⟩], [], [8], none⟩
abbrev r_slices_partialInsertionSortCmpFunc_Sint_1 : Reg := ⟨[⟨.mv (.v 1), none, false⟩, ⟨.bin .add (.t 0) (.c (.int (1))), none, false⟩, ⟨.mv (.t 0), none, false⟩], [(5, 0)], [], none⟩
abbrev r_slices_partialInsertionSortCmpFunc_Sint_2 : Reg := ⟨[⟨.mv (.c (.int (0))), none, false⟩], [(4, 0)], [], none⟩
abbrev r_slices_partialInsertionSortCmpFunc_Sint_3 : Reg := ⟨[⟨.mv (.v 4), none, false⟩, ⟨.bin .lss (.t 0) (.c (.int (5))), none, false⟩], [], [], some (16, 0)⟩
abbrev r_slices_partialInsertionSortCmpFunc_Sint_5 : Reg := ⟨[⟨.mv (.v 5), none, false⟩, ⟨.mv (.v 2), none, false⟩, ⟨.bin .lss (.t 1) (.t 0), none, false⟩, ⟨.mv (.t 0), none, false⟩, ⟨.mv (.v 3), some (.t 0, true), false⟩, ⟨.mv (.v 0), some (.t 1, true), false⟩, ⟨.mv (.v 5), some (.t 2, true), false⟩, ⟨.iad (.t 1) (.t 0) 1, some (.t 3, true), false⟩, ⟨.ld (.t 0) none, some (.t 4, true), false⟩, ⟨.mv (.v 0), some (.t 5, true), false⟩, ⟨.mv (.v 5), some (.t 6, true), false⟩, ⟨.bin .sub (.t 0) (.c (.int (1))), some (.t 7, true), false⟩, ⟨.iad (.t 2) (.t 0) 1, some (.t 8, true), false⟩, ⟨.ld (.t 0) none, some (.t 9, true), false⟩, ⟨.cald (.t 9) [(.t 5), (.t 0)], some (.t 10, true), false⟩, ⟨.bin .lss (.t 0) (.c (.int (0))), some (.t 11, true), false⟩, ⟨.not (.t 0), some (.t 12, true), false⟩, ⟨.pick (.t 13) (.t 0) (.c (.bool false)), none, false⟩], [], [], some (36, 0)⟩
abbrev r_slices_partialInsertionSortCmpFunc_Sint_6 : Reg := ⟨[⟨.mv (.v 5), none, false⟩, ⟨.bin .add (.t 0) (.c (.int (1))), none, false⟩, ⟨.mv (.t 0), none, false⟩], [(5, 0)], [], none⟩
abbrev b_slices_partialInsertionSortCmpFunc_Sint_2 : IC := (.seq (.seq (.reg r_slices_partialInsertionSortCmpFunc_Sint_5)
 (.cond 36 .skip (.exit 2)))
 (.block 3 (.reg r_slices_partialInsertionSortCmpFunc_Sint_6)))
abbrev r_slices_partialInsertionSortCmpFunc_Sint_7 : Reg := ⟨[⟨.mv (.v 5), none, false⟩, ⟨.mv (.v 2), none, false⟩, ⟨.bin .eql (.t 1) (.t 0), none, false⟩], [], [], some (41, 0)⟩
abbrev r_slices_partialInsertionSortCmpFunc_Sint_8 : Reg := ⟨[⟨.mv (.c (.bool true)), none, false⟩], [(8, 0)], [0, 1, 2, 3, 4, 5], none⟩
abbrev r_slices_partialInsertionSortCmpFunc_Sint_9 : Reg := ⟨[⟨.mv (.v 2), none, false⟩, ⟨.mv (.v 1), none, false⟩, ⟨.bin .sub (.t 1) (.t 0), none, false⟩, ⟨.bin .lss (.t 0) (.c (.int (50))), none, false⟩], [], [], some (45, 0)⟩
abbrev r_slices_partialInsertionSortCmpFunc_Sint_10 : Reg := ⟨[⟨.mv (.c (.bool false)), none, false⟩], [(8, 0)], [0, 1, 2, 3, 4, 5], none⟩
abbrev r_slices_partialInsertionSortCmpFunc_Sint_11 : Reg := ⟨[⟨.mv (.v 0), none, false⟩, ⟨.mv (.v 5), none, false⟩, ⟨.mv (.v 0), none, false⟩, ⟨.mv (.v 5), none, false⟩, ⟨.bin .sub (.t 0) (.c (.int (1))), none, false⟩, ⟨.mv (.v 0), none, false⟩, ⟨.mv (.v 5), none, false⟩, ⟨.bin .sub (.t 0) (.c (.int (1))), none, false⟩, ⟨.iad (.t 2) (.t 0) 1, none, false⟩, ⟨.ld (.t 0) none, none, false⟩, ⟨.mv (.v 0), none, false⟩, ⟨.mv (.v 5), none, false⟩, ⟨.iad (.t 1) (.t 0) 1, none, false⟩, ⟨.ld (.t 0) none, none, false⟩, ⟨.iad (.t 13) (.t 12) 1, none, false⟩, ⟨.st (.t 0) (.t 5) 1, none, false⟩, ⟨.iad (.t 13) (.t 11) 1, none, false⟩, ⟨.st (.t 0) (.t 3) 1, none, false⟩], [], [], none⟩
abbrev r_slices_partialInsertionSortCmpFunc_Sint_12 : Reg := ⟨[⟨.mv (.v 5), none, false⟩, ⟨.mv (.v 1), none, false⟩, ⟨.bin .sub (.t 1) (.t 0), none, false⟩, ⟨.bin .geq (.t 0) (.c (.int (2))), none, false⟩], [], [], some (65, 0)⟩
abbrev r_slices_partialInsertionSortCmpFunc_Sint_13 : Reg := ⟨[⟨.mv (.v 5), none, false⟩, ⟨.bin .sub (.t 0) (.c (.int (1))), none, false⟩, ⟨.mv (.t 0), none, false⟩], [(6, 0)], [], none⟩
abbrev r_slices_partialInsertionSortCmpFunc_Sint_14 : Reg := ⟨[⟨.mv (.v 6), none, false⟩, ⟨.bin .geq (.t 0) (.c (.int (1))), none, false⟩], [], [], some (69, 0)⟩
abbrev r_slices_partialInsertionSortCmpFunc_Sint_16 : Reg := ⟨[⟨.mv (.v 3), none, false⟩, ⟨.mv (.v 0), none, false⟩, ⟨.mv (.v 6), none, false⟩, ⟨.iad (.t 1) (.t 0) 1, none, false⟩, ⟨.ld (.t 0) none, none, false⟩, ⟨.mv (.v 0), none, false⟩, ⟨.mv (.v 6), none, false⟩, ⟨.bin .sub (.t 0) (.c (.int (1))), none, false⟩, ⟨.iad (.t 2) (.t 0) 1, none, false⟩, ⟨.ld (.t 0) none, none, false⟩, ⟨.cald (.t 9) [(.t 5), (.t 0)], none, false⟩, ⟨.bin .lss (.t 0) (.c (.int (0))), none, false⟩, ⟨.not (.t 0), none, false⟩], [], [], some (84, 0)⟩
abbrev r_slices_partialInsertionSortCmpFunc_Sint_17 : Reg := ⟨[⟨.mv (.v 0), none, false⟩, ⟨.mv (.v 6), none, false⟩, ⟨.mv (.v 0), none, false⟩, ⟨.mv (.v 6), none, false⟩, ⟨.bin .sub (.t 0) (.c (.int (1))), none, false⟩, ⟨.mv (.v 0), none, false⟩, ⟨.mv (.v 6), none, false⟩, ⟨.bin .sub (.t 0) (.c (.int (1))), none, false⟩, ⟨.iad (.t 2) (.t 0) 1, none, false⟩, ⟨.ld (.t 0) none, none, false⟩, ⟨.mv (.v 0), none, false⟩, ⟨.mv (.v 6), none, false⟩, ⟨.iad (.t 1) (.t 0) 1, none, false⟩, ⟨.ld (.t 0) none, none, false⟩, ⟨.iad (.t 13) (.t 12) 1, none, false⟩, ⟨.st (.t 0) (.t 5) 1, none, false⟩, ⟨.iad (.t 13) (.t 11) 1, none, false⟩, ⟨.st (.t 0) (.t 3) 1, none, false⟩], [], [], none⟩
abbrev r_slices_partialInsertionSortCmpFunc_Sint_15 : Reg := ⟨[⟨.mv (.v 6), none, false⟩, ⟨.bin .sub (.t 0) (.c (.int (1))), none, false⟩, ⟨.mv (.t 0), none, false⟩], [(6, 0)], [], none⟩
abbrev b_slices_partialInsertionSortCmpFunc_Sint_4 : IC := (.seq (.seq (.reg r_slices_partialInsertionSortCmpFunc_Sint_14)
 (.cond 69 .skip (.exit 4)))
 (.seq (.block 5 (.seq (.seq (.reg r_slices_partialInsertionSortCmpFunc_Sint_16)
 (.cond 84 (.exit 4) .skip))
 (.reg r_slices_partialInsertionSortCmpFunc_Sint_17)))
 (.reg r_slices_partialInsertionSortCmpFunc_Sint_15)))
abbrev r_slices_partialInsertionSortCmpFunc_Sint_18 : Reg := ⟨[⟨.mv (.v 2), none, false⟩, ⟨.mv (.v 5), none, false⟩, ⟨.bin .sub (.t 1) (.t 0), none, false⟩, ⟨.bin .geq (.t 0) (.c (.int (2))), none, false⟩], [], [6], some (104, 0)⟩
abbrev r_slices_partialInsertionSortCmpFunc_Sint_19 : Reg := ⟨[⟨.mv (.v 5), none, false⟩, ⟨.bin .add (.t 0) (.c (.int (1))), none, false⟩, ⟨.mv (.t 0), none, false⟩], [(7, 0)], [], none⟩
abbrev r_slices_partialInsertionSortCmpFunc_Sint_20 : Reg := ⟨[⟨.mv (.v 7), none, false⟩, ⟨.mv (.v 2), none, false⟩, ⟨.bin .lss (.t 1) (.t 0), none, false⟩], [], [], some (109, 0)⟩
abbrev r_slices_partialInsertionSortCmpFunc_Sint_22 : Reg := ⟨[⟨.mv (.v 3), none, false⟩, ⟨.mv (.v 0), none, false⟩, ⟨.mv (.v 7), none, false⟩, ⟨.iad (.t 1) (.t 0) 1, none, false⟩, ⟨.ld (.t 0) none, none, false⟩, ⟨.mv (.v 0), none, false⟩, ⟨.mv (.v 7), none, false⟩, ⟨.bin .sub (.t 0) (.c (.int (1))), none, false⟩, ⟨.iad (.t 2) (.t 0) 1, none, false⟩, ⟨.ld (.t 0) none, none, false⟩, ⟨.cald (.t 9) [(.t 5), (.t 0)], none, false⟩, ⟨.bin .lss (.t 0) (.c (.int (0))), none, false⟩, ⟨.not (.t 0), none, false⟩], [], [], some (124, 0)⟩
abbrev r_slices_partialInsertionSortCmpFunc_Sint_23 : Reg := ⟨[⟨.mv (.v 0), none, false⟩, ⟨.mv (.v 7), none, false⟩, ⟨.mv (.v 0), none, false⟩, ⟨.mv (.v 7), none, false⟩, ⟨.bin .sub (.t 0) (.c (.int (1))), none, false⟩, ⟨.mv (.v 0), none, false⟩, ⟨.mv (.v 7), none, false⟩, ⟨.bin .sub (.t 0) (.c (.int (1))), none, false⟩, ⟨.iad (.t 2) (.t 0) 1, none, false⟩, ⟨.ld (.t 0) none, none, false⟩, ⟨.mv (.v 0), none, false⟩, ⟨.mv (.v 7), none, false⟩, ⟨.iad (.t 1) (.t 0) 1, none, false⟩, ⟨.ld (.t 0) none, none, false⟩, ⟨.iad (.t 13) (.t 12) 1, none, false⟩, ⟨.st (.t 0) (.t 5) 1, none, false⟩, ⟨.iad (.t 13) (.t 11) 1, none, false⟩, ⟨.st (.t 0) (.t 3) 1, none, false⟩], [], [], none⟩
abbrev r_slices_partialInsertionSortCmpFunc_Sint_21 : Reg := ⟨[⟨.mv (.v 7), none, false⟩, ⟨.bin .add (.t 0) (.c (.int (1))), none, false⟩, ⟨.mv (.t 0), none, false⟩], [(7, 0)], [], none⟩
abbrev b_slices_partialInsertionSortCmpFunc_Sint_6 : IC := (.seq (.seq (.reg r_slices_partialInsertionSortCmpFunc_Sint_20)
 (.cond 109 .skip (.exit 6)))
 (.seq (.block 7 (.seq (.seq (.reg r_slices_partialInsertionSortCmpFunc_Sint_22)
 (.cond 124 (.exit 6) .skip))
 (.reg r_slices_partialInsertionSortCmpFunc_Sint_23)))
 (.reg r_slices_partialInsertionSortCmpFunc_Sint_21)))
abbrev r_slices_partialInsertionSortCmpFunc_Sint_4 : Reg := ⟨[⟨.mv (.v 4), none, false⟩, ⟨.bin .add (.t 0) (.c (.int (1))), none, false⟩, ⟨.mv (.t 0), none, false⟩], [(4, 0)], [7], none⟩
abbrev b_slices_partialInsertionSortCmpFunc_Sint_0 : IC := (.seq (.seq (.reg r_slices_partialInsertionSortCmpFunc_Sint_3)
 (.cond 16 .skip (.exit 0)))
 (.seq (.block 1 (.seq (.block 2 (.loop b_slices_partialInsertionSortCmpFunc_Sint_2))
 (.seq (.seq (.reg r_slices_partialInsertionSortCmpFunc_Sint_7)
 (.cond 41 (.seq (.reg r_slices_partialInsertionSortCmpFunc_Sint_8)
 .ret) .skip))
 (.seq (.seq (.reg r_slices_partialInsertionSortCmpFunc_Sint_9)
 (.cond 45 (.seq (.reg r_slices_partialInsertionSortCmpFunc_Sint_10)
 .ret) .skip))
 (.seq (.reg r_slices_partialInsertionSortCmpFunc_Sint_11)
 (.seq (.seq (.reg r_slices_partialInsertionSortCmpFunc_Sint_12)
 (.cond 65 (.seq (.reg r_slices_partialInsertionSortCmpFunc_Sint_13)
 (.block 4 (.loop b_slices_partialInsertionSortCmpFunc_Sint_4))) .skip))
 (.seq (.reg r_slices_partialInsertionSortCmpFunc_Sint_18)
 (.cond 104 (.seq (.reg r_slices_partialInsertionSortCmpFunc_Sint_19)
 (.block 6 (.loop b_slices_partialInsertionSortCmpFunc_Sint_6))) .skip))))))))
 (.reg r_slices_partialInsertionSortCmpFunc_Sint_4)))
abbrev r_slices_partialInsertionSortCmpFunc_Sint_24 : Reg := ⟨[⟨.mv (.c (.bool false)), none, false⟩], [(8, 0)], [0, 1, 2, 3, 4, 5], none⟩
abbrev ir_slices_partialInsertionSortCmpFunc_Sint : Fn := { np := 4, nv := 9, res := [(8, none)], body :=
(.seq (.reg r_slices_partialInsertionSortCmpFunc_Sint_0)
 (.seq (.reg r_slices_partialInsertionSortCmpFunc_Sint_1)
 (.seq (.seq (.reg r_slices_partialInsertionSortCmpFunc_Sint_2)
 (.block 0 (.loop b_slices_partialInsertionSortCmpFunc_Sint_0)))
 (.seq (.reg r_slices_partialInsertionSortCmpFunc_Sint_24)
 .ret)))) }
/- f109 slices_partitionEqualCmpFunc_Sint : 0:data 1:a 2:b 3:pivot 4:cmp 5:i 6:j 7:newpivot -/
abbrev r_slices_partitionEqualCmpFunc_Sint_0 : Reg := ⟨[⟨.mv (.c (.int (0))), none, false⟩], [], [7], none⟩
abbrev r_slices_partitionEqualCmpFunc_Sint_1 : Reg := ⟨[⟨.mv (.v 0), none, false⟩, ⟨.mv (.v 1), none, false⟩, ⟨.mv (.v 0), none, false⟩, ⟨.mv (.v 3), none, false⟩, ⟨.mv (.v 0), none, false⟩, ⟨.mv (.v 3), none, false⟩, ⟨.iad (.t 1) (.t 0) 1, none, false⟩, ⟨.ld (.t 0) none, none, false⟩, ⟨.mv (.v 0), none, false⟩, ⟨.mv (.v 1), none, false⟩, ⟨.iad (.t 1) (.t 0) 1, none, false⟩, ⟨.ld (.t 0) none, none, false⟩, ⟨.iad (.t 11) (.t 10) 1, none, false⟩, ⟨.st (.t 0) (.t 5) 1, none, false⟩, ⟨.iad (.t 11) (.t 10) 1, none, false⟩, ⟨.st (.t 0) (.t 3) 1, none, false⟩], [], [3], none⟩
abbrev r_slices_partitionEqualCmpFunc_Sint_2 : Reg := ⟨[⟨.mv (.v 1), none, false⟩, ⟨.bin .add (.t 0) (.c (.int (1))), none, false⟩, ⟨.mv (.v 2), none, false⟩, ⟨.bin .sub (.t 0) (.c (.int (1))), none, false⟩, ⟨.mv (.t 2), none, false⟩, ⟨.mv (.t 1), none, false⟩], [(5, 1), (6, 0)], [2], none⟩
abbrev r_slices_partitionEqualCmpFunc_Sint_3 : Reg := ⟨[⟨.mv (.v 5), none, false⟩, ⟨.mv (.v 6), none, false⟩, ⟨.bin .leq (.t 1) (.t 0), none, false⟩, ⟨.mv (.t 0), none, false⟩, ⟨.mv (.v 4), some (.t 0, true), false⟩, ⟨.mv (.v 0), some (.t 1, true), false⟩, ⟨.mv (.v 1), some (.t 2, true), false⟩, ⟨.iad (.t 1) (.t 0) 1, some (.t 3, true), false⟩, ⟨.ld (.t 0) none, some (.t 4, true), false⟩, ⟨.mv (.v 0), some (.t 5, true), false⟩, ⟨.mv (.v 5), some (.t 6, true), false⟩, ⟨.iad (.t 1) (.t 0) 1, some (.t 7, true), false⟩, ⟨.ld (.t 0) none, some (.t 8, true), false⟩, ⟨.cald (.t 8) [(.t 4), (.t 0)], some (.t 9, true), false⟩, ⟨.bin .lss (.t 0) (.c (.int (0))), some (.t 10, true), false⟩, ⟨.not (.t 0), some (.t 11, true), false⟩, ⟨.pick (.t 12) (.t 0) (.c (.bool false)), none, false⟩], [], [], some (47, 0)⟩
abbrev r_slices_partitionEqualCmpFunc_Sint_4 : Reg := ⟨[⟨.mv (.v 5), none, false⟩, ⟨.bin .add (.t 0) (.c (.int (1))), none, false⟩, ⟨.mv (.t 0), none, false⟩], [(5, 0)], [], none⟩
abbrev b_slices_partitionEqualCmpFunc_Sint_2 : IC := (.seq (.seq (.reg r_slices_partitionEqualCmpFunc_Sint_3)
 (.cond 47 .skip (.exit 2)))
 (.block 3 (.reg r_slices_partitionEqualCmpFunc_Sint_4)))
abbrev r_slices_partitionEqualCmpFunc_Sint_5 : Reg := ⟨[⟨.mv (.v 5), none, false⟩, ⟨.mv (.v 6), none, false⟩, ⟨.bin .leq (.t 1) (.t 0), none, false⟩, ⟨.mv (.t 0), none, false⟩, ⟨.mv (.v 4), some (.t 0, true), false⟩, ⟨.mv (.v 0), some (.t 1, true), false⟩, ⟨.mv (.v 1), some (.t 2, true), false⟩, ⟨.iad (.t 1) (.t 0) 1, some (.t 3, true), false⟩, ⟨.ld (.t 0) none, some (.t 4, true), false⟩, ⟨.mv (.v 0), some (.t 5, true), false⟩, ⟨.mv (.v 6), some (.t 6, true), false⟩, ⟨.iad (.t 1) (.t 0) 1, some (.t 7, true), false⟩, ⟨.ld (.t 0) none, some (.t 8, true), false⟩, ⟨.cald (.t 8) [(.t 4), (.t 0)], some (.t 9, true), false⟩, ⟨.bin .lss (.t 0) (.c (.int (0))), some (.t 10, true), false⟩, ⟨.pick (.t 11) (.t 0) (.c (.bool false)), none, false⟩], [], [], some (65, 0)⟩
abbrev r_slices_partitionEqualCmpFunc_Sint_6 : Reg := ⟨[⟨.mv (.v 6), none, false⟩, ⟨.bin .sub (.t 0) (.c (.int (1))), none, false⟩, ⟨.mv (.t 0), none, false⟩], [(6, 0)], [], none⟩
abbrev b_slices_partitionEqualCmpFunc_Sint_4 : IC := (.seq (.seq (.reg r_slices_partitionEqualCmpFunc_Sint_5)
 (.cond 65 .skip (.exit 4)))
 (.block 5 (.reg r_slices_partitionEqualCmpFunc_Sint_6)))
abbrev r_slices_partitionEqualCmpFunc_Sint_7 : Reg := ⟨[⟨.mv (.v 5), none, false⟩, ⟨.mv (.v 6), none, false⟩, ⟨.bin .gtr (.t 1) (.t 0), none, false⟩], [], [], some (70, 0)⟩
abbrev r_slices_partitionEqualCmpFunc_Sint_8 : Reg := ⟨[⟨.mv (.v 0), none, false⟩, ⟨.mv (.v 5), none, false⟩, ⟨.mv (.v 0), none, false⟩, ⟨.mv (.v 6), none, false⟩, ⟨.mv (.v 0), none, false⟩, ⟨.mv (.v 6), none, false⟩, ⟨.iad (.t 1) (.t 0) 1, none, false⟩, ⟨.ld (.t 0) none, none, false⟩, ⟨.mv (.v 0), none, false⟩, ⟨.mv (.v 5), none, false⟩, ⟨.iad (.t 1) (.t 0) 1, none, false⟩, ⟨.ld (.t 0) none, none, false⟩, ⟨.iad (.t 11) (.t 10) 1, none, false⟩, ⟨.st (.t 0) (.t 5) 1, none, false⟩, ⟨.iad (.t 11) (.t 10) 1, none, false⟩, ⟨.st (.t 0) (.t 3) 1, none, false⟩], [], [], none⟩
abbrev r_slices_partitionEqualCmpFunc_Sint_9 : Reg := ⟨[⟨.mv (.v 5), none, false⟩, ⟨.bin .add (.t 0) (.c (.int (1))), none, false⟩, ⟨.mv (.t 0), none, false⟩], [(5, 0)], [], none⟩
abbrev r_slices_partitionEqualCmpFunc_Sint_10 : Reg := ⟨[⟨.mv (.v 6), none, false⟩, ⟨.bin .sub (.t 0) (.c (.int (1))), none, false⟩, ⟨.mv (.t 0), none, false⟩], [(6, 0)], [], none⟩
abbrev b_slices_partitionEqualCmpFunc_Sint_0 : IC := (.block 1 (.seq (.block 2 (.loop b_slices_partitionEqualCmpFunc_Sint_2))
 (.seq (.block 4 (.loop b_slices_partitionEqualCmpFunc_Sint_4))
 (.seq (.seq (.reg r_slices_partitionEqualCmpFunc_Sint_7)
 (.cond 70 (.exit 0) .skip))
 (.seq (.reg r_slices_partitionEqualCmpFunc_Sint_8)
 (.seq (.reg r_slices_partitionEqualCmpFunc_Sint_9)
 (.reg r_slices_partitionEqualCmpFunc_Sint_10)))))))
abbrev r_slices_partitionEqualCmpFunc_Sint_11 : Reg := ⟨[⟨.mv (.v 5), none, false⟩, ⟨.mv (.t 0), none, false⟩], [(7, 0)], [0, 1, 4, 5, 6], none⟩
abbrev ir_slices_partitionEqualCmpFunc_Sint : Fn := { np := 5, nv := 8, res := [(7, none)], body :=
(.seq (.reg r_slices_partitionEqualCmpFunc_Sint_0)
 (.seq (.reg r_slices_partitionEqualCmpFunc_Sint_1)
 (.seq (.reg r_slices_partitionEqualCmpFunc_Sint_2)
 (.seq (.block 0 (.loop b_slices_partitionEqualCmpFunc_Sint_0))
 (.seq (.reg r_slices_partitionEqualCmpFunc_Sint_11)
 .ret))))) }
/- f110 slices_partitionCmpFunc_Sint : 0:data 1:a 2:b 3:pivot 4:cmp 5:i 6:j 7:newpivot 8:alreadyPartitioned -/
abbrev r_slices_partitionCmpFunc_Sint_0 : Reg := ⟨[⟨.mv (.c (.int (0))), none, false⟩, ⟨.mv (.c (.bool false)), none, false⟩], [], [7, 8], none⟩
abbrev r_slices_partitionCmpFunc_Sint_1 : Reg := ⟨[⟨.mv (.v 0), none, false⟩, ⟨.mv (.v 1), none, false⟩, ⟨.mv (.v 0), none, false⟩, ⟨.mv (.v 3), none, false⟩, ⟨.mv (.v 0), none, false⟩, ⟨.mv (.v 3), none, false⟩, ⟨.iad (.t 1) (.t 0) 1, none, false⟩, ⟨.ld (.t 0) none, none, false⟩, ⟨.mv (.v 0), none, false⟩, ⟨.mv (.v 1), none, false⟩, ⟨.iad (.t 1) (.t 0) 1, none, false⟩, ⟨.ld (.t 0) none, none, false⟩, ⟨.iad (.t 11) (.t 10) 1, none, false⟩, ⟨.st (.t 0) (.t 5) 1, none, false⟩, ⟨.iad (.t 11) (.t 10) 1, none, false⟩, ⟨.st (.t 0) (.t 3) 1, none, false⟩], [], [3], none⟩
abbrev r_slices_partitionCmpFunc_Sint_2 : Reg := ⟨[⟨.mv (.v 1), none, false⟩, ⟨.bin .add (.t 0) (.c (.int (1))), none, false⟩, ⟨.mv (.v 2), none, false⟩, ⟨.bin .sub (.t 0) (.c (.int (1))), none, false⟩, ⟨.mv (.t 2), none, false⟩, ⟨.mv (.t 1), none, false⟩], [(5, 1), (6, 0)], [2], none⟩
abbrev r_slices_partitionCmpFunc_Sint_3 : Reg := ⟨[⟨.mv (.v 5), none, false⟩, ⟨.mv (.v 6), none, false⟩, ⟨.bin .leq (.t 1) (.t 0), none, false⟩, ⟨.mv (.t 0), none, false⟩, ⟨.mv (.v 4), some (.t 0, true), false⟩, ⟨.mv (.v 0), some (.t 1, true), false⟩, ⟨.mv (.v 5), some (.t 2, true), false⟩, ⟨.iad (.t 1) (.t 0) 1, some (.t 3, true), false⟩, ⟨.ld (.t 0) none, some (.t 4, true), false⟩, ⟨.mv (.v 0), some (.t 5, true), false⟩, ⟨.mv (.v 1), some (.t 6, true), false⟩, ⟨.iad (.t 1) (.t 0) 1, some (.t 7, true), false⟩, ⟨.ld (.t 0) none, some (.t 8, true), false⟩, ⟨.cald (.t 8) [(.t 4), (.t 0)], some (.t 9, true), false⟩, ⟨.bin .lss (.t 0) (.c (.int (0))), some (.t 10, true), false⟩, ⟨.pick (.t 11) (.t 0) (.c (.bool false)), none, false⟩], [], [], some (47, 0)⟩
abbrev r_slices_partitionCmpFunc_Sint_4 : Reg := ⟨[⟨.mv (.v 5), none, false⟩, ⟨.bin .add (.t 0) (.c (.int (1))), none, false⟩, ⟨.mv (.t 0), none, false⟩], [(5, 0)], [], none⟩
abbrev b_slices_partitionCmpFunc_Sint_0 : IC := (.seq (.seq (.reg r_slices_partitionCmpFunc_Sint_3)
 (.cond 47 .skip (.exit 0)))
 (.block 1 (.reg r_slices_partitionCmpFunc_Sint_4)))
abbrev r_slices_partitionCmpFunc_Sint_5 : Reg := ⟨[⟨.mv (.v 5), none, false⟩, ⟨.mv (.v 6), none, false⟩, ⟨.bin .leq (.t 1) (.t 0), none, false⟩, ⟨.mv (.t 0), none, false⟩, ⟨.mv (.v 4), some (.t 0, true), false⟩, ⟨.mv (.v 0), some (.t 1, true), false⟩, ⟨.mv (.v 6), some (.t 2, true), false⟩, ⟨.iad (.t 1) (.t 0) 1, some (.t 3, true), false⟩, ⟨.ld (.t 0) none, some (.t 4, true), false⟩, ⟨.mv (.v 0), some (.t 5, true), false⟩, ⟨.mv (.v 1), some (.t 6, true), false⟩, ⟨.iad (.t 1) (.t 0) 1, some (.t 7, true), false⟩, ⟨.ld (.t 0) none, some (.t 8, true), false⟩, ⟨.cald (.t 8) [(.t 4), (.t 0)], some (.t 9, true), false⟩, ⟨.bin .lss (.t 0) (.c (.int (0))), some (.t 10, true), false⟩, ⟨.not (.t 0), some (.t 11, true), false⟩, ⟨.pick (.t 12) (.t 0) (.c (.bool false)), none, false⟩], [], [], some (66, 0)⟩
abbrev r_slices_partitionCmpFunc_Sint_6 : Reg := ⟨[⟨.mv (.v 6), none, false⟩, ⟨.bin .sub (.t 0) (.c (.int (1))), none, false⟩, ⟨.mv (.t 0), none, false⟩], [(6, 0)], [], none⟩
abbrev b_slices_partitionCmpFunc_Sint_2 : IC := (.seq (.seq (.reg r_slices_partitionCmpFunc_Sint_5)
 (.cond 66 .skip (.exit 2)))
 (.block 3 (.reg r_slices_partitionCmpFunc_Sint_6)))
abbrev r_slices_partitionCmpFunc_Sint_7 : Reg := ⟨[⟨.mv (.v 5), none, false⟩, ⟨.mv (.v 6), none, false⟩, ⟨.bin .gtr (.t 1) (.t 0), none, false⟩], [], [], some (71, 0)⟩
abbrev r_slices_partitionCmpFunc_Sint_8 : Reg := ⟨[⟨.mv (.v 0), none, false⟩, ⟨.mv (.v 6), none, false⟩, ⟨.mv (.v 0), none, false⟩, ⟨.mv (.v 1), none, false⟩, ⟨.mv (.v 0), none, false⟩, ⟨.mv (.v 1), none, false⟩, ⟨.iad (.t 1) (.t 0) 1, none, false⟩, ⟨.ld (.t 0) none, none, false⟩, ⟨.mv (.v 0), none, false⟩, ⟨.mv (.v 6), none, false⟩, ⟨.iad (.t 1) (.t 0) 1, none, false⟩, ⟨.ld (.t 0) none, none, false⟩, ⟨.iad (.t 11) (.t 10) 1, none, false⟩, ⟨.st (.t 0) (.t 5) 1, none, false⟩, ⟨.iad (.t 11) (.t 10) 1, none, false⟩, ⟨.st (.t 0) (.t 3) 1, none, false⟩], [], [0, 1, 4, 5], none⟩
abbrev r_slices_partitionCmpFunc_Sint_9 : Reg := ⟨[⟨.mv (.v 6), none, false⟩, ⟨.mv (.t 0), none, false⟩, ⟨.mv (.c (.bool true)), none, false⟩], [(7, 1), (8, 0)], [6], none⟩
abbrev r_slices_partitionCmpFunc_Sint_10 : Reg := ⟨[⟨.mv (.v 0), none, false⟩, ⟨.mv (.v 5), none, false⟩, ⟨.mv (.v 0), none, false⟩, ⟨.mv (.v 6), none, false⟩, ⟨.mv (.v 0), none, false⟩, ⟨.mv (.v 6), none, false⟩, ⟨.iad (.t 1) (.t 0) 1, none, false⟩, ⟨.ld (.t 0) none, none, false⟩, ⟨.mv (.v 0), none, false⟩, ⟨.mv (.v 5), none, false⟩, ⟨.iad (.t 1) (.t 0) 1, none, false⟩, ⟨.ld (.t 0) none, none, false⟩, ⟨.iad (.t 11) (.t 10) 1, none, false⟩, ⟨.st (.t 0) (.t 5) 1, none, false⟩, ⟨.iad (.t 11) (.t 10) 1, none, false⟩, ⟨.st (.t 0) (.t 3) 1, none, false⟩], [], [], none⟩
abbrev r_slices_partitionCmpFunc_Sint_11 : Reg := ⟨[⟨.mv (.v 5), none, false⟩, ⟨.bin .add (.t 0) (.c (.int (1))), none, false⟩, ⟨.mv (.t 0), none, false⟩], [(5, 0)], [], none⟩
abbrev r_slices_partitionCmpFunc_Sint_12 : Reg := ⟨[⟨.mv (.v 6), none, false⟩, ⟨.bin .sub (.t 0) (.c (.int (1))), none, false⟩, ⟨.mv (.t 0), none, false⟩], [(6, 0)], [], none⟩
abbrev r_slices_partitionCmpFunc_Sint_13 : Reg := ⟨[⟨.mv (.v 5), none, false⟩, ⟨.mv (.v 6), none, false⟩, ⟨.bin .leq (.t 1) (.t 0), none, false⟩, ⟨.mv (.t 0), none, false⟩, ⟨.mv (.v 4), some (.t 0, true), false⟩, ⟨.mv (.v 0), some (.t 1, true), false⟩, ⟨.mv (.v 5), some (.t 2, true), false⟩, ⟨.iad (.t 1) (.t 0) 1, some (.t 3, true), false⟩, ⟨.ld (.t 0) none, some (.t 4, true), false⟩, ⟨.mv (.v 0), some (.t 5, true), false⟩, ⟨.mv (.v 1), some (.t 6, true), false⟩, ⟨.iad (.t 1) (.t 0) 1, some (.t 7, true), false⟩, ⟨.ld (.t 0) none, some (.t 8, true), false⟩, ⟨.cald (.t 8) [(.t 4), (.t 0)], some (.t 9, true), false⟩, ⟨.bin .lss (.t 0) (.c (.int (0))), some (.t 10, true), false⟩, ⟨.pick (.t 11) (.t 0) (.c (.bool false)), none, false⟩], [], [], some (120, 0)⟩
abbrev r_slices_partitionCmpFunc_Sint_14 : Reg := ⟨[⟨.mv (.v 5), none, false⟩, ⟨.bin .add (.t 0) (.c (.int (1))), none, false⟩, ⟨.mv (.t 0), none, false⟩], [(5, 0)], [], none⟩
abbrev b_slices_partitionCmpFunc_Sint_6 : IC := (.seq (.seq (.reg r_slices_partitionCmpFunc_Sint_13)
 (.cond 120 .skip (.exit 6)))
 (.block 7 (.reg r_slices_partitionCmpFunc_Sint_14)))
abbrev r_slices_partitionCmpFunc_Sint_15 : Reg := ⟨[⟨.mv (.v 5), none, false⟩, ⟨.mv (.v 6), none, false⟩, ⟨.bin .leq (.t 1) (.t 0), none, false⟩, ⟨.mv (.t 0), none, false⟩, ⟨.mv (.v 4), some (.t 0, true), false⟩, ⟨.mv (.v 0), some (.t 1, true), false⟩, ⟨.mv (.v 6), some (.t 2, true), false⟩, ⟨.iad (.t 1) (.t 0) 1, some (.t 3, true), false⟩, ⟨.ld (.t 0) none, some (.t 4, true), false⟩, ⟨.mv (.v 0), some (.t 5, true), false⟩, ⟨.mv (.v 1), some (.t 6, true), false⟩, ⟨.iad (.t 1) (.t 0) 1, some (.t 7, true), false⟩, ⟨.ld (.t 0) none, some (.t 8, true), false⟩, ⟨.cald (.t 8) [(.t 4), (.t 0)], some (.t 9, true), false⟩, ⟨.bin .lss (.t 0) (.c (.int (0))), some (.t 10, true), false⟩, ⟨.not (.t 0), some (.t 11, true), false⟩, ⟨.pick (.t 12) (.t 0) (.c (.bool false)), none, false⟩], [], [], some (139, 0)⟩
abbrev r_slices_partitionCmpFunc_Sint_16 : Reg := ⟨[⟨.mv (.v 6), none, false⟩, ⟨.bin .sub (.t 0) (.c (.int (1))), none, false⟩, ⟨.mv (.t 0), none, false⟩], [(6, 0)], [], none⟩
abbrev b_slices_partitionCmpFunc_Sint_8 : IC := (.seq (.seq (.reg r_slices_partitionCmpFunc_Sint_15)
 (.cond 139 .skip (.exit 8)))
 (.block 9 (.reg r_slices_partitionCmpFunc_Sint_16)))
abbrev r_slices_partitionCmpFunc_Sint_17 : Reg := ⟨[⟨.mv (.v 5), none, false⟩, ⟨.mv (.v 6), none, false⟩, ⟨.bin .gtr (.t 1) (.t 0), none, false⟩], [], [], some (144, 0)⟩
abbrev r_slices_partitionCmpFunc_Sint_18 : Reg := ⟨[⟨.mv (.v 0), none, false⟩, ⟨.mv (.v 5), none, false⟩, ⟨.mv (.v 0), none, false⟩, ⟨.mv (.v 6), none, false⟩, ⟨.mv (.v 0), none, false⟩, ⟨.mv (.v 6), none, false⟩, ⟨.iad (.t 1) (.t 0) 1, none, false⟩, ⟨.ld (.t 0) none, none, false⟩, ⟨.mv (.v 0), none, false⟩, ⟨.mv (.v 5), none, false⟩, ⟨.iad (.t 1) (.t 0) 1, none, false⟩, ⟨.ld (.t 0) none, none, false⟩, ⟨.iad (.t 11) (.t 10) 1, none, false⟩, ⟨.st (.t 0) (.t 5) 1, none, false⟩, ⟨.iad (.t 11) (.t 10) 1, none, false⟩, ⟨.st (.t 0) (.t 3) 1, none, false⟩], [], [], none⟩
abbrev r_slices_partitionCmpFunc_Sint_19 : Reg := ⟨[⟨.mv (.v 5), none, false⟩, ⟨.bin .add (.t 0) (.c (.int (1))), none, false⟩, ⟨.mv (.t 0), none, false⟩], [(5, 0)], [], none⟩
abbrev r_slices_partitionCmpFunc_Sint_20 : Reg := ⟨[⟨.mv (.v 6), none, false⟩, ⟨.bin .sub (.t 0) (.c (.int (1))), none, false⟩, ⟨.mv (.t 0), none, false⟩], [(6, 0)], [], none⟩
abbrev b_slices_partitionCmpFunc_Sint_4 : IC := (.block 5 (.seq (.block 6 (.loop b_slices_partitionCmpFunc_Sint_6))
 (.seq (.block 8 (.loop b_slices_partitionCmpFunc_Sint_8))
 (.seq (.seq (.reg r_slices_partitionCmpFunc_Sint_17)
 (.cond 144 (.exit 4) .skip))
 (.seq (.reg r_slices_partitionCmpFunc_Sint_18)
 (.seq (.reg r_slices_partitionCmpFunc_Sint_19)
 (.reg r_slices_partitionCmpFunc_Sint_20)))))))
abbrev r_slices_partitionCmpFunc_Sint_21 : Reg := ⟨[⟨.mv (.v 0), none, false⟩, ⟨.mv (.v 6), none, false⟩, ⟨.mv (.v 0), none, false⟩, ⟨.mv (.v 1), none, false⟩, ⟨.mv (.v 0), none, false⟩, ⟨.mv (.v 1), none, false⟩, ⟨.iad (.t 1) (.t 0) 1, none, false⟩, ⟨.ld (.t 0) none, none, false⟩, ⟨.mv (.v 0), none, false⟩, ⟨.mv (.v 6), none, false⟩, ⟨.iad (.t 1) (.t 0) 1, none, false⟩, ⟨.ld (.t 0) none, none, false⟩, ⟨.iad (.t 11) (.t 10) 1, none, false⟩, ⟨.st (.t 0) (.t 5) 1, none, false⟩, ⟨.iad (.t 11) (.t 10) 1, none, false⟩, ⟨.st (.t 0) (.t 3) 1, none, false⟩], [], [0, 1, 4, 5], none⟩
abbrev r_slices_partitionCmpFunc_Sint_22 : Reg := ⟨[⟨.mv (.v 6), none, false⟩, ⟨.mv (.t 0), none, false⟩, ⟨.mv (.c (.bool false)), none, false⟩], [(7, 1), (8, 0)], [6], none⟩
abbrev ir_slices_partitionCmpFunc_Sint : Fn := { np := 5, nv := 9, res := [(7, none), (8, none)], body :=
(.seq (.reg r_slices_partitionCmpFunc_Sint_0)
 (.seq (.reg r_slices_partitionCmpFunc_Sint_1)
 (.seq (.reg r_slices_partitionCmpFunc_Sint_2)
 (.seq (.block 0 (.loop b_slices_partitionCmpFunc_Sint_0))
 (.seq (.block 2 (.loop b_slices_partitionCmpFunc_Sint_2))
 (.seq (.seq (.reg r_slices_partitionCmpFunc_Sint_7)
 (.cond 71 (.seq (.reg r_slices_partitionCmpFunc_Sint_8)
 (.seq (.reg r_slices_partitionCmpFunc_Sint_9)
 .ret)) .skip))
 (.seq (.reg r_slices_partitionCmpFunc_Sint_10)
 (.seq (.reg r_slices_partitionCmpFunc_Sint_11)
 (.seq (.reg r_slices_partitionCmpFunc_Sint_12)
 (.seq (.block 4 (.loop b_slices_partitionCmpFunc_Sint_4))
 (.seq (.reg r_slices_partitionCmpFunc_Sint_21)
 (.seq (.reg r_slices_partitionCmpFunc_Sint_22)
 .ret)))))))))))) }
/- f111 math_bits_Len32 : 0:x 1:n -/
abbrev r_math_bits_Len32_0 : Reg := ⟨[⟨.mv (.c (.int (0))), none, false⟩], [(1, 0)], [], none⟩
abbrev r_math_bits_Len32_3 : Reg := ⟨[⟨.mv (.c (.int (16))), none, false⟩], [(1, 0)], [], none⟩
abbrev r_math_bits_Len32_6 : Reg := ⟨[⟨.mv (.v 1), none, false⟩, ⟨.bin .add (.t 0) (.c (.int (8))), none, false⟩, ⟨.mv (.t 0), none, false⟩], [(1, 0)], [], none⟩
abbrev ir_math_bits_Len32 : Fn := { np := 1, nv := 2, res := [(1, none)], body :=
(.seq (.reg r_math_bits_Len32_0)
 (.seq (.seq .bad
 (.cond 4 (.seq .bad
 (.reg r_math_bits_Len32_3)) .skip))
 (.seq (.seq .bad
 (.cond 8 (.seq .bad
 (.reg r_math_bits_Len32_6)) .skip))
 (.seq .bad
 .ret)))) }
/- f112 math_bits_Len64 : 0:x 1:n -/
abbrev r_math_bits_Len64_0 : Reg := ⟨[⟨.mv (.c (.int (0))), none, false⟩], [(1, 0)], [], none⟩
abbrev r_math_bits_Len64_3 : Reg := ⟨[⟨.mv (.c (.int (32))), none, false⟩], [(1, 0)], [], none⟩
abbrev r_math_bits_Len64_6 : Reg := ⟨[⟨.mv (.v 1), none, false⟩, ⟨.bin .add (.t 0) (.c (.int (16))), none, false⟩, ⟨.mv (.t 0), none, false⟩], [(1, 0)], [], none⟩
abbrev r_math_bits_Len64_9 : Reg := ⟨[⟨.mv (.v 1), none, false⟩, ⟨.bin .add (.t 0) (.c (.int (8))), none, false⟩, ⟨.mv (.t 0), none, false⟩], [(1, 0)], [], none⟩
abbrev ir_math_bits_Len64 : Fn := { np := 1, nv := 2, res := [(1, none)], body :=
(.seq (.reg r_math_bits_Len64_0)
 (.seq (.seq .bad
 (.cond 4 (.seq .bad
 (.reg r_math_bits_Len64_3)) .skip))
 (.seq (.seq .bad
 (.cond 8 (.seq .bad
 (.reg r_math_bits_Len64_6)) .skip))
 (.seq (.seq .bad
 (.cond 14 (.seq .bad
 (.reg r_math_bits_Len64_9)) .skip))
 (.seq .bad
 .ret))))) }
/- f113 cmp_isNaN_int : 0:x 1:_ -/
abbrev r_cmp_isNaN_int_0 : Reg := ⟨[⟨.mv (.c (.bool false)), none, false⟩], [], [1], none⟩
abbrev r_cmp_isNaN_int_1 : Reg := ⟨[⟨.mv (.v 0), none, false⟩, ⟨.mv (.v 0), none, false⟩, ⟨.bin .neq (.t 1) (.t 0), none, false⟩, ⟨.mv (.t 0), none, false⟩], [(1, 0)], [0], none⟩
abbrev ir_cmp_isNaN_int : Fn := { np := 1, nv := 2, res := [(1, none)], body :=
(.seq (.reg r_cmp_isNaN_int_0)
 (.seq (.reg r_cmp_isNaN_int_1)
 .ret)) }
/- f114 slices_siftDownCmpFunc_Sint : 0:data 1:lo 2:hi 3:first 4:cmp 5:root 6:child -/
abbrev r_slices_siftDownCmpFunc_Sint_0 : Reg := ⟨[⟨.mv (.v 1), none, false⟩, ⟨.mv (.t 0), none, false⟩], [(5, 0)], [1], none⟩
abbrev r_slices_siftDownCmpFunc_Sint_1 : Reg := ⟨[⟨.mv (.v 5), none, false⟩, ⟨.bin .mul (.c (.int (2))) (.t 0), none, false⟩, ⟨.bin .add (.t 0) (.c (.int (1))), none, false⟩, ⟨.mv (.t 0), none, false⟩], [(6, 0)], [], none⟩
abbrev r_slices_siftDownCmpFunc_Sint_2 : Reg := ⟨[⟨.mv (.v 6), none, false⟩, ⟨.mv (.v 2), none, false⟩, ⟨.bin .geq (.t 1) (.t 0), none, false⟩], [], [], some (18, 0)⟩
abbrev r_slices_siftDownCmpFunc_Sint_3 : Reg := ⟨[⟨.mv (.v 6), none, false⟩, ⟨.bin .add (.t 0) (.c (.int (1))), none, false⟩, ⟨.mv (.v 2), none, false⟩, ⟨.bin .lss (.t 1) (.t 0), none, false⟩, ⟨.mv (.t 0), none, false⟩, ⟨.mv (.v 4), some (.t 0, true), false⟩, ⟨.mv (.v 0), some (.t 1, true), false⟩, ⟨.mv (.v 3), some (.t 2, true), false⟩, ⟨.mv (.v 6), some (.t 3, true), false⟩, ⟨.bin .add (.t 1) (.t 0), some (.t 4, true), false⟩, ⟨.iad (.t 3) (.t 0) 1, some (.t 5, true), false⟩, ⟨.ld (.t 0) none, some (.t 6, true), false⟩, ⟨.mv (.v 0), some (.t 7, true), false⟩, ⟨.mv (.v 3), some (.t 8, true), false⟩, ⟨.mv (.v 6), some (.t 9, true), false⟩, ⟨.bin .add (.t 1) (.t 0), some (.t 10, true), false⟩, ⟨.bin .add (.t 0) (.c (.int (1))), some (.t 11, true), false⟩, ⟨.iad (.t 4) (.t 0) 1, some (.t 12, true), false⟩, ⟨.ld (.t 0) none, some (.t 13, true), false⟩, ⟨.cald (.t 13) [(.t 7), (.t 0)], some (.t 14, true), false⟩, ⟨.bin .lss (.t 0) (.c (.int (0))), some (.t 15, true), false⟩, ⟨.pick (.t 16) (.t 0) (.c (.bool false)), none, false⟩], [], [], some (40, 0)⟩
abbrev r_slices_siftDownCmpFunc_Sint_4 : Reg := ⟨[⟨.mv (.v 6), none, false⟩, ⟨.bin .add (.t 0) (.c (.int (1))), none, false⟩, ⟨.mv (.t 0), none, false⟩], [(6, 0)], [], none⟩
abbrev r_slices_siftDownCmpFunc_Sint_5 : Reg := ⟨[⟨.mv (.v 4), none, false⟩, ⟨.mv (.v 0), none, false⟩, ⟨.mv (.v 3), none, false⟩, ⟨.mv (.v 5), none, false⟩, ⟨.bin .add (.t 1) (.t 0), none, false⟩, ⟨.iad (.t 3) (.t 0) 1, none, false⟩, ⟨.ld (.t 0) none, none, false⟩, ⟨.mv (.v 0), none, false⟩, ⟨.mv (.v 3), none, false⟩, ⟨.mv (.v 6), none, false⟩, ⟨.bin .add (.t 1) (.t 0), none, false⟩, ⟨.iad (.t 3) (.t 0) 1, none, false⟩, ⟨.ld (.t 0) none, none, false⟩, ⟨.cald (.t 12) [(.t 6), (.t 0)], none, false⟩, ⟨.bin .lss (.t 0) (.c (.int (0))), none, false⟩, ⟨.not (.t 0), none, false⟩], [], [], some (58, 0)⟩
abbrev r_slices_siftDownCmpFunc_Sint_6 : Reg := ⟨[⟨.mv (.v 0), none, false⟩, ⟨.mv (.v 3), none, false⟩, ⟨.mv (.v 5), none, false⟩, ⟨.bin .add (.t 1) (.t 0), none, false⟩, ⟨.mv (.v 0), none, false⟩, ⟨.mv (.v 3), none, false⟩, ⟨.mv (.v 6), none, false⟩, ⟨.bin .add (.t 1) (.t 0), none, false⟩, ⟨.mv (.v 0), none, false⟩, ⟨.mv (.v 3), none, false⟩, ⟨.mv (.v 6), none, false⟩, ⟨.bin .add (.t 1) (.t 0), none, false⟩, ⟨.iad (.t 3) (.t 0) 1, none, false⟩, ⟨.ld (.t 0) none, none, false⟩, ⟨.mv (.v 0), none, false⟩, ⟨.mv (.v 3), none, false⟩, ⟨.mv (.v 5), none, false⟩, ⟨.bin .add (.t 1) (.t 0), none, false⟩, ⟨.iad (.t 3) (.t 0) 1, none, false⟩, ⟨.ld (.t 0) none, none, false⟩, ⟨.iad (.t 19) (.t 16) 1, none, false⟩, ⟨.st (.t 0) (.t 7) 1, none, false⟩, ⟨.iad (.t 17) (.t 14) 1, none, false⟩, ⟨.st (.t 0) (.t 3) 1, none, false⟩], [], [5], none⟩
abbrev r_slices_siftDownCmpFunc_Sint_7 : Reg := ⟨[⟨.mv (.v 6), none, false⟩, ⟨.mv (.t 0), none, false⟩], [(5, 0)], [6], none⟩
abbrev b_slices_siftDownCmpFunc_Sint_0 : IC := (.block 1 (.seq (.reg r_slices_siftDownCmpFunc_Sint_1)
 (.seq (.seq (.reg r_slices_siftDownCmpFunc_Sint_2)
 (.cond 18 (.exit 0) .skip))
 (.seq (.seq (.reg r_slices_siftDownCmpFunc_Sint_3)
 (.cond 40 (.reg r_slices_siftDownCmpFunc_Sint_4) .skip))
 (.seq (.seq (.reg r_slices_siftDownCmpFunc_Sint_5)
 (.cond 58 .ret .skip))
 (.seq (.reg r_slices_siftDownCmpFunc_Sint_6)
 (.reg r_slices_siftDownCmpFunc_Sint_7)))))))
abbrev ir_slices_siftDownCmpFunc_Sint : Fn := { np := 5, nv := 7, res := [], body :=
(.seq (.reg r_slices_siftDownCmpFunc_Sint_0)
 (.block 0 (.loop b_slices_siftDownCmpFunc_Sint_0))) }
/- f115 slices_nextPowerOfTwo : 0:length 1:_ -/
abbrev r_slices_nextPowerOfTwo_0 : Reg := ⟨[⟨.mv (.c (.ik 7 (0))), none, false⟩], [], [1], none⟩
abbrev ir_slices_nextPowerOfTwo : Fn := { np := 1, nv := 2, res := [(1, none)], body :=
(.seq (.reg r_slices_nextPowerOfTwo_0)
 (.seq .bad
 .ret)) }
/- f116 slices_xorshift_Next : 0:r 1:_ -/
abbrev r_slices_xorshift_Next_0 : Reg := ⟨[⟨.mv (.c (.ik 7 (0))), none, false⟩], [], [1], none⟩
abbrev r_slices_xorshift_Next_4 : Reg := ⟨[⟨.mv (.v 0), none, false⟩, ⟨.nck (.t 0), none, false⟩, ⟨.ld (.t 0) none, none, false⟩, ⟨.mv (.t 0), none, false⟩], [(1, 0)], [], none⟩
abbrev ir_slices_xorshift_Next : Fn := { np := 1, nv := 2, res := [(1, none)], body :=
(.seq (.reg r_slices_xorshift_Next_0)
 (.seq .bad
 (.seq .bad
 (.seq .bad
 (.seq (.reg r_slices_xorshift_Next_4)
 .ret))))) }
/- f117 slices_medianAdjacentCmpFunc_Sint : 0:data 1:a 2:swaps 3:cmp 4:_ -/
abbrev r_slices_medianAdjacentCmpFunc_Sint_0 : Reg := ⟨[⟨.mv (.c (.int (0))), none, false⟩], [], [4], none⟩
abbrev r_slices_medianAdjacentCmpFunc_Sint_1 : Reg := ⟨[⟨.mv (.v 0), none, false⟩, ⟨.mv (.v 1), none, false⟩, ⟨.bin .sub (.t 0) (.c (.int (1))), none, false⟩, ⟨.mv (.v 1), none, false⟩, ⟨.mv (.v 1), none, false⟩, ⟨.bin .add (.t 0) (.c (.int (1))), none, false⟩, ⟨.mv (.v 2), none, false⟩, ⟨.mv (.v 3), none, false⟩, ⟨.cal F_slices_medianCmpFunc_Sint [(.t 7), (.t 5), (.t 4), (.t 2), (.t 1), (.t 0)], none, false⟩, ⟨.mv (.t 0), none, false⟩], [(4, 0)], [0, 1, 2, 3], none⟩
abbrev ir_slices_medianAdjacentCmpFunc_Sint : Fn := { np := 4, nv := 5, res := [(4, none)], body :=
(.seq (.reg r_slices_medianAdjacentCmpFunc_Sint_0)
 (.seq (.reg r_slices_medianAdjacentCmpFunc_Sint_1)
 .ret)) }
/- f118 slices_medianCmpFunc_Sint : 0:data 1:a 2:b 3:c 4:swaps 5:cmp 6:_ -/
abbrev r_slices_medianCmpFunc_Sint_0 : Reg := ⟨[⟨.mv (.c (.int (0))), none, false⟩], [], [6], none⟩
abbrev r_slices_medianCmpFunc_Sint_1 : Reg := ⟨[⟨.mv (.v 0), none, false⟩, ⟨.mv (.v 1), none, false⟩, ⟨.mv (.v 2), none, false⟩, ⟨.mv (.v 4), none, false⟩, ⟨.mv (.v 5), none, false⟩, ⟨.cal F_slices_order2CmpFunc_Sint [(.t 4), (.t 3), (.t 2), (.t 1), (.t 0)], none, false⟩, ⟨.mv (.t 0), none, false⟩, ⟨.ext (.t 0) 0, none, false⟩, ⟨.ext (.t 1) 1, none, false⟩, ⟨.mv (.t 1), none, false⟩, ⟨.mv (.t 1), none, false⟩], [(1, 1), (2, 0)], [], none⟩
abbrev r_slices_medianCmpFunc_Sint_2 : Reg := ⟨[⟨.mv (.v 0), none, false⟩, ⟨.mv (.v 2), none, false⟩, ⟨.mv (.v 3), none, false⟩, ⟨.mv (.v 4), none, false⟩, ⟨.mv (.v 5), none, false⟩, ⟨.cal F_slices_order2CmpFunc_Sint [(.t 4), (.t 3), (.t 2), (.t 1), (.t 0)], none, false⟩, ⟨.mv (.t 0), none, false⟩, ⟨.ext (.t 0) 0, none, false⟩, ⟨.ext (.t 1) 1, none, false⟩, ⟨.mv (.t 1), none, false⟩, ⟨.mv (.t 1), none, false⟩], [(2, 1)], [3], none⟩
abbrev r_slices_medianCmpFunc_Sint_3 : Reg := ⟨[⟨.mv (.v 0), none, false⟩, ⟨.mv (.v 1), none, false⟩, ⟨.mv (.v 2), none, false⟩, ⟨.mv (.v 4), none, false⟩, ⟨.mv (.v 5), none, false⟩, ⟨.cal F_slices_order2CmpFunc_Sint [(.t 4), (.t 3), (.t 2), (.t 1), (.t 0)], none, false⟩, ⟨.mv (.t 0), none, false⟩, ⟨.ext (.t 0) 0, none, false⟩, ⟨.ext (.t 1) 1, none, false⟩, ⟨.mv (.t 1), none, false⟩, ⟨.mv (.t 1), none, false⟩], [(2, 0)], [0, 1, 4, 5], none⟩
abbrev r_slices_medianCmpFunc_Sint_4 : Reg := ⟨[⟨.mv (.v 2), none, false⟩, ⟨.mv (.t 0), none, false⟩], [(6, 0)], [2], none⟩
abbrev ir_slices_medianCmpFunc_Sint : Fn := { np := 6, nv := 7, res := [(6, none)], body :=
(.seq (.reg r_slices_medianCmpFunc_Sint_0)
 (.seq (.reg r_slices_medianCmpFunc_Sint_1)
 (.seq (.reg r_slices_medianCmpFunc_Sint_2)
 (.seq (.reg r_slices_medianCmpFunc_Sint_3)
 (.seq (.reg r_slices_medianCmpFunc_Sint_4)
 .ret))))) }
/- f119 slices_order2CmpFunc_Sint : 0:data 1:a 2:b 3:swaps 4:cmp 5:_ 6:_ -/
abbrev r_slices_order2CmpFunc_Sint_0 : Reg := ⟨[⟨.mv (.c (.int (0))), none, false⟩, ⟨.mv (.c (.int (0))), none, false⟩], [], [5, 6], none⟩
abbrev r_slices_order2CmpFunc_Sint_1 : Reg := ⟨[⟨.mv (.v 4), none, false⟩, ⟨.mv (.v 0), none, false⟩, ⟨.mv (.v 2), none, false⟩, ⟨.iad (.t 1) (.t 0) 1, none, false⟩, ⟨.ld (.t 0) none, none, false⟩, ⟨.mv (.v 0), none, false⟩, ⟨.mv (.v 1), none, false⟩, ⟨.iad (.t 1) (.t 0) 1, none, false⟩, ⟨.ld (.t 0) none, none, false⟩, ⟨.cald (.t 8) [(.t 4), (.t 0)], none, false⟩, ⟨.bin .lss (.t 0) (.c (.int (0))), none, false⟩], [], [0, 4], some (22, 0)⟩
abbrev r_slices_order2CmpFunc_Sint_2 : Reg := ⟨[⟨.mv (.v 3), none, false⟩, ⟨.nck (.t 0), none, false⟩, ⟨.ld (.t 0) none, none, false⟩, ⟨.bin .add (.t 0) (.c (.int (1))), none, false⟩, ⟨.nck (.t 3), none, false⟩, ⟨.st (.t 0) (.t 1) 1, none, false⟩], [], [3], none⟩
abbrev r_slices_order2CmpFunc_Sint_3 : Reg := ⟨[⟨.mv (.v 2), none, false⟩, ⟨.mv (.v 1), none, false⟩, ⟨.mv (.t 1), none, false⟩, ⟨.mv (.t 1), none, false⟩], [(5, 1), (6, 0)], [1, 2], none⟩
abbrev r_slices_order2CmpFunc_Sint_4 : Reg := ⟨[⟨.mv (.v 1), none, false⟩, ⟨.mv (.v 2), none, false⟩, ⟨.mv (.t 1), none, false⟩, ⟨.mv (.t 1), none, false⟩], [(5, 1), (6, 0)], [1, 2, 3], none⟩
abbrev ir_slices_order2CmpFunc_Sint : Fn := { np := 5, nv := 7, res := [(5, none), (6, none)], body :=
(.seq (.reg r_slices_order2CmpFunc_Sint_0)
 (.seq (.seq (.reg r_slices_order2CmpFunc_Sint_1)
 (.cond 22 (.seq (.reg r_slices_order2CmpFunc_Sint_2)
 (.seq (.reg r_slices_order2CmpFunc_Sint_3)
 .ret)) .skip))
 (.seq (.reg r_slices_order2CmpFunc_Sint_4)
 .ret))) }
end Ab
