/- The functions of the program as small texts, printed by a tool of mine. Condition: none. -/
import Derived.Test.YtkchnhfeebkogaaIr0
set_option linter.all false
namespace Ab
abbrev zFDb : Reg := ⟨[.p (.bxi (.v 0)), .p (.alc [.bool false, .snil] (some 2))], [(5, 1), (13, 0)], [0], none⟩
abbrev z5vC : Reg := ⟨[.v 1, .v 2, .p (.iad (.t 1) (.t 0) 1), .p (.ld (.t 0) none), .v 3, .p (.iad (.t 1) (.t 0) 2), .p (.ld (.t 0) (some 2)), .p (.alc [.bool false, .snil] (some 2)), .p (.st (.t 0) (.t 1) 2)], [(7, 1)], [], none⟩
abbrev zwKA : Reg := ⟨[.p (.mv (.c (.int (0))))], [(4, 0)], [], none⟩
abbrev zpuc : Reg := ⟨[.v 4, .p (.fad (.v 5) 1 none), .p (.ldi (.t 0) none), .p (.bin .lss (.t 2) (.t 0))], [], [], some (27, 0)⟩
abbrev zKT6 : Reg := ⟨[.v 1, .p (.fad (.v 5) 8 none), .p (.ldi (.t 0) none), .v 2, .p (.iad (.t 1) (.t 0) 1), .p (.ldi (.t 0) none), .v 4, .p (.iad (.t 1) (.t 0) 1), .p (.ldi (.t 0) none), .p (.iad (.t 8) (.t 0) 1), .p (.ld (.t 0) none), .v 3, .p (.iad (.t 1) (.t 0) 2), .p (.ld (.t 0) (some 2)), .p (.alc0 2), .p (.ini (.t 0) (.t 1) 2)], [(6, 0)], [], none⟩
abbrev zWzk : Reg := ⟨[.p (.fad (.v 6) 0 none), .p (.ldi (.t 0) none)], [], [], some (45, 0)⟩
abbrev zMCG : Reg := ⟨[.p (.ld (.v 7) (some 2)), .p (.fad (.v 5) 0 none), .p (.ldi (.t 0) none), .v 4, .p (.bin .add (.t 1) (.t 0)), .p (.liti [(.t 0)] 1), .p (.fad (.v 6) 1 none), .p (.ldi (.t 0) none), .p (.liti [(.t 2), (.t 0)] 1), .p (.cal z4HM [(.t 0)]), .p (.cal zZwr [(.t 9), (.t 0)]), .p (.st (.v 7) (.t 0) 2)], [], [6], none⟩
abbrev zt9t : Reg := ⟨[.v 4, .p (.bin .add (.t 0) (.c (.int (1)))), .t 0], [(4, 0)], [6], none⟩
abbrev z4JE : IC := (.seq (.seq (.reg zpuc)
 (.cond 27 .skip (.exit 0)))
 (.seq (.block 1 (.seq (.reg zKT6)
 (.seq (.reg zWzk)
 (.cond 45 (.reg zMCG) .skip))))
 (.reg zt9t)))
abbrev ziAa : Reg := ⟨[.p (.mv (.c (.int (0))))], [(8, 0)], [4], none⟩
abbrev zTJj : Reg := ⟨[.v 8, .p (.fad (.v 5) 0 none), .p (.ldi (.t 0) none), .p (.bin .lss (.t 2) (.t 0))], [], [], some (60, 0)⟩
abbrev zoCo : Reg := ⟨[.p (.mv (.c (.int (0))))], [(9, 0)], [], none⟩
abbrev zLiw : Reg := ⟨[.v 9, .p (.fad (.v 5) 5 none), .p (.ldi (.t 0) none), .p (.len (.t 0)), .p (.bin .lss (.t 3) (.t 0))], [], [], some (67, 0)⟩
abbrev zZ7Q : Reg := ⟨[.v 1, .p (.fad (.v 5) 6 none), .p (.ldi (.t 0) none), .v 2, .p (.iad (.t 1) (.t 0) 1), .p (.ldi (.t 0) none), .v 8, .p (.iad (.t 1) (.t 0) 1), .p (.ldi (.t 0) none), .p (.iad (.t 8) (.t 0) 1), .p (.ld (.t 0) none), .v 9, .p (.iad (.t 1) (.t 0) 2), .p (.ld (.t 0) (some 2)), .p (.alc0 2), .p (.ini (.t 0) (.t 1) 2)], [(11, 0)], [], none⟩
abbrev zotF : Reg := ⟨[.p (.mv (.c (.int (0))))], [(10, 0)], [], none⟩
abbrev zats : Reg := ⟨[.v 10, .p (.fad (.v 5) 2 none), .p (.ldi (.t 0) none), .p (.bin .lss (.t 2) (.t 0)), .t 0, .x 0 (.fad (.v 11) 0 none), .x 1 (.ldi (.t 0) none), .p (.pick (.t 2) (.t 0) (.c (.bool false)))], [], [], some (91, 0)⟩
abbrev zy9z : Reg := ⟨[.v 1, .p (.fad (.v 5) 9 none), .p (.ldi (.t 0) none), .v 9, .p (.iad (.t 1) (.t 0) 1), .p (.ldi (.t 0) none), .p (.fad (.v 5) 7 none), .p (.ldi (.t 0) none), .v 2, .p (.iad (.t 1) (.t 0) 1), .p (.ldi (.t 0) none), .v 8, .p (.iad (.t 1) (.t 0) 1), .p (.ldi (.t 0) none), .p (.iad (.t 8) (.t 0) 1), .p (.ldi (.t 0) none), .v 10, .p (.iad (.t 1) (.t 0) 1), .p (.ldi (.t 0) none), .p (.iad (.t 18) (.t 0) 1), .p (.ld (.t 0) none), .v 3, .p (.iad (.t 1) (.t 0) 2), .p (.ld (.t 0) (some 2)), .p (.alc0 2), .p (.ini (.t 0) (.t 1) 2)], [(12, 0)], [], none⟩
abbrev zWI5 : Reg := ⟨[.p (.fad (.v 12) 0 none), .p (.ldi (.t 0) none)], [], [], some (119, 0)⟩
abbrev zAY2 : Reg := ⟨[.p (.ld (.v 7) (some 2)), .v 8, .p (.liti [(.t 0)] 1), .p (.fad (.v 11) 1 none), .p (.ldi (.t 0) none), .p (.fad (.v 5) 0 none), .p (.ldi (.t 0) none), .p (.fad (.v 5) 1 none), .p (.ldi (.t 0) none), .p (.bin .add (.t 2) (.t 0)), .v 10, .p (.bin .add (.t 1) (.t 0)), .p (.liti [(.t 0)] 1), .p (.fad (.v 12) 1 none), .p (.ldi (.t 0) none), .p (.liti [(.t 12), (.t 10), (.t 2), (.t 0)] 1), .p (.cal z4HM [(.t 0)]), .p (.cal zZwr [(.t 16), (.t 0)]), .p (.st (.v 7) (.t 0) 2)], [], [12], none⟩
abbrev zA91 : Reg := ⟨[.v 10, .p (.bin .add (.t 0) (.c (.int (1)))), .t 0], [(10, 0)], [12], none⟩
abbrev ztNl : IC := (.seq (.seq (.reg zats)
 (.cond 91 .skip (.exit 6)))
 (.seq (.block 7 (.seq (.reg zy9z)
 (.seq (.reg zWI5)
 (.cond 119 (.reg zAY2) .skip))))
 (.reg zA91)))
abbrev zYad : Reg := ⟨[.v 9, .p (.bin .add (.t 0) (.c (.int (1)))), .t 0], [(9, 0)], [10, 11], none⟩
abbrev zd0w : IC := (.seq (.seq (.reg zLiw)
 (.cond 67 .skip (.exit 4)))
 (.seq (.block 5 (.seq (.reg zZ7Q)
 (.seq (.reg zotF)
 (.block 6 (.loop ztNl)))))
 (.reg zYad)))
abbrev zUcu : Reg := ⟨[.v 8, .p (.bin .add (.t 0) (.c (.int (1)))), .t 0], [(8, 0)], [9], none⟩
abbrev zlYb : IC := (.seq (.seq (.reg zTJj)
 (.cond 60 .skip (.exit 2)))
 (.seq (.block 3 (.seq (.reg zoCo)
 (.block 4 (.loop zd0w))))
 (.reg zUcu)))
abbrev zNP1 : Reg := ⟨[.p (.ld (.v 7) (some 2)), .p (.st (.v 13) (.t 0) 2)], [], [1, 2, 3, 5, 7, 8], none⟩
abbrev zSqi : Fn := { np := 4, nv := 14, res := [(13, some (some 2))], body :=
(.seq (.reg zFDb)
 (.seq (.reg z5vC)
 (.seq (.seq (.reg zwKA)
 (.block 0 (.loop z4JE)))
 (.seq (.seq (.reg ziAa)
 (.block 2 (.loop zlYb)))
 (.seq (.reg zNP1)
 .ret))))) }
abbrev zKPC : Reg := ⟨[.p (.mv (.c (.bool false)))], [], [2], none⟩
abbrev zu0S : Reg := ⟨[.v 0, .p (.len (.t 0)), .v 1, .p (.len (.t 0)), .p (.bin .eql (.t 2) (.t 0)), .t 0, .x 0 (.mv (.v 0)), .x 1 (.mv (.v 1)), .x 2 (.cal zy97 [(.t 1), (.t 0)]), .x 3 (.mv (.v 0)), .x 4 (.len (.t 0)), .x 5 (.bin .eql (.t 2) (.t 0)), .p (.pick (.t 6) (.t 0) (.c (.bool false))), .t 0], [(2, 0)], [0, 1], none⟩
abbrev zGc0 : Fn := { np := 2, nv := 3, res := [(2, none)], body :=
(.seq (.reg zKPC)
 (.seq (.reg zu0S)
 .ret)) }
abbrev zw0k : Reg := ⟨[.p (.bxi (.v 0)), .p (.mv (.c (.bool false)))], [(5, 1)], [0, 9], none⟩
abbrev zYRR : Reg := ⟨[.p (.mv (.c (.int (0))))], [(4, 0)], [], none⟩
abbrev z1tW : Reg := ⟨[.v 4, .p (.fad (.v 5) 1 none), .p (.ldi (.t 0) none), .p (.bin .lss (.t 2) (.t 0))], [], [], some (16, 0)⟩
abbrev z9f1 : Reg := ⟨[.v 1, .p (.fad (.v 5) 8 none), .p (.ldi (.t 0) none), .v 2, .p (.iad (.t 1) (.t 0) 1), .p (.ldi (.t 0) none), .v 4, .p (.iad (.t 1) (.t 0) 1), .p (.ldi (.t 0) none), .p (.iad (.t 8) (.t 0) 1), .p (.ld (.t 0) none), .v 3, .p (.iad (.t 1) (.t 0) 1), .p (.ld (.t 0) none)], [], [], some (32, 0)⟩
abbrev zfyI : Reg := ⟨[.p (.mv (.c (.bool true)))], [(9, 0)], [1, 2, 3, 4, 5], none⟩
abbrev zYQi : Reg := ⟨[.v 4, .p (.bin .add (.t 0) (.c (.int (1)))), .t 0], [(4, 0)], [], none⟩
abbrev zfZH : IC := (.seq (.seq (.reg z1tW)
 (.cond 16 .skip (.exit 0)))
 (.seq (.block 1 (.seq (.reg z9f1)
 (.cond 32 (.seq (.reg zfyI)
 .ret) .skip)))
 (.reg zYQi)))
abbrev z5bi : Reg := ⟨[.p (.mv (.c (.int (0))))], [(6, 0)], [4], none⟩
abbrev zPL0 : Reg := ⟨[.v 6, .p (.fad (.v 5) 0 none), .p (.ldi (.t 0) none), .p (.bin .lss (.t 2) (.t 0))], [], [], some (36, 0)⟩
abbrev z2ug : Reg := ⟨[.p (.mv (.c (.int (0))))], [(7, 0)], [], none⟩
abbrev zyFK : Reg := ⟨[.v 7, .p (.fad (.v 5) 5 none), .p (.ldi (.t 0) none), .p (.len (.t 0)), .p (.bin .lss (.t 3) (.t 0))], [], [], some (43, 0)⟩
abbrev zNWG : Reg := ⟨[.v 1, .p (.fad (.v 5) 6 none), .p (.ldi (.t 0) none), .v 2, .p (.iad (.t 1) (.t 0) 1), .p (.ldi (.t 0) none), .v 6, .p (.iad (.t 1) (.t 0) 1), .p (.ldi (.t 0) none), .p (.iad (.t 8) (.t 0) 1), .p (.ld (.t 0) none), .v 7, .p (.iad (.t 1) (.t 0) 1), .p (.ld (.t 0) none), .p (.not (.t 0))], [], [], some (60, 0)⟩
abbrev zWAT : Reg := ⟨[.p (.mv (.c (.int (0))))], [(8, 0)], [], none⟩
abbrev z7ow : Reg := ⟨[.v 8, .p (.fad (.v 5) 2 none), .p (.ldi (.t 0) none), .p (.bin .lss (.t 2) (.t 0))], [], [], some (64, 0)⟩
abbrev zX2V : Reg := ⟨[.v 1, .p (.fad (.v 5) 9 none), .p (.ldi (.t 0) none), .v 7, .p (.iad (.t 1) (.t 0) 1), .p (.ldi (.t 0) none), .p (.fad (.v 5) 7 none), .p (.ldi (.t 0) none), .v 2, .p (.iad (.t 1) (.t 0) 1), .p (.ldi (.t 0) none), .v 6, .p (.iad (.t 1) (.t 0) 1), .p (.ldi (.t 0) none), .p (.iad (.t 8) (.t 0) 1), .p (.ldi (.t 0) none), .v 8, .p (.iad (.t 1) (.t 0) 1), .p (.ldi (.t 0) none), .p (.iad (.t 18) (.t 0) 1), .p (.ld (.t 0) none), .v 3, .p (.iad (.t 1) (.t 0) 1), .p (.ld (.t 0) none)], [], [], some (90, 0)⟩
abbrev zbDU : Reg := ⟨[.p (.mv (.c (.bool true)))], [(9, 0)], [1, 2, 3, 5, 6, 7, 8], none⟩
abbrev zBGd : Reg := ⟨[.v 8, .p (.bin .add (.t 0) (.c (.int (1)))), .t 0], [(8, 0)], [], none⟩
abbrev zs9R : IC := (.seq (.seq (.reg z7ow)
 (.cond 64 .skip (.exit 6)))
 (.seq (.block 7 (.seq (.reg zX2V)
 (.cond 90 (.seq (.reg zbDU)
 .ret) .skip)))
 (.reg zBGd)))
abbrev zCYC : Reg := ⟨[.v 7, .p (.bin .add (.t 0) (.c (.int (1)))), .t 0], [(7, 0)], [8], none⟩
abbrev zp3d : IC := (.seq (.seq (.reg zyFK)
 (.cond 43 .skip (.exit 4)))
 (.seq (.block 5 (.seq (.seq (.reg zNWG)
 (.cond 60 (.exit 5) .skip))
 (.seq (.reg zWAT)
 (.block 6 (.loop zs9R)))))
 (.reg zCYC)))
abbrev zzjT : Reg := ⟨[.v 6, .p (.bin .add (.t 0) (.c (.int (1)))), .t 0], [(6, 0)], [7], none⟩
abbrev z9iT : IC := (.seq (.seq (.reg zPL0)
 (.cond 36 .skip (.exit 2)))
 (.seq (.block 3 (.seq (.reg z2ug)
 (.block 4 (.loop zp3d))))
 (.reg zzjT)))
abbrev zVaA : Reg := ⟨[.p (.mv (.c (.bool false)))], [(9, 0)], [1, 2, 3, 5, 6], none⟩
abbrev zSCi : Fn := { np := 4, nv := 10, res := [(9, none)], body :=
(.seq (.reg zw0k)
 (.seq (.seq (.reg zYRR)
 (.block 0 (.loop zfZH)))
 (.seq (.seq (.reg z5bi)
 (.block 2 (.loop z9iT)))
 (.seq (.reg zVaA)
 .ret)))) }
abbrev z1kw : Reg := ⟨[.p (.mv (.c (.int (0))))], [], [5], none⟩
abbrev zRle : Reg := ⟨[.v 0, .p (.len (.t 0)), .p (.mv (.c (.int (0))))], [(3, 1), (2, 0)], [], none⟩
abbrev zQYL : Reg := ⟨[.p (.bin .lss (.v 2) (.v 3))], [], [], some (9, 0)⟩
abbrev zhhK : Reg := ⟨[.v 2, .t 0], [(4, 0)], [], none⟩
abbrev ztAN : Reg := ⟨[.v 1, .v 0, .v 4, .p (.iad (.t 1) (.t 0) 1), .p (.ld (.t 0) none), .p (.cald (.t 4) [(.t 0)])], [], [], some (16, 0)⟩
abbrev zxDV : Reg := ⟨[.v 4, .t 0], [(5, 0)], [0, 1, 2, 3, 4], none⟩
abbrev zYiq : Reg := ⟨[.p (.bin .add (.v 2) (.c (.int (1)))), .t 0], [(2, 0)], [4], none⟩
abbrev z8o2 : IC := (.seq (.reg zQYL)
 (.seq (.cond 9 .skip (.exit 0))
 (.seq (.block 1 (.seq (.reg zhhK)
 (.seq (.reg ztAN)
 (.cond 16 (.seq (.reg zxDV)
 .ret) .skip))))
 (.reg zYiq))))
abbrev zC2g : Reg := ⟨[.p (.mv (.c (.int (-1))))], [(5, 0)], [0, 1, 2, 3], none⟩
abbrev zR3L : Fn := { np := 2, nv := 6, res := [(5, none)], body :=
(.seq (.reg z1kw)
 (.seq (.seq (.reg zRle)
 (.block 0 (.loop z8o2)))
 (.seq (.reg zC2g)
 .ret))) }
abbrev zEpN : Reg := ⟨[.p (.mv (.c (.bool false)))], [], [1], none⟩
abbrev zrxn : Reg := ⟨[.v 0, .v 0, .p (.bin .neq (.t 1) (.t 0)), .t 0], [(1, 0)], [0], none⟩
abbrev z0c3 : Fn := { np := 1, nv := 2, res := [(1, none)], body :=
(.seq (.reg zEpN)
 (.seq (.reg zrxn)
 .ret)) }
abbrev zgWN : Reg := ⟨[.p (.bxi (.v 0)), .p (.mv (.c (.int (0)))), .p (.mv (.c (.int (0))))], [(3, 2)], [0, 10, 11], none⟩
abbrev zsqU : Reg := ⟨[.p (.ldi (.v 3) (some 20)), .v 1, .p (.cal z6RY [(.t 1), (.t 0)]), .t 0, .p (.ext (.t 0) 0), .p (.ext (.t 1) 1), .t 1, .t 1], [(4, 1), (5, 0)], [1], none⟩
abbrev zbZq : Reg := ⟨[.p (.fad (.v 3) 0 (some 10)), .p (.ldi (.t 0) (some 10)), .v 4, .v 2, .p (.cal zfSc [(.t 2), (.t 1), (.t 0)]), .t 0, .p (.ext (.t 0) 0), .p (.ext (.t 1) 1), .t 1, .t 1], [(6, 1), (8, 0)], [4], none⟩
abbrev zj8r : Reg := ⟨[.p (.fad (.v 3) 10 (some 10)), .p (.ldi (.t 0) (some 10)), .v 5, .v 2, .p (.cal zfSc [(.t 2), (.t 1), (.t 0)]), .t 0, .p (.ext (.t 0) 0), .p (.ext (.t 1) 1), .t 1, .t 1], [(7, 1), (9, 0)], [2, 5], none⟩
abbrev z5Pb : Reg := ⟨[.v 6, .p (.fad (.v 3) 10 (some 10)), .p (.ldi (.t 0) (some 10)), .p (.cal zFCU [(.t 0)]), .p (.bin .mul (.t 3) (.t 0)), .v 7, .p (.bin .add (.t 1) (.t 0)), .v 8, .p (.fad (.v 3) 10 (some 10)), .p (.fad (.t 0) 0 (some 10)), .p (.fad (.t 0) 3 none), .p (.ldi (.t 0) none), .p (.bin .mul (.t 4) (.t 0)), .v 9, .p (.bin .add (.t 1) (.t 0)), .t 8, .t 1], [(10, 1), (11, 0)], [3, 6, 7, 8, 9], none⟩
abbrev z5No : Fn := { np := 3, nv := 12, res := [(10, none), (11, none)], body :=
(.seq (.reg zgWN)
 (.seq (.reg zsqU)
 (.seq (.reg zbZq)
 (.seq (.reg zj8r)
 (.seq (.reg z5Pb)
 .ret))))) }
abbrev zYs5 : Reg := ⟨[.p (.bxi (.v 0)), .p (.mv (.c (.int (0))))], [(3, 1)], [0, 6], none⟩
abbrev zE4U : Reg := ⟨[.p (.ldi (.v 3) (some 20)), .v 1, .p (.cal z6RY [(.t 1), (.t 0)]), .t 0, .p (.ext (.t 0) 0), .p (.ext (.t 1) 1), .t 1, .t 1], [(4, 1), (5, 0)], [1], none⟩
abbrev zKUM : Reg := ⟨[.p (.fad (.v 3) 0 (some 10)), .p (.ldi (.t 0) (some 10)), .v 4, .v 2, .p (.cal zhMi [(.t 2), (.t 1), (.t 0)]), .p (.fad (.v 3) 10 (some 10)), .p (.ldi (.t 0) (some 10)), .p (.cal zFCU [(.t 0)]), .p (.bin .mul (.t 3) (.t 0)), .p (.fad (.v 3) 10 (some 10)), .p (.ldi (.t 0) (some 10)), .v 5, .v 2, .p (.cal zhMi [(.t 2), (.t 1), (.t 0)]), .p (.bin .add (.t 5) (.t 0)), .t 0], [(6, 0)], [2, 3, 4, 5], none⟩
abbrev z6Fs : Fn := { np := 3, nv := 7, res := [(6, none)], body :=
(.seq (.reg zYs5)
 (.seq (.reg zE4U)
 (.seq (.reg zKUM)
 .ret))) }
abbrev zYsz : Reg := ⟨[.p (.bxi (.v 0)), .p (.mv (.c (.int (0))))], [(4, 1)], [0, 7], none⟩
abbrev zSnh : Reg := ⟨[.p (.ldi (.v 4) (some 20)), .v 1, .p (.cal z6RY [(.t 1), (.t 0)]), .t 0, .p (.ext (.t 0) 0), .p (.ext (.t 1) 1), .t 1, .t 1], [(5, 1), (6, 0)], [1], none⟩
abbrev zdrQ : Reg := ⟨[.p (.fad (.v 4) 0 (some 10)), .p (.ldi (.t 0) (some 10)), .v 5, .v 2, .p (.fad (.v 4) 10 (some 10)), .p (.fad (.t 0) 0 (some 10)), .p (.fad (.t 0) 3 none), .p (.ldi (.t 0) none), .p (.bin .quo (.t 4) (.t 0)), .v 3, .p (.cal zNTN [(.t 8), (.t 7), (.t 1), (.t 0)]), .p (.fad (.v 4) 10 (some 10)), .p (.ldi (.t 0) (some 10)), .p (.cal zFCU [(.t 0)]), .p (.bin .mul (.t 3) (.t 0)), .p (.fad (.v 4) 10 (some 10)), .p (.ldi (.t 0) (some 10)), .v 6, .v 2, .p (.fad (.v 4) 10 (some 10)), .p (.fad (.t 0) 0 (some 10)), .p (.fad (.t 0) 3 none), .p (.ldi (.t 0) none), .p (.bin .rem (.t 4) (.t 0)), .v 3, .p (.cal zNTN [(.t 8), (.t 7), (.t 1), (.t 0)]), .p (.bin .add (.t 11) (.t 0)), .t 0], [(7, 0)], [2, 3, 4, 5, 6], none⟩
abbrev zRtP : Fn := { np := 4, nv := 8, res := [(7, none)], body :=
(.seq (.reg zYsz)
 (.seq (.reg zSnh)
 (.seq (.reg zdrQ)
 .ret))) }
end Ab
