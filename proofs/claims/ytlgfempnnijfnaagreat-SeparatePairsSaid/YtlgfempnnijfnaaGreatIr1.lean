/- The functions of the program as small texts, printed by a tool of mine. Condition: none. -/
import Derived.Test.YtlgfempnnijfnaaGreatIr0
set_option linter.all false
namespace Ab
abbrev zBfj : Reg := ⟨[.p (.mv (.c (.int (0))))], [], [3], none⟩
abbrev zIuz : Reg := ⟨[.v 0, .v 1, .p (.cal zy97 [(.t 1), (.t 0)]), .t 0], [(2, 0)], [], none⟩
abbrev zISi : Reg := ⟨[.v 2, .v 0, .p (.len (.t 0)), .p (.bin .eql (.t 2) (.t 0)), .t 0, .x 0 (.mv (.v 2)), .x 1 (.mv (.v 1)), .x 2 (.len (.t 0)), .x 3 (.bin .eql (.t 2) (.t 0)), .p (.pick (.t 4) (.t 0) (.c (.bool false))), .t 0], [], [], some (9, 0)⟩
abbrev zsdO : Reg := ⟨[.p (.mv (.c (.int (0))))], [(3, 0)], [0, 1, 2], none⟩
abbrev zzQC : Reg := ⟨[.v 2, .v 0, .p (.len (.t 0)), .p (.bin .eql (.t 2) (.t 0)), .t 0], [(4, 0)], [], none⟩
abbrev zS9b : Reg := ⟨[.v 2, .v 1, .p (.len (.t 0)), .p (.bin .lss (.t 2) (.t 0)), .t 0, .x 0 (.mv (.v 0)), .x 1 (.mv (.v 2)), .x 2 (.iad (.t 1) (.t 0) 1), .x 3 (.ld (.t 0) none), .x 4 (.mv (.v 1)), .x 5 (.mv (.v 2)), .x 6 (.iad (.t 1) (.t 0) 1), .x 7 (.ld (.t 0) none), .x 8 (.bin .lss (.t 4) (.t 0)), .p (.pick (.t 9) (.t 0) (.c (.bool false))), .t 0], [(4, 0)], [0, 1, 2], none⟩
abbrev zFK0 : Reg := ⟨[.p (.mv (.c (.int (-1))))], [(3, 0)], [0, 1, 2, 4], none⟩
abbrev zzP3 : Reg := ⟨[.p (.mv (.c (.int (1))))], [(3, 0)], [0, 1, 2, 4], none⟩
abbrev zGS2 : Fn := { np := 2, nv := 5, res := [(3, none)], body :=
(.seq (.reg zBfj)
 (.seq (.reg zIuz)
 (.seq (.block 0 (.seq (.reg zISi)
 (.cond 9 (.seq (.reg zsdO)
 .ret) (.seq (.seq (.reg zzQC)
 (.condv 4 .skip (.reg zS9b)))
 (.condv 4 (.seq (.reg zFK0)
 .ret) .skip)))))
 (.seq (.reg zzP3)
 .ret)))) }
abbrev zghB : Reg := ⟨[.p (.bxi (.v 0)), .p (.mv (.c (.snil)))], [(5, 1)], [0, 10], none⟩
abbrev zZQH : Reg := ⟨[.p (.nl none)], [(7, 0)], [], none⟩
abbrev zYaw : Reg := ⟨[.p (.mv (.c (.int (0))))], [(9, 0)], [], none⟩
abbrev z9fu : Reg := ⟨[.p (.mv (.c (.int (0))))], [(2, 0)], [], none⟩
abbrev z4OK : Reg := ⟨[.v 2, .v 1, .p (.len (.t 0)), .p (.bin .lss (.t 2) (.t 0))], [], [], some (15, 0)⟩
abbrev zTsN : Reg := ⟨[.p (.mv (.c (.int (-1))))], [(8, 0)], [], none⟩
abbrev z49D : Reg := ⟨[.v 2, .p (.bin .sub (.t 0) (.c (.int (1)))), .t 0], [(3, 0)], [], none⟩
abbrev zrzw : Reg := ⟨[.v 3, .p (.bin .geq (.t 0) (.c (.int (0))))], [], [], some (21, 0)⟩
abbrev zNLr : Reg := ⟨[.v 1, .v 2, .p (.iad (.t 1) (.t 0) 1), .p (.ld (.t 0) none), .v 1, .v 3, .p (.iad (.t 1) (.t 0) 1), .p (.ld (.t 0) none), .p (.bin .eql (.t 4) (.t 0)), .t 0], [(6, 0)], [], none⟩
abbrev zgLZ : Reg := ⟨[.p (.mv (.c (.int (0))))], [(4, 0)], [], none⟩
abbrev zlBV : Reg := ⟨[.v 4, .p (.fad (.v 5) 0 none), .p (.ldi (.t 0) none), .p (.bin .lss (.t 2) (.t 0)), .t 0, .x 0 (.mv (.v 6)), .p (.pick (.t 1) (.t 0) (.c (.bool false)))], [], [], some (39, 0)⟩
abbrev zHcP : Reg := ⟨[.p (.fad (.v 5) 3 none), .p (.ldi (.t 0) none), .v 2, .p (.iad (.t 1) (.t 0) 1), .p (.ldi (.t 0) none), .v 4, .p (.iad (.t 1) (.t 0) 1), .p (.ldi (.t 0) none), .p (.fad (.v 5) 3 none), .p (.ldi (.t 0) none), .v 3, .p (.iad (.t 1) (.t 0) 1), .p (.ldi (.t 0) none), .v 4, .p (.iad (.t 1) (.t 0) 1), .p (.ldi (.t 0) none), .p (.bin .eql (.t 8) (.t 0)), .t 0, .x 0 (.mv (.v 1)), .x 1 (.fad (.v 5) 2 none), .x 2 (.ldi (.t 0) none), .x 3 (.mv (.v 2)), .x 4 (.iad (.t 1) (.t 0) 1), .x 5 (.ldi (.t 0) none), .x 6 (.mv (.v 4)), .x 7 (.iad (.t 1) (.t 0) 1), .x 8 (.ldi (.t 0) none), .x 9 (.iad (.t 8) (.t 0) 1), .x 10 (.ld (.t 0) none), .x 11 (.mv (.v 1)), .x 12 (.fad (.v 5) 2 none), .x 13 (.ldi (.t 0) none), .x 14 (.mv (.v 3)), .x 15 (.iad (.t 1) (.t 0) 1), .x 16 (.ldi (.t 0) none), .x 17 (.mv (.v 4)), .x 18 (.iad (.t 1) (.t 0) 1), .x 19 (.ldi (.t 0) none), .x 20 (.iad (.t 8) (.t 0) 1), .x 21 (.ld (.t 0) none), .x 22 (.bin .eql (.t 11) (.t 0)), .p (.pick (.t 23) (.t 0) (.c (.bool false))), .t 0], [(6, 0)], [], none⟩
abbrev zzze : Reg := ⟨[.v 4, .p (.bin .add (.t 0) (.c (.int (1)))), .t 0], [(4, 0)], [], none⟩
abbrev zF6C : IC := (.seq (.seq (.reg zlBV)
 (.cond 39 .skip (.exit 4)))
 (.seq (.block 5 (.reg zHcP))
 (.reg zzze)))
abbrev zd79 : Reg := ⟨[.v 6], [], [4, 6], some (84, 0)⟩
abbrev zGgz : Reg := ⟨[.v 7, .v 3, .p (.iad (.t 1) (.t 0) 1), .p (.ld (.t 0) none), .t 0], [(8, 0)], [], none⟩
abbrev zPm7 : Reg := ⟨[.v 3, .p (.bin .sub (.t 0) (.c (.int (1)))), .t 0], [(3, 0)], [], none⟩
abbrev zDlc : IC := (.seq (.seq (.reg zrzw)
 (.cond 21 .skip (.exit 2)))
 (.seq (.block 3 (.seq (.reg zNLr)
 (.seq (.seq (.reg zgLZ)
 (.block 4 (.loop zF6C)))
 (.seq (.reg zd79)
 (.cond 84 (.reg zGgz) .skip)))))
 (.reg zPm7)))
abbrev z61Q : Reg := ⟨[.v 8, .p (.bin .lss (.t 0) (.c (.int (0))))], [], [3], some (90, 0)⟩
abbrev zOtW : Reg := ⟨[.v 9, .t 0], [(8, 0)], [], none⟩
abbrev ztqU : Reg := ⟨[.v 9, .p (.bin .add (.t 0) (.c (.int (1)))), .t 0], [(9, 0)], [], none⟩
abbrev zvYg : Reg := ⟨[.v 7, .v 8, .p (.lita [(.t 0)] 1), .p (.appw (.t 2) (.t 0) none), .t 0], [(7, 0)], [8], none⟩
abbrev zpWo : Reg := ⟨[.v 2, .p (.bin .add (.t 0) (.c (.int (1)))), .t 0], [(2, 0)], [], none⟩
abbrev zw0u : IC := (.seq (.seq (.reg z4OK)
 (.cond 15 .skip (.exit 0)))
 (.seq (.block 1 (.seq (.reg zTsN)
 (.seq (.seq (.reg z49D)
 (.block 2 (.loop zDlc)))
 (.seq (.seq (.reg z61Q)
 (.cond 90 (.seq (.reg zOtW)
 (.reg ztqU)) .skip))
 (.reg zvYg)))))
 (.reg zpWo)))
abbrev zTEr : Reg := ⟨[.v 7, .t 0], [(10, 0)], [1, 2, 5, 7, 9], none⟩
abbrev z7sm : Fn := { np := 2, nv := 11, res := [(10, none)], body :=
(.seq (.reg zghB)
 (.seq (.reg zZQH)
 (.seq (.reg zYaw)
 (.seq (.seq (.reg z9fu)
 (.block 0 (.loop zw0u)))
 (.seq (.reg zTEr)
 .ret))))) }
abbrev zDJj : Reg := ⟨[.p (.bxi (.v 0)), .p (.mv (.c (.snil))), .p (.mv (.c (.int (0))))], [(2, 2)], [0, 10, 11], none⟩
abbrev z9m1 : Reg := ⟨[.p (.fad (.v 2) 2 none), .p (.ldi (.t 0) none), .p (.len (.t 0)), .p (.mks (.t 0) (.t 0) [.int 0] none), .t 0, .p (.mv (.c (.int (1))))], [(5, 1), (7, 0)], [], none⟩
abbrev zyiD : Reg := ⟨[.v 1, .p (.mx true (.t 0) (.c (.int (0)))), .p (.fad (.v 2) 2 none), .p (.ldi (.t 0) none), .p (.len (.t 0)), .p (.mx false (.t 3) (.t 0)), .p (.mv (.c (.int (0))))], [(4, 1), (3, 0)], [], none⟩
abbrev zmR4 : Reg := ⟨[.p (.bin .lss (.v 3) (.v 4))], [], [], some (22, 0)⟩
abbrev zeOM : Reg := ⟨[.v 3, .t 0], [(8, 0)], [], none⟩
abbrev ztIc : Reg := ⟨[.p (.ldi (.v 2) (some 4)), .v 5, .p (.cab zgwP [(.t 1), (.t 0)]), .t 0, .p (.ext (.t 0) 0), .p (.ext (.t 1) 1), .t 1, .t 1], [(9, 1), (6, 0)], [], none⟩
abbrev z5SL : Reg := ⟨[.v 6, .v 7, .p (.bin .eql (.t 1) (.t 0))], [], [7], some (32, 0)⟩
abbrev zxSX : Reg := ⟨[.v 5, .v 8, .t 1, .t 1], [(10, 1), (11, 0)], [1, 2, 3, 4, 5, 6, 8, 9], none⟩
abbrev zcHb : Reg := ⟨[.v 9, .v 6, .t 1, .t 1], [(5, 1), (7, 0)], [6, 8, 9], none⟩
abbrev zlGi : Reg := ⟨[.p (.bin .add (.v 3) (.c (.int (1)))), .t 0], [(3, 0)], [], none⟩
abbrev zHT1 : IC := (.seq (.reg zmR4)
 (.seq (.cond 22 .skip (.exit 0))
 (.seq (.block 1 (.seq (.reg zeOM)
 (.seq (.reg ztIc)
 (.seq (.seq (.reg z5SL)
 (.cond 32 (.seq (.reg zxSX)
 .ret) .skip))
 (.reg zcHb)))))
 (.reg zlGi))))
abbrev zuEH : Reg := ⟨[.v 5, .v 1, .p (.mx true (.t 0) (.c (.int (0)))), .p (.fad (.v 2) 2 none), .p (.ldi (.t 0) none), .p (.len (.t 0)), .p (.mx false (.t 3) (.t 0)), .t 6, .t 1], [(10, 1), (11, 0)], [1, 2, 3, 4, 5, 7], none⟩
abbrev zHcf : Fn := { np := 2, nv := 12, res := [(10, none), (11, none)], body :=
(.seq (.reg zDJj)
 (.seq (.reg z9m1)
 (.seq (.seq (.reg zyiD)
 (.block 0 (.loop zHT1)))
 (.seq (.reg zuEH)
 .ret)))) }
abbrev z2lN : Reg := ⟨[.p (.mv (.c (.bool false)))], [], [1], none⟩
abbrev z0h0 : Reg := ⟨[.v 0, .p (.bin .geq (.t 0) (.c (.int (1)))), .t 0, .x 0 (.mv (.v 0)), .x 1 (.bin .leq (.t 0) (.c (.int (1024)))), .p (.pick (.t 2) (.t 0) (.c (.bool false))), .t 0], [(1, 0)], [0], none⟩
abbrev zhzJ : Fn := { np := 1, nv := 2, res := [(1, none)], body :=
(.seq (.reg z2lN)
 (.seq (.reg z0h0)
 .ret)) }
abbrev zWCL : Reg := ⟨[.p (.bxi (.v 0)), .p (.mv (.c (.snil))), .p (.mv (.c (.int (0))))], [(4, 2)], [0, 14, 15], none⟩
abbrev zold : Reg := ⟨[.p (.mkm), .t 0], [(10, 0)], [], none⟩
abbrev zK7x : Reg := ⟨[.v 1, .p (.len (.t 0)), .p (.mks (.t 0) (.t 0) [.int 0] none), .t 0], [(13, 0)], [], none⟩
abbrev zhdM : Reg := ⟨[.v 1, .p (.len (.t 0)), .p (.mv (.c (.int (0))))], [(3, 1), (2, 0)], [], none⟩
abbrev zwqc : Reg := ⟨[.p (.bin .lss (.v 2) (.v 3))], [], [], some (20, 0)⟩
abbrev zDUo : Reg := ⟨[.v 2, .t 0], [(8, 0)], [], none⟩
abbrev zAPO : Reg := ⟨[.p (.alc [.int 0, .int 0, .int 0, .int 0, .int 0, .int 0, .int 0, .int 0, .int 0, .int 0, .int 0, .int 0, .int 0, .int 0, .int 0, .int 0, .int 0, .int 0, .int 0, .int 0, .int 0, .int 0, .int 0, .int 0, .int 0, .int 0, .int 0, .int 0, .int 0, .int 0, .int 0, .int 0, .int 0, .int 0, .int 0, .int 0, .int 0, .int 0, .int 0, .int 0, .int 0, .int 0, .int 0, .int 0, .int 0, .int 0, .int 0, .int 0, .int 0, .int 0, .int 0, .int 0, .int 0, .int 0, .int 0, .int 0, .int 0, .int 0, .int 0, .int 0, .int 0, .int 0, .int 0, .int 0, .int 0, .int 0, .int 0, .int 0, .int 0, .int 0, .int 0, .int 0, .int 0, .int 0, .int 0, .int 0, .int 0, .int 0, .int 0, .int 0, .int 0, .int 0, .int 0, .int 0, .int 0, .int 0, .int 0, .int 0, .int 0, .int 0, .int 0, .int 0, .int 0, .int 0, .int 0, .int 0, .int 0, .int 0, .int 0, .int 0, .int 0, .int 0, .int 0, .int 0, .int 0, .int 0, .int 0, .int 0, .int 0, .int 0, .int 0, .int 0, .int 0, .int 0, .int 0, .int 0, .int 0, .int 0, .int 0, .int 0, .int 0, .int 0, .int 0, .int 0, .int 0, .int 0, .int 0, .int 0] (some 128))], [(9, 0)], [], none⟩
abbrev zi9f : Reg := ⟨[.p (.fad (.v 4) 0 none), .p (.ldi (.t 0) none), .p (.mv (.c (.int (0))))], [(6, 1), (5, 0)], [], none⟩
abbrev zH11 : Reg := ⟨[.p (.bin .lss (.v 5) (.v 6))], [], [], some (25, 0)⟩
abbrev zJlC : Reg := ⟨[.v 5, .t 0], [(7, 0)], [], none⟩
abbrev zYO0 : Reg := ⟨[.v 7, .p (.fad (.v 4) 3 none), .p (.ldi (.t 0) none), .v 8, .p (.iad (.t 1) (.t 0) 1), .p (.ldi (.t 0) none), .v 7, .p (.iad (.t 1) (.t 0) 1), .p (.ldi (.t 0) none), .p (.iada (.v 9) (.t 8) 128 none), .p (.st (.t 0) (.t 1) 1)], [], [], none⟩
abbrev zXLl : Reg := ⟨[.v 7, .p (.bin .add (.c (.int (64))) (.t 0)), .v 1, .p (.fad (.v 4) 2 none), .p (.ldi (.t 0) none), .v 8, .p (.iad (.t 1) (.t 0) 1), .p (.ldi (.t 0) none), .v 7, .p (.iad (.t 1) (.t 0) 1), .p (.ldi (.t 0) none), .p (.iad (.t 8) (.t 0) 1), .p (.ld (.t 0) none), .p (.iada (.v 9) (.t 11) 128 none), .p (.st (.t 0) (.t 1) 1)], [], [7], none⟩
abbrev z7mz : Reg := ⟨[.p (.bin .add (.v 5) (.c (.int (1)))), .t 0], [(5, 0)], [], none⟩
abbrev z5IN : IC := (.lex (.seq (.reg zH11)
 (.seq (.cond 25 .skip (.exit 2))
 (.seq (.block 3 (.seq (.reg zJlC)
 (.seq (.reg zYO0)
 (.reg zXLl))))
 (.reg z7mz)))))
abbrev zzkj : Reg := ⟨[.v 10, .p (.ld (.v 9) (some 128)), .p (.mlk (.t 1) 130 (.t 0) (.int 0) true), .t 0, .p (.ext (.t 0) 0), .p (.ext (.t 1) 1), .t 1, .t 1], [(12, 1), (11, 0)], [5, 6], none⟩
abbrev zyHb : Reg := ⟨[.v 11, .p (.not (.t 0))], [], [11], some (59, 0)⟩
abbrev zG3Y : Reg := ⟨[.v 10, .p (.mln (.t 0)), .t 0], [(12, 0)], [], none⟩
abbrev z05z : Reg := ⟨[.v 10, .p (.ld (.v 9) (some 128)), .v 12, .p (.mup (.t 2) 130 (.t 1) (.t 0))], [], [9], none⟩
abbrev z8r8 : Reg := ⟨[.v 13, .v 8, .v 12, .p (.iad (.t 2) (.t 1) 1), .p (.st (.t 0) (.t 1) 1)], [], [8, 9, 12], none⟩
abbrev zHEg : Reg := ⟨[.p (.bin .add (.v 2) (.c (.int (1)))), .t 0], [(2, 0)], [], none⟩
abbrev zVYe : IC := (.lex (.seq (.reg zwqc)
 (.seq (.cond 20 .skip (.exit 0))
 (.seq (.block 1 (.seq (.reg zDUo)
 (.seq (.reg zAPO)
 (.seq (.seq (.reg zi9f)
 (.block 2 (.loop z5IN)))
 (.seq (.reg zzkj)
 (.seq (.seq (.reg zyHb)
 (.cond 59 (.seq (.reg zG3Y)
 (.reg z05z)) .skip))
 (.reg z8r8)))))))
 (.reg zHEg)))))
abbrev zCfB : Reg := ⟨[.v 13, .v 10, .p (.mln (.t 0)), .t 2, .t 1], [(14, 1), (15, 0)], [1, 2, 3, 4, 10, 13], none⟩
abbrev z193 : Fn := { np := 2, nv := 16, res := [(14, none), (15, none)], body :=
(.seq (.reg zWCL)
 (.seq (.reg zold)
 (.seq (.reg zK7x)
 (.seq (.seq (.reg zhdM)
 (.block 0 (.loop zVYe)))
 (.seq (.reg zCfB)
 .ret))))) }
end Ab
