/- The functions of the program as small texts, printed by a tool of mine. Condition: none. -/
import Derived.Test.YtkchnhfeebkogaaAbBase
set_option linter.all false
namespace Ab
abbrev z0z7 : Nat := 104
abbrev zZPs : Nat := 56
abbrev zwN8 : Nat := 53
def za6K : Nat := 3
def zjvU : Nat := 4
def zyDa : Nat := 5
def z1FP : Nat := 6
def zHyK : Nat := 7
def zfV6 : Nat := 8
def zZ8T : Nat := 9
def z19o : Nat := 10
def z1aV : Nat := 11
def znwB : Nat := 12
def zRFR : Nat := 13
def zYu2 : Nat := 14
def zb98 : Nat := 15
def zWb8 : Nat := 16
def zIk1 : Nat := 17
def z9Gn : Nat := 18
def ziIl : Nat := 19
def zO8E : Nat := 20
def zXJR : Nat := 21
def zwyK : Nat := 22
def zDXm : Nat := 23
def zvYE : Nat := 24
def z1qE : Nat := 25
def zmNm : Nat := 26
def z6RY : Nat := 27
def zFCU : Nat := 28
def zNb4 : Nat := 29
def z0Tq : Nat := 30
def zVDQ : Nat := 31
def zaUI : Nat := 32
def zxtP : Nat := 33
def z92w : Nat := 34
def zA6r : Nat := 35
def zfSc : Nat := 36
def zd1z : Nat := 37
def zhMi : Nat := 38
def zNTN : Nat := 39
def zC7Z : Nat := 40
def zr8d : Nat := 41
def zWyS : Nat := 42
def zadN : Nat := 43
def zTfU : Nat := 44
def ze0B : Nat := 45
def zNv5 : Nat := 46
def zkQN : Nat := 47
def zGKM : Nat := 48
def zUHS : Nat := 49
def z5HB : Nat := 50
def z7L0 : Nat := 51
def ztWO : Nat := 52
def zU2R : Nat := 53
def zZwr : Nat := 54
def z4HM : Nat := 55
def zR5N : Nat := 56
def zlVo : Nat := 57
def zLRb : Nat := 58
def zc7Y : Nat := 59
def zVYD : Nat := 60
def zy97 : Nat := 61
def zSOc : Nat := 62
def z7G9 : Nat := 63
def zhiY : Nat := 64
def zlGq : Nat := 65
def zDj1 : Nat := 66
def zSWF : Nat := 67
def zVj2 : Nat := 68
def zb3m : Nat := 69
def z5pu : Nat := 70
def zhAU : Nat := 71
def zJ5j : Nat := 72
def zA97 : Nat := 73
def zCCG : Nat := 74
def z2JZ : Nat := 75
def zPpc : Nat := 76
def zZvM : Nat := 92
def zdOj : Nat := 93
def zWl5 : Nat := 94
abbrev zGET : Reg := ⟨[.p (.bxi (.v 0)), .p (.mv (.c (.bool false)))], [(1, 1)], [0, 8], none⟩
abbrev z3lB : Reg := ⟨[.p (.ldi (.v 1) (some 10)), .p (.cal zHyK [(.t 0)]), .p (.not (.t 0))], [], [], some (11, 0)⟩
abbrev z7uL : Reg := ⟨[.p (.cal zfV6 []), .t 0], [(8, 0)], [1], none⟩
abbrev zbaH : Reg := ⟨[.p (.ldi (.v 1) (some 10)), .p (.cal zZ8T [(.t 0)]), .t 0, .p (.ext (.t 0) 0), .p (.ext (.t 1) 1), .p (.ext (.t 2) 2), .t 2, .t 2, .t 2], [(2, 2), (4, 1), (6, 0)], [], none⟩
abbrev zcgi : Reg := ⟨[.p (.ldi (.v 1) (some 10)), .p (.cal z19o [(.t 0)]), .t 0, .p (.ext (.t 0) 0), .p (.ext (.t 1) 1), .p (.ext (.t 2) 2), .t 2, .t 2, .t 2], [(3, 2), (5, 1), (7, 0)], [1], none⟩
abbrev zMJg : Reg := ⟨[.v 2, .v 3, .p (.cal z1aV [(.t 1), (.t 0)]), .t 0, .x 0 (.mv (.v 4)), .x 1 (.mv (.v 5)), .x 2 (.beq false (.t 1) (.t 0)), .p (.pick (.t 3) (.t 0) (.c (.bool false))), .t 0, .x 0 (.mv (.v 6)), .x 1 (.mv (.v 7)), .x 2 (.bin .eql (.t 1) (.t 0)), .p (.pick (.t 3) (.t 0) (.c (.bool false))), .t 0, .x 0 (.cal zfV6 []), .p (.pick (.t 1) (.t 0) (.c (.bool false))), .t 0], [(8, 0)], [2, 3, 4, 5, 6, 7], none⟩
abbrev zTys : Fn := { np := 1, nv := 9, res := [(8, none)], body :=
(.seq (.reg zGET)
 (.seq (.seq (.reg z3lB)
 (.cond 11 (.seq (.reg z7uL)
 .ret) .skip))
 (.seq (.reg zbaH)
 (.seq (.reg zcgi)
 (.seq (.reg zMJg)
 .ret))))) }
abbrev zb8I : Reg := ⟨[.p (.bxi (.v 0)), .p (.bxi (.v 1)), .p (.mv (.c (.bool false)))], [(2, 2), (3, 1)], [0, 1, 10], none⟩
abbrev za5k : Reg := ⟨[.p (.ldi (.v 2) (some 10)), .p (.cal zHyK [(.t 0)]), .p (.not (.t 0)), .t 0, .y 0 (.ldi (.v 3) (some 10)), .y 1 (.cal zHyK [(.t 0)]), .y 2 (.not (.t 0)), .p (.pick (.t 3) (.c (.bool true)) (.t 0))], [], [], some (18, 0)⟩
abbrev zmHx : Reg := ⟨[.p (.cal zfV6 []), .t 0], [(10, 0)], [2, 3], none⟩
abbrev zCeb : Reg := ⟨[.p (.ldi (.v 2) (some 10)), .p (.ldi (.v 3) (some 10)), .p (.cal znwB [(.t 1), (.t 0)]), .t 0, .p (.ext (.t 0) 0), .p (.ext (.t 1) 1), .p (.ext (.t 2) 2), .t 2, .t 2, .t 2], [(4, 2), (6, 1), (8, 0)], [], none⟩
abbrev zZXh : Reg := ⟨[.p (.ldi (.v 2) (some 10)), .p (.ldi (.v 3) (some 10)), .p (.cal zRFR [(.t 1), (.t 0)]), .t 0, .p (.ext (.t 0) 0), .p (.ext (.t 1) 1), .p (.ext (.t 2) 2), .t 2, .t 2, .t 2], [(5, 2), (7, 1), (9, 0)], [2, 3], none⟩
abbrev zYQK : Reg := ⟨[.v 4, .v 5, .p (.cal z1aV [(.t 1), (.t 0)]), .t 0, .x 0 (.mv (.v 6)), .x 1 (.mv (.v 7)), .x 2 (.beq false (.t 1) (.t 0)), .p (.pick (.t 3) (.t 0) (.c (.bool false))), .t 0, .x 0 (.mv (.v 8)), .x 1 (.mv (.v 9)), .x 2 (.bin .eql (.t 1) (.t 0)), .p (.pick (.t 3) (.t 0) (.c (.bool false))), .t 0, .x 0 (.cal zfV6 []), .p (.pick (.t 1) (.t 0) (.c (.bool false))), .t 0], [(10, 0)], [4, 5, 6, 7, 8, 9], none⟩
abbrev zY0Q : Fn := { np := 2, nv := 11, res := [(10, none)], body :=
(.seq (.reg zb8I)
 (.seq (.seq (.reg za5k)
 (.cond 18 (.seq (.reg zmHx)
 .ret) .skip))
 (.seq (.reg zCeb)
 (.seq (.reg zZXh)
 (.seq (.reg zYQK)
 .ret))))) }
abbrev znxL : Reg := ⟨[.p (.bxi (.v 0)), .p (.mv (.c (.bool false)))], [(2, 1)], [0, 8], none⟩
abbrev zksD : Reg := ⟨[.p (.ldi (.v 2) (some 10)), .p (.cal zHyK [(.t 0)]), .p (.not (.t 0)), .t 0, .y 0 (.mv (.v 1)), .y 1 (.len (.t 0)), .y 2 (.bin .gtr (.t 0) (.c (.int (60)))), .p (.pick (.t 3) (.c (.bool true)) (.t 0))], [], [], some (17, 0)⟩
abbrev zIQU : Reg := ⟨[.p (.cal zfV6 []), .t 0], [(8, 0)], [1, 2], none⟩
abbrev zRmB : Reg := ⟨[.p (.ldi (.v 2) (some 10)), .p (.cal zZ8T [(.t 0)]), .t 0, .p (.ext (.t 0) 0), .p (.ext (.t 1) 1), .p (.ext (.t 2) 2), .t 2, .t 2, .t 2], [(4, 2), (5, 1), (3, 0)], [], none⟩
abbrev zM1g : Reg := ⟨[.v 3, .p (.bin .neq (.t 0) (.c (.int (0))))], [], [3], some (26, 0)⟩
abbrev zSxt : Reg := ⟨[.v 4, .p (.len (.t 0)), .p (.bin .eql (.t 0) (.c (.int (0)))), .t 0, .x 0 (.mv (.v 5)), .x 1 (.not (.t 0)), .p (.pick (.t 2) (.t 0) (.c (.bool false))), .t 0, .x 0 (.cal zfV6 []), .p (.pick (.t 1) (.t 0) (.c (.bool false))), .t 0], [(8, 0)], [1, 2, 4, 5], none⟩
abbrev zEmV : Reg := ⟨[.v 5, .t 0, .x 0 (.ldi (.v 2) (some 10)), .x 1 (.mv (.v 4)), .x 2 (.cal zYu2 [(.t 1), (.t 0)]), .x 3 (.not (.t 0)), .x 4 (.mv (.t 0)), .y 0 (.fad (.v 2) 5 none), .y 1 (.ldi (.t 0) none), .y 2 (.ldi (.v 2) (some 10)), .y 3 (.fad (.v 2) 4 none), .y 4 (.ldi (.t 0) none), .y 5 (.mv (.v 4)), .y 6 (.cal zb98 [(.t 3), (.t 1), (.t 0)]), .y 7 (.iad (.t 5) (.t 0) 1), .y 8 (.ldi (.t 0) none), .y 9 (.not (.t 0)), .x 15 (.pick (.t 10) (.c (.bool true)) (.t 0)), .p (.pick (.t 16) (.t 0) (.c (.bool false)))], [], [], some (55, 0)⟩
abbrev zMsz : Reg := ⟨[.p (.mv (.c (.bool false)))], [(8, 0)], [1, 2, 4, 5], none⟩
abbrev zE0X : Reg := ⟨[.p (.ldi (.v 2) (some 10)), .v 1, .p (.cal zWb8 [(.t 1), (.t 0)]), .t 0, .p (.ext (.t 0) 0), .p (.ext (.t 1) 1), .t 1, .t 1], [(7, 1), (6, 0)], [2], none⟩
abbrev zHYW : Reg := ⟨[.v 6, .p (.bin .eql (.t 0) (.c (.int (0)))), .t 0, .x 0 (.mv (.v 7)), .p (.pick (.t 1) (.t 0) (.c (.bool false))), .t 0, .x 0 (.mv (.v 5)), .x 1 (.not (.t 0)), .x 2 (.mv (.t 0)), .y 0 (.mv (.v 4)), .y 1 (.mv (.v 1)), .y 2 (.cal zIk1 [(.t 1), (.t 0)]), .y 3 (.bin .gtr (.t 0) (.c (.int (0)))), .x 7 (.pick (.t 4) (.c (.bool true)) (.t 0)), .p (.pick (.t 8) (.t 0) (.c (.bool false)))], [], [1, 4, 5, 6, 7], some (76, 0)⟩
abbrev ziRt : Reg := ⟨[.p (.mv (.c (.bool false)))], [(8, 0)], [], none⟩
abbrev zgjR : Reg := ⟨[.p (.cal zfV6 []), .t 0], [(8, 0)], [], none⟩
abbrev zL9V : Fn := { np := 2, nv := 9, res := [(8, none)], body :=
(.seq (.reg znxL)
 (.seq (.seq (.reg zksD)
 (.cond 17 (.seq (.reg zIQU)
 .ret) .skip))
 (.seq (.reg zRmB)
 (.seq (.seq (.reg zM1g)
 (.cond 26 (.seq (.reg zSxt)
 .ret) .skip))
 (.seq (.seq (.reg zEmV)
 (.cond 55 (.seq (.reg zMsz)
 .ret) .skip))
 (.seq (.reg zE0X)
 (.seq (.seq (.reg zHYW)
 (.cond 76 (.seq (.reg ziRt)
 .ret) .skip))
 (.seq (.reg zgjR)
 .ret)))))))) }
abbrev z0Hz : Reg := ⟨[.p (.bxi (.v 0)), .p (.bxi (.v 1)), .p (.mv (.c (.bool false)))], [(3, 2), (4, 1)], [0, 1, 12], none⟩
abbrev zh9j : Reg := ⟨[.p (.ldi (.v 3) (some 10)), .p (.cal zHyK [(.t 0)]), .p (.not (.t 0)), .t 0, .y 0 (.ldi (.v 4) (some 10)), .y 1 (.cal zHyK [(.t 0)]), .y 2 (.not (.t 0)), .p (.pick (.t 3) (.c (.bool true)) (.t 0)), .t 0, .y 0 (.mv (.v 2)), .y 1 (.len (.t 0)), .y 2 (.bin .gtr (.t 0) (.c (.int (60)))), .p (.pick (.t 3) (.c (.bool true)) (.t 0))], [], [], some (26, 0)⟩
abbrev z7NI : Reg := ⟨[.p (.cal zfV6 []), .t 0], [(12, 0)], [2, 3, 4], none⟩
abbrev zPVB : Reg := ⟨[.p (.ldi (.v 3) (some 10)), .p (.ldi (.v 4) (some 10)), .p (.cal znwB [(.t 1), (.t 0)]), .t 0, .p (.ext (.t 0) 0), .p (.ext (.t 1) 1), .p (.ext (.t 2) 2), .t 2, .t 2, .t 2], [(6, 2), (7, 1), (5, 0)], [], none⟩
abbrev zfpB : Reg := ⟨[.v 5, .p (.bin .neq (.t 0) (.c (.int (0))))], [], [5], some (36, 0)⟩
abbrev z9f0 : Reg := ⟨[.v 6, .p (.len (.t 0)), .p (.bin .eql (.t 0) (.c (.int (0)))), .t 0, .x 0 (.mv (.v 7)), .x 1 (.not (.t 0)), .p (.pick (.t 2) (.t 0) (.c (.bool false))), .t 0, .x 0 (.cal zfV6 []), .p (.pick (.t 1) (.t 0) (.c (.bool false))), .t 0], [(12, 0)], [2, 3, 4, 6, 7], none⟩
abbrev zimk : Reg := ⟨[.v 7, .t 0, .x 0 (.ldi (.v 3) (some 10)), .x 1 (.mv (.v 6)), .x 2 (.cal zYu2 [(.t 1), (.t 0)]), .x 3 (.not (.t 0)), .x 4 (.mv (.t 0)), .y 0 (.fad (.v 3) 5 none), .y 1 (.ldi (.t 0) none), .y 2 (.ldi (.v 3) (some 10)), .y 3 (.fad (.v 3) 4 none), .y 4 (.ldi (.t 0) none), .y 5 (.mv (.v 6)), .y 6 (.cal zb98 [(.t 3), (.t 1), (.t 0)]), .y 7 (.iad (.t 5) (.t 0) 1), .y 8 (.ldi (.t 0) none), .y 9 (.fad (.v 4) 5 none), .y 10 (.ldi (.t 0) none), .y 11 (.ldi (.v 4) (some 10)), .y 12 (.fad (.v 4) 4 none), .y 13 (.ldi (.t 0) none), .y 14 (.mv (.v 6)), .y 15 (.cal zb98 [(.t 3), (.t 1), (.t 0)]), .y 16 (.iad (.t 5) (.t 0) 1), .y 17 (.ldi (.t 0) none), .y 18 (.beq false (.t 9) (.t 0)), .x 24 (.pick (.t 19) (.c (.bool true)) (.t 0)), .p (.pick (.t 25) (.t 0) (.c (.bool false)))], [], [], some (74, 0)⟩
abbrev zpyD : Reg := ⟨[.p (.mv (.c (.bool false)))], [(12, 0)], [2, 3, 4, 6, 7], none⟩
abbrev zcDK : Reg := ⟨[.p (.ldi (.v 3) (some 10)), .v 2, .p (.cal zWb8 [(.t 1), (.t 0)]), .t 0, .p (.ext (.t 0) 0), .p (.ext (.t 1) 1), .t 1, .t 1], [(10, 1), (8, 0)], [3], none⟩
abbrev z9CQ : Reg := ⟨[.p (.ldi (.v 4) (some 10)), .v 2, .p (.cal zWb8 [(.t 1), (.t 0)]), .t 0, .p (.ext (.t 0) 0), .p (.ext (.t 1) 1), .t 1, .t 1], [(11, 1), (9, 0)], [4], none⟩
abbrev zCQg : Reg := ⟨[.v 8, .p (.bin .eql (.t 0) (.c (.int (0)))), .t 0, .x 0 (.mv (.v 9)), .x 1 (.bin .eql (.t 0) (.c (.int (0)))), .p (.pick (.t 2) (.t 0) (.c (.bool false))), .t 0, .x 0 (.mv (.v 10)), .x 1 (.mv (.v 11)), .x 2 (.beq true (.t 1) (.t 0)), .p (.pick (.t 3) (.t 0) (.c (.bool false))), .t 0, .x 0 (.mv (.v 7)), .x 1 (.not (.t 0)), .x 2 (.mv (.t 0)), .y 0 (.mv (.v 6)), .y 1 (.mv (.v 2)), .y 2 (.cal zIk1 [(.t 1), (.t 0)]), .y 3 (.bin .gtr (.t 0) (.c (.int (0)))), .x 7 (.pick (.t 4) (.c (.bool true)) (.t 0)), .p (.pick (.t 8) (.t 0) (.c (.bool false)))], [], [2, 6, 7, 8, 9, 10, 11], some (107, 0)⟩
abbrev zWxl : Reg := ⟨[.p (.mv (.c (.bool false)))], [(12, 0)], [], none⟩
abbrev zZzM : Reg := ⟨[.p (.cal zfV6 []), .t 0], [(12, 0)], [], none⟩
abbrev zyy1 : Fn := { np := 3, nv := 13, res := [(12, none)], body :=
(.seq (.reg z0Hz)
 (.seq (.seq (.reg zh9j)
 (.cond 26 (.seq (.reg z7NI)
 .ret) .skip))
 (.seq (.reg zPVB)
 (.seq (.seq (.reg zfpB)
 (.cond 36 (.seq (.reg z9f0)
 .ret) .skip))
 (.seq (.seq (.reg zimk)
 (.cond 74 (.seq (.reg zpyD)
 .ret) .skip))
 (.seq (.reg zcDK)
 (.seq (.reg z9CQ)
 (.seq (.seq (.reg zCQg)
 (.cond 107 (.seq (.reg zWxl)
 .ret) .skip))
 (.seq (.reg zZzM)
 .ret))))))))) }
abbrev z9cf : Reg := ⟨[.p (.bxi (.v 0)), .p (.mv (.c (.bool false)))], [(1, 1)], [0, 2], none⟩
abbrev zSgy : Reg := ⟨[.p (.fad (.v 1) 5 none), .p (.ldi (.t 0) none), .p (.len (.t 0)), .p (.bin .leq (.t 0) (.c (.int (5)))), .t 0, .x 0 (.fad (.v 1) 3 none), .x 1 (.ldi (.t 0) none), .x 2 (.bin .leq (.t 0) (.c (.int (6)))), .p (.pick (.t 3) (.t 0) (.c (.bool false))), .t 0, .x 0 (.fad (.v 1) 0 none), .x 1 (.ldi (.t 0) none), .x 2 (.bin .leq (.t 0) (.c (.int (6)))), .p (.pick (.t 3) (.t 0) (.c (.bool false))), .t 0, .x 0 (.fad (.v 1) 1 none), .x 1 (.ldi (.t 0) none), .x 2 (.bin .leq (.t 0) (.c (.int (6)))), .p (.pick (.t 3) (.t 0) (.c (.bool false))), .t 0, .x 0 (.fad (.v 1) 2 none), .x 1 (.ldi (.t 0) none), .x 2 (.bin .leq (.t 0) (.c (.int (6)))), .p (.pick (.t 3) (.t 0) (.c (.bool false))), .t 0, .x 0 (.fad (.v 1) 0 none), .x 1 (.ldi (.t 0) none), .x 2 (.fad (.v 1) 1 none), .x 3 (.ldi (.t 0) none), .x 4 (.bin .addw (.t 2) (.t 0)), .x 5 (.fad (.v 1) 2 none), .x 6 (.ldi (.t 0) none), .x 7 (.bin .addw (.t 2) (.t 0)), .x 8 (.bin .leq (.t 0) (.c (.int (6)))), .p (.pick (.t 9) (.t 0) (.c (.bool false))), .t 0], [(2, 0)], [1], none⟩
abbrev zYVP : Fn := { np := 1, nv := 3, res := [(2, none)], body :=
(.seq (.reg z9cf)
 (.seq (.reg zSgy)
 .ret)) }
abbrev zVHC : Reg := ⟨[.p (.mv (.c (.bool false)))], [], [15], none⟩
abbrev zAcd : Reg := ⟨[.p (.cal z9Gn []), .p (.liti [(.c (.int (0))), (.c (.int (1))), (.c (.int (3))), (.c (.int (2)))] 1), .p (.cal zWb8 [(.t 1), (.t 0)]), .t 0, .p (.ext (.t 0) 0), .p (.ext (.t 1) 1), .t 1, .t 1], [(7, 1), (1, 0)], [], none⟩
abbrev zlDW : Reg := ⟨[.p (.cal z9Gn []), .p (.liti [(.c (.int (0))), (.c (.int (3)))] 1), .p (.cal zWb8 [(.t 1), (.t 0)]), .t 0, .p (.ext (.t 0) 0), .p (.ext (.t 1) 1), .t 1, .t 1], [(8, 1), (2, 0)], [], none⟩
abbrev z4S4 : Reg := ⟨[.p (.cal z9Gn []), .p (.liti [(.c (.int (0)))] 1), .p (.cal zWb8 [(.t 1), (.t 0)]), .t 0, .p (.ext (.t 0) 0), .p (.ext (.t 1) 1), .t 1, .t 1], [(9, 1), (3, 0)], [], none⟩
abbrev z4rx : Reg := ⟨[.p (.cal z9Gn []), .p (.cal ziIl [(.t 0)]), .t 0, .p (.ext (.t 0) 0), .p (.ext (.t 1) 1), .t 1, .t 1], [(13, 1), (4, 0)], [], none⟩
abbrev z1T2 : Reg := ⟨[.p (.cal z9Gn []), .p (.cal zZ8T [(.t 0)]), .t 0, .p (.ext (.t 0) 0), .p (.ext (.t 1) 1), .p (.ext (.t 2) 2), .t 2, .t 2, .t 2], [(12, 2), (10, 1), (5, 0)], [], none⟩
abbrev z8VD : Reg := ⟨[.p (.cal z9Gn []), .p (.alc [.int 0, .int 0, .int 0, .int 0, .int 0, .snil, .snil, .snil, .snil, .snil] (some 10)), .p (.st (.t 0) (.t 1) 10)], [(0, 1)], [], none⟩
abbrev zWGp : Reg := ⟨[.p (.liti [(.c (.bool true)), (.c (.bool true))] 1), .p (.fad (.v 0) 5 none), .p (.st (.t 0) (.t 1) 1)], [], [], none⟩
abbrev zGj9 : Reg := ⟨[.p (.cal z9Gn []), .p (.ld (.v 0) (some 10)), .p (.cal znwB [(.t 1), (.t 0)]), .t 0, .p (.ext (.t 0) 0), .p (.ext (.t 1) 1), .p (.ext (.t 2) 2), .t 2, .t 2, .t 2], [(14, 2), (11, 1), (6, 0)], [0], none⟩
abbrev zhOe : Reg := ⟨[.v 1, .p (.bin .neq (.t 0) (.c (.int (0)))), .t 0, .y 0 (.mv (.v 2)), .y 1 (.bin .neq (.t 0) (.c (.int (0)))), .p (.pick (.t 2) (.c (.bool true)) (.t 0)), .t 0, .y 0 (.mv (.v 3)), .y 1 (.bin .neq (.t 0) (.c (.int (0)))), .p (.pick (.t 2) (.c (.bool true)) (.t 0)), .t 0, .y 0 (.mv (.v 4)), .y 1 (.bin .neq (.t 0) (.c (.int (0)))), .p (.pick (.t 2) (.c (.bool true)) (.t 0)), .t 0, .y 0 (.mv (.v 5)), .y 1 (.bin .neq (.t 0) (.c (.int (0)))), .p (.pick (.t 2) (.c (.bool true)) (.t 0)), .t 0, .y 0 (.mv (.v 6)), .y 1 (.bin .neq (.t 0) (.c (.int (0)))), .p (.pick (.t 2) (.c (.bool true)) (.t 0)), .t 0, .y 0 (.mv (.v 7)), .y 1 (.not (.t 0)), .p (.pick (.t 2) (.c (.bool true)) (.t 0)), .t 0, .y 0 (.mv (.v 8)), .p (.pick (.t 1) (.c (.bool true)) (.t 0)), .t 0, .y 0 (.mv (.v 9)), .p (.pick (.t 1) (.c (.bool true)) (.t 0)), .t 0, .y 0 (.mv (.v 10)), .y 1 (.not (.t 0)), .p (.pick (.t 2) (.c (.bool true)) (.t 0)), .t 0, .y 0 (.mv (.v 11)), .y 1 (.not (.t 0)), .p (.pick (.t 2) (.c (.bool true)) (.t 0)), .t 0, .y 0 (.mv (.v 12)), .y 1 (.len (.t 0)), .y 2 (.bin .neq (.t 0) (.c (.int (0)))), .p (.pick (.t 3) (.c (.bool true)) (.t 0))], [], [1, 2, 3, 4, 5, 6, 7, 8, 9, 10, 11, 12], some (99, 0)⟩
abbrev zjGv : Reg := ⟨[.p (.mv (.c (.bool false)))], [(15, 0)], [13, 14], none⟩
abbrev zRiL : Reg := ⟨[.v 13, .p (.liti [(.c (.bool true)), (.c (.bool true))] 1), .p (.liti [(.c (.bool false)), (.c (.bool true))] 1), .p (.liti [(.t 1), (.t 0)] 1), .p (.cal zO8E [(.t 3), (.t 0)]), .t 0, .x 0 (.mv (.v 14)), .x 1 (.liti [(.c (.int (0))), (.c (.int (3)))] 1), .x 2 (.cal z1aV [(.t 1), (.t 0)]), .p (.pick (.t 3) (.t 0) (.c (.bool false))), .t 0, .x 0 (.cal z9Gn []), .x 1 (.liti [(.c (.int (0))), (.c (.int (3)))] 1), .x 2 (.cal zXJR [(.t 1), (.t 0)]), .p (.pick (.t 3) (.t 0) (.c (.bool false))), .t 0, .x 0 (.cal z9Gn []), .x 1 (.liti [(.c (.int (0)))] 1), .x 2 (.cal zXJR [(.t 1), (.t 0)]), .x 3 (.not (.t 0)), .p (.pick (.t 4) (.t 0) (.c (.bool false))), .t 0, .x 0 (.cal z9Gn []), .x 1 (.cal zwyK [(.t 0)]), .x 2 (.bin .eql (.t 0) (.c (.int (0)))), .p (.pick (.t 3) (.t 0) (.c (.bool false))), .t 0], [(15, 0)], [13, 14], none⟩
abbrev zVsD : Fn := { np := 0, nv := 16, res := [(15, none)], body :=
(.seq (.reg zVHC)
 (.seq (.reg zAcd)
 (.seq (.reg zlDW)
 (.seq (.reg z4S4)
 (.seq (.reg z4rx)
 (.seq (.reg z1T2)
 (.seq (.reg z8VD)
 (.seq (.reg zWGp)
 (.seq (.reg zGj9)
 (.seq (.seq (.reg zhOe)
 (.cond 99 (.seq (.reg zjGv)
 .ret) .skip))
 (.seq (.reg zRiL)
 .ret))))))))))) }
abbrev zhv5 : Reg := ⟨[.p (.bxi (.v 0)), .p (.mv (.c (.snil))), .p (.mv (.c (.bool false))), .p (.mv (.c (.int (0))))], [(1, 3)], [0, 3, 4, 5], none⟩
abbrev zzZb : Reg := ⟨[.p (.ldi (.v 1) (some 10)), .p (.cal zwyK [(.t 0)]), .t 0], [(2, 0)], [], none⟩
abbrev zQzQ : Reg := ⟨[.v 2, .p (.bin .neq (.t 0) (.c (.int (0))))], [], [], some (9, 0)⟩
abbrev z4mG : Reg := ⟨[.v 2, .p (.mv (.c (.snil))), .p (.mv (.c (.bool false))), .t 2], [(3, 2), (4, 1), (5, 0)], [1, 2], none⟩
abbrev zB0z : Reg := ⟨[.p (.ldi (.v 1) (some 10)), .p (.bld [.int 0, .int 0, .int 0, .int 0, .int 0, .snil, .snil, .snil, .snil, .snil] [(0, 10, (.t 0))]), .p (.mki zwN8 (.t 0)), .p (.ldi (.v 1) (some 10)), .p (.fad (.v 1) 4 none), .p (.ldi (.t 0) none), .p (.fad (.v 1) 5 none), .p (.ldi (.t 0) none), .p (.cal zDXm [(.t 5), (.t 4), (.t 2), (.t 0)]), .p (.ext (.t 0) 0), .p (.ext (.t 1) 1), .p (.ext (.t 2) 2), .t 2, .t 2, .t 2], [(3, 2), (4, 1), (5, 0)], [1, 2], none⟩
abbrev zlRj : Fn := { np := 1, nv := 6, res := [(3, none), (4, none), (5, none)], body :=
(.seq (.reg zhv5)
 (.seq (.seq (.reg zzZb)
 (.seq (.reg zQzQ)
 (.cond 9 (.seq (.reg z4mG)
 .ret) .skip)))
 (.seq (.reg zB0z)
 .ret))) }
abbrev zyLB : Reg := ⟨[.p (.bxi (.v 0)), .p (.mv (.c (.snil))), .p (.mv (.c (.bool false))), .p (.mv (.c (.int (0))))], [(1, 3)], [0, 3, 4, 5], none⟩
abbrev zchE : Reg := ⟨[.p (.ldi (.v 1) (some 10)), .p (.cal zvYE [(.t 0)]), .t 0], [(2, 0)], [], none⟩
abbrev ztNr : Reg := ⟨[.v 2, .p (.bin .neq (.t 0) (.c (.int (0))))], [], [], some (9, 0)⟩
abbrev zpcN : Reg := ⟨[.v 2, .p (.mv (.c (.snil))), .p (.mv (.c (.bool false))), .t 2], [(3, 2), (4, 1), (5, 0)], [1, 2], none⟩
abbrev z6rn : Reg := ⟨[.p (.ldi (.v 1) (some 10)), .p (.cal z1qE [(.t 0)]), .p (.ext (.t 0) 0), .p (.ext (.t 1) 1), .p (.ext (.t 2) 2), .t 2, .t 2, .t 2], [(3, 2), (4, 1), (5, 0)], [1, 2], none⟩
abbrev zxLy : Fn := { np := 1, nv := 6, res := [(3, none), (4, none), (5, none)], body :=
(.seq (.reg zyLB)
 (.seq (.seq (.reg zchE)
 (.seq (.reg ztNr)
 (.cond 9 (.seq (.reg zpcN)
 .ret) .skip)))
 (.seq (.reg z6rn)
 .ret))) }
abbrev zocE : Reg := ⟨[.p (.mv (.c (.bool false)))], [], [3], none⟩
abbrev zYA8 : Reg := ⟨[.v 0, .p (.len (.t 0)), .v 1, .p (.len (.t 0)), .p (.bin .neq (.t 2) (.t 0))], [], [], some (10, 0)⟩
abbrev zG6G : Reg := ⟨[.p (.mv (.c (.bool false)))], [(3, 0)], [0, 1], none⟩
abbrev z6mo : Reg := ⟨[.p (.mv (.c (.int (0))))], [(2, 0)], [], none⟩
abbrev z8vu : Reg := ⟨[.v 2, .v 0, .p (.len (.t 0)), .p (.bin .lss (.t 2) (.t 0))], [], [], some (14, 0)⟩
abbrev zPKt : Reg := ⟨[.v 0, .v 2, .p (.iad (.t 1) (.t 0) 1), .p (.ld (.t 0) none), .v 1, .v 2, .p (.iad (.t 1) (.t 0) 1), .p (.ld (.t 0) none), .p (.bin .neq (.t 4) (.t 0))], [], [], some (25, 0)⟩
abbrev zTTm : Reg := ⟨[.p (.mv (.c (.bool false)))], [(3, 0)], [0, 1, 2], none⟩
abbrev zTFW : Reg := ⟨[.v 2, .p (.bin .add (.t 0) (.c (.int (1)))), .t 0], [(2, 0)], [], none⟩
abbrev zZBV : IC := (.seq (.seq (.reg z8vu)
 (.cond 14 .skip (.exit 0)))
 (.seq (.block 1 (.seq (.reg zPKt)
 (.cond 25 (.seq (.reg zTTm)
 .ret) .skip)))
 (.reg zTFW)))
abbrev zdjQ : Reg := ⟨[.p (.mv (.c (.bool true)))], [(3, 0)], [0, 1, 2], none⟩
abbrev zImi : Fn := { np := 2, nv := 4, res := [(3, none)], body :=
(.seq (.reg zocE)
 (.seq (.seq (.reg zYA8)
 (.cond 10 (.seq (.reg zG6G)
 .ret) .skip))
 (.seq (.seq (.reg z6mo)
 (.block 0 (.loop zZBV)))
 (.seq (.reg zdjQ)
 .ret)))) }
abbrev z9LD : Reg := ⟨[.p (.bxi (.v 0)), .p (.bxi (.v 1)), .p (.mv (.c (.snil))), .p (.mv (.c (.bool false))), .p (.mv (.c (.int (0))))], [(2, 4), (4, 3)], [0, 1, 13, 14, 15], none⟩
abbrev zZFE : Reg := ⟨[.p (.ldi (.v 2) (some 10)), .p (.cal zwyK [(.t 0)]), .t 0], [(3, 0)], [], none⟩
abbrev zvP5 : Reg := ⟨[.v 3, .p (.bin .neq (.t 0) (.c (.int (0))))], [], [], some (17, 0)⟩
abbrev zWc4 : Reg := ⟨[.v 3, .p (.mv (.c (.snil))), .p (.mv (.c (.bool false))), .t 2], [(13, 2), (14, 1), (15, 0)], [2, 3, 4], none⟩
abbrev zYm0 : Reg := ⟨[.p (.ldi (.v 4) (some 10)), .p (.cal zwyK [(.t 0)]), .t 0], [(5, 0)], [3], none⟩
abbrev zTIZ : Reg := ⟨[.v 5, .p (.bin .neq (.t 0) (.c (.int (0))))], [], [], some (22, 0)⟩
abbrev zsCj : Reg := ⟨[.v 5, .p (.mv (.c (.snil))), .p (.mv (.c (.bool false))), .t 2], [(13, 2), (14, 1), (15, 0)], [2, 4, 5], none⟩
abbrev zJ6A : Reg := ⟨[.p (.fad (.v 2) 0 none), .p (.ldi (.t 0) none), .p (.fad (.v 4) 0 none), .p (.ldi (.t 0) none), .p (.bin .neq (.t 2) (.t 0)), .t 0, .y 0 (.fad (.v 2) 1 none), .y 1 (.ldi (.t 0) none), .y 2 (.fad (.v 4) 1 none), .y 3 (.ldi (.t 0) none), .y 4 (.bin .neq (.t 2) (.t 0)), .p (.pick (.t 5) (.c (.bool true)) (.t 0)), .t 0, .y 0 (.fad (.v 2) 2 none), .y 1 (.ldi (.t 0) none), .y 2 (.fad (.v 4) 2 none), .y 3 (.ldi (.t 0) none), .y 4 (.bin .neq (.t 2) (.t 0)), .p (.pick (.t 5) (.c (.bool true)) (.t 0))], [], [5], some (42, 0)⟩
abbrev zR9L : Reg := ⟨[.p (.mv (.c (.snil))), .p (.mv (.c (.bool false))), .p (.mv (.c (.int (15))))], [(13, 2), (14, 1), (15, 0)], [2, 4], none⟩
abbrev zDz3 : Reg := ⟨[.p (.fad (.v 2) 5 none), .p (.ldi (.t 0) none), .p (.len (.t 0)), .p (.fad (.v 4) 5 none), .p (.ldi (.t 0) none), .p (.len (.t 0)), .p (.bin .mul (.t 3) (.t 0)), .p (.bin .gtr (.t 0) (.c (.int (144)))), .t 0, .y 0 (.fad (.v 2) 3 none), .y 1 (.ldi (.t 0) none), .y 2 (.fad (.v 4) 3 none), .y 3 (.ldi (.t 0) none), .y 4 (.bin .mul (.t 2) (.t 0)), .y 5 (.bin .gtr (.t 0) (.c (.int (1024)))), .p (.pick (.t 6) (.c (.bool true)) (.t 0))], [], [], some (58, 0)⟩
abbrev zB1H : Reg := ⟨[.p (.mv (.c (.snil))), .p (.mv (.c (.bool false))), .p (.mv (.c (.int (11))))], [(13, 2), (14, 1), (15, 0)], [2, 4], none⟩
abbrev ziDM : Reg := ⟨[.p (.ldi (.v 2) (some 10)), .p (.bld [.int 0, .int 0, .int 0, .int 0, .int 0, .snil, .snil, .snil, .snil, .snil] [(0, 10, (.t 0))]), .p (.ldi (.v 4) (some 10)), .p (.bld [.int 0, .int 0, .int 0, .int 0, .int 0, .snil, .snil, .snil, .snil, .snil] [(0, 10, (.t 0))]), .p (.bld [.int 0, .int 0, .int 0, .int 0, .int 0, .snil, .snil, .snil, .snil, .snil, .int 0, .int 0, .int 0, .int 0, .int 0, .snil, .snil, .snil, .snil, .snil] [(0, 10, (.t 2)), (10, 10, (.t 0))]), .p (.alc0 20), .p (.ini (.t 0) (.t 1) 20)], [(6, 0)], [], none⟩
abbrev zpUX : Reg := ⟨[.p (.ldi (.v 6) (some 20)), .p (.cal zmNm [(.t 0)]), .p (.mks (.t 0) (.t 0) [.bool false] none), .t 0], [(7, 0)], [], none⟩
abbrev zQfY : Reg := ⟨[.v 7, .p (.len (.t 0)), .p (.mv (.c (.int (0))))], [(9, 1), (8, 0)], [], none⟩
abbrev zWiG : Reg := ⟨[.p (.bin .lss (.v 8) (.v 9))], [], [], some (70, 0)⟩
abbrev zOKz : Reg := ⟨[.v 8, .t 0], [(10, 0)], [], none⟩
abbrev z4U5 : Reg := ⟨[.p (.ldi (.v 6) (some 20)), .v 10, .p (.cal z6RY [(.t 1), (.t 0)]), .t 0, .p (.ext (.t 0) 0), .p (.ext (.t 1) 1), .t 1, .t 1], [(11, 1), (12, 0)], [], none⟩
abbrev zB4Y : Reg := ⟨[.v 7, .v 10, .p (.fad (.v 2) 5 none), .p (.ldi (.t 0) none), .v 11, .p (.iad (.t 1) (.t 0) 1), .p (.ldi (.t 0) none), .p (.fad (.v 4) 5 none), .p (.ldi (.t 0) none), .v 12, .p (.iad (.t 1) (.t 0) 1), .p (.ldi (.t 0) none), .p (.beq true (.t 5) (.t 0)), .p (.iad (.t 12) (.t 11) 1), .p (.st (.t 0) (.t 1) 1)], [], [10, 11, 12], none⟩
abbrev z4sP : Reg := ⟨[.p (.bin .add (.v 8) (.c (.int (1)))), .t 0], [(8, 0)], [], none⟩
abbrev zPBe : IC := (.seq (.reg zWiG)
 (.seq (.cond 70 .skip (.exit 0))
 (.seq (.block 1 (.seq (.reg zOKz)
 (.seq (.reg z4U5)
 (.reg zB4Y))))
 (.reg z4sP))))
abbrev z2ZJ : Reg := ⟨[.p (.ldi (.v 6) (some 20)), .p (.mki zZPs (.t 0)), .p (.ldi (.v 2) (some 10)), .p (.fad (.v 2) 4 none), .p (.ldi (.t 0) none), .p (.fad (.v 6) 10 (some 10)), .p (.ldi (.t 0) (some 10)), .p (.cal zFCU [(.t 0)]), .p (.bin .mul (.t 3) (.t 0)), .p (.fad (.v 4) 4 none), .p (.ldi (.t 0) none), .p (.bin .add (.t 2) (.t 0)), .v 7, .p (.cal zDXm [(.t 11), (.t 10), (.t 1), (.t 0)]), .p (.ext (.t 0) 0), .p (.ext (.t 1) 1), .p (.ext (.t 2) 2), .t 2, .t 2, .t 2], [(13, 2), (14, 1), (15, 0)], [2, 4, 6, 7, 8, 9], none⟩
abbrev zzBs : Fn := { np := 2, nv := 16, res := [(13, none), (14, none), (15, none)], body :=
(.seq (.reg z9LD)
 (.seq (.seq (.reg zZFE)
 (.seq (.reg zvP5)
 (.cond 17 (.seq (.reg zWc4)
 .ret) .skip)))
 (.seq (.seq (.reg zYm0)
 (.seq (.reg zTIZ)
 (.cond 22 (.seq (.reg zsCj)
 .ret) .skip)))
 (.seq (.seq (.reg zJ6A)
 (.cond 42 (.seq (.reg zR9L)
 .ret) .skip))
 (.seq (.seq (.reg zDz3)
 (.cond 58 (.seq (.reg zB1H)
 .ret) .skip))
 (.seq (.reg ziDM)
 (.seq (.reg zpUX)
 (.seq (.seq (.reg zQfY)
 (.seq (.block 0 (.loop zPBe)) (.frz 7)))
 (.seq (.reg z2ZJ)
 .ret))))))))) }
abbrev z7h3 : Reg := ⟨[.p (.bxi (.v 0)), .p (.bxi (.v 1)), .p (.mv (.c (.snil))), .p (.mv (.c (.bool false))), .p (.mv (.c (.int (0))))], [(2, 4), (4, 3)], [0, 1, 6, 7, 8], none⟩
abbrev zYG9 : Reg := ⟨[.p (.ldi (.v 2) (some 10)), .p (.cal zvYE [(.t 0)]), .t 0], [(3, 0)], [], none⟩
abbrev z6Er : Reg := ⟨[.v 3, .p (.bin .neq (.t 0) (.c (.int (0))))], [], [], some (12, 0)⟩
abbrev zvHf : Reg := ⟨[.v 3, .p (.mv (.c (.snil))), .p (.mv (.c (.bool false))), .t 2], [(6, 2), (7, 1), (8, 0)], [2, 3, 4], none⟩
abbrev zy3N : Reg := ⟨[.p (.ldi (.v 4) (some 10)), .p (.cal zvYE [(.t 0)]), .t 0], [(5, 0)], [3], none⟩
abbrev zBQF : Reg := ⟨[.v 5, .p (.bin .neq (.t 0) (.c (.int (0))))], [], [], some (17, 0)⟩
abbrev zZPG : Reg := ⟨[.v 5, .p (.mv (.c (.snil))), .p (.mv (.c (.bool false))), .t 2], [(6, 2), (7, 1), (8, 0)], [2, 4, 5], none⟩
abbrev zEqT : Reg := ⟨[.p (.fad (.v 2) 0 none), .p (.ldi (.t 0) none), .p (.fad (.v 4) 0 none), .p (.ldi (.t 0) none), .p (.bin .neq (.t 2) (.t 0)), .t 0, .y 0 (.fad (.v 2) 1 none), .y 1 (.ldi (.t 0) none), .y 2 (.fad (.v 4) 1 none), .y 3 (.ldi (.t 0) none), .y 4 (.bin .neq (.t 2) (.t 0)), .p (.pick (.t 5) (.c (.bool true)) (.t 0)), .t 0, .y 0 (.fad (.v 2) 2 none), .y 1 (.ldi (.t 0) none), .y 2 (.fad (.v 4) 2 none), .y 3 (.ldi (.t 0) none), .y 4 (.bin .neq (.t 2) (.t 0)), .p (.pick (.t 5) (.c (.bool true)) (.t 0))], [], [5], some (37, 0)⟩
abbrev zV3i : Reg := ⟨[.p (.mv (.c (.snil))), .p (.mv (.c (.bool false))), .p (.mv (.c (.int (15))))], [(6, 2), (7, 1), (8, 0)], [2, 4], none⟩
abbrev zMQI : Reg := ⟨[.p (.fad (.v 2) 5 none), .p (.ldi (.t 0) none), .p (.len (.t 0)), .p (.fad (.v 4) 5 none), .p (.ldi (.t 0) none), .p (.len (.t 0)), .p (.bin .mul (.t 3) (.t 0)), .p (.bin .gtr (.t 0) (.c (.int (144)))), .t 0, .y 0 (.fad (.v 2) 3 none), .y 1 (.ldi (.t 0) none), .y 2 (.fad (.v 4) 3 none), .y 3 (.ldi (.t 0) none), .y 4 (.bin .mul (.t 2) (.t 0)), .y 5 (.bin .gtr (.t 0) (.c (.int (1024)))), .p (.pick (.t 6) (.c (.bool true)) (.t 0))], [], [], some (53, 0)⟩
abbrev zwCc : Reg := ⟨[.p (.mv (.c (.snil))), .p (.mv (.c (.bool false))), .p (.mv (.c (.int (11))))], [(6, 2), (7, 1), (8, 0)], [2, 4], none⟩
abbrev zV0y : Reg := ⟨[.p (.ldi (.v 2) (some 10)), .p (.ldi (.v 4) (some 10)), .p (.cal zNb4 [(.t 1), (.t 0)]), .p (.cal z1qE [(.t 0)]), .p (.ext (.t 0) 0), .p (.ext (.t 1) 1), .p (.ext (.t 2) 2), .t 2, .t 2, .t 2], [(6, 2), (7, 1), (8, 0)], [2, 4], none⟩
abbrev zQ56 : Fn := { np := 2, nv := 9, res := [(6, none), (7, none), (8, none)], body :=
(.seq (.reg z7h3)
 (.seq (.seq (.reg zYG9)
 (.seq (.reg z6Er)
 (.cond 12 (.seq (.reg zvHf)
 .ret) .skip)))
 (.seq (.seq (.reg zy3N)
 (.seq (.reg zBQF)
 (.cond 17 (.seq (.reg zZPG)
 .ret) .skip)))
 (.seq (.seq (.reg zEqT)
 (.cond 37 (.seq (.reg zV3i)
 .ret) .skip))
 (.seq (.seq (.reg zMQI)
 (.cond 53 (.seq (.reg zwCc)
 .ret) .skip))
 (.seq (.reg zV0y)
 .ret)))))) }
abbrev zpDi : Reg := ⟨[.p (.bxi (.v 0)), .p (.mv (.c (.bool false)))], [(2, 1)], [0, 5], none⟩
abbrev zJIK : Reg := ⟨[.p (.ldi (.v 2) (some 10)), .p (.cal zvYE [(.t 0)]), .p (.bin .neq (.t 0) (.c (.int (0)))), .t 0, .y 0 (.mv (.v 1)), .y 1 (.ldi (.v 2) (some 10)), .y 2 (.cal zVDQ [(.t 0)]), .y 3 (.cal z0Tq [(.t 2), (.t 0)]), .y 4 (.bin .neq (.t 0) (.c (.int (0)))), .p (.pick (.t 5) (.c (.bool true)) (.t 0))], [], [], some (17, 0)⟩
abbrev z1EX : Reg := ⟨[.p (.mv (.c (.bool false)))], [(5, 0)], [1, 2], none⟩
abbrev zFhL : Reg := ⟨[.p (.ldi (.v 2) (some 10)), .v 1, .p (.cal zaUI [(.t 1), (.t 0)]), .t 0, .p (.ext (.t 0) 0), .p (.ext (.t 1) 1), .p (.ext (.t 2) 2), .t 2, .t 2, .t 2], [(3, 1), (4, 0)], [1, 2], none⟩
abbrev zfH7 : Reg := ⟨[.v 3, .p (.bin .eql (.t 0) (.c (.int (0)))), .t 0, .x 0 (.mv (.v 4)), .x 1 (.bin .eql (.t 0) (.c (.int (0)))), .p (.pick (.t 2) (.t 0) (.c (.bool false))), .t 0], [(5, 0)], [3, 4], none⟩
abbrev z1LK : Fn := { np := 2, nv := 6, res := [(5, none)], body :=
(.seq (.reg zpDi)
 (.seq (.seq (.reg zJIK)
 (.cond 17 (.seq (.reg z1EX)
 .ret) .skip))
 (.seq (.reg zFhL)
 (.seq (.reg zfH7)
 .ret)))) }
abbrev zRL5 : Reg := ⟨[.p (.bxi (.v 0)), .p (.mv (.c (.int (0))))], [(5, 1)], [0, 7], none⟩
abbrev za0G : Reg := ⟨[.p (.nl none)], [(6, 0)], [], none⟩
abbrev z80P : Reg := ⟨[.p (.mv (.c (.int (0))))], [(3, 0)], [], none⟩
abbrev zdib : Reg := ⟨[.v 3, .v 2, .p (.len (.t 0)), .p (.bin .lss (.t 2) (.t 0))], [], [], some (13, 0)⟩
abbrev zLRS : Reg := ⟨[.v 2, .v 3, .p (.iad (.t 1) (.t 0) 1), .p (.ld (.t 0) none), .t 0], [(4, 0)], [], none⟩
abbrev zPo0 : Reg := ⟨[.v 4, .p (.fad (.v 5) 0 none), .p (.ldi (.t 0) none), .p (.bin .lss (.t 2) (.t 0)), .t 0], [], [], some (47, 0)⟩
abbrev zVfV : Reg := ⟨[.v 6, .p (.fad (.v 5) 7 none), .p (.ldi (.t 0) none), .v 1, .p (.iad (.t 1) (.t 0) 1), .p (.ldi (.t 0) none), .v 4, .p (.iad (.t 1) (.t 0) 1), .p (.ldi (.t 0) none), .p (.lita [(.t 0)] 1), .p (.appw (.t 9) (.t 0) none), .t 0], [(6, 0)], [], none⟩
abbrev zvRe : Reg := ⟨[.p (.fad (.v 5) 6 none), .p (.ldi (.t 0) none), .v 1, .p (.iad (.t 1) (.t 0) 1), .p (.ldi (.t 0) none), .v 4, .p (.iad (.t 1) (.t 0) 1), .p (.ldi (.t 0) none), .t 0], [(1, 0)], [4], none⟩
abbrev zvk3 : Reg := ⟨[.v 4, .p (.fad (.v 5) 0 none), .p (.ldi (.t 0) none), .p (.fad (.v 5) 1 none), .p (.ldi (.t 0) none), .p (.bin .add (.t 2) (.t 0)), .p (.bin .lss (.t 5) (.t 0)), .t 0], [], [], some (71, 0)⟩
abbrev zXLD : Reg := ⟨[.p (.fad (.v 5) 8 none), .p (.ldi (.t 0) none), .v 1, .p (.iad (.t 1) (.t 0) 1), .p (.ldi (.t 0) none), .v 4, .p (.fad (.v 5) 0 none), .p (.ldi (.t 0) none), .p (.bin .sub (.t 2) (.t 0)), .p (.iad (.t 4) (.t 0) 1), .p (.ldi (.t 0) none), .t 0], [(1, 0)], [4], none⟩
abbrev zx2H : Reg := ⟨[.p (.fad (.v 5) 9 none), .p (.ldi (.t 0) none), .v 1, .p (.iad (.t 1) (.t 0) 1), .p (.ldi (.t 0) none), .v 6, .v 6, .p (.len (.t 0)), .p (.bin .sub (.t 0) (.c (.int (1)))), .p (.iad (.t 3) (.t 0) 1), .p (.ld (.t 0) none), .p (.iad (.t 6) (.t 0) 1), .p (.ldi (.t 0) none), .v 4, .p (.fad (.v 5) 0 none), .p (.ldi (.t 0) none), .p (.bin .sub (.t 2) (.t 0)), .p (.fad (.v 5) 1 none), .p (.ldi (.t 0) none), .p (.bin .sub (.t 2) (.t 0)), .p (.iad (.t 7) (.t 0) 1), .p (.ldi (.t 0) none), .t 0], [(1, 0)], [4], none⟩
abbrev zHLs : Reg := ⟨[.v 6, .v 6, .p (.len (.t 0)), .p (.bin .sub (.t 0) (.c (.int (1)))), .p (.slc (.t 3) none (some (.t 0)) 1), .t 0], [(6, 0)], [], none⟩
abbrev z19a : Reg := ⟨[.v 3, .p (.bin .add (.t 0) (.c (.int (1)))), .t 0], [(3, 0)], [], none⟩
abbrev zXHj : IC := (.seq (.seq (.reg zdib)
 (.cond 13 .skip (.exit 0)))
 (.seq (.block 1 (.seq (.reg zLRS)
 (.block 2 (.seq (.reg zPo0)
 (.cond 47 (.seq (.reg zVfV)
 (.reg zvRe)) (.seq (.reg zvk3)
 (.cond 71 (.reg zXLD) (.seq (.reg zx2H)
 (.reg zHLs)))))))))
 (.reg z19a)))
abbrev zGmD : Reg := ⟨[.v 1, .t 0], [(7, 0)], [1, 2, 3, 5, 6], none⟩
abbrev zSZ1 : Fn := { np := 3, nv := 8, res := [(7, none)], body :=
(.seq (.reg zRL5)
 (.seq (.reg za0G)
 (.seq (.seq (.reg z80P)
 (.block 0 (.loop zXHj)))
 (.seq (.reg zGmD)
 .ret)))) }
abbrev z7GZ : Reg := ⟨[.p (.bxi (.v 0)), .p (.mv (.c (.bool false))), .p (.mv (.c (.int (0))))], [(2, 2)], [0, 16, 17], none⟩
abbrev zd6e : Reg := ⟨[.p (.ldi (.v 2) (some 10)), .p (.cal zwyK [(.t 0)]), .t 0], [(3, 0)], [], none⟩
abbrev zDv9 : Reg := ⟨[.v 3, .p (.bin .neq (.t 0) (.c (.int (0))))], [], [], some (20, 0)⟩
abbrev zMFR : Reg := ⟨[.v 3, .p (.mv (.c (.bool false))), .t 1], [(16, 1), (17, 0)], [1, 2, 3], none⟩
abbrev zZQ1 : Reg := ⟨[.v 1, .p (.ldi (.v 2) (some 10)), .p (.cal z92w [(.t 0)]), .p (.cal zxtP [(.t 2), (.t 0)]), .t 0], [(4, 0)], [3], none⟩
abbrev z2Ax : Reg := ⟨[.v 4, .p (.bin .neq (.t 0) (.c (.int (0))))], [], [], some (27, 0)⟩
abbrev zJ3D : Reg := ⟨[.v 4, .p (.mv (.c (.bool false))), .t 1], [(16, 1), (17, 0)], [1, 2, 4], none⟩
abbrev zfak : Reg := ⟨[.p (.ldi (.v 2) (some 10)), .v 1, .p (.cal zA6r [(.t 1), (.t 0)]), .t 0, .p (.ext (.t 0) 0), .p (.ext (.t 1) 1), .t 1, .t 1], [(5, 1), (6, 0)], [4], none⟩
abbrev zLgl : Reg := ⟨[.v 5, .p (.bin .gtr (.t 0) (.c (.int (64))))], [], [5], some (36, 0)⟩
abbrev zKp4 : Reg := ⟨[.p (.mv (.c (.bool false))), .p (.mv (.c (.int (16))))], [(16, 1), (17, 0)], [1, 2, 6], none⟩
abbrev z8qB : Reg := ⟨[.v 6, .p (.not (.t 0))], [], [6], some (38, 0)⟩
abbrev z13y : Reg := ⟨[.p (.mv (.c (.bool false))), .p (.mv (.c (.int (0))))], [(16, 1), (17, 0)], [1, 2], none⟩
abbrev zo2Y : Reg := ⟨[.p (.alc [.snil] (some 1))], [(14, 0)], [], none⟩
abbrev zbmS : Reg := ⟨[.p (.ldi (.v 2) (some 10)), .p (.bld [.int 0, .int 0, .int 0, .int 0, .int 0, .snil, .snil, .snil, .snil, .snil] [(0, 10, (.t 0))]), .p (.alc0 10), .p (.ini (.t 0) (.t 1) 10)], [(11, 0)], [], none⟩
abbrev zsXd : Reg := ⟨[.p (.fad (.v 2) 4 none), .p (.ldi (.t 0) none), .t 0], [(12, 0)], [], none⟩
abbrev zMgO : Reg := ⟨[.v 1, .p (.len (.t 0)), .p (.mv (.c (.int (0))))], [(9, 2), (8, 1), (7, 0)], [1], none⟩
abbrev zEGq : Reg := ⟨[.p (.bin .lss (.v 7) (.v 8))], [], [], some (46, 0)⟩
abbrev zFZC : Reg := ⟨[.p (.iad (.v 9) (.v 7) 1), .p (.ld (.t 0) none), .t 0], [(10, 0)], [], none⟩
abbrev zPOZ : Reg := ⟨[.v 10, .p (.fad (.v 2) 0 none), .p (.ldi (.t 0) none), .p (.bin .lss (.t 2) (.t 0)), .t 0], [], [], some (60, 0)⟩
abbrev zWVP : Reg := ⟨[.p (.ldi (.v 11) (some 10)), .v 12, .v 10, .p (.cal zfSc [(.t 2), (.t 1), (.t 0)]), .t 0, .p (.ext (.t 0) 0), .p (.ext (.t 1) 1), .t 1, .t 1], [(15, 1), (13, 0)], [10, 12], none⟩
abbrev zTHU : Reg := ⟨[.v 13, .p (.cam zd1z [(.v 14), (.t 0)])], [], [13], none⟩
abbrev zq5A : Reg := ⟨[.v 15, .t 0], [(12, 0)], [15], none⟩
abbrev zlGe : Reg := ⟨[.v 10, .p (.fad (.v 2) 0 none), .p (.ldi (.t 0) none), .p (.fad (.v 2) 1 none), .p (.ldi (.t 0) none), .p (.bin .add (.t 2) (.t 0)), .p (.bin .lss (.t 5) (.t 0)), .t 0], [], [], some (75, 0)⟩
abbrev zP1x : Reg := ⟨[.p (.ldi (.v 11) (some 10)), .v 12, .v 10, .p (.fad (.v 2) 0 none), .p (.ldi (.t 0) none), .p (.bin .sub (.t 2) (.t 0)), .p (.cal zhMi [(.t 5), (.t 4), (.t 0)]), .t 0], [(12, 0)], [10], none⟩
abbrev z0zu : Reg := ⟨[.p (.ldi (.v 11) (some 10)), .v 12, .p (.cam zC7Z [(.v 14)]), .v 10, .p (.fad (.v 2) 0 none), .p (.ldi (.t 0) none), .p (.bin .sub (.t 2) (.t 0)), .p (.fad (.v 2) 1 none), .p (.ldi (.t 0) none), .p (.bin .sub (.t 2) (.t 0)), .p (.cal zNTN [(.t 9), (.t 8), (.t 7), (.t 0)]), .t 0], [(12, 0)], [10], none⟩
abbrev zXip : Reg := ⟨[.p (.bin .add (.v 7) (.c (.int (1)))), .t 0], [(7, 0)], [], none⟩
abbrev zGwA : IC := (.seq (.reg zEGq)
 (.seq (.cond 46 .skip (.exit 0))
 (.seq (.block 1 (.seq (.reg zFZC)
 (.block 2 (.seq (.reg zPOZ)
 (.cond 60 (.seq (.reg zWVP)
 (.seq (.reg zTHU)
 (.reg zq5A))) (.seq (.reg zlGe)
 (.cond 75 (.reg zP1x) (.reg z0zu))))))))
 (.reg zXip))))
abbrev zuKF : Reg := ⟨[.p (.fad (.v 2) 5 none), .p (.ldi (.t 0) none), .v 12, .p (.iad (.t 1) (.t 0) 1), .p (.ldi (.t 0) none), .t 0, .p (.mv (.c (.int (0))))], [(16, 1), (17, 0)], [2, 7, 8, 9, 11, 12, 14], none⟩
abbrev zf1k : Fn := { np := 2, nv := 18, res := [(16, none), (17, none)], body :=
(.seq (.reg z7GZ)
 (.seq (.seq (.reg zd6e)
 (.seq (.reg zDv9)
 (.cond 20 (.seq (.reg zMFR)
 .ret) .skip)))
 (.seq (.seq (.reg zZQ1)
 (.seq (.reg z2Ax)
 (.cond 27 (.seq (.reg zJ3D)
 .ret) .skip)))
 (.seq (.reg zfak)
 (.seq (.seq (.reg zLgl)
 (.cond 36 (.seq (.reg zKp4)
 .ret) .skip))
 (.seq (.seq (.reg z8qB)
 (.cond 38 (.seq (.reg z13y)
 .ret) .skip))
 (.seq (.reg zo2Y)
 (.seq (.reg zbmS)
 (.seq (.reg zsXd)
 (.seq (.seq (.reg zMgO)
 (.block 0 (.loop zGwA)))
 (.seq (.reg zuKF)
 .ret))))))))))) }
abbrev zKuy : Reg := ⟨[.p (.mv (.c (.int (0))))], [], [2], none⟩
abbrev zDBe : Reg := ⟨[.v 0, .p (.len (.t 0)), .v 1, .p (.len (.t 0)), .p (.bin .lss (.t 2) (.t 0))], [], [], some (9, 0)⟩
abbrev zOkU : Reg := ⟨[.p (.mv (.c (.int (-1))))], [(2, 0)], [0, 1], none⟩
abbrev zANA : Reg := ⟨[.v 0, .p (.len (.t 0)), .v 1, .p (.len (.t 0)), .p (.bin .gtr (.t 2) (.t 0))], [], [], some (14, 0)⟩
abbrev zUbf : Reg := ⟨[.p (.mv (.c (.int (1))))], [(2, 0)], [0, 1], none⟩
abbrev zVcp : Reg := ⟨[.v 0, .v 1, .p (.cal zr8d [(.t 1), (.t 0)]), .t 0], [(2, 0)], [0, 1], none⟩
abbrev zeGn : Fn := { np := 2, nv := 3, res := [(2, none)], body :=
(.seq (.reg zKuy)
 (.seq (.seq (.reg zDBe)
 (.cond 9 (.seq (.reg zOkU)
 .ret) .skip))
 (.seq (.seq (.reg zANA)
 (.cond 14 (.seq (.reg zUbf)
 .ret) .skip))
 (.seq (.reg zVcp)
 .ret)))) }
abbrev z5tE : Reg := ⟨[.p (.alc [.int 0, .int 0, .int 0, .int 0, .int 0, .snil, .snil, .snil, .snil, .snil] (some 10))], [(0, 0)], [], none⟩
abbrev zk0M : Reg := ⟨[.p (.liti [(.c (.bool true)), (.c (.bool false))] 1), .p (.liti [(.c (.int (0))), (.c (.int (0)))] 1), .p (.liti [(.c (.int (1))), (.c (.int (1)))] 1), .p (.liti [(.t 1), (.t 0)] 1), .p (.liti [(.c (.int (0))), (.c (.int (1)))] 1), .p (.liti [(.c (.int (0))), (.c (.int (0)))] 1), .p (.liti [(.t 1), (.t 0)] 1), .p (.liti [] 1), .p (.liti [] 1), .p (.liti [(.t 1), (.t 0)] 1), .p (.liti [(.c (.int (0))), (.c (.int (1)))] 1), .p (.liti [(.c (.int (1))), (.c (.int (0)))] 1), .p (.liti [(.t 1), (.t 0)] 1), .p (.liti [(.c (.int (1))), (.c (.int (1)))] 1), .p (.liti [(.c (.int (1))), (.c (.int (1)))] 1), .p (.liti [(.t 1), (.t 0)] 1), .p (.liti [(.t 3), (.t 0)] 1), .p (.bld [.int 0, .int 0, .int 0, .int 0, .int 0, .snil, .snil, .snil, .snil, .snil] [(0, 1, (.c (.int (2)))), (2, 1, (.c (.int (2)))), (3, 1, (.c (.int (2)))), (5, 1, (.t 16)), (6, 1, (.t 13)), (7, 1, (.t 10)), (8, 1, (.t 7)), (9, 1, (.t 0))]), .p (.st (.v 0) (.t 0) 10)], [], [], none⟩
abbrev zpuZ : Fn := { np := 0, nv := 1, res := [(0, some (some 10))], body :=
(.seq (.reg z5tE)
 (.seq (.reg zk0M)
 .ret)) }
abbrev zbpH : Reg := ⟨[.p (.bxi (.v 0)), .p (.mv (.c (.snil))), .p (.mv (.c (.int (0))))], [(1, 2)], [0, 3, 4], none⟩
abbrev zEKE : Reg := ⟨[.p (.ldi (.v 1) (some 10)), .p (.cal zwyK [(.t 0)]), .t 0], [(2, 0)], [], none⟩
abbrev zJZ5 : Reg := ⟨[.v 2, .p (.bin .neq (.t 0) (.c (.int (0))))], [], [], some (8, 0)⟩
abbrev zuRG : Reg := ⟨[.v 2, .p (.mv (.c (.snil))), .t 1], [(3, 1), (4, 0)], [1, 2], none⟩
abbrev zFXf : Reg := ⟨[.p (.ldi (.v 1) (some 10)), .p (.bld [.int 0, .int 0, .int 0, .int 0, .int 0, .snil, .snil, .snil, .snil, .snil] [(0, 10, (.t 0))]), .p (.mki zwN8 (.t 0)), .p (.ldi (.v 1) (some 10)), .p (.cal zWyS [(.t 1), (.t 0)]), .t 0, .p (.mv (.c (.int (0))))], [(3, 1), (4, 0)], [1, 2], none⟩
abbrev zrMM : Fn := { np := 1, nv := 5, res := [(3, none), (4, none)], body :=
(.seq (.reg zbpH)
 (.seq (.seq (.reg zEKE)
 (.seq (.reg zJZ5)
 (.cond 8 (.seq (.reg zuRG)
 .ret) .skip)))
 (.seq (.reg zFXf)
 .ret))) }
abbrev z6KP : Reg := ⟨[.p (.mv (.c (.bool false)))], [], [3], none⟩
abbrev zlBd : Reg := ⟨[.v 0, .p (.len (.t 0)), .v 1, .p (.len (.t 0)), .p (.bin .neq (.t 2) (.t 0))], [], [], some (10, 0)⟩
abbrev zTzF : Reg := ⟨[.p (.mv (.c (.bool false)))], [(3, 0)], [0, 1], none⟩
abbrev zplL : Reg := ⟨[.p (.mv (.c (.int (0))))], [(2, 0)], [], none⟩
abbrev zYQZ : Reg := ⟨[.v 2, .v 0, .p (.len (.t 0)), .p (.bin .lss (.t 2) (.t 0))], [], [], some (14, 0)⟩
abbrev zI1V : Reg := ⟨[.v 0, .v 2, .p (.iad (.t 1) (.t 0) 1), .p (.ld (.t 0) none), .v 1, .v 2, .p (.iad (.t 1) (.t 0) 1), .p (.ld (.t 0) none), .p (.cal zadN [(.t 4), (.t 0)]), .p (.not (.t 0))], [], [], some (26, 0)⟩
abbrev zUXQ : Reg := ⟨[.p (.mv (.c (.bool false)))], [(3, 0)], [0, 1, 2], none⟩
abbrev zuBW : Reg := ⟨[.v 2, .p (.bin .add (.t 0) (.c (.int (1)))), .t 0], [(2, 0)], [], none⟩
abbrev zdtm : IC := (.seq (.seq (.reg zYQZ)
 (.cond 14 .skip (.exit 0)))
 (.seq (.block 1 (.seq (.reg zI1V)
 (.cond 26 (.seq (.reg zUXQ)
 .ret) .skip)))
 (.reg zuBW)))
abbrev zkuF : Reg := ⟨[.p (.mv (.c (.bool true)))], [(3, 0)], [0, 1, 2], none⟩
abbrev zIsK : Fn := { np := 2, nv := 4, res := [(3, none)], body :=
(.seq (.reg z6KP)
 (.seq (.seq (.reg zlBd)
 (.cond 10 (.seq (.reg zTzF)
 .ret) .skip))
 (.seq (.seq (.reg zplL)
 (.block 0 (.loop zdtm)))
 (.seq (.reg zkuF)
 .ret)))) }
abbrev zNoe : Reg := ⟨[.p (.bxi (.v 0)), .p (.mv (.c (.bool false)))], [(2, 1)], [0, 4], none⟩
abbrev zN6h : Reg := ⟨[.p (.ldi (.v 2) (some 10)), .p (.cal zwyK [(.t 0)]), .p (.bin .neq (.t 0) (.c (.int (0)))), .t 0, .y 0 (.mv (.v 1)), .y 1 (.ldi (.v 2) (some 10)), .y 2 (.cal z92w [(.t 0)]), .y 3 (.cal zxtP [(.t 2), (.t 0)]), .y 4 (.bin .neq (.t 0) (.c (.int (0)))), .p (.pick (.t 5) (.c (.bool true)) (.t 0))], [], [], some (16, 0)⟩
abbrev zZKa : Reg := ⟨[.p (.mv (.c (.bool false)))], [(4, 0)], [1, 2], none⟩
abbrev zoJC : Reg := ⟨[.p (.ldi (.v 2) (some 10)), .v 1, .p (.cal zA6r [(.t 1), (.t 0)]), .t 0, .p (.ext (.t 0) 0), .p (.ext (.t 1) 1), .t 1, .t 1], [(3, 0)], [1, 2], none⟩
abbrev zgKC : Reg := ⟨[.v 3, .t 0], [(4, 0)], [3], none⟩
abbrev zjdN : Fn := { np := 2, nv := 5, res := [(4, none)], body :=
(.seq (.reg zNoe)
 (.seq (.seq (.reg zN6h)
 (.cond 16 (.seq (.reg zZKa)
 .ret) .skip))
 (.seq (.reg zoJC)
 (.seq (.reg zgKC)
 .ret)))) }
abbrev z9eS : Reg := ⟨[.p (.bxi (.v 0)), .p (.mv (.c (.int (0))))], [(1, 1)], [0, 7], none⟩
abbrev zqNd : Reg := ⟨[.p (.fad (.v 1) 5 none), .p (.ldi (.t 0) none), .p (.len (.t 0)), .t 0], [(2, 0)], [], none⟩
abbrev zrT0 : Reg := ⟨[.p (.fad (.v 1) 0 none), .p (.ldi (.t 0) none), .p (.fad (.v 1) 1 none), .p (.ldi (.t 0) none), .p (.fad (.v 1) 2 none), .p (.ldi (.t 0) none), .p (.liti [(.t 4), (.t 2), (.t 0)] 1), .p (.cal zTfU [(.t 0), (.c (.int (65)))]), .t 0], [], [], some (9, 0)⟩
abbrev zURA : Reg := ⟨[.p (.mv (.c (.int (2))))], [(7, 0)], [1, 2], none⟩
abbrev zka7 : Reg := ⟨[.p (.ldi (.v 1) (some 10)), .p (.cal z92w [(.t 0)]), .p (.bin .lss (.t 0) (.c (.int (1)))), .t 0, .y 0 (.ldi (.v 1) (some 10)), .y 1 (.cal z92w [(.t 0)]), .y 2 (.bin .gtr (.t 0) (.c (.int (64)))), .p (.pick (.t 3) (.c (.bool true)) (.t 0)), .t 0, .y 0 (.fad (.v 1) 3 none), .y 1 (.ldi (.t 0) none), .y 2 (.bin .lss (.t 0) (.c (.int (1)))), .p (.pick (.t 3) (.c (.bool true)) (.t 0)), .t 0, .y 0 (.fad (.v 1) 3 none), .y 1 (.ldi (.t 0) none), .y 2 (.bin .gtr (.t 0) (.c (.int (128)))), .p (.pick (.t 3) (.c (.bool true)) (.t 0)), .t 0], [], [], some (18, 0)⟩
abbrev zcQC : Reg := ⟨[.p (.mv (.c (.int (2))))], [(7, 0)], [1, 2], none⟩
abbrev zMYf : Reg := ⟨[.v 2, .p (.bin .eql (.t 0) (.c (.int (0)))), .t 0], [], [], some (37, 0)⟩
abbrev zO62 : Reg := ⟨[.p (.mv (.c (.int (19))))], [(7, 0)], [1, 2], none⟩
abbrev zlay : Reg := ⟨[.v 2, .p (.bin .gtr (.t 0) (.c (.int (128)))), .t 0], [], [], some (40, 0)⟩
abbrev z3WA : Reg := ⟨[.p (.mv (.c (.int (11))))], [(7, 0)], [1, 2], none⟩
abbrev zIc3 : Reg := ⟨[.p (.fad (.v 1) 4 none), .p (.ldi (.t 0) none), .p (.bin .lss (.t 0) (.c (.int (0)))), .t 0, .y 0 (.fad (.v 1) 4 none), .y 1 (.ldi (.t 0) none), .y 2 (.mv (.v 2)), .y 3 (.bin .geq (.t 1) (.t 0)), .p (.pick (.t 4) (.c (.bool true)) (.t 0)), .t 0], [], [], some (43, 0)⟩
abbrev zEy8 : Reg := ⟨[.p (.mv (.c (.int (2))))], [(7, 0)], [1, 2], none⟩
abbrev zxmx : Reg := ⟨[.p (.fad (.v 1) 6 none), .p (.ldi (.t 0) none), .p (.len (.t 0)), .v 2, .p (.bin .neq (.t 1) (.t 0)), .t 0, .y 0 (.fad (.v 1) 7 none), .y 1 (.ldi (.t 0) none), .y 2 (.len (.t 0)), .y 3 (.mv (.v 2)), .y 4 (.bin .neq (.t 1) (.t 0)), .p (.pick (.t 5) (.c (.bool true)) (.t 0)), .t 0, .y 0 (.fad (.v 1) 8 none), .y 1 (.ldi (.t 0) none), .y 2 (.len (.t 0)), .y 3 (.mv (.v 2)), .y 4 (.bin .neq (.t 1) (.t 0)), .p (.pick (.t 5) (.c (.bool true)) (.t 0)), .t 0, .y 0 (.fad (.v 1) 9 none), .y 1 (.ldi (.t 0) none), .y 2 (.len (.t 0)), .y 3 (.mv (.v 2)), .y 4 (.bin .neq (.t 1) (.t 0)), .p (.pick (.t 5) (.c (.bool true)) (.t 0)), .t 0], [], [], some (53, 0)⟩
abbrev z04L : Reg := ⟨[.p (.mv (.c (.int (1))))], [(7, 0)], [1, 2], none⟩
abbrev ziaW : Reg := ⟨[.v 2, .p (.mv (.c (.int (0))))], [(4, 1), (3, 0)], [2], none⟩
abbrev ziY7 : Reg := ⟨[.p (.bin .lss (.v 3) (.v 4))], [], [], some (82, 0)⟩
abbrev zpwa : Reg := ⟨[.v 3, .t 0], [(5, 0)], [], none⟩
abbrev zPKM : Reg := ⟨[.p (.ldi (.v 1) (some 10)), .v 5, .p (.cal ze0B [(.t 1), (.t 0)]), .t 0], [(6, 0)], [5], none⟩
abbrev zYp3 : Reg := ⟨[.v 6, .p (.bin .neq (.t 0) (.c (.int (0))))], [], [], some (88, 0)⟩
abbrev zoaM : Reg := ⟨[.v 6, .t 0], [(7, 0)], [1, 3, 4, 6], none⟩
abbrev z63N : Reg := ⟨[.p (.bin .add (.v 3) (.c (.int (1)))), .t 0], [(3, 0)], [6], none⟩
abbrev zSpl : IC := (.seq (.reg ziY7)
 (.seq (.cond 82 .skip (.exit 1))
 (.seq (.block 2 (.seq (.reg zpwa)
 (.seq (.reg zPKM)
 (.seq (.reg zYp3)
 (.cond 88 (.seq (.reg zoaM)
 .ret) .skip)))))
 (.reg z63N))))
abbrev z0my : Reg := ⟨[.p (.mv (.c (.int (0))))], [(7, 0)], [1, 3, 4], none⟩
abbrev zldz : Fn := { np := 1, nv := 8, res := [(7, none)], body :=
(.seq (.reg z9eS)
 (.seq (.reg zqNd)
 (.seq (.block 0 (.seq (.reg zrT0)
 (.cond 9 (.seq (.reg zURA)
 .ret) (.seq (.reg zka7)
 (.cond 18 (.seq (.reg zcQC)
 .ret) (.seq (.reg zMYf)
 (.cond 37 (.seq (.reg zO62)
 .ret) (.seq (.reg zlay)
 (.cond 40 (.seq (.reg z3WA)
 .ret) (.seq (.reg zIc3)
 (.cond 43 (.seq (.reg zEy8)
 .ret) (.seq (.reg zxmx)
 (.cond 53 (.seq (.reg z04L)
 .ret) .skip)))))))))))))
 (.seq (.seq (.reg ziaW)
 (.block 1 (.loop zSpl)))
 (.seq (.reg z0my)
 .ret))))) }
abbrev zN1W : Reg := ⟨[.p (.bxi (.v 1)), .p (.mv (.c (.snil))), .p (.mv (.c (.bool false))), .p (.mv (.c (.int (0))))], [(4, 3)], [1, 21, 22, 23], none⟩
abbrev zoKK : Reg := ⟨[.p (.mv (.c (.bool false)))], [(8, 0)], [], none⟩
abbrev zyhg : Reg := ⟨[.v 0, .p (.ldi (.v 4) (some 10)), .p (.cal zWyS [(.t 1), (.t 0)]), .v 2, .p (.iad (.t 1) (.t 0) 1), .p (.ld (.t 0) none), .p (.len (.t 0)), .p (.mv (.c (.int (0))))], [(7, 2), (6, 1), (5, 0)], [], none⟩
abbrev zakh : Reg := ⟨[.p (.bin .lss (.v 5) (.v 6))], [], [], some (29, 0)⟩
abbrev zGmT : Reg := ⟨[.v 5, .p (.iad (.v 7) (.v 5) 1), .p (.ld (.t 0) none), .t 2, .t 1], [(10, 1), (9, 0)], [], none⟩
abbrev z3FE : Reg := ⟨[.v 8, .t 0, .y 0 (.mv (.v 9)), .y 1 (.mv (.t 0)), .x 0 (.mv (.v 3)), .x 1 (.mv (.v 10)), .x 2 (.iad (.t 1) (.t 0) 1), .x 3 (.ld (.t 0) none), .y 6 (.pick (.t 4) (.t 0) (.c (.bool false))), .p (.pick (.t 7) (.c (.bool true)) (.t 0)), .t 0], [(8, 0)], [9, 10], none⟩
abbrev zWME : Reg := ⟨[.p (.bin .add (.v 5) (.c (.int (1)))), .t 0], [(5, 0)], [], none⟩
abbrev zMgn : IC := (.seq (.reg zakh)
 (.seq (.cond 29 .skip (.exit 0))
 (.seq (.block 1 (.seq (.reg zGmT)
 (.reg z3FE)))
 (.reg zWME))))
abbrev z4Js : Reg := ⟨[.v 8, .p (.not (.t 0))], [], [5, 6, 7, 8], some (45, 0)⟩
abbrev zVhr : Reg := ⟨[.p (.mv (.c (.snil))), .p (.mv (.c (.bool false))), .p (.mv (.c (.int (0))))], [(21, 2), (22, 1), (23, 0)], [0, 2, 3, 4], none⟩
abbrev z44s : Reg := ⟨[.v 0, .p (.ldi (.v 4) (some 10)), .p (.can zNv5 [(.t 1), (.t 0)]), .t 0], [(12, 0)], [0, 4], none⟩
abbrev zS6Y : Reg := ⟨[.p (.mv (.c (.int (0))))], [(11, 0)], [], none⟩
abbrev z3q1 : Reg := ⟨[.p (.bin .lss (.v 11) (.c (.int (1025))))], [], [], some (50, 0)⟩
abbrev zGyF : Reg := ⟨[.v 11, .t 0], [(13, 0)], [], none⟩
abbrev zDSW : Reg := ⟨[.p (.mv (.c (.snil)))], [(20, 0)], [], none⟩
abbrev zQvK : Reg := ⟨[.p (.mv (.c (.bool false)))], [(18, 0)], [], none⟩
abbrev zkLz : Reg := ⟨[.v 12, .v 13, .p (.cam zkQN [(.t 1), (.t 0)]), .p (.len (.t 0)), .p (.mv (.c (.int (0))))], [(16, 2), (15, 1), (14, 0)], [13], none⟩
abbrev zfuq : Reg := ⟨[.p (.bin .lss (.v 14) (.v 15))], [], [], some (57, 0)⟩
abbrev zibL : Reg := ⟨[.p (.iad (.v 16) (.v 14) 2), .p (.ld (.t 0) (some 2)), .p (.alc0 2), .p (.ini (.t 0) (.t 1) 2)], [(17, 0)], [], none⟩
abbrev zl3L : Reg := ⟨[.v 12, .p (.nck (.t 0)), .p (.fad (.t 0) 12 none), .p (.ld (.t 0) none), .p (.nck (.t 0)), .p (.fad (.t 0) 0 none), .p (.ld (.t 0) none), .p (.iada (.v 17) (.c (.int (0))) 2 none), .p (.ldi (.t 0) none), .p (.iad (.t 2) (.t 0) 1), .p (.ld (.t 0) none), .p (.iada (.v 17) (.c (.int (1))) 2 none), .p (.ldi (.t 0) none), .p (.iad (.t 2) (.t 0) 1), .p (.ld (.t 0) none), .t 0], [(19, 0)], [], none⟩
abbrev zfPl : Reg := ⟨[.p (.iada (.v 17) (.c (.int (0))) 2 none), .p (.ldi (.t 0) none), .v 2, .p (.bin .eql (.t 1) (.t 0)), .t 0, .x 0 (.mv (.v 3)), .x 1 (.iada (.v 17) (.c (.int (1))) 2 none), .x 2 (.ldi (.t 0) none), .x 3 (.iad (.t 2) (.t 0) 1), .x 4 (.ld (.t 0) none), .p (.pick (.t 5) (.t 0) (.c (.bool false))), .t 0, .x 0 (.mv (.v 18)), .x 1 (.not (.t 0)), .x 2 (.mv (.t 0)), .y 0 (.mv (.v 19)), .y 1 (.mv (.v 20)), .y 2 (.cal zGKM [(.t 1), (.t 0)]), .y 3 (.bin .lss (.t 0) (.c (.int (0)))), .x 7 (.pick (.t 4) (.c (.bool true)) (.t 0)), .p (.pick (.t 8) (.t 0) (.c (.bool false)))], [], [17], some (95, 0)⟩
abbrev zqD8 : Reg := ⟨[.v 19, .t 0, .p (.mv (.c (.bool true)))], [(20, 1), (18, 0)], [19], none⟩
abbrev zbVn : Reg := ⟨[.p (.bin .add (.v 14) (.c (.int (1)))), .t 0], [(14, 0)], [19], none⟩
abbrev zbde : IC := (.seq (.reg zfuq)
 (.seq (.cond 57 .skip (.exit 4))
 (.seq (.block 5 (.seq (.reg zibL)
 (.seq (.reg zl3L)
 (.seq (.reg zfPl)
 (.cond 95 (.reg zqD8) .skip)))))
 (.reg zbVn))))
abbrev zv0k : Reg := ⟨[.v 18], [], [14, 15, 16, 18], some (98, 0)⟩
abbrev zxGM : Reg := ⟨[.v 20, .p (.cal zUHS [(.t 0)]), .t 0, .p (.mv (.c (.bool true))), .p (.mv (.c (.int (0))))], [(21, 2), (22, 1), (23, 0)], [2, 3, 11, 12, 20], none⟩
abbrev zzub : Reg := ⟨[.p (.bin .add (.v 11) (.c (.int (1)))), .t 0], [(11, 0)], [20], none⟩
abbrev zWyU : IC := (.seq (.reg z3q1)
 (.seq (.cond 50 .skip (.exit 2))
 (.seq (.block 3 (.seq (.reg zGyF)
 (.seq (.reg zDSW)
 (.seq (.reg zQvK)
 (.seq (.seq (.reg zkLz)
 (.block 4 (.loop zbde)))
 (.seq (.reg zv0k)
 (.cond 98 (.seq (.reg zxGM)
 .ret) .skip)))))))
 (.reg zzub))))
abbrev zO7I : Reg := ⟨[.p (.mv (.c (.snil))), .p (.mv (.c (.bool false))), .p (.mv (.c (.int (3))))], [(21, 2), (22, 1), (23, 0)], [2, 3, 11, 12], none⟩
abbrev zDNi : Fn := { np := 4, nv := 24, res := [(21, none), (22, none), (23, none)], body :=
(.seq (.reg zN1W)
 (.seq (.reg zoKK)
 (.seq (.seq (.reg zyhg)
 (.block 0 (.loop zMgn)))
 (.seq (.seq (.reg z4Js)
 (.cond 45 (.seq (.reg zVhr)
 .ret) .skip))
 (.seq (.reg z44s)
 (.seq (.seq (.reg zS6Y)
 (.block 2 (.loop zWyU)))
 (.seq (.reg zO7I)
 .ret))))))) }
abbrev zXcu : Reg := ⟨[.p (.bxi (.v 0)), .p (.mv (.c (.int (0))))], [(1, 1)], [0, 5], none⟩
abbrev zJ3S : Reg := ⟨[.p (.ldi (.v 1) (some 10)), .p (.cal z5HB [(.t 0)]), .t 0], [(2, 0)], [], none⟩
abbrev zs9T : Reg := ⟨[.v 2, .p (.bin .neq (.t 0) (.c (.int (0))))], [], [], some (9, 0)⟩
abbrev zTGj : Reg := ⟨[.v 2, .t 0], [(5, 0)], [1, 2], none⟩
abbrev zpZW : Reg := ⟨[.p (.mv (.c (.int (0))))], [(3, 0)], [2], none⟩
abbrev znZs : Reg := ⟨[.v 3, .p (.fad (.v 1) 5 none), .p (.ldi (.t 0) none), .p (.len (.t 0)), .p (.bin .lss (.t 3) (.t 0))], [], [], some (15, 0)⟩
abbrev zlYM : Reg := ⟨[.p (.ldi (.v 1) (some 10)), .v 3, .p (.cal z7L0 [(.t 1), (.t 0)]), .t 0], [(4, 0)], [], none⟩
abbrev zgAJ : Reg := ⟨[.v 4, .p (.bin .neq (.t 0) (.c (.int (0))))], [], [], some (22, 0)⟩
abbrev zxHN : Reg := ⟨[.v 4, .t 0], [(5, 0)], [1, 3, 4], none⟩
abbrev zsuq : Reg := ⟨[.v 3, .p (.bin .add (.t 0) (.c (.int (1)))), .t 0], [(3, 0)], [4], none⟩
abbrev zBy6 : IC := (.seq (.seq (.reg znZs)
 (.cond 15 .skip (.exit 0)))
 (.seq (.block 1 (.seq (.reg zlYM)
 (.seq (.reg zgAJ)
 (.cond 22 (.seq (.reg zxHN)
 .ret) .skip))))
 (.reg zsuq)))
abbrev z96y : Reg := ⟨[.p (.mv (.c (.int (0))))], [(5, 0)], [1, 3], none⟩
abbrev zl16 : Fn := { np := 1, nv := 6, res := [(5, none)], body :=
(.seq (.reg zXcu)
 (.seq (.seq (.reg zJ3S)
 (.seq (.reg zs9T)
 (.cond 9 (.seq (.reg zTGj)
 .ret) .skip)))
 (.seq (.seq (.reg zpZW)
 (.block 0 (.loop zBy6)))
 (.seq (.reg z96y)
 .ret)))) }
abbrev zYJX : Reg := ⟨[.p (.bxi (.v 0)), .p (.mv (.c (.snil))), .p (.mv (.c (.bool false))), .p (.mv (.c (.int (0))))], [(1, 3)], [0, 7, 8, 9], none⟩
abbrev zq7Y : Reg := ⟨[.p (.ldi (.v 1) (some 10)), .p (.cal ztWO [(.t 0)]), .t 0], [(5, 0)], [], none⟩
abbrev zz7Y : Reg := ⟨[.p (.ldi (.v 1) (some 10)), .p (.cal zU2R [(.t 0)]), .t 0], [(4, 0)], [], none⟩
abbrev zg64 : Reg := ⟨[.p (.alc [.bool false, .snil] (some 2))], [(6, 0)], [], none⟩
abbrev zL5g : Reg := ⟨[.p (.mv (.c (.bool false)))], [(3, 0)], [], none⟩
abbrev zwDA : Reg := ⟨[.p (.mv (.c (.int (0))))], [(2, 0)], [], none⟩
abbrev zbJN : Reg := ⟨[.v 2, .p (.fad (.v 1) 5 none), .p (.ldi (.t 0) none), .p (.len (.t 0)), .p (.bin .lss (.t 3) (.t 0))], [], [], some (18, 0)⟩
abbrev zBeJ : Reg := ⟨[.p (.fad (.v 1) 5 none), .p (.ldi (.t 0) none), .v 2, .p (.iad (.t 1) (.t 0) 1), .p (.ldi (.t 0) none), .p (.not (.t 0))], [], [], some (26, 0)⟩
abbrev z4Up : Reg := ⟨[.v 3, .t 0, .y 0 (.mv (.v 4)), .y 1 (.fad (.v 1) 4 none), .y 2 (.ldi (.t 0) none), .y 3 (.iad (.t 2) (.t 0) 1), .y 4 (.ld (.t 0) none), .y 5 (.mv (.v 2)), .y 6 (.iad (.t 1) (.t 0) 1), .y 7 (.ld (.t 0) none), .p (.pick (.t 8) (.c (.bool true)) (.t 0)), .t 0], [(3, 0)], [], none⟩
abbrev zsqe : Reg := ⟨[.v 5, .p (.fad (.v 1) 4 none), .p (.ldi (.t 0) none), .p (.iad (.t 2) (.t 0) 1), .p (.ld (.t 0) none), .v 2, .p (.iad (.t 1) (.t 0) 2), .p (.fad (.t 0) 0 none), .p (.ld (.t 0) none)], [], [], some (46, 0)⟩
abbrev z4FC : Reg := ⟨[.p (.ld (.v 6) (some 2)), .v 5, .p (.fad (.v 1) 4 none), .p (.ldi (.t 0) none), .p (.iad (.t 2) (.t 0) 1), .p (.ld (.t 0) none), .v 2, .p (.iad (.t 1) (.t 0) 2), .p (.fad (.t 0) 1 none), .p (.ld (.t 0) none), .p (.cal zZwr [(.t 9), (.t 0)]), .p (.st (.v 6) (.t 0) 2)], [], [], none⟩
abbrev zk7O : Reg := ⟨[.v 2, .p (.bin .add (.t 0) (.c (.int (1)))), .t 0], [(2, 0)], [], none⟩
abbrev zee0 : IC := (.seq (.seq (.reg zbJN)
 (.cond 18 .skip (.exit 0)))
 (.seq (.block 1 (.seq (.seq (.reg zBeJ)
 (.cond 26 (.exit 1) .skip))
 (.seq (.reg z4Up)
 (.seq (.reg zsqe)
 (.cond 46 (.reg z4FC) .skip)))))
 (.reg zk7O)))
abbrev zu11 : Reg := ⟨[.v 3, .t 0, .x 0 (.fad (.v 6) 0 none), .x 1 (.ld (.t 0) none), .x 2 (.not (.t 0)), .p (.pick (.t 3) (.t 0) (.c (.bool false)))], [], [1, 2, 3, 4, 5], some (63, 0)⟩
abbrev z5am : Reg := ⟨[.p (.mv (.c (.snil))), .p (.mv (.c (.bool false))), .p (.mv (.c (.int (3))))], [(7, 2), (8, 1), (9, 0)], [6], none⟩
abbrev zfoY : Reg := ⟨[.p (.fad (.v 6) 1 none), .p (.ld (.t 0) none), .p (.liti [(.t 0)] 1), .p (.cal z4HM [(.t 0)]), .p (.fad (.v 6) 0 none), .p (.ld (.t 0) none), .t 2, .t 1, .p (.mv (.c (.int (0))))], [(7, 2), (8, 1), (9, 0)], [6], none⟩
abbrev ziNB : Fn := { np := 1, nv := 10, res := [(7, none), (8, none), (9, none)], body :=
(.seq (.reg zYJX)
 (.seq (.reg zq7Y)
 (.seq (.reg zz7Y)
 (.seq (.reg zg64)
 (.seq (.reg zL5g)
 (.seq (.seq (.reg zwDA)
 (.block 0 (.loop zee0)))
 (.seq (.seq (.reg zu11)
 (.cond 63 (.seq (.reg z5am)
 .ret) .skip))
 (.seq (.reg zfoY)
 .ret)))))))) }
abbrev znOD : Reg := ⟨[.p (.bxi (.v 0)), .p (.mv (.c (.int (0))))], [(1, 1)], [0, 2], none⟩
abbrev zRYX : Reg := ⟨[.p (.fad (.v 1) 0 (some 10)), .p (.ldi (.t 0) (some 10)), .p (.cal zFCU [(.t 0)]), .p (.fad (.v 1) 10 (some 10)), .p (.ldi (.t 0) (some 10)), .p (.cal zFCU [(.t 0)]), .p (.bin .mul (.t 3) (.t 0)), .t 0], [(2, 0)], [1], none⟩
abbrev zZeW : Fn := { np := 1, nv := 3, res := [(2, none)], body :=
(.seq (.reg znOD)
 (.seq (.reg zRYX)
 .ret)) }
abbrev zbil : Reg := ⟨[.p (.bxi (.v 0)), .p (.mv (.c (.int (0)))), .p (.mv (.c (.int (0))))], [(2, 2)], [0, 3, 4], none⟩
abbrev z8Xv : Reg := ⟨[.v 1, .p (.fad (.v 2) 10 (some 10)), .p (.ldi (.t 0) (some 10)), .p (.cal zFCU [(.t 0)]), .p (.bin .quo (.t 3) (.t 0)), .v 1, .p (.fad (.v 2) 10 (some 10)), .p (.ldi (.t 0) (some 10)), .p (.cal zFCU [(.t 0)]), .p (.bin .rem (.t 3) (.t 0)), .t 5, .t 1], [(3, 1), (4, 0)], [1, 2], none⟩
abbrev zxFr : Fn := { np := 2, nv := 5, res := [(3, none), (4, none)], body :=
(.seq (.reg zbil)
 (.seq (.reg z8Xv)
 .ret)) }
abbrev zrfK : Reg := ⟨[.p (.bxi (.v 0)), .p (.mv (.c (.int (0))))], [(1, 1)], [0, 2], none⟩
abbrev zD5S : Reg := ⟨[.p (.fad (.v 1) 0 (some 10)), .p (.fad (.t 0) 5 none), .p (.ldi (.t 0) none), .p (.len (.t 0)), .t 0], [(2, 0)], [1], none⟩
abbrev zEK5 : Fn := { np := 1, nv := 3, res := [(2, none)], body :=
(.seq (.reg zrfK)
 (.seq (.reg zD5S)
 .ret)) }
abbrev zd2N : Reg := ⟨[.p (.bxi (.v 0)), .p (.bxi (.v 1)), .p (.alc [.int 0, .int 0, .int 0, .int 0, .int 0, .snil, .snil, .snil, .snil, .snil] (some 10))], [(3, 2), (2, 1), (13, 0)], [0, 1], none⟩
abbrev zIHk : Reg := ⟨[.p (.fad (.v 2) 5 none), .p (.ldi (.t 0) none), .p (.len (.t 0)), .t 0], [(4, 0)], [], none⟩
abbrev zrNa : Reg := ⟨[.p (.fad (.v 3) 0 none), .p (.ldi (.t 0) none), .p (.fad (.v 3) 1 none), .p (.ldi (.t 0) none), .p (.fad (.v 3) 2 none), .p (.ldi (.t 0) none), .p (.fad (.v 3) 3 none), .p (.ldi (.t 0) none), .p (.fad (.v 2) 3 none), .p (.ldi (.t 0) none), .p (.bin .mul (.t 2) (.t 0)), .p (.fad (.v 3) 4 none), .p (.ldi (.t 0) none), .v 4, .p (.bin .mul (.t 1) (.t 0)), .p (.fad (.v 2) 4 none), .p (.ldi (.t 0) none), .p (.bin .add (.t 2) (.t 0)), .p (.bld [.int 0, .int 0, .int 0, .int 0, .int 0, .snil, .snil, .snil, .snil, .snil] [(0, 1, (.t 16)), (1, 1, (.t 14)), (2, 1, (.t 12)), (3, 1, (.t 7)), (4, 1, (.t 0))]), .p (.alc [.int 0, .int 0, .int 0, .int 0, .int 0, .snil, .snil, .snil, .snil, .snil] (some 10)), .p (.st (.t 0) (.t 1) 10)], [(12, 1)], [], none⟩
abbrev zkUS : Reg := ⟨[.p (.mv (.c (.int (0))))], [(5, 0)], [], none⟩
abbrev zYE1 : Reg := ⟨[.v 5, .p (.fad (.v 3) 5 none), .p (.ldi (.t 0) none), .p (.len (.t 0)), .p (.bin .lss (.t 3) (.t 0))], [], [], some (40, 0)⟩
abbrev zFNh : Reg := ⟨[.p (.mv (.c (.int (0))))], [(6, 0)], [], none⟩
abbrev zEcf : Reg := ⟨[.v 6, .v 4, .p (.bin .lss (.t 1) (.t 0))], [], [], some (45, 0)⟩
abbrev zBTv : Reg := ⟨[.p (.nl none), .p (.nl none), .p (.nl none)], [(8, 2), (9, 1), (11, 0)], [], none⟩
abbrev zLGB : Reg := ⟨[.p (.mv (.c (.int (0))))], [(7, 0)], [], none⟩
abbrev z3lZ : Reg := ⟨[.v 7, .p (.fad (.v 3) 0 none), .p (.ldi (.t 0) none), .p (.bin .lss (.t 2) (.t 0))], [], [], some (51, 0)⟩
abbrev zfqL : Reg := ⟨[.v 8, .p (.fad (.v 3) 6 none), .p (.ldi (.t 0) none), .v 5, .p (.iad (.t 1) (.t 0) 1), .p (.ldi (.t 0) none), .v 7, .p (.iad (.t 1) (.t 0) 1), .p (.ldi (.t 0) none), .v 4, .p (.bin .mul (.t 1) (.t 0)), .p (.fad (.v 2) 6 none), .p (.ldi (.t 0) none), .v 6, .p (.iad (.t 1) (.t 0) 1), .p (.ldi (.t 0) none), .v 7, .p (.iad (.t 1) (.t 0) 1), .p (.ldi (.t 0) none), .p (.bin .add (.t 8) (.t 0)), .p (.lita [(.t 0)] 1), .p (.app (.t 20) (.t 0) none), .t 0], [(8, 0)], [], none⟩
abbrev zJHC : Reg := ⟨[.v 9, .p (.fad (.v 3) 7 none), .p (.ldi (.t 0) none), .v 5, .p (.iad (.t 1) (.t 0) 1), .p (.ldi (.t 0) none), .v 7, .p (.iad (.t 1) (.t 0) 1), .p (.ldi (.t 0) none), .p (.fad (.v 2) 3 none), .p (.ldi (.t 0) none), .p (.bin .mul (.t 2) (.t 0)), .p (.fad (.v 2) 7 none), .p (.ldi (.t 0) none), .v 6, .p (.iad (.t 1) (.t 0) 1), .p (.ldi (.t 0) none), .v 7, .p (.iad (.t 1) (.t 0) 1), .p (.ldi (.t 0) none), .p (.bin .add (.t 8) (.t 0)), .p (.lita [(.t 0)] 1), .p (.app (.t 21) (.t 0) none), .t 0], [(9, 0)], [], none⟩
abbrev zhpA : Reg := ⟨[.v 7, .p (.bin .add (.t 0) (.c (.int (1)))), .t 0], [(7, 0)], [], none⟩
abbrev zLsx : IC := (.seq (.seq (.reg z3lZ)
 (.cond 51 .skip (.exit 4)))
 (.seq (.block 5 (.seq (.reg zfqL)
 (.reg zJHC)))
 (.reg zhpA)))
abbrev zdjU : Reg := ⟨[.p (.mv (.c (.int (0))))], [(10, 0)], [7], none⟩
abbrev zxgO : Reg := ⟨[.v 10, .p (.fad (.v 3) 1 none), .p (.ldi (.t 0) none), .p (.bin .lss (.t 2) (.t 0))], [], [], some (102, 0)⟩
abbrev zpK8 : Reg := ⟨[.v 11, .p (.fad (.v 3) 8 none), .p (.ldi (.t 0) none), .v 5, .p (.iad (.t 1) (.t 0) 1), .p (.ldi (.t 0) none), .v 10, .p (.iad (.t 1) (.t 0) 1), .p (.ldi (.t 0) none), .v 4, .p (.bin .mul (.t 1) (.t 0)), .p (.fad (.v 2) 8 none), .p (.ldi (.t 0) none), .v 6, .p (.iad (.t 1) (.t 0) 1), .p (.ldi (.t 0) none), .v 10, .p (.iad (.t 1) (.t 0) 1), .p (.ldi (.t 0) none), .p (.bin .add (.t 8) (.t 0)), .p (.lita [(.t 0)] 1), .p (.app (.t 20) (.t 0) none), .t 0], [(11, 0)], [], none⟩
abbrev zQxP : Reg := ⟨[.v 10, .p (.bin .add (.t 0) (.c (.int (1)))), .t 0], [(10, 0)], [], none⟩
abbrev zpWO : IC := (.seq (.seq (.reg zxgO)
 (.cond 102 .skip (.exit 6)))
 (.seq (.block 7 (.reg zpK8))
 (.reg zQxP)))
abbrev zVuu : Reg := ⟨[.p (.fad (.v 12) 5 none), .p (.ld (.t 0) none), .p (.fad (.v 3) 5 none), .p (.ldi (.t 0) none), .v 5, .p (.iad (.t 1) (.t 0) 1), .p (.ldi (.t 0) none), .p (.fad (.v 2) 5 none), .p (.ldi (.t 0) none), .v 6, .p (.iad (.t 1) (.t 0) 1), .p (.ldi (.t 0) none), .p (.beq true (.t 5) (.t 0)), .p (.lita [(.t 0)] 1), .p (.app (.t 12) (.t 0) none), .p (.fad (.v 12) 5 none), .p (.st (.t 0) (.t 1) 1)], [], [10], none⟩
abbrev zV2u : Reg := ⟨[.p (.fad (.v 12) 6 none), .p (.ld (.t 0) none), .v 8, .p (.lita [(.t 0)] 1), .p (.appw (.t 2) (.t 0) none), .p (.fad (.v 12) 6 none), .p (.st (.t 0) (.t 1) 1)], [], [8], none⟩
abbrev zMwe : Reg := ⟨[.p (.fad (.v 12) 7 none), .p (.ld (.t 0) none), .v 9, .p (.lita [(.t 0)] 1), .p (.appw (.t 2) (.t 0) none), .p (.fad (.v 12) 7 none), .p (.st (.t 0) (.t 1) 1)], [], [9], none⟩
abbrev zizk : Reg := ⟨[.p (.fad (.v 12) 8 none), .p (.ld (.t 0) none), .v 11, .p (.lita [(.t 0)] 1), .p (.appw (.t 2) (.t 0) none), .p (.fad (.v 12) 8 none), .p (.st (.t 0) (.t 1) 1)], [], [11], none⟩
abbrev zpDG : Reg := ⟨[.p (.fad (.v 12) 9 none), .p (.ld (.t 0) none), .p (.ldi (.v 3) (some 10)), .p (.ldi (.v 2) (some 10)), .v 5, .v 6, .p (.cal zR5N [(.t 3), (.t 2), (.t 1), (.t 0)]), .p (.lita [(.t 0)] 1), .p (.app (.t 6) (.t 0) none), .p (.fad (.v 12) 9 none), .p (.st (.t 0) (.t 1) 1)], [], [], none⟩
abbrev zdso : Reg := ⟨[.v 6, .p (.bin .add (.t 0) (.c (.int (1)))), .t 0], [(6, 0)], [], none⟩
abbrev zmqM : IC := (.seq (.seq (.reg zEcf)
 (.cond 45 .skip (.exit 2)))
 (.seq (.block 3 (.seq (.reg zBTv)
 (.seq (.seq (.reg zLGB)
 (.block 4 (.loop zLsx)))
 (.seq (.seq (.reg zdjU)
 (.block 6 (.loop zpWO)))
 (.seq (.reg zVuu)
 (.seq (.reg zV2u)
 (.seq (.reg zMwe)
 (.seq (.reg zizk)
 (.reg zpDG)))))))))
 (.reg zdso)))
abbrev zXBa : Reg := ⟨[.v 5, .p (.bin .add (.t 0) (.c (.int (1)))), .t 0], [(5, 0)], [6], none⟩
abbrev zNMz : IC := (.seq (.seq (.reg zYE1)
 (.cond 40 .skip (.exit 0)))
 (.seq (.block 1 (.seq (.reg zFNh)
 (.block 2 (.loop zmqM))))
 (.reg zXBa)))
abbrev zxJW : Reg := ⟨[.p (.ld (.v 12) (some 10)), .p (.st (.v 13) (.t 0) 10)], [], [2, 3, 4, 5, 12], none⟩
abbrev zWkD : Fn := { np := 2, nv := 14, res := [(13, some (some 10))], body :=
(.seq (.reg zd2N)
 (.seq (.reg zIHk)
 (.seq (.reg zrNa)
 (.seq (.seq (.reg zkUS)
 (.block 0 (.loop zNMz)))
 (.seq (.reg zxJW)
 .ret))))) }
abbrev zjNq : Reg := ⟨[.p (.mv (.c (.int (0))))], [], [3], none⟩
abbrev z2rC : Reg := ⟨[.v 1, .p (.cal zlVo [(.t 0)]), .p (.not (.t 0))], [], [], some (8, 0)⟩
abbrev z6p8 : Reg := ⟨[.p (.mv (.c (.int (2))))], [(3, 0)], [0, 1], none⟩
abbrev zpWt : Reg := ⟨[.v 0, .p (.len (.t 0)), .p (.bin .gtr (.t 0) (.c (.int (1024))))], [], [], some (11, 0)⟩
abbrev zAcD : Reg := ⟨[.p (.mv (.c (.int (3))))], [(3, 0)], [0, 1], none⟩
abbrev zMzf : Reg := ⟨[.p (.mv (.c (.int (0))))], [(2, 0)], [], none⟩
abbrev zxxB : Reg := ⟨[.v 2, .v 0, .p (.len (.t 0)), .p (.bin .lss (.t 2) (.t 0))], [], [], some (15, 0)⟩
abbrev zJ7e : Reg := ⟨[.v 0, .v 2, .p (.iad (.t 1) (.t 0) 1), .p (.ld (.t 0) none), .p (.bin .lss (.t 0) (.c (.int (0)))), .t 0, .y 0 (.mv (.v 0)), .y 1 (.mv (.v 2)), .y 2 (.iad (.t 1) (.t 0) 1), .y 3 (.ld (.t 0) none), .y 4 (.mv (.v 1)), .y 5 (.bin .geq (.t 1) (.t 0)), .p (.pick (.t 6) (.c (.bool true)) (.t 0))], [], [], some (30, 0)⟩
abbrev zqpH : Reg := ⟨[.p (.mv (.c (.int (1))))], [(3, 0)], [0, 1, 2], none⟩
abbrev zpKh : Reg := ⟨[.v 2, .p (.bin .add (.t 0) (.c (.int (1)))), .t 0], [(2, 0)], [], none⟩
abbrev z7MO : IC := (.seq (.seq (.reg zxxB)
 (.cond 15 .skip (.exit 0)))
 (.seq (.block 1 (.seq (.reg zJ7e)
 (.cond 30 (.seq (.reg zqpH)
 .ret) .skip)))
 (.reg zpKh)))
abbrev zgXn : Reg := ⟨[.p (.mv (.c (.int (0))))], [(3, 0)], [0, 1, 2], none⟩
abbrev zvhx : Fn := { np := 2, nv := 4, res := [(3, none)], body :=
(.seq (.reg zjNq)
 (.seq (.seq (.reg z2rC)
 (.cond 8 (.seq (.reg z6p8)
 .ret) .skip))
 (.seq (.seq (.reg zpWt)
 (.cond 11 (.seq (.reg zAcD)
 .ret) .skip))
 (.seq (.seq (.reg zMzf)
 (.block 0 (.loop z7MO)))
 (.seq (.reg zgXn)
 .ret))))) }
abbrev zVY4 : Reg := ⟨[.p (.bxi (.v 0)), .p (.mv (.c (.int (0))))], [(1, 1)], [0, 2], none⟩
abbrev zJGr : Reg := ⟨[.p (.fad (.v 1) 0 none), .p (.ldi (.t 0) none), .p (.fad (.v 1) 1 none), .p (.ldi (.t 0) none), .p (.bin .add (.t 2) (.t 0)), .p (.fad (.v 1) 2 none), .p (.ldi (.t 0) none), .p (.bin .add (.t 2) (.t 0)), .t 0], [(2, 0)], [1], none⟩
abbrev zGkm : Fn := { np := 1, nv := 3, res := [(2, none)], body :=
(.seq (.reg zVY4)
 (.seq (.reg zJGr)
 .ret)) }
abbrev zir1 : Reg := ⟨[.p (.bxi (.v 0)), .p (.mv (.c (.int (0)))), .p (.mv (.c (.int (0)))), .p (.mv (.c (.int (0))))], [(3, 3)], [0, 7, 8, 9], none⟩
abbrev zAi5 : Reg := ⟨[.p (.mv (.c (.int (0)))), .p (.mv (.c (.int (0)))), .p (.mv (.c (.int (0))))], [(5, 2), (6, 1), (4, 0)], [], none⟩
abbrev z9Pz : Reg := ⟨[.p (.mv (.c (.int (0))))], [(2, 0)], [], none⟩
abbrev zGnB : Reg := ⟨[.v 2, .v 1, .p (.len (.t 0)), .p (.bin .lss (.t 2) (.t 0))], [], [], some (14, 0)⟩
abbrev z3Ae : Reg := ⟨[.v 1, .v 2, .p (.iad (.t 1) (.t 0) 1), .p (.ld (.t 0) none), .p (.fad (.v 3) 0 none), .p (.ldi (.t 0) none), .p (.bin .lss (.t 2) (.t 0))], [], [], some (23, 0)⟩
abbrev zz6U : Reg := ⟨[.v 4, .p (.bin .add (.t 0) (.c (.int (1)))), .t 0], [(4, 0)], [], none⟩
abbrev zTAX : Reg := ⟨[.v 1, .v 2, .p (.iad (.t 1) (.t 0) 1), .p (.ld (.t 0) none), .p (.fad (.v 3) 0 none), .p (.ldi (.t 0) none), .p (.fad (.v 3) 1 none), .p (.ldi (.t 0) none), .p (.bin .add (.t 2) (.t 0)), .p (.bin .geq (.t 5) (.t 0))], [], [], some (35, 0)⟩
abbrev zR7C : Reg := ⟨[.v 4, .p (.bin .sub (.t 0) (.c (.int (1)))), .t 0], [(4, 0)], [], none⟩
abbrev zs9V : Reg := ⟨[.v 5, .v 4, .p (.mx true (.t 1) (.t 0)), .t 0], [(5, 0)], [], none⟩
abbrev zeZY : Reg := ⟨[.v 6, .v 4, .p (.mx false (.t 1) (.t 0)), .t 0], [(6, 0)], [], none⟩
abbrev zoBW : Reg := ⟨[.v 2, .p (.bin .add (.t 0) (.c (.int (1)))), .t 0], [(2, 0)], [], none⟩
abbrev ztYz : IC := (.seq (.seq (.reg zGnB)
 (.cond 14 .skip (.exit 0)))
 (.seq (.block 1 (.seq (.seq (.reg z3Ae)
 (.cond 23 (.reg zz6U) .skip))
 (.seq (.seq (.reg zTAX)
 (.cond 35 (.reg zR7C) .skip))
 (.seq (.reg zs9V)
 (.reg zeZY)))))
 (.reg zoBW)))
abbrev z9vG : Reg := ⟨[.v 5, .v 6, .v 4, .t 2, .t 2, .t 2], [(7, 2), (8, 1), (9, 0)], [1, 2, 3, 4, 5, 6], none⟩
abbrev zruB : Fn := { np := 2, nv := 10, res := [(7, none), (8, none), (9, none)], body :=
(.seq (.reg zir1)
 (.seq (.reg zAi5)
 (.seq (.seq (.reg z9Pz)
 (.block 0 (.loop ztYz)))
 (.seq (.reg z9vG)
 .ret)))) }
abbrev zVl0 : Reg := ⟨[.p (.bxi (.v 1)), .p (.mv (.c (.int (0))))], [(2, 1)], [1, 3], none⟩
abbrev zbTp : Reg := ⟨[.p (.ldi (.v 2) none), .p (.cal zLRb [(.t 0)]), .p (.not (.t 0)), .t 0], [], [], some (5, 0)⟩
abbrev zXDL : Reg := ⟨[.p (.mv (.c (.int (2))))], [(3, 0)], [0, 2], none⟩
abbrev zwrl : Reg := ⟨[.v 0, .p (.len (.t 0)), .p (.bin .gtr (.t 0) (.c (.int (1024)))), .t 0], [], [], some (9, 0)⟩
abbrev zDHp : Reg := ⟨[.p (.mv (.c (.int (3))))], [(3, 0)], [0, 2], none⟩
abbrev zQtq : Reg := ⟨[.v 0, .p (.mkf zVYD [(.v 2)]), .p (.cal zc7Y [(.t 1), (.t 0)]), .t 0], [], [0, 2], some (13, 0)⟩
abbrev zqkM : Reg := ⟨[.p (.mv (.c (.int (1))))], [(3, 0)], [], none⟩
abbrev zd6w : Reg := ⟨[.p (.mv (.c (.int (0))))], [(3, 0)], [], none⟩
abbrev zOgc : Fn := { np := 2, nv := 4, res := [(3, none)], body :=
(.seq (.reg zVl0)
 (.seq (.block 0 (.seq (.reg zbTp)
 (.cond 5 (.seq (.reg zXDL)
 .ret) (.seq (.reg zwrl)
 (.cond 9 (.seq (.reg zDHp)
 .ret) (.seq (.reg zQtq)
 (.cond 13 (.seq (.reg zqkM)
 .ret) .skip)))))))
 (.seq (.reg zd6w)
 .ret))) }
abbrev zgdD : Reg := ⟨[.p (.bxi (.v 0)), .p (.mv (.c (.int (0))))], [(1, 1)], [0, 2], none⟩
abbrev z9kj : Reg := ⟨[.p (.fad (.v 1) 0 none), .p (.ldi (.t 0) none), .p (.fad (.v 1) 1 none), .p (.ldi (.t 0) none), .p (.bin .add (.t 2) (.t 0)), .p (.fad (.v 1) 2 none), .p (.ldi (.t 0) none), .p (.bin .add (.t 2) (.t 0)), .t 0], [(2, 0)], [1], none⟩
abbrev zWmP : Fn := { np := 1, nv := 3, res := [(2, none)], body :=
(.seq (.reg zgdD)
 (.seq (.reg z9kj)
 .ret)) }
abbrev zVrt : Reg := ⟨[.p (.bxi (.v 0)), .p (.mv (.c (.int (0)))), .p (.mv (.c (.bool false)))], [(6, 2)], [0, 10, 11], none⟩
abbrev zVcs : Reg := ⟨[.p (.mv (.c (.int (0)))), .p (.mv (.c (.int (0)))), .p (.mv (.c (.bool true)))], [(7, 2), (8, 1), (9, 0)], [], none⟩
abbrev ztkC : Reg := ⟨[.v 1, .p (.len (.t 0)), .p (.mv (.c (.int (0))))], [(4, 2), (3, 1), (2, 0)], [1], none⟩
abbrev zpyA : Reg := ⟨[.p (.bin .lss (.v 2) (.v 3))], [], [], some (14, 0)⟩
abbrev zKd1 : Reg := ⟨[.p (.iad (.v 4) (.v 2) 1), .p (.ld (.t 0) none), .t 0], [(5, 0)], [], none⟩
abbrev zEB8 : Reg := ⟨[.v 5, .p (.fad (.v 6) 0 none), .p (.ldi (.t 0) none), .p (.bin .lss (.t 2) (.t 0)), .t 0], [], [], some (17, 0)⟩
abbrev zqj0 : Reg := ⟨[.v 7, .p (.bin .add (.t 0) (.c (.int (1)))), .t 0], [(7, 0)], [5], none⟩
abbrev zbTb : Reg := ⟨[.v 5, .p (.fad (.v 6) 0 none), .p (.ldi (.t 0) none), .p (.fad (.v 6) 1 none), .p (.ldi (.t 0) none), .p (.bin .add (.t 2) (.t 0)), .p (.bin .geq (.t 5) (.t 0)), .t 0], [], [5], some (24, 0)⟩
abbrev zfpx : Reg := ⟨[.v 7, .p (.bin .sub (.t 0) (.c (.int (1)))), .t 0], [(7, 0)], [], none⟩
abbrev zBFZ : Reg := ⟨[.v 8, .v 7, .p (.mx true (.t 1) (.t 0)), .t 0], [(8, 0)], [], none⟩
abbrev z1CF : Reg := ⟨[.v 9, .t 0, .x 0 (.mv (.v 7)), .x 1 (.bin .geq (.t 0) (.c (.int (0)))), .p (.pick (.t 2) (.t 0) (.c (.bool false))), .t 0], [(9, 0)], [], none⟩
abbrev zJiI : Reg := ⟨[.p (.bin .add (.v 2) (.c (.int (1)))), .t 0], [(2, 0)], [], none⟩
abbrev zvqO : IC := (.seq (.reg zpyA)
 (.seq (.cond 14 .skip (.exit 0))
 (.seq (.block 1 (.seq (.reg zKd1)
 (.seq (.block 2 (.seq (.reg zEB8)
 (.cond 17 (.reg zqj0) (.seq (.reg zbTb)
 (.cond 24 (.reg zfpx) .skip)))))
 (.seq (.reg zBFZ)
 (.reg z1CF)))))
 (.reg zJiI))))
abbrev zhBe : Reg := ⟨[.v 8, .v 9, .t 0, .x 0 (.mv (.v 7)), .x 1 (.bin .eql (.t 0) (.c (.int (0)))), .p (.pick (.t 2) (.t 0) (.c (.bool false))), .t 5, .t 1], [(10, 1), (11, 0)], [2, 3, 4, 6, 7, 8, 9], none⟩
abbrev zlvA : Fn := { np := 2, nv := 12, res := [(10, none), (11, none)], body :=
(.seq (.reg zVrt)
 (.seq (.reg zVcs)
 (.seq (.seq (.reg ztkC)
 (.block 0 (.loop zvqO)))
 (.seq (.reg zhBe)
 .ret)))) }
abbrev zua0 : Reg := ⟨[.p (.bxi (.v 0)), .p (.mv (.c (.int (0)))), .p (.mv (.c (.int (0))))], [(3, 2)], [0, 4, 5], none⟩
abbrev zjgW : Reg := ⟨[.p (.fad (.v 3) 0 (some 10)), .p (.fad (.t 0) 6 none), .p (.ldi (.t 0) none), .v 1, .p (.iad (.t 1) (.t 0) 1), .p (.ldi (.t 0) none), .v 2, .p (.iad (.t 1) (.t 0) 1), .p (.ldi (.t 0) none), .p (.fad (.v 3) 0 (some 10)), .p (.fad (.t 0) 7 none), .p (.ldi (.t 0) none), .v 1, .p (.iad (.t 1) (.t 0) 1), .p (.ldi (.t 0) none), .v 2, .p (.iad (.t 1) (.t 0) 1), .p (.ldi (.t 0) none), .t 9, .t 1], [(4, 1), (5, 0)], [1, 2, 3], none⟩
abbrev z0C4 : Fn := { np := 3, nv := 6, res := [(4, none), (5, none)], body :=
(.seq (.reg zua0)
 (.seq (.reg zjgW)
 .ret)) }
abbrev zmgM : Reg := ⟨[.v 0, .v 0, .p (.nck (.t 0)), .p (.fad (.t 0) 0 none), .p (.ld (.t 0) none), .v 1, .p (.lita [(.t 0)] 1), .p (.appw (.t 2) (.t 0) none), .p (.nck (.t 7)), .p (.fad (.t 0) 0 none), .p (.st (.t 0) (.t 2) 1)], [], [0, 1], none⟩
abbrev zrm0 : Fn := { np := 2, nv := 2, res := [], body :=
(.reg zmgM) }
abbrev zfIA : Reg := ⟨[.p (.bxi (.v 0)), .p (.mv (.c (.int (0))))], [(3, 1)], [0, 4], none⟩
abbrev zafr : Reg := ⟨[.p (.fad (.v 3) 0 (some 10)), .p (.fad (.t 0) 8 none), .p (.ldi (.t 0) none), .v 1, .p (.iad (.t 1) (.t 0) 1), .p (.ldi (.t 0) none), .v 2, .p (.iad (.t 1) (.t 0) 1), .p (.ldi (.t 0) none), .t 0], [(4, 0)], [1, 2, 3], none⟩
abbrev z8Ri : Fn := { np := 3, nv := 5, res := [(4, none)], body :=
(.seq (.reg zfIA)
 (.seq (.reg zafr)
 .ret)) }
abbrev z0Vk : Reg := ⟨[.p (.bxi (.v 0)), .p (.mv (.c (.int (0))))], [(4, 1)], [0, 5], none⟩
abbrev zI8P : Reg := ⟨[.p (.fad (.v 4) 0 (some 10)), .p (.fad (.t 0) 9 none), .p (.ldi (.t 0) none), .v 1, .p (.iad (.t 1) (.t 0) 1), .p (.ldi (.t 0) none), .v 2, .p (.iad (.t 1) (.t 0) 1), .p (.ldi (.t 0) none), .v 3, .p (.iad (.t 1) (.t 0) 1), .p (.ldi (.t 0) none), .t 0], [(5, 0)], [1, 2, 3, 4], none⟩
abbrev zSeE : Fn := { np := 4, nv := 6, res := [(5, none)], body :=
(.seq (.reg z0Vk)
 (.seq (.reg zI8P)
 .ret)) }
abbrev zYPW : Reg := ⟨[.p (.mv (.c (.int (0))))], [], [2], none⟩
abbrev zC0A : Reg := ⟨[.v 0, .p (.nck (.t 0)), .p (.fad (.t 0) 0 none), .p (.ld (.t 0) none), .v 0, .p (.nck (.t 0)), .p (.fad (.t 0) 0 none), .p (.ld (.t 0) none), .p (.len (.t 0)), .p (.bin .sub (.t 0) (.c (.int (1)))), .p (.iad (.t 6) (.t 0) 1), .p (.ld (.t 0) none), .t 0], [(1, 0)], [], none⟩
abbrev zd0q : Reg := ⟨[.v 0, .v 0, .p (.nck (.t 0)), .p (.fad (.t 0) 0 none), .p (.ld (.t 0) none), .v 0, .p (.nck (.t 0)), .p (.fad (.t 0) 0 none), .p (.ld (.t 0) none), .p (.len (.t 0)), .p (.bin .sub (.t 0) (.c (.int (1)))), .p (.slc (.t 6) none (some (.t 0)) 1), .p (.nck (.t 11)), .p (.fad (.t 0) 0 none), .p (.st (.t 0) (.t 2) 1)], [], [0], none⟩
abbrev zW3b : Reg := ⟨[.v 1, .t 0], [(2, 0)], [1], none⟩
abbrev zFZL : Fn := { np := 1, nv := 3, res := [(2, none)], body :=
(.seq (.reg zYPW)
 (.seq (.reg zC0A)
 (.seq (.reg zd0q)
 (.seq (.reg zW3b)
 .ret)))) }
abbrev zBfj : Reg := ⟨[.p (.mv (.c (.int (0))))], [], [3], none⟩
abbrev zIuz : Reg := ⟨[.v 0, .v 1, .p (.cal zy97 [(.t 1), (.t 0)]), .t 0], [(2, 0)], [], none⟩
abbrev zISi : Reg := ⟨[.v 2, .v 0, .p (.len (.t 0)), .p (.bin .eql (.t 2) (.t 0)), .t 0, .x 0 (.mv (.v 2)), .x 1 (.mv (.v 1)), .x 2 (.len (.t 0)), .x 3 (.bin .eql (.t 2) (.t 0)), .p (.pick (.t 4) (.t 0) (.c (.bool false))), .t 0], [], [], some (9, 0)⟩
abbrev zsdO : Reg := ⟨[.p (.mv (.c (.int (0))))], [(3, 0)], [0, 1, 2], none⟩
abbrev zzQC : Reg := ⟨[.v 2, .v 0, .p (.len (.t 0)), .p (.bin .eql (.t 2) (.t 0)), .t 0], [(4, 0)], [], none⟩
abbrev zS9b : Reg := ⟨[.v 2, .v 1, .p (.len (.t 0)), .p (.bin .lss (.t 2) (.t 0)), .t 0, .x 0 (.mv (.v 0)), .x 1 (.mv (.v 2)), .x 2 (.iad (.t 1) (.t 0) 1), .x 3 (.ld (.t 0) none), .x 4 (.mv (.v 1)), .x 5 (.mv (.v 2)), .x 6 (.iad (.t 1) (.t 0) 1), .x 7 (.ld (.t 0) none), .x 8 (.bin .lss (.t 4) (.t 0)), .p (.pick (.t 9) (.t 0) (.c (.bool false))), .t 0], [(4, 0)], [0, 1, 2], none⟩
abbrev zFK0 : Reg := ⟨[.p (.mv (.c (.int (-1))))], [(3, 0)], [0, 1, 2, 4], none⟩
abbrev zzP3 : Reg := ⟨[.p (.mv (.c (.int (1))))], [(3, 0)], [0, 1, 2, 4], none⟩
abbrev zGS2 : Fn := { np := 2, nv := 5, res := [(3, none)], body :=
(.seq (.reg zBfj)
 (.seq (.reg zIuz)
 (.seq (.block 0 (.seq (.reg zISi)
 (.cond 9 (.seq (.reg zsdO)
 .ret) (.seq (.seq (.reg zzQC)
 (.condv 4 .skip (.reg zS9b)))
 (.condv 4 (.seq (.reg zFK0)
 .ret) .skip)))))
 (.seq (.reg zzP3)
 .ret)))) }
abbrev zzFj : Reg := ⟨[.p (.bxm (.v 1) (some 10)), .p (.mv (.c (.snil)))], [(6, 1)], [1, 14], none⟩
abbrev zWTN : Reg := ⟨[.v 0, .p (.inv (.t 0) [(zwN8, zFCU), (zZPs, zmNm)] []), .p (.mks (.t 0) (.t 0) [.snil] none), .t 0], [(2, 0)], [], none⟩
abbrev zZ4r : Reg := ⟨[.v 2, .p (.len (.t 0)), .p (.mv (.c (.int (0))))], [(4, 1), (3, 0)], [], none⟩
abbrev zFBq : Reg := ⟨[.p (.bin .lss (.v 3) (.v 4))], [], [], some (16, 0)⟩
abbrev z486 : Reg := ⟨[.v 3, .t 0], [(5, 0)], [], none⟩
abbrev z30V : Reg := ⟨[.v 2, .v 5, .v 0, .p (.inv (.t 0) [(zwN8, zFCU), (zZPs, zmNm)] []), .p (.mks (.t 0) (.t 0) [.bool false] none), .p (.iad (.t 4) (.t 3) 1), .p (.st (.t 0) (.t 1) 1)], [], [], none⟩
abbrev zbGS : Reg := ⟨[.p (.fad (.v 6) 1 none), .p (.ld (.t 0) none), .p (.mv (.c (.int (0))))], [(8, 1), (7, 0)], [], none⟩
abbrev zbNJ : Reg := ⟨[.p (.bin .lss (.v 7) (.v 8))], [], [], some (27, 0)⟩
abbrev zJqC : Reg := ⟨[.v 7, .t 0], [(9, 0)], [], none⟩
abbrev zKS7 : Reg := ⟨[.v 2, .v 5, .p (.iad (.t 1) (.t 0) 1), .p (.ld (.t 0) none), .v 0, .v 5, .v 9, .p (.inv (.t 2) [(zwN8, zhMi), (zZPs, zdOj)] [(.t 1), (.t 0)]), .p (.iad (.t 4) (.t 0) 1), .p (.st (.t 0) (.c (.bool true)) 1)], [], [9], none⟩
abbrev zYYn : Reg := ⟨[.p (.bin .add (.v 7) (.c (.int (1)))), .t 0], [(7, 0)], [], none⟩
abbrev zzAD : IC := (.seq (.reg zbNJ)
 (.seq (.cond 27 .skip (.exit 2))
 (.seq (.block 3 (.seq (.reg zJqC)
 (.reg zKS7)))
 (.reg zYYn))))
abbrev z6A3 : Reg := ⟨[.p (.bin .add (.v 3) (.c (.int (1)))), .t 0], [(3, 0)], [5, 7, 8], none⟩
abbrev zFLe : IC := (.seq (.reg zFBq)
 (.seq (.cond 16 .skip (.exit 0))
 (.seq (.block 1 (.seq (.reg z486)
 (.seq (.reg z30V)
 (.seq (.reg zbGS)
 (.block 2 (.loop zzAD))))))
 (.reg z6A3))))
abbrev zDsT : Reg := ⟨[.v 0, .p (.inv (.t 0) [(zwN8, zFCU), (zZPs, zmNm)] []), .p (.mks (.t 0) (.t 0) [.snil] none), .t 0], [(10, 0)], [3, 4], none⟩
abbrev zXt0 : Reg := ⟨[.v 10, .p (.len (.t 0)), .p (.mv (.c (.int (0))))], [(12, 1), (11, 0)], [], none⟩
abbrev zv5d : Reg := ⟨[.p (.bin .lss (.v 11) (.v 12))], [], [], some (46, 0)⟩
abbrev zAtb : Reg := ⟨[.v 11, .t 0], [(13, 0)], [], none⟩
abbrev z7Dn : Reg := ⟨[.v 10, .v 13, .v 2, .v 13, .p (.cab zSOc [(.t 1), (.t 0)]), .p (.iad (.t 4) (.t 3) 1), .p (.st (.t 0) (.t 1) 1)], [], [13], none⟩
abbrev z6VR : Reg := ⟨[.p (.bin .add (.v 11) (.c (.int (1)))), .t 0], [(11, 0)], [], none⟩
abbrev zmbc : IC := (.seq (.reg zv5d)
 (.seq (.cond 46 .skip (.exit 6))
 (.seq (.block 7 (.seq (.reg zAtb)
 (.reg z7Dn)))
 (.reg z6VR))))
abbrev znwM : Reg := ⟨[.v 0, .p (.ld (.v 6) (some 10)), .v 2, .v 10, .p (.cam z7G9 [(.t 3), (.t 2), (.t 1), (.t 0)]), .p (.not (.t 0))], [], [11, 12], some (60, 0)⟩
abbrev zuzi : Reg := ⟨[.v 10, .t 0], [(14, 0)], [0, 2, 6, 10], none⟩
abbrev zBdB : IC := (.block 5 (.seq (.reg zDsT)
 (.seq (.seq (.reg zXt0)
 (.block 6 (.loop zmbc)))
 (.seq (.reg znwM)
 (.cond 60 (.seq (.reg zuzi)
 .ret) .skip)))))
abbrev zgy1 : Fn := { np := 2, nv := 15, res := [(14, none)], body :=
(.seq (.reg zzFj)
 (.seq (.reg zWTN)
 (.seq (.seq (.reg zZ4r)
 (.block 0 (.loop zFLe)))
 (.block 4 (.loop zBdB))))) }
abbrev zZmw : Reg := ⟨[.p (.mv (.c (.bool false)))], [], [3], none⟩
abbrev zB29 : Reg := ⟨[.v 0, .p (.len (.t 0)), .v 1, .p (.len (.t 0)), .p (.bin .neq (.t 2) (.t 0))], [], [], some (10, 0)⟩
abbrev zOJt : Reg := ⟨[.p (.mv (.c (.bool false)))], [(3, 0)], [0, 1], none⟩
abbrev zhrm : Reg := ⟨[.p (.mv (.c (.int (0))))], [(2, 0)], [], none⟩
abbrev zajM : Reg := ⟨[.v 2, .v 0, .p (.len (.t 0)), .p (.bin .lss (.t 2) (.t 0))], [], [], some (14, 0)⟩
abbrev z5oU : Reg := ⟨[.v 0, .v 2, .p (.iad (.t 1) (.t 0) 1), .p (.ld (.t 0) none), .v 1, .v 2, .p (.iad (.t 1) (.t 0) 1), .p (.ld (.t 0) none), .p (.beq true (.t 4) (.t 0))], [], [], some (25, 0)⟩
abbrev zdPH : Reg := ⟨[.p (.mv (.c (.bool false)))], [(3, 0)], [0, 1, 2], none⟩
abbrev zUZw : Reg := ⟨[.v 2, .p (.bin .add (.t 0) (.c (.int (1)))), .t 0], [(2, 0)], [], none⟩
abbrev zaNw : IC := (.seq (.seq (.reg zajM)
 (.cond 14 .skip (.exit 0)))
 (.seq (.block 1 (.seq (.reg z5oU)
 (.cond 25 (.seq (.reg zdPH)
 .ret) .skip)))
 (.reg zUZw)))
abbrev zSWy : Reg := ⟨[.p (.mv (.c (.bool true)))], [(3, 0)], [0, 1, 2], none⟩
abbrev zl93 : Fn := { np := 2, nv := 4, res := [(3, none)], body :=
(.seq (.reg zZmw)
 (.seq (.seq (.reg zB29)
 (.cond 10 (.seq (.reg zOJt)
 .ret) .skip))
 (.seq (.seq (.reg zhrm)
 (.block 0 (.loop zaNw)))
 (.seq (.reg zSWy)
 .ret)))) }
abbrev zjU2 : Reg := ⟨[.p (.bxi (.v 1)), .p (.mv (.c (.bool false)))], [(2, 1)], [1, 3], none⟩
abbrev z7KS : Reg := ⟨[.v 0, .p (.mkf zhiY [(.v 2)]), .p (.cal zc7Y [(.t 1), (.t 0)]), .t 0], [(3, 0)], [0, 2], none⟩
abbrev zY0C : Fn := { np := 2, nv := 4, res := [(3, none)], body :=
(.seq (.reg zjU2)
 (.seq (.reg z7KS)
 .ret)) }
abbrev zDo4 : Reg := ⟨[.p (.bxi (.v 0)), .p (.mv (.c (.int (0))))], [(2, 1)], [0, 8], none⟩
abbrev zQ1g : Reg := ⟨[.p (.fad (.v 2) 5 none), .p (.ldi (.t 0) none), .p (.len (.t 0)), .t 0], [(3, 0)], [], none⟩
abbrev zlxZ : Reg := ⟨[.p (.fad (.v 2) 6 none), .p (.ldi (.t 0) none), .v 1, .p (.iad (.t 1) (.t 0) 1), .p (.ldi (.t 0) none), .p (.len (.t 0)), .p (.fad (.v 2) 0 none), .p (.ldi (.t 0) none), .p (.bin .neq (.t 2) (.t 0)), .t 0, .y 0 (.fad (.v 2) 7 none), .y 1 (.ldi (.t 0) none), .y 2 (.mv (.v 1)), .y 3 (.iad (.t 1) (.t 0) 1), .y 4 (.ldi (.t 0) none), .y 5 (.len (.t 0)), .y 6 (.fad (.v 2) 0 none), .y 7 (.ldi (.t 0) none), .y 8 (.bin .neq (.t 2) (.t 0)), .p (.pick (.t 9) (.c (.bool true)) (.t 0)), .t 0, .y 0 (.fad (.v 2) 8 none), .y 1 (.ldi (.t 0) none), .y 2 (.mv (.v 1)), .y 3 (.iad (.t 1) (.t 0) 1), .y 4 (.ldi (.t 0) none), .y 5 (.len (.t 0)), .y 6 (.fad (.v 2) 1 none), .y 7 (.ldi (.t 0) none), .y 8 (.bin .neq (.t 2) (.t 0)), .p (.pick (.t 9) (.c (.bool true)) (.t 0)), .t 0, .y 0 (.fad (.v 2) 9 none), .y 1 (.ldi (.t 0) none), .y 2 (.mv (.v 1)), .y 3 (.iad (.t 1) (.t 0) 1), .y 4 (.ldi (.t 0) none), .y 5 (.len (.t 0)), .y 6 (.fad (.v 2) 3 none), .y 7 (.ldi (.t 0) none), .y 8 (.bin .neq (.t 2) (.t 0)), .p (.pick (.t 9) (.c (.bool true)) (.t 0))], [], [], some (52, 0)⟩
abbrev zsAz : Reg := ⟨[.p (.mv (.c (.int (1))))], [(8, 0)], [1, 2, 3], none⟩
abbrev zQ1d : Reg := ⟨[.p (.fad (.v 2) 6 none), .p (.ldi (.t 0) none), .v 1, .p (.iad (.t 1) (.t 0) 1), .p (.ldi (.t 0) none), .v 3, .p (.cal zTfU [(.t 1), (.t 0)]), .t 0, .y 0 (.fad (.v 2) 7 none), .y 1 (.ldi (.t 0) none), .y 2 (.mv (.v 1)), .y 3 (.iad (.t 1) (.t 0) 1), .y 4 (.ldi (.t 0) none), .y 5 (.fad (.v 2) 3 none), .y 6 (.ldi (.t 0) none), .y 7 (.cal zTfU [(.t 2), (.t 0)]), .p (.pick (.t 8) (.c (.bool true)) (.t 0)), .t 0, .y 0 (.fad (.v 2) 8 none), .y 1 (.ldi (.t 0) none), .y 2 (.mv (.v 1)), .y 3 (.iad (.t 1) (.t 0) 1), .y 4 (.ldi (.t 0) none), .y 5 (.mv (.v 3)), .y 6 (.cal zTfU [(.t 1), (.t 0)]), .p (.pick (.t 7) (.c (.bool true)) (.t 0))], [], [], some (78, 0)⟩
abbrev z0iD : Reg := ⟨[.p (.mv (.c (.int (2))))], [(8, 0)], [1, 2, 3], none⟩
abbrev zv2j : Reg := ⟨[.p (.fad (.v 2) 9 none), .p (.ldi (.t 0) none), .v 1, .p (.iad (.t 1) (.t 0) 1), .p (.ldi (.t 0) none), .p (.len (.t 0)), .p (.mv (.c (.int (0))))], [(6, 2), (5, 1), (4, 0)], [1], none⟩
abbrev zQT5 : Reg := ⟨[.p (.bin .lss (.v 4) (.v 5))], [], [], some (86, 0)⟩
abbrev zM0o : Reg := ⟨[.p (.iad (.v 6) (.v 4) 1), .p (.ld (.t 0) none), .t 0], [(7, 0)], [], none⟩
abbrev zANj : Reg := ⟨[.v 7, .p (.len (.t 0)), .p (.fad (.v 2) 2 none), .p (.ldi (.t 0) none), .p (.bin .neq (.t 2) (.t 0))], [], [], some (93, 0)⟩
abbrev znNO : Reg := ⟨[.p (.mv (.c (.int (1))))], [(8, 0)], [2, 3, 4, 5, 6, 7], none⟩
abbrev zkDC : Reg := ⟨[.v 7, .v 3, .p (.cal zTfU [(.t 1), (.t 0)])], [], [7], some (96, 0)⟩
abbrev zIma : Reg := ⟨[.p (.mv (.c (.int (2))))], [(8, 0)], [2, 3, 4, 5, 6], none⟩
abbrev zGKB : Reg := ⟨[.p (.bin .add (.v 4) (.c (.int (1)))), .t 0], [(4, 0)], [], none⟩
abbrev zU6S : IC := (.seq (.reg zQT5)
 (.seq (.cond 86 .skip (.exit 0))
 (.seq (.block 1 (.seq (.reg zM0o)
 (.seq (.seq (.reg zANj)
 (.cond 93 (.seq (.reg znNO)
 .ret) .skip))
 (.seq (.reg zkDC)
 (.cond 96 (.seq (.reg zIma)
 .ret) .skip)))))
 (.reg zGKB))))
abbrev zW2t : Reg := ⟨[.p (.mv (.c (.int (0))))], [(8, 0)], [2, 3, 4, 5, 6], none⟩
abbrev zWc7 : Fn := { np := 2, nv := 9, res := [(8, none)], body :=
(.seq (.reg zDo4)
 (.seq (.reg zQ1g)
 (.seq (.seq (.reg zlxZ)
 (.cond 52 (.seq (.reg zsAz)
 .ret) .skip))
 (.seq (.seq (.reg zQ1d)
 (.cond 78 (.seq (.reg z0iD)
 .ret) .skip))
 (.seq (.seq (.reg zv2j)
 (.block 0 (.loop zU6S)))
 (.seq (.reg zW2t)
 .ret)))))) }
abbrev z16V : Reg := ⟨[.p (.bxi (.v 1)), .p (.mv (.c (.pnil)))], [(2, 1)], [1, 15], none⟩
abbrev zjqN : Reg := ⟨[.v 0, .p (.ldi (.v 2) (some 10)), .v 0, .p (.inv (.t 0) [(zwN8, zFCU), (zZPs, zmNm)] []), .p (.can zlGq [(.t 0)]), .v 0, .p (.inv (.t 0) [(zwN8, zFCU), (zZPs, zmNm)] []), .p (.can zlGq [(.t 0)]), .v 0, .p (.inv (.t 0) [(zwN8, zFCU), (zZPs, zmNm)] []), .p (.mks (.t 0) (.t 0) [.snil] none), .p (.bld [.inil, .int 0, .int 0, .int 0, .int 0, .int 0, .snil, .snil, .snil, .snil, .snil, .pnil, .pnil, .snil] [(0, 1, (.t 10)), (1, 10, (.t 9)), (11, 1, (.t 6)), (12, 1, (.t 3)), (13, 1, (.t 0))]), .p (.bxm (.t 0) (some 14)), .t 0], [(5, 0)], [], none⟩
abbrev zL0D : Reg := ⟨[.v 0, .p (.inv (.t 0) [(zwN8, zFCU), (zZPs, zmNm)] []), .p (.mv (.c (.int (0))))], [(4, 1), (3, 0)], [], none⟩
abbrev z0rS : Reg := ⟨[.p (.bin .lss (.v 3) (.v 4))], [], [], some (27, 0)⟩
abbrev zqeC : Reg := ⟨[.v 3, .t 0], [(6, 0)], [], none⟩
abbrev zNC2 : Reg := ⟨[.v 5, .p (.nck (.t 0)), .p (.fad (.t 0) 12 none), .p (.ld (.t 0) none), .v 6, .v 6, .p (.cam zDj1 [(.t 2), (.t 1), (.t 0), (.c (.snil)), (.c (.snil))])], [], [], none⟩
abbrev zPeN : Reg := ⟨[.p (.fad (.v 2) 1 none), .p (.ldi (.t 0) none), .p (.mv (.c (.int (0))))], [(8, 1), (7, 0)], [], none⟩
abbrev zcRm : Reg := ⟨[.p (.bin .lss (.v 7) (.v 8))], [], [], some (39, 0)⟩
abbrev zp1J : Reg := ⟨[.v 7, .t 0], [(9, 0)], [], none⟩
abbrev z5Zk : Reg := ⟨[.v 5, .p (.nck (.t 0)), .p (.fad (.t 0) 11 none), .p (.ld (.t 0) none), .v 6, .v 0, .v 6, .v 9, .p (.inv (.t 2) [(zwN8, zhMi), (zZPs, zdOj)] [(.t 1), (.t 0)]), .p (.fad (.v 2) 0 none), .p (.ldi (.t 0) none), .v 9, .p (.bin .add (.t 1) (.t 0)), .p (.liti [(.t 0)] 1), .p (.cam zDj1 [(.t 10), (.t 9), (.t 5), (.t 0), (.c (.snil))])], [], [9], none⟩
abbrev zPgC : Reg := ⟨[.p (.bin .add (.v 7) (.c (.int (1)))), .t 0], [(7, 0)], [], none⟩
abbrev zxeH : IC := (.seq (.reg zcRm)
 (.seq (.cond 39 .skip (.exit 2))
 (.seq (.block 3 (.seq (.reg zp1J)
 (.reg z5Zk)))
 (.reg zPgC))))
abbrev zOF9 : Reg := ⟨[.p (.fad (.v 2) 0 none), .p (.ldi (.t 0) none), .p (.mv (.c (.int (0))))], [(11, 1), (10, 0)], [7, 8], none⟩
abbrev zjdL : Reg := ⟨[.p (.bin .lss (.v 10) (.v 11))], [], [], some (60, 0)⟩
abbrev zQ5R : Reg := ⟨[.v 10, .t 0], [(12, 0)], [], none⟩
abbrev zKuv : Reg := ⟨[.v 0, .v 6, .v 12, .p (.inv (.t 2) [(zwN8, zfSc), (zZPs, zZvM)] [(.t 1), (.t 0)]), .t 0, .p (.ext (.t 0) 0), .p (.ext (.t 1) 1), .t 1, .t 1], [(13, 1), (14, 0)], [], none⟩
abbrev z3fj : Reg := ⟨[.v 5, .p (.nck (.t 0)), .p (.fad (.t 0) 13 none), .p (.ld (.t 0) none), .v 13, .v 5, .p (.nck (.t 0)), .p (.fad (.t 0) 13 none), .p (.ld (.t 0) none), .v 13, .p (.iad (.t 1) (.t 0) 1), .p (.ld (.t 0) none), .v 6, .v 12, .v 14, .p (.bld [.int 0, .int 0, .int 0] [(0, 1, (.t 2)), (1, 1, (.t 1)), (2, 1, (.t 0))]), .p (.lita [(.t 0)] 3), .p (.app (.t 5) (.t 0) (some 3)), .p (.iad (.t 14) (.t 13) 1), .p (.st (.t 0) (.t 1) 1)], [], [12, 13, 14], none⟩
abbrev zDzQ : Reg := ⟨[.p (.bin .add (.v 10) (.c (.int (1)))), .t 0], [(10, 0)], [], none⟩
abbrev zUiV : IC := (.seq (.reg zjdL)
 (.seq (.cond 60 .skip (.exit 4))
 (.seq (.block 5 (.seq (.reg zQ5R)
 (.seq (.reg zKuv)
 (.reg z3fj))))
 (.reg zDzQ))))
abbrev z890 : Reg := ⟨[.p (.bin .add (.v 3) (.c (.int (1)))), .t 0], [(3, 0)], [6, 10, 11], none⟩
abbrev zg0V : IC := (.seq (.reg z0rS)
 (.seq (.cond 27 .skip (.exit 0))
 (.seq (.block 1 (.seq (.reg zqeC)
 (.seq (.reg zNC2)
 (.seq (.seq (.reg zPeN)
 (.block 2 (.loop zxeH)))
 (.seq (.reg zOF9)
 (.block 4 (.loop zUiV)))))))
 (.reg z890))))
abbrev zEzN : Reg := ⟨[.v 5, .t 0], [(15, 0)], [0, 2, 3, 4, 5], none⟩
abbrev zMAU : Fn := { np := 2, nv := 16, res := [(15, none)], body :=
(.seq (.reg z16V)
 (.seq (.reg zjqN)
 (.seq (.seq (.reg zL0D)
 (.block 0 (.loop zg0V)))
 (.seq (.reg zEzN)
 .ret)))) }
abbrev z3LB : Reg := ⟨[.p (.mv (.c (.snil)))], [], [27], none⟩
abbrev zokC : Reg := ⟨[.v 0, .p (.nck (.t 0)), .p (.fad (.t 0) 11 none), .p (.ld (.t 0) none), .v 1, .p (.cam zSWF [(.t 1), (.t 0)]), .p (.len (.t 0)), .p (.mv (.c (.int (0))))], [(4, 2), (3, 1), (2, 0)], [], none⟩
abbrev zNlO : Reg := ⟨[.p (.bin .lss (.v 2) (.v 3))], [], [], some (25, 0)⟩
abbrev z8Jk : Reg := ⟨[.p (.iad (.v 4) (.v 2) 2), .p (.ld (.t 0) (some 2)), .p (.alc0 2), .p (.ini (.t 0) (.t 1) 2)], [(5, 0)], [], none⟩
abbrev zSuP : Reg := ⟨[.v 0, .p (.nck (.t 0)), .p (.fad (.t 0) 12 none), .p (.ld (.t 0) none), .p (.nck (.t 0)), .p (.fad (.t 0) 1 none), .p (.ld (.t 0) none), .p (.iada (.v 5) (.c (.int (1))) 2 none), .p (.ldi (.t 0) none), .p (.iad (.t 2) (.t 0) 1), .p (.ld (.t 0) none), .p (.len (.t 0)), .p (.mv (.c (.int (0))))], [(8, 2), (7, 1), (6, 0)], [], none⟩
abbrev zJp7 : Reg := ⟨[.p (.bin .lss (.v 6) (.v 7))], [], [], some (41, 0)⟩
abbrev znKT : Reg := ⟨[.v 6, .p (.iad (.v 8) (.v 6) 1), .p (.ld (.t 0) none), .t 2, .t 1], [(10, 1), (9, 0)], [], none⟩
abbrev zuk5 : Reg := ⟨[.v 9], [], [9], some (45, 0)⟩
abbrev zBHm : Reg := ⟨[.v 0, .p (.nck (.t 0)), .p (.fad (.t 0) 12 none), .p (.ld (.t 0) none), .p (.iada (.v 5) (.c (.int (0))) 2 none), .p (.ldi (.t 0) none), .v 10, .v 0, .p (.nck (.t 0)), .p (.fad (.t 0) 11 none), .p (.ld (.t 0) none), .p (.nck (.t 0)), .p (.fad (.t 0) 0 none), .p (.ld (.t 0) none), .p (.iada (.v 5) (.c (.int (0))) 2 none), .p (.ldi (.t 0) none), .p (.iad (.t 2) (.t 0) 1), .p (.ld (.t 0) none), .p (.iada (.v 5) (.c (.int (1))) 2 none), .p (.ldi (.t 0) none), .p (.iad (.t 2) (.t 0) 1), .p (.ld (.t 0) none), .v 0, .p (.nck (.t 0)), .p (.fad (.t 0) 12 none), .p (.ld (.t 0) none), .p (.nck (.t 0)), .p (.fad (.t 0) 0 none), .p (.ld (.t 0) none), .p (.iada (.v 5) (.c (.int (1))) 2 none), .p (.ldi (.t 0) none), .p (.iad (.t 2) (.t 0) 1), .p (.ld (.t 0) none), .v 10, .p (.iad (.t 1) (.t 0) 1), .p (.ld (.t 0) none), .p (.cam zDj1 [(.t 32), (.t 30), (.t 29), (.t 14), (.t 0)])], [], [10], none⟩
abbrev zGlH : Reg := ⟨[.p (.bin .add (.v 6) (.c (.int (1)))), .t 0], [(6, 0)], [10], none⟩
abbrev z6Jr : IC := (.seq (.reg zJp7)
 (.seq (.cond 41 .skip (.exit 2))
 (.seq (.block 3 (.seq (.reg znKT)
 (.seq (.reg zuk5)
 (.cond 45 (.reg zBHm) .skip))))
 (.reg zGlH))))
abbrev zCXM : Reg := ⟨[.p (.bin .add (.v 2) (.c (.int (1)))), .t 0], [(2, 0)], [5, 6, 7, 8], none⟩
abbrev znZF : IC := (.seq (.reg zNlO)
 (.seq (.cond 25 .skip (.exit 0))
 (.seq (.block 1 (.seq (.reg z8Jk)
 (.seq (.reg zSuP)
 (.block 2 (.loop z6Jr)))))
 (.reg zCXM))))
abbrev zwA5 : Reg := ⟨[.v 0, .p (.nck (.t 0)), .p (.fad (.t 0) 12 none), .p (.ld (.t 0) none), .v 1, .p (.cam zSWF [(.t 1), (.t 0)]), .t 0], [(11, 0)], [1, 2, 3, 4], none⟩
abbrev zojZ : Reg := ⟨[.v 11, .p (.len (.t 0)), .p (.mv (.c (.int (0))))], [(14, 2), (13, 1), (12, 0)], [], none⟩
abbrev zMh8 : Reg := ⟨[.p (.bin .lss (.v 12) (.v 13))], [], [], some (94, 0)⟩
abbrev z3LH : Reg := ⟨[.p (.iad (.v 14) (.v 12) 2), .p (.ld (.t 0) (some 2)), .p (.alc0 2), .p (.ini (.t 0) (.t 1) 2)], [(15, 0)], [], none⟩
abbrev z3Js : Reg := ⟨[.v 0, .p (.nck (.t 0)), .p (.fad (.t 0) 12 none), .p (.ld (.t 0) none), .p (.nck (.t 0)), .p (.fad (.t 0) 0 none), .p (.ld (.t 0) none), .p (.iada (.v 15) (.c (.int (0))) 2 none), .p (.ldi (.t 0) none), .p (.iad (.t 2) (.t 0) 1), .p (.ld (.t 0) none), .p (.iada (.v 15) (.c (.int (1))) 2 none), .p (.ldi (.t 0) none), .p (.iad (.t 2) (.t 0) 1), .p (.ld (.t 0) none), .t 0], [(19, 0)], [], none⟩
abbrev ztDi : Reg := ⟨[.v 0, .p (.nck (.t 0)), .p (.fad (.t 0) 0 none), .p (.ld (.t 0) none), .p (.inv (.t 0) [(zwN8, zFCU), (zZPs, zmNm)] []), .p (.mv (.c (.int (0))))], [(17, 1), (16, 0)], [], none⟩
abbrev zfEq : Reg := ⟨[.p (.bin .lss (.v 16) (.v 17))], [], [], some (118, 0)⟩
abbrev zx3r : Reg := ⟨[.v 16, .t 0], [(18, 0)], [], none⟩
abbrev zZmC : Reg := ⟨[.v 0, .p (.nck (.t 0)), .p (.fad (.t 0) 11 none), .p (.ld (.t 0) none), .p (.nck (.t 0)), .p (.fad (.t 0) 1 none), .p (.ld (.t 0) none), .v 18, .p (.iad (.t 1) (.t 0) 1), .p (.ld (.t 0) none), .p (.iada (.v 15) (.c (.int (0))) 2 none), .p (.ldi (.t 0) none), .p (.iad (.t 2) (.t 0) 1), .p (.ld (.t 0) none)], [], [], some (133, 0)⟩
abbrev zKZI : Reg := ⟨[.v 0, .p (.nck (.t 0)), .p (.fad (.t 0) 12 none), .p (.ld (.t 0) none), .v 18, .p (.iada (.v 15) (.c (.int (1))) 2 none), .p (.ldi (.t 0) none), .v 0, .p (.nck (.t 0)), .p (.fad (.t 0) 11 none), .p (.ld (.t 0) none), .p (.nck (.t 0)), .p (.fad (.t 0) 0 none), .p (.ld (.t 0) none), .v 18, .p (.iad (.t 1) (.t 0) 1), .p (.ld (.t 0) none), .p (.iada (.v 15) (.c (.int (0))) 2 none), .p (.ldi (.t 0) none), .p (.iad (.t 2) (.t 0) 1), .p (.ld (.t 0) none), .v 19, .p (.cam zDj1 [(.t 18), (.t 17), (.t 15), (.t 1), (.t 0)])], [], [18], none⟩
abbrev zNZk : Reg := ⟨[.p (.bin .add (.v 16) (.c (.int (1)))), .t 0], [(16, 0)], [18], none⟩
abbrev zgF4 : IC := (.seq (.reg zfEq)
 (.seq (.cond 118 .skip (.exit 6))
 (.seq (.block 7 (.seq (.reg zx3r)
 (.seq (.reg zZmC)
 (.cond 133 (.reg zKZI) .skip))))
 (.reg zNZk))))
abbrev zfw0 : Reg := ⟨[.v 0, .p (.nck (.t 0)), .p (.fad (.t 0) 13 none), .p (.ld (.t 0) none), .p (.iada (.v 15) (.c (.int (0))) 2 none), .p (.ldi (.t 0) none), .p (.iad (.t 2) (.t 0) 1), .p (.ld (.t 0) none), .p (.len (.t 0)), .p (.mv (.c (.int (0))))], [(22, 2), (21, 1), (20, 0)], [16, 17], none⟩
abbrev zHHo : Reg := ⟨[.p (.bin .lss (.v 20) (.v 21))], [], [], some (168, 0)⟩
abbrev zTen : Reg := ⟨[.p (.iad (.v 22) (.v 20) 3), .p (.ld (.t 0) (some 3)), .p (.alc0 3), .p (.ini (.t 0) (.t 1) 3)], [(25, 0)], [], none⟩
abbrev zQjP : Reg := ⟨[.v 0, .p (.nck (.t 0)), .p (.fad (.t 0) 1 (some 10)), .p (.fad (.t 0) 2 none), .p (.ld (.t 0) none), .p (.mv (.c (.int (0))))], [(24, 1), (23, 0)], [], none⟩
abbrev z0XZ : Reg := ⟨[.p (.bin .lss (.v 23) (.v 24))], [], [], some (177, 0)⟩
abbrev zHdV : Reg := ⟨[.v 23, .t 0], [(26, 0)], [], none⟩
abbrev zcgo : Reg := ⟨[.v 0, .p (.nck (.t 0)), .p (.fad (.t 0) 11 none), .p (.ld (.t 0) none), .p (.fad (.v 25) 0 none), .p (.ldi (.t 0) none), .v 0, .p (.nck (.t 0)), .p (.fad (.t 0) 0 none), .p (.ld (.t 0) none), .p (.iada (.v 15) (.c (.int (1))) 2 none), .p (.ldi (.t 0) none), .p (.fad (.v 25) 2 none), .p (.ldi (.t 0) none), .v 26, .p (.inv (.t 5) [(zwN8, zNTN), (zZPs, zWl5), (z0z7, zC7Z)] [(.t 3), (.t 1), (.t 0)]), .p (.fad (.v 25) 1 none), .p (.ldi (.t 0) none), .p (.lita [(.t 0)] 1), .v 19, .p (.app (.t 1) (.t 0) none), .v 0, .p (.nck (.t 0)), .p (.fad (.t 0) 1 (some 10)), .p (.fad (.t 0) 0 none), ⟨.ld (.t 0) none, none, true⟩, .v 0, .p (.nck (.t 0)), .p (.fad (.t 0) 1 (some 10)), .p (.fad (.t 0) 1 none), ⟨.ld (.t 0) none, none, true⟩, .p (.bin .add (.t 5) (.t 0)), .v 26, .p (.bin .add (.t 1) (.t 0)), .p (.liti [(.t 0)] 1), .p (.cam zDj1 [(.t 31), (.t 29), (.t 19), (.t 14), (.t 0)])], [], [26], none⟩
abbrev zb0j : Reg := ⟨[.p (.bin .add (.v 23) (.c (.int (1)))), .t 0], [(23, 0)], [], none⟩
abbrev ztEs : IC := (.seq (.reg z0XZ)
 (.seq (.cond 177 .skip (.exit 10))
 (.seq (.block 11 (.seq (.reg zHdV)
 (.reg zcgo)))
 (.reg zb0j))))
abbrev z6Oa : Reg := ⟨[.p (.bin .add (.v 20) (.c (.int (1)))), .t 0], [(20, 0)], [23, 24, 25], none⟩
abbrev z3q7 : IC := (.seq (.reg zHHo)
 (.seq (.cond 168 .skip (.exit 8))
 (.seq (.block 9 (.seq (.reg zTen)
 (.seq (.reg zQjP)
 (.block 10 (.loop ztEs)))))
 (.reg z6Oa))))
abbrev zSqG : Reg := ⟨[.p (.bin .add (.v 12) (.c (.int (1)))), .t 0], [(12, 0)], [15, 19, 20, 21, 22], none⟩
abbrev zqiQ : IC := (.seq (.reg zMh8)
 (.seq (.cond 94 .skip (.exit 4))
 (.seq (.block 5 (.seq (.reg z3LH)
 (.seq (.reg z3Js)
 (.seq (.seq (.reg ztDi)
 (.block 6 (.loop zgF4)))
 (.seq (.reg zfw0)
 (.block 8 (.loop z3q7)))))))
 (.reg zSqG))))
abbrev zbSZ : Reg := ⟨[.v 11, .t 0], [(27, 0)], [0, 11, 12, 13, 14], none⟩
abbrev zT6q : Fn := { np := 2, nv := 28, res := [(27, none)], body :=
(.seq (.reg z3LB)
 (.seq (.seq (.reg zokC)
 (.block 0 (.loop znZF)))
 (.seq (.reg zwA5)
 (.seq (.seq (.reg zojZ)
 (.block 4 (.loop zqiQ)))
 (.seq (.reg zbSZ)
 .ret))))) }
abbrev z9fF : Reg := ⟨[.p (.mv (.c (.int (0))))], [], [2], none⟩
abbrev zjLt : Reg := ⟨[.v 0, .p (.len (.t 0)), .v 1, .p (.len (.t 0)), .p (.cal zb3m [(.t 2), (.t 0)]), .v 0, .v 1, .p (.cal z5pu [(.t 1), (.t 0)]), .p (.liti [(.t 3), (.t 0)] 1), .p (.cal zVj2 [(.t 0)]), .t 0], [(2, 0)], [0, 1], none⟩
abbrev zqU2 : Fn := { np := 2, nv := 3, res := [(2, none)], body :=
(.seq (.reg z9fF)
 (.seq (.reg zjLt)
 .ret)) }
abbrev zXcd : Reg := ⟨[.p (.mv (.c (.snil)))], [], [1], none⟩
abbrev z27K : Reg := ⟨[.v 0, .p (.bnl false (.t 0))], [], [], some (4, 0)⟩
abbrev z7Ba : Reg := ⟨[.p (.mv (.c (.snil)))], [(1, 0)], [0], none⟩
abbrev z3Ub : Reg := ⟨[.p (.lita [] 1), .v 0, .p (.appw (.t 1) (.t 0) none), .t 0], [(1, 0)], [0], none⟩
abbrev zhOv : Fn := { np := 1, nv := 2, res := [(1, none)], body :=
(.seq (.reg zXcd)
 (.seq (.seq (.reg z27K)
 (.cond 4 (.seq (.reg z7Ba)
 .ret) .skip))
 (.seq (.reg z3Ub)
 .ret))) }
abbrev zBR9 : Reg := ⟨[.p (.bxi (.v 0)), .p (.mv (.c (.int (0))))], [(1, 1)], [0, 2], none⟩
abbrev z5GP : Reg := ⟨[.p (.fad (.v 1) 0 none), .p (.ldi (.t 0) none), .p (.bin .lss (.t 0) (.c (.int (0)))), .t 0, .y 0 (.fad (.v 1) 0 none), .y 1 (.ldi (.t 0) none), .y 2 (.bin .gtr (.t 0) (.c (.int (64)))), .p (.pick (.t 3) (.c (.bool true)) (.t 0)), .t 0, .y 0 (.fad (.v 1) 1 none), .y 1 (.ldi (.t 0) none), .y 2 (.bin .lss (.t 0) (.c (.int (0)))), .p (.pick (.t 3) (.c (.bool true)) (.t 0)), .t 0, .y 0 (.fad (.v 1) 1 none), .y 1 (.ldi (.t 0) none), .y 2 (.bin .gtr (.t 0) (.c (.int (64)))), .p (.pick (.t 3) (.c (.bool true)) (.t 0)), .t 0, .y 0 (.fad (.v 1) 2 none), .y 1 (.ldi (.t 0) none), .y 2 (.bin .lss (.t 0) (.c (.int (0)))), .p (.pick (.t 3) (.c (.bool true)) (.t 0)), .t 0, .y 0 (.fad (.v 1) 2 none), .y 1 (.ldi (.t 0) none), .y 2 (.bin .gtr (.t 0) (.c (.int (64)))), .p (.pick (.t 3) (.c (.bool true)) (.t 0))], [], [], some (30, 0)⟩
abbrev zbX1 : Reg := ⟨[.p (.mv (.c (.int (2))))], [(2, 0)], [1], none⟩
abbrev z4ed : Reg := ⟨[.p (.ldi (.v 1) (some 10)), .p (.cal zVDQ [(.t 0)]), .p (.bin .lss (.t 0) (.c (.int (1)))), .t 0, .y 0 (.ldi (.v 1) (some 10)), .y 1 (.cal zVDQ [(.t 0)]), .y 2 (.bin .gtr (.t 0) (.c (.int (64)))), .p (.pick (.t 3) (.c (.bool true)) (.t 0)), .t 0, .y 0 (.fad (.v 1) 3 none), .y 1 (.ldi (.t 0) none), .y 2 (.bin .lss (.t 0) (.c (.int (1)))), .p (.pick (.t 3) (.c (.bool true)) (.t 0)), .t 0, .y 0 (.fad (.v 1) 3 none), .y 1 (.ldi (.t 0) none), .y 2 (.bin .gtr (.t 0) (.c (.int (128)))), .p (.pick (.t 3) (.c (.bool true)) (.t 0))], [], [], some (48, 0)⟩
abbrev zoB2 : Reg := ⟨[.p (.mv (.c (.int (2))))], [(2, 0)], [1], none⟩
abbrev zeJf : Reg := ⟨[.p (.fad (.v 1) 5 none), .p (.ldi (.t 0) none), .p (.len (.t 0)), .p (.bin .eql (.t 0) (.c (.int (0))))], [], [], some (52, 0)⟩
abbrev zPPU : Reg := ⟨[.p (.mv (.c (.int (19))))], [(2, 0)], [1], none⟩
abbrev zCSm : Reg := ⟨[.p (.fad (.v 1) 5 none), .p (.ldi (.t 0) none), .p (.len (.t 0)), .p (.bin .gtr (.t 0) (.c (.int (128))))], [], [], some (56, 0)⟩
abbrev z9SA : Reg := ⟨[.p (.mv (.c (.int (11))))], [(2, 0)], [1], none⟩
abbrev zmCA : Reg := ⟨[.p (.fad (.v 1) 4 none), .p (.ldi (.t 0) none), .p (.bin .lss (.t 0) (.c (.int (0)))), .t 0, .y 0 (.fad (.v 1) 4 none), .y 1 (.ldi (.t 0) none), .y 2 (.fad (.v 1) 5 none), .y 3 (.ldi (.t 0) none), .y 4 (.len (.t 0)), .y 5 (.bin .geq (.t 3) (.t 0)), .p (.pick (.t 6) (.c (.bool true)) (.t 0))], [], [], some (67, 0)⟩
abbrev ziHV : Reg := ⟨[.p (.mv (.c (.int (2))))], [(2, 0)], [1], none⟩
abbrev zBWf : Reg := ⟨[.p (.fad (.v 1) 6 none), .p (.ldi (.t 0) none), .p (.len (.t 0)), .p (.fad (.v 1) 5 none), .p (.ldi (.t 0) none), .p (.len (.t 0)), .p (.bin .neq (.t 3) (.t 0)), .t 0, .y 0 (.fad (.v 1) 7 none), .y 1 (.ldi (.t 0) none), .y 2 (.len (.t 0)), .y 3 (.fad (.v 1) 5 none), .y 4 (.ldi (.t 0) none), .y 5 (.len (.t 0)), .y 6 (.bin .neq (.t 3) (.t 0)), .p (.pick (.t 7) (.c (.bool true)) (.t 0)), .t 0, .y 0 (.fad (.v 1) 8 none), .y 1 (.ldi (.t 0) none), .y 2 (.len (.t 0)), .y 3 (.fad (.v 1) 5 none), .y 4 (.ldi (.t 0) none), .y 5 (.len (.t 0)), .y 6 (.bin .neq (.t 3) (.t 0)), .p (.pick (.t 7) (.c (.bool true)) (.t 0)), .t 0, .y 0 (.fad (.v 1) 9 none), .y 1 (.ldi (.t 0) none), .y 2 (.len (.t 0)), .y 3 (.fad (.v 1) 5 none), .y 4 (.ldi (.t 0) none), .y 5 (.len (.t 0)), .y 6 (.bin .neq (.t 3) (.t 0)), .p (.pick (.t 7) (.c (.bool true)) (.t 0))], [], [1], some (101, 0)⟩
abbrev zwIR : Reg := ⟨[.p (.mv (.c (.int (1))))], [(2, 0)], [], none⟩
abbrev zEzV : Reg := ⟨[.p (.mv (.c (.int (0))))], [(2, 0)], [], none⟩
abbrev zvW7 : Fn := { np := 1, nv := 3, res := [(2, none)], body :=
(.seq (.reg zBR9)
 (.seq (.seq (.reg z5GP)
 (.cond 30 (.seq (.reg zbX1)
 .ret) .skip))
 (.seq (.seq (.reg z4ed)
 (.cond 48 (.seq (.reg zoB2)
 .ret) .skip))
 (.seq (.seq (.reg zeJf)
 (.cond 52 (.seq (.reg zPPU)
 .ret) .skip))
 (.seq (.seq (.reg zCSm)
 (.cond 56 (.seq (.reg z9SA)
 .ret) .skip))
 (.seq (.seq (.reg zmCA)
 (.cond 67 (.seq (.reg ziHV)
 .ret) .skip))
 (.seq (.seq (.reg zBWf)
 (.cond 101 (.seq (.reg zwIR)
 .ret) .skip))
 (.seq (.reg zEzV)
 .ret)))))))) }
abbrev zkLe : Reg := ⟨[.p (.bxi (.v 0)), .p (.mv (.c (.int (0))))], [(2, 1)], [0, 7], none⟩
abbrev zT9u : Reg := ⟨[.p (.fad (.v 2) 6 none), .p (.ldi (.t 0) none), .v 1, .p (.iad (.t 1) (.t 0) 1), .p (.ldi (.t 0) none), .p (.len (.t 0)), .p (.fad (.v 2) 0 none), .p (.ldi (.t 0) none), .p (.bin .neq (.t 2) (.t 0)), .t 0, .y 0 (.fad (.v 2) 7 none), .y 1 (.ldi (.t 0) none), .y 2 (.mv (.v 1)), .y 3 (.iad (.t 1) (.t 0) 1), .y 4 (.ldi (.t 0) none), .y 5 (.len (.t 0)), .y 6 (.fad (.v 2) 0 none), .y 7 (.ldi (.t 0) none), .y 8 (.bin .neq (.t 2) (.t 0)), .p (.pick (.t 9) (.c (.bool true)) (.t 0)), .t 0, .y 0 (.fad (.v 2) 8 none), .y 1 (.ldi (.t 0) none), .y 2 (.mv (.v 1)), .y 3 (.iad (.t 1) (.t 0) 1), .y 4 (.ldi (.t 0) none), .y 5 (.len (.t 0)), .y 6 (.fad (.v 2) 1 none), .y 7 (.ldi (.t 0) none), .y 8 (.bin .neq (.t 2) (.t 0)), .p (.pick (.t 9) (.c (.bool true)) (.t 0)), .t 0, .y 0 (.fad (.v 2) 9 none), .y 1 (.ldi (.t 0) none), .y 2 (.mv (.v 1)), .y 3 (.iad (.t 1) (.t 0) 1), .y 4 (.ldi (.t 0) none), .y 5 (.len (.t 0)), .y 6 (.fad (.v 2) 3 none), .y 7 (.ldi (.t 0) none), .y 8 (.bin .neq (.t 2) (.t 0)), .p (.pick (.t 9) (.c (.bool true)) (.t 0))], [], [], some (50, 0)⟩
abbrev z7Na : Reg := ⟨[.p (.mv (.c (.int (1))))], [(7, 0)], [1, 2], none⟩
abbrev zKbz : Reg := ⟨[.p (.mv (.c (.int (0))))], [(3, 0)], [], none⟩
abbrev zNwO : Reg := ⟨[.v 3, .p (.fad (.v 2) 0 none), .p (.ldi (.t 0) none), .p (.bin .lss (.t 2) (.t 0))], [], [], some (54, 0)⟩
abbrev zfJ6 : Reg := ⟨[.p (.ldi (.v 2) (some 10)), .p (.fad (.v 2) 6 none), .p (.ldi (.t 0) none), .v 1, .p (.iad (.t 1) (.t 0) 1), .p (.ldi (.t 0) none), .v 3, .p (.iad (.t 1) (.t 0) 1), .p (.ldi (.t 0) none), .p (.cal zhAU [(.t 8), (.t 0)]), .p (.not (.t 0)), .t 0, .y 0 (.fad (.v 2) 7 none), .y 1 (.ldi (.t 0) none), .y 2 (.mv (.v 1)), .y 3 (.iad (.t 1) (.t 0) 1), .y 4 (.ldi (.t 0) none), .y 5 (.mv (.v 3)), .y 6 (.iad (.t 1) (.t 0) 1), .y 7 (.ldi (.t 0) none), .y 8 (.bin .lss (.t 0) (.c (.int (0)))), .p (.pick (.t 9) (.c (.bool true)) (.t 0)), .t 0, .y 0 (.fad (.v 2) 7 none), .y 1 (.ldi (.t 0) none), .y 2 (.mv (.v 1)), .y 3 (.iad (.t 1) (.t 0) 1), .y 4 (.ldi (.t 0) none), .y 5 (.mv (.v 3)), .y 6 (.iad (.t 1) (.t 0) 1), .y 7 (.ldi (.t 0) none), .y 8 (.fad (.v 2) 3 none), .y 9 (.ldi (.t 0) none), .y 10 (.bin .geq (.t 2) (.t 0)), .p (.pick (.t 11) (.c (.bool true)) (.t 0))], [], [], some (91, 0)⟩
abbrev zlCF : Reg := ⟨[.p (.mv (.c (.int (2))))], [(7, 0)], [1, 2, 3], none⟩
abbrev zDI2 : Reg := ⟨[.v 3, .p (.bin .add (.t 0) (.c (.int (1)))), .t 0], [(3, 0)], [], none⟩
abbrev zZfn : IC := (.seq (.seq (.reg zNwO)
 (.cond 54 .skip (.exit 0)))
 (.seq (.block 1 (.seq (.reg zfJ6)
 (.cond 91 (.seq (.reg zlCF)
 .ret) .skip)))
 (.reg zDI2)))
abbrev zkce : Reg := ⟨[.p (.mv (.c (.int (0))))], [(4, 0)], [3], none⟩
abbrev zd3K : Reg := ⟨[.v 4, .p (.fad (.v 2) 1 none), .p (.ldi (.t 0) none), .p (.bin .lss (.t 2) (.t 0))], [], [], some (95, 0)⟩
abbrev zTsP : Reg := ⟨[.p (.ldi (.v 2) (some 10)), .p (.fad (.v 2) 8 none), .p (.ldi (.t 0) none), .v 1, .p (.iad (.t 1) (.t 0) 1), .p (.ldi (.t 0) none), .v 4, .p (.iad (.t 1) (.t 0) 1), .p (.ldi (.t 0) none), .p (.cal zhAU [(.t 8), (.t 0)]), .p (.not (.t 0))], [], [], some (108, 0)⟩
abbrev ztCR : Reg := ⟨[.p (.mv (.c (.int (2))))], [(7, 0)], [1, 2, 4], none⟩
abbrev zmvv : Reg := ⟨[.v 4, .p (.bin .add (.t 0) (.c (.int (1)))), .t 0], [(4, 0)], [], none⟩
abbrev zTRA : IC := (.seq (.seq (.reg zd3K)
 (.cond 95 .skip (.exit 2)))
 (.seq (.block 3 (.seq (.reg zTsP)
 (.cond 108 (.seq (.reg ztCR)
 .ret) .skip)))
 (.reg zmvv)))
abbrev zLuk : Reg := ⟨[.p (.mv (.c (.int (0))))], [(5, 0)], [4], none⟩
abbrev zcMX : Reg := ⟨[.v 5, .p (.fad (.v 2) 3 none), .p (.ldi (.t 0) none), .p (.bin .lss (.t 2) (.t 0))], [], [], some (112, 0)⟩
abbrev z8IV : Reg := ⟨[.p (.fad (.v 2) 9 none), .p (.ldi (.t 0) none), .v 1, .p (.iad (.t 1) (.t 0) 1), .p (.ldi (.t 0) none), .v 5, .p (.iad (.t 1) (.t 0) 1), .p (.ldi (.t 0) none), .p (.len (.t 0)), .p (.fad (.v 2) 2 none), .p (.ldi (.t 0) none), .p (.bin .neq (.t 2) (.t 0))], [], [], some (126, 0)⟩
abbrev zKVc : Reg := ⟨[.p (.mv (.c (.int (1))))], [(7, 0)], [1, 2, 5], none⟩
abbrev zwHy : Reg := ⟨[.p (.mv (.c (.int (0))))], [(6, 0)], [], none⟩
abbrev zjEF : Reg := ⟨[.v 6, .p (.fad (.v 2) 2 none), .p (.ldi (.t 0) none), .p (.bin .lss (.t 2) (.t 0))], [], [], some (130, 0)⟩
abbrev z9ra : Reg := ⟨[.p (.ldi (.v 2) (some 10)), .p (.fad (.v 2) 9 none), .p (.ldi (.t 0) none), .v 1, .p (.iad (.t 1) (.t 0) 1), .p (.ldi (.t 0) none), .v 5, .p (.iad (.t 1) (.t 0) 1), .p (.ldi (.t 0) none), .v 6, .p (.iad (.t 1) (.t 0) 1), .p (.ldi (.t 0) none), .p (.cal zhAU [(.t 11), (.t 0)]), .p (.not (.t 0))], [], [], some (146, 0)⟩
abbrev z66p : Reg := ⟨[.p (.mv (.c (.int (2))))], [(7, 0)], [1, 2, 5, 6], none⟩
abbrev zPrB : Reg := ⟨[.v 6, .p (.bin .add (.t 0) (.c (.int (1)))), .t 0], [(6, 0)], [], none⟩
abbrev zBmr : IC := (.seq (.seq (.reg zjEF)
 (.cond 130 .skip (.exit 6)))
 (.seq (.block 7 (.seq (.reg z9ra)
 (.cond 146 (.seq (.reg z66p)
 .ret) .skip)))
 (.reg zPrB)))
abbrev znHD : Reg := ⟨[.v 5, .p (.bin .add (.t 0) (.c (.int (1)))), .t 0], [(5, 0)], [6], none⟩
abbrev zjuQ : IC := (.seq (.seq (.reg zcMX)
 (.cond 112 .skip (.exit 4)))
 (.seq (.block 5 (.seq (.seq (.reg z8IV)
 (.cond 126 (.seq (.reg zKVc)
 .ret) .skip))
 (.seq (.reg zwHy)
 (.block 6 (.loop zBmr)))))
 (.reg znHD)))
abbrev z46c : Reg := ⟨[.p (.mv (.c (.int (0))))], [(7, 0)], [1, 2, 5], none⟩
abbrev z4sU : Fn := { np := 2, nv := 8, res := [(7, none)], body :=
(.seq (.reg zkLe)
 (.seq (.seq (.reg zT9u)
 (.cond 50 (.seq (.reg z7Na)
 .ret) .skip))
 (.seq (.seq (.reg zKbz)
 (.block 0 (.loop zZfn)))
 (.seq (.seq (.reg zkce)
 (.block 2 (.loop zTRA)))
 (.seq (.seq (.reg zLuk)
 (.block 4 (.loop zjuQ)))
 (.seq (.reg z46c)
 .ret)))))) }
abbrev zXHX : Reg := ⟨[.p (.bxm (.v 0) (some 10)), .p (.mv (.c (.snil)))], [(2, 1)], [0, 8], none⟩
abbrev zriJ : Reg := ⟨[.p (.nl none)], [(3, 0)], [], none⟩
abbrev zULm : Reg := ⟨[.p (.mv (.c (.int (0))))], [(1, 0)], [], none⟩
abbrev zMj4 : Reg := ⟨[.v 1, .p (.fad (.v 2) 5 none), .p (.ld (.t 0) none), .p (.len (.t 0)), .p (.bin .lss (.t 3) (.t 0))], [], [], some (13, 0)⟩
abbrev zsyl : Reg := ⟨[.v 3, .p (.fad (.v 2) 5 none), .p (.ld (.t 0) none), .p (.len (.t 0)), .p (.mks (.t 0) (.t 0) [.bool false, .snil] (some 2)), .p (.lita [(.t 0)] 1), .p (.appw (.t 5) (.t 0) none), .t 0], [(3, 0)], [], none⟩
abbrev zCjI : Reg := ⟨[.v 3, .v 1, .p (.iad (.t 1) (.t 0) 1), .p (.ld (.t 0) none), .v 1, .p (.bld [.bool false, .snil] [(0, 1, (.c (.bool true)))]), .p (.iad (.t 2) (.t 1) 2), .p (.st (.t 0) (.t 1) 2)], [], [], none⟩
abbrev zGAj : Reg := ⟨[.v 1, .p (.bin .add (.t 0) (.c (.int (1)))), .t 0], [(1, 0)], [], none⟩
abbrev zfz5 : IC := (.seq (.seq (.reg zMj4)
 (.cond 13 .skip (.exit 0)))
 (.seq (.block 1 (.seq (.reg zsyl)
 (.reg zCjI)))
 (.reg zGAj)))
abbrev zkkg : Reg := ⟨[.p (.mv (.c (.bool true)))], [(4, 0)], [1], none⟩
abbrev z3Ip : Reg := ⟨[.v 4], [], [4, 5], some (30, 0)⟩
abbrev zU3h : Reg := ⟨[.p (.mv (.c (.bool false)))], [(4, 0)], [], none⟩
abbrev zqA8 : Reg := ⟨[.p (.mv (.c (.int (0))))], [(5, 0)], [], none⟩
abbrev zHCC : Reg := ⟨[.v 5, .p (.fad (.v 2) 5 none), .p (.ld (.t 0) none), .p (.len (.t 0)), .p (.bin .lss (.t 3) (.t 0))], [], [], some (35, 0)⟩
abbrev zJBi : Reg := ⟨[.p (.mv (.c (.int (0))))], [(6, 0)], [], none⟩
abbrev zHHu : Reg := ⟨[.v 6, .p (.fad (.v 2) 5 none), .p (.ld (.t 0) none), .p (.len (.t 0)), .p (.bin .lss (.t 3) (.t 0))], [], [], some (42, 0)⟩
abbrev zqRz : Reg := ⟨[.p (.ld (.v 2) (some 10)), .v 3, .v 5, .v 6, .p (.cam zJ5j [(.t 3), (.t 2), (.t 1), (.t 0)]), .p (.alc0 2), .p (.ini (.t 0) (.t 1) 2)], [(7, 0)], [], none⟩
abbrev z5l2 : Reg := ⟨[.p (.fad (.v 7) 0 none), .p (.ldi (.t 0) none), .v 3, .v 5, .p (.iad (.t 1) (.t 0) 1), .p (.ld (.t 0) none), .v 6, .p (.iad (.t 1) (.t 0) 2), .p (.fad (.t 0) 0 none), .p (.ld (.t 0) none), .p (.beq true (.t 8) (.t 0)), .t 0, .y 0 (.fad (.v 7) 0 none), .y 1 (.ldi (.t 0) none), .y 2 (.mv (.t 0)), .x 0 (.fad (.v 7) 1 none), .x 1 (.ldi (.t 0) none), .x 2 (.mv (.v 3)), .x 3 (.mv (.v 5)), .x 4 (.iad (.t 1) (.t 0) 1), .x 5 (.ld (.t 0) none), .x 6 (.mv (.v 6)), .x 7 (.iad (.t 1) (.t 0) 2), .x 8 (.fad (.t 0) 1 none), .x 9 (.ld (.t 0) none), .x 10 (.cal zA97 [(.t 8), (.t 0)]), .x 11 (.not (.t 0)), .y 15 (.pick (.t 12) (.t 0) (.c (.bool false))), .p (.pick (.t 16) (.c (.bool true)) (.t 0))], [], [], some (78, 0)⟩
abbrev zQ17 : Reg := ⟨[.v 3, .v 5, .p (.iad (.t 1) (.t 0) 1), .p (.ld (.t 0) none), .v 6, .p (.ldi (.v 7) (some 2)), .p (.iad (.t 2) (.t 1) 2), .p (.st (.t 0) (.t 1) 2)], [], [4, 7], none⟩
abbrev zPf5 : Reg := ⟨[.p (.mv (.c (.bool true)))], [(4, 0)], [], none⟩
abbrev zAGc : Reg := ⟨[.v 6, .p (.bin .add (.t 0) (.c (.int (1)))), .t 0], [(6, 0)], [7], none⟩
abbrev zqUL : IC := (.seq (.seq (.reg zHHu)
 (.cond 42 .skip (.exit 6)))
 (.seq (.block 7 (.seq (.reg zqRz)
 (.seq (.reg z5l2)
 (.cond 78 (.seq (.reg zQ17)
 (.reg zPf5)) .skip))))
 (.reg zAGc)))
abbrev zA6h : Reg := ⟨[.v 5, .p (.bin .add (.t 0) (.c (.int (1)))), .t 0], [(5, 0)], [6], none⟩
abbrev z7Fp : IC := (.seq (.seq (.reg zHCC)
 (.cond 35 .skip (.exit 4)))
 (.seq (.block 5 (.seq (.reg zJBi)
 (.block 6 (.loop zqUL))))
 (.reg zA6h)))
abbrev zLQi : IC := (.seq (.seq (.reg z3Ip)
 (.cond 30 .skip (.exit 2)))
 (.block 3 (.seq (.reg zU3h)
 (.seq (.reg zqA8)
 (.block 4 (.loop z7Fp))))))
abbrev zi4f : Reg := ⟨[.v 3, .t 0], [(8, 0)], [2, 3], none⟩
abbrev zk1D : Fn := { np := 1, nv := 9, res := [(8, none)], body :=
(.seq (.reg zXHX)
 (.seq (.reg zriJ)
 (.seq (.seq (.reg zULm)
 (.block 0 (.loop zfz5)))
 (.seq (.seq (.reg zkkg)
 (.block 2 (.loop zLQi)))
 (.seq (.reg zi4f)
 .ret))))) }
abbrev zzrV : Reg := ⟨[.p (.bxi (.v 0)), .p (.mv (.c (.snil)))], [(2, 1)], [0, 7], none⟩
abbrev zLv3 : Reg := ⟨[.p (.nl none)], [(3, 0)], [], none⟩
abbrev zjdh : Reg := ⟨[.p (.mv (.c (.int (0))))], [(1, 0)], [], none⟩
abbrev z1id : Reg := ⟨[.v 1, .p (.fad (.v 2) 5 none), .p (.ldi (.t 0) none), .p (.len (.t 0)), .p (.bin .lss (.t 3) (.t 0))], [], [], some (12, 0)⟩
abbrev z7D9 : Reg := ⟨[.v 3, .p (.fad (.v 2) 5 none), .p (.ldi (.t 0) none), .p (.len (.t 0)), .p (.mks (.t 0) (.t 0) [.bool false] none), .p (.lita [(.t 0)] 1), .p (.appw (.t 5) (.t 0) none), .t 0], [(3, 0)], [], none⟩
abbrev zdhr : Reg := ⟨[.v 3, .v 1, .p (.iad (.t 1) (.t 0) 1), .p (.ld (.t 0) none), .v 1, .p (.iad (.t 1) (.t 0) 1), .p (.st (.t 0) (.c (.bool true)) 1)], [], [], none⟩
abbrev zCeZ : Reg := ⟨[.v 1, .p (.bin .add (.t 0) (.c (.int (1)))), .t 0], [(1, 0)], [], none⟩
abbrev zMNb : IC := (.seq (.seq (.reg z1id)
 (.cond 12 .skip (.exit 0)))
 (.seq (.block 1 (.seq (.reg z7D9)
 (.reg zdhr)))
 (.reg zCeZ)))
abbrev zQDr : Reg := ⟨[.p (.mv (.c (.bool true)))], [(4, 0)], [1], none⟩
abbrev zxRa : Reg := ⟨[.v 4], [], [4, 5], some (28, 0)⟩
abbrev zgHd : Reg := ⟨[.p (.mv (.c (.bool false)))], [(4, 0)], [], none⟩
abbrev z6H3 : Reg := ⟨[.p (.mv (.c (.int (0))))], [(5, 0)], [], none⟩
abbrev zitB : Reg := ⟨[.v 5, .p (.fad (.v 2) 5 none), .p (.ldi (.t 0) none), .p (.len (.t 0)), .p (.bin .lss (.t 3) (.t 0))], [], [], some (33, 0)⟩
abbrev zSVX : Reg := ⟨[.p (.mv (.c (.int (0))))], [(6, 0)], [], none⟩
abbrev zIXX : Reg := ⟨[.v 6, .p (.fad (.v 2) 5 none), .p (.ldi (.t 0) none), .p (.len (.t 0)), .p (.bin .lss (.t 3) (.t 0))], [], [], some (40, 0)⟩
abbrev zToQ : Reg := ⟨[.v 3, .v 5, .p (.iad (.t 1) (.t 0) 1), .p (.ld (.t 0) none), .v 6, .p (.iad (.t 1) (.t 0) 1), .p (.ld (.t 0) none), .p (.not (.t 0)), .t 0, .x 0 (.ldi (.v 2) (some 10)), .x 1 (.mv (.v 3)), .x 2 (.mv (.v 5)), .x 3 (.mv (.v 6)), .x 4 (.cab zCCG [(.t 3), (.t 2), (.t 1), (.t 0)]), .p (.pick (.t 5) (.t 0) (.c (.bool false)))], [], [], some (57, 0)⟩
abbrev z5iG : Reg := ⟨[.v 3, .v 5, .p (.iad (.t 1) (.t 0) 1), .p (.ld (.t 0) none), .v 6, .p (.iad (.t 1) (.t 0) 1), .p (.st (.t 0) (.c (.bool true)) 1)], [], [4], none⟩
abbrev zUS8 : Reg := ⟨[.p (.mv (.c (.bool true)))], [(4, 0)], [], none⟩
abbrev zsF1 : Reg := ⟨[.v 6, .p (.bin .add (.t 0) (.c (.int (1)))), .t 0], [(6, 0)], [], none⟩
abbrev zy08 : IC := (.seq (.seq (.reg zIXX)
 (.cond 40 .skip (.exit 6)))
 (.seq (.block 7 (.seq (.reg zToQ)
 (.cond 57 (.seq (.reg z5iG)
 (.reg zUS8)) .skip)))
 (.reg zsF1)))
abbrev z66M : Reg := ⟨[.v 5, .p (.bin .add (.t 0) (.c (.int (1)))), .t 0], [(5, 0)], [6], none⟩
abbrev zUDZ : IC := (.seq (.seq (.reg zitB)
 (.cond 33 .skip (.exit 4)))
 (.seq (.block 5 (.seq (.reg zSVX)
 (.block 6 (.loop zy08))))
 (.reg z66M)))
abbrev zSeI : IC := (.seq (.seq (.reg zxRa)
 (.cond 28 .skip (.exit 2)))
 (.block 3 (.seq (.reg zgHd)
 (.seq (.reg z6H3)
 (.block 4 (.loop zUDZ))))))
abbrev zuiQ : Reg := ⟨[.v 3, .t 0], [(7, 0)], [2, 3], none⟩
abbrev zsZ9 : Fn := { np := 1, nv := 8, res := [(7, none)], body :=
(.seq (.reg zzrV)
 (.seq (.reg zLv3)
 (.seq (.seq (.reg zjdh)
 (.block 0 (.loop zMNb)))
 (.seq (.seq (.reg zQDr)
 (.block 2 (.loop zSeI)))
 (.seq (.reg zuiQ)
 .ret))))) }
abbrev zxXL : Reg := ⟨[.p (.bxi (.v 0)), .p (.alc [.bool false, .snil] (some 2))], [(2, 1), (3, 0)], [0], none⟩
abbrev zjQd : Reg := ⟨[.v 1, .p (.len (.t 0)), .p (.bin .gtr (.t 0) (.c (.int (1024)))), .t 0, .y 0 (.fad (.v 2) 0 none), .y 1 (.ldi (.t 0) none), .y 2 (.mv (.t 0)), .x 0 (.fad (.v 2) 1 none), .x 1 (.ldi (.t 0) none), .x 2 (.mv (.v 1)), .x 3 (.cal zIk1 [(.t 1), (.t 0)]), .x 4 (.bin .leq (.t 0) (.c (.int (0)))), .y 8 (.pick (.t 5) (.t 0) (.c (.bool false))), .p (.pick (.t 9) (.c (.bool true)) (.t 0))], [], [], some (18, 0)⟩
abbrev zUG8 : Reg := ⟨[.p (.ldi (.v 2) (some 2)), .p (.st (.v 3) (.t 0) 2)], [], [1, 2], none⟩
abbrev z3Ph : Reg := ⟨[.v 1, .p (.bld [.bool false, .snil] [(0, 1, (.c (.bool true))), (1, 1, (.t 0))]), .p (.st (.v 3) (.t 0) 2)], [], [1, 2], none⟩
abbrev z8XZ : Fn := { np := 2, nv := 4, res := [(3, some (some 2))], body :=
(.seq (.reg zxXL)
 (.seq (.seq (.reg zjQd)
 (.cond 18 (.seq (.reg zUG8)
 .ret) .skip))
 (.seq (.reg z3Ph)
 .ret))) }
abbrev zJmF : Reg := ⟨[.p (.mv (.c (.snil)))], [], [3], none⟩
abbrev z7vi : Reg := ⟨[.p (.nl none)], [(2, 0)], [], none⟩
abbrev z7th : Reg := ⟨[.p (.mv (.c (.int (0))))], [(1, 0)], [], none⟩
abbrev zFQC : Reg := ⟨[.v 1, .v 0, .p (.len (.t 0)), .p (.bin .lss (.t 2) (.t 0))], [], [], some (8, 0)⟩
abbrev zrhk : Reg := ⟨[.v 2, .v 0, .v 1, .p (.iad (.t 1) (.t 0) 1), .p (.ld (.t 0) none), .p (.appw (.t 4) (.t 0) none), .t 0], [(2, 0)], [], none⟩
abbrev zXml : Reg := ⟨[.v 1, .p (.bin .add (.t 0) (.c (.int (1)))), .t 0], [(1, 0)], [], none⟩
abbrev zUOa : IC := (.seq (.seq (.reg zFQC)
 (.cond 8 .skip (.exit 0)))
 (.seq (.block 1 (.reg zrhk))
 (.reg zXml)))
abbrev znJ3 : Reg := ⟨[.v 2, .t 0], [(3, 0)], [0, 1, 2], none⟩
abbrev zIYP : Fn := { np := 1, nv := 4, res := [(3, none)], body :=
(.seq (.reg zJmF)
 (.seq (.reg z7vi)
 (.seq (.seq (.reg z7th)
 (.block 0 (.loop zUOa)))
 (.seq (.reg znJ3)
 .ret)))) }
abbrev zyW4 : Reg := ⟨[.p (.bxi (.v 0)), .p (.bxi (.v 1)), .p (.mv (.c (.snil)))], [(5, 2), (7, 1)], [0, 1, 11], none⟩
abbrev zTNh : Reg := ⟨[.p (.nl none)], [(10, 0)], [], none⟩
abbrev zUEN : Reg := ⟨[.p (.mv (.c (.int (0))))], [(4, 0)], [], none⟩
abbrev zGkG : Reg := ⟨[.v 4, .p (.fad (.v 5) 3 none), .p (.ldi (.t 0) none), .p (.bin .lss (.t 2) (.t 0))], [], [], some (17, 0)⟩
abbrev zknb : Reg := ⟨[.p (.mv (.c (.int (0))))], [(6, 0)], [], none⟩
abbrev zV4H : Reg := ⟨[.v 6, .p (.fad (.v 7) 3 none), .p (.ldi (.t 0) none), .p (.bin .lss (.t 2) (.t 0))], [], [], some (23, 0)⟩
abbrev zXSM : Reg := ⟨[.p (.nl none)], [(9, 0)], [], none⟩
abbrev zcH5 : Reg := ⟨[.p (.mv (.c (.int (0))))], [(8, 0)], [], none⟩
abbrev z93K : Reg := ⟨[.v 8, .p (.fad (.v 5) 2 none), .p (.ldi (.t 0) none), .p (.bin .lss (.t 2) (.t 0))], [], [], some (29, 0)⟩
abbrev zQDW : Reg := ⟨[.v 9, .p (.fad (.v 5) 9 none), .p (.ldi (.t 0) none), .v 2, .p (.iad (.t 1) (.t 0) 1), .p (.ldi (.t 0) none), .v 4, .p (.iad (.t 1) (.t 0) 1), .p (.ldi (.t 0) none), .v 8, .p (.iad (.t 1) (.t 0) 1), .p (.ldi (.t 0) none), .p (.fad (.v 7) 5 none), .p (.ldi (.t 0) none), .p (.len (.t 0)), .p (.bin .mul (.t 3) (.t 0)), .p (.fad (.v 7) 9 none), .p (.ldi (.t 0) none), .v 3, .p (.iad (.t 1) (.t 0) 1), .p (.ldi (.t 0) none), .v 6, .p (.iad (.t 1) (.t 0) 1), .p (.ldi (.t 0) none), .v 8, .p (.iad (.t 1) (.t 0) 1), .p (.ldi (.t 0) none), .p (.bin .add (.t 11) (.t 0)), .p (.lita [(.t 0)] 1), .p (.app (.t 28) (.t 0) none), .t 0], [(9, 0)], [], none⟩
abbrev zeP6 : Reg := ⟨[.v 8, .p (.bin .add (.t 0) (.c (.int (1)))), .t 0], [(8, 0)], [], none⟩
abbrev zRpx : IC := (.seq (.seq (.reg z93K)
 (.cond 29 .skip (.exit 4)))
 (.seq (.block 5 (.reg zQDW))
 (.reg zeP6)))
abbrev zyy4 : Reg := ⟨[.v 10, .v 9, .p (.lita [(.t 0)] 1), .p (.appw (.t 2) (.t 0) none), .t 0], [(10, 0)], [8, 9], none⟩
abbrev zoiX : Reg := ⟨[.v 6, .p (.bin .add (.t 0) (.c (.int (1)))), .t 0], [(6, 0)], [], none⟩
abbrev zot6 : IC := (.seq (.seq (.reg zV4H)
 (.cond 23 .skip (.exit 2)))
 (.seq (.block 3 (.seq (.reg zXSM)
 (.seq (.seq (.reg zcH5)
 (.block 4 (.loop zRpx)))
 (.reg zyy4))))
 (.reg zoiX)))
abbrev z1Cd : Reg := ⟨[.v 4, .p (.bin .add (.t 0) (.c (.int (1)))), .t 0], [(4, 0)], [6], none⟩
abbrev zgsA : IC := (.seq (.seq (.reg zGkG)
 (.cond 17 .skip (.exit 0)))
 (.seq (.block 1 (.seq (.reg zknb)
 (.block 2 (.loop zot6))))
 (.reg z1Cd)))
abbrev zy2L : Reg := ⟨[.v 10, .t 0], [(11, 0)], [2, 3, 4, 5, 7, 10], none⟩
abbrev zuEc : Fn := { np := 4, nv := 12, res := [(11, none)], body :=
(.seq (.reg zyW4)
 (.seq (.reg zTNh)
 (.seq (.seq (.reg zUEN)
 (.block 0 (.loop zgsA)))
 (.seq (.reg zy2L)
 .ret)))) }
abbrev z2lN : Reg := ⟨[.p (.mv (.c (.bool false)))], [], [1], none⟩
abbrev z0h0 : Reg := ⟨[.v 0, .p (.bin .geq (.t 0) (.c (.int (1)))), .t 0, .x 0 (.mv (.v 0)), .x 1 (.bin .leq (.t 0) (.c (.int (1024)))), .p (.pick (.t 2) (.t 0) (.c (.bool false))), .t 0], [(1, 0)], [0], none⟩
abbrev zhzJ : Fn := { np := 1, nv := 2, res := [(1, none)], body :=
(.seq (.reg z2lN)
 (.seq (.reg z0h0)
 .ret)) }
abbrev zwgO : Reg := ⟨[.p (.mv (.c (.bool false)))], [], [1], none⟩
abbrev zKQK : Reg := ⟨[.v 0, .p (.bin .geq (.t 0) (.c (.int (1)))), .t 0, .x 0 (.mv (.v 0)), .x 1 (.bin .leq (.t 0) (.c (.int (1024)))), .p (.pick (.t 2) (.t 0) (.c (.bool false))), .t 0], [(1, 0)], [0], none⟩
abbrev zwWD : Fn := { np := 1, nv := 2, res := [(1, none)], body :=
(.seq (.reg zwgO)
 (.seq (.reg zKQK)
 .ret)) }
abbrev zZKl : Reg := ⟨[.p (.mv (.c (.bool false)))], [], [2], none⟩
abbrev zkoo : Reg := ⟨[.v 0, .v 1, .p (.cal z2JZ [(.t 1), (.t 0)]), .p (.bin .geq (.t 0) (.c (.int (0)))), .t 0], [(2, 0)], [0, 1], none⟩
abbrev zVqq : Fn := { np := 2, nv := 3, res := [(2, none)], body :=
(.seq (.reg zZKl)
 (.seq (.reg zkoo)
 .ret)) }
abbrev zFED : Reg := ⟨[.p (.mv (.c (.bool false)))], [], [2], none⟩
abbrev z4ll : Reg := ⟨[.v 0, .p (.bin .lss (.t 0) (.c (.int (0)))), .t 0, .y 0 (.mv (.v 0)), .y 1 (.ld (.v 1) none), .y 2 (.bin .geq (.t 1) (.t 0)), .p (.pick (.t 3) (.c (.bool true)) (.t 0)), .t 0], [(2, 0)], [0, 1], none⟩
abbrev zqiS : Fn := { np := 2, nv := 3, res := [(2, none)], body :=
(.seq (.reg zFED)
 (.seq (.reg z4ll)
 .ret)) }
abbrev zJan : Reg := ⟨[.p (.mv (.c (.int (0))))], [], [3], none⟩
abbrev zKkj : Reg := ⟨[.p (.mv (.c (.int (0))))], [(2, 0)], [], none⟩
abbrev zHvz : Reg := ⟨[.v 2, .v 0, .p (.len (.t 0)), .p (.bin .lss (.t 2) (.t 0)), .t 0, .x 0 (.mv (.v 2)), .x 1 (.mv (.v 1)), .x 2 (.len (.t 0)), .x 3 (.bin .lss (.t 2) (.t 0)), .p (.pick (.t 4) (.t 0) (.c (.bool false))), .t 0, .x 0 (.mv (.v 0)), .x 1 (.mv (.v 2)), .x 2 (.iad (.t 1) (.t 0) 1), .x 3 (.ld (.t 0) none), .x 4 (.mv (.v 1)), .x 5 (.mv (.v 2)), .x 6 (.iad (.t 1) (.t 0) 1), .x 7 (.ld (.t 0) none), .x 8 (.bin .eql (.t 4) (.t 0)), .p (.pick (.t 9) (.t 0) (.c (.bool false)))], [], [], some (26, 0)⟩
abbrev zgol : Reg := ⟨[.v 2, .p (.bin .add (.t 0) (.c (.int (1)))), .t 0], [(2, 0)], [], none⟩
abbrev znUd : IC := (.seq (.seq (.reg zHvz)
 (.cond 26 .skip (.exit 0)))
 (.block 1 (.reg zgol)))
abbrev zETM : Reg := ⟨[.v 2, .t 0], [(3, 0)], [0, 1, 2], none⟩
abbrev z4A4 : Fn := { np := 2, nv := 4, res := [(3, none)], body :=
(.seq (.reg zJan)
 (.seq (.reg zKkj)
 (.seq (.block 0 (.loop znUd))
 (.seq (.reg zETM)
 .ret)))) }
abbrev zMes : Reg := ⟨[.p (.mv (.c (.snil)))], [], [10], none⟩
abbrev ztRI : Reg := ⟨[.v 0, .p (.len (.t 0)), .p (.mks (.t 0) (.t 0) [.bool false] none), .t 0], [(2, 0)], [], none⟩
abbrev zwax : Reg := ⟨[.v 2, .v 1, .p (.iad (.t 1) (.t 0) 1), .p (.st (.t 0) (.c (.bool true)) 1)], [], [], none⟩
abbrev zADk : Reg := ⟨[.v 1, .p (.litm [(.t 0)] none), .t 0], [(4, 0)], [1], none⟩
abbrev zuL8 : Reg := ⟨[.p (.mv (.c (.int (0))))], [(3, 0)], [], none⟩
abbrev zRRv : Reg := ⟨[.v 3, .v 4, .p (.len (.t 0)), .p (.bin .lss (.t 2) (.t 0))], [], [], some (21, 0)⟩
abbrev z76T : Reg := ⟨[.v 0, .v 4, .v 3, .p (.iad (.t 1) (.t 0) 1), .p (.ld (.t 0) none), .p (.iad (.t 4) (.t 0) 1), .p (.ld (.t 0) none), .p (.len (.t 0)), .p (.mv (.c (.int (0))))], [(7, 2), (6, 1), (5, 0)], [], none⟩
abbrev zFWV : Reg := ⟨[.p (.bin .lss (.v 5) (.v 6))], [], [], some (33, 0)⟩
abbrev z88D : Reg := ⟨[.v 5, .p (.iad (.v 7) (.v 5) 1), .p (.ld (.t 0) none), .t 2, .t 1], [(9, 1), (8, 0)], [], none⟩
abbrev zbup : Reg := ⟨[.v 8, .t 0, .x 0 (.mv (.v 2)), .x 1 (.mv (.v 9)), .x 2 (.iad (.t 1) (.t 0) 1), .x 3 (.ld (.t 0) none), .x 4 (.not (.t 0)), .p (.pick (.t 5) (.t 0) (.c (.bool false)))], [], [8], some (44, 0)⟩
abbrev z8PO : Reg := ⟨[.v 2, .v 9, .p (.iad (.t 1) (.t 0) 1), .p (.st (.t 0) (.c (.bool true)) 1)], [], [], none⟩
abbrev zTbX : Reg := ⟨[.v 4, .v 9, .p (.lita [(.t 0)] 1), .p (.appw (.t 2) (.t 0) none), .t 0], [(4, 0)], [9], none⟩
abbrev zDnG : Reg := ⟨[.p (.bin .add (.v 5) (.c (.int (1)))), .t 0], [(5, 0)], [9], none⟩
abbrev znJg : IC := (.seq (.reg zFWV)
 (.seq (.cond 33 .skip (.exit 2))
 (.seq (.block 3 (.seq (.reg z88D)
 (.seq (.reg zbup)
 (.cond 44 (.seq (.reg z8PO)
 (.reg zTbX)) .skip))))
 (.reg zDnG))))
abbrev zOaC : Reg := ⟨[.v 3, .p (.bin .add (.t 0) (.c (.int (1)))), .t 0], [(3, 0)], [5, 6, 7], none⟩
abbrev zxSa : IC := (.seq (.seq (.reg zRRv)
 (.cond 21 .skip (.exit 0)))
 (.seq (.block 1 (.seq (.reg z76T)
 (.block 2 (.loop znJg))))
 (.reg zOaC)))
abbrev zlYZ : Reg := ⟨[.v 2, .t 0], [(10, 0)], [0, 2, 3, 4], none⟩
abbrev zmvx : Fn := { np := 2, nv := 11, res := [(10, none)], body :=
(.seq (.reg zMes)
 (.seq (.reg ztRI)
 (.seq (.reg zwax)
 (.seq (.reg zADk)
 (.seq (.seq (.reg zuL8)
 (.block 0 (.loop zxSa)))
 (.seq (.reg zlYZ)
 .ret)))))) }
abbrev z121 : Reg := ⟨[.p (.bxi (.v 1)), .p (.mv (.c (.bool false)))], [(6, 1)], [1, 21], none⟩
abbrev zZtt : Reg := ⟨[.p (.mv (.c (.bool false)))], [(19, 0)], [], none⟩
abbrev zKjx : Reg := ⟨[.v 2, .p (.len (.t 0)), .p (.mv (.c (.int (0))))], [(5, 1), (4, 0)], [], none⟩
abbrev zkBN : Reg := ⟨[.p (.bin .lss (.v 4) (.v 5))], [], [], some (21, 0)⟩
abbrev zGYG : Reg := ⟨[.v 4, .t 0], [(9, 0)], [], none⟩
abbrev zJ1Y : Reg := ⟨[.p (.fad (.v 6) 0 none), .p (.ldi (.t 0) none), .p (.mv (.c (.int (0))))], [(8, 1), (7, 0)], [], none⟩
abbrev zqUN : Reg := ⟨[.p (.bin .lss (.v 7) (.v 8))], [], [], some (26, 0)⟩
abbrev zNCX : Reg := ⟨[.v 7, .t 0], [(10, 0)], [], none⟩
abbrev zoYE : Reg := ⟨[.v 0, .v 9, .v 10, .p (.inv (.t 2) [(zwN8, zfSc), (zZPs, zZvM)] [(.t 1), (.t 0)]), .t 0, .p (.ext (.t 0) 0), .p (.ext (.t 1) 1), .t 1, .t 1], [(11, 1), (18, 0)], [10], none⟩
abbrev zWqJ : Reg := ⟨[.v 3, .v 11, .p (.iad (.t 1) (.t 0) 1), .p (.ld (.t 0) none), .p (.len (.t 0)), .p (.mv (.c (.int (0))))], [(14, 2), (13, 1), (12, 0)], [11], none⟩
abbrev zCtf : Reg := ⟨[.p (.bin .lss (.v 12) (.v 13))], [], [], some (41, 0)⟩
abbrev zcJZ : Reg := ⟨[.v 12, .p (.iad (.v 14) (.v 12) 1), .p (.ld (.t 0) none), .t 2, .t 1], [(17, 1), (16, 0)], [], none⟩
abbrev z7Or : Reg := ⟨[.p (.mv (.c (.int (0))))], [(15, 0)], [], none⟩
abbrev zoko : Reg := ⟨[.v 15, .p (.fad (.v 6) 2 none), .p (.ldi (.t 0) none), .p (.bin .lss (.t 2) (.t 0)), .t 0, .x 0 (.mv (.v 16)), .p (.pick (.t 1) (.t 0) (.c (.bool false)))], [], [], some (51, 0)⟩
abbrev zKsv : Reg := ⟨[.v 0, .v 17, .v 18, .v 15, .p (.inv (.t 3) [(zwN8, zNTN), (zZPs, zWl5), (z0z7, zC7Z)] [(.t 2), (.t 1), (.t 0)]), .t 0], [(20, 0)], [], none⟩
abbrev zAPf : Reg := ⟨[.v 19, .t 0, .y 0 (.mv (.v 2)), .y 1 (.mv (.v 9)), .y 2 (.iad (.t 1) (.t 0) 1), .y 3 (.ld (.t 0) none), .y 4 (.mv (.v 20)), .y 5 (.iad (.t 1) (.t 0) 1), .y 6 (.ld (.t 0) none), .y 7 (.not (.t 0)), .p (.pick (.t 8) (.c (.bool true)) (.t 0)), .t 0], [(19, 0)], [], none⟩
abbrev zXtX : Reg := ⟨[.v 2, .v 9, .p (.iad (.t 1) (.t 0) 1), .p (.ld (.t 0) none), .v 20, .p (.iad (.t 1) (.t 0) 1), .p (.st (.t 0) (.c (.bool true)) 1)], [], [20], none⟩
abbrev zd2n : Reg := ⟨[.v 15, .p (.bin .add (.t 0) (.c (.int (1)))), .t 0], [(15, 0)], [], none⟩
abbrev zSsf : IC := (.seq (.seq (.reg zoko)
 (.cond 51 .skip (.exit 6)))
 (.seq (.block 7 (.seq (.reg zKsv)
 (.seq (.reg zAPf)
 (.reg zXtX))))
 (.reg zd2n)))
abbrev zwyG : Reg := ⟨[.p (.bin .add (.v 12) (.c (.int (1)))), .t 0], [(12, 0)], [15, 16, 17], none⟩
abbrev zR5f : IC := (.seq (.reg zCtf)
 (.seq (.cond 41 .skip (.exit 4))
 (.seq (.block 5 (.seq (.reg zcJZ)
 (.seq (.reg z7Or)
 (.block 6 (.loop zSsf)))))
 (.reg zwyG))))
abbrev zCFe : Reg := ⟨[.p (.bin .add (.v 7) (.c (.int (1)))), .t 0], [(7, 0)], [12, 13, 14, 18], none⟩
abbrev zeG9 : IC := (.seq (.reg zqUN)
 (.seq (.cond 26 .skip (.exit 2))
 (.seq (.block 3 (.seq (.reg zNCX)
 (.seq (.reg zoYE)
 (.seq (.reg zWqJ)
 (.block 4 (.loop zR5f))))))
 (.reg zCFe))))
abbrev zlKT : Reg := ⟨[.p (.bin .add (.v 4) (.c (.int (1)))), .t 0], [(4, 0)], [7, 8, 9], none⟩
abbrev zXYU : IC := (.seq (.reg zkBN)
 (.seq (.cond 21 .skip (.exit 0))
 (.seq (.block 1 (.seq (.reg zGYG)
 (.seq (.reg zJ1Y)
 (.block 2 (.loop zeG9)))))
 (.reg zlKT))))
abbrev zyCP : Reg := ⟨[.v 19, .t 0], [(21, 0)], [0, 2, 3, 4, 5, 6, 19], none⟩
abbrev z2Ec : Fn := { np := 4, nv := 22, res := [(21, none)], body :=
(.seq (.reg z121)
 (.seq (.reg zZtt)
 (.seq (.seq (.reg zKjx)
 (.block 0 (.loop zXYU)))
 (.seq (.reg zyCP)
 .ret)))) }
abbrev zIFy : Reg := ⟨[.p (.mv (.c (.bool false)))], [], [2], none⟩
abbrev zzwR : Reg := ⟨[.v 0, .p (.bin .lss (.t 0) (.c (.int (0)))), .t 0, .y 0 (.mv (.v 0)), .y 1 (.ld (.v 1) none), .y 2 (.bin .geq (.t 1) (.t 0)), .p (.pick (.t 3) (.c (.bool true)) (.t 0)), .t 0], [(2, 0)], [0, 1], none⟩
abbrev zkh5 : Fn := { np := 2, nv := 3, res := [(2, none)], body :=
(.seq (.reg zIFy)
 (.seq (.reg zzwR)
 .ret)) }
abbrev zEOF : Reg := ⟨[.p (.mv (.c (.pnil)))], [], [4], none⟩
abbrev zOtr : Reg := ⟨[.p (.mks (.c (.int (1025))) (.c (.int (1025))) [.snil] none), .p (.bld [.snil, .snil, .snil] [(2, 1, (.t 0))]), .p (.bxm (.t 0) (some 3)), .t 0], [(3, 0)], [], none⟩
abbrev z7mm : Reg := ⟨[.v 0, .p (.mv (.c (.int (0))))], [(2, 1), (1, 0)], [], none⟩
abbrev zvlH : Reg := ⟨[.p (.bin .lss (.v 1) (.v 2))], [], [], some (9, 0)⟩
abbrev zI71 : Reg := ⟨[.v 3, .v 3, .p (.nck (.t 0)), .p (.fad (.t 0) 0 none), .p (.ld (.t 0) none), .v 0, .p (.mks (.t 0) (.t 0) [.snil] none), .p (.lita [(.t 0)] 1), .p (.app (.t 3) (.t 0) none), .p (.nck (.t 8)), .p (.fad (.t 0) 0 none), .p (.st (.t 0) (.t 2) 1)], [], [], none⟩
abbrev zT15 : Reg := ⟨[.v 3, .v 3, .p (.nck (.t 0)), .p (.fad (.t 0) 1 none), .p (.ld (.t 0) none), .v 0, .p (.mks (.t 0) (.t 0) [.bool false] none), .p (.lita [(.t 0)] 1), .p (.app (.t 3) (.t 0) none), .p (.nck (.t 8)), .p (.fad (.t 0) 1 none), .p (.st (.t 0) (.t 2) 1)], [], [], none⟩
abbrev zSD3 : Reg := ⟨[.p (.bin .add (.v 1) (.c (.int (1)))), .t 0], [(1, 0)], [], none⟩
abbrev z6pa : IC := (.seq (.reg zvlH)
 (.seq (.cond 9 .skip (.exit 0))
 (.seq (.block 1 (.seq (.reg zI71)
 (.reg zT15)))
 (.reg zSD3))))
abbrev znTk : Reg := ⟨[.v 3, .t 0], [(4, 0)], [0, 1, 2, 3], none⟩
abbrev zkbR : Fn := { np := 1, nv := 5, res := [(4, none)], body :=
(.seq (.reg zEOF)
 (.seq (.reg zOtr)
 (.seq (.seq (.reg z7mm)
 (.block 0 (.loop z6pa)))
 (.seq (.reg znTk)
 .ret)))) }
abbrev z1SC : Reg := ⟨[.v 3, .p (.len (.t 0)), .v 4, .p (.len (.t 0)), .p (.bin .add (.t 2) (.t 0)), .t 0], [(5, 0)], [], none⟩
abbrev zZTC : Reg := ⟨[.v 0, .p (.nck (.t 0)), .p (.fad (.t 0) 0 none), .p (.ld (.t 0) none), .v 1, .p (.iad (.t 1) (.t 0) 1), .p (.ld (.t 0) none), .v 2, .p (.iad (.t 1) (.t 0) 1), .p (.ld (.t 0) none), .t 0], [(6, 0)], [], none⟩
abbrev zH9S : Reg := ⟨[.v 5, .p (.bin .gtr (.t 0) (.c (.int (1024)))), .t 0, .y 0 (.mv (.v 0)), .y 1 (.nck (.t 0)), .y 2 (.fad (.t 0) 1 none), .y 3 (.ld (.t 0) none), .y 4 (.mv (.v 1)), .y 5 (.iad (.t 1) (.t 0) 1), .y 6 (.ld (.t 0) none), .y 7 (.mv (.v 2)), .y 8 (.iad (.t 1) (.t 0) 1), .y 9 (.ld (.t 0) none), .p (.pick (.t 10) (.c (.bool true)) (.t 0)), .t 0, .y 0 (.mv (.v 6)), .y 1 (.bnl true (.t 0)), .y 2 (.mv (.t 0)), .x 0 (.mv (.v 6)), .x 1 (.len (.t 0)), .x 2 (.mv (.v 5)), .x 3 (.bin .lss (.t 1) (.t 0)), .y 7 (.pick (.t 4) (.t 0) (.c (.bool false))), .p (.pick (.t 8) (.c (.bool true)) (.t 0))], [], [], some (51, 0)⟩
abbrev zJmP : Reg := ⟨[.v 5, .p (.bin .add (.t 0) (.c (.int (1)))), .p (.mks (.c (.int (0))) (.t 0) [.int 0] none), .v 3, .p (.appw (.t 1) (.t 0) none), .v 4, .p (.appw (.t 1) (.t 0) none), .t 0], [(7, 0)], [3, 4], none⟩
abbrev zicO : Reg := ⟨[.v 6, .p (.bnl true (.t 0)), .t 0, .x 0 (.mv (.v 6)), .x 1 (.mv (.v 7)), .x 2 (.cal zGKM [(.t 1), (.t 0)]), .x 3 (.bin .leq (.t 0) (.c (.int (0)))), .p (.pick (.t 4) (.t 0) (.c (.bool false)))], [], [], some (66, 0)⟩
abbrev zBMU : Reg := ⟨[.v 0, .p (.nck (.t 0)), .p (.fad (.t 0) 0 none), .p (.ld (.t 0) none), .v 1, .p (.iad (.t 1) (.t 0) 1), .p (.ld (.t 0) none), .v 2, .v 7, .p (.iad (.t 2) (.t 1) 1), .p (.st (.t 0) (.t 1) 1)], [], [7], none⟩
abbrev zcZ5 : Reg := ⟨[.v 6, .p (.bnl false (.t 0)), .t 0, .y 0 (.mv (.v 6)), .y 1 (.len (.t 0)), .y 2 (.mv (.v 5)), .y 3 (.bin .gtr (.t 1) (.t 0)), .p (.pick (.t 4) (.c (.bool true)) (.t 0))], [], [6], some (84, 0)⟩
abbrev zN12 : Reg := ⟨[.v 0, .p (.nck (.t 0)), .p (.fad (.t 0) 2 none), .p (.ld (.t 0) none), .v 5, .v 0, .p (.nck (.t 0)), .p (.fad (.t 0) 2 none), .p (.ld (.t 0) none), .v 5, .p (.iad (.t 1) (.t 0) 1), .p (.ld (.t 0) none), .v 1, .v 2, .p (.bld [.int 0, .int 0] [(0, 1, (.t 1)), (1, 1, (.t 0))]), .p (.lita [(.t 0)] 2), .p (.app (.t 4) (.t 0) (some 2)), .p (.iad (.t 13) (.t 12) 1), .p (.st (.t 0) (.t 1) 1)], [], [0, 1, 2, 5], none⟩
abbrev zG2w : Fn := { np := 5, nv := 8, res := [], body :=
(.seq (.reg z1SC)
 (.seq (.reg zZTC)
 (.seq (.seq (.reg zH9S)
 (.cond 51 .ret .skip))
 (.seq (.seq (.reg zJmP) (.frz 7))
 (.seq (.seq (.reg zicO)
 (.cond 66 .ret .skip))
 (.seq (.reg zBMU)
 (.seq (.reg zcZ5)
 (.cond 84 (.reg zN12) .skip)))))))) }
abbrev zHvO : Reg := ⟨[.p (.mv (.c (.snil)))], [], [7], none⟩
abbrev zvSJ : Reg := ⟨[.p (.nl (some 2))], [(6, 0)], [], none⟩
abbrev zyGW : Reg := ⟨[.v 0, .p (.nck (.t 0)), .p (.fad (.t 0) 2 none), .p (.ld (.t 0) none), .v 1, .p (.iad (.t 1) (.t 0) 1), .p (.ld (.t 0) none), .p (.len (.t 0)), .p (.mv (.c (.int (0))))], [(4, 2), (3, 1), (2, 0)], [1], none⟩
abbrev zfnO : Reg := ⟨[.p (.bin .lss (.v 2) (.v 3))], [], [], some (17, 0)⟩
abbrev z0kO : Reg := ⟨[.p (.iad (.v 4) (.v 2) 2), .p (.ld (.t 0) (some 2)), .p (.alc0 2), .p (.ini (.t 0) (.t 1) 2)], [(5, 0)], [], none⟩
abbrev zZXl : Reg := ⟨[.v 0, .p (.nck (.t 0)), .p (.fad (.t 0) 1 none), .p (.ld (.t 0) none), .p (.iada (.v 5) (.c (.int (0))) 2 none), .p (.ldi (.t 0) none), .p (.iad (.t 2) (.t 0) 1), .p (.ld (.t 0) none), .p (.iada (.v 5) (.c (.int (1))) 2 none), .p (.ldi (.t 0) none), .p (.iad (.t 2) (.t 0) 1), .p (.ld (.t 0) none), .p (.not (.t 0))], [], [], some (32, 0)⟩
abbrev zvkL : Reg := ⟨[.v 0, .p (.nck (.t 0)), .p (.fad (.t 0) 1 none), .p (.ld (.t 0) none), .p (.iada (.v 5) (.c (.int (0))) 2 none), .p (.ldi (.t 0) none), .p (.iad (.t 2) (.t 0) 1), .p (.ld (.t 0) none), .p (.iada (.v 5) (.c (.int (1))) 2 none), .p (.ldi (.t 0) none), .p (.iad (.t 2) (.t 0) 1), .p (.st (.t 0) (.c (.bool true)) 1)], [], [], none⟩
abbrev zGlT : Reg := ⟨[.v 6, .p (.ldi (.v 5) (some 2)), .p (.lita [(.t 0)] 2), .p (.appw (.t 2) (.t 0) (some 2)), .t 0], [(6, 0)], [5], none⟩
abbrev zPoJ : Reg := ⟨[.p (.bin .add (.v 2) (.c (.int (1)))), .t 0], [(2, 0)], [5], none⟩
abbrev zxAW : IC := (.seq (.reg zfnO)
 (.seq (.cond 17 .skip (.exit 0))
 (.seq (.block 1 (.seq (.reg z0kO)
 (.seq (.reg zZXl)
 (.cond 32 (.seq (.reg zvkL)
 (.reg zGlT)) .skip))))
 (.reg zPoJ))))
abbrev zNcQ : Reg := ⟨[.v 6, .t 0], [(7, 0)], [0, 2, 3, 4, 6], none⟩
abbrev zwxN : Fn := { np := 2, nv := 8, res := [(7, none)], body :=
(.seq (.reg zHvO)
 (.seq (.reg zvSJ)
 (.seq (.seq (.reg zyGW)
 (.block 0 (.loop zxAW)))
 (.seq (.reg zNcQ)
 .ret)))) }
abbrev zNtH : Reg := ⟨[.p (.mv (.c (.int (0))))], [], [6], none⟩
abbrev z4Rp : Reg := ⟨[.p (.mv (.c (.int (0))))], [(5, 0)], [], none⟩
abbrev z9js : Reg := ⟨[.v 0, .p (.len (.t 0)), .p (.mv (.c (.int (0))))], [(3, 2), (2, 1), (1, 0)], [0], none⟩
abbrev zikf : Reg := ⟨[.p (.bin .lss (.v 1) (.v 2))], [], [], some (9, 0)⟩
abbrev zvsP : Reg := ⟨[.p (.iad (.v 3) (.v 1) 1), .p (.ld (.t 0) none), .t 0], [(4, 0)], [], none⟩
abbrev zvbz : Reg := ⟨[.v 4, .v 5, .p (.bin .neq (.t 1) (.t 0))], [], [], some (14, 0)⟩
abbrev zsk6 : Reg := ⟨[.v 4, .t 0], [(6, 0)], [1, 2, 3, 4, 5], none⟩
abbrev zSOS : Reg := ⟨[.p (.bin .add (.v 1) (.c (.int (1)))), .t 0], [(1, 0)], [4], none⟩
abbrev z6JD : IC := (.seq (.reg zikf)
 (.seq (.cond 9 .skip (.exit 0))
 (.seq (.block 1 (.seq (.reg zvsP)
 (.seq (.reg zvbz)
 (.cond 14 (.seq (.reg zsk6)
 .ret) .skip))))
 (.reg zSOS))))
abbrev z3yt : Reg := ⟨[.v 5, .t 0], [(6, 0)], [1, 2, 3, 5], none⟩
abbrev zcfm : Fn := { np := 1, nv := 7, res := [(6, none)], body :=
(.seq (.reg zNtH)
 (.seq (.reg z4Rp)
 (.seq (.seq (.reg z9js)
 (.block 0 (.loop z6JD)))
 (.seq (.reg z3yt)
 .ret)))) }
abbrev zCuc : Reg := ⟨[.p (.mv (.c (.int (0))))], [], [4], none⟩
abbrev z49w : Reg := ⟨[.v 0, .p (.cal zPpc [(.t 0)]), .t 0], [(2, 0)], [], none⟩
abbrev zYPE : Reg := ⟨[.v 1, .p (.cal zPpc [(.t 0)]), .t 0], [(3, 0)], [], none⟩
abbrev zRT4 : Reg := ⟨[.v 2], [], [2], some (11, 0)⟩
abbrev zoHH : Reg := ⟨[.v 3], [], [0, 1, 3], some (12, 0)⟩
abbrev z7NO : Reg := ⟨[.p (.mv (.c (.int (0))))], [(4, 0)], [], none⟩
abbrev zNvs : Reg := ⟨[.p (.mv (.c (.int (-1))))], [(4, 0)], [], none⟩
abbrev zdFc : Reg := ⟨[.v 3], [], [3], some (13, 0)⟩
abbrev z112 : Reg := ⟨[.p (.mv (.c (.int (1))))], [(4, 0)], [0, 1], none⟩
abbrev z0A4 : Reg := ⟨[.v 0, .v 1, .p (.bin .lss (.t 1) (.t 0))], [], [], some (16, 0)⟩
abbrev zTI3 : Reg := ⟨[.p (.mv (.c (.int (-1))))], [(4, 0)], [0, 1], none⟩
abbrev z6qc : Reg := ⟨[.v 0, .v 1, .p (.bin .gtr (.t 1) (.t 0))], [], [0, 1], some (19, 0)⟩
abbrev zNr8 : Reg := ⟨[.p (.mv (.c (.int (1))))], [(4, 0)], [], none⟩
abbrev zNvz : Reg := ⟨[.p (.mv (.c (.int (0))))], [(4, 0)], [], none⟩
abbrev zT7H : Fn := { np := 2, nv := 5, res := [(4, none)], body :=
(.seq (.reg zCuc)
 (.seq (.reg z49w)
 (.seq (.reg zYPE)
 (.seq (.seq (.reg zRT4)
 (.cond 11 (.seq (.seq (.reg zoHH)
 (.cond 12 (.seq (.reg z7NO)
 .ret) .skip))
 (.seq (.reg zNvs)
 .ret)) .skip))
 (.seq (.seq (.reg zdFc)
 (.cond 13 (.seq (.reg z112)
 .ret) .skip))
 (.seq (.seq (.reg z0A4)
 (.cond 16 (.seq (.reg zTI3)
 .ret) .skip))
 (.seq (.seq (.reg z6qc)
 (.cond 19 (.seq (.reg zNr8)
 .ret) .skip))
 (.seq (.reg zNvz)
 .ret)))))))) }
abbrev zh1n : Reg := ⟨[.p (.mv (.c (.int (0))))], [], [9], none⟩
abbrev zXSU : Reg := ⟨[.v 0, .p (.len (.t 0)), .p (.mv (.c (.int (0))))], [(4, 2), (3, 1), (2, 0)], [], none⟩
abbrev zJBW : Reg := ⟨[.p (.bin .lss (.v 2) (.v 3))], [], [], some (12, 0)⟩
abbrev z5O5 : Reg := ⟨[.v 2, .p (.iad (.v 4) (.v 2) 1), .p (.ld (.t 0) none), .t 2, .t 1], [(5, 1), (6, 0)], [], none⟩
abbrev zZFb : Reg := ⟨[.v 5, .v 1, .p (.len (.t 0)), .p (.bin .geq (.t 2) (.t 0))], [], [], some (19, 0)⟩
abbrev zWbs : Reg := ⟨[.p (.mv (.c (.int (1))))], [(9, 0)], [0, 1, 2, 3, 4, 5, 6], none⟩
abbrev zSEj : Reg := ⟨[.v 1, .v 5, .p (.iad (.t 1) (.t 0) 1), .p (.ld (.t 0) none), .t 0], [(7, 0)], [5], none⟩
abbrev zgi5 : Reg := ⟨[.v 6, .v 7, .p (.cal zb3m [(.t 1), (.t 0)]), .t 0], [(8, 0)], [6, 7], none⟩
abbrev zeB5 : Reg := ⟨[.v 8, .p (.bin .neq (.t 0) (.c (.int (0))))], [], [], some (28, 0)⟩
abbrev z2El : Reg := ⟨[.v 8, .t 0], [(9, 0)], [0, 1, 2, 3, 4, 8], none⟩
abbrev zdJO : Reg := ⟨[.p (.bin .add (.v 2) (.c (.int (1)))), .t 0], [(2, 0)], [8], none⟩
abbrev zdGf : IC := (.seq (.reg zJBW)
 (.seq (.cond 12 .skip (.exit 0))
 (.seq (.block 1 (.seq (.reg z5O5)
 (.seq (.seq (.reg zZFb)
 (.cond 19 (.seq (.reg zWbs)
 .ret) .skip))
 (.seq (.reg zSEj)
 (.seq (.reg zgi5)
 (.seq (.reg zeB5)
 (.cond 28 (.seq (.reg z2El)
 .ret) .skip)))))))
 (.reg zdJO))))
abbrev zmFB : Reg := ⟨[.v 0, .p (.len (.t 0)), .v 1, .p (.len (.t 0)), .p (.bin .lss (.t 2) (.t 0))], [], [0, 1, 2, 3, 4], some (35, 0)⟩
abbrev z8VQ : Reg := ⟨[.p (.mv (.c (.int (-1))))], [(9, 0)], [], none⟩
abbrev zei3 : Reg := ⟨[.p (.mv (.c (.int (0))))], [(9, 0)], [], none⟩
abbrev zKR3 : Fn := { np := 2, nv := 10, res := [(9, none)], body :=
(.seq (.reg zh1n)
 (.seq (.seq (.reg zXSU)
 (.block 0 (.loop zdGf)))
 (.seq (.seq (.reg zmFB)
 (.cond 35 (.seq (.reg z8VQ)
 .ret) .skip))
 (.seq (.reg zei3)
 .ret)))) }
abbrev zjwk : Reg := ⟨[.p (.bxi (.v 0)), .p (.mv (.c (.bool false)))], [(2, 1)], [0, 3], none⟩
abbrev zutQ : Reg := ⟨[.v 1, .p (.bin .geq (.t 0) (.c (.int (0)))), .t 0, .x 0 (.mv (.v 1)), .x 1 (.fad (.v 2) 5 none), .x 2 (.ldi (.t 0) none), .x 3 (.len (.t 0)), .x 4 (.bin .lss (.t 3) (.t 0)), .p (.pick (.t 5) (.t 0) (.c (.bool false))), .t 0], [(3, 0)], [1, 2], none⟩
abbrev z4kj : Fn := { np := 2, nv := 4, res := [(3, none)], body :=
(.seq (.reg zjwk)
 (.seq (.reg zutQ)
 .ret)) }
end Ab
