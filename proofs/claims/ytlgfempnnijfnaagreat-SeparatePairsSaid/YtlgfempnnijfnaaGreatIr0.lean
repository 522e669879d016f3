/- The functions of the program as small texts, printed by a tool of mine. Condition: none. -/
import Derived.Test.YtlgfempnnijfnaaGreatAbBase
set_option linter.all false
namespace Ab
abbrev zb9p : Nat := 9
def zg9T : Nat := 3
def zP59 : Nat := 4
def zjm7 : Nat := 5
def zXAh : Nat := 6
def zxGI : Nat := 7
def zuMA : Nat := 8
def zEdJ : Nat := 9
def zg5p : Nat := 10
def z2f9 : Nat := 11
def z7eN : Nat := 12
def zWBS : Nat := 13
def zn2q : Nat := 14
def ze0X : Nat := 15
def zA3e : Nat := 16
def zbRp : Nat := 17
def zCZ1 : Nat := 18
def zBoU : Nat := 19
def zvA6 : Nat := 20
def zyDr : Nat := 21
def zSMD : Nat := 22
def z5pz : Nat := 23
def zel3 : Nat := 24
def zAOG : Nat := 25
def zJzg : Nat := 26
def z2Nz : Nat := 27
def zpHJ : Nat := 28
def zLwh : Nat := 29
def zxtP : Nat := 30
def zePV : Nat := 31
def zGKM : Nat := 32
def zNW4 : Nat := 33
def zgfl : Nat := 34
def zIRT : Nat := 35
def z60t : Nat := 36
def zhAi : Nat := 37
def z2bL : Nat := 38
def zJZP : Nat := 39
def zGnf : Nat := 40
def zYpD : Nat := 41
def zvbW : Nat := 42
def zHta : Nat := 43
def zgNs : Nat := 44
def zn9E : Nat := 45
def zyip : Nat := 46
def z610 : Nat := 47
def zLRb : Nat := 48
def zc7Y : Nat := 49
def zVYD : Nat := 50
def zDOo : Nat := 51
def zuPb : Nat := 52
def zcfo : Nat := 53
def zgJR : Nat := 54
def zUHS : Nat := 55
def zVj2 : Nat := 56
def zb3m : Nat := 57
def z5pu : Nat := 58
def zHcv : Nat := 59
def zOq9 : Nat := 60
def z35E : Nat := 61
def zooT : Nat := 62
def zH8N : Nat := 63
def z99Y : Nat := 64
def z68i : Nat := 65
def zZIi : Nat := 66
def zQBQ : Nat := 67
def zioN : Nat := 68
def zt89 : Nat := 69
def zA97 : Nat := 70
def z2RE : Nat := 71
def z2JZ : Nat := 72
def zMxt : Nat := 73
def zaz2 : Nat := 74
def zPpc : Nat := 75
def zxg8 : Nat := 76
def zTrs : Nat := 77
def zMnE : Nat := 78
def zZZJ : Nat := 79
def zAqS : Nat := 80
def zmq6 : Nat := 81
def zMrO : Nat := 82
def zIk1 : Nat := 83
def zy97 : Nat := 84
def zeFR : Nat := 85
def z614 : Nat := 86
def zeh1 : Nat := 87
def zw16 : Nat := 88
def zIEY : Nat := 89
def z6A0 : Nat := 90
def zF0N : Nat := 91
def z4jB : Nat := 92
def zpwG : Nat := 93
def znV3 : Nat := 94
def zqho : Nat := 95
def zpmf : Nat := 96
def zS6W : Nat := 97
def zLOr : Nat := 98
def z0Tq : Nat := 99
def zzjE : Nat := 100
def zr8d : Nat := 101
def zZCE : Nat := 102
def zCLs : Nat := 103
def z9AB : Nat := 104
def znFL : Nat := 105
def zDKx : Nat := 106
def zf7Y : Nat := 107
def zsRH : Nat := 108
def z7So : Nat := 109
def zAiC : Nat := 110
def zL2L : Nat := 111
def zXrz : Nat := 112
def zV1F : Nat := 113
def zyOb : Nat := 114
def zyfW : Nat := 115
def zmBP : Nat := 116
def z8xK : Nat := 117
def zlVo : Nat := 118
def zh5m : Nat := 119
def zkU2 : Nat := 120
def zD5y : Nat := 121
def zhvA : Nat := 122
def zgwP : Nat := 123
def zo5S : Nat := 124
abbrev z0Q9 : Reg := ⟨[.p (.bxi (.v 0)), .p (.mv (.c (.bool false)))], [(1, 1)], [0, 10], none⟩
abbrev zpfr : Reg := ⟨[.p (.ldi (.v 1) (some 4)), .p (.cal zjm7 [(.t 0)]), .p (.not (.t 0))], [], [], some (13, 0)⟩
abbrev zmt0 : Reg := ⟨[.p (.cal zXAh []), .t 0], [(10, 0)], [1], none⟩
abbrev z7Ax : Reg := ⟨[.p (.ldi (.v 1) (some 4)), .p (.cal zxGI [(.t 0)]), .t 0, .p (.ext (.t 0) 0), .p (.ext (.t 1) 1), .t 1, .t 1], [(2, 1), (4, 0)], [], none⟩
abbrev zVZd : Reg := ⟨[.p (.ldi (.v 1) (some 4)), .p (.cal zuMA [(.t 0)]), .t 0, .p (.ext (.t 0) 0), .p (.ext (.t 1) 1), .t 1, .t 1], [(3, 1), (5, 0)], [], none⟩
abbrev zJME : Reg := ⟨[.p (.ldi (.v 1) (some 4)), .p (.cal zEdJ [(.t 0)]), .t 0, .p (.ext (.t 0) 0), .p (.ext (.t 1) 1), .t 1, .t 1], [(6, 1), (8, 0)], [], none⟩
abbrev zI51 : Reg := ⟨[.p (.ldi (.v 1) (some 4)), .p (.cal zg5p [(.t 0)]), .t 0, .p (.ext (.t 0) 0), .p (.ext (.t 1) 1), .t 1, .t 1], [(7, 1), (9, 0)], [1], none⟩
abbrev zmWk : Reg := ⟨[.v 2, .v 3, .p (.cal z2f9 [(.t 1), (.t 0)]), .t 0, .x 0 (.mv (.v 4)), .x 1 (.mv (.v 5)), .x 2 (.bin .eql (.t 1) (.t 0)), .p (.pick (.t 3) (.t 0) (.c (.bool false))), .t 0, .x 0 (.mv (.v 6)), .x 1 (.mv (.v 7)), .x 2 (.cal z7eN [(.t 1), (.t 0)]), .p (.pick (.t 3) (.t 0) (.c (.bool false))), .t 0, .x 0 (.mv (.v 8)), .x 1 (.mv (.v 9)), .x 2 (.bin .eql (.t 1) (.t 0)), .p (.pick (.t 3) (.t 0) (.c (.bool false))), .t 0, .x 0 (.cal zXAh []), .p (.pick (.t 1) (.t 0) (.c (.bool false))), .t 0], [(10, 0)], [2, 3, 4, 5, 6, 7, 8, 9], none⟩
abbrev zs3u : Fn := { np := 1, nv := 11, res := [(10, none)], body :=
(.seq (.reg z0Q9)
 (.seq (.seq (.reg zpfr)
 (.cond 13 (.seq (.reg zmt0)
 .ret) .skip))
 (.seq (.reg z7Ax)
 (.seq (.reg zVZd)
 (.seq (.reg zJME)
 (.seq (.reg zI51)
 (.seq (.reg zmWk)
 .ret))))))) }
abbrev zwoC : Reg := ⟨[.p (.bxi (.v 0)), .p (.mv (.c (.bool false)))], [(1, 1)], [0, 18], none⟩
abbrev zZF2 : Reg := ⟨[.p (.ldi (.v 1) (some 4)), .p (.cal zjm7 [(.t 0)]), .p (.not (.t 0)), .t 0, .y 0 (.ldi (.v 1) (some 4)), .y 1 (.cal zWBS [(.t 0)]), .y 2 (.bin .neq (.t 0) (.c (.int (0)))), .p (.pick (.t 3) (.c (.bool true)) (.t 0))], [], [], some (22, 0)⟩
abbrev zauG : Reg := ⟨[.p (.cal zXAh []), .t 0], [(18, 0)], [1], none⟩
abbrev z0lk : Reg := ⟨[.p (.ldi (.v 1) (some 4)), .p (.cal zxGI [(.t 0)]), .t 0, .p (.ext (.t 0) 0), .p (.ext (.t 1) 1), .t 1, .t 1], [(2, 1), (3, 0)], [], none⟩
abbrev z3qS : Reg := ⟨[.p (.ldi (.v 1) (some 4)), .p (.cal zEdJ [(.t 0)]), .t 0, .p (.ext (.t 0) 0), .p (.ext (.t 1) 1), .t 1, .t 1], [(7, 1), (4, 0)], [], none⟩
abbrev zZ4E : Reg := ⟨[.p (.ldi (.v 1) (some 4)), .v 2, .p (.cal zn2q [(.t 1), (.t 0)]), .t 0, .p (.ext (.t 0) 0), .p (.ext (.t 1) 1), .t 1, .t 1], [(6, 1), (5, 0)], [], none⟩
abbrev zsik : Reg := ⟨[.v 3, .p (.bin .neq (.t 0) (.c (.int (0)))), .t 0, .y 0 (.mv (.v 4)), .y 1 (.bin .neq (.t 0) (.c (.int (0)))), .p (.pick (.t 2) (.c (.bool true)) (.t 0)), .t 0, .y 0 (.mv (.v 5)), .y 1 (.bin .neq (.t 0) (.c (.int (0)))), .p (.pick (.t 2) (.c (.bool true)) (.t 0)), .t 0, .y 0 (.mv (.v 6)), .y 1 (.not (.t 0)), .p (.pick (.t 2) (.c (.bool true)) (.t 0)), .t 0, .y 0 (.mv (.v 7)), .y 1 (.len (.t 0)), .y 2 (.fad (.v 1) 2 none), .y 3 (.ldi (.t 0) none), .y 4 (.len (.t 0)), .y 5 (.bin .neq (.t 3) (.t 0)), .p (.pick (.t 6) (.c (.bool true)) (.t 0)), .t 0, .y 0 (.mv (.v 2)), .y 1 (.len (.t 0)), .y 2 (.fad (.v 1) 2 none), .y 3 (.ldi (.t 0) none), .y 4 (.len (.t 0)), .y 5 (.bin .geq (.t 3) (.t 0)), .p (.pick (.t 6) (.c (.bool true)) (.t 0)), .t 0, .y 0 (.mv (.v 2)), .y 1 (.cal ze0X [(.t 0)]), .y 2 (.mv (.v 2)), .y 3 (.cal z2f9 [(.t 1), (.t 0)]), .y 4 (.not (.t 0)), .p (.pick (.t 5) (.c (.bool true)) (.t 0))], [], [2, 3, 4, 5, 6], some (76, 0)⟩
abbrev zexb : Reg := ⟨[.p (.mv (.c (.bool false)))], [(18, 0)], [1, 7], none⟩
abbrev zKjr : Reg := ⟨[.v 7, .p (.cal zA3e [(.t 0)]), .t 0], [(8, 0)], [], none⟩
abbrev zbWE : Reg := ⟨[.p (.ldi (.v 1) (some 4)), .v 8, .p (.cal zn2q [(.t 1), (.t 0)]), .t 0, .p (.ext (.t 0) 0), .p (.ext (.t 1) 1), .t 1, .t 1], [(6, 1), (5, 0)], [8], none⟩
abbrev zaEU : Reg := ⟨[.v 6, .p (.not (.t 0)), .t 0, .y 0 (.mv (.v 5)), .y 1 (.bin .neq (.t 0) (.c (.int (0)))), .p (.pick (.t 2) (.c (.bool true)) (.t 0))], [], [5, 6], some (90, 0)⟩
abbrev zCgn : Reg := ⟨[.p (.mv (.c (.bool false)))], [(18, 0)], [1, 7], none⟩
abbrev zcNY : Reg := ⟨[.v 7, .p (.len (.t 0)), .p (.mv (.c (.int (0))))], [(10, 1), (9, 0)], [], none⟩
abbrev zgSs : Reg := ⟨[.p (.bin .lss (.v 9) (.v 10))], [], [], some (94, 0)⟩
abbrev zAiQ : Reg := ⟨[.v 9, .t 0], [(11, 0)], [], none⟩
abbrev zdPI : Reg := ⟨[.v 11, .p (.mv (.c (.int (0))))], [(13, 1), (12, 0)], [], none⟩
abbrev z01M : Reg := ⟨[.p (.bin .lss (.v 12) (.v 13))], [], [], some (98, 0)⟩
abbrev zTBX : Reg := ⟨[.v 12, .t 0], [(14, 0)], [], none⟩
abbrev zRk5 : Reg := ⟨[.p (.ldi (.v 1) (some 4)), .v 11, .v 14, .p (.cal zbRp [(.t 2), (.t 1), (.t 0)]), .t 0, .p (.ext (.t 0) 0), .p (.ext (.t 1) 1), .p (.ext (.t 2) 2), .t 2, .t 2, .t 2], [(17, 2), (16, 1), (15, 0)], [], none⟩
abbrev zkIj : Reg := ⟨[.v 15, .p (.bin .neq (.t 0) (.c (.int (0)))), .t 0, .y 0 (.mv (.v 16)), .y 1 (.not (.t 0)), .p (.pick (.t 2) (.c (.bool true)) (.t 0)), .t 0, .y 0 (.mv (.v 7)), .y 1 (.mv (.v 11)), .y 2 (.iad (.t 1) (.t 0) 1), .y 3 (.ld (.t 0) none), .y 4 (.mv (.v 17)), .y 5 (.cal zCZ1 [(.t 1), (.t 0)]), .y 6 (.not (.t 0)), .p (.pick (.t 7) (.c (.bool true)) (.t 0)), .t 0, .y 0 (.mv (.v 7)), .y 1 (.mv (.v 14)), .y 2 (.iad (.t 1) (.t 0) 1), .y 3 (.ld (.t 0) none), .y 4 (.mv (.v 17)), .y 5 (.cal zCZ1 [(.t 1), (.t 0)]), .y 6 (.not (.t 0)), .p (.pick (.t 7) (.c (.bool true)) (.t 0))], [], [14, 15, 16, 17], some (131, 0)⟩
abbrev zkOZ : Reg := ⟨[.p (.mv (.c (.bool false)))], [(18, 0)], [1, 7, 9, 10, 11, 12, 13], none⟩
abbrev zR31 : Reg := ⟨[.p (.bin .add (.v 12) (.c (.int (1)))), .t 0], [(12, 0)], [], none⟩
abbrev zS3Y : IC := (.seq (.reg z01M)
 (.seq (.cond 98 .skip (.exit 2))
 (.seq (.block 3 (.seq (.reg zTBX)
 (.seq (.reg zRk5)
 (.seq (.reg zkIj)
 (.cond 131 (.seq (.reg zkOZ)
 .ret) .skip)))))
 (.reg zR31))))
abbrev z90P : Reg := ⟨[.p (.bin .add (.v 9) (.c (.int (1)))), .t 0], [(9, 0)], [11, 12, 13], none⟩
abbrev zI6z : IC := (.seq (.reg zgSs)
 (.seq (.cond 94 .skip (.exit 0))
 (.seq (.block 1 (.seq (.reg zAiQ)
 (.seq (.reg zdPI)
 (.block 2 (.loop zS3Y)))))
 (.reg z90P))))
abbrev zhKl : Reg := ⟨[.p (.cal zXAh []), .t 0], [(18, 0)], [1, 7, 9, 10], none⟩
abbrev zK7S : Fn := { np := 1, nv := 19, res := [(18, none)], body :=
(.seq (.reg zwoC)
 (.seq (.seq (.reg zZF2)
 (.cond 22 (.seq (.reg zauG)
 .ret) .skip))
 (.seq (.reg z0lk)
 (.seq (.reg z3qS)
 (.seq (.reg zZ4E)
 (.seq (.seq (.reg zsik)
 (.cond 76 (.seq (.reg zexb)
 .ret) .skip))
 (.seq (.reg zKjr)
 (.seq (.reg zbWE)
 (.seq (.seq (.reg zaEU)
 (.cond 90 (.seq (.reg zCgn)
 .ret) .skip))
 (.seq (.seq (.reg zcNY)
 (.block 0 (.loop zI6z)))
 (.seq (.reg zhKl)
 .ret))))))))))) }
abbrev zHtS : Reg := ⟨[.p (.bxi (.v 0)), .p (.mv (.c (.bool false)))], [(1, 1)], [0, 2], none⟩
abbrev zXZS : Reg := ⟨[.p (.ldi (.v 1) (some 4)), .p (.cal zBoU [(.t 0)]), .p (.not (.t 0)), .t 0, .x 0 (.fad (.v 1) 2 none), .x 1 (.ldi (.t 0) none), .x 2 (.len (.t 0)), .x 3 (.bin .leq (.t 0) (.c (.int (8)))), .p (.pick (.t 4) (.t 0) (.c (.bool false))), .t 0, .x 0 (.fad (.v 1) 0 none), .x 1 (.ldi (.t 0) none), .x 2 (.bin .leq (.t 0) (.c (.int (4)))), .p (.pick (.t 3) (.t 0) (.c (.bool false))), .t 0], [(2, 0)], [1], none⟩
abbrev z77f : Fn := { np := 1, nv := 3, res := [(2, none)], body :=
(.seq (.reg zHtS)
 (.seq (.reg zXZS)
 .ret)) }
abbrev zy41 : Reg := ⟨[.p (.mv (.c (.bool false)))], [], [17], none⟩
abbrev zyPu : Reg := ⟨[.p (.liti [(.c (.int (1)))] 1), .p (.liti [(.c (.int (2)))] 1), .p (.liti [(.c (.int (0)))] 1), .p (.liti [(.t 2), (.t 1), (.t 0)] 1), .p (.liti [(.c (.int (0)))] 1), .p (.liti [(.c (.int (0)))] 1), .p (.liti [(.c (.int (1)))] 1), .p (.liti [(.t 2), (.t 1), (.t 0)] 1), .p (.bld [.int 0, .int 0, .snil, .snil] [(0, 1, (.c (.int (1)))), (2, 1, (.t 4)), (3, 1, (.t 0))]), .p (.alc0 4), .p (.ini (.t 0) (.t 1) 4)], [(0, 0)], [], none⟩
abbrev zwqK : Reg := ⟨[.p (.ldi (.v 0) (some 4)), .p (.cal zxGI [(.t 0)]), .t 0, .p (.ext (.t 0) 0), .p (.ext (.t 1) 1), .t 1, .t 1], [(1, 1), (2, 0)], [], none⟩
abbrev zE9h : Reg := ⟨[.p (.ldi (.v 0) (some 4)), .p (.cal zEdJ [(.t 0)]), .t 0, .p (.ext (.t 0) 0), .p (.ext (.t 1) 1), .t 1, .t 1], [(9, 1), (3, 0)], [], none⟩
abbrev zpx1 : Reg := ⟨[.p (.ldi (.v 0) (some 4)), .p (.cal zvA6 [(.t 0), (.c (.int (2))), (.c (.int (5)))]), .t 0, .p (.ext (.t 0) 0), .p (.ext (.t 1) 1), .p (.ext (.t 2) 2), .t 2, .t 2, .t 2], [(11, 2), (10, 1), (4, 0)], [], none⟩
abbrev zpYT : Reg := ⟨[.p (.ldi (.v 0) (some 4)), .p (.cal zvA6 [(.t 0), (.c (.int (0))), (.c (.int (5)))]), .t 0, .p (.ext (.t 0) 0), .p (.ext (.t 1) 1), .p (.ext (.t 2) 2), .t 2, .t 2, .t 2], [(13, 2), (12, 1), (5, 0)], [], none⟩
abbrev zngG : Reg := ⟨[.p (.ldi (.v 0) (some 4)), .p (.cal zvA6 [(.t 0), (.c (.int (0))), (.c (.int (1)))]), .t 0, .p (.ext (.t 0) 0), .p (.ext (.t 1) 1), .p (.ext (.t 2) 2), .t 2, .t 2, .t 2], [(14, 1), (6, 0)], [], none⟩
abbrev z2P5 : Reg := ⟨[.p (.ldi (.v 0) (some 4)), .v 1, .p (.cal zn2q [(.t 1), (.t 0)]), .t 0, .p (.ext (.t 0) 0), .p (.ext (.t 1) 1), .t 1, .t 1], [(15, 1), (7, 0)], [], none⟩
abbrev zTGt : Reg := ⟨[.p (.ldi (.v 0) (some 4)), .p (.liti [(.c (.int (0)))] 1), .p (.liti [(.t 0)] 1), .p (.cal zn2q [(.t 2), (.t 0)]), .t 0, .p (.ext (.t 0) 0), .p (.ext (.t 1) 1), .t 1, .t 1], [(16, 1), (8, 0)], [0], none⟩
abbrev zBhG : Reg := ⟨[.v 2, .p (.bin .eql (.t 0) (.c (.int (0)))), .t 0, .x 0 (.mv (.v 3)), .x 1 (.bin .eql (.t 0) (.c (.int (0)))), .p (.pick (.t 2) (.t 0) (.c (.bool false))), .t 0, .x 0 (.mv (.v 4)), .x 1 (.bin .eql (.t 0) (.c (.int (0)))), .p (.pick (.t 2) (.t 0) (.c (.bool false))), .t 0, .x 0 (.mv (.v 5)), .x 1 (.bin .eql (.t 0) (.c (.int (0)))), .p (.pick (.t 2) (.t 0) (.c (.bool false))), .t 0, .x 0 (.mv (.v 6)), .x 1 (.bin .eql (.t 0) (.c (.int (0)))), .p (.pick (.t 2) (.t 0) (.c (.bool false))), .t 0, .x 0 (.mv (.v 7)), .x 1 (.bin .eql (.t 0) (.c (.int (0)))), .p (.pick (.t 2) (.t 0) (.c (.bool false))), .t 0, .x 0 (.mv (.v 8)), .x 1 (.bin .eql (.t 0) (.c (.int (0)))), .p (.pick (.t 2) (.t 0) (.c (.bool false))), .t 0, .x 0 (.mv (.v 1)), .x 1 (.liti [(.c (.int (0))), (.c (.int (0)))] 1), .x 2 (.liti [(.t 0)] 1), .x 3 (.cal z2f9 [(.t 2), (.t 0)]), .p (.pick (.t 4) (.t 0) (.c (.bool false))), .t 0, .x 0 (.mv (.v 9)), .x 1 (.liti [(.c (.int (0)))] 1), .x 2 (.liti [(.c (.int (0))), (.c (.int (0)))] 1), .x 3 (.liti [(.t 1), (.t 0)] 1), .x 4 (.liti [(.c (.int (0)))] 1), .x 5 (.liti [(.c (.int (0))), (.c (.int (0)))] 1), .x 6 (.liti [(.t 1), (.t 0)] 1), .x 7 (.liti [(.c (.int (0)))] 1), .x 8 (.liti [(.t 0)] 1), .x 9 (.liti [(.t 5), (.t 2), (.t 0)] 1), .x 10 (.cal z7eN [(.t 9), (.t 0)]), .p (.pick (.t 11) (.t 0) (.c (.bool false))), .t 0, .x 0 (.mv (.v 10)), .p (.pick (.t 1) (.t 0) (.c (.bool false))), .t 0, .x 0 (.mv (.v 11)), .x 1 (.liti [(.c (.int (0)))] 1), .x 2 (.cal zyDr [(.t 1), (.t 0)]), .p (.pick (.t 3) (.t 0) (.c (.bool false))), .t 0, .x 0 (.mv (.v 12)), .p (.pick (.t 1) (.t 0) (.c (.bool false))), .t 0, .x 0 (.mv (.v 13)), .x 1 (.liti [(.c (.int (0))), (.c (.int (0)))] 1), .x 2 (.cal zyDr [(.t 1), (.t 0)]), .p (.pick (.t 3) (.t 0) (.c (.bool false))), .t 0, .x 0 (.mv (.v 14)), .x 1 (.not (.t 0)), .p (.pick (.t 2) (.t 0) (.c (.bool false))), .t 0, .x 0 (.mv (.v 15)), .p (.pick (.t 1) (.t 0) (.c (.bool false))), .t 0, .x 0 (.mv (.v 16)), .x 1 (.not (.t 0)), .p (.pick (.t 2) (.t 0) (.c (.bool false))), .t 0], [(17, 0)], [1, 2, 3, 4, 5, 6, 7, 8, 9, 10, 11, 12, 13, 14, 15, 16], none⟩
abbrev zEnd : Fn := { np := 0, nv := 18, res := [(17, none)], body :=
(.seq (.reg zy41)
 (.seq (.reg zyPu)
 (.seq (.reg zwqK)
 (.seq (.reg zE9h)
 (.seq (.reg zpx1)
 (.seq (.reg zpYT)
 (.seq (.reg zngG)
 (.seq (.reg z2P5)
 (.seq (.reg zTGt)
 (.seq (.reg zBhG)
 .ret)))))))))) }
abbrev zDe3 : Reg := ⟨[.p (.bxi (.v 0)), .p (.mv (.c (.snil))), .p (.mv (.c (.int (0))))], [(1, 2)], [0, 10, 11], none⟩
abbrev z6v6 : Reg := ⟨[.p (.ldi (.v 1) (some 4)), .p (.cal zSMD [(.t 0)]), .t 0], [(2, 0)], [], none⟩
abbrev zqBC : Reg := ⟨[.v 2, .p (.bin .neq (.t 0) (.c (.int (0))))], [], [], some (14, 0)⟩
abbrev zzQx : Reg := ⟨[.v 2, .p (.mv (.c (.snil))), .t 1], [(10, 1), (11, 0)], [1, 2], none⟩
abbrev z7rw : Reg := ⟨[.p (.nl none)], [(7, 0)], [2], none⟩
abbrev z47D : Reg := ⟨[.p (.fad (.v 1) 2 none), .p (.ldi (.t 0) none), .p (.len (.t 0)), .p (.mv (.c (.int (0))))], [(4, 1), (3, 0)], [], none⟩
abbrev z0uq : Reg := ⟨[.p (.bin .lss (.v 3) (.v 4))], [], [], some (20, 0)⟩
abbrev zR61 : Reg := ⟨[.v 3, .t 0], [(5, 0)], [], none⟩
abbrev zpB7 : Reg := ⟨[.v 5, .p (.bin .add (.t 0) (.c (.int (1)))), .t 0], [(6, 0)], [], none⟩
abbrev zxR7 : Reg := ⟨[.v 6, .p (.fad (.v 1) 2 none), .p (.ldi (.t 0) none), .p (.len (.t 0)), .p (.bin .lss (.t 3) (.t 0))], [], [], some (28, 0)⟩
abbrev zhOs : Reg := ⟨[.p (.ldi (.v 1) (some 4)), .v 7, .v 5, .v 6, .p (.cab z5pz [(.t 3), (.t 2), (.t 1), (.t 0)])], [], [], some (35, 0)⟩
abbrev zOpo : Reg := ⟨[.p (.ldi (.v 1) (some 4)), .v 5, .v 6, .p (.cal zbRp [(.t 2), (.t 1), (.t 0)]), .t 0, .p (.ext (.t 0) 0), .p (.ext (.t 1) 1), .p (.ext (.t 2) 2), .t 2, .t 2, .t 2], [(9, 2), (8, 0)], [], none⟩
abbrev zZh6 : Reg := ⟨[.v 8, .p (.bin .neq (.t 0) (.c (.int (0))))], [], [], some (45, 0)⟩
abbrev zpiV : Reg := ⟨[.v 8, .p (.mv (.c (.snil))), .t 1], [(10, 1), (11, 0)], [1, 3, 4, 5, 6, 7, 8, 9], none⟩
abbrev zQ8A : Reg := ⟨[.v 7, .v 9, .p (.lita [(.t 0)] 1), .p (.appw (.t 2) (.t 0) none), .t 0], [(7, 0)], [8, 9], none⟩
abbrev zjYx : Reg := ⟨[.v 6, .p (.bin .add (.t 0) (.c (.int (1)))), .t 0], [(6, 0)], [], none⟩
abbrev zXBv : IC := (.seq (.seq (.reg zxR7)
 (.cond 28 .skip (.exit 2)))
 (.seq (.block 3 (.seq (.seq (.reg zhOs)
 (.cond 35 (.exit 3) .skip))
 (.seq (.reg zOpo)
 (.seq (.seq (.reg zZh6)
 (.cond 45 (.seq (.reg zpiV)
 .ret) .skip))
 (.reg zQ8A)))))
 (.reg zjYx)))
abbrev zDMq : Reg := ⟨[.p (.bin .add (.v 3) (.c (.int (1)))), .t 0], [(3, 0)], [5, 6], none⟩
abbrev z2hT : IC := (.seq (.reg z0uq)
 (.seq (.cond 20 .skip (.exit 0))
 (.seq (.block 1 (.seq (.reg zR61)
 (.seq (.reg zpB7)
 (.block 2 (.loop zXBv)))))
 (.reg zDMq))))
abbrev z3Gb : Reg := ⟨[.v 7, .p (.cal ze0X [(.t 0)]), .t 0, .p (.mv (.c (.int (0))))], [(10, 1), (11, 0)], [1, 3, 4, 7], none⟩
abbrev zzhG : Fn := { np := 1, nv := 12, res := [(10, none), (11, none)], body :=
(.seq (.reg zDe3)
 (.seq (.seq (.reg z6v6)
 (.seq (.reg zqBC)
 (.cond 14 (.seq (.reg zzQx)
 .ret) .skip)))
 (.seq (.reg z7rw)
 (.seq (.seq (.reg z47D)
 (.seq (.block 0 (.loop z2hT)) (.frz 7)))
 (.seq (.reg z3Gb)
 .ret))))) }
abbrev zxqf : Reg := ⟨[.p (.bxi (.v 0)), .p (.mv (.c (.snil))), .p (.mv (.c (.int (0))))], [(1, 2)], [0, 7, 8], none⟩
abbrev z85z : Reg := ⟨[.p (.ldi (.v 1) (some 4)), .p (.cal zWBS [(.t 0)]), .t 0], [(2, 0)], [], none⟩
abbrev zEPV : Reg := ⟨[.v 2, .p (.bin .neq (.t 0) (.c (.int (0))))], [], [], some (14, 0)⟩
abbrev zetk : Reg := ⟨[.v 2, .p (.mv (.c (.snil))), .t 1], [(7, 1), (8, 0)], [1, 2], none⟩
abbrev zTXY : Reg := ⟨[.p (.nl none)], [(5, 0)], [2], none⟩
abbrev zihx : Reg := ⟨[.p (.mv (.c (.int (0))))], [(3, 0)], [], none⟩
abbrev zfdF : Reg := ⟨[.v 3, .p (.fad (.v 1) 2 none), .p (.ldi (.t 0) none), .p (.len (.t 0)), .p (.bin .lss (.t 3) (.t 0))], [], [], some (20, 0)⟩
abbrev zTFs : Reg := ⟨[.v 3, .p (.bin .add (.t 0) (.c (.int (1)))), .t 0], [(4, 0)], [], none⟩
abbrev ze44 : Reg := ⟨[.v 4, .p (.fad (.v 1) 2 none), .p (.ldi (.t 0) none), .p (.len (.t 0)), .p (.bin .lss (.t 3) (.t 0))], [], [], some (29, 0)⟩
abbrev zUTk : Reg := ⟨[.p (.ldi (.v 1) (some 4)), .v 3, .v 4, .v 5, .p (.cab zel3 [(.t 3), (.t 2), (.t 1), (.t 0)]), .p (.not (.t 0))], [], [], some (37, 0)⟩
abbrev znih : Reg := ⟨[.p (.ldi (.v 1) (some 4)), .v 3, .v 4, .p (.cal zAOG [(.t 2), (.t 1), (.t 0)]), .t 0, .p (.ext (.t 0) 0), .p (.ext (.t 1) 1), .p (.ext (.t 2) 2), .t 2, .t 2, .t 2], [(6, 2)], [], none⟩
abbrev zm5D : Reg := ⟨[.v 5, .v 6, .p (.lita [(.t 0)] 1), .p (.appw (.t 2) (.t 0) none), .t 0], [(5, 0)], [6], none⟩
abbrev zsuC : Reg := ⟨[.v 4, .p (.bin .add (.t 0) (.c (.int (1)))), .t 0], [(4, 0)], [], none⟩
abbrev zn85 : IC := (.seq (.seq (.reg ze44)
 (.cond 29 .skip (.exit 2)))
 (.seq (.block 3 (.seq (.reg zUTk)
 (.cond 37 (.seq (.reg znih)
 (.reg zm5D)) .skip)))
 (.reg zsuC)))
abbrev zRTM : Reg := ⟨[.v 3, .p (.bin .add (.t 0) (.c (.int (1)))), .t 0], [(3, 0)], [4], none⟩
abbrev zVwe : IC := (.seq (.seq (.reg zfdF)
 (.cond 20 .skip (.exit 0)))
 (.seq (.block 1 (.seq (.reg zTFs)
 (.block 2 (.loop zn85))))
 (.reg zRTM)))
abbrev zmAl : Reg := ⟨[.v 5, .p (.cal zJzg [(.t 0)]), .t 0, .p (.mv (.c (.int (0))))], [(7, 1), (8, 0)], [1, 3, 5], none⟩
abbrev zmFI : Fn := { np := 1, nv := 9, res := [(7, none), (8, none)], body :=
(.seq (.reg zxqf)
 (.seq (.seq (.reg z85z)
 (.seq (.reg zEPV)
 (.cond 14 (.seq (.reg zetk)
 .ret) .skip)))
 (.seq (.reg zTXY)
 (.seq (.seq (.reg zihx)
 (.seq (.block 0 (.loop zVwe)) (.frz 5)))
 (.seq (.reg zmAl)
 .ret))))) }
abbrev z1Wj : Reg := ⟨[.p (.bxi (.v 0)), .p (.mv (.c (.snil))), .p (.mv (.c (.int (0))))], [(1, 2)], [0, 15, 16], none⟩
abbrev zLGw : Reg := ⟨[.p (.ldi (.v 1) (some 4)), .p (.cal zSMD [(.t 0)]), .t 0], [(2, 0)], [], none⟩
abbrev z7Ov : Reg := ⟨[.v 2, .p (.bin .neq (.t 0) (.c (.int (0))))], [], [], some (17, 0)⟩
abbrev zAXu : Reg := ⟨[.v 2, .p (.mv (.c (.snil))), .t 1], [(15, 1), (16, 0)], [1, 2], none⟩
abbrev zBjD : Reg := ⟨[.p (.fad (.v 1) 2 none), .p (.ldi (.t 0) none), .p (.len (.t 0)), .p (.mks (.t 0) (.t 0) [.snil] none), .t 0], [(8, 0)], [2], none⟩
abbrev zONx : Reg := ⟨[.p (.fad (.v 1) 2 none), .p (.ldi (.t 0) none), .p (.len (.t 0)), .p (.mv (.c (.int (0))))], [(4, 1), (3, 0)], [], none⟩
abbrev z3Is : Reg := ⟨[.p (.bin .lss (.v 3) (.v 4))], [], [], some (27, 0)⟩
abbrev zIev : Reg := ⟨[.v 3, .t 0], [(5, 0)], [], none⟩
abbrev zN09 : Reg := ⟨[.v 5, .p (.bin .add (.t 0) (.c (.int (1)))), .t 0], [(6, 0)], [], none⟩
abbrev zaXK : Reg := ⟨[.v 6, .p (.fad (.v 1) 2 none), .p (.ldi (.t 0) none), .p (.len (.t 0)), .p (.bin .lss (.t 3) (.t 0))], [], [], some (35, 0)⟩
abbrev zfVF : Reg := ⟨[.p (.ldi (.v 1) (some 4)), .v 5, .v 6, .p (.cal zbRp [(.t 2), (.t 1), (.t 0)]), .t 0, .p (.ext (.t 0) 0), .p (.ext (.t 1) 1), .p (.ext (.t 2) 2), .t 2, .t 2, .t 2], [(9, 2), (7, 0)], [], none⟩
abbrev zHXf : Reg := ⟨[.v 7, .p (.bin .neq (.t 0) (.c (.int (0))))], [], [], some (47, 0)⟩
abbrev zNc2 : Reg := ⟨[.v 7, .p (.mv (.c (.snil))), .t 1], [(15, 1), (16, 0)], [1, 3, 4, 5, 6, 7, 8, 9], none⟩
abbrev zpEF : Reg := ⟨[.v 8, .v 5, .v 8, .v 5, .p (.iad (.t 1) (.t 0) 1), .p (.ld (.t 0) none), .v 9, .p (.lita [(.t 0)] 1), .p (.appw (.t 2) (.t 0) none), .p (.iad (.t 8) (.t 7) 1), .p (.st (.t 0) (.t 1) 1)], [], [7], none⟩
abbrev zAnQ : Reg := ⟨[.v 8, .v 6, .v 8, .v 6, .p (.iad (.t 1) (.t 0) 1), .p (.ld (.t 0) none), .v 9, .p (.lita [(.t 0)] 1), .p (.appw (.t 2) (.t 0) none), .p (.iad (.t 8) (.t 7) 1), .p (.st (.t 0) (.t 1) 1)], [], [9], none⟩
abbrev zlzM : Reg := ⟨[.v 6, .p (.bin .add (.t 0) (.c (.int (1)))), .t 0], [(6, 0)], [], none⟩
abbrev zV03 : IC := (.seq (.seq (.reg zaXK)
 (.cond 35 .skip (.exit 2)))
 (.seq (.block 3 (.seq (.reg zfVF)
 (.seq (.seq (.reg zHXf)
 (.cond 47 (.seq (.reg zNc2)
 .ret) .skip))
 (.seq (.reg zpEF)
 (.reg zAnQ)))))
 (.reg zlzM)))
abbrev zHhP : Reg := ⟨[.p (.bin .add (.v 3) (.c (.int (1)))), .t 0], [(3, 0)], [5, 6], none⟩
abbrev zUXV : IC := (.seq (.reg z3Is)
 (.seq (.cond 27 .skip (.exit 0))
 (.seq (.block 1 (.seq (.reg zIev)
 (.seq (.reg zN09)
 (.block 2 (.loop zV03)))))
 (.reg zHhP))))
abbrev znRP : Reg := ⟨[.v 8, .p (.len (.t 0)), .p (.mks (.c (.int (0))) (.t 0) [.snil] none), .t 0], [(13, 0)], [1, 3, 4], none⟩
abbrev zq3N : Reg := ⟨[.v 8, .p (.len (.t 0)), .p (.mv (.c (.int (0))))], [(12, 2), (11, 1), (10, 0)], [8], none⟩
abbrev z7t5 : Reg := ⟨[.p (.bin .lss (.v 10) (.v 11))], [], [], some (76, 0)⟩
abbrev ziRM : Reg := ⟨[.p (.iad (.v 12) (.v 10) 1), .p (.ld (.t 0) none), .t 0], [(14, 0)], [], none⟩
abbrev ztoY : Reg := ⟨[.v 13, .v 14, .p (.cal ze0X [(.t 0)]), .p (.lita [(.t 0)] 1), .p (.appw (.t 3) (.t 0) none), .t 0], [(13, 0)], [14], none⟩
abbrev zmXL : Reg := ⟨[.p (.bin .add (.v 10) (.c (.int (1)))), .t 0], [(10, 0)], [], none⟩
abbrev zhEx : IC := (.seq (.reg z7t5)
 (.seq (.cond 76 .skip (.exit 4))
 (.seq (.block 5 (.seq (.reg ziRM)
 (.reg ztoY)))
 (.reg zmXL))))
abbrev z4mO : Reg := ⟨[.v 13, .t 0, .p (.mv (.c (.int (0))))], [(15, 1), (16, 0)], [10, 11, 12, 13], none⟩
abbrev zGqQ : Fn := { np := 1, nv := 17, res := [(15, none), (16, none)], body :=
(.seq (.reg z1Wj)
 (.seq (.seq (.reg zLGw)
 (.seq (.reg z7Ov)
 (.cond 17 (.seq (.reg zAXu)
 .ret) .skip)))
 (.seq (.reg zBjD)
 (.seq (.seq (.reg zONx)
 (.seq (.block 0 (.loop zUXV)) (.frz 8)))
 (.seq (.reg znRP)
 (.seq (.seq (.reg zq3N)
 (.block 4 (.loop zhEx)))
 (.seq (.reg z4mO)
 .ret))))))) }
abbrev z669 : Reg := ⟨[.p (.bxi (.v 0)), .p (.mv (.c (.snil))), .p (.mv (.c (.int (0))))], [(1, 2)], [0, 8, 9], none⟩
abbrev z2Xk : Reg := ⟨[.p (.ldi (.v 1) (some 4)), .p (.cal zWBS [(.t 0)]), .t 0], [(2, 0)], [], none⟩
abbrev z1n1 : Reg := ⟨[.v 2, .p (.bin .neq (.t 0) (.c (.int (0))))], [], [], some (15, 0)⟩
abbrev z3cg : Reg := ⟨[.v 2, .p (.mv (.c (.snil))), .t 1], [(8, 1), (9, 0)], [1, 2], none⟩
abbrev zbH4 : Reg := ⟨[.p (.nl none)], [(7, 0)], [2], none⟩
abbrev z2u6 : Reg := ⟨[.p (.mv (.c (.int (0))))], [(3, 0)], [], none⟩
abbrev zRKq : Reg := ⟨[.v 3, .p (.fad (.v 1) 2 none), .p (.ldi (.t 0) none), .p (.len (.t 0)), .p (.bin .lss (.t 3) (.t 0))], [], [], some (21, 0)⟩
abbrev zBJn : Reg := ⟨[.p (.nl none)], [(5, 0)], [], none⟩
abbrev z3jh : Reg := ⟨[.p (.mv (.c (.int (0))))], [(4, 0)], [], none⟩
abbrev z9ee : Reg := ⟨[.v 4, .p (.fad (.v 1) 2 none), .p (.ldi (.t 0) none), .p (.len (.t 0)), .p (.bin .lss (.t 3) (.t 0))], [], [], some (28, 0)⟩
abbrev zKcv : Reg := ⟨[.v 4, .v 3, .p (.bin .neq (.t 1) (.t 0))], [], [], some (33, 0)⟩
abbrev zYzh : Reg := ⟨[.p (.ldi (.v 1) (some 4)), .v 3, .v 4, .p (.cal zAOG [(.t 2), (.t 1), (.t 0)]), .t 0, .p (.ext (.t 0) 0), .p (.ext (.t 1) 1), .p (.ext (.t 2) 2), .t 2, .t 2, .t 2], [(6, 2)], [], none⟩
abbrev zZSb : Reg := ⟨[.v 5, .v 6, .p (.lita [(.t 0)] 1), .p (.appw (.t 2) (.t 0) none), .t 0], [(5, 0)], [6], none⟩
abbrev zSx4 : Reg := ⟨[.v 4, .p (.bin .add (.t 0) (.c (.int (1)))), .t 0], [(4, 0)], [], none⟩
abbrev zWFN : IC := (.lex (.seq (.seq (.reg z9ee)
 (.cond 28 .skip (.exit 2)))
 (.seq (.block 3 (.seq (.reg zKcv)
 (.cond 33 (.seq (.reg zYzh)
 (.reg zZSb)) .skip)))
 (.reg zSx4))))
abbrev z2kN : Reg := ⟨[.v 7, .v 5, .p (.cal zJzg [(.t 0)]), .p (.lita [(.t 0)] 1), .p (.appw (.t 3) (.t 0) none), .t 0], [(7, 0)], [4, 5], none⟩
abbrev zIw4 : Reg := ⟨[.v 3, .p (.bin .add (.t 0) (.c (.int (1)))), .t 0], [(3, 0)], [], none⟩
abbrev zlJb : IC := (.lex (.seq (.seq (.reg zRKq)
 (.cond 21 .skip (.exit 0)))
 (.seq (.block 1 (.seq (.reg zBJn)
 (.seq (.seq (.reg z3jh)
 (.seq (.block 2 (.loop zWFN)) (.frz 5)))
 (.reg z2kN))))
 (.reg zIw4))))
abbrev z5U8 : Reg := ⟨[.v 7, .t 0, .p (.mv (.c (.int (0))))], [(8, 1), (9, 0)], [1, 3, 7], none⟩
abbrev z2Lw : Fn := { np := 1, nv := 10, res := [(8, none), (9, none)], body :=
(.seq (.reg z669)
 (.seq (.seq (.reg z2Xk)
 (.seq (.reg z1n1)
 (.cond 15 (.seq (.reg z3cg)
 .ret) .skip)))
 (.seq (.reg zbH4)
 (.seq (.seq (.reg z2u6)
 (.block 0 (.loop zlJb)))
 (.seq (.reg z5U8)
 .ret))))) }
abbrev zNN0 : Reg := ⟨[.p (.mv (.c (.bool false)))], [], [4], none⟩
abbrev zHt0 : Reg := ⟨[.v 0, .p (.len (.t 0)), .v 1, .p (.len (.t 0)), .p (.bin .neq (.t 2) (.t 0))], [], [], some (11, 0)⟩
abbrev zOEC : Reg := ⟨[.p (.mv (.c (.bool false)))], [(4, 0)], [0, 1], none⟩
abbrev zhKF : Reg := ⟨[.p (.mv (.c (.int (0))))], [(2, 0)], [], none⟩
abbrev zhpN : Reg := ⟨[.v 2, .v 0, .p (.len (.t 0)), .p (.bin .lss (.t 2) (.t 0))], [], [], some (15, 0)⟩
abbrev zQ7Y : Reg := ⟨[.v 0, .v 2, .p (.iad (.t 1) (.t 0) 1), .p (.ld (.t 0) none), .p (.len (.t 0)), .v 1, .v 2, .p (.iad (.t 1) (.t 0) 1), .p (.ld (.t 0) none), .p (.len (.t 0)), .p (.bin .neq (.t 5) (.t 0))], [], [], some (28, 0)⟩
abbrev z4f7 : Reg := ⟨[.p (.mv (.c (.bool false)))], [(4, 0)], [0, 1, 2], none⟩
abbrev zld2 : Reg := ⟨[.p (.mv (.c (.int (0))))], [(3, 0)], [], none⟩
abbrev zNND : Reg := ⟨[.v 3, .v 0, .v 2, .p (.iad (.t 1) (.t 0) 1), .p (.ld (.t 0) none), .p (.len (.t 0)), .p (.bin .lss (.t 5) (.t 0))], [], [], some (35, 0)⟩
abbrev zom0 : Reg := ⟨[.v 0, .v 2, .p (.iad (.t 1) (.t 0) 1), .p (.ld (.t 0) none), .v 3, .p (.iad (.t 1) (.t 0) 1), .p (.ld (.t 0) none), .v 1, .v 2, .p (.iad (.t 1) (.t 0) 1), .p (.ld (.t 0) none), .v 3, .p (.iad (.t 1) (.t 0) 1), .p (.ld (.t 0) none), .p (.bin .neq (.t 7) (.t 0))], [], [], some (52, 0)⟩
abbrev zRwH : Reg := ⟨[.p (.mv (.c (.bool false)))], [(4, 0)], [0, 1, 2, 3], none⟩
abbrev zW0l : Reg := ⟨[.v 3, .p (.bin .add (.t 0) (.c (.int (1)))), .t 0], [(3, 0)], [], none⟩
abbrev zJjK : IC := (.seq (.seq (.reg zNND)
 (.cond 35 .skip (.exit 2)))
 (.seq (.block 3 (.seq (.reg zom0)
 (.cond 52 (.seq (.reg zRwH)
 .ret) .skip)))
 (.reg zW0l)))
abbrev zt22 : Reg := ⟨[.v 2, .p (.bin .add (.t 0) (.c (.int (1)))), .t 0], [(2, 0)], [3], none⟩
abbrev zr95 : IC := (.seq (.seq (.reg zhpN)
 (.cond 15 .skip (.exit 0)))
 (.seq (.block 1 (.seq (.seq (.reg zQ7Y)
 (.cond 28 (.seq (.reg z4f7)
 .ret) .skip))
 (.seq (.reg zld2)
 (.block 2 (.loop zJjK)))))
 (.reg zt22)))
abbrev zpcT : Reg := ⟨[.p (.mv (.c (.bool true)))], [(4, 0)], [0, 1, 2], none⟩
abbrev zJWy : Fn := { np := 2, nv := 5, res := [(4, none)], body :=
(.seq (.reg zNN0)
 (.seq (.seq (.reg zHt0)
 (.cond 11 (.seq (.reg zOEC)
 .ret) .skip))
 (.seq (.seq (.reg zhKF)
 (.block 0 (.loop zr95)))
 (.seq (.reg zpcT)
 .ret)))) }
abbrev zpeZ : Reg := ⟨[.p (.mv (.c (.bool false)))], [], [5], none⟩
abbrev zzXm : Reg := ⟨[.v 0, .p (.len (.t 0)), .v 1, .p (.len (.t 0)), .p (.bin .neq (.t 2) (.t 0))], [], [], some (10, 0)⟩
abbrev zhri : Reg := ⟨[.p (.mv (.c (.bool false)))], [(5, 0)], [0, 1], none⟩
abbrev zjf2 : Reg := ⟨[.v 0, .p (.len (.t 0)), .p (.mv (.c (.int (0))))], [(3, 1), (2, 0)], [], none⟩
abbrev zQfY : Reg := ⟨[.p (.bin .lss (.v 2) (.v 3))], [], [], some (14, 0)⟩
abbrev zpzA : Reg := ⟨[.v 2, .t 0], [(4, 0)], [], none⟩
abbrev zCz1 : Reg := ⟨[.v 0, .v 4, .p (.iad (.t 1) (.t 0) 1), .p (.ld (.t 0) none), .v 1, .v 4, .p (.iad (.t 1) (.t 0) 1), .p (.ld (.t 0) none), .p (.cal z2f9 [(.t 4), (.t 0)]), .p (.not (.t 0))], [], [4], some (25, 0)⟩
abbrev z4uA : Reg := ⟨[.p (.mv (.c (.bool false)))], [(5, 0)], [0, 1, 2, 3], none⟩
abbrev zaAd : Reg := ⟨[.p (.bin .add (.v 2) (.c (.int (1)))), .t 0], [(2, 0)], [], none⟩
abbrev zLFN : IC := (.seq (.reg zQfY)
 (.seq (.cond 14 .skip (.exit 0))
 (.seq (.block 1 (.seq (.reg zpzA)
 (.seq (.reg zCz1)
 (.cond 25 (.seq (.reg z4uA)
 .ret) .skip))))
 (.reg zaAd))))
abbrev zhFb : Reg := ⟨[.p (.mv (.c (.bool true)))], [(5, 0)], [0, 1, 2, 3], none⟩
abbrev zSzJ : Fn := { np := 2, nv := 6, res := [(5, none)], body :=
(.seq (.reg zpeZ)
 (.seq (.seq (.reg zzXm)
 (.cond 10 (.seq (.reg zhri)
 .ret) .skip))
 (.seq (.seq (.reg zjf2)
 (.block 0 (.loop zLFN)))
 (.seq (.reg zhFb)
 .ret)))) }
abbrev zh1h : Reg := ⟨[.p (.bxi (.v 0)), .p (.mv (.c (.int (0))))], [(1, 1)], [0, 3], none⟩
abbrev zbEA : Reg := ⟨[.p (.ldi (.v 1) (some 4)), .p (.cal z2Nz [(.t 0)]), .t 0], [(2, 0)], [], none⟩
abbrev zJs8 : Reg := ⟨[.v 2, .p (.bin .neq (.t 0) (.c (.int (0))))], [], [], some (7, 0)⟩
abbrev zyuo : Reg := ⟨[.v 2, .t 0], [(3, 0)], [1, 2], none⟩
abbrev zaGt : Reg := ⟨[.p (.ldi (.v 1) (some 4)), .p (.cal zpHJ [(.t 0)]), .p (.not (.t 0))], [], [1, 2], some (11, 0)⟩
abbrev zkb9 : Reg := ⟨[.p (.mv (.c (.int (1))))], [(3, 0)], [], none⟩
abbrev zXKb : Reg := ⟨[.p (.mv (.c (.int (0))))], [(3, 0)], [], none⟩
abbrev z0Uh : Fn := { np := 1, nv := 4, res := [(3, none)], body :=
(.seq (.reg zh1h)
 (.seq (.seq (.reg zbEA)
 (.seq (.reg zJs8)
 (.cond 7 (.seq (.reg zyuo)
 .ret) .skip)))
 (.seq (.seq (.reg zaGt)
 (.cond 11 (.seq (.reg zkb9)
 .ret) .skip))
 (.seq (.reg zXKb)
 .ret)))) }
abbrev zHU2 : Reg := ⟨[.p (.bxi (.v 0)), .p (.mv (.c (.bool false))), .p (.mv (.c (.int (0))))], [(2, 2)], [0, 13, 14], none⟩
abbrev zihL : Reg := ⟨[.p (.ldi (.v 2) (some 4)), .p (.cal zLwh [(.t 0)]), .t 0], [(3, 0)], [], none⟩
abbrev zNqS : Reg := ⟨[.v 3, .p (.bin .neq (.t 0) (.c (.int (0))))], [], [], some (15, 0)⟩
abbrev zuDH : Reg := ⟨[.v 3, .p (.mv (.c (.bool false))), .t 1], [(13, 1), (14, 0)], [1, 2, 3], none⟩
abbrev zETq : Reg := ⟨[.v 1, .p (.len (.t 0)), .p (.mv (.c (.int (0))))], [(6, 2), (5, 1), (4, 0)], [3], none⟩
abbrev z20h : Reg := ⟨[.p (.bin .lss (.v 4) (.v 5))], [], [], some (20, 0)⟩
abbrev zneD : Reg := ⟨[.p (.iad (.v 6) (.v 4) 1), .p (.ld (.t 0) none), .t 0], [(7, 0)], [], none⟩
abbrev z602 : Reg := ⟨[.v 7, .p (.fad (.v 2) 0 none), .p (.ldi (.t 0) none), .p (.cal zxtP [(.t 2), (.t 0)]), .t 0], [(8, 0)], [7], none⟩
abbrev zKTV : Reg := ⟨[.v 8, .p (.bin .neq (.t 0) (.c (.int (0))))], [], [], some (28, 0)⟩
abbrev zls3 : Reg := ⟨[.v 8, .p (.mv (.c (.bool false))), .t 1], [(13, 1), (14, 0)], [1, 2, 4, 5, 6, 8], none⟩
abbrev zKgB : Reg := ⟨[.p (.bin .add (.v 4) (.c (.int (1)))), .t 0], [(4, 0)], [8], none⟩
abbrev zcyJ : IC := (.seq (.reg z20h)
 (.seq (.cond 20 .skip (.exit 0))
 (.seq (.block 1 (.seq (.reg zneD)
 (.seq (.reg z602)
 (.seq (.reg zKTV)
 (.cond 28 (.seq (.reg zls3)
 .ret) .skip)))))
 (.reg zKgB))))
abbrev zU7s : Reg := ⟨[.p (.fad (.v 2) 2 none), .p (.ldi (.t 0) none), .p (.len (.t 0)), .p (.mv (.c (.int (0))))], [(10, 1), (9, 0)], [4, 5, 6], none⟩
abbrev zu12 : Reg := ⟨[.p (.bin .lss (.v 9) (.v 10))], [], [], some (35, 0)⟩
abbrev zZ2u : Reg := ⟨[.v 9, .t 0], [(11, 0)], [], none⟩
abbrev z432 : Reg := ⟨[.v 11, .p (.bin .add (.t 0) (.c (.int (1)))), .t 0], [(12, 0)], [], none⟩
abbrev z6Rf : Reg := ⟨[.v 12, .p (.fad (.v 2) 2 none), .p (.ldi (.t 0) none), .p (.len (.t 0)), .p (.bin .lss (.t 3) (.t 0))], [], [], some (43, 0)⟩
abbrev zHfU : Reg := ⟨[.p (.ldi (.v 2) (some 4)), .v 1, .v 11, .v 12, .p (.cal z5pz [(.t 3), (.t 2), (.t 1), (.t 0)]), .p (.not (.t 0))], [], [], some (51, 0)⟩
abbrev zlgA : Reg := ⟨[.p (.mv (.c (.bool false))), .p (.mv (.c (.int (0))))], [(13, 1), (14, 0)], [1, 2, 9, 10, 11, 12], none⟩
abbrev zXPj : Reg := ⟨[.v 12, .p (.bin .add (.t 0) (.c (.int (1)))), .t 0], [(12, 0)], [], none⟩
abbrev z80O : IC := (.seq (.seq (.reg z6Rf)
 (.cond 43 .skip (.exit 4)))
 (.seq (.block 5 (.seq (.reg zHfU)
 (.cond 51 (.seq (.reg zlgA)
 .ret) .skip)))
 (.reg zXPj)))
abbrev zLw0 : Reg := ⟨[.p (.bin .add (.v 9) (.c (.int (1)))), .t 0], [(9, 0)], [11, 12], none⟩
abbrev ziF3 : IC := (.seq (.reg zu12)
 (.seq (.cond 35 .skip (.exit 2))
 (.seq (.block 3 (.seq (.reg zZ2u)
 (.seq (.reg z432)
 (.block 4 (.loop z80O)))))
 (.reg zLw0))))
abbrev zZ6U : Reg := ⟨[.p (.mv (.c (.bool true))), .p (.mv (.c (.int (0))))], [(13, 1), (14, 0)], [1, 2, 9, 10], none⟩
abbrev z72L : Fn := { np := 2, nv := 15, res := [(13, none), (14, none)], body :=
(.seq (.reg zHU2)
 (.seq (.seq (.reg zihL)
 (.seq (.reg zNqS)
 (.cond 15 (.seq (.reg zuDH)
 .ret) .skip)))
 (.seq (.seq (.reg zETq)
 (.block 0 (.loop zcyJ)))
 (.seq (.seq (.reg zU7s)
 (.block 2 (.loop ziF3)))
 (.seq (.reg zZ6U)
 .ret))))) }
abbrev z9W2 : Reg := ⟨[.p (.mv (.c (.snil)))], [], [1], none⟩
abbrev zAZj : Reg := ⟨[.v 0, .p (.cal zePV [(.t 0), (.c (.func zGKM []))]), .t 0], [(1, 0)], [0], none⟩
abbrev z3yZ : Fn := { np := 1, nv := 2, res := [(1, none)], body :=
(.seq (.reg z9W2)
 (.seq (.reg zAZj)
 .ret)) }
abbrev zKas : Reg := ⟨[.p (.mv (.c (.snil)))], [], [1], none⟩
abbrev zcRU : Reg := ⟨[.v 0, .p (.cal zNW4 [(.t 0)]), .p (.cal ze0X [(.t 0)]), .t 0], [(1, 0)], [0], none⟩
abbrev zP2L : Fn := { np := 1, nv := 2, res := [(1, none)], body :=
(.seq (.reg zKas)
 (.seq (.reg zcRU)
 .ret)) }
abbrev zURG : Reg := ⟨[.p (.bxi (.v 0)), .p (.mv (.c (.snil))), .p (.mv (.c (.bool false))), .p (.mv (.c (.int (0))))], [(3, 3)], [0, 7, 8, 9], none⟩
abbrev zgBa : Reg := ⟨[.p (.ldi (.v 3) (some 4)), .p (.cal zLwh [(.t 0)]), .t 0], [(4, 0)], [], none⟩
abbrev zZO9 : Reg := ⟨[.v 4, .p (.bin .neq (.t 0) (.c (.int (0))))], [], [], some (15, 0)⟩
abbrev z9Wq : Reg := ⟨[.v 4, .p (.mv (.c (.snil))), .p (.mv (.c (.bool false))), .t 2], [(7, 2), (8, 1), (9, 0)], [1, 2, 3, 4], none⟩
abbrev zfZb : Reg := ⟨[.v 1, .p (.bin .lss (.t 0) (.c (.int (0)))), .t 0, .y 0 (.mv (.v 1)), .y 1 (.fad (.v 3) 2 none), .y 2 (.ldi (.t 0) none), .y 3 (.len (.t 0)), .y 4 (.bin .geq (.t 3) (.t 0)), .p (.pick (.t 5) (.c (.bool true)) (.t 0)), .t 0, .y 0 (.mv (.v 2)), .y 1 (.bin .lss (.t 0) (.c (.int (0)))), .p (.pick (.t 2) (.c (.bool true)) (.t 0)), .t 0, .y 0 (.mv (.v 2)), .y 1 (.fad (.v 3) 2 none), .y 2 (.ldi (.t 0) none), .y 3 (.len (.t 0)), .y 4 (.bin .geq (.t 3) (.t 0)), .p (.pick (.t 5) (.c (.bool true)) (.t 0))], [], [4], some (36, 0)⟩
abbrev zT0F : Reg := ⟨[.p (.mv (.c (.snil))), .p (.mv (.c (.bool false))), .p (.mv (.c (.int (2))))], [(7, 2), (8, 1), (9, 0)], [1, 2, 3], none⟩
abbrev zQvl : Reg := ⟨[.p (.ldi (.v 3) (some 4)), .p (.ldi (.v 3) (some 4)), .v 1, .v 2, .p (.bld [.int 0, .int 0] [(0, 1, (.t 1)), (1, 1, (.t 0))]), .p (.cal zgfl [(.t 4), (.t 3), (.t 0)]), .t 0, .p (.ext (.t 0) 0), .p (.ext (.t 1) 1), .t 1, .t 1], [(5, 1), (6, 0)], [1, 2, 3], none⟩
abbrev zT6h : Reg := ⟨[.v 5, .v 6, .t 1, .t 1, .p (.mv (.c (.int (0))))], [(7, 2), (8, 1), (9, 0)], [5, 6], none⟩
abbrev zTSK : Fn := { np := 3, nv := 10, res := [(7, none), (8, none), (9, none)], body :=
(.seq (.reg zURG)
 (.seq (.seq (.reg zgBa)
 (.seq (.reg zZO9)
 (.cond 15 (.seq (.reg z9Wq)
 .ret) .skip)))
 (.seq (.seq (.reg zfZb)
 (.cond 36 (.seq (.reg zT0F)
 .ret) .skip))
 (.seq (.reg zQvl)
 (.seq (.reg zT6h)
 .ret))))) }
abbrev zmCa : Reg := ⟨[.p (.bxi (.v 1)), .p (.mv (.c (.bool false)))], [(2, 1)], [1, 3], none⟩
abbrev zoxb : Reg := ⟨[.v 0, .p (.mkf z60t [(.v 2)]), .p (.cal zIRT [(.t 1), (.t 0)]), .t 0], [(3, 0)], [0, 2], none⟩
abbrev zmZK : Fn := { np := 2, nv := 4, res := [(3, none)], body :=
(.seq (.reg zmCa)
 (.seq (.reg zoxb)
 .ret)) }
abbrev zGZS : Reg := ⟨[.p (.bxi (.v 0)), .p (.mv (.c (.bool false)))], [(1, 1)], [0, 8], none⟩
abbrev zGEE : Reg := ⟨[.p (.fad (.v 1) 2 none), .p (.ldi (.t 0) none), .p (.len (.t 0)), .p (.bin .gtr (.t 0) (.c (.int (12)))), .t 0, .y 0 (.fad (.v 1) 3 none), .y 1 (.ldi (.t 0) none), .y 2 (.len (.t 0)), .y 3 (.bin .gtr (.t 0) (.c (.int (12)))), .p (.pick (.t 4) (.c (.bool true)) (.t 0)), .t 0, .y 0 (.fad (.v 1) 0 none), .y 1 (.ldi (.t 0) none), .y 2 (.bin .gtr (.t 0) (.c (.int (6)))), .p (.pick (.t 3) (.c (.bool true)) (.t 0))], [], [], some (19, 0)⟩
abbrev zd4o : Reg := ⟨[.p (.mv (.c (.bool true)))], [(8, 0)], [1], none⟩
abbrev zsNX : Reg := ⟨[.p (.fad (.v 1) 2 none), .p (.ldi (.t 0) none), .p (.len (.t 0)), .p (.mv (.c (.int (0))))], [(3, 1), (2, 0)], [], none⟩
abbrev zZ5T : Reg := ⟨[.p (.bin .lss (.v 2) (.v 3))], [], [], some (24, 0)⟩
abbrev zKOc : Reg := ⟨[.v 2, .t 0], [(4, 0)], [], none⟩
abbrev z1fe : Reg := ⟨[.p (.fad (.v 1) 2 none), .p (.ldi (.t 0) none), .v 4, .p (.iad (.t 1) (.t 0) 1), .p (.ldi (.t 0) none), .p (.len (.t 0)), .p (.bin .gtr (.t 0) (.c (.int (12))))], [], [4], some (32, 0)⟩
abbrev zNu8 : Reg := ⟨[.p (.mv (.c (.bool true)))], [(8, 0)], [1, 2, 3], none⟩
abbrev z50D : Reg := ⟨[.p (.bin .add (.v 2) (.c (.int (1)))), .t 0], [(2, 0)], [], none⟩
abbrev zq8S : IC := (.seq (.reg zZ5T)
 (.seq (.cond 24 .skip (.exit 0))
 (.seq (.block 1 (.seq (.reg zKOc)
 (.seq (.reg z1fe)
 (.cond 32 (.seq (.reg zNu8)
 .ret) .skip))))
 (.reg z50D))))
abbrev zAci : Reg := ⟨[.p (.fad (.v 1) 3 none), .p (.ldi (.t 0) none), .p (.len (.t 0)), .p (.mv (.c (.int (0))))], [(6, 1), (5, 0)], [2, 3], none⟩
abbrev zLdG : Reg := ⟨[.p (.bin .lss (.v 5) (.v 6))], [], [], some (38, 0)⟩
abbrev z0NO : Reg := ⟨[.v 5, .t 0], [(7, 0)], [], none⟩
abbrev z7yj : Reg := ⟨[.p (.fad (.v 1) 3 none), .p (.ldi (.t 0) none), .v 7, .p (.iad (.t 1) (.t 0) 1), .p (.ldi (.t 0) none), .p (.len (.t 0)), .p (.bin .gtr (.t 0) (.c (.int (12))))], [], [7], some (46, 0)⟩
abbrev zlL5 : Reg := ⟨[.p (.mv (.c (.bool true)))], [(8, 0)], [1, 5, 6], none⟩
abbrev zEP4 : Reg := ⟨[.p (.bin .add (.v 5) (.c (.int (1)))), .t 0], [(5, 0)], [], none⟩
abbrev zloJ : IC := (.seq (.reg zLdG)
 (.seq (.cond 38 .skip (.exit 2))
 (.seq (.block 3 (.seq (.reg z0NO)
 (.seq (.reg z7yj)
 (.cond 46 (.seq (.reg zlL5)
 .ret) .skip))))
 (.reg zEP4))))
abbrev zpK9 : Reg := ⟨[.p (.mv (.c (.bool false)))], [(8, 0)], [1, 5, 6], none⟩
abbrev zhlY : Fn := { np := 1, nv := 9, res := [(8, none)], body :=
(.seq (.reg zGZS)
 (.seq (.seq (.reg zGEE)
 (.cond 19 (.seq (.reg zd4o)
 .ret) .skip))
 (.seq (.seq (.reg zsNX)
 (.block 0 (.loop zq8S)))
 (.seq (.seq (.reg zAci)
 (.block 2 (.loop zloJ)))
 (.seq (.reg zpK9)
 .ret))))) }
abbrev zMRI : Reg := ⟨[.p (.bxi (.v 0)), .p (.mv (.c (.snil))), .p (.mv (.c (.bool false))), .p (.mv (.c (.int (0))))], [(3, 3)], [0, 9, 10, 11], none⟩
abbrev zvOb : Reg := ⟨[.p (.ldi (.v 3) (some 4)), .p (.cal zSMD [(.t 0)]), .t 0], [(4, 0)], [], none⟩
abbrev zDJF : Reg := ⟨[.v 4, .p (.bin .neq (.t 0) (.c (.int (0))))], [], [], some (15, 0)⟩
abbrev zfUX : Reg := ⟨[.v 4, .p (.mv (.c (.snil))), .p (.mv (.c (.bool false))), .t 2], [(9, 2), (10, 1), (11, 0)], [1, 2, 3, 4], none⟩
abbrev ziqP : Reg := ⟨[.v 1, .p (.bin .lss (.t 0) (.c (.int (0)))), .t 0, .y 0 (.mv (.v 1)), .y 1 (.fad (.v 3) 2 none), .y 2 (.ldi (.t 0) none), .y 3 (.len (.t 0)), .y 4 (.bin .geq (.t 3) (.t 0)), .p (.pick (.t 5) (.c (.bool true)) (.t 0)), .t 0, .y 0 (.mv (.v 2)), .y 1 (.bin .lss (.t 0) (.c (.int (0)))), .p (.pick (.t 2) (.c (.bool true)) (.t 0)), .t 0, .y 0 (.mv (.v 2)), .y 1 (.bin .gtr (.t 0) (.c (.int (128)))), .p (.pick (.t 2) (.c (.bool true)) (.t 0))], [], [4], some (33, 0)⟩
abbrev zOyl : Reg := ⟨[.p (.mv (.c (.snil))), .p (.mv (.c (.bool false))), .p (.mv (.c (.int (2))))], [(9, 2), (10, 1), (11, 0)], [1, 2, 3], none⟩
abbrev zusZ : Reg := ⟨[.v 1, .p (.bld [.int 0, .snil, .snil] [(0, 1, (.t 0))]), .p (.alc [.int 0, .snil, .snil] (some 3)), .p (.st (.t 0) (.t 1) 3)], [(8, 1)], [], none⟩
abbrev zEiw : Reg := ⟨[.p (.fad (.v 3) 2 none), .p (.ldi (.t 0) none), .p (.len (.t 0)), .p (.mv (.c (.int (0))))], [(6, 1), (5, 0)], [], none⟩
abbrev z1xr : Reg := ⟨[.p (.bin .lss (.v 5) (.v 6))], [], [], some (40, 0)⟩
abbrev zG2K : Reg := ⟨[.v 5, .t 0], [(7, 0)], [], none⟩
abbrev zL0l : Reg := ⟨[.v 7, .v 1, .p (.bin .neq (.t 1) (.t 0))], [], [], some (44, 0)⟩
abbrev zZvn : Reg := ⟨[.p (.fad (.v 8) 1 none), .p (.ld (.t 0) none), .v 7, .p (.lita [(.t 0)] 1), .p (.appw (.t 2) (.t 0) none), .p (.fad (.v 8) 1 none), .p (.st (.t 0) (.t 1) 1)], [], [7], none⟩
abbrev zXOJ : Reg := ⟨[.p (.bin .add (.v 5) (.c (.int (1)))), .t 0], [(5, 0)], [7], none⟩
abbrev zJRf : IC := (.seq (.reg z1xr)
 (.seq (.cond 40 .skip (.exit 0))
 (.seq (.block 1 (.seq (.reg zG2K)
 (.seq (.reg zL0l)
 (.cond 44 (.reg zZvn) .skip))))
 (.reg zXOJ))))
abbrev zQGa : Reg := ⟨[.p (.fad (.v 8) 1 none), .p (.ld (.t 0) none), .p (.len (.t 0)), .p (.bin .eql (.t 0) (.c (.int (0))))], [], [1, 5, 6], some (55, 0)⟩
abbrev zupn : Reg := ⟨[.p (.mv (.c (.snil))), .p (.mv (.c (.bool true))), .p (.mv (.c (.int (0))))], [(9, 2), (10, 1), (11, 0)], [2, 3, 8], none⟩
abbrev zVmy : Reg := ⟨[.p (.ldi (.v 3) (some 4)), .p (.ld (.v 8) (some 3)), .v 2, .p (.cal z2bL [(.t 2), (.t 1), (.t 0)]), .p (.ext (.t 0) 0), .p (.ext (.t 1) 1), .p (.ext (.t 2) 2), .t 2, .t 2, .t 2], [(9, 2), (10, 1), (11, 0)], [2, 3, 8], none⟩
abbrev zOIT : Fn := { np := 3, nv := 12, res := [(9, none), (10, none), (11, none)], body :=
(.seq (.reg zMRI)
 (.seq (.seq (.reg zvOb)
 (.seq (.reg zDJF)
 (.cond 15 (.seq (.reg zfUX)
 .ret) .skip)))
 (.seq (.seq (.reg ziqP)
 (.cond 33 (.seq (.reg zOyl)
 .ret) .skip))
 (.seq (.reg zusZ)
 (.seq (.seq (.reg zEiw)
 (.seq (.block 0 (.loop zJRf)) (.frz 8)))
 (.seq (.seq (.reg zQGa)
 (.cond 55 (.seq (.reg zupn)
 .ret) .skip))
 (.seq (.reg zVmy)
 .ret))))))) }
abbrev zb1Z : Reg := ⟨[.p (.mv (.c (.bool false)))], [], [3], none⟩
abbrev zR26 : Reg := ⟨[.v 0, .p (.len (.t 0)), .v 1, .p (.len (.t 0)), .p (.bin .neq (.t 2) (.t 0))], [], [], some (10, 0)⟩
abbrev zPdY : Reg := ⟨[.p (.mv (.c (.bool false)))], [(3, 0)], [0, 1], none⟩
abbrev zLkQ : Reg := ⟨[.p (.mv (.c (.int (0))))], [(2, 0)], [], none⟩
abbrev zuJo : Reg := ⟨[.v 2, .v 0, .p (.len (.t 0)), .p (.bin .lss (.t 2) (.t 0))], [], [], some (14, 0)⟩
abbrev zXxc : Reg := ⟨[.v 0, .v 2, .p (.iad (.t 1) (.t 0) 1), .p (.ld (.t 0) none), .v 1, .v 2, .p (.iad (.t 1) (.t 0) 1), .p (.ld (.t 0) none), .p (.bin .neq (.t 4) (.t 0))], [], [], some (25, 0)⟩
abbrev zXqq : Reg := ⟨[.p (.mv (.c (.bool false)))], [(3, 0)], [0, 1, 2], none⟩
abbrev zVcy : Reg := ⟨[.v 2, .p (.bin .add (.t 0) (.c (.int (1)))), .t 0], [(2, 0)], [], none⟩
abbrev z4oO : IC := (.seq (.seq (.reg zuJo)
 (.cond 14 .skip (.exit 0)))
 (.seq (.block 1 (.seq (.reg zXxc)
 (.cond 25 (.seq (.reg zXqq)
 .ret) .skip)))
 (.reg zVcy)))
abbrev zlNm : Reg := ⟨[.p (.mv (.c (.bool true)))], [(3, 0)], [0, 1, 2], none⟩
abbrev zOnu : Fn := { np := 2, nv := 4, res := [(3, none)], body :=
(.seq (.reg zb1Z)
 (.seq (.seq (.reg zR26)
 (.cond 10 (.seq (.reg zPdY)
 .ret) .skip))
 (.seq (.seq (.reg zLkQ)
 (.block 0 (.loop z4oO)))
 (.seq (.reg zlNm)
 .ret)))) }
abbrev zRUi : Reg := ⟨[.p (.bxi (.v 0)), .p (.mv (.c (.int (0))))], [(1, 1)], [0, 3], none⟩
abbrev zuha : Reg := ⟨[.p (.ldi (.v 1) (some 4)), .p (.cal zLwh [(.t 0)]), .t 0], [(2, 0)], [], none⟩
abbrev zZi0 : Reg := ⟨[.v 2, .p (.bin .neq (.t 0) (.c (.int (0))))], [], [], some (7, 0)⟩
abbrev zG0q : Reg := ⟨[.v 2, .t 0], [(3, 0)], [1, 2], none⟩
abbrev zAfL : Reg := ⟨[.p (.ldi (.v 1) (some 4)), .p (.cal zJZP [(.t 0)]), .p (.not (.t 0))], [], [1, 2], some (11, 0)⟩
abbrev zRvn : Reg := ⟨[.p (.mv (.c (.int (1))))], [(3, 0)], [], none⟩
abbrev zQnW : Reg := ⟨[.p (.mv (.c (.int (0))))], [(3, 0)], [], none⟩
abbrev zIGF : Fn := { np := 1, nv := 4, res := [(3, none)], body :=
(.seq (.reg zRUi)
 (.seq (.seq (.reg zuha)
 (.seq (.reg zZi0)
 (.cond 7 (.seq (.reg zG0q)
 .ret) .skip)))
 (.seq (.seq (.reg zAfL)
 (.cond 11 (.seq (.reg zRvn)
 .ret) .skip))
 (.seq (.reg zQnW)
 .ret)))) }
abbrev zG7T : Reg := ⟨[.p (.bxi (.v 0)), .p (.bxi (.v 2)), .p (.bxi (.v 3)), .p (.mv (.c (.bool false)))], [(4, 3), (5, 2), (6, 1)], [0, 2, 3, 7], none⟩
abbrev zHbY : Reg := ⟨[.v 1, .p (.mkf zYpD [(.v 4), (.v 5), (.v 6)]), .p (.cal zGnf [(.t 1), (.t 0)]), .t 0], [(7, 0)], [1, 4, 5, 6], none⟩
abbrev zOlb : Fn := { np := 4, nv := 8, res := [(7, none)], body :=
(.seq (.reg zG7T)
 (.seq (.reg zHbY)
 .ret)) }
abbrev zRMC : Reg := ⟨[.p (.bxi (.v 0)), .p (.mv (.c (.bool false)))], [(5, 1)], [0, 6], none⟩
abbrev zEfN : Reg := ⟨[.p (.mv (.c (.int (0))))], [(4, 0)], [], none⟩
abbrev zKuV : Reg := ⟨[.v 4, .v 3, .p (.len (.t 0)), .p (.bin .lss (.t 2) (.t 0))], [], [], some (13, 0)⟩
abbrev zQF3 : Reg := ⟨[.p (.ldi (.v 5) (some 4)), .v 1, .v 2, .v 3, .v 4, .p (.iad (.t 1) (.t 0) 1), .p (.ld (.t 0) none), .p (.cal zHta [(.t 6), (.t 5), (.t 4), (.t 0)])], [], [], some (23, 0)⟩
abbrev z67l : Reg := ⟨[.p (.mv (.c (.bool true)))], [(6, 0)], [1, 2, 3, 4, 5], none⟩
abbrev znTW : Reg := ⟨[.v 4, .p (.bin .add (.t 0) (.c (.int (1)))), .t 0], [(4, 0)], [], none⟩
abbrev z0Qg : IC := (.seq (.seq (.reg zKuV)
 (.cond 13 .skip (.exit 0)))
 (.seq (.block 1 (.seq (.reg zQF3)
 (.cond 23 (.seq (.reg z67l)
 .ret) .skip)))
 (.reg znTW)))
abbrev zhba : Reg := ⟨[.p (.mv (.c (.bool false)))], [(6, 0)], [1, 2, 3, 4, 5], none⟩
abbrev zVGF : Fn := { np := 4, nv := 7, res := [(6, none)], body :=
(.seq (.reg zRMC)
 (.seq (.seq (.reg zEfN)
 (.block 0 (.loop z0Qg)))
 (.seq (.reg zhba)
 .ret))) }
abbrev znJn : Reg := ⟨[.p (.bxi (.v 0)), .p (.mv (.c (.snil))), .p (.mv (.c (.bool false))), .p (.mv (.c (.int (0))))], [(3, 3)], [0, 7, 8, 9], none⟩
abbrev zNQC : Reg := ⟨[.p (.ldi (.v 3) (some 4)), .p (.cal z2Nz [(.t 0)]), .t 0], [(4, 0)], [], none⟩
abbrev zKNL : Reg := ⟨[.v 4, .p (.bin .neq (.t 0) (.c (.int (0))))], [], [], some (15, 0)⟩
abbrev zbbg : Reg := ⟨[.v 4, .p (.mv (.c (.snil))), .p (.mv (.c (.bool false))), .t 2], [(7, 2), (8, 1), (9, 0)], [1, 2, 3, 4], none⟩
abbrev zjhw : Reg := ⟨[.v 1, .p (.bin .lss (.t 0) (.c (.int (0)))), .t 0, .y 0 (.mv (.v 1)), .y 1 (.fad (.v 3) 2 none), .y 2 (.ldi (.t 0) none), .y 3 (.len (.t 0)), .y 4 (.bin .geq (.t 3) (.t 0)), .p (.pick (.t 5) (.c (.bool true)) (.t 0)), .t 0, .y 0 (.mv (.v 2)), .y 1 (.bin .lss (.t 0) (.c (.int (0)))), .p (.pick (.t 2) (.c (.bool true)) (.t 0)), .t 0, .y 0 (.mv (.v 2)), .y 1 (.fad (.v 3) 2 none), .y 2 (.ldi (.t 0) none), .y 3 (.len (.t 0)), .y 4 (.bin .geq (.t 3) (.t 0)), .p (.pick (.t 5) (.c (.bool true)) (.t 0))], [], [4], some (36, 0)⟩
abbrev zpbB : Reg := ⟨[.p (.mv (.c (.snil))), .p (.mv (.c (.bool false))), .p (.mv (.c (.int (2))))], [(7, 2), (8, 1), (9, 0)], [1, 2, 3], none⟩
abbrev zyG5 : Reg := ⟨[.p (.ldi (.v 3) (some 4)), .p (.ldi (.v 3) (some 4)), .v 1, .v 2, .p (.cal zgNs [(.t 3), (.t 2), (.t 1), (.t 0)]), .t 0, .p (.ext (.t 0) 0), .p (.ext (.t 1) 1), .t 1, .t 1], [(5, 1), (6, 0)], [1, 2, 3], none⟩
abbrev zqf6 : Reg := ⟨[.v 5, .v 6, .t 1, .t 1, .p (.mv (.c (.int (0))))], [(7, 2), (8, 1), (9, 0)], [5, 6], none⟩
abbrev zhZc : Fn := { np := 3, nv := 10, res := [(7, none), (8, none), (9, none)], body :=
(.seq (.reg znJn)
 (.seq (.seq (.reg zNQC)
 (.seq (.reg zKNL)
 (.cond 15 (.seq (.reg zbbg)
 .ret) .skip)))
 (.seq (.seq (.reg zjhw)
 (.cond 36 (.seq (.reg zpbB)
 .ret) .skip))
 (.seq (.reg zyG5)
 (.seq (.reg zqf6)
 .ret))))) }
abbrev zXQJ : Reg := ⟨[.p (.mv (.c (.snil)))], [], [3], none⟩
abbrev zELO : Reg := ⟨[.p (.mv (.c (.snil)))], [(2, 0)], [], none⟩
abbrev zBLf : Reg := ⟨[.p (.mv (.c (.int (0))))], [(1, 0)], [], none⟩
abbrev zroJ : Reg := ⟨[.v 1, .v 0, .p (.len (.t 0)), .p (.bin .lss (.t 2) (.t 0))], [], [], some (8, 0)⟩
abbrev zkmW : Reg := ⟨[.v 2, .v 0, .v 1, .p (.iad (.t 1) (.t 0) 1), .p (.ld (.t 0) none), .p (.cam zn9E [(.t 4), (.t 0)]), .t 0], [(2, 0)], [], none⟩
abbrev zG3R : Reg := ⟨[.v 1, .p (.bin .add (.t 0) (.c (.int (1)))), .t 0], [(1, 0)], [], none⟩
abbrev zX62 : IC := (.seq (.seq (.reg zroJ)
 (.cond 8 .skip (.exit 0)))
 (.seq (.block 1 (.reg zkmW))
 (.reg zG3R)))
abbrev zF0F : Reg := ⟨[.v 2, .t 0], [(3, 0)], [0, 1, 2], none⟩
abbrev zec5 : Fn := { np := 1, nv := 4, res := [(3, none)], body :=
(.seq (.reg zXQJ)
 (.seq (.reg zELO)
 (.seq (.seq (.reg zBLf)
 (.block 0 (.loop zX62)))
 (.seq (.reg zF0F)
 .ret)))) }
abbrev zVsr : Reg := ⟨[.p (.bxi (.v 0)), .p (.mv (.c (.int (0))))], [(1, 1)], [0, 4], none⟩
abbrev zMbX : Reg := ⟨[.p (.fad (.v 1) 0 none), .p (.ldi (.t 0) none), .p (.bin .lss (.t 0) (.c (.int (1)))), .t 0, .y 0 (.fad (.v 1) 0 none), .y 1 (.ldi (.t 0) none), .y 2 (.bin .gtr (.t 0) (.c (.int (64)))), .p (.pick (.t 3) (.c (.bool true)) (.t 0))], [], [], some (12, 0)⟩
abbrev zve3 : Reg := ⟨[.p (.mv (.c (.int (2))))], [(4, 0)], [1], none⟩
abbrev z3qz : Reg := ⟨[.p (.fad (.v 1) 2 none), .p (.ldi (.t 0) none), .p (.len (.t 0)), .p (.bin .eql (.t 0) (.c (.int (0))))], [], [], some (16, 0)⟩
abbrev zlse : Reg := ⟨[.p (.mv (.c (.int (19))))], [(4, 0)], [1], none⟩
abbrev z4OO : Reg := ⟨[.p (.fad (.v 1) 2 none), .p (.ldi (.t 0) none), .p (.len (.t 0)), .p (.bin .gtr (.t 0) (.c (.int (128))))], [], [], some (20, 0)⟩
abbrev zlBv : Reg := ⟨[.p (.mv (.c (.int (11))))], [(4, 0)], [1], none⟩
abbrev ziRo : Reg := ⟨[.p (.fad (.v 1) 1 none), .p (.ldi (.t 0) none), .p (.bin .lss (.t 0) (.c (.int (0)))), .t 0, .y 0 (.fad (.v 1) 1 none), .y 1 (.ldi (.t 0) none), .y 2 (.fad (.v 1) 2 none), .y 3 (.ldi (.t 0) none), .y 4 (.len (.t 0)), .y 5 (.bin .geq (.t 3) (.t 0)), .p (.pick (.t 6) (.c (.bool true)) (.t 0))], [], [], some (31, 0)⟩
abbrev zSUM : Reg := ⟨[.p (.mv (.c (.int (2))))], [(4, 0)], [1], none⟩
abbrev zVsR : Reg := ⟨[.p (.fad (.v 1) 3 none), .p (.ldi (.t 0) none), .p (.len (.t 0)), .p (.fad (.v 1) 2 none), .p (.ldi (.t 0) none), .p (.len (.t 0)), .p (.bin .neq (.t 3) (.t 0))], [], [], some (38, 0)⟩
abbrev zivd : Reg := ⟨[.p (.mv (.c (.int (1))))], [(4, 0)], [1], none⟩
abbrev z5i5 : Reg := ⟨[.p (.mv (.c (.int (0))))], [(2, 0)], [], none⟩
abbrev zq4J : Reg := ⟨[.v 2, .p (.fad (.v 1) 2 none), .p (.ldi (.t 0) none), .p (.len (.t 0)), .p (.bin .lss (.t 3) (.t 0))], [], [], some (43, 0)⟩
abbrev zEqE : Reg := ⟨[.p (.ldi (.v 1) (some 4)), .v 2, .p (.cal zyip [(.t 1), (.t 0)]), .t 0], [(3, 0)], [], none⟩
abbrev zaCK : Reg := ⟨[.v 3, .p (.bin .neq (.t 0) (.c (.int (0))))], [], [], some (50, 0)⟩
abbrev zsgL : Reg := ⟨[.v 3, .t 0], [(4, 0)], [1, 2, 3], none⟩
abbrev zuHc : Reg := ⟨[.v 2, .p (.bin .add (.t 0) (.c (.int (1)))), .t 0], [(2, 0)], [3], none⟩
abbrev zYQ5 : IC := (.seq (.seq (.reg zq4J)
 (.cond 43 .skip (.exit 0)))
 (.seq (.block 1 (.seq (.reg zEqE)
 (.seq (.reg zaCK)
 (.cond 50 (.seq (.reg zsgL)
 .ret) .skip))))
 (.reg zuHc)))
abbrev zGAx : Reg := ⟨[.p (.mv (.c (.int (0))))], [(4, 0)], [1, 2], none⟩
abbrev zr8U : Fn := { np := 1, nv := 5, res := [(4, none)], body :=
(.seq (.reg zVsr)
 (.seq (.seq (.reg zMbX)
 (.cond 12 (.seq (.reg zve3)
 .ret) .skip))
 (.seq (.seq (.reg z3qz)
 (.cond 16 (.seq (.reg zlse)
 .ret) .skip))
 (.seq (.seq (.reg z4OO)
 (.cond 20 (.seq (.reg zlBv)
 .ret) .skip))
 (.seq (.seq (.reg ziRo)
 (.cond 31 (.seq (.reg zSUM)
 .ret) .skip))
 (.seq (.seq (.reg zVsR)
 (.cond 38 (.seq (.reg zivd)
 .ret) .skip))
 (.seq (.seq (.reg z5i5)
 (.block 0 (.loop zYQ5)))
 (.seq (.reg zGAx)
 .ret)))))))) }
abbrev zl2P : Reg := ⟨[.p (.bxi (.v 0)), .p (.mv (.c (.bool false)))], [(1, 1)], [0, 4], none⟩
abbrev z521 : Reg := ⟨[.p (.ldi (.v 1) (some 4)), .p (.cal z610 [(.t 0)]), .t 0, .p (.ext (.t 0) 0), .p (.ext (.t 1) 1), .p (.alc0 4), .p (.ini (.t 0) (.t 2) 4), .t 2], [(3, 1), (2, 0)], [], none⟩
abbrev zF6d : Reg := ⟨[.v 2, .p (.bin .eql (.t 0) (.c (.int (0)))), .t 0, .x 0 (.fad (.v 3) 2 none), .x 1 (.ldi (.t 0) none), .x 2 (.len (.t 0)), .x 3 (.fad (.v 1) 2 none), .x 4 (.ldi (.t 0) none), .x 5 (.len (.t 0)), .x 6 (.bin .eql (.t 3) (.t 0)), .p (.pick (.t 7) (.t 0) (.c (.bool false))), .t 0], [(4, 0)], [1, 2, 3], none⟩
abbrev zmJw : Fn := { np := 1, nv := 5, res := [(4, none)], body :=
(.seq (.reg zl2P)
 (.seq (.reg z521)
 (.seq (.reg zF6d)
 .ret))) }
abbrev z47M : Reg := ⟨[.p (.bxi (.v 0)), .p (.mv (.c (.int (0))))], [(1, 1)], [0, 11], none⟩
abbrev zL8j : Reg := ⟨[.p (.fad (.v 1) 2 none), .p (.ldi (.t 0) none), .p (.len (.t 0)), .t 0], [(2, 0)], [], none⟩
abbrev zVG1 : Reg := ⟨[.p (.fad (.v 1) 0 none), .p (.ldi (.t 0) none), .p (.bin .lss (.t 0) (.c (.int (1)))), .t 0, .y 0 (.fad (.v 1) 0 none), .y 1 (.ldi (.t 0) none), .y 2 (.bin .gtr (.t 0) (.c (.int (64)))), .p (.pick (.t 3) (.c (.bool true)) (.t 0)), .t 0], [], [], some (11, 0)⟩
abbrev zcHl : Reg := ⟨[.p (.mv (.c (.int (2))))], [(11, 0)], [1, 2], none⟩
abbrev zZki : Reg := ⟨[.v 2, .p (.bin .eql (.t 0) (.c (.int (0)))), .t 0], [], [], some (20, 0)⟩
abbrev zzIM : Reg := ⟨[.p (.mv (.c (.int (19))))], [(11, 0)], [1, 2], none⟩
abbrev z0Ap : Reg := ⟨[.v 2, .p (.bin .gtr (.t 0) (.c (.int (128)))), .t 0], [], [], some (23, 0)⟩
abbrev zY4x : Reg := ⟨[.p (.mv (.c (.int (11))))], [(11, 0)], [1, 2], none⟩
abbrev z3Y6 : Reg := ⟨[.p (.fad (.v 1) 1 none), .p (.ldi (.t 0) none), .p (.bin .lss (.t 0) (.c (.int (0)))), .t 0, .y 0 (.fad (.v 1) 1 none), .y 1 (.ldi (.t 0) none), .y 2 (.mv (.v 2)), .y 3 (.bin .geq (.t 1) (.t 0)), .p (.pick (.t 4) (.c (.bool true)) (.t 0)), .t 0], [], [], some (26, 0)⟩
abbrev zJH2 : Reg := ⟨[.p (.mv (.c (.int (2))))], [(11, 0)], [1, 2], none⟩
abbrev zeGS : Reg := ⟨[.p (.fad (.v 1) 3 none), .p (.ldi (.t 0) none), .p (.len (.t 0)), .v 2, .p (.bin .neq (.t 1) (.t 0)), .t 0], [], [], some (36, 0)⟩
abbrev zC0l : Reg := ⟨[.p (.mv (.c (.int (1))))], [(11, 0)], [1, 2], none⟩
abbrev zpAX : Reg := ⟨[.v 2, .p (.mv (.c (.int (0))))], [(4, 1), (3, 0)], [], none⟩
abbrev zGCf : Reg := ⟨[.p (.bin .lss (.v 3) (.v 4))], [], [], some (44, 0)⟩
abbrev zMrc : Reg := ⟨[.v 3, .t 0], [(5, 0)], [], none⟩
abbrev zOBh : Reg := ⟨[.p (.fad (.v 1) 2 none), .p (.ldi (.t 0) none), .v 5, .p (.iad (.t 1) (.t 0) 1), .p (.ldi (.t 0) none), .p (.len (.t 0)), .p (.fad (.v 1) 0 none), .p (.ldi (.t 0) none), .p (.bin .neq (.t 2) (.t 0)), .t 0, .y 0 (.fad (.v 1) 3 none), .y 1 (.ldi (.t 0) none), .y 2 (.mv (.v 5)), .y 3 (.iad (.t 1) (.t 0) 1), .y 4 (.ldi (.t 0) none), .y 5 (.len (.t 0)), .y 6 (.fad (.v 1) 0 none), .y 7 (.ldi (.t 0) none), .y 8 (.bin .neq (.t 2) (.t 0)), .p (.pick (.t 9) (.c (.bool true)) (.t 0))], [], [], some (65, 0)⟩
abbrev zStW : Reg := ⟨[.p (.mv (.c (.int (1))))], [(11, 0)], [1, 2, 3, 4, 5], none⟩
abbrev zugl : Reg := ⟨[.p (.fad (.v 1) 0 none), .p (.ldi (.t 0) none), .p (.mv (.c (.int (0))))], [(7, 1), (6, 0)], [], none⟩
abbrev zfwC : Reg := ⟨[.p (.bin .lss (.v 6) (.v 7))], [], [], some (69, 0)⟩
abbrev zHqi : Reg := ⟨[.v 6, .t 0], [(8, 0)], [], none⟩
abbrev zxvW : Reg := ⟨[.p (.fad (.v 1) 2 none), .p (.ldi (.t 0) none), .v 5, .p (.iad (.t 1) (.t 0) 1), .p (.ldi (.t 0) none), .v 8, .p (.iad (.t 1) (.t 0) 1), .p (.ldi (.t 0) none), .p (.fad (.v 1) 3 none), .p (.ldi (.t 0) none), .v 5, .p (.iad (.t 1) (.t 0) 1), .p (.ldi (.t 0) none), .v 8, .p (.iad (.t 1) (.t 0) 1), .p (.ldi (.t 0) none), .t 8, .t 1], [(9, 1), (10, 0)], [8], none⟩
abbrev zXBo : Reg := ⟨[.v 9, .p (.bin .lss (.t 0) (.c (.int (0)))), .t 0, .y 0 (.mv (.v 9)), .y 1 (.mv (.v 2)), .y 2 (.bin .geq (.t 1) (.t 0)), .p (.pick (.t 3) (.c (.bool true)) (.t 0)), .t 0, .y 0 (.mv (.v 10)), .y 1 (.bin .lss (.t 0) (.c (.int (0)))), .p (.pick (.t 2) (.c (.bool true)) (.t 0)), .t 0, .y 0 (.mv (.v 10)), .y 1 (.bin .gtr (.t 0) (.c (.int (1048576)))), .p (.pick (.t 2) (.c (.bool true)) (.t 0))], [], [9, 10], some (101, 0)⟩
abbrev z1vD : Reg := ⟨[.p (.mv (.c (.int (2))))], [(11, 0)], [1, 2, 3, 4, 5, 6, 7], none⟩
abbrev zNfr : Reg := ⟨[.p (.bin .add (.v 6) (.c (.int (1)))), .t 0], [(6, 0)], [], none⟩
abbrev zFUG : IC := (.seq (.reg zfwC)
 (.seq (.cond 69 .skip (.exit 3))
 (.seq (.block 4 (.seq (.reg zHqi)
 (.seq (.reg zxvW)
 (.seq (.reg zXBo)
 (.cond 101 (.seq (.reg z1vD)
 .ret) .skip)))))
 (.reg zNfr))))
abbrev zDuI : Reg := ⟨[.p (.bin .add (.v 3) (.c (.int (1)))), .t 0], [(3, 0)], [5, 6, 7], none⟩
abbrev zKGP : IC := (.seq (.reg zGCf)
 (.seq (.cond 44 .skip (.exit 1))
 (.seq (.block 2 (.seq (.reg zMrc)
 (.seq (.seq (.reg zOBh)
 (.cond 65 (.seq (.reg zStW)
 .ret) .skip))
 (.seq (.reg zugl)
 (.block 3 (.loop zFUG))))))
 (.reg zDuI))))
abbrev zRBk : Reg := ⟨[.p (.mv (.c (.int (0))))], [(11, 0)], [1, 2, 3, 4], none⟩
abbrev zVOH : Fn := { np := 1, nv := 12, res := [(11, none)], body :=
(.seq (.reg z47M)
 (.seq (.reg zL8j)
 (.seq (.block 0 (.seq (.reg zVG1)
 (.cond 11 (.seq (.reg zcHl)
 .ret) (.seq (.reg zZki)
 (.cond 20 (.seq (.reg zzIM)
 .ret) (.seq (.reg z0Ap)
 (.cond 23 (.seq (.reg zY4x)
 .ret) (.seq (.reg z3Y6)
 (.cond 26 (.seq (.reg zJH2)
 .ret) (.seq (.reg zeGS)
 (.cond 36 (.seq (.reg zC0l)
 .ret) .skip)))))))))))
 (.seq (.seq (.reg zpAX)
 (.block 1 (.loop zKGP)))
 (.seq (.reg zRBk)
 .ret))))) }
abbrev zVl0 : Reg := ⟨[.p (.bxi (.v 1)), .p (.mv (.c (.int (0))))], [(2, 1)], [1, 3], none⟩
abbrev zbTp : Reg := ⟨[.p (.ldi (.v 2) none), .p (.cal zLRb [(.t 0)]), .p (.not (.t 0)), .t 0], [], [], some (5, 0)⟩
abbrev zXDL : Reg := ⟨[.p (.mv (.c (.int (2))))], [(3, 0)], [0, 2], none⟩
abbrev zwrl : Reg := ⟨[.v 0, .p (.len (.t 0)), .p (.bin .gtr (.t 0) (.c (.int (1024)))), .t 0], [], [], some (9, 0)⟩
abbrev zDHp : Reg := ⟨[.p (.mv (.c (.int (3))))], [(3, 0)], [0, 2], none⟩
abbrev zQtq : Reg := ⟨[.v 0, .p (.mkf zVYD [(.v 2)]), .p (.cal zc7Y [(.t 1), (.t 0)]), .t 0], [], [0, 2], some (13, 0)⟩
abbrev zqkM : Reg := ⟨[.p (.mv (.c (.int (1))))], [(3, 0)], [], none⟩
abbrev zd6w : Reg := ⟨[.p (.mv (.c (.int (0))))], [(3, 0)], [], none⟩
abbrev zOgc : Fn := { np := 2, nv := 4, res := [(3, none)], body :=
(.seq (.reg zVl0)
 (.seq (.block 0 (.seq (.reg zbTp)
 (.cond 5 (.seq (.reg zXDL)
 .ret) (.seq (.reg zwrl)
 (.cond 9 (.seq (.reg zDHp)
 .ret) (.seq (.reg zQtq)
 (.cond 13 (.seq (.reg zqkM)
 .ret) .skip)))))))
 (.seq (.reg zd6w)
 .ret))) }
abbrev zuxw : Reg := ⟨[.p (.bxi (.v 1)), .p (.mv (.c (.snil)))], [(3, 1)], [1, 9], none⟩
abbrev zsEx : Reg := ⟨[.v 0, .p (.can zDOo [(.t 0)]), .t 0], [(2, 0)], [0], none⟩
abbrev zWXV : Reg := ⟨[.v 2, .p (.ldi (.v 3) none), .p (.cam zuPb [(.t 1), (.t 0)])], [], [], none⟩
abbrev zUxJ : Reg := ⟨[.v 2, .p (.mkf zgJR [(.v 3)]), .p (.cam zcfo [(.t 1), (.t 0)]), .t 0], [(2, 0)], [3], none⟩
abbrev zBUn : Reg := ⟨[.v 2, .p (.len (.t 0)), .p (.mv (.c (.int (0))))], [(6, 2), (5, 1), (4, 0)], [], none⟩
abbrev zjO3 : Reg := ⟨[.p (.bin .lss (.v 4) (.v 5))], [], [], some (19, 0)⟩
abbrev zNT3 : Reg := ⟨[.v 4, .p (.iad (.v 6) (.v 4) 1), .p (.ld (.t 0) none), .t 2, .t 1], [(7, 1), (8, 0)], [], none⟩
abbrev zD8T : Reg := ⟨[.v 2, .v 7, .v 8, .p (.cal zUHS [(.t 0)]), .p (.iad (.t 3) (.t 2) 1), .p (.st (.t 0) (.t 1) 1)], [], [7, 8], none⟩
abbrev z6fP : Reg := ⟨[.p (.bin .add (.v 4) (.c (.int (1)))), .t 0], [(4, 0)], [], none⟩
abbrev zXeB : IC := (.seq (.reg zjO3)
 (.seq (.cond 19 .skip (.exit 0))
 (.seq (.block 1 (.seq (.reg zNT3)
 (.reg zD8T)))
 (.reg z6fP))))
abbrev zpPr : Reg := ⟨[.v 2, .t 0], [(9, 0)], [2, 4, 5, 6], none⟩
abbrev zdDU : Fn := { np := 2, nv := 10, res := [(9, none)], body :=
(.seq (.reg zuxw)
 (.seq (.reg zsEx)
 (.seq (.reg zWXV)
 (.seq (.reg zUxJ)
 (.seq (.seq (.reg zBUn)
 (.block 0 (.loop zXeB)))
 (.seq (.reg zpPr)
 .ret)))))) }
abbrev z9fF : Reg := ⟨[.p (.mv (.c (.int (0))))], [], [2], none⟩
abbrev zjLt : Reg := ⟨[.v 0, .p (.len (.t 0)), .v 1, .p (.len (.t 0)), .p (.cal zb3m [(.t 2), (.t 0)]), .v 0, .v 1, .p (.cal z5pu [(.t 1), (.t 0)]), .p (.liti [(.t 3), (.t 0)] 1), .p (.cal zVj2 [(.t 0)]), .t 0], [(2, 0)], [0, 1], none⟩
abbrev zqU2 : Fn := { np := 2, nv := 3, res := [(2, none)], body :=
(.seq (.reg z9fF)
 (.seq (.reg zjLt)
 .ret)) }
abbrev zqGc : Reg := ⟨[.p (.mv (.c (.snil)))], [], [11], none⟩
abbrev zm6Q : Reg := ⟨[.p (.mv (.c (.int (0))))], [(4, 0)], [], none⟩
abbrev zmDn : Reg := ⟨[.v 0, .p (.len (.t 0)), .p (.mv (.c (.int (0))))], [(3, 2), (2, 1), (1, 0)], [], none⟩
abbrev zx5H : Reg := ⟨[.p (.bin .lss (.v 1) (.v 2))], [], [], some (12, 0)⟩
abbrev zpLy : Reg := ⟨[.p (.iad (.v 3) (.v 1) 1), .p (.ld (.t 0) none), .t 0], [(5, 0)], [], none⟩
abbrev zYLT : Reg := ⟨[.v 4, .v 5, .p (.len (.t 0)), .p (.bin .add (.t 2) (.t 0)), .t 0], [(4, 0)], [5], none⟩
abbrev z75c : Reg := ⟨[.v 4, .p (.bin .lss (.t 0) (.c (.int (0))))], [], [], some (20, 0)⟩
abbrev zDcZ : Reg := ⟨[.p (.bin .add (.v 1) (.c (.int (1)))), .t 0], [(1, 0)], [], none⟩
abbrev zDJ9 : IC := (.seq (.reg zx5H)
 (.seq (.cond 12 .skip (.exit 0))
 (.seq (.block 1 (.seq (.reg zpLy)
 (.seq (.reg zYLT)
 (.seq (.reg z75c)
 (.cond 20 .bad .skip)))))
 (.reg zDcZ))))
abbrev zfnb : Reg := ⟨[.v 4, .p (.can zHcv [(.c (.snil)), (.t 0)]), .t 0], [(9, 0)], [1, 2, 3, 4], none⟩
abbrev zEOs : Reg := ⟨[.v 0, .p (.len (.t 0)), .p (.mv (.c (.int (0))))], [(8, 2), (7, 1), (6, 0)], [0], none⟩
abbrev z2Tw : Reg := ⟨[.p (.bin .lss (.v 6) (.v 7))], [], [], some (28, 0)⟩
abbrev zvjf : Reg := ⟨[.p (.iad (.v 8) (.v 6) 1), .p (.ld (.t 0) none), .t 0], [(10, 0)], [], none⟩
abbrev zrxZ : Reg := ⟨[.v 9, .v 10, .p (.appw (.t 1) (.t 0) none), .t 0], [(9, 0)], [10], none⟩
abbrev z7AI : Reg := ⟨[.p (.bin .add (.v 6) (.c (.int (1)))), .t 0], [(6, 0)], [], none⟩
abbrev zcWZ : IC := (.seq (.reg z2Tw)
 (.seq (.cond 28 .skip (.exit 2))
 (.seq (.block 3 (.seq (.reg zvjf)
 (.reg zrxZ)))
 (.reg z7AI))))
abbrev zCNG : Reg := ⟨[.v 9, .t 0], [(11, 0)], [6, 7, 8, 9], none⟩
abbrev z9Zr : Fn := { np := 1, nv := 12, res := [(11, none)], body :=
(.seq (.reg zqGc)
 (.seq (.reg zm6Q)
 (.seq (.seq (.reg zmDn)
 (.block 0 (.loop zDJ9)))
 (.seq (.reg zfnb)
 (.seq (.seq (.reg zEOs)
 (.block 2 (.loop zcWZ)))
 (.seq (.reg zCNG)
 .ret)))))) }
abbrev zvLK : Reg := ⟨[.p (.bxi (.v 0)), .p (.bxi (.v 1)), .p (.bxi (.v 2)), .p (.mv (.c (.snil))), .p (.mv (.c (.bool false)))], [(3, 4), (8, 3), (9, 2)], [0, 1, 2, 17, 18], none⟩
abbrev zPuL : Reg := ⟨[.p (.fad (.v 3) 2 none), .p (.ldi (.t 0) none), .p (.len (.t 0)), .p (.mks (.t 0) (.t 0) [.snil] none), .t 0], [(4, 0)], [], none⟩
abbrev zjLw : Reg := ⟨[.v 4, .p (.len (.t 0)), .p (.mv (.c (.int (0))))], [(6, 1), (5, 0)], [], none⟩
abbrev zjaS : Reg := ⟨[.p (.bin .lss (.v 5) (.v 6))], [], [], some (22, 0)⟩
abbrev zLn7 : Reg := ⟨[.v 5, .t 0], [(7, 0)], [], none⟩
abbrev znW1 : Reg := ⟨[.v 4, .v 7, .p (.fad (.v 8) 2 none), .p (.ldi (.t 0) none), .p (.len (.t 0)), .p (.mks (.t 0) (.t 0) [.bool false] none), .p (.iad (.t 5) (.t 4) 1), .p (.st (.t 0) (.t 1) 1)], [], [7], none⟩
abbrev zOLd : Reg := ⟨[.p (.bin .add (.v 5) (.c (.int (1)))), .t 0], [(5, 0)], [], none⟩
abbrev zyPq : IC := (.seq (.reg zjaS)
 (.seq (.cond 22 .skip (.exit 0))
 (.seq (.block 1 (.seq (.reg zLn7)
 (.reg znW1)))
 (.reg zOLd))))
abbrev zOip : Reg := ⟨[.v 4, .p (.fad (.v 9) 0 none), .p (.ldi (.t 0) none), .p (.iad (.t 2) (.t 0) 1), .p (.ld (.t 0) none), .p (.fad (.v 9) 1 none), .p (.ldi (.t 0) none), .p (.iad (.t 2) (.t 0) 1), .p (.st (.t 0) (.c (.bool true)) 1)], [], [5, 6], none⟩
abbrev z3fz : Reg := ⟨[.p (.ldi (.v 9) (some 2)), .p (.bld [.int 0, .int 0, .snil] [(0, 2, (.t 0))]), .p (.litm [(.t 0)] (some 3)), .t 0], [(11, 0)], [9], none⟩
abbrev z7z4 : Reg := ⟨[.p (.mv (.c (.int (0))))], [(10, 0)], [], none⟩
abbrev zRAf : Reg := ⟨[.v 10, .v 11, .p (.len (.t 0)), .p (.bin .lss (.t 2) (.t 0))], [], [], some (46, 0)⟩
abbrev zwJo : Reg := ⟨[.v 11, .v 10, .p (.iad (.t 1) (.t 0) 3), .p (.fad (.t 0) 0 (some 2)), .p (.ld (.t 0) (some 2)), .p (.alc0 2), .p (.ini (.t 0) (.t 1) 2)], [(14, 0)], [], none⟩
abbrev zisR : Reg := ⟨[.p (.fad (.v 3) 0 none), .p (.ldi (.t 0) none), .p (.mv (.c (.int (0))))], [(13, 1), (12, 0)], [], none⟩
abbrev zKAX : Reg := ⟨[.p (.bin .lss (.v 12) (.v 13))], [], [], some (57, 0)⟩
abbrev za9s : Reg := ⟨[.v 12, .t 0], [(15, 0)], [], none⟩
abbrev zgbV : Reg := ⟨[.p (.fad (.v 3) 3 none), .p (.ldi (.t 0) none), .p (.fad (.v 14) 0 none), .p (.ldi (.t 0) none), .p (.iad (.t 2) (.t 0) 1), .p (.ldi (.t 0) none), .v 15, .p (.iad (.t 1) (.t 0) 1), .p (.ldi (.t 0) none), .p (.fad (.v 8) 3 none), .p (.ldi (.t 0) none), .p (.fad (.v 14) 1 none), .p (.ldi (.t 0) none), .p (.iad (.t 2) (.t 0) 1), .p (.ldi (.t 0) none), .v 15, .p (.iad (.t 1) (.t 0) 1), .p (.ldi (.t 0) none), .p (.bin .neq (.t 9) (.t 0))], [], [], some (77, 0)⟩
abbrev zqcJ : Reg := ⟨[.v 11, .v 10, .p (.iad (.t 1) (.t 0) 3), .p (.fad (.t 0) 2 none), .p (.ld (.t 0) none), .v 15, .p (.liti [(.t 0)] 1), .p (.liti [(.t 2), (.t 0)] 1), .p (.cal zOq9 [(.t 0)]), .t 0, .p (.mv (.c (.bool true)))], [(17, 1), (18, 0)], [3, 4, 8, 10, 11, 12, 13, 14, 15], none⟩
abbrev z3Cs : Reg := ⟨[.p (.fad (.v 3) 2 none), .p (.ldi (.t 0) none), .p (.fad (.v 14) 0 none), .p (.ldi (.t 0) none), .p (.iad (.t 2) (.t 0) 1), .p (.ldi (.t 0) none), .v 15, .p (.iad (.t 1) (.t 0) 1), .p (.ldi (.t 0) none), .p (.fad (.v 8) 2 none), .p (.ldi (.t 0) none), .p (.fad (.v 14) 1 none), .p (.ldi (.t 0) none), .p (.iad (.t 2) (.t 0) 1), .p (.ldi (.t 0) none), .v 15, .p (.iad (.t 1) (.t 0) 1), .p (.ldi (.t 0) none), .p (.bld [.int 0, .int 0] [(0, 1, (.t 9)), (1, 1, (.t 0))]), .p (.alc0 2), .p (.ini (.t 0) (.t 1) 2)], [(16, 0)], [], none⟩
abbrev zD8U : Reg := ⟨[.p (.ldi (.v 16) (some 2)), .p (.ldi (.v 14) (some 2)), .p (.seq true 2 (.t 1) (.t 0)), .t 0, .x 0 (.mv (.v 4)), .x 1 (.fad (.v 16) 0 none), .x 2 (.ldi (.t 0) none), .x 3 (.iad (.t 2) (.t 0) 1), .x 4 (.ld (.t 0) none), .x 5 (.fad (.v 16) 1 none), .x 6 (.ldi (.t 0) none), .x 7 (.iad (.t 2) (.t 0) 1), .x 8 (.ld (.t 0) none), .x 9 (.not (.t 0)), .p (.pick (.t 10) (.t 0) (.c (.bool false)))], [], [], some (120, 0)⟩
abbrev zbUV : Reg := ⟨[.v 4, .p (.fad (.v 16) 0 none), .p (.ldi (.t 0) none), .p (.iad (.t 2) (.t 0) 1), .p (.ld (.t 0) none), .p (.fad (.v 16) 1 none), .p (.ldi (.t 0) none), .p (.iad (.t 2) (.t 0) 1), .p (.st (.t 0) (.c (.bool true)) 1)], [], [], none⟩
abbrev zquT : Reg := ⟨[.v 11, .p (.ldi (.v 16) (some 2)), .v 11, .v 10, .p (.iad (.t 1) (.t 0) 3), .p (.fad (.t 0) 2 none), .p (.ld (.t 0) none), .v 15, .p (.liti [(.t 0)] 1), .p (.liti [(.t 2), (.t 0)] 1), .p (.cal zOq9 [(.t 0)]), .p (.bld [.int 0, .int 0, .snil] [(0, 2, (.t 9)), (2, 1, (.t 0))]), .p (.lita [(.t 0)] 3), .p (.app (.t 12) (.t 0) (some 3)), .t 0], [(11, 0)], [15, 16], none⟩
abbrev zbjX : Reg := ⟨[.p (.bin .add (.v 12) (.c (.int (1)))), .t 0], [(12, 0)], [15, 16], none⟩
abbrev z7Uv : IC := (.seq (.reg zKAX)
 (.seq (.cond 57 .skip (.exit 4))
 (.seq (.block 5 (.seq (.reg za9s)
 (.seq (.seq (.reg zgbV)
 (.cond 77 (.seq (.reg zqcJ)
 .ret) .skip))
 (.seq (.reg z3Cs)
 (.seq (.reg zD8U)
 (.cond 120 (.seq (.reg zbUV)
 (.reg zquT)) .skip))))))
 (.reg zbjX))))
abbrev ztpx : Reg := ⟨[.v 10, .p (.bin .add (.t 0) (.c (.int (1)))), .t 0], [(10, 0)], [12, 13, 14], none⟩
abbrev zJTr : IC := (.seq (.seq (.reg zRAf)
 (.cond 46 .skip (.exit 2)))
 (.seq (.block 3 (.seq (.reg zwJo)
 (.seq (.reg zisR)
 (.block 4 (.loop z7Uv)))))
 (.reg ztpx)))
abbrev zMsl : Reg := ⟨[.p (.mv (.c (.snil))), .p (.mv (.c (.bool false)))], [(17, 1), (18, 0)], [3, 4, 8, 10, 11], none⟩
abbrev z6dL : Fn := { np := 3, nv := 19, res := [(17, none), (18, none)], body :=
(.seq (.reg zvLK)
 (.seq (.reg zPuL)
 (.seq (.seq (.reg zjLw)
 (.block 0 (.loop zyPq)))
 (.seq (.reg zOip)
 (.seq (.reg z3fz)
 (.seq (.seq (.reg z7z4)
 (.block 2 (.loop zJTr)))
 (.seq (.reg zMsl)
 .ret))))))) }
abbrev z7RB : Reg := ⟨[.p (.mv (.c (.bool false)))], [], [2], none⟩
abbrev zMEv : Reg := ⟨[.v 0, .v 1, .p (.cal z35E [(.t 1), (.t 0)]), .p (.bin .geq (.t 0) (.c (.int (0)))), .t 0], [(2, 0)], [0, 1], none⟩
abbrev z5us : Fn := { np := 2, nv := 3, res := [(2, none)], body :=
(.seq (.reg z7RB)
 (.seq (.reg zMEv)
 .ret)) }
abbrev z5tc : Reg := ⟨[.p (.mv (.c (.bool false)))], [], [2], none⟩
abbrev z50j : Reg := ⟨[.v 0, .p (.ld (.v 1) none), .p (.cal zhAi [(.t 1), (.t 0)]), .t 0], [(2, 0)], [0, 1], none⟩
abbrev znw9 : Fn := { np := 2, nv := 3, res := [(2, none)], body :=
(.seq (.reg z5tc)
 (.seq (.reg z50j)
 .ret)) }
abbrev z8Ee : Reg := ⟨[.p (.mv (.c (.bool false)))], [], [5], none⟩
abbrev zqZP : Reg := ⟨[.v 0, .p (.len (.t 0)), .v 1, .p (.len (.t 0)), .p (.bin .neq (.t 2) (.t 0))], [], [], some (10, 0)⟩
abbrev ziv3 : Reg := ⟨[.p (.mv (.c (.bool false)))], [(5, 0)], [0, 1], none⟩
abbrev z5g9 : Reg := ⟨[.v 0, .p (.len (.t 0)), .p (.mv (.c (.int (0))))], [(3, 1), (2, 0)], [], none⟩
abbrev zjAP : Reg := ⟨[.p (.bin .lss (.v 2) (.v 3))], [], [], some (14, 0)⟩
abbrev z5iJ : Reg := ⟨[.v 2, .t 0], [(4, 0)], [], none⟩
abbrev zR99 : Reg := ⟨[.v 0, .v 4, .p (.iad (.t 1) (.t 0) 1), .p (.ld (.t 0) none), .v 1, .v 4, .p (.iad (.t 1) (.t 0) 1), .p (.ld (.t 0) none), .p (.bin .neq (.t 4) (.t 0))], [], [4], some (24, 0)⟩
abbrev z5F5 : Reg := ⟨[.p (.mv (.c (.bool false)))], [(5, 0)], [0, 1, 2, 3], none⟩
abbrev zd1n : Reg := ⟨[.p (.bin .add (.v 2) (.c (.int (1)))), .t 0], [(2, 0)], [], none⟩
abbrev zJrH : IC := (.seq (.reg zjAP)
 (.seq (.cond 14 .skip (.exit 0))
 (.seq (.block 1 (.seq (.reg z5iJ)
 (.seq (.reg zR99)
 (.cond 24 (.seq (.reg z5F5)
 .ret) .skip))))
 (.reg zd1n))))
abbrev zZLu : Reg := ⟨[.p (.mv (.c (.bool true)))], [(5, 0)], [0, 1, 2, 3], none⟩
abbrev zeGk : Fn := { np := 2, nv := 6, res := [(5, none)], body :=
(.seq (.reg z8Ee)
 (.seq (.seq (.reg zqZP)
 (.cond 10 (.seq (.reg ziv3)
 .ret) .skip))
 (.seq (.seq (.reg z5g9)
 (.block 0 (.loop zJrH)))
 (.seq (.reg zZLu)
 .ret)))) }
abbrev zETy : Reg := ⟨[.p (.bxi (.v 0)), .p (.bxi (.v 1)), .p (.mv (.c (.snil))), .p (.mv (.c (.bool false))), .p (.mv (.c (.int (0))))], [(6, 4), (3, 3)], [0, 1, 12, 13, 14], none⟩
abbrev zdGp : Reg := ⟨[.p (.mkm), .p (.ldi (.v 3) (some 3)), .p (.cal zooT [(.t 0)]), .p (.mup (.t 2) 1 (.t 0) (.c (.bool true))), .t 3, .t 0], [(11, 0)], [], none⟩
abbrev zjJ7 : Reg := ⟨[.p (.ldi (.v 3) (some 3)), .p (.litm [(.t 0)] (some 3)), .t 0], [(5, 0)], [3], none⟩
abbrev znwD : Reg := ⟨[.p (.mv (.c (.int (0))))], [(4, 0)], [], none⟩
abbrev zRqL : Reg := ⟨[.v 4, .v 5, .p (.len (.t 0)), .p (.bin .lss (.t 2) (.t 0))], [], [], some (23, 0)⟩
abbrev zRVf : Reg := ⟨[.v 5, .v 4, .p (.iad (.t 1) (.t 0) 3), .p (.fad (.t 0) 2 none), .p (.ld (.t 0) none), .p (.len (.t 0)), .v 2, .p (.bin .geq (.t 1) (.t 0))], [], [], some (33, 0)⟩
abbrev zWjr : Reg := ⟨[.p (.fad (.v 6) 0 none), .p (.ldi (.t 0) none), .p (.mv (.c (.int (0))))], [(8, 1), (7, 0)], [], none⟩
abbrev zbMY : Reg := ⟨[.p (.bin .lss (.v 7) (.v 8))], [], [], some (37, 0)⟩
abbrev zWvx : Reg := ⟨[.v 7, .t 0], [(9, 0)], [], none⟩
abbrev zkcs : Reg := ⟨[.v 5, .v 4, .p (.iad (.t 1) (.t 0) 3), .p (.ld (.t 0) (some 3)), .p (.ldi (.v 6) (some 4)), .v 9, .p (.cal zH8N [(.t 2), (.t 1), (.t 0)]), .p (.alc0 3), .p (.ini (.t 0) (.t 1) 3)], [(10, 0)], [9], none⟩
abbrev zoWs : Reg := ⟨[.p (.fad (.v 10) 1 none), .p (.ldi (.t 0) none), .p (.len (.t 0)), .p (.bin .eql (.t 0) (.c (.int (0)))), .t 0], [], [], some (46, 0)⟩
abbrev zF3Y : Reg := ⟨[.p (.fad (.v 10) 2 none), .p (.ldi (.t 0) none), .t 0, .p (.mv (.c (.bool true))), .p (.mv (.c (.int (0))))], [(12, 2), (13, 1), (14, 0)], [2, 4, 5, 6, 7, 8, 10, 11], none⟩
abbrev zDiI : Reg := ⟨[.p (.fad (.v 10) 1 none), .p (.ldi (.t 0) none), .p (.fad (.v 10) 0 none), .p (.ldi (.t 0) none), .p (.cal z99Y [(.t 2), (.t 0)]), .t 0, .y 0 (.mv (.v 11)), .y 1 (.ldi (.v 10) (some 3)), .y 2 (.cal zooT [(.t 0)]), .y 3 (.mlk (.t 2) 1 (.t 0) (.bool false) false), .p (.pick (.t 4) (.c (.bool true)) (.t 0)), .t 0], [], [], some (53, 0)⟩
abbrev zGHS : Reg := ⟨[.v 5, .p (.len (.t 0)), .p (.bin .geq (.t 0) (.c (.int (4096)))), .t 0], [], [], some (65, 0)⟩
abbrev zpdk : Reg := ⟨[.p (.mv (.c (.snil))), .p (.mv (.c (.bool false))), .p (.mv (.c (.int (11))))], [(12, 2), (13, 1), (14, 0)], [2, 4, 5, 6, 7, 8, 10, 11], none⟩
abbrev z7QD : Reg := ⟨[.v 11, .p (.ldi (.v 10) (some 3)), .p (.cal zooT [(.t 0)]), .p (.mup (.t 2) 1 (.t 0) (.c (.bool true)))], [], [], none⟩
abbrev z6ZI : Reg := ⟨[.v 5, .p (.ldi (.v 10) (some 3)), .p (.lita [(.t 0)] 3), .p (.appw (.t 2) (.t 0) (some 3)), .t 0], [(5, 0)], [10], none⟩
abbrev zpww : Reg := ⟨[.p (.bin .add (.v 7) (.c (.int (1)))), .t 0], [(7, 0)], [10], none⟩
abbrev zwXM : IC := (.seq (.reg zbMY)
 (.seq (.cond 37 .skip (.exit 2))
 (.seq (.block 3 (.seq (.reg zWvx)
 (.seq (.reg zkcs)
 (.seq (.block 4 (.seq (.reg zoWs)
 (.cond 46 (.seq (.reg zF3Y)
 .ret) (.seq (.reg zDiI)
 (.cond 53 (.exit 3) (.seq (.reg zGHS)
 (.cond 65 (.seq (.reg zpdk)
 .ret) .skip)))))))
 (.seq (.reg z7QD)
 (.reg z6ZI))))))
 (.reg zpww))))
abbrev znYN : Reg := ⟨[.v 4, .p (.bin .add (.t 0) (.c (.int (1)))), .t 0], [(4, 0)], [7, 8], none⟩
abbrev zze0 : IC := (.seq (.seq (.reg zRqL)
 (.cond 23 .skip (.exit 0)))
 (.seq (.block 1 (.seq (.seq (.reg zRVf)
 (.cond 33 (.exit 1) .skip))
 (.seq (.reg zWjr)
 (.block 2 (.loop zwXM)))))
 (.reg znYN)))
abbrev zB5N : Reg := ⟨[.p (.mv (.c (.snil))), .p (.mv (.c (.bool false))), .p (.mv (.c (.int (0))))], [(12, 2), (13, 1), (14, 0)], [2, 4, 5, 6, 11], none⟩
abbrev z12j : Fn := { np := 3, nv := 15, res := [(12, none), (13, none), (14, none)], body :=
(.seq (.reg zETy)
 (.seq (.reg zdGp)
 (.seq (.reg zjJ7)
 (.seq (.seq (.reg znwD)
 (.block 0 (.loop zze0)))
 (.seq (.reg zB5N)
 .ret))))) }
abbrev zk2f : Reg := ⟨[.p (.bxi (.v 0)), .p (.mv (.c (.bool false)))], [(1, 1)], [0, 4], none⟩
abbrev zNlq : Reg := ⟨[.p (.ldi (.v 1) (some 4)), .p (.cal zLwh [(.t 0)]), .p (.bin .neq (.t 0) (.c (.int (0)))), .t 0, .y 0 (.ldi (.v 1) (some 4)), .y 1 (.cal z68i [(.t 0)]), .y 2 (.len (.t 0)), .y 3 (.fad (.v 1) 2 none), .y 4 (.ldi (.t 0) none), .y 5 (.len (.t 0)), .y 6 (.bin .neq (.t 3) (.t 0)), .p (.pick (.t 7) (.c (.bool true)) (.t 0))], [], [], some (16, 0)⟩
abbrev zcOh : Reg := ⟨[.p (.mv (.c (.bool false)))], [(4, 0)], [1], none⟩
abbrev zpFB : Reg := ⟨[.p (.ldi (.v 1) (some 4)), .p (.cal zZIi [(.t 0)]), .t 0, .p (.ext (.t 0) 0), .p (.ext (.t 1) 1), .p (.alc0 4), .p (.ini (.t 0) (.t 2) 4), .t 2], [(3, 1), (2, 0)], [], none⟩
abbrev zPpX : Reg := ⟨[.v 2, .p (.bin .eql (.t 0) (.c (.int (0)))), .t 0, .x 0 (.fad (.v 3) 2 none), .x 1 (.ldi (.t 0) none), .x 2 (.len (.t 0)), .x 3 (.fad (.v 1) 2 none), .x 4 (.ldi (.t 0) none), .x 5 (.len (.t 0)), .x 6 (.bin .eql (.t 3) (.t 0)), .p (.pick (.t 7) (.t 0) (.c (.bool false))), .t 0], [(4, 0)], [1, 2, 3], none⟩
abbrev z3MD : Fn := { np := 1, nv := 5, res := [(4, none)], body :=
(.seq (.reg zk2f)
 (.seq (.seq (.reg zNlq)
 (.cond 16 (.seq (.reg zcOh)
 .ret) .skip))
 (.seq (.reg zpFB)
 (.seq (.reg zPpX)
 .ret)))) }
abbrev zP5w : Reg := ⟨[.p (.mv (.c (.bool false)))], [], [6], none⟩
abbrev zp4K : Reg := ⟨[.v 0, .p (.len (.t 0)), .p (.mv (.c (.int (0))))], [(4, 2), (3, 1), (2, 0)], [0], none⟩
abbrev zvwG : Reg := ⟨[.p (.bin .lss (.v 2) (.v 3))], [], [], some (10, 0)⟩
abbrev zNVN : Reg := ⟨[.p (.iad (.v 4) (.v 2) 1), .p (.ld (.t 0) none), .t 0], [(5, 0)], [], none⟩
abbrev zmIa : Reg := ⟨[.v 1, .v 5, .p (.cald (.t 1) [(.t 0)])], [], [5], some (15, 0)⟩
abbrev zCy3 : Reg := ⟨[.p (.mv (.c (.bool true)))], [(6, 0)], [1, 2, 3, 4], none⟩
abbrev zP3f : Reg := ⟨[.p (.bin .add (.v 2) (.c (.int (1)))), .t 0], [(2, 0)], [], none⟩
abbrev zTdZ : IC := (.seq (.reg zvwG)
 (.seq (.cond 10 .skip (.exit 0))
 (.seq (.block 1 (.seq (.reg zNVN)
 (.seq (.reg zmIa)
 (.cond 15 (.seq (.reg zCy3)
 .ret) .skip))))
 (.reg zP3f))))
abbrev zlKo : Reg := ⟨[.p (.mv (.c (.bool false)))], [(6, 0)], [1, 2, 3, 4], none⟩
abbrev zP6F : Fn := { np := 2, nv := 7, res := [(6, none)], body :=
(.seq (.reg zP5w)
 (.seq (.seq (.reg zp4K)
 (.block 0 (.loop zTdZ)))
 (.seq (.reg zlKo)
 .ret))) }
abbrev zmPR : Reg := ⟨[.p (.mv (.c (.bool false)))], [], [4], none⟩
abbrev zjZr : Reg := ⟨[.p (.ld (.v 1) (some 4)), .p (.ld (.v 2) none), .v 0, .p (.cal zvbW [(.t 2), (.t 1), (.t 0)]), .p (.ld (.v 1) (some 4)), .p (.ld (.v 3) none), .v 0, .p (.cal zvbW [(.t 2), (.t 1), (.t 0)]), .p (.cal zhAi [(.t 4), (.t 0)]), .p (.not (.t 0)), .t 0], [(4, 0)], [0, 1, 2, 3], none⟩
abbrev zry3 : Fn := { np := 4, nv := 5, res := [(4, none)], body :=
(.seq (.reg zmPR)
 (.seq (.reg zjZr)
 .ret)) }
abbrev z5XO : Reg := ⟨[.p (.bxi (.v 0)), .p (.mv (.c (.snil)))], [(7, 1)], [0, 9], none⟩
abbrev zy8a : Reg := ⟨[.v 2, .p (.len (.t 0)), .p (.mks (.c (.int (0))) (.t 0) [.int 0] none), .t 0], [(6, 0)], [], none⟩
abbrev z6qq : Reg := ⟨[.v 2, .p (.len (.t 0)), .p (.mv (.c (.int (0))))], [(5, 2), (4, 1), (3, 0)], [2], none⟩
abbrev zrnT : Reg := ⟨[.p (.bin .lss (.v 3) (.v 4))], [], [], some (16, 0)⟩
abbrev zpGT : Reg := ⟨[.p (.iad (.v 5) (.v 3) 1), .p (.ld (.t 0) none), .t 0], [(8, 0)], [], none⟩
abbrev z9eU : Reg := ⟨[.v 6, .p (.fad (.v 7) 3 none), .p (.ldi (.t 0) none), .v 1, .p (.iad (.t 1) (.t 0) 1), .p (.ldi (.t 0) none), .v 8, .p (.iad (.t 1) (.t 0) 1), .p (.ldi (.t 0) none), .p (.lita [(.t 0)] 1), .p (.appw (.t 9) (.t 0) none), .t 0], [(6, 0)], [], none⟩
abbrev zZd6 : Reg := ⟨[.p (.fad (.v 7) 2 none), .p (.ldi (.t 0) none), .v 1, .p (.iad (.t 1) (.t 0) 1), .p (.ldi (.t 0) none), .v 8, .p (.iad (.t 1) (.t 0) 1), .p (.ldi (.t 0) none), .t 0], [(1, 0)], [8], none⟩
abbrev zvkG : Reg := ⟨[.p (.bin .add (.v 3) (.c (.int (1)))), .t 0], [(3, 0)], [], none⟩
abbrev zXpG : IC := (.seq (.reg zrnT)
 (.seq (.cond 16 .skip (.exit 0))
 (.seq (.block 1 (.seq (.reg zpGT)
 (.seq (.reg z9eU)
 (.reg zZd6))))
 (.reg zvkG))))
abbrev ze48 : Reg := ⟨[.v 6, .t 0], [(9, 0)], [1, 3, 4, 5, 6, 7], none⟩
abbrev zdNW : Fn := { np := 3, nv := 10, res := [(9, none)], body :=
(.seq (.reg z5XO)
 (.seq (.reg zy8a)
 (.seq (.seq (.reg z6qq)
 (.block 0 (.loop zXpG)))
 (.seq (.reg ze48)
 .ret)))) }
abbrev z2YX : Reg := ⟨[.p (.bxi (.v 0)), .p (.mv (.c (.bool false)))], [(4, 1)], [0, 5], none⟩
abbrev zQF9 : Reg := ⟨[.p (.ldi (.v 4) (some 4)), .v 1, .v 3, .p (.cal zQBQ [(.t 2), (.t 1), (.t 0)]), .p (.ldi (.v 4) (some 4)), .v 2, .v 3, .p (.cal zQBQ [(.t 2), (.t 1), (.t 0)]), .p (.cal zyDr [(.t 4), (.t 0)]), .p (.not (.t 0)), .t 0], [(5, 0)], [1, 2, 3, 4], none⟩
abbrev zL9H : Fn := { np := 4, nv := 6, res := [(5, none)], body :=
(.seq (.reg z2YX)
 (.seq (.reg zQF9)
 .ret)) }
abbrev zSRS : Reg := ⟨[.p (.bxi (.v 0)), .p (.bxi (.v 1)), .p (.mv (.c (.snil))), .p (.mv (.c (.bool false)))], [(7, 3), (8, 2)], [0, 1, 14, 15], none⟩
abbrev zQxn : Reg := ⟨[.v 2, .v 3, .p (.bld [.int 0, .int 0, .snil] [(0, 1, (.t 1)), (1, 1, (.t 0))]), .p (.litm [(.t 0)] (some 3)), .t 0], [(5, 0)], [2, 3], none⟩
abbrev zaxh : Reg := ⟨[.p (.mv (.c (.int (0))))], [(4, 0)], [], none⟩
abbrev zpCE : Reg := ⟨[.v 4, .v 5, .p (.len (.t 0)), .p (.bin .lss (.t 2) (.t 0))], [], [], some (25, 0)⟩
abbrev zcC6 : Reg := ⟨[.p (.mv (.c (.int (0))))], [(6, 0)], [], none⟩
abbrev zz9I : Reg := ⟨[.v 6, .p (.fad (.v 7) 0 none), .p (.ldi (.t 0) none), .p (.bin .lss (.t 2) (.t 0))], [], [], some (31, 0)⟩
abbrev z2uL : Reg := ⟨[.v 5, .v 4, .p (.iad (.t 1) (.t 0) 3), .p (.fad (.t 0) 2 none), .p (.ld (.t 0) none), .v 6, .p (.cal zioN [(.t 1), (.t 0)]), .t 0], [(9, 0)], [], none⟩
abbrev zzDJ : Reg := ⟨[.p (.fad (.v 7) 3 none), .p (.ldi (.t 0) none), .v 5, .v 4, .p (.iad (.t 1) (.t 0) 3), .p (.fad (.t 0) 0 none), .p (.ld (.t 0) none), .p (.iad (.t 5) (.t 0) 1), .p (.ldi (.t 0) none), .v 6, .p (.iad (.t 1) (.t 0) 1), .p (.ldi (.t 0) none), .p (.fad (.v 8) 3 none), .p (.ldi (.t 0) none), .v 5, .v 4, .p (.iad (.t 1) (.t 0) 3), .p (.fad (.t 0) 1 none), .p (.ld (.t 0) none), .p (.iad (.t 5) (.t 0) 1), .p (.ldi (.t 0) none), .v 6, .p (.iad (.t 1) (.t 0) 1), .p (.ldi (.t 0) none), .p (.bin .neq (.t 12) (.t 0))], [], [], some (65, 0)⟩
abbrev zuyr : Reg := ⟨[.v 9, .t 0, .p (.mv (.c (.bool true)))], [(14, 1), (15, 0)], [4, 5, 6, 7, 8, 9], none⟩
abbrev z07x : Reg := ⟨[.p (.fad (.v 7) 2 none), .p (.ldi (.t 0) none), .v 5, .v 4, .p (.iad (.t 1) (.t 0) 3), .p (.fad (.t 0) 0 none), .p (.ld (.t 0) none), .p (.iad (.t 5) (.t 0) 1), .p (.ldi (.t 0) none), .v 6, .p (.iad (.t 1) (.t 0) 1), .p (.ldi (.t 0) none), .p (.fad (.v 8) 2 none), .p (.ldi (.t 0) none), .v 5, .v 4, .p (.iad (.t 1) (.t 0) 3), .p (.fad (.t 0) 1 none), .p (.ld (.t 0) none), .p (.iad (.t 5) (.t 0) 1), .p (.ldi (.t 0) none), .v 6, .p (.iad (.t 1) (.t 0) 1), .p (.ldi (.t 0) none), .t 12, .t 1], [(12, 1), (13, 0)], [], none⟩
abbrev zmjo : Reg := ⟨[.p (.mv (.c (.bool false)))], [(11, 0)], [], none⟩
abbrev zmLk : Reg := ⟨[.p (.mv (.c (.int (0))))], [(10, 0)], [], none⟩
abbrev z6X0 : Reg := ⟨[.v 10, .v 5, .p (.len (.t 0)), .p (.bin .lss (.t 2) (.t 0))], [], [], some (94, 0)⟩
abbrev zrrY : Reg := ⟨[.v 11, .t 0, .y 0 (.mv (.v 5)), .y 1 (.mv (.v 10)), .y 2 (.iad (.t 1) (.t 0) 3), .y 3 (.fad (.t 0) 0 none), .y 4 (.ld (.t 0) none), .y 5 (.mv (.v 12)), .y 6 (.bin .eql (.t 1) (.t 0)), .y 7 (.mv (.t 0)), .x 0 (.mv (.v 5)), .x 1 (.mv (.v 10)), .x 2 (.iad (.t 1) (.t 0) 3), .x 3 (.fad (.t 0) 1 none), .x 4 (.ld (.t 0) none), .x 5 (.mv (.v 13)), .x 6 (.bin .eql (.t 1) (.t 0)), .y 15 (.pick (.t 7) (.t 0) (.c (.bool false))), .p (.pick (.t 16) (.c (.bool true)) (.t 0)), .t 0], [(11, 0)], [], none⟩
abbrev zMH7 : Reg := ⟨[.v 10, .p (.bin .add (.t 0) (.c (.int (1)))), .t 0], [(10, 0)], [], none⟩
abbrev zSzM : IC := (.seq (.seq (.reg z6X0)
 (.cond 94 .skip (.exit 4)))
 (.seq (.block 5 (.reg zrrY))
 (.reg zMH7)))
abbrev zQyy : Reg := ⟨[.v 11, .p (.not (.t 0))], [], [10, 11], some (117, 0)⟩
abbrev zbQL : Reg := ⟨[.v 5, .v 12, .v 13, .v 9, .p (.bld [.int 0, .int 0, .snil] [(0, 1, (.t 2)), (1, 1, (.t 1)), (2, 1, (.t 0))]), .p (.lita [(.t 0)] 3), .p (.appw (.t 5) (.t 0) (some 3)), .t 0], [(5, 0)], [9, 12, 13], none⟩
abbrev z3Gg : Reg := ⟨[.v 6, .p (.bin .add (.t 0) (.c (.int (1)))), .t 0], [(6, 0)], [9, 12, 13], none⟩
abbrev zGPF : IC := (.seq (.seq (.reg zz9I)
 (.cond 31 .skip (.exit 2)))
 (.seq (.block 3 (.seq (.reg z2uL)
 (.seq (.seq (.reg zzDJ)
 (.cond 65 (.seq (.reg zuyr)
 .ret) .skip))
 (.seq (.reg z07x)
 (.seq (.reg zmjo)
 (.seq (.seq (.reg zmLk)
 (.block 4 (.loop zSzM)))
 (.seq (.reg zQyy)
 (.cond 117 (.reg zbQL) .skip))))))))
 (.reg z3Gg)))
abbrev zwhU : Reg := ⟨[.v 4, .p (.bin .add (.t 0) (.c (.int (1)))), .t 0], [(4, 0)], [6], none⟩
abbrev zLwA : IC := (.seq (.seq (.reg zpCE)
 (.cond 25 .skip (.exit 0)))
 (.seq (.block 1 (.seq (.reg zcC6)
 (.block 2 (.loop zGPF))))
 (.reg zwhU)))
abbrev zQ7R : Reg := ⟨[.p (.mv (.c (.snil))), .p (.mv (.c (.bool false)))], [(14, 1), (15, 0)], [4, 5, 7, 8], none⟩
abbrev zW9Q : Fn := { np := 4, nv := 16, res := [(14, none), (15, none)], body :=
(.seq (.reg zSRS)
 (.seq (.reg zQxn)
 (.seq (.seq (.reg zaxh)
 (.block 0 (.loop zLwA)))
 (.seq (.reg zQ7R)
 .ret)))) }
abbrev zdqR : Reg := ⟨[.p (.mv (.c (.snil)))], [], [4], none⟩
abbrev zoSN : Reg := ⟨[.v 0, .v 1, .p (.cab zt89 [(.t 1), (.t 0)]), .t 0], [(2, 0)], [], none⟩
abbrev zSVJ : Reg := ⟨[.v 2, .v 0, .p (.len (.t 0)), .p (.bin .lss (.t 2) (.t 0)), .t 0, .x 0 (.mv (.v 0)), .x 1 (.mv (.v 2)), .x 2 (.iad (.t 1) (.t 0) 1), .x 3 (.ld (.t 0) none), .x 4 (.mv (.v 1)), .x 5 (.cab zA97 [(.t 1), (.t 0)]), .p (.pick (.t 6) (.t 0) (.c (.bool false)))], [], [], some (21, 0)⟩
abbrev zYjJ : Reg := ⟨[.v 0, .t 0], [(4, 0)], [0, 1, 2], none⟩
abbrev zD6l : Reg := ⟨[.v 0, .p (.lita [(.c (.snil))] 1), .p (.appw (.t 1) (.t 0) none), .t 0], [(0, 0)], [], none⟩
abbrev zIHl : Reg := ⟨[.v 0, .p (.len (.t 0)), .p (.bin .sub (.t 0) (.c (.int (1)))), .t 0], [(3, 0)], [], none⟩
abbrev zb0z : Reg := ⟨[.v 3, .v 2, .p (.bin .gtr (.t 1) (.t 0))], [], [], some (31, 0)⟩
abbrev zHcJ : Reg := ⟨[.v 0, .v 3, .v 0, .v 3, .p (.bin .sub (.t 0) (.c (.int (1)))), .p (.iad (.t 2) (.t 0) 1), .p (.ld (.t 0) none), .p (.iad (.t 6) (.t 5) 1), .p (.st (.t 0) (.t 1) 1)], [], [], none⟩
abbrev zfOe : Reg := ⟨[.v 3, .p (.bin .sub (.t 0) (.c (.int (1)))), .t 0], [(3, 0)], [], none⟩
abbrev zQzB : IC := (.seq (.seq (.reg zb0z)
 (.cond 31 .skip (.exit 0)))
 (.seq (.block 1 (.reg zHcJ))
 (.reg zfOe)))
abbrev zOsP : Reg := ⟨[.v 0, .v 2, .p (.lita [] 1), .v 1, .p (.appw (.t 1) (.t 0) none), .p (.iad (.t 4) (.t 3) 1), .p (.st (.t 0) (.t 1) 1)], [], [1, 2, 3], none⟩
abbrev zDvN : Reg := ⟨[.v 0, .t 0], [(4, 0)], [0], none⟩
abbrev zR9Y : Fn := { np := 2, nv := 5, res := [(4, none)], body :=
(.seq (.reg zdqR)
 (.seq (.reg zoSN)
 (.seq (.seq (.reg zSVJ)
 (.cond 21 (.seq (.reg zYjJ)
 .ret) .skip))
 (.seq (.reg zD6l)
 (.seq (.seq (.reg zIHl)
 (.block 0 (.loop zQzB)))
 (.seq (.reg zOsP)
 (.seq (.reg zDvN)
 .ret))))))) }
abbrev zZWo : Reg := ⟨[.p (.bxi (.v 0)), .p (.mv (.c (.int (0))))], [(2, 1)], [0, 4], none⟩
abbrev zCQh : Reg := ⟨[.p (.fad (.v 2) 2 none), .p (.ldi (.t 0) none), .v 1, .p (.iad (.t 1) (.t 0) 1), .p (.ldi (.t 0) none), .p (.len (.t 0)), .p (.fad (.v 2) 0 none), .p (.ldi (.t 0) none), .p (.bin .neq (.t 2) (.t 0)), .t 0, .y 0 (.fad (.v 2) 3 none), .y 1 (.ldi (.t 0) none), .y 2 (.mv (.v 1)), .y 3 (.iad (.t 1) (.t 0) 1), .y 4 (.ldi (.t 0) none), .y 5 (.len (.t 0)), .y 6 (.fad (.v 2) 0 none), .y 7 (.ldi (.t 0) none), .y 8 (.bin .neq (.t 2) (.t 0)), .p (.pick (.t 9) (.c (.bool true)) (.t 0))], [], [], some (25, 0)⟩
abbrev zSio : Reg := ⟨[.p (.mv (.c (.int (1))))], [(4, 0)], [1, 2], none⟩
abbrev zyWa : Reg := ⟨[.p (.mv (.c (.int (0))))], [(3, 0)], [], none⟩
abbrev zDmS : Reg := ⟨[.v 3, .p (.fad (.v 2) 0 none), .p (.ldi (.t 0) none), .p (.bin .lss (.t 2) (.t 0))], [], [], some (29, 0)⟩
abbrev zaEL : Reg := ⟨[.p (.fad (.v 2) 2 none), .p (.ldi (.t 0) none), .v 1, .p (.iad (.t 1) (.t 0) 1), .p (.ldi (.t 0) none), .v 3, .p (.iad (.t 1) (.t 0) 1), .p (.ldi (.t 0) none), .p (.bin .lss (.t 0) (.c (.int (0)))), .t 0, .y 0 (.fad (.v 2) 2 none), .y 1 (.ldi (.t 0) none), .y 2 (.mv (.v 1)), .y 3 (.iad (.t 1) (.t 0) 1), .y 4 (.ldi (.t 0) none), .y 5 (.mv (.v 3)), .y 6 (.iad (.t 1) (.t 0) 1), .y 7 (.ldi (.t 0) none), .y 8 (.fad (.v 2) 2 none), .y 9 (.ldi (.t 0) none), .y 10 (.len (.t 0)), .y 11 (.bin .geq (.t 3) (.t 0)), .p (.pick (.t 12) (.c (.bool true)) (.t 0)), .t 0, .y 0 (.fad (.v 2) 3 none), .y 1 (.ldi (.t 0) none), .y 2 (.mv (.v 1)), .y 3 (.iad (.t 1) (.t 0) 1), .y 4 (.ldi (.t 0) none), .y 5 (.mv (.v 3)), .y 6 (.iad (.t 1) (.t 0) 1), .y 7 (.ldi (.t 0) none), .y 8 (.bin .lss (.t 0) (.c (.int (0)))), .p (.pick (.t 9) (.c (.bool true)) (.t 0)), .t 0, .y 0 (.fad (.v 2) 3 none), .y 1 (.ldi (.t 0) none), .y 2 (.mv (.v 1)), .y 3 (.iad (.t 1) (.t 0) 1), .y 4 (.ldi (.t 0) none), .y 5 (.mv (.v 3)), .y 6 (.iad (.t 1) (.t 0) 1), .y 7 (.ldi (.t 0) none), .y 8 (.bin .gtr (.t 0) (.c (.int (1048576)))), .p (.pick (.t 9) (.c (.bool true)) (.t 0))], [], [], some (76, 0)⟩
abbrev z4fz : Reg := ⟨[.p (.mv (.c (.int (2))))], [(4, 0)], [1, 2, 3], none⟩
abbrev z3ix : Reg := ⟨[.v 3, .p (.bin .add (.t 0) (.c (.int (1)))), .t 0], [(3, 0)], [], none⟩
abbrev zRRQ : IC := (.seq (.seq (.reg zDmS)
 (.cond 29 .skip (.exit 0)))
 (.seq (.block 1 (.seq (.reg zaEL)
 (.cond 76 (.seq (.reg z4fz)
 .ret) .skip)))
 (.reg z3ix)))
abbrev zdHL : Reg := ⟨[.p (.mv (.c (.int (0))))], [(4, 0)], [1, 2, 3], none⟩
abbrev z8PT : Fn := { np := 2, nv := 5, res := [(4, none)], body :=
(.seq (.reg zZWo)
 (.seq (.seq (.reg zCQh)
 (.cond 25 (.seq (.reg zSio)
 .ret) .skip))
 (.seq (.seq (.reg zyWa)
 (.block 0 (.loop zRRQ)))
 (.seq (.reg zdHL)
 .ret)))) }
abbrev zSfU : Reg := ⟨[.p (.bxi (.v 0)), .p (.alc [.int 0, .int 0, .snil, .snil] (some 4)), .p (.mv (.c (.int (0))))], [(1, 2), (3, 1)], [0, 14], none⟩
abbrev zo5o : Reg := ⟨[.p (.ldi (.v 1) (some 4)), .p (.cal z2RE [(.t 0)]), .t 0, .p (.ext (.t 0) 0), .p (.ext (.t 1) 1), .t 1, .t 1], [(6, 1), (2, 0)], [], none⟩
abbrev z4wA : Reg := ⟨[.v 2, .p (.bin .neq (.t 0) (.c (.int (0))))], [], [], some (21, 0)⟩
abbrev zImk : Reg := ⟨[.p (.bld [.int 0, .int 0, .snil, .snil] []), .v 2, .p (.st (.v 3) (.t 1) 4), .t 1], [(14, 0)], [1, 2, 6], none⟩
abbrev zhuC : Reg := ⟨[.p (.fad (.v 1) 1 none), .p (.ldi (.t 0) none), .p (.litm [(.t 0)] none), .t 0], [(8, 0)], [2], none⟩
abbrev zZxP : Reg := ⟨[.p (.fad (.v 1) 2 none), .p (.ldi (.t 0) none), .p (.len (.t 0)), .p (.mks (.t 0) (.t 0) [.int 0] none), .t 0], [(5, 0)], [], none⟩
abbrev zczJ : Reg := ⟨[.p (.mv (.c (.int (0))))], [(4, 0)], [], none⟩
abbrev zygL : Reg := ⟨[.v 4, .v 5, .p (.len (.t 0)), .p (.bin .lss (.t 2) (.t 0))], [], [], some (34, 0)⟩
abbrev zkRr : Reg := ⟨[.v 5, .v 4, .p (.iad (.t 1) (.t 0) 1), .p (.st (.t 0) (.c (.int (-1))) 1)], [], [], none⟩
abbrev zHPK : Reg := ⟨[.v 4, .p (.bin .add (.t 0) (.c (.int (1)))), .t 0], [(4, 0)], [], none⟩
abbrev zMx3 : IC := (.seq (.seq (.reg zygL)
 (.cond 34 .skip (.exit 0)))
 (.seq (.block 1 (.reg zkRr))
 (.reg zHPK)))
abbrev z4am : Reg := ⟨[.v 5, .v 6, .p (.fad (.v 1) 1 none), .p (.ldi (.t 0) none), .p (.iad (.t 2) (.t 0) 1), .p (.ld (.t 0) none), .p (.iad (.t 5) (.t 0) 1), .p (.st (.t 0) (.c (.int (0))) 1)], [], [4], none⟩
abbrev zkdY : Reg := ⟨[.p (.fad (.v 1) 0 none), .p (.ldi (.t 0) none), .p (.bld [.int 0, .int 0, .snil, .snil] [(0, 1, (.t 0))]), .p (.alc [.int 0, .int 0, .snil, .snil] (some 4)), .p (.st (.t 0) (.t 1) 4)], [(13, 1)], [], none⟩
abbrev zwuL : Reg := ⟨[.p (.mv (.c (.int (0))))], [(7, 0)], [], none⟩
abbrev zTUf : Reg := ⟨[.v 7, .v 8, .p (.len (.t 0)), .p (.bin .lss (.t 2) (.t 0))], [], [], some (53, 0)⟩
abbrev zrls : Reg := ⟨[.p (.nl none), .p (.nl none)], [(11, 1), (12, 0)], [], none⟩
abbrev zHOG : Reg := ⟨[.p (.mv (.c (.int (0))))], [(9, 0)], [], none⟩
abbrev zDJT : Reg := ⟨[.v 9, .p (.fad (.v 1) 0 none), .p (.ldi (.t 0) none), .p (.bin .lss (.t 2) (.t 0))], [], [], some (59, 0)⟩
abbrev zsoT : Reg := ⟨[.p (.fad (.v 1) 2 none), .p (.ldi (.t 0) none), .v 8, .v 7, .p (.iad (.t 1) (.t 0) 1), .p (.ld (.t 0) none), .p (.iad (.t 4) (.t 0) 1), .p (.ldi (.t 0) none), .v 9, .p (.iad (.t 1) (.t 0) 1), .p (.ldi (.t 0) none), .t 0], [(10, 0)], [], none⟩
abbrev zZRs : Reg := ⟨[.v 5, .v 6, .v 10, .p (.iad (.t 1) (.t 0) 1), .p (.ld (.t 0) none), .p (.iad (.t 4) (.t 0) 1), .p (.ld (.t 0) none), .p (.bin .lss (.t 0) (.c (.int (0))))], [], [], some (80, 0)⟩
abbrev zLon : Reg := ⟨[.v 5, .v 6, .v 10, .p (.iad (.t 1) (.t 0) 1), .p (.ld (.t 0) none), .v 8, .p (.len (.t 0)), .p (.iad (.t 6) (.t 2) 1), .p (.st (.t 0) (.t 1) 1)], [], [], none⟩
abbrev zryC : Reg := ⟨[.v 8, .v 10, .p (.lita [(.t 0)] 1), .p (.appw (.t 2) (.t 0) none), .t 0], [(8, 0)], [], none⟩
abbrev zklk : Reg := ⟨[.v 11, .v 5, .v 6, .v 10, .p (.iad (.t 1) (.t 0) 1), .p (.ld (.t 0) none), .p (.iad (.t 4) (.t 0) 1), .p (.ld (.t 0) none), .p (.lita [(.t 0)] 1), .p (.appw (.t 8) (.t 0) none), .t 0], [(11, 0)], [10], none⟩
abbrev znIR : Reg := ⟨[.v 12, .p (.fad (.v 1) 3 none), .p (.ldi (.t 0) none), .v 8, .v 7, .p (.iad (.t 1) (.t 0) 1), .p (.ld (.t 0) none), .p (.iad (.t 4) (.t 0) 1), .p (.ldi (.t 0) none), .v 9, .p (.iad (.t 1) (.t 0) 1), .p (.ldi (.t 0) none), .p (.lita [(.t 0)] 1), .p (.app (.t 12) (.t 0) none), .t 0], [(12, 0)], [], none⟩
abbrev zstC : Reg := ⟨[.v 9, .p (.bin .add (.t 0) (.c (.int (1)))), .t 0], [(9, 0)], [], none⟩
abbrev zbwn : IC := (.seq (.seq (.reg zDJT)
 (.cond 59 .skip (.exit 4)))
 (.seq (.block 5 (.seq (.reg zsoT)
 (.seq (.seq (.reg zZRs)
 (.cond 80 (.seq (.reg zLon)
 (.reg zryC)) .skip))
 (.seq (.reg zklk)
 (.reg znIR)))))
 (.reg zstC)))
abbrev zkha : Reg := ⟨[.p (.fad (.v 13) 2 none), .p (.ld (.t 0) none), .v 11, .p (.lita [(.t 0)] 1), .p (.appw (.t 2) (.t 0) none), .p (.fad (.v 13) 2 none), .p (.st (.t 0) (.t 1) 1)], [], [9, 11], none⟩
abbrev zdDr : Reg := ⟨[.p (.fad (.v 13) 3 none), .p (.ld (.t 0) none), .v 12, .p (.lita [(.t 0)] 1), .p (.appw (.t 2) (.t 0) none), .p (.fad (.v 13) 3 none), .p (.st (.t 0) (.t 1) 1)], [], [12], none⟩
abbrev zTsV : Reg := ⟨[.v 7, .p (.bin .add (.t 0) (.c (.int (1)))), .t 0], [(7, 0)], [], none⟩
abbrev zdVn : IC := (.seq (.seq (.reg zTUf)
 (.cond 53 .skip (.exit 2)))
 (.seq (.block 3 (.seq (.reg zrls)
 (.seq (.seq (.reg zHOG)
 (.block 4 (.loop zbwn)))
 (.seq (.reg zkha)
 (.reg zdDr)))))
 (.reg zTsV)))
abbrev zSbT : Reg := ⟨[.p (.ld (.v 13) (some 4)), .p (.st (.v 3) (.t 0) 4), .p (.mv (.c (.int (0))))], [(14, 0)], [1, 5, 6, 7, 8, 13], none⟩
abbrev zwnq : Fn := { np := 1, nv := 15, res := [(3, some (some 4)), (14, none)], body :=
(.seq (.reg zSfU)
 (.seq (.reg zo5o)
 (.seq (.seq (.reg z4wA)
 (.cond 21 (.seq (.reg zImk)
 .ret) .skip))
 (.seq (.reg zhuC)
 (.seq (.reg zZxP)
 (.seq (.seq (.reg zczJ)
 (.block 0 (.loop zMx3)))
 (.seq (.reg z4am)
 (.seq (.reg zkdY)
 (.seq (.seq (.reg zwuL)
 (.block 2 (.loop zdVn)))
 (.seq (.reg zSbT)
 .ret)))))))))) }
abbrev zwgO : Reg := ⟨[.p (.mv (.c (.bool false)))], [], [1], none⟩
abbrev zKQK : Reg := ⟨[.v 0, .p (.bin .geq (.t 0) (.c (.int (1)))), .t 0, .x 0 (.mv (.v 0)), .x 1 (.bin .leq (.t 0) (.c (.int (1024)))), .p (.pick (.t 2) (.t 0) (.c (.bool false))), .t 0], [(1, 0)], [0], none⟩
abbrev zwWD : Fn := { np := 1, nv := 2, res := [(1, none)], body :=
(.seq (.reg zwgO)
 (.seq (.reg zKQK)
 .ret)) }
abbrev zZKl : Reg := ⟨[.p (.mv (.c (.bool false)))], [], [2], none⟩
abbrev zkoo : Reg := ⟨[.v 0, .v 1, .p (.cal z2JZ [(.t 1), (.t 0)]), .p (.bin .geq (.t 0) (.c (.int (0)))), .t 0], [(2, 0)], [0, 1], none⟩
abbrev zVqq : Fn := { np := 2, nv := 3, res := [(2, none)], body :=
(.seq (.reg zZKl)
 (.seq (.reg zkoo)
 .ret)) }
abbrev zFED : Reg := ⟨[.p (.mv (.c (.bool false)))], [], [2], none⟩
abbrev z4ll : Reg := ⟨[.v 0, .p (.bin .lss (.t 0) (.c (.int (0)))), .t 0, .y 0 (.mv (.v 0)), .y 1 (.ld (.v 1) none), .y 2 (.bin .geq (.t 1) (.t 0)), .p (.pick (.t 3) (.c (.bool true)) (.t 0)), .t 0], [(2, 0)], [0, 1], none⟩
abbrev zqiS : Fn := { np := 2, nv := 3, res := [(2, none)], body :=
(.seq (.reg zFED)
 (.seq (.reg z4ll)
 .ret)) }
abbrev zDBg : Reg := ⟨[.p (.mv (.c (.snil)))], [], [1], none⟩
abbrev zN2U : Reg := ⟨[.v 0, .p (.bnl false (.t 0))], [], [], some (4, 0)⟩
abbrev zqju : Reg := ⟨[.p (.mv (.c (.snil)))], [(1, 0)], [0], none⟩
abbrev znPy : Reg := ⟨[.p (.lita [] 1), .v 0, .p (.appw (.t 1) (.t 0) none), .t 0], [(1, 0)], [0], none⟩
abbrev zNcg : Fn := { np := 1, nv := 2, res := [(1, none)], body :=
(.seq (.reg zDBg)
 (.seq (.seq (.reg zN2U)
 (.cond 4 (.seq (.reg zqju)
 .ret) .skip))
 (.seq (.reg znPy)
 .ret))) }
abbrev zpBr : Reg := ⟨[.p (.mv (.c (.snil)))], [], [5], none⟩
abbrev z3nm : Reg := ⟨[.v 0, .p (.len (.t 0)), .p (.bin .lss (.t 0) (.c (.int (2))))], [], [], some (10, 0)⟩
abbrev zcNv : Reg := ⟨[.v 0, .t 0], [(5, 0)], [0, 1], none⟩
abbrev zMhA : Reg := ⟨[.p (.mv (.c (.int (1))))], [(2, 0)], [], none⟩
abbrev z68B : Reg := ⟨[.v 2, .v 0, .p (.len (.t 0)), .p (.bin .lss (.t 2) (.t 0))], [], [], some (15, 0)⟩
abbrev zDRc : Reg := ⟨[.v 1, .v 0, .v 2, .p (.iad (.t 1) (.t 0) 1), .p (.ld (.t 0) none), .v 0, .v 2, .p (.bin .sub (.t 0) (.c (.int (1)))), .p (.iad (.t 2) (.t 0) 1), .p (.ld (.t 0) none), .p (.cald (.t 9) [(.t 5), (.t 0)])], [], [], some (28, 0)⟩
abbrev zIKz : Reg := ⟨[.v 0, .v 2, .p (.slc (.t 1) (some (.t 0)) none 1), .t 0], [(4, 0)], [], none⟩
abbrev zX6C : Reg := ⟨[.p (.mv (.c (.int (1))))], [(3, 0)], [], none⟩
abbrev zggg : Reg := ⟨[.v 3, .v 4, .p (.len (.t 0)), .p (.bin .lss (.t 2) (.t 0))], [], [], some (35, 0)⟩
abbrev zCmW : Reg := ⟨[.v 1, .v 4, .v 3, .p (.iad (.t 1) (.t 0) 1), .p (.ld (.t 0) none), .v 4, .v 3, .p (.bin .sub (.t 0) (.c (.int (1)))), .p (.iad (.t 2) (.t 0) 1), .p (.ld (.t 0) none), .p (.cald (.t 9) [(.t 5), (.t 0)]), .p (.not (.t 0))], [], [], some (49, 0)⟩
abbrev zpYJ : Reg := ⟨[.v 0, .v 2, .v 4, .v 3, .p (.iad (.t 1) (.t 0) 1), .p (.ld (.t 0) none), .p (.iad (.t 5) (.t 4) 1), .p (.st (.t 0) (.t 1) 1)], [], [], none⟩
abbrev z6mP : Reg := ⟨[.v 2, .p (.bin .add (.t 0) (.c (.int (1)))), .t 0], [(2, 0)], [], none⟩
abbrev znyq : Reg := ⟨[.v 3, .p (.bin .add (.t 0) (.c (.int (1)))), .t 0], [(3, 0)], [], none⟩
abbrev zMob : IC := (.seq (.seq (.reg zggg)
 (.cond 35 .skip (.exit 2)))
 (.seq (.block 3 (.seq (.reg zCmW)
 (.cond 49 (.seq (.reg zpYJ)
 (.reg z6mP)) .skip)))
 (.reg znyq)))
abbrev zRGF : Reg := ⟨[.v 0, .v 2, .p (.slc (.t 1) (some (.t 0)) none 1), .p (.clr (.t 0) [.snil] none)], [], [1, 3, 4], none⟩
abbrev zoPp : Reg := ⟨[.v 0, .v 2, .p (.slc (.t 1) none (some (.t 0)) 1), .t 0], [(5, 0)], [0, 2], none⟩
abbrev zc4Z : Reg := ⟨[.v 2, .p (.bin .add (.t 0) (.c (.int (1)))), .t 0], [(2, 0)], [], none⟩
abbrev z9X0 : IC := (.seq (.seq (.reg z68B)
 (.cond 15 .skip (.exit 0)))
 (.seq (.block 1 (.seq (.reg zDRc)
 (.cond 28 (.seq (.reg zIKz)
 (.seq (.seq (.reg zX6C)
 (.block 2 (.loop zMob)))
 (.seq (.reg zRGF)
 (.seq (.reg zoPp)
 .ret)))) .skip)))
 (.reg zc4Z)))
abbrev zOD3 : Reg := ⟨[.v 0, .t 0], [(5, 0)], [0, 1, 2], none⟩
abbrev z9et : Fn := { np := 2, nv := 6, res := [(5, none)], body :=
(.seq (.reg zpBr)
 (.seq (.seq (.reg z3nm)
 (.cond 10 (.seq (.reg zcNv)
 .ret) .skip))
 (.seq (.seq (.reg zMhA)
 (.block 0 (.loop z9X0)))
 (.seq (.reg zOD3)
 .ret)))) }
abbrev zdhd : Reg := ⟨[.p (.mv (.c (.bool false)))], [], [3], none⟩
abbrev zWnY : Reg := ⟨[.p (.ld (.v 2) none), .v 0, .v 1, .p (.cald (.t 2) [(.t 1), (.t 0)]), .p (.bin .eql (.t 0) (.c (.int (0)))), .t 0], [(3, 0)], [0, 1, 2], none⟩
abbrev zGVN : Fn := { np := 3, nv := 4, res := [(3, none)], body :=
(.seq (.reg zdhd)
 (.seq (.reg zWnY)
 .ret)) }
abbrev zXcd : Reg := ⟨[.p (.mv (.c (.snil)))], [], [1], none⟩
abbrev z27K : Reg := ⟨[.v 0, .p (.bnl false (.t 0))], [], [], some (4, 0)⟩
abbrev z7Ba : Reg := ⟨[.p (.mv (.c (.snil)))], [(1, 0)], [0], none⟩
abbrev z3Ub : Reg := ⟨[.p (.lita [] 1), .v 0, .p (.appw (.t 1) (.t 0) none), .t 0], [(1, 0)], [0], none⟩
abbrev zhOv : Fn := { np := 1, nv := 2, res := [(1, none)], body :=
(.seq (.reg zXcd)
 (.seq (.seq (.reg z27K)
 (.cond 4 (.seq (.reg z7Ba)
 .ret) .skip))
 (.seq (.reg z3Ub)
 .ret))) }
abbrev zNtH : Reg := ⟨[.p (.mv (.c (.int (0))))], [], [6], none⟩
abbrev z4Rp : Reg := ⟨[.p (.mv (.c (.int (0))))], [(5, 0)], [], none⟩
abbrev z9js : Reg := ⟨[.v 0, .p (.len (.t 0)), .p (.mv (.c (.int (0))))], [(3, 2), (2, 1), (1, 0)], [0], none⟩
abbrev zikf : Reg := ⟨[.p (.bin .lss (.v 1) (.v 2))], [], [], some (9, 0)⟩
abbrev zvsP : Reg := ⟨[.p (.iad (.v 3) (.v 1) 1), .p (.ld (.t 0) none), .t 0], [(4, 0)], [], none⟩
abbrev zvbz : Reg := ⟨[.v 4, .v 5, .p (.bin .neq (.t 1) (.t 0))], [], [], some (14, 0)⟩
abbrev zsk6 : Reg := ⟨[.v 4, .t 0], [(6, 0)], [1, 2, 3, 4, 5], none⟩
abbrev zSOS : Reg := ⟨[.p (.bin .add (.v 1) (.c (.int (1)))), .t 0], [(1, 0)], [4], none⟩
abbrev z6JD : IC := (.seq (.reg zikf)
 (.seq (.cond 9 .skip (.exit 0))
 (.seq (.block 1 (.seq (.reg zvsP)
 (.seq (.reg zvbz)
 (.cond 14 (.seq (.reg zsk6)
 .ret) .skip))))
 (.reg zSOS))))
abbrev z3yt : Reg := ⟨[.v 5, .t 0], [(6, 0)], [1, 2, 3, 5], none⟩
abbrev zcfm : Fn := { np := 1, nv := 7, res := [(6, none)], body :=
(.seq (.reg zNtH)
 (.seq (.reg z4Rp)
 (.seq (.seq (.reg z9js)
 (.block 0 (.loop z6JD)))
 (.seq (.reg z3yt)
 .ret)))) }
abbrev zCuc : Reg := ⟨[.p (.mv (.c (.int (0))))], [], [4], none⟩
abbrev z49w : Reg := ⟨[.v 0, .p (.cal zPpc [(.t 0)]), .t 0], [(2, 0)], [], none⟩
abbrev zYPE : Reg := ⟨[.v 1, .p (.cal zPpc [(.t 0)]), .t 0], [(3, 0)], [], none⟩
abbrev zRT4 : Reg := ⟨[.v 2], [], [2], some (11, 0)⟩
abbrev zoHH : Reg := ⟨[.v 3], [], [0, 1, 3], some (12, 0)⟩
abbrev z7NO : Reg := ⟨[.p (.mv (.c (.int (0))))], [(4, 0)], [], none⟩
abbrev zNvs : Reg := ⟨[.p (.mv (.c (.int (-1))))], [(4, 0)], [], none⟩
abbrev zdFc : Reg := ⟨[.v 3], [], [3], some (13, 0)⟩
abbrev z112 : Reg := ⟨[.p (.mv (.c (.int (1))))], [(4, 0)], [0, 1], none⟩
abbrev z0A4 : Reg := ⟨[.v 0, .v 1, .p (.bin .lss (.t 1) (.t 0))], [], [], some (16, 0)⟩
abbrev zTI3 : Reg := ⟨[.p (.mv (.c (.int (-1))))], [(4, 0)], [0, 1], none⟩
abbrev z6qc : Reg := ⟨[.v 0, .v 1, .p (.bin .gtr (.t 1) (.t 0))], [], [0, 1], some (19, 0)⟩
abbrev zNr8 : Reg := ⟨[.p (.mv (.c (.int (1))))], [(4, 0)], [], none⟩
abbrev zNvz : Reg := ⟨[.p (.mv (.c (.int (0))))], [(4, 0)], [], none⟩
abbrev zT7H : Fn := { np := 2, nv := 5, res := [(4, none)], body :=
(.seq (.reg zCuc)
 (.seq (.reg z49w)
 (.seq (.reg zYPE)
 (.seq (.seq (.reg zRT4)
 (.cond 11 (.seq (.seq (.reg zoHH)
 (.cond 12 (.seq (.reg z7NO)
 .ret) .skip))
 (.seq (.reg zNvs)
 .ret)) .skip))
 (.seq (.seq (.reg zdFc)
 (.cond 13 (.seq (.reg z112)
 .ret) .skip))
 (.seq (.seq (.reg z0A4)
 (.cond 16 (.seq (.reg zTI3)
 .ret) .skip))
 (.seq (.seq (.reg z6qc)
 (.cond 19 (.seq (.reg zNr8)
 .ret) .skip))
 (.seq (.reg zNvz)
 .ret)))))))) }
abbrev zh1n : Reg := ⟨[.p (.mv (.c (.int (0))))], [], [9], none⟩
abbrev zXSU : Reg := ⟨[.v 0, .p (.len (.t 0)), .p (.mv (.c (.int (0))))], [(4, 2), (3, 1), (2, 0)], [], none⟩
abbrev zJBW : Reg := ⟨[.p (.bin .lss (.v 2) (.v 3))], [], [], some (12, 0)⟩
abbrev z5O5 : Reg := ⟨[.v 2, .p (.iad (.v 4) (.v 2) 1), .p (.ld (.t 0) none), .t 2, .t 1], [(5, 1), (6, 0)], [], none⟩
abbrev zZFb : Reg := ⟨[.v 5, .v 1, .p (.len (.t 0)), .p (.bin .geq (.t 2) (.t 0))], [], [], some (19, 0)⟩
abbrev zWbs : Reg := ⟨[.p (.mv (.c (.int (1))))], [(9, 0)], [0, 1, 2, 3, 4, 5, 6], none⟩
abbrev zSEj : Reg := ⟨[.v 1, .v 5, .p (.iad (.t 1) (.t 0) 1), .p (.ld (.t 0) none), .t 0], [(7, 0)], [5], none⟩
abbrev zgi5 : Reg := ⟨[.v 6, .v 7, .p (.cal zb3m [(.t 1), (.t 0)]), .t 0], [(8, 0)], [6, 7], none⟩
abbrev zeB5 : Reg := ⟨[.v 8, .p (.bin .neq (.t 0) (.c (.int (0))))], [], [], some (28, 0)⟩
abbrev z2El : Reg := ⟨[.v 8, .t 0], [(9, 0)], [0, 1, 2, 3, 4, 8], none⟩
abbrev zdJO : Reg := ⟨[.p (.bin .add (.v 2) (.c (.int (1)))), .t 0], [(2, 0)], [8], none⟩
abbrev zdGf : IC := (.seq (.reg zJBW)
 (.seq (.cond 12 .skip (.exit 0))
 (.seq (.block 1 (.seq (.reg z5O5)
 (.seq (.seq (.reg zZFb)
 (.cond 19 (.seq (.reg zWbs)
 .ret) .skip))
 (.seq (.reg zSEj)
 (.seq (.reg zgi5)
 (.seq (.reg zeB5)
 (.cond 28 (.seq (.reg z2El)
 .ret) .skip)))))))
 (.reg zdJO))))
abbrev zmFB : Reg := ⟨[.v 0, .p (.len (.t 0)), .v 1, .p (.len (.t 0)), .p (.bin .lss (.t 2) (.t 0))], [], [0, 1, 2, 3, 4], some (35, 0)⟩
abbrev z8VQ : Reg := ⟨[.p (.mv (.c (.int (-1))))], [(9, 0)], [], none⟩
abbrev zei3 : Reg := ⟨[.p (.mv (.c (.int (0))))], [(9, 0)], [], none⟩
abbrev zKR3 : Fn := { np := 2, nv := 10, res := [(9, none)], body :=
(.seq (.reg zh1n)
 (.seq (.seq (.reg zXSU)
 (.block 0 (.loop zdGf)))
 (.seq (.seq (.reg zmFB)
 (.cond 35 (.seq (.reg z8VQ)
 .ret) .skip))
 (.seq (.reg zei3)
 .ret)))) }
abbrev zJYB : Reg := ⟨[.p (.mv (.c (.snil)))], [], [1], none⟩
abbrev z6hN : Reg := ⟨[.v 0, .p (.cal zxg8 [(.t 0)]), .t 0], [(1, 0)], [0], none⟩
abbrev zmdt : Fn := { np := 1, nv := 2, res := [(1, none)], body :=
(.seq (.reg zJYB)
 (.seq (.reg z6hN)
 .ret)) }
abbrev zCoJ : Reg := ⟨[.p (.mv (.c (.int (0))))], [], [5], none⟩
abbrev zndJ : Reg := ⟨[.v 0, .p (.len (.t 0)), .p (.mv (.c (.int (0))))], [(3, 1), (2, 0)], [], none⟩
abbrev zqZo : Reg := ⟨[.p (.bin .lss (.v 2) (.v 3))], [], [], some (9, 0)⟩
abbrev zUDe : Reg := ⟨[.v 2, .t 0], [(4, 0)], [], none⟩
abbrev zgjs : Reg := ⟨[.v 1, .v 0, .v 4, .p (.iad (.t 1) (.t 0) 1), .p (.ld (.t 0) none), .p (.cald (.t 4) [(.t 0)])], [], [], some (16, 0)⟩
abbrev zXwm : Reg := ⟨[.v 4, .t 0], [(5, 0)], [0, 1, 2, 3, 4], none⟩
abbrev zJuR : Reg := ⟨[.p (.bin .add (.v 2) (.c (.int (1)))), .t 0], [(2, 0)], [4], none⟩
abbrev zXwt : IC := (.seq (.reg zqZo)
 (.seq (.cond 9 .skip (.exit 0))
 (.seq (.block 1 (.seq (.reg zUDe)
 (.seq (.reg zgjs)
 (.cond 16 (.seq (.reg zXwm)
 .ret) .skip))))
 (.reg zJuR))))
abbrev z1sR : Reg := ⟨[.p (.mv (.c (.int (-1))))], [(5, 0)], [0, 1, 2, 3], none⟩
abbrev z7X7 : Fn := { np := 2, nv := 6, res := [(5, none)], body :=
(.seq (.reg zCoJ)
 (.seq (.seq (.reg zndJ)
 (.block 0 (.loop zXwt)))
 (.seq (.reg z1sR)
 .ret))) }
abbrev zMmg : Reg := ⟨[.p (.bxi (.v 0)), .p (.mv (.c (.str [])))], [(1, 1)], [0, 7], none⟩
abbrev zXzv : Reg := ⟨[.p (.fad (.v 1) 0 none), .p (.ldi (.t 0) none), .p (.cv8 (.t 0)), .p (.litm [(.t 0)] none), .t 0], [(5, 0)], [], none⟩
abbrev zVuo : Reg := ⟨[.p (.fad (.v 1) 1 none), .p (.ldi (.t 0) none), .p (.len (.t 0)), .p (.mv (.c (.int (0))))], [(4, 2), (3, 1), (2, 0)], [1], none⟩
abbrev zXS1 : Reg := ⟨[.p (.bin .lss (.v 2) (.v 3))], [], [], some (14, 0)⟩
abbrev zAUy : Reg := ⟨[.p (.iad (.v 4) (.v 2) 1), .p (.ld (.t 0) none), .t 0], [(6, 0)], [], none⟩
abbrev zCIn : Reg := ⟨[.v 5, .v 6, .p (.cv8 (.t 0)), .p (.lita [(.t 0)] 1), .p (.appw (.t 3) (.t 0) none), .t 0], [(5, 0)], [6], none⟩
abbrev zZzn : Reg := ⟨[.p (.bin .add (.v 2) (.c (.int (1)))), .t 0], [(2, 0)], [], none⟩
abbrev zlus : IC := (.seq (.reg zXS1)
 (.seq (.cond 14 .skip (.exit 0))
 (.seq (.block 1 (.seq (.reg zAUy)
 (.reg zCIn)))
 (.reg zZzn))))
abbrev zcSt : Reg := ⟨[.v 5, .p (.sob (.t 0)), .t 0], [(7, 0)], [2, 3, 4, 5], none⟩
abbrev zb4p : Fn := { np := 1, nv := 8, res := [(7, none)], body :=
(.seq (.reg zMmg)
 (.seq (.reg zXzv)
 (.seq (.seq (.reg zVuo)
 (.block 0 (.loop zlus)))
 (.seq (.reg zcSt)
 .ret)))) }
abbrev zFSP : Reg := ⟨[.p (.bxi (.v 0)), .p (.bxi (.v 1)), .p (.alc [.int 0, .snil, .snil] (some 3))], [(4, 2), (3, 1), (10, 0)], [0, 1], none⟩
abbrev ztT5 : Reg := ⟨[.p (.fad (.v 3) 2 none), .p (.ldi (.t 0) none), .p (.fad (.v 4) 0 none), .p (.ldi (.t 0) none), .p (.iad (.t 2) (.t 0) 1), .p (.ldi (.t 0) none), .v 2, .p (.iad (.t 1) (.t 0) 1), .p (.ldi (.t 0) none), .p (.fad (.v 4) 2 none), .p (.ldi (.t 0) none), .v 2, .p (.liti [(.t 0)] 1), .p (.liti [(.t 2), (.t 0)] 1), .p (.cal zOq9 [(.t 0)]), .p (.bld [.int 0, .snil, .snil] [(0, 1, (.t 6)), (2, 1, (.t 0))]), .p (.alc [.int 0, .snil, .snil] (some 3)), .p (.st (.t 0) (.t 1) 3)], [(9, 1)], [], none⟩
abbrev zOdF : Reg := ⟨[.p (.fad (.v 4) 1 none), .p (.ldi (.t 0) none), .p (.len (.t 0)), .p (.mv (.c (.int (0))))], [(7, 2), (6, 1), (5, 0)], [], none⟩
abbrev zIlP : Reg := ⟨[.p (.bin .lss (.v 5) (.v 6))], [], [], some (30, 0)⟩
abbrev zT95 : Reg := ⟨[.p (.iad (.v 7) (.v 5) 1), .p (.ld (.t 0) none), .t 0], [(8, 0)], [], none⟩
abbrev zyEJ : Reg := ⟨[.p (.fad (.v 3) 3 none), .p (.ldi (.t 0) none), .v 8, .p (.iad (.t 1) (.t 0) 1), .p (.ldi (.t 0) none), .v 2, .p (.iad (.t 1) (.t 0) 1), .p (.ldi (.t 0) none), .p (.fad (.v 3) 3 none), .p (.ldi (.t 0) none), .p (.fad (.v 4) 0 none), .p (.ldi (.t 0) none), .p (.iad (.t 2) (.t 0) 1), .p (.ldi (.t 0) none), .v 2, .p (.iad (.t 1) (.t 0) 1), .p (.ldi (.t 0) none), .p (.bin .eql (.t 9) (.t 0))], [], [], some (50, 0)⟩
abbrev zTbJ : Reg := ⟨[.p (.fad (.v 9) 1 none), .p (.ld (.t 0) none), .p (.fad (.v 3) 2 none), .p (.ldi (.t 0) none), .v 8, .p (.iad (.t 1) (.t 0) 1), .p (.ldi (.t 0) none), .v 2, .p (.iad (.t 1) (.t 0) 1), .p (.ldi (.t 0) none), .p (.lita [(.t 0)] 1), .p (.app (.t 9) (.t 0) none), .p (.fad (.v 9) 1 none), .p (.st (.t 0) (.t 1) 1)], [], [8], none⟩
abbrev zbEk : Reg := ⟨[.p (.bin .add (.v 5) (.c (.int (1)))), .t 0], [(5, 0)], [8], none⟩
abbrev zyn0 : IC := (.seq (.reg zIlP)
 (.seq (.cond 30 .skip (.exit 0))
 (.seq (.block 1 (.seq (.reg zT95)
 (.seq (.reg zyEJ)
 (.cond 50 (.reg zTbJ) .skip))))
 (.reg zbEk))))
abbrev zyxa : Reg := ⟨[.p (.fad (.v 9) 1 none), .p (.ld (.t 0) none), .p (.cam zTrs [(.t 0)])], [], [2, 3, 4, 5, 6, 7], none⟩
abbrev zvZb : Reg := ⟨[.p (.fad (.v 9) 1 none), .p (.ld (.t 0) none), .p (.cam zMnE [(.t 0)]), .p (.fad (.v 9) 1 none), .p (.st (.t 0) (.t 1) 1)], [], [], none⟩
abbrev z567 : Reg := ⟨[.p (.ld (.v 9) (some 3)), .p (.st (.v 10) (.t 0) 3)], [], [9], none⟩
abbrev zR6C : Fn := { np := 3, nv := 11, res := [(10, some (some 3))], body :=
(.seq (.reg zFSP)
 (.seq (.reg ztT5)
 (.seq (.seq (.reg zOdF)
 (.block 0 (.loop zyn0)))
 (.seq (.reg zyxa)
 (.seq (.reg zvZb)
 (.seq (.reg z567)
 .ret)))))) }
abbrev zlQx : Reg := ⟨[.p (.mv (.c (.bool false)))], [], [2], none⟩
abbrev zAYT : Reg := ⟨[.v 0, .v 1, .p (.cal zZZJ [(.t 1), (.t 0)]), .p (.bin .geq (.t 0) (.c (.int (0)))), .t 0], [(2, 0)], [0, 1], none⟩
abbrev z6OA : Fn := { np := 2, nv := 3, res := [(2, none)], body :=
(.seq (.reg zlQx)
 (.seq (.reg zAYT)
 .ret)) }
abbrev zwI4 : Reg := ⟨[.p (.bxi (.v 0)), .p (.mv (.c (.snil)))], [(1, 1)], [0, 9], none⟩
abbrev zdfl : Reg := ⟨[.p (.ldi (.v 1) (some 4)), .p (.cal zLwh [(.t 0)]), .p (.bin .neq (.t 0) (.c (.int (0))))], [], [], some (10, 0)⟩
abbrev zcfB : Reg := ⟨[.p (.mv (.c (.snil)))], [(9, 0)], [1], none⟩
abbrev zTcW : Reg := ⟨[.p (.fad (.v 1) 2 none), .p (.ldi (.t 0) none), .p (.len (.t 0)), .p (.mks (.t 0) (.t 0) [.bool false] none), .t 0], [(2, 0)], [], none⟩
abbrev zW0s : Reg := ⟨[.v 2, .p (.fad (.v 1) 1 none), .p (.ldi (.t 0) none), .p (.iad (.t 2) (.t 0) 1), .p (.st (.t 0) (.c (.bool true)) 1)], [], [], none⟩
abbrev z3fv : Reg := ⟨[.p (.fad (.v 1) 1 none), .p (.ldi (.t 0) none), .p (.litm [(.t 0)] none), .t 0], [(4, 0)], [], none⟩
abbrev zH7c : Reg := ⟨[.p (.mv (.c (.int (0))))], [(3, 0)], [], none⟩
abbrev zBDV : Reg := ⟨[.v 3, .v 4, .p (.len (.t 0)), .p (.bin .lss (.t 2) (.t 0))], [], [], some (25, 0)⟩
abbrev zFxH : Reg := ⟨[.p (.fad (.v 1) 2 none), .p (.ldi (.t 0) none), .v 4, .v 3, .p (.iad (.t 1) (.t 0) 1), .p (.ld (.t 0) none), .p (.iad (.t 4) (.t 0) 1), .p (.ldi (.t 0) none), .p (.len (.t 0)), .p (.mv (.c (.int (0))))], [(7, 2), (6, 1), (5, 0)], [], none⟩
abbrev zgqu : Reg := ⟨[.p (.bin .lss (.v 5) (.v 6))], [], [], some (38, 0)⟩
abbrev z2bk : Reg := ⟨[.p (.iad (.v 7) (.v 5) 1), .p (.ld (.t 0) none), .t 0], [(8, 0)], [], none⟩
abbrev z7nd : Reg := ⟨[.v 2, .v 8, .p (.iad (.t 1) (.t 0) 1), .p (.ld (.t 0) none), .p (.not (.t 0))], [], [], some (45, 0)⟩
abbrev zn1p : Reg := ⟨[.v 2, .v 8, .p (.iad (.t 1) (.t 0) 1), .p (.st (.t 0) (.c (.bool true)) 1)], [], [], none⟩
abbrev zGcy : Reg := ⟨[.v 4, .v 8, .p (.lita [(.t 0)] 1), .p (.appw (.t 2) (.t 0) none), .t 0], [(4, 0)], [8], none⟩
abbrev z2cQ : Reg := ⟨[.p (.bin .add (.v 5) (.c (.int (1)))), .t 0], [(5, 0)], [8], none⟩
abbrev zRZq : IC := (.seq (.reg zgqu)
 (.seq (.cond 38 .skip (.exit 2))
 (.seq (.block 3 (.seq (.reg z2bk)
 (.seq (.reg z7nd)
 (.cond 45 (.seq (.reg zn1p)
 (.reg zGcy)) .skip))))
 (.reg z2cQ))))
abbrev zuxy : Reg := ⟨[.v 3, .p (.bin .add (.t 0) (.c (.int (1)))), .t 0], [(3, 0)], [5, 6, 7], none⟩
abbrev zMlU : IC := (.seq (.seq (.reg zBDV)
 (.cond 25 .skip (.exit 0)))
 (.seq (.block 1 (.seq (.reg zFxH)
 (.block 2 (.loop zRZq))))
 (.reg zuxy)))
abbrev zEl5 : Reg := ⟨[.v 4, .t 0], [(9, 0)], [1, 2, 3, 4], none⟩
abbrev z5ha : Fn := { np := 1, nv := 10, res := [(9, none)], body :=
(.seq (.reg zwI4)
 (.seq (.seq (.reg zdfl)
 (.cond 10 (.seq (.reg zcfB)
 .ret) .skip))
 (.seq (.reg zTcW)
 (.seq (.reg zW0s)
 (.seq (.reg z3fv)
 (.seq (.seq (.reg zH7c)
 (.block 0 (.loop zMlU)))
 (.seq (.reg zEl5)
 .ret))))))) }
abbrev zZQd : Reg := ⟨[.p (.bxi (.v 0)), .p (.alc [.int 0, .int 0, .snil, .snil] (some 4)), .p (.mv (.c (.int (0))))], [(1, 2), (3, 1)], [0, 17], none⟩
abbrev zdcP : Reg := ⟨[.p (.ldi (.v 1) (some 4)), .p (.cal zAqS [(.t 0)]), .t 0, .p (.ext (.t 0) 0), .p (.ext (.t 1) 1), .p (.alc0 4), .p (.ini (.t 0) (.t 2) 4), .t 2], [(4, 1), (2, 0)], [1], none⟩
abbrev zpyU : Reg := ⟨[.v 2, .p (.bin .neq (.t 0) (.c (.int (0))))], [], [], some (19, 0)⟩
abbrev z2Fs : Reg := ⟨[.p (.bld [.int 0, .int 0, .snil, .snil] []), .v 2, .p (.st (.v 3) (.t 1) 4), .t 1], [(17, 0)], [2, 4], none⟩
abbrev z9Kl : Reg := ⟨[.p (.ldi (.v 4) (some 4)), .p (.cal zmq6 [(.t 0)]), .t 0, .p (.ext (.t 0) 0), .p (.ext (.t 1) 1), .t 1, .t 1], [(5, 1), (2, 0)], [], none⟩
abbrev zezm : Reg := ⟨[.v 2, .p (.bin .neq (.t 0) (.c (.int (0))))], [], [], some (28, 0)⟩
abbrev zbsq : Reg := ⟨[.p (.bld [.int 0, .int 0, .snil, .snil] []), .v 2, .p (.st (.v 3) (.t 1) 4), .t 1], [(17, 0)], [2, 4, 5], none⟩
abbrev zItd : Reg := ⟨[.p (.fad (.v 4) 0 none), .p (.ldi (.t 0) none), .p (.bld [.int 0, .int 0, .snil, .snil] [(0, 1, (.t 0))]), .p (.alc [.int 0, .int 0, .snil, .snil] (some 4)), .p (.st (.t 0) (.t 1) 4)], [(10, 1)], [2], none⟩
abbrev zgZ6 : Reg := ⟨[.v 5, .p (.len (.t 0)), .p (.mv (.c (.int (0))))], [(8, 2), (7, 1), (6, 0)], [], none⟩
abbrev ziNb : Reg := ⟨[.p (.bin .lss (.v 6) (.v 7))], [], [], some (37, 0)⟩
abbrev zFMR : Reg := ⟨[.v 6, .p (.iad (.v 8) (.v 6) 1), .p (.ld (.t 0) none), .t 2, .t 1], [(11, 1), (9, 0)], [], none⟩
abbrev zfIR : Reg := ⟨[.v 9, .p (.fad (.v 10) 2 none), .p (.ld (.t 0) none), .p (.len (.t 0)), .p (.bin .lss (.t 3) (.t 0))], [], [9], some (45, 0)⟩
abbrev zaAC : Reg := ⟨[.p (.nl none)], [(15, 0)], [], none⟩
abbrev z6gj : Reg := ⟨[.p (.fad (.v 4) 2 none), .p (.ldi (.t 0) none), .v 11, .p (.iad (.t 1) (.t 0) 1), .p (.ldi (.t 0) none), .p (.len (.t 0)), .p (.mv (.c (.int (0))))], [(14, 2), (13, 1), (12, 0)], [], none⟩
abbrev zLxy : Reg := ⟨[.p (.bin .lss (.v 12) (.v 13))], [], [], some (53, 0)⟩
abbrev zKOI : Reg := ⟨[.p (.iad (.v 14) (.v 12) 1), .p (.ld (.t 0) none), .t 0], [(16, 0)], [], none⟩
abbrev zygf : Reg := ⟨[.v 15, .v 5, .v 16, .p (.iad (.t 1) (.t 0) 1), .p (.ld (.t 0) none), .p (.lita [(.t 0)] 1), .p (.appw (.t 5) (.t 0) none), .t 0], [(15, 0)], [16], none⟩
abbrev zSxe : Reg := ⟨[.p (.bin .add (.v 12) (.c (.int (1)))), .t 0], [(12, 0)], [], none⟩
abbrev zEWE : IC := (.seq (.reg zLxy)
 (.seq (.cond 53 .skip (.exit 2))
 (.seq (.block 3 (.seq (.reg zKOI)
 (.reg zygf)))
 (.reg zSxe))))
abbrev zUYw : Reg := ⟨[.p (.fad (.v 10) 2 none), .p (.ld (.t 0) none), .v 15, .p (.lita [(.t 0)] 1), .p (.appw (.t 2) (.t 0) none), .p (.fad (.v 10) 2 none), .p (.st (.t 0) (.t 1) 1)], [], [12, 13, 14, 15], none⟩
abbrev zdMH : Reg := ⟨[.p (.fad (.v 10) 3 none), .p (.ld (.t 0) none), .p (.lita [] 1), .p (.fad (.v 4) 3 none), .p (.ldi (.t 0) none), .v 11, .p (.iad (.t 1) (.t 0) 1), .p (.ldi (.t 0) none), .p (.app (.t 5) (.t 0) none), .p (.lita [(.t 0)] 1), .p (.app (.t 8) (.t 0) none), .p (.fad (.v 10) 3 none), .p (.st (.t 0) (.t 1) 1)], [], [11], none⟩
abbrev zQsZ : Reg := ⟨[.p (.bin .add (.v 6) (.c (.int (1)))), .t 0], [(6, 0)], [11], none⟩
abbrev zPK7 : IC := (.seq (.reg ziNb)
 (.seq (.cond 37 .skip (.exit 0))
 (.seq (.block 1 (.seq (.reg zFMR)
 (.seq (.seq (.reg zfIR)
 (.cond 45 (.exit 1) .skip))
 (.seq (.reg zaAC)
 (.seq (.seq (.reg z6gj)
 (.block 2 (.loop zEWE)))
 (.seq (.reg zUYw)
 (.reg zdMH)))))))
 (.reg zQsZ))))
abbrev zyYx : Reg := ⟨[.p (.ld (.v 10) (some 4)), .p (.st (.v 3) (.t 0) 4), .p (.mv (.c (.int (0))))], [(17, 0)], [4, 5, 6, 7, 8, 10], none⟩
abbrev ztnr : Fn := { np := 1, nv := 18, res := [(3, some (some 4)), (17, none)], body :=
(.seq (.reg zZQd)
 (.seq (.reg zdcP)
 (.seq (.seq (.reg zpyU)
 (.cond 19 (.seq (.reg z2Fs)
 .ret) .skip))
 (.seq (.reg z9Kl)
 (.seq (.seq (.reg zezm)
 (.cond 28 (.seq (.reg zbsq)
 .ret) .skip))
 (.seq (.reg zItd)
 (.seq (.seq (.reg zgZ6)
 (.block 0 (.loop zPK7)))
 (.seq (.reg zyYx)
 .ret)))))))) }
abbrev zqYq : Reg := ⟨[.p (.bxi (.v 0)), .p (.mv (.c (.snil)))], [(3, 1)], [0, 5], none⟩
abbrev zP66 : Reg := ⟨[.p (.ldi (.v 3) (some 4)), .v 1, .v 2, .p (.cal zMrO [(.t 2), (.t 1), (.t 0)]), .t 0, .p (.ext (.t 0) 0), .p (.ext (.t 1) 1), .p (.ext (.t 2) 2), .t 2, .t 2, .t 2], [(4, 2)], [1, 2, 3], none⟩
abbrev zKxV : Reg := ⟨[.v 4, .t 0], [(5, 0)], [4], none⟩
abbrev zAhe : Fn := { np := 3, nv := 6, res := [(5, none)], body :=
(.seq (.reg zqYq)
 (.seq (.reg zP66)
 (.seq (.reg zKxV)
 .ret))) }
abbrev zW1b : Reg := ⟨[.p (.mv (.c (.snil)))], [], [3], none⟩
abbrev z0vx : Reg := ⟨[.p (.nl none)], [(2, 0)], [], none⟩
abbrev zyXd : Reg := ⟨[.v 2, .v 0, .p (.appw (.t 1) (.t 0) none), .t 0], [(2, 0)], [0], none⟩
abbrev zYbO : Reg := ⟨[.v 2, .v 1, .p (.lita [(.t 0)] 1), .p (.appw (.t 2) (.t 0) none), .t 0], [(2, 0)], [1], none⟩
abbrev z460 : Reg := ⟨[.v 2, .t 0], [(3, 0)], [2], none⟩
abbrev zeRp : Fn := { np := 2, nv := 4, res := [(3, none)], body :=
(.seq (.reg zW1b)
 (.seq (.reg z0vx)
 (.seq (.reg zyXd)
 (.seq (.reg zYbO)
 (.seq (.reg z460)
 .ret))))) }
abbrev zYsN : Reg := ⟨[.p (.mv (.c (.int (0))))], [], [5], none⟩
abbrev ziid : Reg := ⟨[.v 0, .p (.len (.t 0)), .p (.mv (.c (.int (0)))), .t 1], [(2, 1), (3, 0)], [], none⟩
abbrev zwwf : Reg := ⟨[.v 2, .v 3, .p (.bin .lss (.t 1) (.t 0))], [], [], some (12, 0)⟩
abbrev zb1W : Reg := ⟨[.v 2, .v 3, .p (.bin .add (.t 1) (.t 0)), .p (.bin .quo (.t 0) (.c (.int (2)))), .t 0], [(4, 0)], [], none⟩
abbrev zoQv : Reg := ⟨[.v 0, .v 4, .p (.iad (.t 1) (.t 0) 1), .p (.ld (.t 0) none), .v 1, .p (.cal zIk1 [(.t 1), (.t 0)]), .p (.bin .lss (.t 0) (.c (.int (0))))], [], [], some (23, 0)⟩
abbrev zRM3 : Reg := ⟨[.v 4, .p (.bin .add (.t 0) (.c (.int (1)))), .t 0], [(2, 0)], [4], none⟩
abbrev zv8M : Reg := ⟨[.v 4, .t 0], [(3, 0)], [4], none⟩
abbrev zKtK : IC := (.seq (.seq (.reg zwwf)
 (.cond 12 .skip (.exit 0)))
 (.block 1 (.seq (.reg zb1W)
 (.seq (.reg zoQv)
 (.cond 23 (.reg zRM3) (.reg zv8M))))))
abbrev zqT8 : Reg := ⟨[.v 2, .t 0], [(5, 0)], [0, 1, 2, 3], none⟩
abbrev zdcT : Fn := { np := 2, nv := 6, res := [(5, none)], body :=
(.seq (.reg zYsN)
 (.seq (.reg ziid)
 (.seq (.block 0 (.loop zKtK))
 (.seq (.reg zqT8)
 .ret)))) }
abbrev zKPC : Reg := ⟨[.p (.mv (.c (.bool false)))], [], [2], none⟩
abbrev zu0S : Reg := ⟨[.v 0, .p (.len (.t 0)), .v 1, .p (.len (.t 0)), .p (.bin .eql (.t 2) (.t 0)), .t 0, .x 0 (.mv (.v 0)), .x 1 (.mv (.v 1)), .x 2 (.cal zy97 [(.t 1), (.t 0)]), .x 3 (.mv (.v 0)), .x 4 (.len (.t 0)), .x 5 (.bin .eql (.t 2) (.t 0)), .p (.pick (.t 6) (.t 0) (.c (.bool false))), .t 0], [(2, 0)], [0, 1], none⟩
abbrev zGc0 : Fn := { np := 2, nv := 3, res := [(2, none)], body :=
(.seq (.reg zKPC)
 (.seq (.reg zu0S)
 .ret)) }
abbrev zpSA : Reg := ⟨[.p (.bxi (.v 0)), .p (.mv (.c (.snil))), .p (.mv (.c (.int (0))))], [(1, 2)], [0, 2, 3], none⟩
abbrev zS1E : Reg := ⟨[.p (.ldi (.v 1) (some 4)), .p (.fad (.v 1) 2 none), .p (.ldi (.t 0) none), .p (.len (.t 0)), .p (.cal zeFR [(.t 3), (.t 0)]), .p (.ext (.t 0) 0), .p (.ext (.t 1) 1), .t 1, .t 1], [(2, 1), (3, 0)], [1], none⟩
abbrev zNJn : Fn := { np := 1, nv := 4, res := [(2, none), (3, none)], body :=
(.seq (.reg zpSA)
 (.seq (.reg zS1E)
 .ret)) }
abbrev z1kw : Reg := ⟨[.p (.mv (.c (.int (0))))], [], [5], none⟩
abbrev zRle : Reg := ⟨[.v 0, .p (.len (.t 0)), .p (.mv (.c (.int (0))))], [(3, 1), (2, 0)], [], none⟩
abbrev zQYL : Reg := ⟨[.p (.bin .lss (.v 2) (.v 3))], [], [], some (9, 0)⟩
abbrev zhhK : Reg := ⟨[.v 2, .t 0], [(4, 0)], [], none⟩
abbrev ztAN : Reg := ⟨[.v 1, .v 0, .v 4, .p (.iad (.t 1) (.t 0) 1), .p (.ld (.t 0) none), .p (.cald (.t 4) [(.t 0)])], [], [], some (16, 0)⟩
abbrev zxDV : Reg := ⟨[.v 4, .t 0], [(5, 0)], [0, 1, 2, 3, 4], none⟩
abbrev zYiq : Reg := ⟨[.p (.bin .add (.v 2) (.c (.int (1)))), .t 0], [(2, 0)], [4], none⟩
abbrev z8o2 : IC := (.seq (.reg zQYL)
 (.seq (.cond 9 .skip (.exit 0))
 (.seq (.block 1 (.seq (.reg zhhK)
 (.seq (.reg ztAN)
 (.cond 16 (.seq (.reg zxDV)
 .ret) .skip))))
 (.reg zYiq))))
abbrev zC2g : Reg := ⟨[.p (.mv (.c (.int (-1))))], [(5, 0)], [0, 1, 2, 3], none⟩
abbrev zR3L : Fn := { np := 2, nv := 6, res := [(5, none)], body :=
(.seq (.reg z1kw)
 (.seq (.seq (.reg zRle)
 (.block 0 (.loop z8o2)))
 (.seq (.reg zC2g)
 .ret))) }
abbrev zEpN : Reg := ⟨[.p (.mv (.c (.bool false)))], [], [1], none⟩
abbrev zrxn : Reg := ⟨[.v 0, .v 0, .p (.bin .neq (.t 1) (.t 0)), .t 0], [(1, 0)], [0], none⟩
abbrev z0c3 : Fn := { np := 1, nv := 2, res := [(1, none)], body :=
(.seq (.reg zEpN)
 (.seq (.reg zrxn)
 .ret)) }
abbrev zkfN : Reg := ⟨[.p (.mv (.c (.snil)))], [], [11], none⟩
abbrev zs8z : Reg := ⟨[.p (.mv (.c (.int (0))))], [(4, 0)], [], none⟩
abbrev zk3l : Reg := ⟨[.v 0, .p (.len (.t 0)), .p (.mv (.c (.int (0))))], [(3, 2), (2, 1), (1, 0)], [], none⟩
abbrev zdFM : Reg := ⟨[.p (.bin .lss (.v 1) (.v 2))], [], [], some (12, 0)⟩
abbrev zQwk : Reg := ⟨[.p (.iad (.v 3) (.v 1) 1), .p (.ld (.t 0) none), .t 0], [(5, 0)], [], none⟩
abbrev zWuW : Reg := ⟨[.v 4, .v 5, .p (.len (.t 0)), .p (.bin .add (.t 2) (.t 0)), .t 0], [(4, 0)], [5], none⟩
abbrev zfHA : Reg := ⟨[.v 4, .p (.bin .lss (.t 0) (.c (.int (0))))], [], [], some (20, 0)⟩
abbrev zMCA : Reg := ⟨[.p (.bin .add (.v 1) (.c (.int (1)))), .t 0], [(1, 0)], [], none⟩
abbrev zAqV : IC := (.seq (.reg zdFM)
 (.seq (.cond 12 .skip (.exit 0))
 (.seq (.block 1 (.seq (.reg zQwk)
 (.seq (.reg zWuW)
 (.seq (.reg zfHA)
 (.cond 20 .bad .skip)))))
 (.reg zMCA))))
abbrev zwue : Reg := ⟨[.v 4, .p (.can zpmf [(.c (.snil)), (.t 0)]), .t 0], [(9, 0)], [1, 2, 3, 4], none⟩
abbrev zMA5 : Reg := ⟨[.v 0, .p (.len (.t 0)), .p (.mv (.c (.int (0))))], [(8, 2), (7, 1), (6, 0)], [0], none⟩
abbrev znnx : Reg := ⟨[.p (.bin .lss (.v 6) (.v 7))], [], [], some (28, 0)⟩
abbrev zYzC : Reg := ⟨[.p (.iad (.v 8) (.v 6) 1), .p (.ld (.t 0) none), .t 0], [(10, 0)], [], none⟩
abbrev zhjr : Reg := ⟨[.v 9, .v 10, .p (.appw (.t 1) (.t 0) none), .t 0], [(9, 0)], [10], none⟩
abbrev z4Bt : Reg := ⟨[.p (.bin .add (.v 6) (.c (.int (1)))), .t 0], [(6, 0)], [], none⟩
abbrev zjCc : IC := (.seq (.reg znnx)
 (.seq (.cond 28 .skip (.exit 2))
 (.seq (.block 3 (.seq (.reg zYzC)
 (.reg zhjr)))
 (.reg z4Bt))))
abbrev z9uS : Reg := ⟨[.v 9, .t 0], [(11, 0)], [6, 7, 8, 9], none⟩
abbrev zz0J : Fn := { np := 1, nv := 12, res := [(11, none)], body :=
(.seq (.reg zkfN)
 (.seq (.reg zs8z)
 (.seq (.seq (.reg zk3l)
 (.block 0 (.loop zAqV)))
 (.seq (.reg zwue)
 (.seq (.seq (.reg zMA5)
 (.block 2 (.loop zjCc)))
 (.seq (.reg z9uS)
 .ret)))))) }
abbrev zQ5Y : Reg := ⟨[.p (.mv (.c (.snil)))], [], [4], none⟩
abbrev zghE : Reg := ⟨[.v 0, .p (.len (.t 0)), .p (.bin .lss (.t 0) (.c (.int (2))))], [], [], some (8, 0)⟩
abbrev zzOd : Reg := ⟨[.v 0, .t 0], [(4, 0)], [0], none⟩
abbrev zZ1e : Reg := ⟨[.p (.mv (.c (.int (1))))], [(1, 0)], [], none⟩
abbrev z6mH : Reg := ⟨[.v 1, .v 0, .p (.len (.t 0)), .p (.bin .lss (.t 2) (.t 0))], [], [], some (13, 0)⟩
abbrev zMFW : Reg := ⟨[.v 0, .v 1, .p (.iad (.t 1) (.t 0) 1), .p (.ld (.t 0) none), .v 0, .v 1, .p (.bin .sub (.t 0) (.c (.int (1)))), .p (.iad (.t 2) (.t 0) 1), .p (.ld (.t 0) none), .p (.bin .eql (.t 5) (.t 0))], [], [], some (25, 0)⟩
abbrev z0d3 : Reg := ⟨[.v 0, .v 1, .p (.slc (.t 1) (some (.t 0)) none 1), .t 0], [(3, 0)], [], none⟩
abbrev zn2B : Reg := ⟨[.p (.mv (.c (.int (1))))], [(2, 0)], [], none⟩
abbrev zSGG : Reg := ⟨[.v 2, .v 3, .p (.len (.t 0)), .p (.bin .lss (.t 2) (.t 0))], [], [], some (32, 0)⟩
abbrev zeiF : Reg := ⟨[.v 3, .v 2, .p (.iad (.t 1) (.t 0) 1), .p (.ld (.t 0) none), .v 3, .v 2, .p (.bin .sub (.t 0) (.c (.int (1)))), .p (.iad (.t 2) (.t 0) 1), .p (.ld (.t 0) none), .p (.bin .neq (.t 5) (.t 0))], [], [], some (44, 0)⟩
abbrev zk96 : Reg := ⟨[.v 0, .v 1, .v 3, .v 2, .p (.iad (.t 1) (.t 0) 1), .p (.ld (.t 0) none), .p (.iad (.t 5) (.t 4) 1), .p (.st (.t 0) (.t 1) 1)], [], [], none⟩
abbrev zT8J : Reg := ⟨[.v 1, .p (.bin .add (.t 0) (.c (.int (1)))), .t 0], [(1, 0)], [], none⟩
abbrev z6RZ : Reg := ⟨[.v 2, .p (.bin .add (.t 0) (.c (.int (1)))), .t 0], [(2, 0)], [], none⟩
abbrev zUD5 : IC := (.seq (.seq (.reg zSGG)
 (.cond 32 .skip (.exit 2)))
 (.seq (.block 3 (.seq (.reg zeiF)
 (.cond 44 (.seq (.reg zk96)
 (.reg zT8J)) .skip)))
 (.reg z6RZ)))
abbrev zbIT : Reg := ⟨[.v 0, .v 1, .p (.slc (.t 1) (some (.t 0)) none 1), .p (.clr (.t 0) [.int 0] none)], [], [2, 3], none⟩
abbrev zoMj : Reg := ⟨[.v 0, .v 1, .p (.slc (.t 1) none (some (.t 0)) 1), .t 0], [(4, 0)], [0, 1], none⟩
abbrev zMNp : Reg := ⟨[.v 1, .p (.bin .add (.t 0) (.c (.int (1)))), .t 0], [(1, 0)], [], none⟩
abbrev zL7I : IC := (.seq (.seq (.reg z6mH)
 (.cond 13 .skip (.exit 0)))
 (.seq (.block 1 (.seq (.reg zMFW)
 (.cond 25 (.seq (.reg z0d3)
 (.seq (.seq (.reg zn2B)
 (.block 2 (.loop zUD5)))
 (.seq (.reg zbIT)
 (.seq (.reg zoMj)
 .ret)))) .skip)))
 (.reg zMNp)))
abbrev zi7M : Reg := ⟨[.v 0, .t 0], [(4, 0)], [0, 1], none⟩
abbrev zBYm : Fn := { np := 1, nv := 5, res := [(4, none)], body :=
(.seq (.reg zQ5Y)
 (.seq (.seq (.reg zghE)
 (.cond 8 (.seq (.reg zzOd)
 .ret) .skip))
 (.seq (.seq (.reg zZ1e)
 (.block 0 (.loop zL7I)))
 (.seq (.reg zi7M)
 .ret)))) }
abbrev zol3 : Reg := ⟨[.p (.mv (.c (.int (0))))], [], [5], none⟩
abbrev zAKy : Reg := ⟨[.v 0, .p (.len (.t 0)), .p (.mv (.c (.int (0))))], [(3, 1), (2, 0)], [], none⟩
abbrev z2Ej : Reg := ⟨[.p (.bin .lss (.v 2) (.v 3))], [], [], some (9, 0)⟩
abbrev zVKU : Reg := ⟨[.v 2, .t 0], [(4, 0)], [], none⟩
abbrev zZgS : Reg := ⟨[.v 1, .v 0, .v 4, .p (.iad (.t 1) (.t 0) 1), .p (.ld (.t 0) none), .p (.bin .eql (.t 4) (.t 0))], [], [], some (16, 0)⟩
abbrev zdAc : Reg := ⟨[.v 4, .t 0], [(5, 0)], [0, 1, 2, 3, 4], none⟩
abbrev ztlk : Reg := ⟨[.p (.bin .add (.v 2) (.c (.int (1)))), .t 0], [(2, 0)], [4], none⟩
abbrev zW9I : IC := (.seq (.reg z2Ej)
 (.seq (.cond 9 .skip (.exit 0))
 (.seq (.block 1 (.seq (.reg zVKU)
 (.seq (.reg zZgS)
 (.cond 16 (.seq (.reg zdAc)
 .ret) .skip))))
 (.reg ztlk))))
abbrev zII0 : Reg := ⟨[.p (.mv (.c (.int (-1))))], [(5, 0)], [0, 1, 2, 3], none⟩
abbrev zdAB : Fn := { np := 2, nv := 6, res := [(5, none)], body :=
(.seq (.reg zol3)
 (.seq (.seq (.reg zAKy)
 (.block 0 (.loop zW9I)))
 (.seq (.reg zII0)
 .ret))) }
abbrev zfvB : Reg := ⟨[.p (.bxi (.v 0)), .p (.alc [.int 0, .int 0, .snil, .snil] (some 4)), .p (.mv (.c (.int (0))))], [(1, 2), (3, 1)], [0, 22], none⟩
abbrev zAbX : Reg := ⟨[.p (.ldi (.v 1) (some 4)), .p (.cal zLwh [(.t 0)]), .t 0], [(2, 0)], [], none⟩
abbrev z0pQ : Reg := ⟨[.v 2, .p (.bin .neq (.t 0) (.c (.int (0))))], [], [], some (18, 0)⟩
abbrev zr9K : Reg := ⟨[.p (.bld [.int 0, .int 0, .snil, .snil] []), .v 2, .p (.st (.v 3) (.t 1) 4), .t 1], [(22, 0)], [1, 2], none⟩
abbrev z6CI : Reg := ⟨[.p (.ldi (.v 1) (some 4)), .p (.cal z68i [(.t 0)]), .t 0], [(4, 0)], [2], none⟩
abbrev zMLv : Reg := ⟨[.p (.fad (.v 1) 2 none), .p (.ldi (.t 0) none), .p (.len (.t 0)), .p (.mks (.t 0) (.t 0) [.int 0] none), .t 0], [(8, 0)], [], none⟩
abbrev z933 : Reg := ⟨[.v 4, .p (.len (.t 0)), .p (.mv (.c (.int (0))))], [(7, 2), (6, 1), (5, 0)], [], none⟩
abbrev zqhm : Reg := ⟨[.p (.bin .lss (.v 5) (.v 6))], [], [], some (30, 0)⟩
abbrev zJ2A : Reg := ⟨[.v 5, .p (.iad (.v 7) (.v 5) 1), .p (.ld (.t 0) none), .t 2, .t 1], [(10, 1), (9, 0)], [], none⟩
abbrev z1VO : Reg := ⟨[.v 8, .v 9, .v 10, .p (.iad (.t 2) (.t 1) 1), .p (.st (.t 0) (.t 1) 1)], [], [9, 10], none⟩
abbrev z8lb : Reg := ⟨[.p (.bin .add (.v 5) (.c (.int (1)))), .t 0], [(5, 0)], [], none⟩
abbrev zVkM : IC := (.seq (.reg zqhm)
 (.seq (.cond 30 .skip (.exit 0))
 (.seq (.block 1 (.seq (.reg zJ2A)
 (.reg z1VO)))
 (.reg z8lb))))
abbrev zoPk : Reg := ⟨[.p (.fad (.v 1) 0 none), .p (.ldi (.t 0) none), .p (.bld [.int 0, .int 0, .snil, .snil] [(0, 1, (.t 0))]), .p (.alc [.int 0, .int 0, .snil, .snil] (some 4)), .p (.st (.t 0) (.t 1) 4)], [(21, 1)], [5, 6, 7], none⟩
abbrev z3KD : Reg := ⟨[.v 4, .p (.len (.t 0)), .p (.mv (.c (.int (0))))], [(13, 2), (12, 1), (11, 0)], [4], none⟩
abbrev zf04 : Reg := ⟨[.p (.bin .lss (.v 11) (.v 12))], [], [], some (45, 0)⟩
abbrev z4pz : Reg := ⟨[.p (.iad (.v 13) (.v 11) 1), .p (.ld (.t 0) none), .t 0], [(14, 0)], [], none⟩
abbrev zSmn : Reg := ⟨[.p (.fad (.v 1) 0 none), .p (.ldi (.t 0) none), .p (.mks (.t 0) (.t 0) [.int 0] none), .t 0], [(18, 0)], [], none⟩
abbrev zDQ0 : Reg := ⟨[.p (.fad (.v 1) 2 none), .p (.ldi (.t 0) none), .v 14, .p (.iad (.t 1) (.t 0) 1), .p (.ldi (.t 0) none), .p (.len (.t 0)), .p (.mv (.c (.int (0))))], [(17, 2), (16, 1), (15, 0)], [], none⟩
abbrev zsvj : Reg := ⟨[.p (.bin .lss (.v 15) (.v 16))], [], [], some (58, 0)⟩
abbrev z9hU : Reg := ⟨[.v 15, .p (.iad (.v 17) (.v 15) 1), .p (.ld (.t 0) none), .t 2, .t 1], [(19, 1), (20, 0)], [], none⟩
abbrev zC5E : Reg := ⟨[.v 18, .v 19, .v 8, .v 20, .p (.iad (.t 1) (.t 0) 1), .p (.ld (.t 0) none), .p (.iad (.t 5) (.t 4) 1), .p (.st (.t 0) (.t 1) 1)], [], [19, 20], none⟩
abbrev zwc5 : Reg := ⟨[.p (.bin .add (.v 15) (.c (.int (1)))), .t 0], [(15, 0)], [], none⟩
abbrev zlCQ : IC := (.seq (.reg zsvj)
 (.seq (.cond 58 .skip (.exit 4))
 (.seq (.block 5 (.seq (.reg z9hU)
 (.reg zC5E)))
 (.reg zwc5))))
abbrev zdMm : Reg := ⟨[.p (.fad (.v 21) 2 none), .p (.ld (.t 0) none), .v 18, .p (.lita [(.t 0)] 1), .p (.appw (.t 2) (.t 0) none), .p (.fad (.v 21) 2 none), .p (.st (.t 0) (.t 1) 1)], [], [15, 16, 17, 18], none⟩
abbrev zTDv : Reg := ⟨[.p (.fad (.v 21) 3 none), .p (.ld (.t 0) none), .p (.fad (.v 1) 3 none), .p (.ldi (.t 0) none), .v 14, .p (.iad (.t 1) (.t 0) 1), .p (.ldi (.t 0) none), .p (.cal zUHS [(.t 0)]), .p (.lita [(.t 0)] 1), .p (.app (.t 7) (.t 0) none), .p (.fad (.v 21) 3 none), .p (.st (.t 0) (.t 1) 1)], [], [14], none⟩
abbrev zp7E : Reg := ⟨[.p (.bin .add (.v 11) (.c (.int (1)))), .t 0], [(11, 0)], [], none⟩
abbrev zNKU : IC := (.seq (.reg zf04)
 (.seq (.cond 45 .skip (.exit 2))
 (.seq (.block 3 (.seq (.reg z4pz)
 (.seq (.reg zSmn)
 (.seq (.seq (.reg zDQ0)
 (.block 4 (.loop zlCQ)))
 (.seq (.reg zdMm)
 (.reg zTDv))))))
 (.reg zp7E))))
abbrev zxly : Reg := ⟨[.p (.ld (.v 21) (some 4)), .p (.st (.v 3) (.t 0) 4), .p (.mv (.c (.int (0))))], [(22, 0)], [1, 8, 11, 12, 13, 21], none⟩
abbrev zIHf : Fn := { np := 1, nv := 23, res := [(3, some (some 4)), (22, none)], body :=
(.seq (.reg zfvB)
 (.seq (.seq (.reg zAbX)
 (.seq (.reg z0pQ)
 (.cond 18 (.seq (.reg zr9K)
 .ret) .skip)))
 (.seq (.reg z6CI)
 (.seq (.reg zMLv)
 (.seq (.seq (.reg z933)
 (.block 0 (.loop zVkM)))
 (.seq (.reg zoPk)
 (.seq (.seq (.reg z3KD)
 (.block 2 (.loop zNKU)))
 (.seq (.reg zxly)
 .ret)))))))) }
abbrev zRE4 : Reg := ⟨[.p (.bxi (.v 0)), .p (.mv (.c (.snil))), .p (.mv (.c (.int (0))))], [(1, 2)], [0, 2, 3], none⟩
abbrev zF9J : Reg := ⟨[.p (.ldi (.v 1) (some 4)), .p (.cal zLOr [(.t 0), (.c (.int (128)))]), .p (.ext (.t 0) 0), .p (.ext (.t 1) 1), .t 1, .t 1], [(2, 1), (3, 0)], [1], none⟩
abbrev zkXA : Fn := { np := 1, nv := 4, res := [(2, none), (3, none)], body :=
(.seq (.reg zRE4)
 (.seq (.reg zF9J)
 .ret)) }
abbrev zSUB : Reg := ⟨[.p (.bxi (.v 0)), .p (.mv (.c (.snil))), .p (.mv (.c (.int (0)))), .p (.mv (.c (.int (0))))], [(3, 3)], [0, 8, 9, 10], none⟩
abbrev zk2V : Reg := ⟨[.p (.ldi (.v 3) (some 4)), .p (.cal z2Nz [(.t 0)]), .t 0], [(4, 0)], [], none⟩
abbrev z6aS : Reg := ⟨[.v 4, .p (.bin .neq (.t 0) (.c (.int (0))))], [], [], some (16, 0)⟩
abbrev z1iL : Reg := ⟨[.v 4, .p (.mv (.c (.snil))), .p (.mv (.c (.int (0)))), .t 2], [(8, 2), (9, 1), (10, 0)], [1, 2, 3, 4], none⟩
abbrev z9vb : Reg := ⟨[.v 1, .p (.bin .lss (.t 0) (.c (.int (0)))), .t 0, .y 0 (.mv (.v 1)), .y 1 (.fad (.v 3) 2 none), .y 2 (.ldi (.t 0) none), .y 3 (.len (.t 0)), .y 4 (.bin .geq (.t 3) (.t 0)), .p (.pick (.t 5) (.c (.bool true)) (.t 0))], [], [4], some (26, 0)⟩
abbrev zG8Q : Reg := ⟨[.p (.mv (.c (.snil))), .p (.mv (.c (.int (0)))), .p (.mv (.c (.int (2))))], [(8, 2), (9, 1), (10, 0)], [1, 2, 3], none⟩
abbrev zarK : Reg := ⟨[.v 2, .p (.fad (.v 3) 0 none), .p (.ldi (.t 0) none), .p (.cal z0Tq [(.t 2), (.t 0)]), .t 0], [(5, 0)], [], none⟩
abbrev zbD8 : Reg := ⟨[.v 5, .p (.bin .neq (.t 0) (.c (.int (0))))], [], [], some (32, 0)⟩
abbrev z9uZ : Reg := ⟨[.v 5, .p (.mv (.c (.snil))), .p (.mv (.c (.int (0)))), .t 2], [(8, 2), (9, 1), (10, 0)], [1, 2, 3, 5], none⟩
abbrev zuy4 : Reg := ⟨[.p (.ldi (.v 3) (some 4)), .v 1, .v 2, .p (.cal zzjE [(.t 2), (.t 1), (.t 0)]), .t 0, .p (.ext (.t 0) 0), .p (.ext (.t 1) 1), .t 1, .t 1], [(6, 1), (7, 0)], [1, 2, 3, 5], none⟩
abbrev zX7Y : Reg := ⟨[.v 6, .v 7, .t 1, .t 1, .p (.mv (.c (.int (0))))], [(8, 2), (9, 1), (10, 0)], [6, 7], none⟩
abbrev zQPy : Fn := { np := 3, nv := 11, res := [(8, none), (9, none), (10, none)], body :=
(.seq (.reg zSUB)
 (.seq (.seq (.reg zk2V)
 (.seq (.reg z6aS)
 (.cond 16 (.seq (.reg z1iL)
 .ret) .skip)))
 (.seq (.seq (.reg z9vb)
 (.cond 26 (.seq (.reg zG8Q)
 .ret) .skip))
 (.seq (.seq (.reg zarK)
 (.seq (.reg zbD8)
 (.cond 32 (.seq (.reg z9uZ)
 .ret) .skip)))
 (.seq (.reg zuy4)
 (.seq (.reg zX7Y)
 .ret)))))) }
abbrev zKuy : Reg := ⟨[.p (.mv (.c (.int (0))))], [], [2], none⟩
abbrev zDBe : Reg := ⟨[.v 0, .p (.len (.t 0)), .v 1, .p (.len (.t 0)), .p (.bin .lss (.t 2) (.t 0))], [], [], some (9, 0)⟩
abbrev zOkU : Reg := ⟨[.p (.mv (.c (.int (-1))))], [(2, 0)], [0, 1], none⟩
abbrev zANA : Reg := ⟨[.v 0, .p (.len (.t 0)), .v 1, .p (.len (.t 0)), .p (.bin .gtr (.t 2) (.t 0))], [], [], some (14, 0)⟩
abbrev zUbf : Reg := ⟨[.p (.mv (.c (.int (1))))], [(2, 0)], [0, 1], none⟩
abbrev zVcp : Reg := ⟨[.v 0, .v 1, .p (.cal zr8d [(.t 1), (.t 0)]), .t 0], [(2, 0)], [0, 1], none⟩
abbrev zeGn : Fn := { np := 2, nv := 3, res := [(2, none)], body :=
(.seq (.reg zKuy)
 (.seq (.seq (.reg zDBe)
 (.cond 9 (.seq (.reg zOkU)
 .ret) .skip))
 (.seq (.seq (.reg zANA)
 (.cond 14 (.seq (.reg zUbf)
 .ret) .skip))
 (.seq (.reg zVcp)
 .ret)))) }
abbrev zJan : Reg := ⟨[.p (.mv (.c (.int (0))))], [], [3], none⟩
abbrev zKkj : Reg := ⟨[.p (.mv (.c (.int (0))))], [(2, 0)], [], none⟩
abbrev zHvz : Reg := ⟨[.v 2, .v 0, .p (.len (.t 0)), .p (.bin .lss (.t 2) (.t 0)), .t 0, .x 0 (.mv (.v 2)), .x 1 (.mv (.v 1)), .x 2 (.len (.t 0)), .x 3 (.bin .lss (.t 2) (.t 0)), .p (.pick (.t 4) (.t 0) (.c (.bool false))), .t 0, .x 0 (.mv (.v 0)), .x 1 (.mv (.v 2)), .x 2 (.iad (.t 1) (.t 0) 1), .x 3 (.ld (.t 0) none), .x 4 (.mv (.v 1)), .x 5 (.mv (.v 2)), .x 6 (.iad (.t 1) (.t 0) 1), .x 7 (.ld (.t 0) none), .x 8 (.bin .eql (.t 4) (.t 0)), .p (.pick (.t 9) (.t 0) (.c (.bool false)))], [], [], some (26, 0)⟩
abbrev zgol : Reg := ⟨[.v 2, .p (.bin .add (.t 0) (.c (.int (1)))), .t 0], [(2, 0)], [], none⟩
abbrev znUd : IC := (.seq (.seq (.reg zHvz)
 (.cond 26 .skip (.exit 0)))
 (.block 1 (.reg zgol)))
abbrev zETM : Reg := ⟨[.v 2, .t 0], [(3, 0)], [0, 1, 2], none⟩
abbrev z4A4 : Fn := { np := 2, nv := 4, res := [(3, none)], body :=
(.seq (.reg zJan)
 (.seq (.reg zKkj)
 (.seq (.block 0 (.loop znUd))
 (.seq (.reg zETM)
 .ret)))) }
abbrev zPII : Reg := ⟨[.p (.bxi (.v 0)), .p (.mv (.c (.snil))), .p (.mv (.c (.int (0))))], [(2, 2)], [0, 6, 7], none⟩
abbrev zWOe : Reg := ⟨[.p (.ldi (.v 2) (some 4)), .p (.cal z2Nz [(.t 0)]), .t 0], [(3, 0)], [], none⟩
abbrev zQjy : Reg := ⟨[.v 3, .p (.bin .neq (.t 0) (.c (.int (0))))], [], [], some (12, 0)⟩
abbrev zXm5 : Reg := ⟨[.v 3, .p (.mv (.c (.snil))), .t 1], [(6, 1), (7, 0)], [1, 2, 3], none⟩
abbrev z2I6 : Reg := ⟨[.p (.fad (.v 2) 2 none), .p (.ldi (.t 0) none), .p (.len (.t 0)), .p (.mks (.t 0) (.t 0) [.int 0] none), .t 0], [(5, 0)], [3], none⟩
abbrev zZ88 : Reg := ⟨[.p (.mv (.c (.int (0))))], [(4, 0)], [], none⟩
abbrev z3gk : Reg := ⟨[.v 4, .v 1, .p (.bin .lss (.t 1) (.t 0)), .t 0, .x 0 (.mv (.v 4)), .x 1 (.fad (.v 2) 2 none), .x 2 (.ldi (.t 0) none), .x 3 (.len (.t 0)), .x 4 (.bin .lss (.t 3) (.t 0)), .p (.pick (.t 5) (.t 0) (.c (.bool false)))], [], [], some (27, 0)⟩
abbrev zFcR : Reg := ⟨[.p (.ldi (.v 2) (some 4)), .v 5, .p (.cab zZCE [(.t 1), (.t 0)]), .t 0], [(5, 0)], [], none⟩
abbrev zFpF : Reg := ⟨[.v 4, .p (.bin .add (.t 0) (.c (.int (1)))), .t 0], [(4, 0)], [], none⟩
abbrev zmFx : IC := (.seq (.seq (.reg z3gk)
 (.cond 27 .skip (.exit 0)))
 (.seq (.block 1 (.reg zFcR))
 (.reg zFpF)))
abbrev zEqM : Reg := ⟨[.v 5, .t 0, .p (.mv (.c (.int (0))))], [(6, 1), (7, 0)], [1, 2, 4, 5], none⟩
abbrev zuGu : Fn := { np := 2, nv := 8, res := [(6, none), (7, none)], body :=
(.seq (.reg zPII)
 (.seq (.seq (.reg zWOe)
 (.seq (.reg zQjy)
 (.cond 12 (.seq (.reg zXm5)
 .ret) .skip)))
 (.seq (.reg z2I6)
 (.seq (.seq (.reg zZ88)
 (.block 0 (.loop zmFx)))
 (.seq (.reg zEqM)
 .ret))))) }
abbrev z48P : Reg := ⟨[.p (.bxi (.v 0)), .p (.mv (.c (.snil))), .p (.mv (.c (.int (0))))], [(2, 2)], [0, 5, 6], none⟩
abbrev zXum : Reg := ⟨[.p (.ldi (.v 2) (some 4)), .p (.cal zLwh [(.t 0)]), .t 0], [(3, 0)], [], none⟩
abbrev zL63 : Reg := ⟨[.v 3, .p (.bin .neq (.t 0) (.c (.int (0))))], [], [], some (12, 0)⟩
abbrev zaSG : Reg := ⟨[.v 3, .p (.mv (.c (.snil))), .t 1], [(5, 1), (6, 0)], [1, 2, 3], none⟩
abbrev zKba : Reg := ⟨[.p (.ldi (.v 2) (some 4)), .v 1, .p (.cal z8xK [(.t 1), (.t 0)]), .t 0, .p (.ext (.t 0) 0), .p (.ext (.t 1) 1), .t 1, .t 1], [(4, 1)], [1, 2, 3], none⟩
abbrev zg2K : Reg := ⟨[.v 4, .t 0, .p (.mv (.c (.int (0))))], [(5, 1), (6, 0)], [4], none⟩
abbrev zhmb : Fn := { np := 2, nv := 7, res := [(5, none), (6, none)], body :=
(.seq (.reg z48P)
 (.seq (.seq (.reg zXum)
 (.seq (.reg zL63)
 (.cond 12 (.seq (.reg zaSG)
 .ret) .skip)))
 (.seq (.reg zKba)
 (.seq (.reg zg2K)
 .ret)))) }
abbrev zjNq : Reg := ⟨[.p (.mv (.c (.int (0))))], [], [3], none⟩
abbrev z2rC : Reg := ⟨[.v 1, .p (.cal zlVo [(.t 0)]), .p (.not (.t 0))], [], [], some (8, 0)⟩
abbrev z6p8 : Reg := ⟨[.p (.mv (.c (.int (2))))], [(3, 0)], [0, 1], none⟩
abbrev zpWt : Reg := ⟨[.v 0, .p (.len (.t 0)), .p (.bin .gtr (.t 0) (.c (.int (1024))))], [], [], some (11, 0)⟩
abbrev zAcD : Reg := ⟨[.p (.mv (.c (.int (3))))], [(3, 0)], [0, 1], none⟩
abbrev zMzf : Reg := ⟨[.p (.mv (.c (.int (0))))], [(2, 0)], [], none⟩
abbrev zxxB : Reg := ⟨[.v 2, .v 0, .p (.len (.t 0)), .p (.bin .lss (.t 2) (.t 0))], [], [], some (15, 0)⟩
abbrev zJ7e : Reg := ⟨[.v 0, .v 2, .p (.iad (.t 1) (.t 0) 1), .p (.ld (.t 0) none), .p (.bin .lss (.t 0) (.c (.int (0)))), .t 0, .y 0 (.mv (.v 0)), .y 1 (.mv (.v 2)), .y 2 (.iad (.t 1) (.t 0) 1), .y 3 (.ld (.t 0) none), .y 4 (.mv (.v 1)), .y 5 (.bin .geq (.t 1) (.t 0)), .p (.pick (.t 6) (.c (.bool true)) (.t 0))], [], [], some (30, 0)⟩
abbrev zqpH : Reg := ⟨[.p (.mv (.c (.int (1))))], [(3, 0)], [0, 1, 2], none⟩
abbrev zpKh : Reg := ⟨[.v 2, .p (.bin .add (.t 0) (.c (.int (1)))), .t 0], [(2, 0)], [], none⟩
abbrev z7MO : IC := (.seq (.seq (.reg zxxB)
 (.cond 15 .skip (.exit 0)))
 (.seq (.block 1 (.seq (.reg zJ7e)
 (.cond 30 (.seq (.reg zqpH)
 .ret) .skip)))
 (.reg zpKh)))
abbrev zgXn : Reg := ⟨[.p (.mv (.c (.int (0))))], [(3, 0)], [0, 1, 2], none⟩
abbrev zvhx : Fn := { np := 2, nv := 4, res := [(3, none)], body :=
(.seq (.reg zjNq)
 (.seq (.seq (.reg z2rC)
 (.cond 8 (.seq (.reg z6p8)
 .ret) .skip))
 (.seq (.seq (.reg zpWt)
 (.cond 11 (.seq (.reg zAcD)
 .ret) .skip))
 (.seq (.seq (.reg zMzf)
 (.block 0 (.loop z7MO)))
 (.seq (.reg zgXn)
 .ret))))) }
abbrev zK20 : Reg := ⟨[.p (.bxi (.v 0)), .p (.mv (.c (.snil))), .p (.mv (.c (.int (0))))], [(5, 2)], [0, 6, 7], none⟩
abbrev zecw : Reg := ⟨[.p (.nl none)], [(4, 0)], [], none⟩
abbrev zYLz : Reg := ⟨[.p (.mv (.c (.int (0))))], [(3, 0)], [], none⟩
abbrev zNDC : Reg := ⟨[.v 3, .v 2, .p (.len (.t 0)), .p (.bin .lss (.t 2) (.t 0))], [], [], some (13, 0)⟩
abbrev zOJN : Reg := ⟨[.v 4, .p (.fad (.v 5) 3 none), .p (.ldi (.t 0) none), .v 1, .p (.iad (.t 1) (.t 0) 1), .p (.ldi (.t 0) none), .v 2, .v 3, .p (.iad (.t 1) (.t 0) 1), .p (.ld (.t 0) none), .p (.iad (.t 4) (.t 0) 1), .p (.ldi (.t 0) none), .p (.lita [(.t 0)] 1), .p (.app (.t 12) (.t 0) none), .t 0], [(4, 0)], [], none⟩
abbrev zTxe : Reg := ⟨[.p (.fad (.v 5) 2 none), .p (.ldi (.t 0) none), .v 1, .p (.iad (.t 1) (.t 0) 1), .p (.ldi (.t 0) none), .v 2, .v 3, .p (.iad (.t 1) (.t 0) 1), .p (.ld (.t 0) none), .p (.iad (.t 4) (.t 0) 1), .p (.ldi (.t 0) none), .t 0], [(1, 0)], [], none⟩
abbrev zZyN : Reg := ⟨[.v 3, .p (.bin .add (.t 0) (.c (.int (1)))), .t 0], [(3, 0)], [], none⟩
abbrev zTrm : IC := (.seq (.seq (.reg zNDC)
 (.cond 13 .skip (.exit 0)))
 (.seq (.block 1 (.seq (.reg zOJN)
 (.reg zTxe)))
 (.reg zZyN)))
abbrev zEZI : Reg := ⟨[.v 4, .v 1, .t 1, .t 1], [(6, 1), (7, 0)], [1, 2, 3, 4, 5], none⟩
abbrev zY1V : Fn := { np := 3, nv := 8, res := [(6, none), (7, none)], body :=
(.seq (.reg zK20)
 (.seq (.reg zecw)
 (.seq (.seq (.reg zYLz)
 (.block 0 (.loop zTrm)))
 (.seq (.reg zEZI)
 .ret)))) }
end Ab
