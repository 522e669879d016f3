/- The functions of the program as small texts, printed by a tool of mine. Condition: none. -/
import Derived.Test.YtdenhmniigikcaaGreatAbBase
set_option linter.all false
namespace Ab
abbrev Ln.l:Ln:=.p (.bj (.t 0) none)
abbrev Ln.d:Ln:=.p (.ld (.t 0) none)
abbrev Ln.k (n:Int):Ln:=.p (.mv (.c (.int n)))
abbrev Ln.i:Ln:=.p (.bP (.t 1) (.t 0) 1)
abbrev Ln.n:Ln:=.p (.len (.t 0))
abbrev Ln.q:Ln:=.p (.oT (.t 0))
abbrev Ln.f (v o:Nat):Ln:=.p (.bD (.v v) o none)
abbrev Ln.h (v o:Nat):Ln:=.p (.bD (.t v) o none)
abbrev Ln.b:Ln:=.p (.mv (.c (.bool false)))
abbrev Ln.c (a b:Nat):Ln:=.p (.bin .lss (.v a) (.v b))
abbrev fe:List AV:=[.int 0,.int 0,.int 0,.int 0,.int 0,.ah,.ah,.ah,.ah,.ah]
abbrev IW:Nat:=178
abbrev ju:Nat:=150
abbrev jL:Nat:=110
abbrev apO:Nat:=9
def apP:Nat:=3
def apQ:Nat:=4
def QT:Nat:=5
def apR:Nat:=6
def apS:Nat:=7
def apT:Nat:=8
def IZ:Nat:=9
def wP:Nat:=10
def rM:Nat:=11
def apU:Nat:=12
def Er:Nat:=13
def I3:Nat:=14
def apV:Nat:=15
def zz:Nat:=16
def I4:Nat:=17
def Es:Nat:=18
def apW:Nat:=19
def IU:Nat:=20
def I5:Nat:=21
def Et:Nat:=22
def Eu:Nat:=23
def uN:Nat:=24
def I6:Nat:=25
def Ev:Nat:=26
def Ew:Nat:=27
def Ey:Nat:=28
def pj:Nat:=29
def I7:Nat:=30
def uO:Nat:=31
def Ez:Nat:=32
def zA:Nat:=33
def EA:Nat:=34
def apX:Nat:=35
def apY:Nat:=36
def apZ:Nat:=37
def ap0:Nat:=38
def ap2:Nat:=39
def ap3:Nat:=40
def wQ:Nat:=41
def I8:Nat:=42
def I9:Nat:=43
def Ja:Nat:=44
def akD:Nat:=45
def ap4:Nat:=46
def ap5:Nat:=47
def ap6:Nat:=48
def Jb:Nat:=49
def Jc:Nat:=50
def wR:Nat:=51
def wS:Nat:=52
def EB:Nat:=53
def zB:Nat:=54
def Jd:Nat:=55
def ap7:Nat:=56
def ap8:Nat:=57
def EC:Nat:=58
def zC:Nat:=59
def ED:Nat:=60
def tj:Nat:=61
def Je:Nat:=62
def th:Nat:=63
def tm:Nat:=64
def wO:Nat:=65
def tn:Nat:=66
def Jf:Nat:=67
def Jg:Nat:=68
def wT:Nat:=69
def uK:Nat:=70
def Ji:Nat:=71
def zD:Nat:=72
def Jj:Nat:=73
def uL:Nat:=74
def Jk:Nat:=75
def EE:Nat:=76
def Jl:Nat:=77
def EF:Nat:=78
def Jm:Nat:=79
def Jn:Nat:=80
def ap9:Nat:=81
def aqa:Nat:=82
def wU:Nat:=83
def aqb:Nat:=84
def aqc:Nat:=85
def aqd:Nat:=86
def aqe:Nat:=87
def aqf:Nat:=88
def aqg:Nat:=89
def aqh:Nat:=90
def aqi:Nat:=91
def aqj:Nat:=92
def aqk:Nat:=93
def aql:Nat:=94
def Jo:Nat:=95
def Jp:Nat:=96
def Jq:Nat:=97
def pt:Nat:=98
def zy:Nat:=99
def QV:Nat:=100
def jM:Nat:=101
def aqm:Nat:=102
def aqn:Nat:=103
def uM:Nat:=104
def zr:Nat:=105
def aqo:Nat:=106
def aqp:Nat:=107
def aqq:Nat:=108
def aqr:Nat:=109
def aqs:Nat:=110
def zE:Nat:=111
def Jr:Nat:=112
def aqt:Nat:=113
def aqu:Nat:=114
def aqv:Nat:=115
def aqw:Nat:=116
def Js:Nat:=117
def zF:Nat:=118
def zG:Nat:=119
def EG:Nat:=120
def zH:Nat:=121
def Jt:Nat:=122
def Ju:Nat:=123
def EH:Nat:=124
def wM:Nat:=125
def EI:Nat:=126
def EJ:Nat:=127
def aqx:Nat:=128
def aqy:Nat:=129
def aqz:Nat:=130
def aqA:Nat:=131
def aqB:Nat:=132
def aqC:Nat:=133
def aqD:Nat:=134
def aqE:Nat:=135
def aqF:Nat:=136
def aqG:Nat:=137
def aqH:Nat:=138
def aqI:Nat:=139
def aqJ:Nat:=140
def Jv:Nat:=141
def EK:Nat:=142
def CH:Nat:=143
def tf:Nat:=144
def CX:Nat:=145
def CY:Nat:=146
def QM:Nat:=147
def QN:Nat:=148
def QL:Nat:=149
def aqK:Nat:=150
def aqL:Nat:=151
def aqM:Nat:=152
def IP:Nat:=153
def aqN:Nat:=154
def CB:Nat:=155
def zq:Nat:=156
def aqO:Nat:=157
def aqP:Nat:=158
def aqQ:Nat:=159
def aqR:Nat:=160
def aqS:Nat:=161
def IQ:Nat:=162
def CJ:Nat:=163
def IS:Nat:=164
def IT:Nat:=165
def QO:Nat:=166
def QP:Nat:=167
def IV:Nat:=168
def wN:Nat:=169
def IX:Nat:=170
def aqT:Nat:=171
def aqU:Nat:=172
def aqV:Nat:=173
def aqW:Nat:=174
def aqX:Nat:=175
def aqY:Nat:=176
def aqZ:Nat:=177
def aq0:Nat:=178
def aq1:Nat:=179
def aq2:Nat:=180
def aq3:Nat:=181
def IY:Nat:=182
def zt:Nat:=183
def C6:Nat:=184
def aq4:Nat:=185
def aq5:Nat:=186
def aq6:Nat:=187
def aq7:Nat:=188
def zu:Nat:=189
def zw:Nat:=190
def Dd:Nat:=191
def zx:Nat:=192
def aq8:Nat:=193
def aq9:Nat:=194
def ara:Nat:=195
def arb:Nat:=196
def arc:Nat:=197
def ard:Nat:=198
def arf:Nat:=199
def arh:Nat:=200
def ari:Nat:=201
def arj:Nat:=202
def ark:Nat:=203
def arl:Nat:=204
def arn:Nat:=205
def aro:Nat:=206
def CQ:Nat:=222
def CO:Nat:=223
def CT:Nat:=224
abbrev Dk:Fn:={np:=2,nv:=10,res:=[(9,none)],body:=
(.seq (.aa ⟨[.p (.gj (.v 0)),.b],[(2,1)],[0,9],none⟩)
 (.seq (.seq (.aa ⟨[.p (.bj (.v 2) (some 10)),.p (.bW IZ [(.t 0)]),.p (.not (.t 0)),.t 0,.y 0 (.mv (.v 1)),.y 1 (.len (.t 0)),.y 2 (.bin .gtr (.t 0) (.c (.int (60)))),.p (.pick (.t 3) (.c (.bool true)) (.t 0))],[],[],some (18,0)⟩)
 (.cond 18 (.seq (.aa ⟨[.p (.bW wP []),.t 0],[(9,0)],[1,2],none⟩)
 .ret) .skip))
 (.seq (.aa ⟨[.p (.bj (.v 2) (some 10)),.p (.bW rM [(.t 0)]),.t 0,.p (.ext (.t 0) 0),.p (.ext (.t 1) 1),.p (.gH 10),.p (.kK (.t 0) (.t 2) 10),.t 2],[(4,1),(3,0)],[],none⟩)
 (.seq (.seq (.aa ⟨[.v 3,.p (.bin .neq (.t 0) (.c (.int (0))))],[],[3],some (26,0)⟩)
 (.cond 26 (.seq (.aa ⟨[.f 4 5,.l,.n,.p (.bin .eql (.t 0) (.c (.int (0)))),.t 0,.x 0 (.bW wP []),.p (.pick (.t 1) (.t 0) (.c (.bool false))),.t 0],[(9,0)],[1,2,4],none⟩)
 .ret) .skip))
 (.seq (.seq (.aa ⟨[.p (.bj (.v 4) (some 10)),.p (.bW zz [(.t 0)]),.p (.bin .neq (.t 0) (.c (.int (0)))),.t 0,.y 0 (.bj (.v 4) (some 10)),.y 1 (.bW I4 [(.t 0)]),.y 2 (.not (.t 0)),.p (.pick (.t 3) (.c (.bool true)) (.t 0)),.t 0,.y 0 (.bD (.v 4) 0 none),.y 1 (.bj (.t 0) none),.y 2 (.bD (.v 2) 0 none),.y 3 (.bj (.t 0) none),.y 4 (.bin .neq (.t 2) (.t 0)),.p (.pick (.t 5) (.c (.bool true)) (.t 0)),.t 0,.y 0 (.bD (.v 4) 1 none),.y 1 (.bj (.t 0) none),.y 2 (.bD (.v 2) 1 none),.y 3 (.bj (.t 0) none),.y 4 (.bin .neq (.t 2) (.t 0)),.p (.pick (.t 5) (.c (.bool true)) (.t 0)),.t 0,.y 0 (.bD (.v 4) 2 none),.y 1 (.bj (.t 0) none),.y 2 (.bD (.v 2) 2 none),.y 3 (.bj (.t 0) none),.y 4 (.bin .neq (.t 2) (.t 0)),.p (.pick (.t 5) (.c (.bool true)) (.t 0))],[],[],some (62,0)⟩)
 (.cond 62 (.seq (.aa ⟨[.b],[(9,0)],[1,2,4],none⟩)
 .ret) .skip))
 (.seq (.aa ⟨[.p (.bj (.v 2) (some 10)),.v 1,.p (.bW Es [(.t 1),(.t 0)]),.t 0,.p (.ext (.t 0) 0),.p (.ext (.t 1) 1),.t 1,.t 1],[(5,1),(7,0)],[2],none⟩)
 (.seq (.aa ⟨[.p (.bj (.v 4) (some 10)),.v 1,.p (.bW Es [(.t 1),(.t 0)]),.t 0,.p (.ext (.t 0) 0),.p (.ext (.t 1) 1),.t 1,.t 1],[(6,1),(8,0)],[1,4],none⟩)
 (.seq (.aa ⟨[.v 5,.v 6,.p (.beq false (.t 1) (.t 0)),.t 0,.x 0 (.mv (.v 7)),.x 1 (.mv (.v 8)),.x 2 (.bin .eql (.t 1) (.t 0)),.p (.pick (.t 3) (.t 0) (.c (.bool false))),.t 0,.x 0 (.bW wP []),.p (.pick (.t 1) (.t 0) (.c (.bool false))),.t 0],[(9,0)],[5,6,7,8],none⟩)
 .ret))))))))}
abbrev Dl:Fn:={np:=1,nv:=3,res:=[(2,none)],body:=
(.seq (.aa ⟨[.p (.gj (.v 0)),.b],[(1,1)],[0,2],none⟩)
 (.seq (.aa ⟨[.f 1 5,.l,.n,.p (.bin .leq (.t 0) (.c (.int (3)))),.t 0,.x 0 (.bD (.v 1) 3 none),.x 1 (.bj (.t 0) none),.x 2 (.bin .leq (.t 0) (.c (.int (4)))),.p (.pick (.t 3) (.t 0) (.c (.bool false))),.t 0,.x 0 (.bj (.v 1) (some 10)),.x 1 (.bW I5 [(.t 0)]),.p (.pick (.t 2) (.t 0) (.c (.bool false))),.t 0,.x 0 (.bD (.v 1) 0 none),.x 1 (.bj (.t 0) none),.x 2 (.bD (.v 1) 1 none),.x 3 (.bj (.t 0) none),.x 4 (.bin .uw (.t 2) (.t 0)),.x 5 (.bD (.v 1) 2 none),.x 6 (.bj (.t 0) none),.x 7 (.bin .uw (.t 2) (.t 0)),.x 8 (.bin .leq (.t 0) (.c (.int (5)))),.p (.pick (.t 9) (.t 0) (.c (.bool false))),.t 0],[(2,0)],[1],none⟩)
 .ret))}
abbrev Dn:Fn:={np:=0,nv:=6,res:=[(5,none)],body:=
(.seq (.aa ⟨[.b],[],[5],none⟩)
 (.seq (.aa ⟨[.p (.bW Et []),.p (.bW rM [(.t 0)]),.t 0,.p (.ext (.t 0) 0),.p (.ext (.t 1) 1),.p (.gH 10),.p (.kK (.t 0) (.t 2) 10),.t 2],[(3,1),(0,0)],[],none⟩)
 (.seq (.aa ⟨[.p (.bW Et []),.p (.bW I3 [(.t 0)]),.t 0,.p (.ext (.t 0) 0),.p (.ext (.t 1) 1),.p (.ext (.t 2) 2),.p (.gH 10),.p (.kK (.t 0) (.t 3) 10),.t 3,.t 3],[(4,2),(2,1),(1,0)],[],none⟩)
 (.seq (.aa ⟨[.v 0,.p (.bin .eql (.t 0) (.c (.int (0)))),.t 0,.x 0 (.mv (.v 1)),.x 1 (.bin .eql (.t 0) (.c (.int (0)))),.p (.pick (.t 2) (.t 0) (.c (.bool false))),.t 0,.x 0 (.mv (.v 2)),.x 1 (.bin .eql (.t 0) (.c (.int (1)))),.p (.pick (.t 2) (.t 0) (.c (.bool false))),.t 0,.x 0 (.bj (.v 3) (some 10)),.x 1 (.bW Eu []),.x 2 (.bW Er [(.t 1),(.t 0)]),.p (.pick (.t 3) (.t 0) (.c (.bool false))),.t 0,.x 0 (.bj (.v 4) (some 10)),.x 1 (.bW Eu []),.x 2 (.bW Er [(.t 1),(.t 0)]),.p (.pick (.t 3) (.t 0) (.c (.bool false))),.t 0],[(5,0)],[0,1,2,3,4],none⟩)
 .ret))))}
abbrev RQ:gh:=⟨[.p (.gj (.v 0)),.p (.oD fe (some 10)),.k 0],[(1,2),(3,1)],[0,19],none⟩
abbrev RR:gh:=⟨[.p (.bj (.v 1) (some 10)),.p (.bW uN [(.t 0)]),.t 0],[(2,0)],[],none⟩
abbrev RS:gh:=⟨[.v 2,.p (.bin .neq (.t 0) (.c (.int (0))))],[],[],some (18,0)⟩
abbrev RT:gh:=⟨[.p (.jK fe []),.v 2,.p (.st (.v 3) (.t 1) 10),.t 1],[(19,0)],[1,2],none⟩
abbrev RU:gh:=⟨[.p (.bj (.v 1) (some 10)),.p (.can I6 [(.t 0)]),.t 0],[(4,0)],[2],none⟩
abbrev RV:gh:=⟨[.v 4,.p (.fI Ev [(.t 0)]),.p (.not (.t 0))],[],[],some (25,0)⟩
abbrev RX:gh:=⟨[.p (.jK fe []),.p (.st (.v 3) (.t 0) 10),.k 11],[(19,0)],[1,4],none⟩
abbrev RY:gh:=⟨[.v 4,.p (.bW Ew [(.t 0)]),.t 0,.p (.ext (.t 0) 0),.p (.ext (.t 1) 1),.t 1,.t 1],[(14,1),(5,0)],[],none⟩
abbrev RZ:gh:=⟨[.v 5,.p (.bin .gtr (.t 0) (.c (.int (128)))),.t 0,.y 0 (.mv (.v 5)),.y 1 (.bD (.v 1) 0 none),.y 2 (.bj (.t 0) none),.y 3 (.bin .mul (.t 2) (.t 0)),.y 4 (.bin .gtr (.t 0) (.c (.int (128)))),.p (.pick (.t 5) (.c (.bool true)) (.t 0))],[],[1],some (40,0)⟩
abbrev R0:gh:=⟨[.p (.jK fe []),.p (.st (.v 3) (.t 0) 10),.k 11],[(19,0)],[4,5,14],none⟩
abbrev R1:gh:=⟨[.v 4,.p (.bW Ey [(.t 0)]),.t 0,.p (.ext (.t 0) 0),.p (.ext (.t 1) 1),.t 1,.t 1],[(10,1),(16,0)],[],none⟩
abbrev R2:gh:=⟨[.v 5,.p (.jV (.t 0) (.t 0) [.int 0,.int 0,.ah] (some 3)),.t 0],[(6,0)],[5],none⟩
abbrev R3:gh:=⟨[.v 6,.n,.k 0],[(8,1),(7,0)],[],none⟩
abbrev R4:IC:=(.seq (.aa ⟨[.c 7 8],[],[],some (52,0)⟩)
 (.seq (.cond 52 .skip (.exit 0))
 (.seq (.block 1 (.seq (.aa ⟨[.v 7,.t 0],[(9,0)],[],none⟩)
 (.aa ⟨[.v 6,.v 9,.v 9,.p (.jK [.int 0,.int 0,.ah] [(0,1,(.t 0)),(1,1,(.c (.int (-1)))),(2,1,(.c (.ah)))]),.p (.bP (.t 3) (.t 2) 3),.p (.st (.t 0) (.t 1) 3)],[],[9],none⟩)))
 (.aa ⟨[.p (.bin .add (.v 7) (.c (.int (1)))),.t 0],[(7,0)],[],none⟩))))
abbrev R5:gh:=⟨[.v 10,.n,.k 0],[(13,2),(12,1),(11,0)],[7,8,10],none⟩
abbrev R6:IC:=(.seq (.aa ⟨[.c 11 12],[],[],some (63,0)⟩)
 (.seq (.cond 63 .skip (.exit 2))
 (.seq (.block 3 (.seq (.aa ⟨[.v 11,.p (.bP (.v 13) (.v 11) 1),.d,.t 2,.t 1],[(15,1),(18,0)],[],none⟩)
 (.seq (.aa ⟨[.v 6,.v 14,.v 15,.i,.d,.p (.bP (.t 4) (.t 0) 3),.t 0],[(17,0)],[],none⟩)
 (.seq (.aa ⟨[.v 16,.v 15,.i,.d,.t 0,.x 0 (.mv (.v 17)),.x 1 (.oT (.t 0)),.x 2 (.bD (.t 0) 1 none),.x 3 (.ld (.t 0) none),.x 4 (.bin .lss (.t 0) (.c (.int (0)))),.x 5 (.mv (.t 0)),.y 0 (.mv (.v 18)),.y 1 (.mv (.v 17)),.y 2 (.oT (.t 0)),.y 3 (.bD (.t 0) 2 none),.y 4 (.ld (.t 0) none),.y 5 (.bW pj [(.t 4),(.t 0)]),.y 6 (.bin .lss (.t 0) (.c (.int (0)))),.x 13 (.pick (.t 7) (.c (.bool true)) (.t 0)),.p (.pick (.t 14) (.t 0) (.c (.bool false)))],[],[],some (92,0)⟩)
 (.cond 92 (.aa ⟨[.v 17,.v 17,.v 15,.v 18,.p (.oT (.t 3)),.h 0 1,.p (.st (.t 0) (.t 3) 1),.p (.oT (.t 5)),.h 0 2,.p (.st (.t 0) (.t 5) 1)],[],[15,17,18],none⟩) .skip)))))
 (.aa ⟨[.p (.bin .add (.v 11) (.c (.int (1)))),.t 0],[(11,0)],[15,17,18],none⟩))))
abbrev R7:gh:=⟨[.v 6,.p (.tS I7 [(.t 0),(.c (.func uO []))])],[],[11,12,13,16],some (103,0)⟩
abbrev R8:gh:=⟨[.p (.jK fe []),.p (.st (.v 3) (.t 0) 10),.k 3],[(19,0)],[4,6,14],none⟩
abbrev R9:gh:=⟨[.v 6,.p (.fI Ez [(.t 0),(.c (.func zA []))])],[],[],none⟩
abbrev Sa:gh:=⟨[.v 4,.v 14,.v 6,.p (.bW EA [(.t 2),(.t 1),(.t 0)]),.p (.st (.v 3) (.t 0) 10),.k 0],[(19,0)],[4,6,14],none⟩
abbrev rK:Fn:={np:=1,nv:=20,res:=[(3,some (some 10)),(19,none)],body:=
(.seq (.aa RQ)
 (.seq (.seq (.aa RR)
 (.seq (.aa RS)
 (.cond 18 (.seq (.aa RT)
 .ret) .skip)))
 (.seq (.aa RU)
 (.seq (.seq (.seq (.aa RV) (.lB 4))
 (.cond 25 (.seq (.aa RX)
 .ret) .skip))
 (.seq (.aa RY)
 (.seq (.seq (.aa RZ)
 (.cond 40 (.seq (.aa R0)
 .ret) .skip))
 (.seq (.aa R1)
 (.seq (.aa R2)
 (.seq (.seq (.aa R3)
 (.block 0 (.loop R4)))
 (.seq (.seq (.aa R5)
 (.block 2 (.loop R6)))
 (.seq (.seq (.aa R7)
 (.cond 103 (.seq (.aa R8)
 .ret) .skip))
 (.seq (.seq (.aa R9) (.lB 6))
 (.seq (.aa Sa)
 .ret)))))))))))))}
abbrev akE:IC:=(.seq (.seq (.aa ⟨[.v 4,.f 2 9,.l,.n,.p (.bin .lss (.t 3) (.t 0))],[],[],some (52,0)⟩)
 (.cond 52 .skip (.exit 0)))
 (.seq (.block 1 (.seq (.aa ⟨[.f 2 9,.l,.v 4,.i,.l,.f 3 9,.l,.v 4,.i,.l,.p (.bW wQ [(.t 5),(.t 0)]),.p (.not (.t 0))],[],[],some (66,0)⟩)
 (.cond 66 (.seq (.aa ⟨[.b],[(5,0)],[2,3,4],none⟩)
 .ret) .skip)))
 (.aa ⟨[.v 4,.p (.bin .add (.t 0) (.c (.int (1)))),.t 0],[(4,0)],[],none⟩)))
abbrev Dp:Fn:={np:=2,nv:=6,res:=[(5,none)],body:=
(.seq (.aa ⟨[.p (.gj (.v 0)),.p (.gj (.v 1)),.b],[(2,2),(3,1)],[0,1,5],none⟩)
 (.seq (.seq (.aa ⟨[.f 2 0,.l,.f 3 0,.l,.p (.bin .neq (.t 2) (.t 0)),.t 0,.y 0 (.bD (.v 2) 1 none),.y 1 (.bj (.t 0) none),.y 2 (.bD (.v 3) 1 none),.y 3 (.bj (.t 0) none),.y 4 (.bin .neq (.t 2) (.t 0)),.p (.pick (.t 5) (.c (.bool true)) (.t 0)),.t 0,.y 0 (.bD (.v 2) 2 none),.y 1 (.bj (.t 0) none),.y 2 (.bD (.v 3) 2 none),.y 3 (.bj (.t 0) none),.y 4 (.bin .neq (.t 2) (.t 0)),.p (.pick (.t 5) (.c (.bool true)) (.t 0)),.t 0,.y 0 (.bD (.v 2) 3 none),.y 1 (.bj (.t 0) none),.y 2 (.bD (.v 3) 3 none),.y 3 (.bj (.t 0) none),.y 4 (.bin .neq (.t 2) (.t 0)),.p (.pick (.t 5) (.c (.bool true)) (.t 0)),.t 0,.y 0 (.bD (.v 2) 4 none),.y 1 (.bj (.t 0) none),.y 2 (.bD (.v 3) 4 none),.y 3 (.bj (.t 0) none),.y 4 (.bin .neq (.t 2) (.t 0)),.p (.pick (.t 5) (.c (.bool true)) (.t 0)),.t 0,.y 0 (.bD (.v 2) 9 none),.y 1 (.bj (.t 0) none),.y 2 (.len (.t 0)),.y 3 (.bD (.v 3) 9 none),.y 4 (.bj (.t 0) none),.y 5 (.len (.t 0)),.y 6 (.bin .neq (.t 3) (.t 0)),.p (.pick (.t 7) (.c (.bool true)) (.t 0))],[],[],some (47,0)⟩)
 (.cond 47 (.seq (.aa ⟨[.b],[(5,0)],[2,3],none⟩)
 .ret) .skip))
 (.seq (.seq (.aa ⟨[.k 0],[(4,0)],[],none⟩)
 (.block 0 (.loop akE)))
 (.seq (.aa ⟨[.f 2 5,.l,.f 3 5,.l,.p (.bW I8 [(.t 2),(.t 0)]),.t 0,.x 0 (.bD (.v 2) 6 none),.x 1 (.bj (.t 0) none),.x 2 (.bD (.v 3) 6 none),.x 3 (.bj (.t 0) none),.x 4 (.bW wQ [(.t 2),(.t 0)]),.p (.pick (.t 5) (.t 0) (.c (.bool false))),.t 0,.x 0 (.bD (.v 2) 7 none),.x 1 (.bj (.t 0) none),.x 2 (.bD (.v 3) 7 none),.x 3 (.bj (.t 0) none),.x 4 (.bW wQ [(.t 2),(.t 0)]),.p (.pick (.t 5) (.t 0) (.c (.bool false))),.t 0,.x 0 (.bD (.v 2) 8 none),.x 1 (.bj (.t 0) none),.x 2 (.bD (.v 3) 8 none),.x 3 (.bj (.t 0) none),.x 4 (.bW wQ [(.t 2),(.t 0)]),.p (.pick (.t 5) (.t 0) (.c (.bool false))),.t 0],[(5,0)],[2,3,4],none⟩)
 .ret))))}
abbrev akF:IC:=(.seq (.block 1 (.seq (.seq (.aa ⟨[.v 4,.p (.fI I9 [(.t 0)]),.t 0,.p (.ext (.t 0) 0),.p (.ext (.t 1) 1),.p (.oD fe (some 10)),.p (.st (.t 0) (.t 2) 10),.t 2],[(6,2),(5,0)],[],none⟩) (.lB 6))
 (.seq (.seq (.aa ⟨[.v 5,.p (.bin .neq (.t 0) (.c (.int (0))))],[],[],some (37,0)⟩)
 (.cond 37 (.seq (.aa ⟨[.p (.jK fe []),.v 5,.p (.st (.v 3) (.t 1) 10),.k 0,.t 2],[(13,1),(14,0)],[1,4,5,6,10],none⟩)
 .ret) .skip))
 (.seq (.aa ⟨[.p (.ld (.v 6) (some 10)),.p (.bj (.v 1) (some 10)),.p (.bW Ja [(.t 1),(.t 0)]),.t 0,.p (.ext (.t 0) 0),.p (.ext (.t 1) 1),.p (.ext (.t 2) 2),.t 2,.t 2,.t 2],[(11,2),(7,1),(5,0)],[],none⟩)
 (.seq (.seq (.aa ⟨[.v 5,.p (.bin .neq (.t 0) (.c (.int (0))))],[],[],some (48,0)⟩)
 (.cond 48 (.seq (.aa ⟨[.p (.jK fe []),.v 5,.p (.st (.v 3) (.t 1) 10),.k 0,.t 2],[(13,1),(14,0)],[1,4,5,6,7,10,11],none⟩)
 .ret) .skip))
 (.seq (.seq (.aa ⟨[.v 7,.p (.not (.t 0))],[],[5,7],some (52,0)⟩)
 (.cond 52 (.seq (.aa ⟨[.p (.ld (.v 6) (some 10)),.p (.bW rM [(.t 0)]),.t 0,.p (.ext (.t 0) 0),.p (.ext (.t 1) 1),.p (.gH 10),.p (.kK (.t 0) (.t 2) 10),.t 2],[(9,1),(8,0)],[1,4,6,11],none⟩)
 (.seq (.seq (.aa ⟨[.v 8,.p (.bin .neq (.t 0) (.c (.int (0))))],[],[],some (59,0)⟩)
 (.cond 59 (.seq (.aa ⟨[.p (.jK fe []),.v 8,.p (.st (.v 3) (.t 1) 10),.k 0,.t 2],[(13,1),(14,0)],[8,9,10],none⟩)
 .ret) .skip))
 (.seq (.aa ⟨[.p (.bj (.v 9) (some 10)),.v 10,.p (.st (.v 3) (.t 1) 10),.t 1,.k 0],[(13,1),(14,0)],[8,9,10],none⟩)
 .ret))) .skip))
 (.seq (.aa ⟨[.v 4,.p (.ld (.v 6) (some 10)),.v 11,.p (.fI akD [(.t 2),(.t 1),(.t 0)]),.t 0],[(12,0)],[6,11],none⟩)
 (.seq (.aa ⟨[.v 12,.p (.bin .neq (.t 0) (.c (.int (0))))],[],[],some (69,0)⟩)
 (.cond 69 (.seq (.aa ⟨[.p (.jK fe []),.v 12,.p (.st (.v 3) (.t 1) 10),.k 0,.t 2],[(13,1),(14,0)],[1,4,10,12],none⟩)
 .ret) .skip)))))))))
 (.aa ⟨[.v 10,.p (.bin .add (.t 0) (.c (.int (1)))),.t 0],[(10,0)],[12],none⟩))
abbrev Dq:Fn:={np:=1,nv:=15,res:=[(3,some (some 10)),(13,none),(14,none)],body:=
(.seq (.aa ⟨[.p (.gj (.v 0)),.p (.oD fe (some 10)),.k 0,.k 0],[(1,3),(3,2)],[0,13,14],none⟩)
 (.seq (.seq (.aa ⟨[.p (.bj (.v 1) (some 10)),.p (.bW uN [(.t 0)]),.t 0],[(2,0)],[],none⟩)
 (.seq (.aa ⟨[.v 2,.p (.bin .neq (.t 0) (.c (.int (0))))],[],[],some (18,0)⟩)
 (.cond 18 (.seq (.aa ⟨[.p (.jK fe []),.v 2,.p (.st (.v 3) (.t 1) 10),.k 0,.t 2],[(13,1),(14,0)],[1,2],none⟩)
 .ret) .skip)))
 (.seq (.aa ⟨[.p (.bj (.v 1) (some 10)),.p (.cd [] 1),.p (.cd [(.t 0)] 1),.p (.jK [.str [],.str []] []),.p (.mz [(.t 0)] (some 2)),.p (.yl),.p (.jK [.int 0,.int 0,.int 0,.int 0,.int 0,.ah,.ah,.ah,.ah,.ah,.ah,.ah,.qb] [(0,10,(.t 5)),(10,1,(.t 3)),(11,1,(.t 1)),(12,1,(.t 0))]),.p (.vg (.t 0) (some 13)),.t 0],[(4,0)],[2],none⟩)
 (.seq (.aa ⟨[.k 1],[(10,0)],[],none⟩)
 (.block 0 (.loop akF))))))}
abbrev akG:IC:=(.seq (.seq (.aa ⟨[.v 3,.f 1 5,.l,.n,.p (.bin .lss (.t 3) (.t 0))],[],[],some (15,0)⟩)
 (.cond 15 .skip (.exit 0)))
 (.seq (.block 1 (.seq (.aa ⟨[.p (.bj (.v 1) (some 10)),.v 3,.p (.bW Jc [(.t 1),(.t 0)]),.t 0],[(4,0)],[],none⟩)
 (.seq (.aa ⟨[.v 4,.p (.bin .neq (.t 0) (.c (.int (0))))],[],[],some (22,0)⟩)
 (.cond 22 (.seq (.aa ⟨[.v 4,.t 0],[(5,0)],[1,3,4],none⟩)
 .ret) .skip))))
 (.aa ⟨[.v 3,.p (.bin .add (.t 0) (.c (.int (1)))),.t 0],[(3,0)],[4],none⟩)))
abbrev Dr:Fn:={np:=1,nv:=6,res:=[(5,none)],body:=
(.seq (.aa ⟨[.p (.gj (.v 0)),.k 0],[(1,1)],[0,5],none⟩)
 (.seq (.seq (.aa ⟨[.p (.bj (.v 1) (some 10)),.p (.bW Jb [(.t 0)]),.t 0],[(2,0)],[],none⟩)
 (.seq (.aa ⟨[.v 2,.p (.bin .neq (.t 0) (.c (.int (0))))],[],[],some (9,0)⟩)
 (.cond 9 (.seq (.aa ⟨[.v 2,.t 0],[(5,0)],[1,2],none⟩)
 .ret) .skip)))
 (.seq (.seq (.aa ⟨[.k 0],[(3,0)],[2],none⟩)
 (.block 0 (.loop akG)))
 (.seq (.aa ⟨[.k 0],[(5,0)],[1,3],none⟩)
 .ret))))}
abbrev akH:IC:=(.seq (.seq (.aa ⟨[.v 3,.f 1 0,.l,.p (.bin .lss (.t 2) (.t 0))],[],[],some (30,0)⟩)
 (.cond 30 .skip (.exit 2)))
 (.seq (.block 3 (.seq (.aa ⟨[.f 1 6,.l,.v 2,.i,.l,.v 3,.i,.l,.p (.bin .neq (.t 0) (.c (.int (0)))),.t 0,.y 0 (.bD (.v 1) 7 none),.y 1 (.bj (.t 0) none),.y 2 (.mv (.v 2)),.y 3 (.bP (.t 1) (.t 0) 1),.y 4 (.bj (.t 0) none),.y 5 (.mv (.v 3)),.y 6 (.bP (.t 1) (.t 0) 1),.y 7 (.bj (.t 0) none),.y 8 (.mv (.v 2)),.y 9 (.bD (.v 1) 0 none),.y 10 (.bj (.t 0) none),.y 11 (.bin .mul (.t 2) (.t 0)),.y 12 (.mv (.v 3)),.y 13 (.bin .add (.t 1) (.t 0)),.y 14 (.bin .neq (.t 6) (.t 0)),.p (.pick (.t 15) (.c (.bool true)) (.t 0))],[],[],some (58,0)⟩)
 (.cond 58 (.seq (.aa ⟨[.b],[(4,0)],[1,2,3],none⟩)
 .ret) .skip)))
 (.aa ⟨[.v 3,.p (.bin .add (.t 0) (.c (.int (1)))),.t 0],[(3,0)],[],none⟩)))
abbrev akI:IC:=(.seq (.seq (.aa ⟨[.v 2,.f 1 5,.l,.n,.p (.bin .lss (.t 3) (.t 0))],[],[],some (24,0)⟩)
 (.cond 24 .skip (.exit 0)))
 (.seq (.block 1 (.seq (.aa ⟨[.k 0],[(3,0)],[],none⟩)
 (.block 2 (.loop akH))))
 (.aa ⟨[.v 2,.p (.bin .add (.t 0) (.c (.int (1)))),.t 0],[(2,0)],[3],none⟩)))
abbrev Ds:Fn:={np:=1,nv:=5,res:=[(4,none)],body:=
(.seq (.aa ⟨[.p (.gj (.v 0)),.b],[(1,1)],[0,4],none⟩)
 (.seq (.seq (.aa ⟨[.f 1 4,.l,.p (.bin .neq (.t 0) (.c (.int (0)))),.t 0,.y 0 (.bD (.v 1) 3 none),.y 1 (.bj (.t 0) none),.y 2 (.bD (.v 1) 5 none),.y 3 (.bj (.t 0) none),.y 4 (.len (.t 0)),.y 5 (.bD (.v 1) 0 none),.y 6 (.bj (.t 0) none),.y 7 (.bin .mul (.t 2) (.t 0)),.y 8 (.mx true (.c (.int (1))) (.t 0)),.y 9 (.bin .neq (.t 7) (.t 0)),.p (.pick (.t 10) (.c (.bool true)) (.t 0))],[],[],some (19,0)⟩)
 (.cond 19 (.seq (.aa ⟨[.b],[(4,0)],[1],none⟩)
 .ret) .skip))
 (.seq (.seq (.aa ⟨[.k 0],[(2,0)],[],none⟩)
 (.block 0 (.loop akI)))
 (.seq (.aa ⟨[.p (.mv (.c (.bool true)))],[(4,0)],[1,2],none⟩)
 .ret))))}
abbrev Dt:Fn:={np:=2,nv:=8,res:=[(6,none),(7,none)],body:=
(.seq (.aa ⟨[.p (.gj (.v 0)),.b,.k 0],[(2,2)],[0,6,7],none⟩)
 (.seq (.seq (.aa ⟨[.p (.bj (.v 2) (some 10)),.p (.bW zz [(.t 0)]),.t 0],[(3,0)],[],none⟩)
 (.seq (.aa ⟨[.v 3,.p (.bin .neq (.t 0) (.c (.int (0))))],[],[],some (14,0)⟩)
 (.cond 14 (.seq (.aa ⟨[.v 3,.b,.t 1],[(6,1),(7,0)],[1,2,3],none⟩)
 .ret) .skip)))
 (.seq (.seq (.aa ⟨[.v 1,.p (.bj (.v 2) (some 10)),.p (.bW wS [(.t 0)]),.p (.bW wR [(.t 2),(.t 0)]),.t 0],[(4,0)],[3],none⟩)
 (.seq (.aa ⟨[.v 4,.p (.bin .neq (.t 0) (.c (.int (0))))],[],[],some (21,0)⟩)
 (.cond 21 (.seq (.aa ⟨[.v 4,.b,.t 1],[(6,1),(7,0)],[1,2,4],none⟩)
 .ret) .skip)))
 (.seq (.seq (.aa ⟨[.p (.bj (.v 2) (some 10)),.v 1,.p (.bW EB [(.t 1),(.t 0)]),.t 0,.p (.ext (.t 0) 0),.p (.ext (.t 1) 1),.p (.ext (.t 2) 2),.t 2,.t 2,.t 2],[(5,2)],[4],none⟩)
 (.seq (.aa ⟨[.v 5,.p (.bin .gtr (.t 0) (.c (.int (64))))],[],[5],some (31,0)⟩)
 (.cond 31 (.seq (.aa ⟨[.b,.k 16],[(6,1),(7,0)],[1,2],none⟩)
 .ret) .skip)))
 (.seq (.aa ⟨[.p (.bj (.v 2) (some 10)),.v 1,.p (.bW zB [(.t 1),(.t 0)]),.t 0,.x 0 (.bD (.v 2) 5 none),.x 1 (.bj (.t 0) none),.x 2 (.bj (.v 2) (some 10)),.x 3 (.bD (.v 2) 4 none),.x 4 (.bj (.t 0) none),.x 5 (.mv (.v 1)),.x 6 (.bW Jd [(.t 3),(.t 1),(.t 0)]),.x 7 (.bP (.t 5) (.t 0) 1),.x 8 (.bj (.t 0) none),.p (.pick (.t 9) (.t 0) (.c (.bool false))),.t 0,.k 0],[(6,1),(7,0)],[1,2],none⟩)
 .ret)))))}
abbrev akJ:IC:=(.seq (.aa ⟨[.c 7 8],[],[],some (46,0)⟩)
 (.seq (.cond 46 .skip (.exit 0))
 (.seq (.block 1 (.seq (.aa ⟨[.p (.bP (.v 9) (.v 7) 1),.d,.t 0],[(10,0)],[],none⟩)
 (.block 2 (.seq (.aa ⟨[.v 10,.f 2 0,.l,.p (.bin .lss (.t 2) (.t 0)),.t 0],[],[],some (60,0)⟩)
 (.cond 60 (.seq (.aa ⟨[.p (.bj (.v 11) (some 10)),.v 12,.v 10,.p (.bW tj [(.t 2),(.t 1),(.t 0)]),.t 0,.p (.ext (.t 0) 0),.p (.ext (.t 1) 1),.t 1,.t 1],[(15,1),(13,0)],[10,12],none⟩)
 (.seq (.aa ⟨[.v 13,.p (.fI Je [(.v 14),(.t 0)])],[],[13],none⟩)
 (.aa ⟨[.v 15,.t 0],[(12,0)],[15],none⟩))) (.seq (.aa ⟨[.v 10,.f 2 0,.l,.f 2 1,.l,.p (.bin .add (.t 2) (.t 0)),.p (.bin .lss (.t 5) (.t 0)),.t 0],[],[],some (75,0)⟩)
 (.cond 75 (.aa ⟨[.p (.bj (.v 11) (some 10)),.v 12,.v 10,.f 2 0,.l,.p (.bin .sub (.t 2) (.t 0)),.p (.bW th [(.t 5),(.t 4),(.t 0)]),.t 0],[(12,0)],[10],none⟩) (.aa ⟨[.p (.bj (.v 11) (some 10)),.v 12,.p (.fI wO [(.v 14)]),.v 10,.f 2 0,.l,.p (.bin .sub (.t 2) (.t 0)),.f 2 1,.l,.p (.bin .sub (.t 2) (.t 0)),.p (.bW tm [(.t 9),(.t 8),(.t 7),(.t 0)]),.t 0],[(12,0)],[10],none⟩))))))))
 (.aa ⟨[.p (.bin .add (.v 7) (.c (.int (1)))),.t 0],[(7,0)],[],none⟩))))
abbrev Du:Fn:={np:=2,nv:=18,res:=[(16,none),(17,none)],body:=
(.seq (.aa ⟨[.p (.gj (.v 0)),.b,.k 0],[(2,2)],[0,16,17],none⟩)
 (.seq (.seq (.aa ⟨[.p (.bj (.v 2) (some 10)),.p (.bW uN [(.t 0)]),.t 0],[(3,0)],[],none⟩)
 (.seq (.aa ⟨[.v 3,.p (.bin .neq (.t 0) (.c (.int (0))))],[],[],some (20,0)⟩)
 (.cond 20 (.seq (.aa ⟨[.v 3,.b,.t 1],[(16,1),(17,0)],[1,2,3],none⟩)
 .ret) .skip)))
 (.seq (.seq (.aa ⟨[.v 1,.p (.bj (.v 2) (some 10)),.p (.bW zC [(.t 0)]),.p (.bW EC [(.t 2),(.t 0)]),.t 0],[(4,0)],[3],none⟩)
 (.seq (.aa ⟨[.v 4,.p (.bin .neq (.t 0) (.c (.int (0))))],[],[],some (27,0)⟩)
 (.cond 27 (.seq (.aa ⟨[.v 4,.b,.t 1],[(16,1),(17,0)],[1,2,4],none⟩)
 .ret) .skip)))
 (.seq (.aa ⟨[.p (.bj (.v 2) (some 10)),.v 1,.p (.bW ED [(.t 1),(.t 0)]),.t 0,.p (.ext (.t 0) 0),.p (.ext (.t 1) 1),.t 1,.t 1],[(5,1),(6,0)],[4],none⟩)
 (.seq (.seq (.aa ⟨[.v 5,.p (.bin .gtr (.t 0) (.c (.int (64))))],[],[5],some (36,0)⟩)
 (.cond 36 (.seq (.aa ⟨[.b,.k 16],[(16,1),(17,0)],[1,2,6],none⟩)
 .ret) .skip))
 (.seq (.seq (.aa ⟨[.v 6,.p (.not (.t 0))],[],[6],some (38,0)⟩)
 (.cond 38 (.seq (.aa ⟨[.b,.k 0],[(16,1),(17,0)],[1,2],none⟩)
 .ret) .skip))
 (.seq (.aa ⟨[.p (.oD [.ah] (some 1))],[(14,0)],[],none⟩)
 (.seq (.aa ⟨[.p (.bj (.v 2) (some 10)),.p (.jK fe [(0,10,(.t 0))]),.p (.gH 10),.p (.kK (.t 0) (.t 1) 10)],[(11,0)],[],none⟩)
 (.seq (.aa ⟨[.f 2 4,.l,.t 0],[(12,0)],[],none⟩)
 (.seq (.seq (.aa ⟨[.v 1,.n,.k 0],[(9,2),(8,1),(7,0)],[1],none⟩)
 (.block 0 (.loop akJ)))
 (.seq (.aa ⟨[.f 2 5,.l,.v 12,.i,.l,.t 0,.k 0],[(16,1),(17,0)],[2,7,8,9,11,12,14],none⟩)
 .ret)))))))))))}
abbrev Dw:Fn:={np:=1,nv:=3,res:=[(2,none)],body:=
(.seq (.aa ⟨[.p (.gj (.v 0)),.b],[(1,1)],[0,2],none⟩)
 (.seq (.aa ⟨[.f 1 5,.l,.n,.p (.bin .leq (.t 0) (.c (.int (5)))),.t 0,.x 0 (.bD (.v 1) 3 none),.x 1 (.bj (.t 0) none),.x 2 (.bin .leq (.t 0) (.c (.int (6)))),.p (.pick (.t 3) (.t 0) (.c (.bool false))),.t 0,.x 0 (.bD (.v 1) 0 none),.x 1 (.bj (.t 0) none),.x 2 (.bin .leq (.t 0) (.c (.int (6)))),.p (.pick (.t 3) (.t 0) (.c (.bool false))),.t 0,.x 0 (.bD (.v 1) 1 none),.x 1 (.bj (.t 0) none),.x 2 (.bin .leq (.t 0) (.c (.int (6)))),.p (.pick (.t 3) (.t 0) (.c (.bool false))),.t 0,.x 0 (.bD (.v 1) 2 none),.x 1 (.bj (.t 0) none),.x 2 (.bin .leq (.t 0) (.c (.int (6)))),.p (.pick (.t 3) (.t 0) (.c (.bool false))),.t 0,.x 0 (.bD (.v 1) 0 none),.x 1 (.bj (.t 0) none),.x 2 (.bD (.v 1) 1 none),.x 3 (.bj (.t 0) none),.x 4 (.bin .uw (.t 2) (.t 0)),.x 5 (.bD (.v 1) 2 none),.x 6 (.bj (.t 0) none),.x 7 (.bin .uw (.t 2) (.t 0)),.x 8 (.bin .leq (.t 0) (.c (.int (6)))),.p (.pick (.t 9) (.t 0) (.c (.bool false))),.t 0],[(2,0)],[1],none⟩)
 .ret))}
abbrev Dx:Fn:={np:=0,nv:=1,res:=[(0,some (some 10))],body:=
(.seq (.aa ⟨[.p (.oD fe (some 10))],[(0,0)],[],none⟩)
 (.seq (.aa ⟨[.p (.cd [(.c (.bool true)),(.c (.bool false))] 1),.p (.cd [(.c (.int (0))),(.c (.int (0)))] 1),.p (.cd [(.c (.int (1))),(.c (.int (1)))] 1),.p (.cd [(.t 1),(.t 0)] 1),.p (.cd [(.c (.int (0))),(.c (.int (1)))] 1),.p (.cd [(.c (.int (0))),(.c (.int (0)))] 1),.p (.cd [(.t 1),(.t 0)] 1),.p (.cd [] 1),.p (.cd [] 1),.p (.cd [(.t 1),(.t 0)] 1),.p (.cd [(.c (.int (0))),(.c (.int (1)))] 1),.p (.cd [(.c (.int (1))),(.c (.int (0)))] 1),.p (.cd [(.t 1),(.t 0)] 1),.p (.cd [(.c (.int (1))),(.c (.int (1)))] 1),.p (.cd [(.c (.int (1))),(.c (.int (1)))] 1),.p (.cd [(.t 1),(.t 0)] 1),.p (.cd [(.t 3),(.t 0)] 1),.p (.jK fe [(0,1,(.c (.int (2)))),(2,1,(.c (.int (2)))),(3,1,(.c (.int (2)))),(5,1,(.t 16)),(6,1,(.t 13)),(7,1,(.t 10)),(8,1,(.t 7)),(9,1,(.t 0))]),.p (.st (.v 0) (.t 0) 10)],[],[],none⟩)
 .ret))}
abbrev Dy:Fn:={np:=0,nv:=2,res:=[(1,some (some 10))],body:=
(.seq (.aa ⟨[.p (.oD fe (some 10))],[(1,0)],[],none⟩)
 (.seq (.aa ⟨[.p (.cd [(.c (.int (1))),(.c (.int (1)))] 1),.p (.cd [(.c (.int (1))),(.c (.int (1)))] 1),.p (.cd [(.c (.int (1))),(.c (.int (1)))] 1),.p (.cd [(.c (.int (1))),(.c (.int (1)))] 1),.p (.cd [(.t 3),(.t 2),(.t 1),(.t 0)] 1),.t 0],[(0,0)],[],none⟩)
 (.seq (.aa ⟨[.p (.cd [(.c (.bool true)),(.c (.bool false))] 1),.p (.cd [(.c (.int (0))),(.c (.int (0)))] 1),.p (.cd [(.c (.int (0))),(.c (.int (0)))] 1),.p (.cd [(.t 1),(.t 0)] 1),.p (.cd [(.c (.int (0))),(.c (.int (1)))] 1),.p (.cd [(.c (.int (2))),(.c (.int (3)))] 1),.p (.cd [(.t 1),(.t 0)] 1),.p (.cd [] 1),.p (.cd [] 1),.p (.cd [(.t 1),(.t 0)] 1),.p (.cd [(.c (.int (0))),(.c (.int (1)))] 1),.p (.cd [(.c (.int (1))),(.c (.int (0)))] 1),.p (.cd [(.c (.int (1))),(.c (.int (1)))] 1),.p (.cd [(.c (.int (1))),(.c (.int (1)))] 1),.p (.cd [(.t 3),(.t 2),(.t 1),(.t 0)] 1),.v 0,.p (.cd [(.t 1),(.t 0)] 1),.p (.jK fe [(0,1,(.c (.int (2)))),(2,1,(.c (.int (2)))),(3,1,(.c (.int (4)))),(5,1,(.t 16)),(6,1,(.t 13)),(7,1,(.t 10)),(8,1,(.t 7)),(9,1,(.t 0))]),.p (.st (.v 1) (.t 0) 10)],[],[0],none⟩)
 .ret)))}
abbrev akK:IC:=(.seq (.aa ⟨[.c 3 4],[],[],some (82,0)⟩)
 (.seq (.cond 82 .skip (.exit 1))
 (.seq (.block 2 (.seq (.aa ⟨[.v 3,.t 0],[(5,0)],[],none⟩)
 (.seq (.aa ⟨[.p (.bj (.v 1) (some 10)),.v 5,.p (.bW Jf [(.t 1),(.t 0)]),.t 0],[(6,0)],[5],none⟩)
 (.seq (.aa ⟨[.v 6,.p (.bin .neq (.t 0) (.c (.int (0))))],[],[],some (88,0)⟩)
 (.cond 88 (.seq (.aa ⟨[.v 6,.t 0],[(7,0)],[1,3,4,6],none⟩)
 .ret) .skip)))))
 (.aa ⟨[.p (.bin .add (.v 3) (.c (.int (1)))),.t 0],[(3,0)],[6],none⟩))))
abbrev Dz:Fn:={np:=1,nv:=8,res:=[(7,none)],body:=
(.seq (.aa ⟨[.p (.gj (.v 0)),.k 0],[(1,1)],[0,7],none⟩)
 (.seq (.aa ⟨[.f 1 5,.l,.n,.t 0],[(2,0)],[],none⟩)
 (.seq (.block 0 (.seq (.aa ⟨[.f 1 0,.l,.f 1 1,.l,.f 1 2,.l,.p (.cd [(.t 4),(.t 2),(.t 0)] 1),.p (.bW tn [(.t 0),(.c (.int (65)))]),.t 0],[],[],some (9,0)⟩)
 (.cond 9 (.seq (.aa ⟨[.k 2],[(7,0)],[1,2],none⟩)
 .ret) (.seq (.aa ⟨[.p (.bj (.v 1) (some 10)),.p (.bW zC [(.t 0)]),.p (.bin .lss (.t 0) (.c (.int (1)))),.t 0,.y 0 (.bj (.v 1) (some 10)),.y 1 (.bW zC [(.t 0)]),.y 2 (.bin .gtr (.t 0) (.c (.int (64)))),.p (.pick (.t 3) (.c (.bool true)) (.t 0)),.t 0,.y 0 (.bD (.v 1) 3 none),.y 1 (.bj (.t 0) none),.y 2 (.bin .lss (.t 0) (.c (.int (1)))),.p (.pick (.t 3) (.c (.bool true)) (.t 0)),.t 0,.y 0 (.bD (.v 1) 3 none),.y 1 (.bj (.t 0) none),.y 2 (.bin .gtr (.t 0) (.c (.int (128)))),.p (.pick (.t 3) (.c (.bool true)) (.t 0)),.t 0],[],[],some (18,0)⟩)
 (.cond 18 (.seq (.aa ⟨[.k 2],[(7,0)],[1,2],none⟩)
 .ret) (.seq (.aa ⟨[.v 2,.p (.bin .eql (.t 0) (.c (.int (0)))),.t 0],[],[],some (37,0)⟩)
 (.cond 37 (.seq (.aa ⟨[.k 19],[(7,0)],[1,2],none⟩)
 .ret) (.seq (.aa ⟨[.v 2,.p (.bin .gtr (.t 0) (.c (.int (128)))),.t 0],[],[],some (40,0)⟩)
 (.cond 40 (.seq (.aa ⟨[.k 11],[(7,0)],[1,2],none⟩)
 .ret) (.seq (.aa ⟨[.f 1 4,.l,.p (.bin .lss (.t 0) (.c (.int (0)))),.t 0,.y 0 (.bD (.v 1) 4 none),.y 1 (.bj (.t 0) none),.y 2 (.mv (.v 2)),.y 3 (.bin .geq (.t 1) (.t 0)),.p (.pick (.t 4) (.c (.bool true)) (.t 0)),.t 0],[],[],some (43,0)⟩)
 (.cond 43 (.seq (.aa ⟨[.k 2],[(7,0)],[1,2],none⟩)
 .ret) (.seq (.aa ⟨[.f 1 6,.l,.n,.v 2,.p (.bin .neq (.t 1) (.t 0)),.t 0,.y 0 (.bD (.v 1) 7 none),.y 1 (.bj (.t 0) none),.y 2 (.len (.t 0)),.y 3 (.mv (.v 2)),.y 4 (.bin .neq (.t 1) (.t 0)),.p (.pick (.t 5) (.c (.bool true)) (.t 0)),.t 0,.y 0 (.bD (.v 1) 8 none),.y 1 (.bj (.t 0) none),.y 2 (.len (.t 0)),.y 3 (.mv (.v 2)),.y 4 (.bin .neq (.t 1) (.t 0)),.p (.pick (.t 5) (.c (.bool true)) (.t 0)),.t 0,.y 0 (.bD (.v 1) 9 none),.y 1 (.bj (.t 0) none),.y 2 (.len (.t 0)),.y 3 (.mv (.v 2)),.y 4 (.bin .neq (.t 1) (.t 0)),.p (.pick (.t 5) (.c (.bool true)) (.t 0)),.t 0],[],[],some (53,0)⟩)
 (.cond 53 (.seq (.aa ⟨[.k 1],[(7,0)],[1,2],none⟩)
 .ret) .skip)))))))))))))
 (.seq (.seq (.aa ⟨[.v 2,.k 0],[(4,1),(3,0)],[2],none⟩)
 (.block 1 (.loop akK)))
 (.seq (.aa ⟨[.k 0],[(7,0)],[1,3,4],none⟩)
 .ret)))))}
abbrev akL:IC:=(.seq (.aa ⟨[.c 3 4],[],[],some (22,0)⟩)
 (.seq (.cond 22 .skip (.exit 0))
 (.seq (.block 1 (.seq (.aa ⟨[.v 3,.p (.bP (.v 5) (.v 3) 1),.d,.t 2,.t 1],[(7,1),(6,0)],[],none⟩)
 (.aa ⟨[.v 2,.q,.h 0 11,.d,.v 6,.v 7,.p (.bP (.t 2) (.t 1) 1),.p (.st (.t 0) (.t 1) 1)],[],[6,7],none⟩)))
 (.aa ⟨[.p (.bin .add (.v 3) (.c (.int (1)))),.t 0],[(3,0)],[],none⟩))))
abbrev DA:Fn:={np:=1,nv:=9,res:=[(8,none)],body:=
(.seq (.aa ⟨[.p (.gj (.v 0)),.p (.mv (.c (.iw)))],[(1,1)],[0,8],none⟩)
 (.seq (.aa ⟨[.p (.bj (.v 1) (some 10)),.p (.bj (.v 1) (some 10)),.p (.bW Jg [(.t 0)]),.f 1 5,.l,.n,.p (.jV (.t 0) (.t 0) [.int 0] none),.p (.yl),.p (.jK [.int 0,.int 0,.int 0,.int 0,.int 0,.ah,.ah,.ah,.ah,.ah,.ah,.ah,.ah,.qb,.ah,.ah] [(0,10,(.t 7)),(10,1,(.t 5)),(11,1,(.t 1)),(13,1,(.t 0))]),.p (.vg (.t 0) (some 16)),.t 0],[(2,0)],[1],none⟩)
 (.seq (.seq (.aa ⟨[.v 2,.q,.h 0 10,.d,.n,.k 0],[(5,2),(4,1),(3,0)],[],none⟩)
 (.block 0 (.loop akL)))
 (.seq (.aa ⟨[.v 2,.v 2,.q,.h 0 10,.d,.p (.bW uK [(.t 0)]),.p (.fI wT [(.t 5),(.t 0)])],[],[3,4,5],none⟩)
 (.seq (.aa ⟨[.v 2,.t 0],[(8,0)],[2],none⟩)
 .ret)))))}
abbrev Sb:gh:=⟨[.v 1,.v 0,.q,.h 0 12,.d,.n,.p (.bin .lss (.t 5) (.t 0))],[],[],some (14,0)⟩
abbrev Sc:gh:=⟨[.p (.nl none)],[(4,0)],[],none⟩
abbrev Sd:gh:=⟨[.v 0,.q,.p (.bD (.t 0) 0 (some 10)),.h 0 1,.d,.k 0],[(3,1),(2,0)],[],none⟩
abbrev Se:IC:=(.seq (.aa ⟨[.c 2 3],[],[],some (23,0)⟩)
 (.seq (.cond 23 .skip (.exit 2))
 (.seq (.block 3 (.seq (.aa ⟨[.v 2,.t 0],[(5,0)],[],none⟩)
 (.aa ⟨[.v 4,.v 0,.v 0,.v 1,.v 5,.p (.tS Ji [(.t 2),(.t 1),(.t 0)]),.p (.fI wT [(.t 4),(.t 0)]),.p (.dE [(.t 0)] 1),.p (.df (.t 7) (.t 0) none),.t 0],[(4,0)],[5],none⟩)))
 (.aa ⟨[.p (.bin .add (.v 2) (.c (.int (1)))),.t 0],[(2,0)],[],none⟩))))
abbrev Sf:gh:=⟨[.v 0,.v 0,.q,.h 0 14,.d,.v 4,.p (.dE [(.t 0)] 1),.p (.df (.t 2) (.t 0) none),.p (.oT (.t 7)),.h 0 14,.p (.st (.t 0) (.t 2) 1)],[],[2,3,4],none⟩
abbrev Sg:gh:=⟨[.v 0,.v 0,.q,.h 0 15,.d,.v 0,.q,.p (.bD (.t 0) 0 (some 10)),.h 0 0,.d,.p (.jV (.t 0) (.t 0) [.ah] none),.p (.dE [(.t 0)] 1),.p (.app (.t 7) (.t 0) none),.p (.oT (.t 12)),.h 0 15,.p (.st (.t 0) (.t 2) 1)],[],[],none⟩
abbrev Sh:gh:=⟨[.v 1,.p (.bin .add (.t 0) (.c (.int (1)))),.k 0],[(7,1),(6,0)],[],none⟩
abbrev akM:IC:=(.seq (.aa ⟨[.c 8 9],[],[],some (71,0)⟩)
 (.seq (.cond 71 .skip (.exit 6))
 (.seq (.block 7 (.seq (.aa ⟨[.v 8,.t 0],[(10,0)],[],none⟩)
 (.seq (.aa ⟨[.v 0,.v 1,.v 10,.v 11,.p (.fI zD [(.t 3),(.t 2),(.t 1),(.t 0)])],[],[],none⟩)
 (.seq (.seq (.aa ⟨[.v 11,.v 1,.p (.bin .lss (.t 1) (.t 0))],[],[],some (80,0)⟩)
 (.cond 80 (.aa ⟨[.v 0,.v 11,.v 10,.v 1,.p (.fI zD [(.t 3),(.t 2),(.t 1),(.t 0)])],[],[10],none⟩) .skip))
 (.seq (.aa ⟨[.v 0,.q,.h 0 12,.d,.n,.p (.bin .gtr (.t 0) (.c (.int (512))))],[],[10],some (91,0)⟩)
 (.cond 91 (.seq (.aa ⟨[.b],[(12,0)],[0,1,6,7,8,9,11],none⟩)
 .ret) .skip))))))
 (.aa ⟨[.p (.bin .add (.v 8) (.c (.int (1)))),.t 0],[(8,0)],[],none⟩))))
abbrev Si:IC:=(.seq (.aa ⟨[.c 6 7],[],[],some (63,0)⟩)
 (.seq (.cond 63 .skip (.exit 4))
 (.seq (.block 5 (.seq (.aa ⟨[.v 6,.t 0],[(11,0)],[],none⟩)
 (.seq (.aa ⟨[.v 0,.q,.p (.bD (.t 0) 0 (some 10)),.h 0 0,.d,.k 0],[(9,1),(8,0)],[],none⟩)
 (.block 6 (.loop akM)))))
 (.aa ⟨[.p (.bin .add (.v 6) (.c (.int (1)))),.t 0],[(6,0)],[8,9,11],none⟩))))
abbrev Sj:gh:=⟨[.v 0,.q,.h 0 12,.d,.n,.p (.bin .gtr (.t 0) (.c (.int (512))))],[],[6,7],some (99,0)⟩
abbrev Sl:gh:=⟨[.b],[(12,0)],[0,1],none⟩
abbrev Sp:gh:=⟨[.v 1,.p (.bin .add (.t 0) (.c (.int (1)))),.t 0],[(1,0)],[],none⟩
abbrev akN:IC:=(.seq (.seq (.aa Sb)
 (.cond 14 .skip (.exit 0)))
 (.seq (.block 1 (.seq (.aa Sc)
 (.seq (.seq (.aa Sd)
 (.seq (.block 2 (.loop Se)) (.lB 4)))
 (.seq (.aa Sf)
 (.seq (.aa Sg)
 (.seq (.seq (.aa Sh)
 (.block 4 (.loop Si)))
 (.seq (.aa Sj)
 (.cond 99 (.seq (.aa Sl)
 .ret) .skip))))))))
 (.aa Sp)))
abbrev DB:Fn:={np:=1,nv:=13,res:=[(12,none)],body:=
(.seq (.aa ⟨[.b],[],[12],none⟩)
 (.seq (.seq (.aa ⟨[.k 0],[(1,0)],[],none⟩)
 (.block 0 (.loop akN)))
 (.seq (.aa ⟨[.p (.mv (.c (.bool true)))],[(12,0)],[0,1],none⟩)
 .ret)))}
abbrev akO:IC:=(.seq (.aa ⟨[.c 1 2],[],[],some (34,0)⟩)
 (.seq (.cond 34 .skip (.exit 0))
 (.seq (.block 1 (.seq (.aa ⟨[.v 1,.p (.bP (.v 3) (.v 1) 1),.d,.t 2,.t 1],[(7,1),(4,0)],[],none⟩)
 (.seq (.seq (.aa ⟨[.v 0,.q,.p (.bD (.t 0) 0 (some 10)),.h 0 5,.d,.v 4,.v 5,.i,.d,.p (.bP (.t 4) (.t 0) 1),.d,.v 0,.q,.p (.bD (.t 0) 0 (some 10)),.h 0 5,.d,.v 0,.q,.h 0 12,.d,.p (.bP (.t 0) (.c (.int (0))) 1),.d,.v 5,.i,.d,.p (.bP (.t 9) (.t 0) 1),.d,.p (.beq true (.t 16) (.t 0))],[],[4],some (65,0)⟩)
 (.cond 65 (.aa ⟨[.v 6,.v 7,.i,.p (.st (.t 0) (.c (.int (1))) 1)],[],[],none⟩) .skip))
 (.aa ⟨[.v 8,.v 6,.v 7,.i,.d,.p (.bin .add (.t 0) (.c (.int (1)))),.p (.mx true (.t 5) (.t 0)),.t 0],[(8,0)],[7],none⟩))))
 (.aa ⟨[.p (.bin .add (.v 1) (.c (.int (1)))),.t 0],[(1,0)],[],none⟩))))
abbrev akP:IC:=(.block 3 (.seq (.aa ⟨[.v 0,.v 6,.p (.bW Jj [(.t 1),(.t 0)]),.t 0,.p (.ext (.t 0) 0),.p (.ext (.t 1) 1),.t 1,.t 1],[(10,1),(9,0)],[1,2,3,5],none⟩)
 (.seq (.seq (.aa ⟨[.v 9,.v 8,.p (.bin .eql (.t 1) (.t 0))],[],[8],some (85,0)⟩)
 (.cond 85 (.seq (.aa ⟨[.v 6,.v 9,.t 1,.t 1],[(11,1),(12,0)],[0,6,9,10],none⟩)
 .ret) .skip))
 (.aa ⟨[.v 10,.v 9,.t 1,.t 1],[(6,1),(8,0)],[9,10],none⟩))))
abbrev DC:Fn:={np:=1,nv:=13,res:=[(11,none),(12,none)],body:=
(.seq (.aa ⟨[.p (.mv (.c (.ah))),.k 0],[],[11,12],none⟩)
 (.seq (.aa ⟨[.v 0,.q,.h 0 11,.d,.v 0,.q,.p (.bD (.t 0) 0 (some 10)),.h 0 4,.d,.p (.bP (.t 5) (.t 0) 1),.d,.t 0],[(5,0)],[],none⟩)
 (.seq (.aa ⟨[.v 0,.q,.h 0 12,.d,.n,.p (.jV (.t 0) (.t 0) [.int 0] none),.t 0],[(6,0)],[],none⟩)
 (.seq (.aa ⟨[.k 0],[(8,0)],[],none⟩)
 (.seq (.seq (.aa ⟨[.v 0,.q,.h 0 12,.d,.n,.k 0],[(3,2),(2,1),(1,0)],[],none⟩)
 (.seq (.block 0 (.loop akO)) (.lB 6)))
 (.block 2 (.loop akP)))))))}
abbrev akQ:IC:=(.seq (.aa ⟨[.c 5 6],[],[],some (40,0)⟩)
 (.seq (.cond 40 .skip (.exit 2))
 (.seq (.block 3 (.seq (.aa ⟨[.p (.bP (.v 7) (.v 5) 1),.d,.t 0],[(8,0)],[],none⟩)
 (.seq (.aa ⟨[.v 1,.v 1,.q,.h 0 4,.d,.v 8,.p (.dE [(.t 0)] 1),.p (.df (.t 2) (.t 0) none),.p (.oT (.t 7)),.h 0 4,.p (.st (.t 0) (.t 2) 1)],[],[],none⟩)
 (.aa ⟨[.v 1,.v 8,.p (.fI EE [(.t 1),(.t 0)])],[],[8],none⟩))))
 (.aa ⟨[.p (.bin .add (.v 5) (.c (.int (1)))),.t 0],[(5,0)],[],none⟩))))
abbrev akR:IC:=(.seq (.aa ⟨[.c 2 3],[],[],some (33,0)⟩)
 (.seq (.cond 33 .skip (.exit 0))
 (.seq (.block 1 (.seq (.aa ⟨[.v 2,.t 0],[(4,0)],[],none⟩)
 (.seq (.seq (.aa ⟨[.v 1,.v 4,.p (.fI Jk [(.t 1),(.t 0)]),.n,.k 0],[(7,2),(6,1),(5,0)],[4],none⟩) (.lB 7))
 (.block 2 (.loop akQ)))))
 (.aa ⟨[.p (.bin .add (.v 2) (.c (.int (1)))),.t 0],[(2,0)],[5,6,7],none⟩))))
abbrev DD:Fn:={np:=1,nv:=11,res:=[(9,none),(10,none)],body:=
(.seq (.aa ⟨[.p (.mv (.c (.ah))),.p (.mv (.c (.ah)))],[],[9,10],none⟩)
 (.seq (.aa ⟨[.v 0,.v 0,.q,.h 0 12,.d,.n,.p (.jV (.t 0) (.t 0) [.ah] none),.v 0,.q,.h 0 12,⟨.ld (.t 0) none,none,true⟩,.n,.p (.jV (.t 0) (.t 0) [.bool false] none),.p (.jV (.c (.int (1025))) (.c (.int (1025))) [.ah] none),.p (.jK [.iw,.ah,.ah,.ah,.ah] [(0,1,(.t 13)),(1,1,(.t 7)),(2,1,(.t 1)),(3,1,(.t 0))]),.p (.vg (.t 0) (some 5)),.t 0],[(1,0)],[0],none⟩)
 (.seq (.aa ⟨[.v 1,.p (.cd [(.c (.ah))] 1),.p (.fI uL [(.t 1),(.c (.int (0))),(.t 0)])],[],[],none⟩)
 (.seq (.seq (.aa ⟨[.v 1,.q,.h 0 3,.d,.n,.k 0],[(3,1),(2,0)],[],none⟩)
 (.block 0 (.loop akR)))
 (.seq (.aa ⟨[.v 1,.q,.h 0 1,.d,.v 1,.q,.h 0 2,.d,.t 4,.t 1],[(9,1),(10,0)],[1,2,3],none⟩)
 .ret)))))}
abbrev DE:Fn:={np:=2,nv:=3,res:=[(2,none)],body:=
(.seq (.aa ⟨[.k 0],[],[2],none⟩)
 (.seq (.aa ⟨[.v 0,.n,.v 1,.n,.p (.bW EF [(.t 2),(.t 0)]),.v 0,.v 1,.p (.bW Jm [(.t 1),(.t 0)]),.p (.cd [(.t 3),(.t 0)] 1),.p (.bW Jl [(.t 0)]),.t 0],[(2,0)],[0,1],none⟩)
 .ret))}
abbrev DF:Fn:={np:=2,nv:=3,res:=[(2,none)],body:=
(.seq (.aa ⟨[.b],[],[2],none⟩)
 (.seq (.aa ⟨[.v 0,.v 1,.p (.bW Jn [(.t 1),(.t 0)]),.p (.bin .geq (.t 0) (.c (.int (0)))),.t 0],[(2,0)],[0,1],none⟩)
 .ret))}
abbrev DG:Fn:={np:=1,nv:=3,res:=[(2,none)],body:=
(.seq (.aa ⟨[.p (.gj (.v 0)),.b],[(1,1)],[0,2],none⟩)
 (.seq (.aa ⟨[.f 1 1,.l,.p (.bin .lss (.t 0) (.c (.int (0)))),.t 0],[(2,0)],[1],none⟩)
 .ret))}
abbrev DH:Fn:={np:=2,nv:=5,res:=[(4,none)],body:=
(.seq (.aa ⟨[.p (.gj (.v 0)),.p (.gj (.v 1)),.k 0],[(2,2),(3,1)],[0,1,4],none⟩)
 (.seq (.aa ⟨[.f 2 2,.l,.f 3 2,.l,.p (.bW pj [(.t 2),(.t 0)]),.t 0],[(4,0)],[2,3],none⟩)
 .ret))}
abbrev akS:IC:=(.seq (.aa ⟨[.c 3 4],[],[],some (26,0)⟩)
 (.seq (.cond 26 .skip (.exit 0))
 (.seq (.block 1 (.seq (.aa ⟨[.v 3,.p (.bP (.v 5) (.v 3) 3),.p (.ld (.t 0) (some 3)),.p (.gH 3),.t 3,.p (.kK (.t 1) (.t 2) 3)],[(7,0),(8,1)],[],none⟩)
 (.aa ⟨[.v 6,.f 7 0,.l,.v 8,.p (.bP (.t 3) (.t 1) 1),.p (.st (.t 0) (.t 1) 1)],[],[7,8],none⟩)))
 (.aa ⟨[.p (.bin .add (.v 3) (.c (.int (1)))),.t 0],[(3,0)],[],none⟩))))
abbrev akT:IC:=(.seq (.aa ⟨[.c 15 16],[],[],some (92,0)⟩)
 (.seq (.cond 92 .skip (.exit 4))
 (.seq (.block 5 (.seq (.aa ⟨[.v 15,.p (.bP (.v 17) (.v 15) 1),.d,.t 2,.t 1],[(18,1),(19,0)],[],none⟩)
 (.aa ⟨[.f 12 8,.d,.v 13,.i,.d,.v 18,.v 6,.v 1,.v 19,.i,.d,.p (.bP (.t 4) (.t 0) 1),.d,.p (.bP (.t 8) (.t 7) 1),.p (.st (.t 0) (.t 1) 1)],[],[18,19],none⟩)))
 (.aa ⟨[.p (.bin .add (.v 15) (.c (.int (1)))),.t 0],[(15,0)],[],none⟩))))
abbrev akU:IC:=(.seq (.aa ⟨[.c 27 28],[],[],some (143,0)⟩)
 (.seq (.cond 143 .skip (.exit 10))
 (.seq (.block 11 (.seq (.aa ⟨[.v 27,.p (.bP (.v 29) (.v 27) 1),.d,.t 2,.t 1],[(31,1),(32,0)],[],none⟩)
 (.aa ⟨[.f 12 9,.d,.v 13,.i,.d,.v 30,.v 0,.q,.p (.bD (.t 0) 0 (some 10)),.h 0 0,.d,.p (.bin .mul (.t 5) (.t 0)),.v 26,.p (.bin .add (.t 1) (.t 0)),.p (.bP (.t 9) (.t 0) 1),.d,.v 31,.v 6,.v 1,.v 32,.i,.d,.p (.bP (.t 4) (.t 0) 1),.d,.p (.bP (.t 8) (.t 7) 1),.p (.st (.t 0) (.t 1) 1)],[],[31,32],none⟩)))
 (.aa ⟨[.p (.bin .add (.v 27) (.c (.int (1)))),.t 0],[(27,0)],[],none⟩))))
abbrev akV:IC:=(.seq (.aa ⟨[.c 23 24],[],[],some (124,0)⟩)
 (.seq (.cond 124 .skip (.exit 8))
 (.seq (.block 9 (.seq (.aa ⟨[.v 23,.t 0],[(26,0)],[],none⟩)
 (.seq (.aa ⟨[.v 0,.q,.h 0 15,.d,.f 25 1,.l,.p (.bP (.t 2) (.t 0) 1),.d,.v 26,.i,.d,.f 14 1,.l,.p (.bP (.t 2) (.t 0) 1),.d,.n,.k 0],[(29,2),(28,1),(27,0)],[],none⟩)
 (.block 10 (.loop akU)))))
 (.aa ⟨[.p (.bin .add (.v 23) (.c (.int (1)))),.t 0],[(23,0)],[26,27,28,29],none⟩))))
abbrev akW:IC:=(.seq (.aa ⟨[.c 20 21],[],[],some (114,0)⟩)
 (.seq (.cond 114 .skip (.exit 6))
 (.seq (.block 7 (.seq (.aa ⟨[.v 20,.p (.bP (.v 22) (.v 20) 3),.p (.ld (.t 0) (some 3)),.p (.gH 3),.t 3,.p (.kK (.t 1) (.t 2) 3)],[(25,0),(30,1)],[],none⟩)
 (.seq (.aa ⟨[.v 0,.q,.p (.bD (.t 0) 0 (some 10)),.h 0 0,.d,.k 0],[(24,1),(23,0)],[],none⟩)
 (.block 8 (.loop akV)))))
 (.aa ⟨[.p (.bin .add (.v 20) (.c (.int (1)))),.t 0],[(20,0)],[23,24,25,30],none⟩))))
abbrev akX:IC:=(.seq (.aa ⟨[.c 9 10],[],[],some (46,0)⟩)
 (.seq (.cond 46 .skip (.exit 2))
 (.seq (.block 3 (.seq (.aa ⟨[.v 9,.p (.bP (.v 11) (.v 9) 3),.p (.ld (.t 0) (some 3)),.p (.gH 3),.t 3,.p (.kK (.t 1) (.t 2) 3)],[(14,0),(13,1)],[],none⟩)
 (.seq (.aa ⟨[.f 12 5,.d,.v 13,.v 0,.q,.p (.bD (.t 0) 0 (some 10)),.h 0 5,.d,.v 0,.q,.h 0 12,.d,.f 14 1,.l,.p (.bP (.t 2) (.t 0) 1),.d,.v 0,.q,.h 0 11,.d,.v 0,.q,.p (.bD (.t 0) 0 (some 10)),.h 0 4,.d,.p (.bP (.t 5) (.t 0) 1),.d,.p (.bP (.t 11) (.t 0) 1),.d,.p (.bP (.t 21) (.t 0) 1),.d,.p (.bP (.t 29) (.t 28) 1),.p (.st (.t 0) (.t 1) 1)],[],[],none⟩)
 (.seq (.seq (.aa ⟨[.v 0,.q,.h 0 14,.d,.f 14 1,.l,.p (.bP (.t 2) (.t 0) 1),.d,.n,.k 0],[(17,2),(16,1),(15,0)],[],none⟩)
 (.block 4 (.loop akT)))
 (.seq (.aa ⟨[.v 2,.n,.k 0],[(22,2),(21,1),(20,0)],[15,16,17],none⟩)
 (.block 6 (.loop akW)))))))
 (.aa ⟨[.p (.bin .add (.v 9) (.c (.int (1)))),.t 0],[(9,0)],[13,14,20,21,22],none⟩))))
abbrev DI:Fn:={np:=3,nv:=34,res:=[(33,some (some 10))],body:=
(.seq (.aa ⟨[.p (.oD fe (some 10))],[(33,0)],[],none⟩)
 (.seq (.aa ⟨[.v 2,.n,.p (.jV (.t 0) (.t 0) [.int 0] none),.t 0],[(6,0)],[],none⟩)
 (.seq (.seq (.aa ⟨[.v 2,.n,.k 0],[(5,2),(4,1),(3,0)],[],none⟩)
 (.block 0 (.loop akS)))
 (.seq (.aa ⟨[.v 0,.q,.p (.bD (.t 0) 0 (some 10)),.p (.ld (.t 0) (some 10)),.v 2,.n,.p (.can wU [(.t 2),(.t 0)]),.p (.oD fe (some 10)),.p (.st (.t 0) (.t 1) 10)],[(12,1)],[3,4,5],none⟩)
 (.seq (.seq (.aa ⟨[.v 2,.n,.k 0],[(11,2),(10,1),(9,0)],[],none⟩)
 (.block 2 (.loop akX)))
 (.seq (.aa ⟨[.p (.ld (.v 12) (some 10)),.p (.st (.v 33) (.t 0) 10)],[],[0,1,2,6,9,10,11,12],none⟩)
 .ret))))))}
abbrev akY:IC:=(.seq (.seq (.aa ⟨[.v 2,.v 0,.n,.p (.bin .lss (.t 2) (.t 0))],[],[],some (14,0)⟩)
 (.cond 14 .skip (.exit 0)))
 (.seq (.block 1 (.seq (.aa ⟨[.v 0,.v 2,.i,.d,.v 1,.v 2,.i,.d,.p (.bW Jo [(.t 4),(.t 0)]),.p (.not (.t 0))],[],[],some (26,0)⟩)
 (.cond 26 (.seq (.aa ⟨[.b],[(3,0)],[0,1,2],none⟩)
 .ret) .skip)))
 (.aa ⟨[.v 2,.p (.bin .add (.t 0) (.c (.int (1)))),.t 0],[(2,0)],[],none⟩)))
abbrev DJ:Fn:={np:=2,nv:=4,res:=[(3,none)],body:=
(.seq (.aa ⟨[.b],[],[3],none⟩)
 (.seq (.seq (.aa ⟨[.v 0,.n,.v 1,.n,.p (.bin .neq (.t 2) (.t 0))],[],[],some (10,0)⟩)
 (.cond 10 (.seq (.aa ⟨[.b],[(3,0)],[0,1],none⟩)
 .ret) .skip))
 (.seq (.seq (.aa ⟨[.k 0],[(2,0)],[],none⟩)
 (.block 0 (.loop akY)))
 (.seq (.aa ⟨[.p (.mv (.c (.bool true)))],[(3,0)],[0,1,2],none⟩)
 .ret))))}
abbrev akZ:IC:=(.seq (.seq (.aa ⟨[.v 2,.v 0,.n,.p (.bin .lss (.t 2) (.t 0))],[],[],some (14,0)⟩)
 (.cond 14 .skip (.exit 0)))
 (.seq (.block 1 (.seq (.aa ⟨[.v 0,.v 2,.i,.d,.v 1,.v 2,.i,.d,.p (.beq true (.t 4) (.t 0))],[],[],some (25,0)⟩)
 (.cond 25 (.seq (.aa ⟨[.b],[(3,0)],[0,1,2],none⟩)
 .ret) .skip)))
 (.aa ⟨[.v 2,.p (.bin .add (.t 0) (.c (.int (1)))),.t 0],[(2,0)],[],none⟩)))
abbrev DK:Fn:={np:=2,nv:=4,res:=[(3,none)],body:=
(.seq (.aa ⟨[.b],[],[3],none⟩)
 (.seq (.seq (.aa ⟨[.v 0,.n,.v 1,.n,.p (.bin .neq (.t 2) (.t 0))],[],[],some (10,0)⟩)
 (.cond 10 (.seq (.aa ⟨[.b],[(3,0)],[0,1],none⟩)
 .ret) .skip))
 (.seq (.seq (.aa ⟨[.k 0],[(2,0)],[],none⟩)
 (.block 0 (.loop akZ)))
 (.seq (.aa ⟨[.p (.mv (.c (.bool true)))],[(3,0)],[0,1,2],none⟩)
 .ret))))}
abbrev DL:Fn:={np:=1,nv:=4,res:=[(2,some (some 10)),(3,none)],body:=
(.seq (.aa ⟨[.p (.oD fe (some 10)),.k 0],[(2,1)],[3],none⟩)
 (.seq (.seq (.aa ⟨[.v 0,.p (.fI Jp [(.t 0)]),.t 0],[(1,0)],[],none⟩)
 (.seq (.aa ⟨[.v 1,.p (.bin .neq (.t 0) (.c (.int (0))))],[],[],some (8,0)⟩)
 (.cond 8 (.seq (.aa ⟨[.p (.jK fe []),.v 1,.p (.st (.v 2) (.t 1) 10),.t 1],[(3,0)],[0,1],none⟩)
 .ret) .skip)))
 (.seq (.aa ⟨[.v 0,.p (.fI Jq [(.t 0)]),.p (.ext (.t 0) 0),.p (.ext (.t 1) 1),.p (.st (.v 2) (.t 1) 10),.t 1],[(3,0)],[0,1],none⟩)
 .ret)))}
abbrev ak0:IC:=(.seq (.aa ⟨[.c 8 9],[],[],some (70,0)⟩)
 (.seq (.cond 70 .skip (.exit 0))
 (.seq (.block 1 (.seq (.aa ⟨[.v 8,.t 0],[(10,0)],[],none⟩)
 (.seq (.aa ⟨[.p (.bj (.v 6) (some 20)),.v 10,.p (.bW zy [(.t 1),(.t 0)]),.t 0,.p (.ext (.t 0) 0),.p (.ext (.t 1) 1),.t 1,.t 1],[(11,1),(12,0)],[],none⟩)
 (.aa ⟨[.v 7,.v 10,.f 2 5,.l,.v 11,.i,.l,.f 4 5,.l,.v 12,.i,.l,.p (.beq true (.t 5) (.t 0)),.p (.bP (.t 12) (.t 11) 1),.p (.st (.t 0) (.t 1) 1)],[],[10,11,12],none⟩))))
 (.aa ⟨[.p (.bin .add (.v 8) (.c (.int (1)))),.t 0],[(8,0)],[],none⟩))))
abbrev DM:Fn:={np:=2,nv:=16,res:=[(13,none),(14,none),(15,none)],body:=
(.seq (.aa ⟨[.p (.gj (.v 0)),.p (.gj (.v 1)),.p (.mv (.c (.ah))),.b,.k 0],[(2,4),(4,3)],[0,1,13,14,15],none⟩)
 (.seq (.seq (.aa ⟨[.p (.bj (.v 2) (some 10)),.p (.bW uN [(.t 0)]),.t 0],[(3,0)],[],none⟩)
 (.seq (.aa ⟨[.v 3,.p (.bin .neq (.t 0) (.c (.int (0))))],[],[],some (17,0)⟩)
 (.cond 17 (.seq (.aa ⟨[.v 3,.p (.mv (.c (.ah))),.b,.t 2],[(13,2),(14,1),(15,0)],[2,3,4],none⟩)
 .ret) .skip)))
 (.seq (.seq (.aa ⟨[.p (.bj (.v 4) (some 10)),.p (.bW uN [(.t 0)]),.t 0],[(5,0)],[3],none⟩)
 (.seq (.aa ⟨[.v 5,.p (.bin .neq (.t 0) (.c (.int (0))))],[],[],some (22,0)⟩)
 (.cond 22 (.seq (.aa ⟨[.v 5,.p (.mv (.c (.ah))),.b,.t 2],[(13,2),(14,1),(15,0)],[2,4,5],none⟩)
 .ret) .skip)))
 (.seq (.seq (.aa ⟨[.f 2 0,.l,.f 4 0,.l,.p (.bin .neq (.t 2) (.t 0)),.t 0,.y 0 (.bD (.v 2) 1 none),.y 1 (.bj (.t 0) none),.y 2 (.bD (.v 4) 1 none),.y 3 (.bj (.t 0) none),.y 4 (.bin .neq (.t 2) (.t 0)),.p (.pick (.t 5) (.c (.bool true)) (.t 0)),.t 0,.y 0 (.bD (.v 2) 2 none),.y 1 (.bj (.t 0) none),.y 2 (.bD (.v 4) 2 none),.y 3 (.bj (.t 0) none),.y 4 (.bin .neq (.t 2) (.t 0)),.p (.pick (.t 5) (.c (.bool true)) (.t 0))],[],[5],some (42,0)⟩)
 (.cond 42 (.seq (.aa ⟨[.p (.mv (.c (.ah))),.b,.k 15],[(13,2),(14,1),(15,0)],[2,4],none⟩)
 .ret) .skip))
 (.seq (.seq (.aa ⟨[.f 2 5,.l,.n,.f 4 5,.l,.n,.p (.bin .mul (.t 3) (.t 0)),.p (.bin .gtr (.t 0) (.c (.int (144)))),.t 0,.y 0 (.bD (.v 2) 3 none),.y 1 (.bj (.t 0) none),.y 2 (.bD (.v 4) 3 none),.y 3 (.bj (.t 0) none),.y 4 (.bin .mul (.t 2) (.t 0)),.y 5 (.bin .gtr (.t 0) (.c (.int (1024)))),.p (.pick (.t 6) (.c (.bool true)) (.t 0))],[],[],some (58,0)⟩)
 (.cond 58 (.seq (.aa ⟨[.p (.mv (.c (.ah))),.b,.k 11],[(13,2),(14,1),(15,0)],[2,4],none⟩)
 .ret) .skip))
 (.seq (.aa ⟨[.p (.bj (.v 2) (some 10)),.p (.jK fe [(0,10,(.t 0))]),.p (.bj (.v 4) (some 10)),.p (.jK fe [(0,10,(.t 0))]),.p (.jK [.int 0,.int 0,.int 0,.int 0,.int 0,.ah,.ah,.ah,.ah,.ah,.int 0,.int 0,.int 0,.int 0,.int 0,.ah,.ah,.ah,.ah,.ah] [(0,10,(.t 2)),(10,10,(.t 0))]),.p (.gH 20),.p (.kK (.t 0) (.t 1) 20)],[(6,0)],[],none⟩)
 (.seq (.aa ⟨[.p (.bj (.v 6) (some 20)),.p (.bW pt [(.t 0)]),.p (.jV (.t 0) (.t 0) [.bool false] none),.t 0],[(7,0)],[],none⟩)
 (.seq (.seq (.aa ⟨[.v 7,.n,.k 0],[(9,1),(8,0)],[],none⟩)
 (.seq (.block 0 (.loop ak0)) (.lB 7)))
 (.seq (.aa ⟨[.p (.bj (.v 6) (some 20)),.p (.LH ju (.t 0)),.p (.bj (.v 2) (some 10)),.f 2 4,.l,.p (.bD (.v 6) 10 (some 10)),.p (.bj (.t 0) (some 10)),.p (.bW jM [(.t 0)]),.p (.bin .mul (.t 3) (.t 0)),.f 4 4,.l,.p (.bin .add (.t 2) (.t 0)),.v 7,.p (.bW QV [(.t 11),(.t 10),(.t 1),(.t 0)]),.p (.ext (.t 0) 0),.p (.ext (.t 1) 1),.p (.ext (.t 2) 2),.t 2,.t 2,.t 2],[(13,2),(14,1),(15,0)],[2,4,6,7,8,9],none⟩)
 .ret)))))))))}
abbrev DN:Fn:={np:=1,nv:=3,res:=[(2,none)],body:=
(.seq (.aa ⟨[.p (.gj (.v 0)),.k 0],[(1,1)],[0,2],none⟩)
 (.seq (.seq (.aa ⟨[.f 1 0,.l,.p (.bin .lss (.t 0) (.c (.int (0)))),.t 0,.y 0 (.bD (.v 1) 0 none),.y 1 (.bj (.t 0) none),.y 2 (.bin .gtr (.t 0) (.c (.int (64)))),.p (.pick (.t 3) (.c (.bool true)) (.t 0)),.t 0,.y 0 (.bD (.v 1) 1 none),.y 1 (.bj (.t 0) none),.y 2 (.bin .lss (.t 0) (.c (.int (0)))),.p (.pick (.t 3) (.c (.bool true)) (.t 0)),.t 0,.y 0 (.bD (.v 1) 1 none),.y 1 (.bj (.t 0) none),.y 2 (.bin .gtr (.t 0) (.c (.int (64)))),.p (.pick (.t 3) (.c (.bool true)) (.t 0)),.t 0,.y 0 (.bD (.v 1) 2 none),.y 1 (.bj (.t 0) none),.y 2 (.bin .lss (.t 0) (.c (.int (0)))),.p (.pick (.t 3) (.c (.bool true)) (.t 0)),.t 0,.y 0 (.bD (.v 1) 2 none),.y 1 (.bj (.t 0) none),.y 2 (.bin .gtr (.t 0) (.c (.int (64)))),.p (.pick (.t 3) (.c (.bool true)) (.t 0))],[],[],some (30,0)⟩)
 (.cond 30 (.seq (.aa ⟨[.k 2],[(2,0)],[1],none⟩)
 .ret) .skip))
 (.seq (.seq (.aa ⟨[.p (.bj (.v 1) (some 10)),.p (.bW wS [(.t 0)]),.p (.bin .lss (.t 0) (.c (.int (1)))),.t 0,.y 0 (.bj (.v 1) (some 10)),.y 1 (.bW wS [(.t 0)]),.y 2 (.bin .gtr (.t 0) (.c (.int (64)))),.p (.pick (.t 3) (.c (.bool true)) (.t 0)),.t 0,.y 0 (.bD (.v 1) 3 none),.y 1 (.bj (.t 0) none),.y 2 (.bin .lss (.t 0) (.c (.int (1)))),.p (.pick (.t 3) (.c (.bool true)) (.t 0)),.t 0,.y 0 (.bD (.v 1) 3 none),.y 1 (.bj (.t 0) none),.y 2 (.bin .gtr (.t 0) (.c (.int (128)))),.p (.pick (.t 3) (.c (.bool true)) (.t 0))],[],[],some (48,0)⟩)
 (.cond 48 (.seq (.aa ⟨[.k 2],[(2,0)],[1],none⟩)
 .ret) .skip))
 (.seq (.seq (.aa ⟨[.f 1 5,.l,.n,.p (.bin .eql (.t 0) (.c (.int (0))))],[],[],some (52,0)⟩)
 (.cond 52 (.seq (.aa ⟨[.k 19],[(2,0)],[1],none⟩)
 .ret) .skip))
 (.seq (.seq (.aa ⟨[.f 1 5,.l,.n,.p (.bin .gtr (.t 0) (.c (.int (128))))],[],[],some (56,0)⟩)
 (.cond 56 (.seq (.aa ⟨[.k 11],[(2,0)],[1],none⟩)
 .ret) .skip))
 (.seq (.seq (.aa ⟨[.f 1 4,.l,.p (.bin .lss (.t 0) (.c (.int (0)))),.t 0,.y 0 (.bD (.v 1) 4 none),.y 1 (.bj (.t 0) none),.y 2 (.bD (.v 1) 5 none),.y 3 (.bj (.t 0) none),.y 4 (.len (.t 0)),.y 5 (.bin .geq (.t 3) (.t 0)),.p (.pick (.t 6) (.c (.bool true)) (.t 0))],[],[],some (67,0)⟩)
 (.cond 67 (.seq (.aa ⟨[.k 2],[(2,0)],[1],none⟩)
 .ret) .skip))
 (.seq (.seq (.aa ⟨[.f 1 6,.l,.n,.f 1 5,.l,.n,.p (.bin .neq (.t 3) (.t 0)),.t 0,.y 0 (.bD (.v 1) 7 none),.y 1 (.bj (.t 0) none),.y 2 (.len (.t 0)),.y 3 (.bD (.v 1) 5 none),.y 4 (.bj (.t 0) none),.y 5 (.len (.t 0)),.y 6 (.bin .neq (.t 3) (.t 0)),.p (.pick (.t 7) (.c (.bool true)) (.t 0)),.t 0,.y 0 (.bD (.v 1) 8 none),.y 1 (.bj (.t 0) none),.y 2 (.len (.t 0)),.y 3 (.bD (.v 1) 5 none),.y 4 (.bj (.t 0) none),.y 5 (.len (.t 0)),.y 6 (.bin .neq (.t 3) (.t 0)),.p (.pick (.t 7) (.c (.bool true)) (.t 0)),.t 0,.y 0 (.bD (.v 1) 9 none),.y 1 (.bj (.t 0) none),.y 2 (.len (.t 0)),.y 3 (.bD (.v 1) 5 none),.y 4 (.bj (.t 0) none),.y 5 (.len (.t 0)),.y 6 (.bin .neq (.t 3) (.t 0)),.p (.pick (.t 7) (.c (.bool true)) (.t 0))],[],[1],some (101,0)⟩)
 (.cond 101 (.seq (.aa ⟨[.k 1],[(2,0)],[],none⟩)
 .ret) .skip))
 (.seq (.aa ⟨[.k 0],[(2,0)],[],none⟩)
 .ret))))))))}
abbrev ak1:IC:=(.seq (.seq (.aa ⟨[.v 3,.f 2 0,.l,.p (.bin .lss (.t 2) (.t 0))],[],[],some (54,0)⟩)
 (.cond 54 .skip (.exit 0)))
 (.seq (.block 1 (.seq (.aa ⟨[.p (.bj (.v 2) (some 10)),.f 2 6,.l,.v 1,.i,.l,.v 3,.i,.l,.p (.bW zE [(.t 8),(.t 0)]),.p (.not (.t 0)),.t 0,.y 0 (.bD (.v 2) 7 none),.y 1 (.bj (.t 0) none),.y 2 (.mv (.v 1)),.y 3 (.bP (.t 1) (.t 0) 1),.y 4 (.bj (.t 0) none),.y 5 (.mv (.v 3)),.y 6 (.bP (.t 1) (.t 0) 1),.y 7 (.bj (.t 0) none),.y 8 (.bin .lss (.t 0) (.c (.int (0)))),.p (.pick (.t 9) (.c (.bool true)) (.t 0)),.t 0,.y 0 (.bD (.v 2) 7 none),.y 1 (.bj (.t 0) none),.y 2 (.mv (.v 1)),.y 3 (.bP (.t 1) (.t 0) 1),.y 4 (.bj (.t 0) none),.y 5 (.mv (.v 3)),.y 6 (.bP (.t 1) (.t 0) 1),.y 7 (.bj (.t 0) none),.y 8 (.bD (.v 2) 3 none),.y 9 (.bj (.t 0) none),.y 10 (.bin .geq (.t 2) (.t 0)),.p (.pick (.t 11) (.c (.bool true)) (.t 0))],[],[],some (91,0)⟩)
 (.cond 91 (.seq (.aa ⟨[.k 2],[(7,0)],[1,2,3],none⟩)
 .ret) .skip)))
 (.aa ⟨[.v 3,.p (.bin .add (.t 0) (.c (.int (1)))),.t 0],[(3,0)],[],none⟩)))
abbrev ak2:IC:=(.seq (.seq (.aa ⟨[.v 4,.f 2 1,.l,.p (.bin .lss (.t 2) (.t 0))],[],[],some (95,0)⟩)
 (.cond 95 .skip (.exit 2)))
 (.seq (.block 3 (.seq (.aa ⟨[.p (.bj (.v 2) (some 10)),.f 2 8,.l,.v 1,.i,.l,.v 4,.i,.l,.p (.bW zE [(.t 8),(.t 0)]),.p (.not (.t 0))],[],[],some (108,0)⟩)
 (.cond 108 (.seq (.aa ⟨[.k 2],[(7,0)],[1,2,4],none⟩)
 .ret) .skip)))
 (.aa ⟨[.v 4,.p (.bin .add (.t 0) (.c (.int (1)))),.t 0],[(4,0)],[],none⟩)))
abbrev ak3:IC:=(.seq (.seq (.aa ⟨[.v 6,.f 2 2,.l,.p (.bin .lss (.t 2) (.t 0))],[],[],some (130,0)⟩)
 (.cond 130 .skip (.exit 6)))
 (.seq (.block 7 (.seq (.aa ⟨[.p (.bj (.v 2) (some 10)),.f 2 9,.l,.v 1,.i,.l,.v 5,.i,.l,.v 6,.i,.l,.p (.bW zE [(.t 11),(.t 0)]),.p (.not (.t 0))],[],[],some (146,0)⟩)
 (.cond 146 (.seq (.aa ⟨[.k 2],[(7,0)],[1,2,5,6],none⟩)
 .ret) .skip)))
 (.aa ⟨[.v 6,.p (.bin .add (.t 0) (.c (.int (1)))),.t 0],[(6,0)],[],none⟩)))
abbrev ak4:IC:=(.seq (.seq (.aa ⟨[.v 5,.f 2 3,.l,.p (.bin .lss (.t 2) (.t 0))],[],[],some (112,0)⟩)
 (.cond 112 .skip (.exit 4)))
 (.seq (.block 5 (.seq (.seq (.aa ⟨[.f 2 9,.l,.v 1,.i,.l,.v 5,.i,.l,.n,.f 2 2,.l,.p (.bin .neq (.t 2) (.t 0))],[],[],some (126,0)⟩)
 (.cond 126 (.seq (.aa ⟨[.k 1],[(7,0)],[1,2,5],none⟩)
 .ret) .skip))
 (.seq (.aa ⟨[.k 0],[(6,0)],[],none⟩)
 (.block 6 (.loop ak3)))))
 (.aa ⟨[.v 5,.p (.bin .add (.t 0) (.c (.int (1)))),.t 0],[(5,0)],[6],none⟩)))
abbrev DO:Fn:={np:=2,nv:=8,res:=[(7,none)],body:=
(.seq (.aa ⟨[.p (.gj (.v 0)),.k 0],[(2,1)],[0,7],none⟩)
 (.seq (.seq (.aa ⟨[.f 2 6,.l,.v 1,.i,.l,.n,.f 2 0,.l,.p (.bin .neq (.t 2) (.t 0)),.t 0,.y 0 (.bD (.v 2) 7 none),.y 1 (.bj (.t 0) none),.y 2 (.mv (.v 1)),.y 3 (.bP (.t 1) (.t 0) 1),.y 4 (.bj (.t 0) none),.y 5 (.len (.t 0)),.y 6 (.bD (.v 2) 0 none),.y 7 (.bj (.t 0) none),.y 8 (.bin .neq (.t 2) (.t 0)),.p (.pick (.t 9) (.c (.bool true)) (.t 0)),.t 0,.y 0 (.bD (.v 2) 8 none),.y 1 (.bj (.t 0) none),.y 2 (.mv (.v 1)),.y 3 (.bP (.t 1) (.t 0) 1),.y 4 (.bj (.t 0) none),.y 5 (.len (.t 0)),.y 6 (.bD (.v 2) 1 none),.y 7 (.bj (.t 0) none),.y 8 (.bin .neq (.t 2) (.t 0)),.p (.pick (.t 9) (.c (.bool true)) (.t 0)),.t 0,.y 0 (.bD (.v 2) 9 none),.y 1 (.bj (.t 0) none),.y 2 (.mv (.v 1)),.y 3 (.bP (.t 1) (.t 0) 1),.y 4 (.bj (.t 0) none),.y 5 (.len (.t 0)),.y 6 (.bD (.v 2) 3 none),.y 7 (.bj (.t 0) none),.y 8 (.bin .neq (.t 2) (.t 0)),.p (.pick (.t 9) (.c (.bool true)) (.t 0))],[],[],some (50,0)⟩)
 (.cond 50 (.seq (.aa ⟨[.k 1],[(7,0)],[1,2],none⟩)
 .ret) .skip))
 (.seq (.seq (.aa ⟨[.k 0],[(3,0)],[],none⟩)
 (.block 0 (.loop ak1)))
 (.seq (.seq (.aa ⟨[.k 0],[(4,0)],[3],none⟩)
 (.block 2 (.loop ak2)))
 (.seq (.seq (.aa ⟨[.k 0],[(5,0)],[4],none⟩)
 (.block 4 (.loop ak4)))
 (.seq (.aa ⟨[.k 0],[(7,0)],[1,2,5],none⟩)
 .ret))))))}
abbrev ak5:IC:=(.seq (.seq (.aa ⟨[.v 2,.v 0,.n,.p (.bin .lss (.t 2) (.t 0))],[],[],some (15,0)⟩)
 (.cond 15 .skip (.exit 0)))
 (.seq (.block 1 (.seq (.aa ⟨[.v 0,.v 2,.i,.d,.p (.bin .lss (.t 0) (.c (.int (0)))),.t 0,.y 0 (.mv (.v 0)),.y 1 (.mv (.v 2)),.y 2 (.bP (.t 1) (.t 0) 1),.y 3 (.ld (.t 0) none),.y 4 (.mv (.v 1)),.y 5 (.bin .geq (.t 1) (.t 0)),.p (.pick (.t 6) (.c (.bool true)) (.t 0))],[],[],some (30,0)⟩)
 (.cond 30 (.seq (.aa ⟨[.k 1],[(3,0)],[0,1,2],none⟩)
 .ret) .skip)))
 (.aa ⟨[.v 2,.p (.bin .add (.t 0) (.c (.int (1)))),.t 0],[(2,0)],[],none⟩)))
abbrev DP:Fn:={np:=2,nv:=4,res:=[(3,none)],body:=
(.seq (.aa ⟨[.k 0],[],[3],none⟩)
 (.seq (.seq (.aa ⟨[.v 1,.p (.bW Jr [(.t 0)]),.p (.not (.t 0))],[],[],some (8,0)⟩)
 (.cond 8 (.seq (.aa ⟨[.k 2],[(3,0)],[0,1],none⟩)
 .ret) .skip))
 (.seq (.seq (.aa ⟨[.v 0,.n,.p (.bin .gtr (.t 0) (.c (.int (1024))))],[],[],some (11,0)⟩)
 (.cond 11 (.seq (.aa ⟨[.k 3],[(3,0)],[0,1],none⟩)
 .ret) .skip))
 (.seq (.seq (.aa ⟨[.k 0],[(2,0)],[],none⟩)
 (.block 0 (.loop ak5)))
 (.seq (.aa ⟨[.k 0],[(3,0)],[0,1,2],none⟩)
 .ret)))))}
abbrev DQ:Fn:={np:=1,nv:=3,res:=[(2,none)],body:=
(.seq (.aa ⟨[.p (.gj (.v 0)),.k 0],[(1,1)],[0,2],none⟩)
 (.seq (.aa ⟨[.f 1 0,.l,.f 1 1,.l,.p (.bin .add (.t 2) (.t 0)),.f 1 2,.l,.p (.bin .add (.t 2) (.t 0)),.t 0],[(2,0)],[1],none⟩)
 .ret))}
abbrev ak6:IC:=(.seq (.seq (.aa ⟨[.v 2,.v 1,.n,.p (.bin .lss (.t 2) (.t 0))],[],[],some (14,0)⟩)
 (.cond 14 .skip (.exit 0)))
 (.seq (.block 1 (.seq (.seq (.aa ⟨[.v 1,.v 2,.i,.d,.f 3 0,.l,.p (.bin .lss (.t 2) (.t 0))],[],[],some (23,0)⟩)
 (.cond 23 (.aa ⟨[.v 4,.p (.bin .add (.t 0) (.c (.int (1)))),.t 0],[(4,0)],[],none⟩) .skip))
 (.seq (.seq (.aa ⟨[.v 1,.v 2,.i,.d,.f 3 0,.l,.f 3 1,.l,.p (.bin .add (.t 2) (.t 0)),.p (.bin .geq (.t 5) (.t 0))],[],[],some (35,0)⟩)
 (.cond 35 (.aa ⟨[.v 4,.p (.bin .sub (.t 0) (.c (.int (1)))),.t 0],[(4,0)],[],none⟩) .skip))
 (.seq (.aa ⟨[.v 5,.v 4,.p (.mx true (.t 1) (.t 0)),.t 0],[(5,0)],[],none⟩)
 (.aa ⟨[.v 6,.v 4,.p (.mx false (.t 1) (.t 0)),.t 0],[(6,0)],[],none⟩)))))
 (.aa ⟨[.v 2,.p (.bin .add (.t 0) (.c (.int (1)))),.t 0],[(2,0)],[],none⟩)))
abbrev DR:Fn:={np:=2,nv:=10,res:=[(7,none),(8,none),(9,none)],body:=
(.seq (.aa ⟨[.p (.gj (.v 0)),.k 0,.k 0,.k 0],[(3,3)],[0,7,8,9],none⟩)
 (.seq (.aa ⟨[.k 0,.k 0,.k 0],[(5,2),(6,1),(4,0)],[],none⟩)
 (.seq (.seq (.aa ⟨[.k 0],[(2,0)],[],none⟩)
 (.block 0 (.loop ak6)))
 (.seq (.aa ⟨[.v 5,.v 6,.v 4,.t 2,.t 2,.t 2],[(7,2),(8,1),(9,0)],[1,2,3,4,5,6],none⟩)
 .ret))))}
abbrev DS:Fn:={np:=2,nv:=6,res:=[(5,none)],body:=
(.seq (.aa ⟨[.p (.gj (.v 0)),.b],[(2,1)],[0,5],none⟩)
 (.seq (.seq (.aa ⟨[.p (.bj (.v 2) (some 10)),.p (.bW zz [(.t 0)]),.p (.bin .neq (.t 0) (.c (.int (0)))),.t 0,.y 0 (.mv (.v 1)),.y 1 (.bj (.v 2) (some 10)),.y 2 (.bW wS [(.t 0)]),.y 3 (.bW wR [(.t 2),(.t 0)]),.y 4 (.bin .neq (.t 0) (.c (.int (0)))),.p (.pick (.t 5) (.c (.bool true)) (.t 0))],[],[],some (17,0)⟩)
 (.cond 17 (.seq (.aa ⟨[.b],[(5,0)],[1,2],none⟩)
 .ret) .skip))
 (.seq (.aa ⟨[.p (.bj (.v 2) (some 10)),.v 1,.p (.bW EB [(.t 1),(.t 0)]),.t 0,.p (.ext (.t 0) 0),.p (.ext (.t 1) 1),.p (.ext (.t 2) 2),.t 2,.t 2,.t 2],[(3,1),(4,0)],[1,2],none⟩)
 (.seq (.aa ⟨[.v 3,.p (.bin .eql (.t 0) (.c (.int (0)))),.t 0,.x 0 (.mv (.v 4)),.x 1 (.bin .eql (.t 0) (.c (.int (0)))),.p (.pick (.t 2) (.t 0) (.c (.bool false))),.t 0],[(5,0)],[3,4],none⟩)
 .ret))))}
abbrev ak7:IC:=(.seq (.seq (.aa ⟨[.v 3,.v 2,.n,.p (.bin .lss (.t 2) (.t 0))],[],[],some (13,0)⟩)
 (.cond 13 .skip (.exit 0)))
 (.seq (.block 1 (.seq (.aa ⟨[.v 2,.v 3,.i,.d,.t 0],[(4,0)],[],none⟩)
 (.block 2 (.seq (.aa ⟨[.v 4,.f 5 0,.l,.p (.bin .lss (.t 2) (.t 0)),.t 0],[],[],some (47,0)⟩)
 (.cond 47 (.seq (.aa ⟨[.v 6,.f 5 7,.l,.v 1,.i,.l,.v 4,.i,.l,.p (.dE [(.t 0)] 1),.p (.df (.t 9) (.t 0) none),.t 0],[(6,0)],[],none⟩)
 (.aa ⟨[.f 5 6,.l,.v 1,.i,.l,.v 4,.i,.l,.t 0],[(1,0)],[4],none⟩)) (.seq (.aa ⟨[.v 4,.f 5 0,.l,.f 5 1,.l,.p (.bin .add (.t 2) (.t 0)),.p (.bin .lss (.t 5) (.t 0)),.t 0],[],[],some (71,0)⟩)
 (.cond 71 (.aa ⟨[.f 5 8,.l,.v 1,.i,.l,.v 4,.f 5 0,.l,.p (.bin .sub (.t 2) (.t 0)),.p (.bP (.t 4) (.t 0) 1),.l,.t 0],[(1,0)],[4],none⟩) (.seq (.aa ⟨[.f 5 9,.l,.v 1,.i,.l,.v 6,.v 6,.n,.p (.bin .sub (.t 0) (.c (.int (1)))),.p (.bP (.t 3) (.t 0) 1),.d,.p (.bP (.t 6) (.t 0) 1),.l,.v 4,.f 5 0,.l,.p (.bin .sub (.t 2) (.t 0)),.f 5 1,.l,.p (.bin .sub (.t 2) (.t 0)),.p (.bP (.t 7) (.t 0) 1),.l,.t 0],[(1,0)],[4],none⟩)
 (.aa ⟨[.v 6,.v 6,.n,.p (.bin .sub (.t 0) (.c (.int (1)))),.p (.oP (.t 3) none (some (.t 0)) 1),.t 0],[(6,0)],[],none⟩)))))))))
 (.aa ⟨[.v 3,.p (.bin .add (.t 0) (.c (.int (1)))),.t 0],[(3,0)],[],none⟩)))
abbrev DU:Fn:={np:=3,nv:=8,res:=[(7,none)],body:=
(.seq (.aa ⟨[.p (.gj (.v 0)),.k 0],[(5,1)],[0,7],none⟩)
 (.seq (.aa ⟨[.p (.nl none)],[(6,0)],[],none⟩)
 (.seq (.seq (.aa ⟨[.k 0],[(3,0)],[],none⟩)
 (.block 0 (.loop ak7)))
 (.seq (.aa ⟨[.v 1,.t 0],[(7,0)],[1,2,3,5,6],none⟩)
 .ret))))}
abbrev DV:Fn:={np:=2,nv:=4,res:=[(3,none)],body:=
(.seq (.aa ⟨[.p (.gj (.v 1)),.k 0],[(2,1)],[1,3],none⟩)
 (.seq (.block 0 (.seq (.aa ⟨[.p (.bj (.v 2) none),.p (.bW Js [(.t 0)]),.p (.not (.t 0)),.t 0],[],[],some (5,0)⟩)
 (.cond 5 (.seq (.aa ⟨[.k 2],[(3,0)],[0,2],none⟩)
 .ret) (.seq (.aa ⟨[.v 0,.n,.p (.bin .gtr (.t 0) (.c (.int (1024)))),.t 0],[],[],some (9,0)⟩)
 (.cond 9 (.seq (.aa ⟨[.k 3],[(3,0)],[0,2],none⟩)
 .ret) (.seq (.aa ⟨[.v 0,.p (.BS zG [(.v 2)]),.p (.bW zF [(.t 1),(.t 0)]),.t 0],[],[0,2],some (13,0)⟩)
 (.cond 13 (.seq (.aa ⟨[.k 1],[(3,0)],[],none⟩)
 .ret) .skip)))))))
 (.seq (.aa ⟨[.k 0],[(3,0)],[],none⟩)
 .ret)))}
abbrev DW:Fn:={np:=1,nv:=3,res:=[(2,none)],body:=
(.seq (.aa ⟨[.p (.gj (.v 0)),.k 0],[(1,1)],[0,2],none⟩)
 (.seq (.aa ⟨[.f 1 0,.l,.f 1 1,.l,.p (.bin .add (.t 2) (.t 0)),.f 1 2,.l,.p (.bin .add (.t 2) (.t 0)),.t 0],[(2,0)],[1],none⟩)
 .ret))}
abbrev ak8:IC:=(.seq (.aa ⟨[.c 2 3],[],[],some (14,0)⟩)
 (.seq (.cond 14 .skip (.exit 0))
 (.seq (.block 1 (.seq (.aa ⟨[.p (.bP (.v 4) (.v 2) 1),.d,.t 0],[(5,0)],[],none⟩)
 (.seq (.block 2 (.seq (.aa ⟨[.v 5,.f 6 0,.l,.p (.bin .lss (.t 2) (.t 0)),.t 0],[],[],some (17,0)⟩)
 (.cond 17 (.aa ⟨[.v 7,.p (.bin .add (.t 0) (.c (.int (1)))),.t 0],[(7,0)],[5],none⟩) (.seq (.aa ⟨[.v 5,.f 6 0,.l,.f 6 1,.l,.p (.bin .add (.t 2) (.t 0)),.p (.bin .geq (.t 5) (.t 0)),.t 0],[],[5],some (24,0)⟩)
 (.cond 24 (.aa ⟨[.v 7,.p (.bin .sub (.t 0) (.c (.int (1)))),.t 0],[(7,0)],[],none⟩) .skip)))))
 (.seq (.aa ⟨[.v 8,.v 7,.p (.mx true (.t 1) (.t 0)),.t 0],[(8,0)],[],none⟩)
 (.aa ⟨[.v 9,.t 0,.x 0 (.mv (.v 7)),.x 1 (.bin .geq (.t 0) (.c (.int (0)))),.p (.pick (.t 2) (.t 0) (.c (.bool false))),.t 0],[(9,0)],[],none⟩)))))
 (.aa ⟨[.p (.bin .add (.v 2) (.c (.int (1)))),.t 0],[(2,0)],[],none⟩))))
abbrev DX:Fn:={np:=2,nv:=12,res:=[(10,none),(11,none)],body:=
(.seq (.aa ⟨[.p (.gj (.v 0)),.k 0,.b],[(6,2)],[0,10,11],none⟩)
 (.seq (.aa ⟨[.k 0,.k 0,.p (.mv (.c (.bool true)))],[(7,2),(8,1),(9,0)],[],none⟩)
 (.seq (.seq (.aa ⟨[.v 1,.n,.k 0],[(4,2),(3,1),(2,0)],[1],none⟩)
 (.block 0 (.loop ak8)))
 (.seq (.aa ⟨[.v 8,.v 9,.t 0,.x 0 (.mv (.v 7)),.x 1 (.bin .eql (.t 0) (.c (.int (0)))),.p (.pick (.t 2) (.t 0) (.c (.bool false))),.t 5,.t 1],[(10,1),(11,0)],[2,3,4,6,7,8,9],none⟩)
 .ret))))}
abbrev DY:Fn:={np:=3,nv:=6,res:=[(4,none),(5,none)],body:=
(.seq (.aa ⟨[.p (.gj (.v 0)),.k 0,.k 0],[(3,2)],[0,4,5],none⟩)
 (.seq (.aa ⟨[.p (.bD (.v 3) 0 (some 10)),.h 0 6,.l,.v 1,.i,.l,.v 2,.i,.l,.p (.bD (.v 3) 0 (some 10)),.h 0 7,.l,.v 1,.i,.l,.v 2,.i,.l,.t 9,.t 1],[(4,1),(5,0)],[1,2,3],none⟩)
 .ret))}
abbrev DZ:Fn:={np:=2,nv:=2,res:=[],body:=
(.aa ⟨[.v 0,.v 0,.q,.h 0 0,.d,.v 1,.p (.dE [(.t 0)] 1),.p (.df (.t 2) (.t 0) none),.p (.oT (.t 7)),.h 0 0,.p (.st (.t 0) (.t 2) 1)],[],[0,1],none⟩)}
abbrev D0:Fn:={np:=3,nv:=5,res:=[(4,none)],body:=
(.seq (.aa ⟨[.p (.gj (.v 0)),.k 0],[(3,1)],[0,4],none⟩)
 (.seq (.aa ⟨[.p (.bD (.v 3) 0 (some 10)),.h 0 8,.l,.v 1,.i,.l,.v 2,.i,.l,.t 0],[(4,0)],[1,2,3],none⟩)
 .ret))}
abbrev D5:Fn:={np:=4,nv:=6,res:=[(5,none)],body:=
(.seq (.aa ⟨[.p (.gj (.v 0)),.k 0],[(4,1)],[0,5],none⟩)
 (.seq (.aa ⟨[.p (.bD (.v 4) 0 (some 10)),.h 0 9,.l,.v 1,.i,.l,.v 2,.i,.l,.v 3,.i,.l,.t 0],[(5,0)],[1,2,3,4],none⟩)
 .ret))}
abbrev D6:Fn:={np:=1,nv:=3,res:=[(2,none)],body:=
(.seq (.aa ⟨[.k 0],[],[2],none⟩)
 (.seq (.aa ⟨[.v 0,.q,.h 0 0,.d,.v 0,.q,.h 0 0,.d,.n,.p (.bin .sub (.t 0) (.c (.int (1)))),.p (.bP (.t 6) (.t 0) 1),.d,.t 0],[(1,0)],[],none⟩)
 (.seq (.aa ⟨[.v 0,.v 0,.q,.h 0 0,.d,.v 0,.q,.h 0 0,.d,.n,.p (.bin .sub (.t 0) (.c (.int (1)))),.p (.oP (.t 6) none (some (.t 0)) 1),.p (.oT (.t 11)),.h 0 0,.p (.st (.t 0) (.t 2) 1)],[],[0],none⟩)
 (.seq (.aa ⟨[.v 1,.t 0],[(2,0)],[1],none⟩)
 .ret))))}
abbrev D7:Fn:={np:=2,nv:=4,res:=[(3,none)],body:=
(.seq (.aa ⟨[.p (.gj (.v 1)),.b],[(2,1)],[1,3],none⟩)
 (.seq (.aa ⟨[.v 0,.p (.BS EG [(.v 2)]),.p (.bW zF [(.t 1),(.t 0)]),.t 0],[(3,0)],[0,2],none⟩)
 .ret))}
abbrev ak9:IC:=(.seq (.aa ⟨[.c 4 5],[],[],some (86,0)⟩)
 (.seq (.cond 86 .skip (.exit 0))
 (.seq (.block 1 (.seq (.aa ⟨[.p (.bP (.v 6) (.v 4) 1),.d,.t 0],[(7,0)],[],none⟩)
 (.seq (.seq (.aa ⟨[.v 7,.n,.f 2 2,.l,.p (.bin .neq (.t 2) (.t 0))],[],[],some (93,0)⟩)
 (.cond 93 (.seq (.aa ⟨[.k 1],[(8,0)],[2,3,4,5,6,7],none⟩)
 .ret) .skip))
 (.seq (.aa ⟨[.v 7,.v 3,.p (.bW tn [(.t 1),(.t 0)])],[],[7],some (96,0)⟩)
 (.cond 96 (.seq (.aa ⟨[.k 2],[(8,0)],[2,3,4,5,6],none⟩)
 .ret) .skip)))))
 (.aa ⟨[.p (.bin .add (.v 4) (.c (.int (1)))),.t 0],[(4,0)],[],none⟩))))
abbrev D8:Fn:={np:=2,nv:=9,res:=[(8,none)],body:=
(.seq (.aa ⟨[.p (.gj (.v 0)),.k 0],[(2,1)],[0,8],none⟩)
 (.seq (.aa ⟨[.f 2 5,.l,.n,.t 0],[(3,0)],[],none⟩)
 (.seq (.seq (.aa ⟨[.f 2 6,.l,.v 1,.i,.l,.n,.f 2 0,.l,.p (.bin .neq (.t 2) (.t 0)),.t 0,.y 0 (.bD (.v 2) 7 none),.y 1 (.bj (.t 0) none),.y 2 (.mv (.v 1)),.y 3 (.bP (.t 1) (.t 0) 1),.y 4 (.bj (.t 0) none),.y 5 (.len (.t 0)),.y 6 (.bD (.v 2) 0 none),.y 7 (.bj (.t 0) none),.y 8 (.bin .neq (.t 2) (.t 0)),.p (.pick (.t 9) (.c (.bool true)) (.t 0)),.t 0,.y 0 (.bD (.v 2) 8 none),.y 1 (.bj (.t 0) none),.y 2 (.mv (.v 1)),.y 3 (.bP (.t 1) (.t 0) 1),.y 4 (.bj (.t 0) none),.y 5 (.len (.t 0)),.y 6 (.bD (.v 2) 1 none),.y 7 (.bj (.t 0) none),.y 8 (.bin .neq (.t 2) (.t 0)),.p (.pick (.t 9) (.c (.bool true)) (.t 0)),.t 0,.y 0 (.bD (.v 2) 9 none),.y 1 (.bj (.t 0) none),.y 2 (.mv (.v 1)),.y 3 (.bP (.t 1) (.t 0) 1),.y 4 (.bj (.t 0) none),.y 5 (.len (.t 0)),.y 6 (.bD (.v 2) 3 none),.y 7 (.bj (.t 0) none),.y 8 (.bin .neq (.t 2) (.t 0)),.p (.pick (.t 9) (.c (.bool true)) (.t 0))],[],[],some (52,0)⟩)
 (.cond 52 (.seq (.aa ⟨[.k 1],[(8,0)],[1,2,3],none⟩)
 .ret) .skip))
 (.seq (.seq (.aa ⟨[.f 2 6,.l,.v 1,.i,.l,.v 3,.p (.bW tn [(.t 1),(.t 0)]),.t 0,.y 0 (.bD (.v 2) 7 none),.y 1 (.bj (.t 0) none),.y 2 (.mv (.v 1)),.y 3 (.bP (.t 1) (.t 0) 1),.y 4 (.bj (.t 0) none),.y 5 (.bD (.v 2) 3 none),.y 6 (.bj (.t 0) none),.y 7 (.bW tn [(.t 2),(.t 0)]),.p (.pick (.t 8) (.c (.bool true)) (.t 0)),.t 0,.y 0 (.bD (.v 2) 8 none),.y 1 (.bj (.t 0) none),.y 2 (.mv (.v 1)),.y 3 (.bP (.t 1) (.t 0) 1),.y 4 (.bj (.t 0) none),.y 5 (.mv (.v 3)),.y 6 (.bW tn [(.t 1),(.t 0)]),.p (.pick (.t 7) (.c (.bool true)) (.t 0))],[],[],some (78,0)⟩)
 (.cond 78 (.seq (.aa ⟨[.k 2],[(8,0)],[1,2,3],none⟩)
 .ret) .skip))
 (.seq (.seq (.aa ⟨[.f 2 9,.l,.v 1,.i,.l,.n,.k 0],[(6,2),(5,1),(4,0)],[1],none⟩)
 (.block 0 (.loop ak9)))
 (.seq (.aa ⟨[.k 0],[(8,0)],[2,3,4,5,6],none⟩)
 .ret))))))}
abbrev ala:IC:=(.seq (.aa ⟨[.c 2 3],[],[],some (13,0)⟩)
 (.seq (.cond 13 .skip (.exit 0))
 (.seq (.block 1 (.seq (.aa ⟨[.p (.bP (.v 4) (.v 2) 1),.d,.t 0],[(6,0)],[],none⟩)
 (.aa ⟨[.v 5,.v 6,.p (.df (.t 1) (.t 0) none),.t 0],[(5,0)],[6],none⟩)))
 (.aa ⟨[.p (.bin .add (.v 2) (.c (.int (1)))),.t 0],[(2,0)],[],none⟩))))
abbrev D9:Fn:={np:=1,nv:=8,res:=[(7,none)],body:=
(.seq (.aa ⟨[.p (.gj (.v 0)),.p (.mv (.c (.ah)))],[(1,1)],[0,7],none⟩)
 (.seq (.aa ⟨[.f 1 4,.l,.p (.mz [(.t 0)] none),.t 0],[(5,0)],[],none⟩)
 (.seq (.seq (.aa ⟨[.f 1 6,.l,.n,.k 0],[(4,2),(3,1),(2,0)],[1],none⟩)
 (.block 0 (.loop ala)))
 (.seq (.aa ⟨[.v 5,.p (.fI zH [(.t 0)])],[],[2,3,4],none⟩)
 (.seq (.aa ⟨[.v 5,.p (.fI Jt [(.t 0)]),.t 0],[(7,0)],[5],none⟩)
 .ret)))))}
abbrev Ea:Fn:={np:=2,nv:=5,res:=[(4,none)],body:=
(.seq (.aa ⟨[.k 0],[],[4],none⟩)
 (.seq (.aa ⟨[.v 0,.q,.h 0 13,.d,.v 1,.p (.bW zr [(.t 0)]),.p (.vq (.t 2) 1 (.t 0) (.int 0) true),.t 0,.p (.ext (.t 0) 0),.p (.ext (.t 1) 1),.t 1,.t 1],[(3,1),(2,0)],[],none⟩)
 (.seq (.seq (.aa ⟨[.v 2,.p (.not (.t 0))],[],[2],some (18,0)⟩)
 (.cond 18 (.seq (.aa ⟨[.v 0,.q,.h 0 12,.d,.n,.t 0],[(3,0)],[],none⟩)
 (.seq (.aa ⟨[.v 0,.q,.h 0 13,.d,.v 1,.p (.bW zr [(.t 0)]),.v 3,.p (.vl (.t 3) 1 (.t 1) (.t 0))],[],[],none⟩)
 (.aa ⟨[.v 0,.v 0,.q,.h 0 12,.d,.v 1,.p (.dE [(.t 0)] 1),.p (.df (.t 2) (.t 0) none),.p (.oT (.t 7)),.h 0 12,.p (.st (.t 0) (.t 2) 1)],[],[0,1],none⟩))) .skip))
 (.seq (.aa ⟨[.v 3,.t 0],[(4,0)],[0,1,3],none⟩)
 .ret))))}
abbrev QS:Fn:={np:=1,nv:=2,res:=[(1,none)],body:=
(.seq (.aa ⟨[.p (.mv (.c (.ah)))],[],[1],none⟩)
 (.seq (.seq (.aa ⟨[.v 0,.p (.nR false (.t 0))],[],[],some (4,0)⟩)
 (.cond 4 (.seq (.aa ⟨[.p (.mv (.c (.ah)))],[(1,0)],[0],none⟩)
 .ret) .skip))
 (.seq (.aa ⟨[.p (.su 1),.v 0,.p (.df (.t 1) (.t 0) none),.t 0],[(1,0)],[0],none⟩)
 .ret)))}
abbrev alb:IC:=(.seq (.aa ⟨[.c 3 4],[],[],some (19,0)⟩)
 (.seq (.cond 19 .skip (.exit 0))
 (.seq (.block 1 (.seq (.aa ⟨[.p (.bP (.v 5) (.v 3) 1),.d,.t 0],[(7,0)],[],none⟩)
 (.aa ⟨[.v 6,.v 0,.q,.p (.bD (.t 0) 0 (some 10)),.h 0 8,.d,.v 7,.i,.d,.v 2,.i,.d,.p (.dE [(.t 0)] 1),.p (.df (.t 12) (.t 0) none),.t 0],[(6,0)],[7],none⟩)))
 (.aa ⟨[.p (.bin .add (.v 3) (.c (.int (1)))),.t 0],[(3,0)],[],none⟩))))
abbrev Eb:Fn:={np:=3,nv:=9,res:=[(8,none)],body:=
(.seq (.aa ⟨[.p (.mv (.c (.ah)))],[],[8],none⟩)
 (.seq (.aa ⟨[.p (.nl none)],[(6,0)],[],none⟩)
 (.seq (.seq (.aa ⟨[.v 0,.q,.h 0 12,.d,.v 1,.i,.d,.n,.k 0],[(5,2),(4,1),(3,0)],[1],none⟩)
 (.block 0 (.loop alb)))
 (.seq (.aa ⟨[.v 6,.t 0],[(8,0)],[0,2,3,4,5,6],none⟩)
 .ret))))}
abbrev ald:IC:=(.seq (.aa ⟨[.c 4 5],[],[],some (16,0)⟩)
 (.seq (.cond 16 .skip (.exit 0))
 (.seq (.block 1 (.seq (.aa ⟨[.v 4,.t 0],[(7,0)],[],none⟩)
 (.aa ⟨[.v 6,.v 0,.v 0,.v 1,.v 2,.v 3,.v 7,.p (.tS Ju [(.t 4),(.t 3),(.t 2),(.t 1),(.t 0)]),.p (.fI wT [(.t 6),(.t 0)]),.p (.dE [(.t 0)] 1),.p (.df (.t 9) (.t 0) none),.t 0],[(6,0)],[7],none⟩)))
 (.aa ⟨[.p (.bin .add (.v 4) (.c (.int (1)))),.t 0],[(4,0)],[],none⟩))))
abbrev Ec:Fn:={np:=4,nv:=8,res:=[],body:=
(.seq (.aa ⟨[.p (.nl none)],[(6,0)],[],none⟩)
 (.seq (.seq (.aa ⟨[.v 0,.q,.p (.bD (.t 0) 0 (some 10)),.h 0 2,.d,.k 0],[(5,1),(4,0)],[],none⟩)
 (.seq (.block 0 (.loop ald)) (.lB 6)))
 (.aa ⟨[.v 0,.q,.h 0 15,.d,.v 1,.i,.d,.v 2,.v 0,.q,.h 0 15,.d,.v 1,.i,.d,.v 2,.i,.d,.v 6,.p (.dE [(.t 0)] 1),.p (.app (.t 2) (.t 0) none),.p (.bP (.t 14) (.t 13) 1),.p (.st (.t 0) (.t 1) 1)],[],[0,1,2,3,4,5,6],none⟩)))}
abbrev ale:IC:=(.seq (.aa ⟨[.c 2 3],[],[],some (19,0)⟩)
 (.seq (.cond 19 .skip (.exit 0))
 (.seq (.block 1 (.seq (.aa ⟨[.v 2,.t 0],[(4,0)],[],none⟩)
 (.seq (.aa ⟨[.v 0,.v 1,.v 4,.p (.bW EH [(.t 2),(.t 1),(.t 0)]),.p (.BB (.t 0)),.t 0],[(6,0)],[],none⟩)
 (.seq (.aa ⟨[.v 5,.v 6,.p (.vq (.t 1) 1 (.t 0) (.int 0) true),.t 0,.p (.ext (.t 0) 0),.p (.ext (.t 1) 1),.t 1,.t 1],[(8,1),(7,0)],[],none⟩)
 (.seq (.seq (.aa ⟨[.v 7,.p (.not (.t 0))],[],[7],some (33,0)⟩)
 (.cond 33 (.seq (.aa ⟨[.v 5,.p (.AU (.t 0)),.t 0],[(8,0)],[],none⟩)
 (.aa ⟨[.v 5,.v 6,.v 8,.p (.vl (.t 2) 1 (.t 1) (.t 0))],[],[6],none⟩)) .skip))
 (.aa ⟨[.v 9,.v 4,.v 8,.p (.bP (.t 2) (.t 1) 1),.p (.st (.t 0) (.t 1) 1)],[],[4,6,8],none⟩))))))
 (.aa ⟨[.p (.bin .add (.v 2) (.c (.int (1)))),.t 0],[(2,0)],[],none⟩))))
abbrev Ed:Fn:={np:=2,nv:=12,res:=[(10,none),(11,none)],body:=
(.seq (.aa ⟨[.p (.mv (.c (.ah))),.k 0],[],[10,11],none⟩)
 (.seq (.aa ⟨[.p (.yl),.t 0],[(5,0)],[],none⟩)
 (.seq (.aa ⟨[.v 1,.n,.p (.jV (.t 0) (.t 0) [.int 0] none),.t 0],[(9,0)],[],none⟩)
 (.seq (.seq (.aa ⟨[.v 1,.n,.k 0],[(3,1),(2,0)],[],none⟩)
 (.block 0 (.loop ale)))
 (.seq (.aa ⟨[.v 9,.v 5,.p (.AU (.t 0)),.t 2,.t 1],[(10,1),(11,0)],[0,1,2,3,5,9],none⟩)
 .ret)))))}
abbrev Ss:gh:=⟨[.k 0],[(6,0)],[],none⟩
abbrev Su:gh:=⟨[.v 2,.n,.k 0],[(5,2),(4,1),(3,0)],[],none⟩
abbrev Sv:IC:=(.seq (.aa ⟨[.c 3 4],[],[],some (14,0)⟩)
 (.seq (.cond 14 .skip (.exit 0))
 (.seq (.block 1 (.seq (.aa ⟨[.p (.bP (.v 5) (.v 3) 1),.d,.t 0],[(7,0)],[],none⟩)
 (.aa ⟨[.v 6,.v 7,.n,.p (.bin .add (.t 2) (.t 0)),.t 0],[(6,0)],[7],none⟩)))
 (.aa ⟨[.p (.bin .add (.v 3) (.c (.int (1)))),.t 0],[(3,0)],[],none⟩))))
abbrev Sw:gh:=⟨[.v 0,.q,.h 0 1,.d,.v 1,.i,.d,.t 0],[(8,0)],[3,4,5],none⟩
abbrev Sx:gh:=⟨[.v 6,.p (.bin .gtr (.t 0) (.c (.int (1024)))),.t 0,.y 0 (.mv (.v 0)),.y 1 (.oT (.t 0)),.y 2 (.bD (.t 0) 2 none),.y 3 (.ld (.t 0) none),.y 4 (.mv (.v 1)),.y 5 (.bP (.t 1) (.t 0) 1),.y 6 (.ld (.t 0) none),.p (.pick (.t 7) (.c (.bool true)) (.t 0)),.t 0,.y 0 (.mv (.v 8)),.y 1 (.nR true (.t 0)),.y 2 (.mv (.t 0)),.x 0 (.mv (.v 8)),.x 1 (.len (.t 0)),.x 2 (.mv (.v 6)),.x 3 (.bin .lss (.t 1) (.t 0)),.y 7 (.pick (.t 4) (.t 0) (.c (.bool false))),.p (.pick (.t 8) (.c (.bool true)) (.t 0))],[],[],some (49,0)⟩
abbrev JA:gh:=⟨[.p (.dE [] 1),.v 2,.p (.bW wM [(.t 0)]),.p (.df (.t 2) (.t 0) none),.t 0],[(9,0)],[2],none⟩
abbrev Sy:gh:=⟨[.v 8,.p (.nR true (.t 0)),.t 0,.x 0 (.mv (.v 8)),.x 1 (.mv (.v 9)),.x 2 (.bW pj [(.t 1),(.t 0)]),.x 3 (.bin .leq (.t 0) (.c (.int (0)))),.p (.pick (.t 4) (.t 0) (.c (.bool false)))],[],[],some (61,0)⟩
abbrev Sz:gh:=⟨[.v 0,.q,.h 0 1,.d,.v 1,.v 9,.p (.bP (.t 2) (.t 1) 1),.p (.st (.t 0) (.t 1) 1)],[],[9],none⟩
abbrev SA:gh:=⟨[.v 8,.p (.nR false (.t 0)),.t 0,.y 0 (.mv (.v 8)),.y 1 (.len (.t 0)),.y 2 (.mv (.v 6)),.y 3 (.bin .gtr (.t 1) (.t 0)),.p (.pick (.t 4) (.c (.bool true)) (.t 0))],[],[8],some (76,0)⟩
abbrev JB:gh:=⟨[.v 0,.q,.h 0 3,.d,.v 6,.v 0,.q,.h 0 3,.d,.v 6,.i,.d,.v 1,.p (.dE [(.t 0)] 1),.p (.app (.t 2) (.t 0) none),.p (.bP (.t 11) (.t 10) 1),.p (.st (.t 0) (.t 1) 1)],[],[0,1,6],none⟩
abbrev rL:Fn:={np:=3,nv:=10,res:=[],body:=
(.seq (.aa Ss)
 (.seq (.seq (.aa Su)
 (.block 0 (.loop Sv)))
 (.seq (.aa Sw)
 (.seq (.seq (.aa Sx)
 (.cond 49 .ret .skip))
 (.seq (.seq (.aa JA) (.lB 9))
 (.seq (.seq (.aa Sy)
 (.cond 61 .ret .skip))
 (.seq (.aa Sz)
 (.seq (.aa SA)
 (.cond 76 (.aa JB) .skip)))))))))}
abbrev alf:IC:=(.seq (.aa ⟨[.c 2 3],[],[],some (17,0)⟩)
 (.seq (.cond 17 .skip (.exit 0))
 (.seq (.block 1 (.seq (.aa ⟨[.p (.bP (.v 4) (.v 2) 1),.d,.t 0],[(5,0)],[],none⟩)
 (.seq (.aa ⟨[.v 0,.q,.h 0 2,.d,.v 5,.i,.d,.p (.not (.t 0))],[],[],some (27,0)⟩)
 (.cond 27 (.seq (.aa ⟨[.v 0,.q,.h 0 2,.d,.v 5,.i,.p (.st (.t 0) (.c (.bool true)) 1)],[],[],none⟩)
 (.aa ⟨[.v 6,.v 5,.p (.dE [(.t 0)] 1),.p (.df (.t 2) (.t 0) none),.t 0],[(6,0)],[5],none⟩)) .skip))))
 (.aa ⟨[.p (.bin .add (.v 2) (.c (.int (1)))),.t 0],[(2,0)],[5],none⟩))))
abbrev Ee:Fn:={np:=2,nv:=8,res:=[(7,none)],body:=
(.seq (.aa ⟨[.p (.mv (.c (.ah)))],[],[7],none⟩)
 (.seq (.aa ⟨[.p (.nl none)],[(6,0)],[],none⟩)
 (.seq (.seq (.aa ⟨[.v 0,.q,.h 0 3,.d,.v 1,.i,.d,.n,.k 0],[(4,2),(3,1),(2,0)],[1],none⟩)
 (.block 0 (.loop alf)))
 (.seq (.aa ⟨[.v 6,.t 0],[(7,0)],[0,2,3,4,6],none⟩)
 .ret))))}
abbrev alg:IC:=(.seq (.aa ⟨[.c 3 4],[],[],some (23,0)⟩)
 (.seq (.cond 23 .skip (.exit 0))
 (.seq (.block 1 (.seq (.aa ⟨[.v 3,.p (.bP (.v 5) (.v 3) 1),.d,.t 2,.t 1],[(7,1),(6,0)],[],none⟩)
 (.aa ⟨[.v 0,.v 6,.v 0,.q,.h 0 1,.d,.v 1,.i,.d,.v 2,.q,.p (.bD (.t 0) 0 (some 10)),.h 0 0,.d,.v 7,.p (.bin .add (.t 1) (.t 0)),.p (.cd [(.t 0)] 1),.p (.cd [(.t 8),(.t 0)] 1),.p (.fI uL [(.t 17),(.t 16),(.t 0)])],[],[6,7],none⟩)))
 (.aa ⟨[.p (.bin .add (.v 3) (.c (.int (1)))),.t 0],[(3,0)],[],none⟩))))
abbrev alh:IC:=(.seq (.aa ⟨[.c 11 12],[],[],some (62,0)⟩)
 (.seq (.cond 62 .skip (.exit 4))
 (.seq (.block 5 (.seq (.aa ⟨[.v 11,.t 0],[(13,0)],[],none⟩)
 (.seq (.aa ⟨[.v 0,.v 1,.v 13,.v 14,.p (.fI EI [(.t 3),(.t 2),(.t 1),(.t 0)])],[],[],none⟩)
 (.aa ⟨[.v 0,.v 14,.v 13,.v 1,.p (.fI EI [(.t 3),(.t 2),(.t 1),(.t 0)])],[],[13],none⟩))))
 (.aa ⟨[.p (.bin .add (.v 11) (.c (.int (1)))),.t 0],[(11,0)],[],none⟩))))
abbrev ali:IC:=(.seq (.aa ⟨[.c 8 9],[],[],some (53,0)⟩)
 (.seq (.cond 53 .skip (.exit 2))
 (.seq (.block 3 (.seq (.aa ⟨[.p (.bP (.v 10) (.v 8) 1),.d,.t 0],[(14,0)],[],none⟩)
 (.seq (.aa ⟨[.v 2,.q,.p (.bD (.t 0) 0 (some 10)),.h 0 0,.d,.k 0],[(12,1),(11,0)],[],none⟩)
 (.block 4 (.loop alh)))))
 (.aa ⟨[.p (.bin .add (.v 8) (.c (.int (1)))),.t 0],[(8,0)],[11,12,14],none⟩))))
abbrev Ef:Fn:={np:=2,nv:=15,res:=[],body:=
(.seq (.aa ⟨[.v 0,.q,.h 0 0,.d,.t 0],[(2,0)],[],none⟩)
 (.seq (.seq (.aa ⟨[.v 2,.q,.h 0 14,.d,.v 1,.i,.d,.n,.k 0],[(5,2),(4,1),(3,0)],[],none⟩)
 (.block 0 (.loop alg)))
 (.seq (.aa ⟨[.v 0,.q,.h 0 4,.d,.n,.k 0],[(10,2),(9,1),(8,0)],[3,4,5],none⟩)
 (.block 2 (.loop ali)))))}
abbrev alj:IC:=(.seq (.aa ⟨[.c 1 2],[],[],some (9,0)⟩)
 (.seq (.cond 9 .skip (.exit 0))
 (.seq (.block 1 (.seq (.aa ⟨[.p (.bP (.v 3) (.v 1) 1),.d,.t 0],[(4,0)],[],none⟩)
 (.seq (.aa ⟨[.v 4,.v 5,.p (.bin .neq (.t 1) (.t 0))],[],[],some (14,0)⟩)
 (.cond 14 (.seq (.aa ⟨[.v 4,.t 0],[(6,0)],[1,2,3,4,5],none⟩)
 .ret) .skip))))
 (.aa ⟨[.p (.bin .add (.v 1) (.c (.int (1)))),.t 0],[(1,0)],[4],none⟩))))
abbrev Eg:Fn:={np:=1,nv:=7,res:=[(6,none)],body:=
(.seq (.aa ⟨[.k 0],[],[6],none⟩)
 (.seq (.aa ⟨[.k 0],[(5,0)],[],none⟩)
 (.seq (.seq (.aa ⟨[.v 0,.n,.k 0],[(3,2),(2,1),(1,0)],[0],none⟩)
 (.block 0 (.loop alj)))
 (.seq (.aa ⟨[.v 5,.t 0],[(6,0)],[1,2,3,5],none⟩)
 .ret))))}
abbrev Eh:Fn:={np:=2,nv:=5,res:=[(4,none)],body:=
(.seq (.aa ⟨[.k 0],[],[4],none⟩)
 (.seq (.aa ⟨[.v 0,.p (.bW EJ [(.t 0)]),.t 0],[(2,0)],[],none⟩)
 (.seq (.aa ⟨[.v 1,.p (.bW EJ [(.t 0)]),.t 0],[(3,0)],[],none⟩)
 (.seq (.seq (.aa ⟨[.v 2],[],[2],some (11,0)⟩)
 (.cond 11 (.seq (.seq (.aa ⟨[.v 3],[],[0,1,3],some (12,0)⟩)
 (.cond 12 (.seq (.aa ⟨[.k 0],[(4,0)],[],none⟩)
 .ret) .skip))
 (.seq (.aa ⟨[.p (.mv (.c (.int (-1))))],[(4,0)],[],none⟩)
 .ret)) .skip))
 (.seq (.seq (.aa ⟨[.v 3],[],[3],some (13,0)⟩)
 (.cond 13 (.seq (.aa ⟨[.k 1],[(4,0)],[0,1],none⟩)
 .ret) .skip))
 (.seq (.seq (.aa ⟨[.v 0,.v 1,.p (.bin .lss (.t 1) (.t 0))],[],[],some (16,0)⟩)
 (.cond 16 (.seq (.aa ⟨[.p (.mv (.c (.int (-1))))],[(4,0)],[0,1],none⟩)
 .ret) .skip))
 (.seq (.seq (.aa ⟨[.v 0,.v 1,.p (.bin .gtr (.t 1) (.t 0))],[],[0,1],some (19,0)⟩)
 (.cond 19 (.seq (.aa ⟨[.k 1],[(4,0)],[],none⟩)
 .ret) .skip))
 (.seq (.aa ⟨[.k 0],[(4,0)],[],none⟩)
 .ret))))))))}
abbrev alm:IC:=(.seq (.aa ⟨[.c 2 3],[],[],some (12,0)⟩)
 (.seq (.cond 12 .skip (.exit 0))
 (.seq (.block 1 (.seq (.aa ⟨[.v 2,.p (.bP (.v 4) (.v 2) 1),.d,.t 2,.t 1],[(5,1),(6,0)],[],none⟩)
 (.seq (.seq (.aa ⟨[.v 5,.v 1,.n,.p (.bin .geq (.t 2) (.t 0))],[],[],some (19,0)⟩)
 (.cond 19 (.seq (.aa ⟨[.k 1],[(9,0)],[0,1,2,3,4,5,6],none⟩)
 .ret) .skip))
 (.seq (.aa ⟨[.v 1,.v 5,.i,.d,.t 0],[(7,0)],[5],none⟩)
 (.seq (.aa ⟨[.v 6,.v 7,.p (.bW EF [(.t 1),(.t 0)]),.t 0],[(8,0)],[6,7],none⟩)
 (.seq (.aa ⟨[.v 8,.p (.bin .neq (.t 0) (.c (.int (0))))],[],[],some (28,0)⟩)
 (.cond 28 (.seq (.aa ⟨[.v 8,.t 0],[(9,0)],[0,1,2,3,4,8],none⟩)
 .ret) .skip)))))))
 (.aa ⟨[.p (.bin .add (.v 2) (.c (.int (1)))),.t 0],[(2,0)],[8],none⟩))))
abbrev Ei:Fn:={np:=2,nv:=10,res:=[(9,none)],body:=
(.seq (.aa ⟨[.k 0],[],[9],none⟩)
 (.seq (.seq (.aa ⟨[.v 0,.n,.k 0],[(4,2),(3,1),(2,0)],[],none⟩)
 (.block 0 (.loop alm)))
 (.seq (.seq (.aa ⟨[.v 0,.n,.v 1,.n,.p (.bin .lss (.t 2) (.t 0))],[],[0,1,2,3,4],some (35,0)⟩)
 (.cond 35 (.seq (.aa ⟨[.p (.mv (.c (.int (-1))))],[(9,0)],[],none⟩)
 .ret) .skip))
 (.seq (.aa ⟨[.k 0],[(9,0)],[],none⟩)
 .ret))))}
abbrev aln:IC:=(.seq (.aa ⟨[.c 2 3],[],[],some (9,0)⟩)
 (.seq (.cond 9 .skip (.exit 0))
 (.seq (.block 1 (.seq (.aa ⟨[.v 2,.t 0],[(4,0)],[],none⟩)
 (.seq (.aa ⟨[.v 1,.v 0,.v 4,.p (.bP (.t 1) (.t 0) 3),.p (.ld (.t 0) (some 3)),.p (.lG (.t 4) [(.t 0)])],[],[],some (16,0)⟩)
 (.cond 16 (.seq (.aa ⟨[.v 4,.t 0],[(5,0)],[0,1,2,3,4],none⟩)
 .ret) .skip))))
 (.aa ⟨[.p (.bin .add (.v 2) (.c (.int (1)))),.t 0],[(2,0)],[4],none⟩))))
abbrev Ej:Fn:={np:=2,nv:=6,res:=[(5,none)],body:=
(.seq (.aa ⟨[.k 0],[],[5],none⟩)
 (.seq (.seq (.aa ⟨[.v 0,.n,.k 0],[(3,1),(2,0)],[],none⟩)
 (.block 0 (.loop aln)))
 (.seq (.aa ⟨[.p (.mv (.c (.int (-1))))],[(5,0)],[0,1,2,3],none⟩)
 .ret)))}
abbrev alo:IC:=(.seq (.aa ⟨[.c 5 6],[],[],some (32,0)⟩)
 (.seq (.cond 32 .skip (.exit 2))
 (.seq (.block 3 (.seq (.aa ⟨[.v 5,.t 0],[(9,0)],[],none⟩)
 (.aa ⟨[.v 7,.v 8,.f 2 0,.l,.p (.bin .mul (.t 2) (.t 0)),.v 9,.p (.bin .add (.t 1) (.t 0)),.p (.dE [(.t 0)] 1),.p (.df (.t 7) (.t 0) none),.t 0],[(7,0)],[9],none⟩)))
 (.aa ⟨[.p (.bin .add (.v 5) (.c (.int (1)))),.t 0],[(5,0)],[],none⟩))))
abbrev alq:IC:=(.seq (.aa ⟨[.c 12 13],[],[],some (50,0)⟩)
 (.seq (.cond 50 .skip (.exit 4))
 (.seq (.block 5 (.seq (.aa ⟨[.v 12,.t 0],[(14,0)],[],none⟩)
 (.aa ⟨[.v 11,.v 14,.f 2 2,.l,.p (.jV (.t 0) (.t 0) [.int 0] none),.p (.bP (.t 4) (.t 3) 1),.p (.st (.t 0) (.t 1) 1)],[],[14],none⟩)))
 (.aa ⟨[.p (.bin .add (.v 12) (.c (.int (1)))),.t 0],[(12,0)],[],none⟩))))
abbrev alr:IC:=(.seq (.aa ⟨[.c 3 4],[],[],some (27,0)⟩)
 (.seq (.cond 27 .skip (.exit 0))
 (.seq (.block 1 (.seq (.aa ⟨[.v 3,.t 0],[(8,0)],[],none⟩)
 (.seq (.aa ⟨[.p (.nl none)],[(7,0)],[],none⟩)
 (.seq (.seq (.aa ⟨[.f 2 0,.l,.k 0],[(6,1),(5,0)],[],none⟩)
 (.block 2 (.loop alo)))
 (.seq (.aa ⟨[.f 10 3,.d,.p (.jV (.t 0) (.t 0) [.ah] none),.t 0],[(11,0)],[5,6,8],none⟩)
 (.seq (.seq (.aa ⟨[.v 11,.n,.k 0],[(13,1),(12,0)],[],none⟩)
 (.block 4 (.loop alq)))
 (.seq (.aa ⟨[.f 10 6,.d,.f 2 0,.l,.p (.jV (.t 0) (.t 0) [.int 0] none),.p (.dE [(.t 0)] 1),.p (.app (.t 4) (.t 0) none),.f 10 7,⟨.ld (.t 0) none,none,true⟩,.v 7,.p (.dE [(.t 0)] 1),.p (.app (.t 2) (.t 0) none),.f 10 6,.p (.st (.t 0) (.t 6) 1),.f 10 7,.p (.st (.t 0) (.t 3) 1)],[],[7,12,13],none⟩)
 (.aa ⟨[.f 10 8,.d,.f 2 1,.l,.p (.jV (.t 0) (.t 0) [.int 0] none),.p (.dE [(.t 0)] 1),.p (.app (.t 4) (.t 0) none),.f 10 9,⟨.ld (.t 0) none,none,true⟩,.v 11,.p (.dE [(.t 0)] 1),.p (.app (.t 2) (.t 0) none),.f 10 8,.p (.st (.t 0) (.t 6) 1),.f 10 9,.p (.st (.t 0) (.t 3) 1)],[],[11],none⟩))))))))
 (.aa ⟨[.p (.bin .add (.v 3) (.c (.int (1)))),.t 0],[(3,0)],[],none⟩))))
abbrev Ek:Fn:={np:=2,nv:=16,res:=[(15,some (some 10))],body:=
(.seq (.aa ⟨[.p (.gj (.v 0)),.p (.oD fe (some 10))],[(2,1),(15,0)],[0],none⟩)
 (.seq (.aa ⟨[.f 2 0,.l,.f 2 1,.l,.f 2 2,.l,.v 1,.f 2 0,.l,.p (.bin .mul (.t 2) (.t 0)),.p (.mx true (.c (.int (1))) (.t 0)),.v 1,.p (.jV (.t 0) (.t 0) [.bool false] none),.p (.jK fe [(0,1,(.t 11)),(1,1,(.t 9)),(2,1,(.t 7)),(3,1,(.t 2)),(5,1,(.t 0))]),.p (.oD fe (some 10)),.p (.st (.t 0) (.t 1) 10)],[(10,1)],[],none⟩)
 (.seq (.seq (.aa ⟨[.v 1,.k 0],[(4,1),(3,0)],[1],none⟩)
 (.block 0 (.loop alr)))
 (.seq (.aa ⟨[.p (.ld (.v 10) (some 10)),.p (.st (.v 15) (.t 0) 10)],[],[2,3,4,10],none⟩)
 .ret))))}
abbrev als:IC:=(.seq (.seq (.aa ⟨[.v 2,.v 0,.n,.p (.bin .lss (.t 2) (.t 0))],[],[],some (14,0)⟩)
 (.cond 14 .skip (.exit 0)))
 (.seq (.block 1 (.seq (.aa ⟨[.v 0,.v 2,.i,.d,.v 1,.v 2,.i,.d,.p (.bin .neq (.t 4) (.t 0))],[],[],some (25,0)⟩)
 (.cond 25 (.seq (.aa ⟨[.b],[(3,0)],[0,1,2],none⟩)
 .ret) .skip)))
 (.aa ⟨[.v 2,.p (.bin .add (.t 0) (.c (.int (1)))),.t 0],[(2,0)],[],none⟩)))
abbrev El:Fn:={np:=2,nv:=4,res:=[(3,none)],body:=
(.seq (.aa ⟨[.b],[],[3],none⟩)
 (.seq (.seq (.aa ⟨[.v 0,.n,.v 1,.n,.p (.bin .neq (.t 2) (.t 0))],[],[],some (10,0)⟩)
 (.cond 10 (.seq (.aa ⟨[.b],[(3,0)],[0,1],none⟩)
 .ret) .skip))
 (.seq (.seq (.aa ⟨[.k 0],[(2,0)],[],none⟩)
 (.block 0 (.loop als)))
 (.seq (.aa ⟨[.p (.mv (.c (.bool true)))],[(3,0)],[0,1,2],none⟩)
 .ret))))}
abbrev alu:IC:=(.block 1 (.seq (.aa ⟨[.v 0,.p (.fI Jv [(.t 0)]),.t 0,.p (.ext (.t 0) 0),.p (.ext (.t 1) 1),.p (.ext (.t 2) 2),.t 2,.t 2,.t 2],[(4,2),(2,1),(1,0)],[],none⟩)
 (.seq (.seq (.aa ⟨[.v 1,.p (.bin .neq (.t 0) (.c (.int (0)))),.t 0,.y 0 (.mv (.v 2)),.y 1 (.not (.t 0)),.p (.pick (.t 2) (.c (.bool true)) (.t 0))],[],[2],some (18,0)⟩)
 (.cond 18 (.seq (.aa ⟨[.v 1,.t 0],[(5,0)],[0,1,4],none⟩)
 .ret) .skip))
 (.seq (.seq (.aa ⟨[.v 0,.q,.h 0 10,.d,.n,.p (.bin .add (.t 0) (.c (.int (1)))),.t 0],[(3,0)],[1],none⟩)
 (.seq (.aa ⟨[.v 3,.p (.bin .gtr (.t 0) (.c (.int (128)))),.t 0,.y 0 (.mv (.v 3)),.y 1 (.mv (.v 0)),.y 2 (.oT (.t 0)),.y 3 (.bD (.t 0) 0 (some 10)),.y 4 (.bD (.t 0) 0 none),.y 5 (.ld (.t 0) none),.y 6 (.bin .mul (.t 5) (.t 0)),.y 7 (.bin .gtr (.t 0) (.c (.int (128)))),.p (.pick (.t 8) (.c (.bool true)) (.t 0))],[],[3],some (37,0)⟩)
 (.cond 37 (.seq (.aa ⟨[.k 11],[(5,0)],[0,4],none⟩)
 .ret) .skip)))
 (.aa ⟨[.v 0,.v 0,.q,.h 0 10,.d,.v 4,.p (.cd [(.t 0)] 1),.p (.cd [(.t 2),(.t 0)] 1),.p (.bW EK [(.t 0)]),.p (.oT (.t 8)),.h 0 10,.p (.st (.t 0) (.t 2) 1)],[],[4],none⟩)))))
abbrev Em:Fn:={np:=1,nv:=6,res:=[(5,none)],body:=
(.seq (.aa ⟨[.k 0],[],[5],none⟩)
 (.block 0 (.loop alu)))}
abbrev alv:IC:=(.seq (.aa ⟨[.c 11 12],[],[],some (68,0)⟩)
 (.seq (.cond 68 .skip (.exit 2))
 (.seq (.block 3 (.seq (.aa ⟨[.v 11,.t 0],[(13,0)],[],none⟩)
 (.seq (.seq (.aa ⟨[.v 0,.v 0,.v 6,.v 13,.p (.fI CX [(.t 2),(.t 1),(.t 0)]),.p (.fI tf [(.t 4),(.t 0)]),.t 0,.p (.ext (.t 0) 0),.p (.ext (.t 1) 1),.t 1,.t 1],[(10,1),(7,0)],[],none⟩)
 (.seq (.aa ⟨[.v 7,.p (.bin .neq (.t 0) (.c (.int (0))))],[],[],some (80,0)⟩)
 (.cond 80 (.seq (.aa ⟨[.p (.jK fe []),.v 7,.p (.st (.v 2) (.t 1) 10),.t 1],[(26,0)],[0,3,4,5,6,7,8,9,10,11,12,13,14],none⟩)
 .ret) .skip)))
 (.aa ⟨[.f 8 8,.d,.v 9,.i,.d,.v 13,.v 14,.v 10,.p (.vq (.t 1) 1 (.t 0) (.int 0) false),.p (.bP (.t 4) (.t 3) 1),.p (.st (.t 0) (.t 1) 1)],[],[7,10,13],none⟩))))
 (.aa ⟨[.p (.bin .add (.v 11) (.c (.int (1)))),.t 0],[(11,0)],[],none⟩))))
abbrev alw:IC:=(.seq (.aa ⟨[.c 20 21],[],[],some (118,0)⟩)
 (.seq (.cond 118 .skip (.exit 8))
 (.seq (.block 9 (.seq (.aa ⟨[.v 20,.t 0],[(24,0)],[],none⟩)
 (.seq (.seq (.aa ⟨[.v 0,.v 0,.v 22,.v 23,.v 6,.v 24,.p (.fI CY [(.t 4),(.t 3),(.t 2),(.t 1),(.t 0)]),.p (.fI tf [(.t 6),(.t 0)]),.t 0,.p (.ext (.t 0) 0),.p (.ext (.t 1) 1),.t 1,.t 1],[(10,1),(7,0)],[],none⟩)
 (.seq (.aa ⟨[.v 7,.p (.bin .neq (.t 0) (.c (.int (0))))],[],[],some (132,0)⟩)
 (.cond 132 (.seq (.aa ⟨[.p (.jK fe []),.v 7,.p (.st (.v 2) (.t 1) 10),.t 1],[(26,0)],[0,3,4,5,6,7,8,9,10,14,15,16,17,18,19,20,21,22,23,24,25],none⟩)
 .ret) .skip)))
 (.aa ⟨[.f 8 9,.d,.v 9,.i,.d,.v 25,.v 0,.q,.p (.bD (.t 0) 0 (some 10)),.h 0 0,.d,.p (.bin .mul (.t 5) (.t 0)),.v 23,.p (.bin .add (.t 1) (.t 0)),.p (.bP (.t 9) (.t 0) 1),.d,.v 24,.v 14,.v 10,.p (.vq (.t 1) 1 (.t 0) (.int 0) false),.p (.bP (.t 4) (.t 3) 1),.p (.st (.t 0) (.t 1) 1)],[],[7,10,24],none⟩))))
 (.aa ⟨[.p (.bin .add (.v 20) (.c (.int (1)))),.t 0],[(20,0)],[],none⟩))))
abbrev alx:IC:=(.seq (.aa ⟨[.c 18 19],[],[],some (110,0)⟩)
 (.seq (.cond 110 .skip (.exit 6))
 (.seq (.block 7 (.seq (.aa ⟨[.v 18,.t 0],[(23,0)],[],none⟩)
 (.seq (.aa ⟨[.v 0,.q,.p (.bD (.t 0) 0 (some 10)),.h 0 2,.d,.k 0],[(21,1),(20,0)],[],none⟩)
 (.block 8 (.loop alw)))))
 (.aa ⟨[.p (.bin .add (.v 18) (.c (.int (1)))),.t 0],[(18,0)],[20,21,23],none⟩))))
abbrev aly:IC:=(.seq (.aa ⟨[.c 15 16],[],[],some (100,0)⟩)
 (.seq (.cond 100 .skip (.exit 4))
 (.seq (.block 5 (.seq (.aa ⟨[.v 15,.p (.bP (.v 17) (.v 15) 1),.d,.t 2,.t 1],[(25,1),(22,0)],[],none⟩)
 (.seq (.aa ⟨[.v 0,.q,.p (.bD (.t 0) 0 (some 10)),.h 0 0,.d,.k 0],[(19,1),(18,0)],[],none⟩)
 (.block 6 (.loop alx)))))
 (.aa ⟨[.p (.bin .add (.v 15) (.c (.int (1)))),.t 0],[(15,0)],[18,19,22,25],none⟩))))
abbrev alz:IC:=(.seq (.aa ⟨[.c 3 4],[],[],some (41,0)⟩)
 (.seq (.cond 41 .skip (.exit 0))
 (.seq (.block 1 (.seq (.aa ⟨[.v 3,.p (.bP (.v 5) (.v 3) 1),.d,.t 2,.t 1],[(9,1),(6,0)],[],none⟩)
 (.seq (.aa ⟨[.v 0,.v 6,.p (.fI tf [(.t 1),(.t 0)]),.t 0,.p (.ext (.t 0) 0),.p (.ext (.t 1) 1),.t 1,.t 1],[(10,1),(7,0)],[],none⟩)
 (.seq (.seq (.aa ⟨[.v 7,.p (.bin .neq (.t 0) (.c (.int (0))))],[],[],some (52,0)⟩)
 (.cond 52 (.seq (.aa ⟨[.p (.jK fe []),.v 7,.p (.st (.v 2) (.t 1) 10),.t 1],[(26,0)],[0,3,4,5,6,7,8,9,10,14],none⟩)
 .ret) .skip))
 (.seq (.aa ⟨[.f 8 5,.d,.v 9,.v 10,.p (.LF (.t 0) (.c (.int (0)))),.p (.LG false (.t 0) (.c (.ik 4 (43)))),.p (.bP (.t 4) (.t 3) 1),.p (.st (.t 0) (.t 1) 1)],[],[7,10],none⟩)
 (.seq (.seq (.aa ⟨[.v 0,.q,.p (.bD (.t 0) 0 (some 10)),.h 0 1,.d,.k 0],[(12,1),(11,0)],[],none⟩)
 (.block 2 (.loop alv)))
 (.seq (.aa ⟨[.v 0,.q,.h 0 10,.d,.n,.k 0],[(17,2),(16,1),(15,0)],[11,12],none⟩)
 (.block 4 (.loop aly)))))))))
 (.aa ⟨[.p (.bin .add (.v 3) (.c (.int (1)))),.t 0],[(3,0)],[6,9,15,16,17],none⟩))))
abbrev En:Fn:={np:=1,nv:=27,res:=[(2,some (some 10)),(26,none)],body:=
(.seq (.aa ⟨[.p (.oD fe (some 10)),.k 0],[(2,1)],[26],none⟩)
 (.seq (.aa ⟨[.v 0,.p (.fI CH [(.t 0)]),.t 0,.p (.ext (.t 0) 0),.p (.ext (.t 1) 1),.t 1,.t 1],[(14,1),(1,0)],[],none⟩)
 (.seq (.seq (.aa ⟨[.v 1,.p (.bin .neq (.t 0) (.c (.int (0))))],[],[],some (22,0)⟩)
 (.cond 22 (.seq (.aa ⟨[.p (.jK fe []),.v 1,.p (.st (.v 2) (.t 1) 10),.t 1],[(26,0)],[0,1,14],none⟩)
 .ret) .skip))
 (.seq (.aa ⟨[.v 0,.q,.p (.bD (.t 0) 0 (some 10)),.p (.ld (.t 0) (some 10)),.v 0,.q,.h 0 10,.d,.n,.p (.can wU [(.t 5),(.t 0)]),.p (.oD fe (some 10)),.p (.st (.t 0) (.t 1) 10)],[(8,1)],[1],none⟩)
 (.seq (.seq (.aa ⟨[.v 0,.q,.h 0 10,.d,.n,.k 0],[(5,2),(4,1),(3,0)],[],none⟩)
 (.block 0 (.loop alz)))
 (.seq (.aa ⟨[.p (.ld (.v 8) (some 10)),.p (.st (.v 2) (.t 0) 10),.k 0],[(26,0)],[0,3,4,5,8,14],none⟩)
 .ret))))))}
abbrev Eo:Fn:={np:=1,nv:=3,res:=[(2,none)],body:=
(.seq (.aa ⟨[.p (.gj (.v 0)),.k 0],[(1,1)],[0,2],none⟩)
 (.seq (.aa ⟨[.p (.bD (.v 1) 0 (some 10)),.p (.bj (.t 0) (some 10)),.p (.bW jM [(.t 0)]),.p (.bD (.v 1) 10 (some 10)),.p (.bj (.t 0) (some 10)),.p (.bW jM [(.t 0)]),.p (.bin .mul (.t 3) (.t 0)),.t 0],[(2,0)],[1],none⟩)
 .ret))}
abbrev Ep:Fn:={np:=2,nv:=5,res:=[(3,none),(4,none)],body:=
(.seq (.aa ⟨[.p (.gj (.v 0)),.k 0,.k 0],[(2,2)],[0,3,4],none⟩)
 (.seq (.aa ⟨[.v 1,.p (.bD (.v 2) 10 (some 10)),.p (.bj (.t 0) (some 10)),.p (.bW jM [(.t 0)]),.p (.bin .quo (.t 3) (.t 0)),.v 1,.p (.bD (.v 2) 10 (some 10)),.p (.bj (.t 0) (some 10)),.p (.bW jM [(.t 0)]),.p (.bin .rem (.t 3) (.t 0)),.t 5,.t 1],[(3,1),(4,0)],[1,2],none⟩)
 .ret))}
end Ab
