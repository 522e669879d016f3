/- The functions of the program as small texts, printed by a tool of mine. Condition: none. -/
import Derived.Test.YtdenhmniigikcaaGreatAbBase
set_option linter.all false
namespace Ab
abbrev Ln.l:Ln:=.p (.cg (.t 0) none)
abbrev Ln.d:Ln:=.p (.ld (.t 0) none)
abbrev Ln.k (n:Int):Ln:=.p (.mv (.c (.int n)))
abbrev Ln.i:Ln:=.p (.bU (.t 1) (.t 0) 1)
abbrev Ln.n:Ln:=.p (.len (.t 0))
abbrev Ln.q:Ln:=.p (.oO (.t 0))
abbrev Ln.f (v o:Nat):Ln:=.p (.b5 (.v v) o none)
abbrev Ln.h (v o:Nat):Ln:=.p (.b5 (.t v) o none)
abbrev Ln.b:Ln:=.p (.mv (.c (.bool false)))
abbrev Ln.c (a b:Nat):Ln:=.p (.bin .lss (.v a) (.v b))
abbrev fb:List AV:=[.int 0,.int 0,.int 0,.int 0,.int 0,.ah,.ah,.ah,.ah,.ah]
abbrev Ii:Nat:=178
abbrev jq:Nat:=150
abbrev jJ:Nat:=110
abbrev aoF:Nat:=9
def aoG:Nat:=3
def aoH:Nat:=4
def aoI:Nat:=5
def aoJ:Nat:=6
def Qd:Nat:=7
def aoK:Nat:=8
def Il:Nat:=9
def wK:Nat:=10
def ql:Nat:=11
def aoL:Nat:=12
def zm:Nat:=13
def Im:Nat:=14
def aoM:Nat:=15
def aoN:Nat:=16
def aoO:Nat:=17
def aoP:Nat:=18
def aoQ:Nat:=19
def Ig:Nat:=20
def Io:Nat:=21
def DY:Nat:=22
def DZ:Nat:=23
def uJ:Nat:=24
def Ip:Nat:=25
def D0:Nat:=26
def D5:Nat:=27
def D6:Nat:=28
def o9:Nat:=29
def Iq:Nat:=30
def uK:Nat:=31
def D7:Nat:=32
def zn:Nat:=33
def D8:Nat:=34
def aoR:Nat:=35
def aoS:Nat:=36
def aoT:Nat:=37
def aoU:Nat:=38
def aoV:Nat:=39
def aoW:Nat:=40
def wL:Nat:=41
def Ir:Nat:=42
def Is:Nat:=43
def It:Nat:=44
def ajv:Nat:=45
def aoX:Nat:=46
def aoY:Nat:=47
def aoZ:Nat:=48
def ao0:Nat:=49
def ao1:Nat:=50
def ao2:Nat:=51
def ao3:Nat:=52
def ao4:Nat:=53
def ao5:Nat:=54
def ao6:Nat:=55
def ao7:Nat:=56
def ao8:Nat:=57
def D9:Nat:=58
def zo:Nat:=59
def Ea:Nat:=60
def tc:Nat:=61
def Iu:Nat:=62
def ta:Nat:=63
def te:Nat:=64
def wJ:Nat:=65
def tf:Nat:=66
def Iv:Nat:=67
def Iw:Nat:=68
def wM:Nat:=69
def uI:Nat:=70
def Iz:Nat:=71
def zp:Nat:=72
def IA:Nat:=73
def uL:Nat:=74
def IB:Nat:=75
def Eb:Nat:=76
def ID:Nat:=77
def Ec:Nat:=78
def IE:Nat:=79
def IF:Nat:=80
def ao9:Nat:=81
def apa:Nat:=82
def wN:Nat:=83
def apb:Nat:=84
def apc:Nat:=85
def apd:Nat:=86
def ape:Nat:=87
def apf:Nat:=88
def apg:Nat:=89
def aph:Nat:=90
def api:Nat:=91
def apj:Nat:=92
def apk:Nat:=93
def apl:Nat:=94
def IG:Nat:=95
def IH:Nat:=96
def II:Nat:=97
def o8:Nat:=98
def zl:Nat:=99
def Qf:Nat:=100
def jK:Nat:=101
def apm:Nat:=102
def apn:Nat:=103
def uH:Nat:=104
def zg:Nat:=105
def apo:Nat:=106
def apq:Nat:=107
def apr:Nat:=108
def aps:Nat:=109
def apt:Nat:=110
def apu:Nat:=111
def apv:Nat:=112
def apw:Nat:=113
def apx:Nat:=114
def apy:Nat:=115
def apz:Nat:=116
def IJ:Nat:=117
def zq:Nat:=118
def zr:Nat:=119
def Ed:Nat:=120
def zt:Nat:=121
def IK:Nat:=122
def IL:Nat:=123
def Ee:Nat:=124
def wO:Nat:=125
def Ef:Nat:=126
def Eg:Nat:=127
def apA:Nat:=128
def apB:Nat:=129
def apC:Nat:=130
def apD:Nat:=131
def apE:Nat:=132
def apF:Nat:=133
def apG:Nat:=134
def apH:Nat:=135
def apI:Nat:=136
def apJ:Nat:=137
def apK:Nat:=138
def apL:Nat:=139
def apM:Nat:=140
def IM:Nat:=141
def Eh:Nat:=142
def Ei:Nat:=143
def th:Nat:=144
def Cp:Nat:=145
def Cq:Nat:=146
def Qh:Nat:=147
def Qi:Nat:=148
def Qj:Nat:=149
def apN:Nat:=150
def apO:Nat:=151
def apP:Nat:=152
def IP:Nat:=153
def apQ:Nat:=154
def Ej:Nat:=155
def zu:Nat:=156
def apR:Nat:=157
def apS:Nat:=158
def apT:Nat:=159
def apU:Nat:=160
def apV:Nat:=161
def IQ:Nat:=162
def Cs:Nat:=163
def IS:Nat:=164
def Ie:Nat:=165
def P8:Nat:=166
def P9:Nat:=167
def Ih:Nat:=168
def wH:Nat:=169
def Ij:Nat:=170
def apW:Nat:=171
def apX:Nat:=172
def apY:Nat:=173
def apZ:Nat:=174
def ap0:Nat:=175
def ap2:Nat:=176
def ap3:Nat:=177
def ap4:Nat:=178
def ap5:Nat:=179
def ap6:Nat:=180
def ap7:Nat:=181
def Ik:Nat:=182
def zh:Nat:=183
def Cw:Nat:=184
def ap8:Nat:=185
def ap9:Nat:=186
def aqa:Nat:=187
def aqb:Nat:=188
def zi:Nat:=189
def zj:Nat:=190
def CD:Nat:=191
def zk:Nat:=192
def aqc:Nat:=193
def aqd:Nat:=194
def aqe:Nat:=195
def aqf:Nat:=196
def aqg:Nat:=197
def aqh:Nat:=198
def aqi:Nat:=199
def aqj:Nat:=200
def aqk:Nat:=201
def aql:Nat:=202
def aqm:Nat:=203
def aqn:Nat:=204
def aqo:Nat:=205
def aqp:Nat:=206
def Cg:Nat:=222
def Ce:Nat:=223
def Cj:Nat:=224
abbrev CL:Fn:={np:=1,nv:=7,res:=[(6,none)],body:=
(.seq (.ae ⟨[.p (.iD (.v 0)),.b],[(1,1)],[0,6],none⟩)
 (.seq (.seq (.ae ⟨[.p (.cg (.v 1) (some 10)),.p (.cu Il [(.t 0)]),.p (.not (.t 0))],[],[],some (9,0)⟩)
 (.cond 9 (.seq (.ae ⟨[.p (.cu wK []),.t 0],[(6,0)],[1],none⟩)
 .ret) .skip))
 (.seq (.ae ⟨[.p (.cg (.v 1) (some 10)),.p (.cu ql [(.t 0)]),.t 0,.p (.ext (.t 0) 0),.p (.ext (.t 1) 1),.p (.gn 10),.p (.ku (.t 0) (.t 2) 10),.t 2],[(3,1),(2,0)],[1],none⟩)
 (.seq (.seq (.ae ⟨[.v 2,.p (.bin .neq (.t 0) (.c (.int (0)))),.t 0,.y 0 (.b5 (.v 3) 5 none),.y 1 (.cg (.t 0) none),.y 2 (.len (.t 0)),.y 3 (.bin .gtr (.t 0) (.c (.int (10)))),.p (.pick (.t 4) (.c (.bool true)) (.t 0))],[],[2],some (23,0)⟩)
 (.cond 23 (.seq (.ae ⟨[.p (.cu wK []),.t 0],[(6,0)],[3],none⟩)
 .ret) .skip))
 (.seq (.ae ⟨[.p (.cg (.v 3) (some 10)),.p (.cu ql [(.t 0)]),.t 0,.p (.ext (.t 0) 0),.p (.ext (.t 1) 1),.p (.gn 10),.p (.ku (.t 0) (.t 2) 10),.t 2],[(5,1),(4,0)],[],none⟩)
 (.seq (.ae ⟨[.v 4,.p (.bin .eql (.t 0) (.c (.int (0)))),.t 0,.x 0 (.cg (.v 3) (some 10)),.x 1 (.cg (.v 5) (some 10)),.x 2 (.cu zm [(.t 1),(.t 0)]),.p (.pick (.t 3) (.t 0) (.c (.bool false))),.t 0,.x 0 (.cu wK []),.p (.pick (.t 1) (.t 0) (.c (.bool false))),.t 0],[(6,0)],[3,4,5],none⟩)
 .ret))))))}
abbrev CM:Fn:={np:=1,nv:=3,res:=[(2,none)],body:=
(.seq (.ae ⟨[.p (.iD (.v 0)),.b],[(1,1)],[0,2],none⟩)
 (.seq (.ae ⟨[.f 1 5,.l,.n,.p (.bin .leq (.t 0) (.c (.int (3)))),.t 0,.x 0 (.b5 (.v 1) 3 none),.x 1 (.cg (.t 0) none),.x 2 (.bin .leq (.t 0) (.c (.int (4)))),.p (.pick (.t 3) (.t 0) (.c (.bool false))),.t 0,.x 0 (.cg (.v 1) (some 10)),.x 1 (.cu Io [(.t 0)]),.p (.pick (.t 2) (.t 0) (.c (.bool false))),.t 0,.x 0 (.b5 (.v 1) 0 none),.x 1 (.cg (.t 0) none),.x 2 (.b5 (.v 1) 1 none),.x 3 (.cg (.t 0) none),.x 4 (.bin .uq (.t 2) (.t 0)),.x 5 (.b5 (.v 1) 2 none),.x 6 (.cg (.t 0) none),.x 7 (.bin .uq (.t 2) (.t 0)),.x 8 (.bin .leq (.t 0) (.c (.int (5)))),.p (.pick (.t 9) (.t 0) (.c (.bool false))),.t 0],[(2,0)],[1],none⟩)
 .ret))}
abbrev CN:Fn:={np:=0,nv:=6,res:=[(5,none)],body:=
(.seq (.ae ⟨[.b],[],[5],none⟩)
 (.seq (.ae ⟨[.p (.cu DY []),.p (.cu ql [(.t 0)]),.t 0,.p (.ext (.t 0) 0),.p (.ext (.t 1) 1),.p (.gn 10),.p (.ku (.t 0) (.t 2) 10),.t 2],[(3,1),(0,0)],[],none⟩)
 (.seq (.ae ⟨[.p (.cu DY []),.p (.cu Im [(.t 0)]),.t 0,.p (.ext (.t 0) 0),.p (.ext (.t 1) 1),.p (.ext (.t 2) 2),.p (.gn 10),.p (.ku (.t 0) (.t 3) 10),.t 3,.t 3],[(4,2),(2,1),(1,0)],[],none⟩)
 (.seq (.ae ⟨[.v 0,.p (.bin .eql (.t 0) (.c (.int (0)))),.t 0,.x 0 (.mv (.v 1)),.x 1 (.bin .eql (.t 0) (.c (.int (0)))),.p (.pick (.t 2) (.t 0) (.c (.bool false))),.t 0,.x 0 (.mv (.v 2)),.x 1 (.bin .eql (.t 0) (.c (.int (1)))),.p (.pick (.t 2) (.t 0) (.c (.bool false))),.t 0,.x 0 (.cg (.v 3) (some 10)),.x 1 (.cu DZ []),.x 2 (.cu zm [(.t 1),(.t 0)]),.p (.pick (.t 3) (.t 0) (.c (.bool false))),.t 0,.x 0 (.cg (.v 4) (some 10)),.x 1 (.cu DZ []),.x 2 (.cu zm [(.t 1),(.t 0)]),.p (.pick (.t 3) (.t 0) (.c (.bool false))),.t 0],[(5,0)],[0,1,2,3,4],none⟩)
 .ret))))}
abbrev Q7:ga:=⟨[.p (.iD (.v 0)),.p (.ox fb (some 10)),.k 0],[(1,2),(3,1)],[0,19],none⟩
abbrev Q8:ga:=⟨[.p (.cg (.v 1) (some 10)),.p (.cu uJ [(.t 0)]),.t 0],[(2,0)],[],none⟩
abbrev Q9:ga:=⟨[.v 2,.p (.bin .neq (.t 0) (.c (.int (0))))],[],[],some (18,0)⟩
abbrev Ra:ga:=⟨[.p (.jI fb []),.v 2,.p (.st (.v 3) (.t 1) 10),.t 1],[(19,0)],[1,2],none⟩
abbrev Rb:ga:=⟨[.p (.cg (.v 1) (some 10)),.p (.can Ip [(.t 0)]),.t 0],[(4,0)],[2],none⟩
abbrev Rc:ga:=⟨[.v 4,.p (.fF D0 [(.t 0)]),.p (.not (.t 0))],[],[],some (25,0)⟩
abbrev Re:ga:=⟨[.p (.jI fb []),.p (.st (.v 3) (.t 0) 10),.k 11],[(19,0)],[1,4],none⟩
abbrev Rg:ga:=⟨[.v 4,.p (.cu D5 [(.t 0)]),.t 0,.p (.ext (.t 0) 0),.p (.ext (.t 1) 1),.t 1,.t 1],[(14,1),(5,0)],[],none⟩
abbrev Rh:ga:=⟨[.v 5,.p (.bin .gtr (.t 0) (.c (.int (128)))),.t 0,.y 0 (.mv (.v 5)),.y 1 (.b5 (.v 1) 0 none),.y 2 (.cg (.t 0) none),.y 3 (.bin .mul (.t 2) (.t 0)),.y 4 (.bin .gtr (.t 0) (.c (.int (128)))),.p (.pick (.t 5) (.c (.bool true)) (.t 0))],[],[1],some (40,0)⟩
abbrev Ri:ga:=⟨[.p (.jI fb []),.p (.st (.v 3) (.t 0) 10),.k 11],[(19,0)],[4,5,14],none⟩
abbrev Rj:ga:=⟨[.v 4,.p (.cu D6 [(.t 0)]),.t 0,.p (.ext (.t 0) 0),.p (.ext (.t 1) 1),.t 1,.t 1],[(10,1),(16,0)],[],none⟩
abbrev Rk:ga:=⟨[.v 5,.p (.jT (.t 0) (.t 0) [.int 0,.int 0,.ah] (some 3)),.t 0],[(6,0)],[5],none⟩
abbrev Rl:ga:=⟨[.v 6,.n,.k 0],[(8,1),(7,0)],[],none⟩
abbrev Rm:IC:=(.seq (.ae ⟨[.c 7 8],[],[],some (52,0)⟩)
 (.seq (.cond 52 .skip (.exit 0))
 (.seq (.block 1 (.seq (.ae ⟨[.v 7,.t 0],[(9,0)],[],none⟩)
 (.ae ⟨[.v 6,.v 9,.v 9,.p (.jI [.int 0,.int 0,.ah] [(0,1,(.t 0)),(1,1,(.c (.int (-1)))),(2,1,(.c (.ah)))]),.p (.bU (.t 3) (.t 2) 3),.p (.st (.t 0) (.t 1) 3)],[],[9],none⟩)))
 (.ae ⟨[.p (.bin .add (.v 7) (.c (.int (1)))),.t 0],[(7,0)],[],none⟩))))
abbrev Rn:ga:=⟨[.v 10,.n,.k 0],[(13,2),(12,1),(11,0)],[7,8,10],none⟩
abbrev Ro:IC:=(.seq (.ae ⟨[.c 11 12],[],[],some (63,0)⟩)
 (.seq (.cond 63 .skip (.exit 2))
 (.seq (.block 3 (.seq (.ae ⟨[.v 11,.p (.bU (.v 13) (.v 11) 1),.d,.t 2,.t 1],[(15,1),(18,0)],[],none⟩)
 (.seq (.ae ⟨[.v 6,.v 14,.v 15,.i,.d,.p (.bU (.t 4) (.t 0) 3),.t 0],[(17,0)],[],none⟩)
 (.seq (.ae ⟨[.v 16,.v 15,.i,.d,.t 0,.x 0 (.mv (.v 17)),.x 1 (.oO (.t 0)),.x 2 (.b5 (.t 0) 1 none),.x 3 (.ld (.t 0) none),.x 4 (.bin .lss (.t 0) (.c (.int (0)))),.x 5 (.mv (.t 0)),.y 0 (.mv (.v 18)),.y 1 (.mv (.v 17)),.y 2 (.oO (.t 0)),.y 3 (.b5 (.t 0) 2 none),.y 4 (.ld (.t 0) none),.y 5 (.cu o9 [(.t 4),(.t 0)]),.y 6 (.bin .lss (.t 0) (.c (.int (0)))),.x 13 (.pick (.t 7) (.c (.bool true)) (.t 0)),.p (.pick (.t 14) (.t 0) (.c (.bool false)))],[],[],some (92,0)⟩)
 (.cond 92 (.ae ⟨[.v 17,.v 17,.v 15,.v 18,.p (.oO (.t 3)),.h 0 1,.p (.st (.t 0) (.t 3) 1),.p (.oO (.t 5)),.h 0 2,.p (.st (.t 0) (.t 5) 1)],[],[15,17,18],none⟩) .skip)))))
 (.ae ⟨[.p (.bin .add (.v 11) (.c (.int (1)))),.t 0],[(11,0)],[15,17,18],none⟩))))
abbrev Rp:ga:=⟨[.v 6,.p (.tO Iq [(.t 0),(.c (.func uK []))])],[],[11,12,13,16],some (103,0)⟩
abbrev Rq:ga:=⟨[.p (.jI fb []),.p (.st (.v 3) (.t 0) 10),.k 3],[(19,0)],[4,6,14],none⟩
abbrev Rr:ga:=⟨[.v 6,.p (.fF D7 [(.t 0),(.c (.func zn []))])],[],[],none⟩
abbrev Rs:ga:=⟨[.v 4,.v 14,.v 6,.p (.cu D8 [(.t 2),(.t 1),(.t 0)]),.p (.st (.v 3) (.t 0) 10),.k 0],[(19,0)],[4,6,14],none⟩
abbrev rG:Fn:={np:=1,nv:=20,res:=[(3,some (some 10)),(19,none)],body:=
(.seq (.ae Q7)
 (.seq (.seq (.ae Q8)
 (.seq (.ae Q9)
 (.cond 18 (.seq (.ae Ra)
 .ret) .skip)))
 (.seq (.ae Rb)
 (.seq (.seq (.seq (.ae Rc) (.lu 4))
 (.cond 25 (.seq (.ae Re)
 .ret) .skip))
 (.seq (.ae Rg)
 (.seq (.seq (.ae Rh)
 (.cond 40 (.seq (.ae Ri)
 .ret) .skip))
 (.seq (.ae Rj)
 (.seq (.ae Rk)
 (.seq (.seq (.ae Rl)
 (.block 0 (.loop Rm)))
 (.seq (.seq (.ae Rn)
 (.block 2 (.loop Ro)))
 (.seq (.seq (.ae Rp)
 (.cond 103 (.seq (.ae Rq)
 .ret) .skip))
 (.seq (.seq (.ae Rr) (.lu 6))
 (.seq (.ae Rs)
 .ret)))))))))))))}
abbrev ajw:IC:=(.seq (.seq (.ae ⟨[.v 4,.f 2 9,.l,.n,.p (.bin .lss (.t 3) (.t 0))],[],[],some (52,0)⟩)
 (.cond 52 .skip (.exit 0)))
 (.seq (.block 1 (.seq (.ae ⟨[.f 2 9,.l,.v 4,.i,.l,.f 3 9,.l,.v 4,.i,.l,.p (.cu wL [(.t 5),(.t 0)]),.p (.not (.t 0))],[],[],some (66,0)⟩)
 (.cond 66 (.seq (.ae ⟨[.b],[(5,0)],[2,3,4],none⟩)
 .ret) .skip)))
 (.ae ⟨[.v 4,.p (.bin .add (.t 0) (.c (.int (1)))),.t 0],[(4,0)],[],none⟩)))
abbrev CO:Fn:={np:=2,nv:=6,res:=[(5,none)],body:=
(.seq (.ae ⟨[.p (.iD (.v 0)),.p (.iD (.v 1)),.b],[(2,2),(3,1)],[0,1,5],none⟩)
 (.seq (.seq (.ae ⟨[.f 2 0,.l,.f 3 0,.l,.p (.bin .neq (.t 2) (.t 0)),.t 0,.y 0 (.b5 (.v 2) 1 none),.y 1 (.cg (.t 0) none),.y 2 (.b5 (.v 3) 1 none),.y 3 (.cg (.t 0) none),.y 4 (.bin .neq (.t 2) (.t 0)),.p (.pick (.t 5) (.c (.bool true)) (.t 0)),.t 0,.y 0 (.b5 (.v 2) 2 none),.y 1 (.cg (.t 0) none),.y 2 (.b5 (.v 3) 2 none),.y 3 (.cg (.t 0) none),.y 4 (.bin .neq (.t 2) (.t 0)),.p (.pick (.t 5) (.c (.bool true)) (.t 0)),.t 0,.y 0 (.b5 (.v 2) 3 none),.y 1 (.cg (.t 0) none),.y 2 (.b5 (.v 3) 3 none),.y 3 (.cg (.t 0) none),.y 4 (.bin .neq (.t 2) (.t 0)),.p (.pick (.t 5) (.c (.bool true)) (.t 0)),.t 0,.y 0 (.b5 (.v 2) 4 none),.y 1 (.cg (.t 0) none),.y 2 (.b5 (.v 3) 4 none),.y 3 (.cg (.t 0) none),.y 4 (.bin .neq (.t 2) (.t 0)),.p (.pick (.t 5) (.c (.bool true)) (.t 0)),.t 0,.y 0 (.b5 (.v 2) 9 none),.y 1 (.cg (.t 0) none),.y 2 (.len (.t 0)),.y 3 (.b5 (.v 3) 9 none),.y 4 (.cg (.t 0) none),.y 5 (.len (.t 0)),.y 6 (.bin .neq (.t 3) (.t 0)),.p (.pick (.t 7) (.c (.bool true)) (.t 0))],[],[],some (47,0)⟩)
 (.cond 47 (.seq (.ae ⟨[.b],[(5,0)],[2,3],none⟩)
 .ret) .skip))
 (.seq (.seq (.ae ⟨[.k 0],[(4,0)],[],none⟩)
 (.block 0 (.loop ajw)))
 (.seq (.ae ⟨[.f 2 5,.l,.f 3 5,.l,.p (.cu Ir [(.t 2),(.t 0)]),.t 0,.x 0 (.b5 (.v 2) 6 none),.x 1 (.cg (.t 0) none),.x 2 (.b5 (.v 3) 6 none),.x 3 (.cg (.t 0) none),.x 4 (.cu wL [(.t 2),(.t 0)]),.p (.pick (.t 5) (.t 0) (.c (.bool false))),.t 0,.x 0 (.b5 (.v 2) 7 none),.x 1 (.cg (.t 0) none),.x 2 (.b5 (.v 3) 7 none),.x 3 (.cg (.t 0) none),.x 4 (.cu wL [(.t 2),(.t 0)]),.p (.pick (.t 5) (.t 0) (.c (.bool false))),.t 0,.x 0 (.b5 (.v 2) 8 none),.x 1 (.cg (.t 0) none),.x 2 (.b5 (.v 3) 8 none),.x 3 (.cg (.t 0) none),.x 4 (.cu wL [(.t 2),(.t 0)]),.p (.pick (.t 5) (.t 0) (.c (.bool false))),.t 0],[(5,0)],[2,3,4],none⟩)
 .ret))))}
abbrev ajx:IC:=(.seq (.block 1 (.seq (.seq (.ae ⟨[.v 4,.p (.fF Is [(.t 0)]),.t 0,.p (.ext (.t 0) 0),.p (.ext (.t 1) 1),.p (.ox fb (some 10)),.p (.st (.t 0) (.t 2) 10),.t 2],[(6,2),(5,0)],[],none⟩) (.lu 6))
 (.seq (.seq (.ae ⟨[.v 5,.p (.bin .neq (.t 0) (.c (.int (0))))],[],[],some (37,0)⟩)
 (.cond 37 (.seq (.ae ⟨[.p (.jI fb []),.v 5,.p (.st (.v 3) (.t 1) 10),.k 0,.t 2],[(13,1),(14,0)],[1,4,5,6,10],none⟩)
 .ret) .skip))
 (.seq (.ae ⟨[.p (.ld (.v 6) (some 10)),.p (.cg (.v 1) (some 10)),.p (.cu It [(.t 1),(.t 0)]),.t 0,.p (.ext (.t 0) 0),.p (.ext (.t 1) 1),.p (.ext (.t 2) 2),.t 2,.t 2,.t 2],[(11,2),(7,1),(5,0)],[],none⟩)
 (.seq (.seq (.ae ⟨[.v 5,.p (.bin .neq (.t 0) (.c (.int (0))))],[],[],some (48,0)⟩)
 (.cond 48 (.seq (.ae ⟨[.p (.jI fb []),.v 5,.p (.st (.v 3) (.t 1) 10),.k 0,.t 2],[(13,1),(14,0)],[1,4,5,6,7,10,11],none⟩)
 .ret) .skip))
 (.seq (.seq (.ae ⟨[.v 7,.p (.not (.t 0))],[],[5,7],some (52,0)⟩)
 (.cond 52 (.seq (.ae ⟨[.p (.ld (.v 6) (some 10)),.p (.cu ql [(.t 0)]),.t 0,.p (.ext (.t 0) 0),.p (.ext (.t 1) 1),.p (.gn 10),.p (.ku (.t 0) (.t 2) 10),.t 2],[(9,1),(8,0)],[1,4,6,11],none⟩)
 (.seq (.seq (.ae ⟨[.v 8,.p (.bin .neq (.t 0) (.c (.int (0))))],[],[],some (59,0)⟩)
 (.cond 59 (.seq (.ae ⟨[.p (.jI fb []),.v 8,.p (.st (.v 3) (.t 1) 10),.k 0,.t 2],[(13,1),(14,0)],[8,9,10],none⟩)
 .ret) .skip))
 (.seq (.ae ⟨[.p (.cg (.v 9) (some 10)),.v 10,.p (.st (.v 3) (.t 1) 10),.t 1,.k 0],[(13,1),(14,0)],[8,9,10],none⟩)
 .ret))) .skip))
 (.seq (.ae ⟨[.v 4,.p (.ld (.v 6) (some 10)),.v 11,.p (.fF ajv [(.t 2),(.t 1),(.t 0)]),.t 0],[(12,0)],[6,11],none⟩)
 (.seq (.ae ⟨[.v 12,.p (.bin .neq (.t 0) (.c (.int (0))))],[],[],some (69,0)⟩)
 (.cond 69 (.seq (.ae ⟨[.p (.jI fb []),.v 12,.p (.st (.v 3) (.t 1) 10),.k 0,.t 2],[(13,1),(14,0)],[1,4,10,12],none⟩)
 .ret) .skip)))))))))
 (.ae ⟨[.v 10,.p (.bin .add (.t 0) (.c (.int (1)))),.t 0],[(10,0)],[12],none⟩))
abbrev CP:Fn:={np:=1,nv:=15,res:=[(3,some (some 10)),(13,none),(14,none)],body:=
(.seq (.ae ⟨[.p (.iD (.v 0)),.p (.ox fb (some 10)),.k 0,.k 0],[(1,3),(3,2)],[0,13,14],none⟩)
 (.seq (.seq (.ae ⟨[.p (.cg (.v 1) (some 10)),.p (.cu uJ [(.t 0)]),.t 0],[(2,0)],[],none⟩)
 (.seq (.ae ⟨[.v 2,.p (.bin .neq (.t 0) (.c (.int (0))))],[],[],some (18,0)⟩)
 (.cond 18 (.seq (.ae ⟨[.p (.jI fb []),.v 2,.p (.st (.v 3) (.t 1) 10),.k 0,.t 2],[(13,1),(14,0)],[1,2],none⟩)
 .ret) .skip)))
 (.seq (.ae ⟨[.p (.cg (.v 1) (some 10)),.p (.bX [] 1),.p (.bX [(.t 0)] 1),.p (.jI [.str [],.str []] []),.p (.mw [(.t 0)] (some 2)),.p (.ya),.p (.jI [.int 0,.int 0,.int 0,.int 0,.int 0,.ah,.ah,.ah,.ah,.ah,.ah,.ah,.p7] [(0,10,(.t 5)),(10,1,(.t 3)),(11,1,(.t 1)),(12,1,(.t 0))]),.p (.u9 (.t 0) (some 13)),.t 0],[(4,0)],[2],none⟩)
 (.seq (.ae ⟨[.k 1],[(10,0)],[],none⟩)
 (.block 0 (.loop ajx))))))}
abbrev ajy:IC:=(.seq (.ae ⟨[.c 7 8],[],[],some (46,0)⟩)
 (.seq (.cond 46 .skip (.exit 0))
 (.seq (.block 1 (.seq (.ae ⟨[.p (.bU (.v 9) (.v 7) 1),.d,.t 0],[(10,0)],[],none⟩)
 (.block 2 (.seq (.ae ⟨[.v 10,.f 2 0,.l,.p (.bin .lss (.t 2) (.t 0)),.t 0],[],[],some (60,0)⟩)
 (.cond 60 (.seq (.ae ⟨[.p (.cg (.v 11) (some 10)),.v 12,.v 10,.p (.cu tc [(.t 2),(.t 1),(.t 0)]),.t 0,.p (.ext (.t 0) 0),.p (.ext (.t 1) 1),.t 1,.t 1],[(15,1),(13,0)],[10,12],none⟩)
 (.seq (.ae ⟨[.v 13,.p (.fF Iu [(.v 14),(.t 0)])],[],[13],none⟩)
 (.ae ⟨[.v 15,.t 0],[(12,0)],[15],none⟩))) (.seq (.ae ⟨[.v 10,.f 2 0,.l,.f 2 1,.l,.p (.bin .add (.t 2) (.t 0)),.p (.bin .lss (.t 5) (.t 0)),.t 0],[],[],some (75,0)⟩)
 (.cond 75 (.ae ⟨[.p (.cg (.v 11) (some 10)),.v 12,.v 10,.f 2 0,.l,.p (.bin .sub (.t 2) (.t 0)),.p (.cu ta [(.t 5),(.t 4),(.t 0)]),.t 0],[(12,0)],[10],none⟩) (.ae ⟨[.p (.cg (.v 11) (some 10)),.v 12,.p (.fF wJ [(.v 14)]),.v 10,.f 2 0,.l,.p (.bin .sub (.t 2) (.t 0)),.f 2 1,.l,.p (.bin .sub (.t 2) (.t 0)),.p (.cu te [(.t 9),(.t 8),(.t 7),(.t 0)]),.t 0],[(12,0)],[10],none⟩))))))))
 (.ae ⟨[.p (.bin .add (.v 7) (.c (.int (1)))),.t 0],[(7,0)],[],none⟩))))
abbrev CQ:Fn:={np:=2,nv:=18,res:=[(16,none),(17,none)],body:=
(.seq (.ae ⟨[.p (.iD (.v 0)),.b,.k 0],[(2,2)],[0,16,17],none⟩)
 (.seq (.seq (.ae ⟨[.p (.cg (.v 2) (some 10)),.p (.cu uJ [(.t 0)]),.t 0],[(3,0)],[],none⟩)
 (.seq (.ae ⟨[.v 3,.p (.bin .neq (.t 0) (.c (.int (0))))],[],[],some (20,0)⟩)
 (.cond 20 (.seq (.ae ⟨[.v 3,.b,.t 1],[(16,1),(17,0)],[1,2,3],none⟩)
 .ret) .skip)))
 (.seq (.seq (.ae ⟨[.v 1,.p (.cg (.v 2) (some 10)),.p (.cu zo [(.t 0)]),.p (.cu D9 [(.t 2),(.t 0)]),.t 0],[(4,0)],[3],none⟩)
 (.seq (.ae ⟨[.v 4,.p (.bin .neq (.t 0) (.c (.int (0))))],[],[],some (27,0)⟩)
 (.cond 27 (.seq (.ae ⟨[.v 4,.b,.t 1],[(16,1),(17,0)],[1,2,4],none⟩)
 .ret) .skip)))
 (.seq (.ae ⟨[.p (.cg (.v 2) (some 10)),.v 1,.p (.cu Ea [(.t 1),(.t 0)]),.t 0,.p (.ext (.t 0) 0),.p (.ext (.t 1) 1),.t 1,.t 1],[(5,1),(6,0)],[4],none⟩)
 (.seq (.seq (.ae ⟨[.v 5,.p (.bin .gtr (.t 0) (.c (.int (64))))],[],[5],some (36,0)⟩)
 (.cond 36 (.seq (.ae ⟨[.b,.k 16],[(16,1),(17,0)],[1,2,6],none⟩)
 .ret) .skip))
 (.seq (.seq (.ae ⟨[.v 6,.p (.not (.t 0))],[],[6],some (38,0)⟩)
 (.cond 38 (.seq (.ae ⟨[.b,.k 0],[(16,1),(17,0)],[1,2],none⟩)
 .ret) .skip))
 (.seq (.ae ⟨[.p (.ox [.ah] (some 1))],[(14,0)],[],none⟩)
 (.seq (.ae ⟨[.p (.cg (.v 2) (some 10)),.p (.jI fb [(0,10,(.t 0))]),.p (.gn 10),.p (.ku (.t 0) (.t 1) 10)],[(11,0)],[],none⟩)
 (.seq (.ae ⟨[.f 2 4,.l,.t 0],[(12,0)],[],none⟩)
 (.seq (.seq (.ae ⟨[.v 1,.n,.k 0],[(9,2),(8,1),(7,0)],[1],none⟩)
 (.block 0 (.loop ajy)))
 (.seq (.ae ⟨[.f 2 5,.l,.v 12,.i,.l,.t 0,.k 0],[(16,1),(17,0)],[2,7,8,9,11,12,14],none⟩)
 .ret)))))))))))}
abbrev CS:Fn:={np:=1,nv:=3,res:=[(2,none)],body:=
(.seq (.ae ⟨[.p (.iD (.v 0)),.b],[(1,1)],[0,2],none⟩)
 (.seq (.ae ⟨[.f 1 5,.l,.n,.p (.bin .leq (.t 0) (.c (.int (5)))),.t 0,.x 0 (.b5 (.v 1) 3 none),.x 1 (.cg (.t 0) none),.x 2 (.bin .leq (.t 0) (.c (.int (6)))),.p (.pick (.t 3) (.t 0) (.c (.bool false))),.t 0,.x 0 (.b5 (.v 1) 0 none),.x 1 (.cg (.t 0) none),.x 2 (.bin .leq (.t 0) (.c (.int (6)))),.p (.pick (.t 3) (.t 0) (.c (.bool false))),.t 0,.x 0 (.b5 (.v 1) 1 none),.x 1 (.cg (.t 0) none),.x 2 (.bin .leq (.t 0) (.c (.int (6)))),.p (.pick (.t 3) (.t 0) (.c (.bool false))),.t 0,.x 0 (.b5 (.v 1) 2 none),.x 1 (.cg (.t 0) none),.x 2 (.bin .leq (.t 0) (.c (.int (6)))),.p (.pick (.t 3) (.t 0) (.c (.bool false))),.t 0,.x 0 (.b5 (.v 1) 0 none),.x 1 (.cg (.t 0) none),.x 2 (.b5 (.v 1) 1 none),.x 3 (.cg (.t 0) none),.x 4 (.bin .uq (.t 2) (.t 0)),.x 5 (.b5 (.v 1) 2 none),.x 6 (.cg (.t 0) none),.x 7 (.bin .uq (.t 2) (.t 0)),.x 8 (.bin .leq (.t 0) (.c (.int (6)))),.p (.pick (.t 9) (.t 0) (.c (.bool false))),.t 0],[(2,0)],[1],none⟩)
 .ret))}
abbrev CT:Fn:={np:=0,nv:=1,res:=[(0,some (some 10))],body:=
(.seq (.ae ⟨[.p (.ox fb (some 10))],[(0,0)],[],none⟩)
 (.seq (.ae ⟨[.p (.bX [(.c (.bool true)),(.c (.bool false))] 1),.p (.bX [(.c (.int (0))),(.c (.int (0)))] 1),.p (.bX [(.c (.int (1))),(.c (.int (1)))] 1),.p (.bX [(.t 1),(.t 0)] 1),.p (.bX [(.c (.int (0))),(.c (.int (1)))] 1),.p (.bX [(.c (.int (0))),(.c (.int (0)))] 1),.p (.bX [(.t 1),(.t 0)] 1),.p (.bX [] 1),.p (.bX [] 1),.p (.bX [(.t 1),(.t 0)] 1),.p (.bX [(.c (.int (0))),(.c (.int (1)))] 1),.p (.bX [(.c (.int (1))),(.c (.int (0)))] 1),.p (.bX [(.t 1),(.t 0)] 1),.p (.bX [(.c (.int (1))),(.c (.int (1)))] 1),.p (.bX [(.c (.int (1))),(.c (.int (1)))] 1),.p (.bX [(.t 1),(.t 0)] 1),.p (.bX [(.t 3),(.t 0)] 1),.p (.jI fb [(0,1,(.c (.int (2)))),(2,1,(.c (.int (2)))),(3,1,(.c (.int (2)))),(5,1,(.t 16)),(6,1,(.t 13)),(7,1,(.t 10)),(8,1,(.t 7)),(9,1,(.t 0))]),.p (.st (.v 0) (.t 0) 10)],[],[],none⟩)
 .ret))}
abbrev CU:Fn:={np:=0,nv:=2,res:=[(1,some (some 10))],body:=
(.seq (.ae ⟨[.p (.ox fb (some 10))],[(1,0)],[],none⟩)
 (.seq (.ae ⟨[.p (.bX [(.c (.int (1))),(.c (.int (1)))] 1),.p (.bX [(.c (.int (1))),(.c (.int (1)))] 1),.p (.bX [(.c (.int (1))),(.c (.int (1)))] 1),.p (.bX [(.c (.int (1))),(.c (.int (1)))] 1),.p (.bX [(.t 3),(.t 2),(.t 1),(.t 0)] 1),.t 0],[(0,0)],[],none⟩)
 (.seq (.ae ⟨[.p (.bX [(.c (.bool true)),(.c (.bool false))] 1),.p (.bX [(.c (.int (0))),(.c (.int (0)))] 1),.p (.bX [(.c (.int (0))),(.c (.int (0)))] 1),.p (.bX [(.t 1),(.t 0)] 1),.p (.bX [(.c (.int (0))),(.c (.int (1)))] 1),.p (.bX [(.c (.int (2))),(.c (.int (3)))] 1),.p (.bX [(.t 1),(.t 0)] 1),.p (.bX [] 1),.p (.bX [] 1),.p (.bX [(.t 1),(.t 0)] 1),.p (.bX [(.c (.int (0))),(.c (.int (1)))] 1),.p (.bX [(.c (.int (1))),(.c (.int (0)))] 1),.p (.bX [(.c (.int (1))),(.c (.int (1)))] 1),.p (.bX [(.c (.int (1))),(.c (.int (1)))] 1),.p (.bX [(.t 3),(.t 2),(.t 1),(.t 0)] 1),.v 0,.p (.bX [(.t 1),(.t 0)] 1),.p (.jI fb [(0,1,(.c (.int (2)))),(2,1,(.c (.int (2)))),(3,1,(.c (.int (4)))),(5,1,(.t 16)),(6,1,(.t 13)),(7,1,(.t 10)),(8,1,(.t 7)),(9,1,(.t 0))]),.p (.st (.v 1) (.t 0) 10)],[],[0],none⟩)
 .ret)))}
abbrev ajz:IC:=(.seq (.ae ⟨[.c 3 4],[],[],some (82,0)⟩)
 (.seq (.cond 82 .skip (.exit 1))
 (.seq (.block 2 (.seq (.ae ⟨[.v 3,.t 0],[(5,0)],[],none⟩)
 (.seq (.ae ⟨[.p (.cg (.v 1) (some 10)),.v 5,.p (.cu Iv [(.t 1),(.t 0)]),.t 0],[(6,0)],[5],none⟩)
 (.seq (.ae ⟨[.v 6,.p (.bin .neq (.t 0) (.c (.int (0))))],[],[],some (88,0)⟩)
 (.cond 88 (.seq (.ae ⟨[.v 6,.t 0],[(7,0)],[1,3,4,6],none⟩)
 .ret) .skip)))))
 (.ae ⟨[.p (.bin .add (.v 3) (.c (.int (1)))),.t 0],[(3,0)],[6],none⟩))))
abbrev CV:Fn:={np:=1,nv:=8,res:=[(7,none)],body:=
(.seq (.ae ⟨[.p (.iD (.v 0)),.k 0],[(1,1)],[0,7],none⟩)
 (.seq (.ae ⟨[.f 1 5,.l,.n,.t 0],[(2,0)],[],none⟩)
 (.seq (.block 0 (.seq (.ae ⟨[.f 1 0,.l,.f 1 1,.l,.f 1 2,.l,.p (.bX [(.t 4),(.t 2),(.t 0)] 1),.p (.cu tf [(.t 0),(.c (.int (65)))]),.t 0],[],[],some (9,0)⟩)
 (.cond 9 (.seq (.ae ⟨[.k 2],[(7,0)],[1,2],none⟩)
 .ret) (.seq (.ae ⟨[.p (.cg (.v 1) (some 10)),.p (.cu zo [(.t 0)]),.p (.bin .lss (.t 0) (.c (.int (1)))),.t 0,.y 0 (.cg (.v 1) (some 10)),.y 1 (.cu zo [(.t 0)]),.y 2 (.bin .gtr (.t 0) (.c (.int (64)))),.p (.pick (.t 3) (.c (.bool true)) (.t 0)),.t 0,.y 0 (.b5 (.v 1) 3 none),.y 1 (.cg (.t 0) none),.y 2 (.bin .lss (.t 0) (.c (.int (1)))),.p (.pick (.t 3) (.c (.bool true)) (.t 0)),.t 0,.y 0 (.b5 (.v 1) 3 none),.y 1 (.cg (.t 0) none),.y 2 (.bin .gtr (.t 0) (.c (.int (128)))),.p (.pick (.t 3) (.c (.bool true)) (.t 0)),.t 0],[],[],some (18,0)⟩)
 (.cond 18 (.seq (.ae ⟨[.k 2],[(7,0)],[1,2],none⟩)
 .ret) (.seq (.ae ⟨[.v 2,.p (.bin .eql (.t 0) (.c (.int (0)))),.t 0],[],[],some (37,0)⟩)
 (.cond 37 (.seq (.ae ⟨[.k 19],[(7,0)],[1,2],none⟩)
 .ret) (.seq (.ae ⟨[.v 2,.p (.bin .gtr (.t 0) (.c (.int (128)))),.t 0],[],[],some (40,0)⟩)
 (.cond 40 (.seq (.ae ⟨[.k 11],[(7,0)],[1,2],none⟩)
 .ret) (.seq (.ae ⟨[.f 1 4,.l,.p (.bin .lss (.t 0) (.c (.int (0)))),.t 0,.y 0 (.b5 (.v 1) 4 none),.y 1 (.cg (.t 0) none),.y 2 (.mv (.v 2)),.y 3 (.bin .geq (.t 1) (.t 0)),.p (.pick (.t 4) (.c (.bool true)) (.t 0)),.t 0],[],[],some (43,0)⟩)
 (.cond 43 (.seq (.ae ⟨[.k 2],[(7,0)],[1,2],none⟩)
 .ret) (.seq (.ae ⟨[.f 1 6,.l,.n,.v 2,.p (.bin .neq (.t 1) (.t 0)),.t 0,.y 0 (.b5 (.v 1) 7 none),.y 1 (.cg (.t 0) none),.y 2 (.len (.t 0)),.y 3 (.mv (.v 2)),.y 4 (.bin .neq (.t 1) (.t 0)),.p (.pick (.t 5) (.c (.bool true)) (.t 0)),.t 0,.y 0 (.b5 (.v 1) 8 none),.y 1 (.cg (.t 0) none),.y 2 (.len (.t 0)),.y 3 (.mv (.v 2)),.y 4 (.bin .neq (.t 1) (.t 0)),.p (.pick (.t 5) (.c (.bool true)) (.t 0)),.t 0,.y 0 (.b5 (.v 1) 9 none),.y 1 (.cg (.t 0) none),.y 2 (.len (.t 0)),.y 3 (.mv (.v 2)),.y 4 (.bin .neq (.t 1) (.t 0)),.p (.pick (.t 5) (.c (.bool true)) (.t 0)),.t 0],[],[],some (53,0)⟩)
 (.cond 53 (.seq (.ae ⟨[.k 1],[(7,0)],[1,2],none⟩)
 .ret) .skip)))))))))))))
 (.seq (.seq (.ae ⟨[.v 2,.k 0],[(4,1),(3,0)],[2],none⟩)
 (.block 1 (.loop ajz)))
 (.seq (.ae ⟨[.k 0],[(7,0)],[1,3,4],none⟩)
 .ret)))))}
abbrev ajA:IC:=(.seq (.ae ⟨[.c 3 4],[],[],some (22,0)⟩)
 (.seq (.cond 22 .skip (.exit 0))
 (.seq (.block 1 (.seq (.ae ⟨[.v 3,.p (.bU (.v 5) (.v 3) 1),.d,.t 2,.t 1],[(7,1),(6,0)],[],none⟩)
 (.ae ⟨[.v 2,.q,.h 0 11,.d,.v 6,.v 7,.p (.bU (.t 2) (.t 1) 1),.p (.st (.t 0) (.t 1) 1)],[],[6,7],none⟩)))
 (.ae ⟨[.p (.bin .add (.v 3) (.c (.int (1)))),.t 0],[(3,0)],[],none⟩))))
abbrev CW:Fn:={np:=1,nv:=9,res:=[(8,none)],body:=
(.seq (.ae ⟨[.p (.iD (.v 0)),.p (.mv (.c (.ig)))],[(1,1)],[0,8],none⟩)
 (.seq (.ae ⟨[.p (.cg (.v 1) (some 10)),.p (.cg (.v 1) (some 10)),.p (.cu Iw [(.t 0)]),.f 1 5,.l,.n,.p (.jT (.t 0) (.t 0) [.int 0] none),.p (.ya),.p (.jI [.int 0,.int 0,.int 0,.int 0,.int 0,.ah,.ah,.ah,.ah,.ah,.ah,.ah,.ah,.p7,.ah,.ah] [(0,10,(.t 7)),(10,1,(.t 5)),(11,1,(.t 1)),(13,1,(.t 0))]),.p (.u9 (.t 0) (some 16)),.t 0],[(2,0)],[1],none⟩)
 (.seq (.seq (.ae ⟨[.v 2,.q,.h 0 10,.d,.n,.k 0],[(5,2),(4,1),(3,0)],[],none⟩)
 (.block 0 (.loop ajA)))
 (.seq (.ae ⟨[.v 2,.v 2,.q,.h 0 10,.d,.p (.cu uI [(.t 0)]),.p (.fF wM [(.t 5),(.t 0)])],[],[3,4,5],none⟩)
 (.seq (.ae ⟨[.v 2,.t 0],[(8,0)],[2],none⟩)
 .ret)))))}
abbrev Rt:ga:=⟨[.v 1,.v 0,.q,.h 0 12,.d,.n,.p (.bin .lss (.t 5) (.t 0))],[],[],some (14,0)⟩
abbrev Ru:ga:=⟨[.p (.nl none)],[(4,0)],[],none⟩
abbrev Rv:ga:=⟨[.v 0,.q,.p (.b5 (.t 0) 0 (some 10)),.h 0 1,.d,.k 0],[(3,1),(2,0)],[],none⟩
abbrev Rw:IC:=(.seq (.ae ⟨[.c 2 3],[],[],some (23,0)⟩)
 (.seq (.cond 23 .skip (.exit 2))
 (.seq (.block 3 (.seq (.ae ⟨[.v 2,.t 0],[(5,0)],[],none⟩)
 (.ae ⟨[.v 4,.v 0,.v 0,.v 1,.v 5,.p (.tO Iz [(.t 2),(.t 1),(.t 0)]),.p (.fF wM [(.t 4),(.t 0)]),.p (.dI [(.t 0)] 1),.p (.dm (.t 7) (.t 0) none),.t 0],[(4,0)],[5],none⟩)))
 (.ae ⟨[.p (.bin .add (.v 2) (.c (.int (1)))),.t 0],[(2,0)],[],none⟩))))
abbrev Rx:ga:=⟨[.v 0,.v 0,.q,.h 0 14,.d,.v 4,.p (.dI [(.t 0)] 1),.p (.dm (.t 2) (.t 0) none),.p (.oO (.t 7)),.h 0 14,.p (.st (.t 0) (.t 2) 1)],[],[2,3,4],none⟩
abbrev Ry:ga:=⟨[.v 0,.v 0,.q,.h 0 15,.d,.v 0,.q,.p (.b5 (.t 0) 0 (some 10)),.h 0 0,.d,.p (.jT (.t 0) (.t 0) [.ah] none),.p (.dI [(.t 0)] 1),.p (.app (.t 7) (.t 0) none),.p (.oO (.t 12)),.h 0 15,.p (.st (.t 0) (.t 2) 1)],[],[],none⟩
abbrev Rz:ga:=⟨[.v 1,.p (.bin .add (.t 0) (.c (.int (1)))),.k 0],[(7,1),(6,0)],[],none⟩
abbrev ajB:IC:=(.seq (.ae ⟨[.c 8 9],[],[],some (71,0)⟩)
 (.seq (.cond 71 .skip (.exit 6))
 (.seq (.block 7 (.seq (.ae ⟨[.v 8,.t 0],[(10,0)],[],none⟩)
 (.seq (.ae ⟨[.v 0,.v 1,.v 10,.v 11,.p (.fF zp [(.t 3),(.t 2),(.t 1),(.t 0)])],[],[],none⟩)
 (.seq (.seq (.ae ⟨[.v 11,.v 1,.p (.bin .lss (.t 1) (.t 0))],[],[],some (80,0)⟩)
 (.cond 80 (.ae ⟨[.v 0,.v 11,.v 10,.v 1,.p (.fF zp [(.t 3),(.t 2),(.t 1),(.t 0)])],[],[10],none⟩) .skip))
 (.seq (.ae ⟨[.v 0,.q,.h 0 12,.d,.n,.p (.bin .gtr (.t 0) (.c (.int (512))))],[],[10],some (91,0)⟩)
 (.cond 91 (.seq (.ae ⟨[.b],[(12,0)],[0,1,6,7,8,9,11],none⟩)
 .ret) .skip))))))
 (.ae ⟨[.p (.bin .add (.v 8) (.c (.int (1)))),.t 0],[(8,0)],[],none⟩))))
abbrev RA:IC:=(.seq (.ae ⟨[.c 6 7],[],[],some (63,0)⟩)
 (.seq (.cond 63 .skip (.exit 4))
 (.seq (.block 5 (.seq (.ae ⟨[.v 6,.t 0],[(11,0)],[],none⟩)
 (.seq (.ae ⟨[.v 0,.q,.p (.b5 (.t 0) 0 (some 10)),.h 0 0,.d,.k 0],[(9,1),(8,0)],[],none⟩)
 (.block 6 (.loop ajB)))))
 (.ae ⟨[.p (.bin .add (.v 6) (.c (.int (1)))),.t 0],[(6,0)],[8,9,11],none⟩))))
abbrev RB:ga:=⟨[.v 0,.q,.h 0 12,.d,.n,.p (.bin .gtr (.t 0) (.c (.int (512))))],[],[6,7],some (99,0)⟩
abbrev RD:ga:=⟨[.b],[(12,0)],[0,1],none⟩
abbrev RE:ga:=⟨[.v 1,.p (.bin .add (.t 0) (.c (.int (1)))),.t 0],[(1,0)],[],none⟩
abbrev ajC:IC:=(.seq (.seq (.ae Rt)
 (.cond 14 .skip (.exit 0)))
 (.seq (.block 1 (.seq (.ae Ru)
 (.seq (.seq (.ae Rv)
 (.seq (.block 2 (.loop Rw)) (.lu 4)))
 (.seq (.ae Rx)
 (.seq (.ae Ry)
 (.seq (.seq (.ae Rz)
 (.block 4 (.loop RA)))
 (.seq (.ae RB)
 (.cond 99 (.seq (.ae RD)
 .ret) .skip))))))))
 (.ae RE)))
abbrev CX:Fn:={np:=1,nv:=13,res:=[(12,none)],body:=
(.seq (.ae ⟨[.b],[],[12],none⟩)
 (.seq (.seq (.ae ⟨[.k 0],[(1,0)],[],none⟩)
 (.block 0 (.loop ajC)))
 (.seq (.ae ⟨[.p (.mv (.c (.bool true)))],[(12,0)],[0,1],none⟩)
 .ret)))}
abbrev ajD:IC:=(.seq (.ae ⟨[.c 1 2],[],[],some (34,0)⟩)
 (.seq (.cond 34 .skip (.exit 0))
 (.seq (.block 1 (.seq (.ae ⟨[.v 1,.p (.bU (.v 3) (.v 1) 1),.d,.t 2,.t 1],[(7,1),(4,0)],[],none⟩)
 (.seq (.seq (.ae ⟨[.v 0,.q,.p (.b5 (.t 0) 0 (some 10)),.h 0 5,.d,.v 4,.v 5,.i,.d,.p (.bU (.t 4) (.t 0) 1),.d,.v 0,.q,.p (.b5 (.t 0) 0 (some 10)),.h 0 5,.d,.v 0,.q,.h 0 12,.d,.p (.bU (.t 0) (.c (.int (0))) 1),.d,.v 5,.i,.d,.p (.bU (.t 9) (.t 0) 1),.d,.p (.beq true (.t 16) (.t 0))],[],[4],some (65,0)⟩)
 (.cond 65 (.ae ⟨[.v 6,.v 7,.i,.p (.st (.t 0) (.c (.int (1))) 1)],[],[],none⟩) .skip))
 (.ae ⟨[.v 8,.v 6,.v 7,.i,.d,.p (.bin .add (.t 0) (.c (.int (1)))),.p (.mx true (.t 5) (.t 0)),.t 0],[(8,0)],[7],none⟩))))
 (.ae ⟨[.p (.bin .add (.v 1) (.c (.int (1)))),.t 0],[(1,0)],[],none⟩))))
abbrev ajE:IC:=(.block 3 (.seq (.ae ⟨[.v 0,.v 6,.p (.cu IA [(.t 1),(.t 0)]),.t 0,.p (.ext (.t 0) 0),.p (.ext (.t 1) 1),.t 1,.t 1],[(10,1),(9,0)],[1,2,3,5],none⟩)
 (.seq (.seq (.ae ⟨[.v 9,.v 8,.p (.bin .eql (.t 1) (.t 0))],[],[8],some (85,0)⟩)
 (.cond 85 (.seq (.ae ⟨[.v 6,.v 9,.t 1,.t 1],[(11,1),(12,0)],[0,6,9,10],none⟩)
 .ret) .skip))
 (.ae ⟨[.v 10,.v 9,.t 1,.t 1],[(6,1),(8,0)],[9,10],none⟩))))
abbrev CY:Fn:={np:=1,nv:=13,res:=[(11,none),(12,none)],body:=
(.seq (.ae ⟨[.p (.mv (.c (.ah))),.k 0],[],[11,12],none⟩)
 (.seq (.ae ⟨[.v 0,.q,.h 0 11,.d,.v 0,.q,.p (.b5 (.t 0) 0 (some 10)),.h 0 4,.d,.p (.bU (.t 5) (.t 0) 1),.d,.t 0],[(5,0)],[],none⟩)
 (.seq (.ae ⟨[.v 0,.q,.h 0 12,.d,.n,.p (.jT (.t 0) (.t 0) [.int 0] none),.t 0],[(6,0)],[],none⟩)
 (.seq (.ae ⟨[.k 0],[(8,0)],[],none⟩)
 (.seq (.seq (.ae ⟨[.v 0,.q,.h 0 12,.d,.n,.k 0],[(3,2),(2,1),(1,0)],[],none⟩)
 (.seq (.block 0 (.loop ajD)) (.lu 6)))
 (.block 2 (.loop ajE)))))))}
abbrev ajF:IC:=(.seq (.ae ⟨[.c 5 6],[],[],some (40,0)⟩)
 (.seq (.cond 40 .skip (.exit 2))
 (.seq (.block 3 (.seq (.ae ⟨[.p (.bU (.v 7) (.v 5) 1),.d,.t 0],[(8,0)],[],none⟩)
 (.seq (.ae ⟨[.v 1,.v 1,.q,.h 0 4,.d,.v 8,.p (.dI [(.t 0)] 1),.p (.dm (.t 2) (.t 0) none),.p (.oO (.t 7)),.h 0 4,.p (.st (.t 0) (.t 2) 1)],[],[],none⟩)
 (.ae ⟨[.v 1,.v 8,.p (.fF Eb [(.t 1),(.t 0)])],[],[8],none⟩))))
 (.ae ⟨[.p (.bin .add (.v 5) (.c (.int (1)))),.t 0],[(5,0)],[],none⟩))))
abbrev ajG:IC:=(.seq (.ae ⟨[.c 2 3],[],[],some (33,0)⟩)
 (.seq (.cond 33 .skip (.exit 0))
 (.seq (.block 1 (.seq (.ae ⟨[.v 2,.t 0],[(4,0)],[],none⟩)
 (.seq (.seq (.ae ⟨[.v 1,.v 4,.p (.fF IB [(.t 1),(.t 0)]),.n,.k 0],[(7,2),(6,1),(5,0)],[4],none⟩) (.lu 7))
 (.block 2 (.loop ajF)))))
 (.ae ⟨[.p (.bin .add (.v 2) (.c (.int (1)))),.t 0],[(2,0)],[5,6,7],none⟩))))
abbrev CZ:Fn:={np:=1,nv:=11,res:=[(9,none),(10,none)],body:=
(.seq (.ae ⟨[.p (.mv (.c (.ah))),.p (.mv (.c (.ah)))],[],[9,10],none⟩)
 (.seq (.ae ⟨[.v 0,.v 0,.q,.h 0 12,.d,.n,.p (.jT (.t 0) (.t 0) [.ah] none),.v 0,.q,.h 0 12,⟨.ld (.t 0) none,none,true⟩,.n,.p (.jT (.t 0) (.t 0) [.bool false] none),.p (.jT (.c (.int (1025))) (.c (.int (1025))) [.ah] none),.p (.jI [.ig,.ah,.ah,.ah,.ah] [(0,1,(.t 13)),(1,1,(.t 7)),(2,1,(.t 1)),(3,1,(.t 0))]),.p (.u9 (.t 0) (some 5)),.t 0],[(1,0)],[0],none⟩)
 (.seq (.ae ⟨[.v 1,.p (.bX [(.c (.ah))] 1),.p (.fF uL [(.t 1),(.c (.int (0))),(.t 0)])],[],[],none⟩)
 (.seq (.seq (.ae ⟨[.v 1,.q,.h 0 3,.d,.n,.k 0],[(3,1),(2,0)],[],none⟩)
 (.block 0 (.loop ajG)))
 (.seq (.ae ⟨[.v 1,.q,.h 0 1,.d,.v 1,.q,.h 0 2,.d,.t 4,.t 1],[(9,1),(10,0)],[1,2,3],none⟩)
 .ret)))))}
abbrev C3:Fn:={np:=2,nv:=3,res:=[(2,none)],body:=
(.seq (.ae ⟨[.k 0],[],[2],none⟩)
 (.seq (.ae ⟨[.v 0,.n,.v 1,.n,.p (.cu Ec [(.t 2),(.t 0)]),.v 0,.v 1,.p (.cu IE [(.t 1),(.t 0)]),.p (.bX [(.t 3),(.t 0)] 1),.p (.cu ID [(.t 0)]),.t 0],[(2,0)],[0,1],none⟩)
 .ret))}
abbrev C4:Fn:={np:=2,nv:=3,res:=[(2,none)],body:=
(.seq (.ae ⟨[.b],[],[2],none⟩)
 (.seq (.ae ⟨[.v 0,.v 1,.p (.cu IF [(.t 1),(.t 0)]),.p (.bin .geq (.t 0) (.c (.int (0)))),.t 0],[(2,0)],[0,1],none⟩)
 .ret))}
abbrev C5:Fn:={np:=1,nv:=3,res:=[(2,none)],body:=
(.seq (.ae ⟨[.p (.iD (.v 0)),.b],[(1,1)],[0,2],none⟩)
 (.seq (.ae ⟨[.f 1 1,.l,.p (.bin .lss (.t 0) (.c (.int (0)))),.t 0],[(2,0)],[1],none⟩)
 .ret))}
abbrev C6:Fn:={np:=2,nv:=5,res:=[(4,none)],body:=
(.seq (.ae ⟨[.p (.iD (.v 0)),.p (.iD (.v 1)),.k 0],[(2,2),(3,1)],[0,1,4],none⟩)
 (.seq (.ae ⟨[.f 2 2,.l,.f 3 2,.l,.p (.cu o9 [(.t 2),(.t 0)]),.t 0],[(4,0)],[2,3],none⟩)
 .ret))}
abbrev ajH:IC:=(.seq (.ae ⟨[.c 3 4],[],[],some (26,0)⟩)
 (.seq (.cond 26 .skip (.exit 0))
 (.seq (.block 1 (.seq (.ae ⟨[.v 3,.p (.bU (.v 5) (.v 3) 3),.p (.ld (.t 0) (some 3)),.p (.gn 3),.t 3,.p (.ku (.t 1) (.t 2) 3)],[(7,0),(8,1)],[],none⟩)
 (.ae ⟨[.v 6,.f 7 0,.l,.v 8,.p (.bU (.t 3) (.t 1) 1),.p (.st (.t 0) (.t 1) 1)],[],[7,8],none⟩)))
 (.ae ⟨[.p (.bin .add (.v 3) (.c (.int (1)))),.t 0],[(3,0)],[],none⟩))))
abbrev ajI:IC:=(.seq (.ae ⟨[.c 15 16],[],[],some (92,0)⟩)
 (.seq (.cond 92 .skip (.exit 4))
 (.seq (.block 5 (.seq (.ae ⟨[.v 15,.p (.bU (.v 17) (.v 15) 1),.d,.t 2,.t 1],[(18,1),(19,0)],[],none⟩)
 (.ae ⟨[.f 12 8,.d,.v 13,.i,.d,.v 18,.v 6,.v 1,.v 19,.i,.d,.p (.bU (.t 4) (.t 0) 1),.d,.p (.bU (.t 8) (.t 7) 1),.p (.st (.t 0) (.t 1) 1)],[],[18,19],none⟩)))
 (.ae ⟨[.p (.bin .add (.v 15) (.c (.int (1)))),.t 0],[(15,0)],[],none⟩))))
abbrev ajJ:IC:=(.seq (.ae ⟨[.c 27 28],[],[],some (143,0)⟩)
 (.seq (.cond 143 .skip (.exit 10))
 (.seq (.block 11 (.seq (.ae ⟨[.v 27,.p (.bU (.v 29) (.v 27) 1),.d,.t 2,.t 1],[(31,1),(32,0)],[],none⟩)
 (.ae ⟨[.f 12 9,.d,.v 13,.i,.d,.v 30,.v 0,.q,.p (.b5 (.t 0) 0 (some 10)),.h 0 0,.d,.p (.bin .mul (.t 5) (.t 0)),.v 26,.p (.bin .add (.t 1) (.t 0)),.p (.bU (.t 9) (.t 0) 1),.d,.v 31,.v 6,.v 1,.v 32,.i,.d,.p (.bU (.t 4) (.t 0) 1),.d,.p (.bU (.t 8) (.t 7) 1),.p (.st (.t 0) (.t 1) 1)],[],[31,32],none⟩)))
 (.ae ⟨[.p (.bin .add (.v 27) (.c (.int (1)))),.t 0],[(27,0)],[],none⟩))))
abbrev ajK:IC:=(.seq (.ae ⟨[.c 23 24],[],[],some (124,0)⟩)
 (.seq (.cond 124 .skip (.exit 8))
 (.seq (.block 9 (.seq (.ae ⟨[.v 23,.t 0],[(26,0)],[],none⟩)
 (.seq (.ae ⟨[.v 0,.q,.h 0 15,.d,.f 25 1,.l,.p (.bU (.t 2) (.t 0) 1),.d,.v 26,.i,.d,.f 14 1,.l,.p (.bU (.t 2) (.t 0) 1),.d,.n,.k 0],[(29,2),(28,1),(27,0)],[],none⟩)
 (.block 10 (.loop ajJ)))))
 (.ae ⟨[.p (.bin .add (.v 23) (.c (.int (1)))),.t 0],[(23,0)],[26,27,28,29],none⟩))))
abbrev ajL:IC:=(.seq (.ae ⟨[.c 20 21],[],[],some (114,0)⟩)
 (.seq (.cond 114 .skip (.exit 6))
 (.seq (.block 7 (.seq (.ae ⟨[.v 20,.p (.bU (.v 22) (.v 20) 3),.p (.ld (.t 0) (some 3)),.p (.gn 3),.t 3,.p (.ku (.t 1) (.t 2) 3)],[(25,0),(30,1)],[],none⟩)
 (.seq (.ae ⟨[.v 0,.q,.p (.b5 (.t 0) 0 (some 10)),.h 0 0,.d,.k 0],[(24,1),(23,0)],[],none⟩)
 (.block 8 (.loop ajK)))))
 (.ae ⟨[.p (.bin .add (.v 20) (.c (.int (1)))),.t 0],[(20,0)],[23,24,25,30],none⟩))))
abbrev ajM:IC:=(.seq (.ae ⟨[.c 9 10],[],[],some (46,0)⟩)
 (.seq (.cond 46 .skip (.exit 2))
 (.seq (.block 3 (.seq (.ae ⟨[.v 9,.p (.bU (.v 11) (.v 9) 3),.p (.ld (.t 0) (some 3)),.p (.gn 3),.t 3,.p (.ku (.t 1) (.t 2) 3)],[(14,0),(13,1)],[],none⟩)
 (.seq (.ae ⟨[.f 12 5,.d,.v 13,.v 0,.q,.p (.b5 (.t 0) 0 (some 10)),.h 0 5,.d,.v 0,.q,.h 0 12,.d,.f 14 1,.l,.p (.bU (.t 2) (.t 0) 1),.d,.v 0,.q,.h 0 11,.d,.v 0,.q,.p (.b5 (.t 0) 0 (some 10)),.h 0 4,.d,.p (.bU (.t 5) (.t 0) 1),.d,.p (.bU (.t 11) (.t 0) 1),.d,.p (.bU (.t 21) (.t 0) 1),.d,.p (.bU (.t 29) (.t 28) 1),.p (.st (.t 0) (.t 1) 1)],[],[],none⟩)
 (.seq (.seq (.ae ⟨[.v 0,.q,.h 0 14,.d,.f 14 1,.l,.p (.bU (.t 2) (.t 0) 1),.d,.n,.k 0],[(17,2),(16,1),(15,0)],[],none⟩)
 (.block 4 (.loop ajI)))
 (.seq (.ae ⟨[.v 2,.n,.k 0],[(22,2),(21,1),(20,0)],[15,16,17],none⟩)
 (.block 6 (.loop ajL)))))))
 (.ae ⟨[.p (.bin .add (.v 9) (.c (.int (1)))),.t 0],[(9,0)],[13,14,20,21,22],none⟩))))
abbrev C7:Fn:={np:=3,nv:=34,res:=[(33,some (some 10))],body:=
(.seq (.ae ⟨[.p (.ox fb (some 10))],[(33,0)],[],none⟩)
 (.seq (.ae ⟨[.v 2,.n,.p (.jT (.t 0) (.t 0) [.int 0] none),.t 0],[(6,0)],[],none⟩)
 (.seq (.seq (.ae ⟨[.v 2,.n,.k 0],[(5,2),(4,1),(3,0)],[],none⟩)
 (.block 0 (.loop ajH)))
 (.seq (.ae ⟨[.v 0,.q,.p (.b5 (.t 0) 0 (some 10)),.p (.ld (.t 0) (some 10)),.v 2,.n,.p (.can wN [(.t 2),(.t 0)]),.p (.ox fb (some 10)),.p (.st (.t 0) (.t 1) 10)],[(12,1)],[3,4,5],none⟩)
 (.seq (.seq (.ae ⟨[.v 2,.n,.k 0],[(11,2),(10,1),(9,0)],[],none⟩)
 (.block 2 (.loop ajM)))
 (.seq (.ae ⟨[.p (.ld (.v 12) (some 10)),.p (.st (.v 33) (.t 0) 10)],[],[0,1,2,6,9,10,11,12],none⟩)
 .ret))))))}
abbrev ajN:IC:=(.seq (.seq (.ae ⟨[.v 2,.v 0,.n,.p (.bin .lss (.t 2) (.t 0))],[],[],some (14,0)⟩)
 (.cond 14 .skip (.exit 0)))
 (.seq (.block 1 (.seq (.ae ⟨[.v 0,.v 2,.i,.d,.v 1,.v 2,.i,.d,.p (.cu IG [(.t 4),(.t 0)]),.p (.not (.t 0))],[],[],some (26,0)⟩)
 (.cond 26 (.seq (.ae ⟨[.b],[(3,0)],[0,1,2],none⟩)
 .ret) .skip)))
 (.ae ⟨[.v 2,.p (.bin .add (.t 0) (.c (.int (1)))),.t 0],[(2,0)],[],none⟩)))
abbrev C8:Fn:={np:=2,nv:=4,res:=[(3,none)],body:=
(.seq (.ae ⟨[.b],[],[3],none⟩)
 (.seq (.seq (.ae ⟨[.v 0,.n,.v 1,.n,.p (.bin .neq (.t 2) (.t 0))],[],[],some (10,0)⟩)
 (.cond 10 (.seq (.ae ⟨[.b],[(3,0)],[0,1],none⟩)
 .ret) .skip))
 (.seq (.seq (.ae ⟨[.k 0],[(2,0)],[],none⟩)
 (.block 0 (.loop ajN)))
 (.seq (.ae ⟨[.p (.mv (.c (.bool true)))],[(3,0)],[0,1,2],none⟩)
 .ret))))}
abbrev ajO:IC:=(.seq (.seq (.ae ⟨[.v 2,.v 0,.n,.p (.bin .lss (.t 2) (.t 0))],[],[],some (14,0)⟩)
 (.cond 14 .skip (.exit 0)))
 (.seq (.block 1 (.seq (.ae ⟨[.v 0,.v 2,.i,.d,.v 1,.v 2,.i,.d,.p (.beq true (.t 4) (.t 0))],[],[],some (25,0)⟩)
 (.cond 25 (.seq (.ae ⟨[.b],[(3,0)],[0,1,2],none⟩)
 .ret) .skip)))
 (.ae ⟨[.v 2,.p (.bin .add (.t 0) (.c (.int (1)))),.t 0],[(2,0)],[],none⟩)))
abbrev C9:Fn:={np:=2,nv:=4,res:=[(3,none)],body:=
(.seq (.ae ⟨[.b],[],[3],none⟩)
 (.seq (.seq (.ae ⟨[.v 0,.n,.v 1,.n,.p (.bin .neq (.t 2) (.t 0))],[],[],some (10,0)⟩)
 (.cond 10 (.seq (.ae ⟨[.b],[(3,0)],[0,1],none⟩)
 .ret) .skip))
 (.seq (.seq (.ae ⟨[.k 0],[(2,0)],[],none⟩)
 (.block 0 (.loop ajO)))
 (.seq (.ae ⟨[.p (.mv (.c (.bool true)))],[(3,0)],[0,1,2],none⟩)
 .ret))))}
abbrev Da:Fn:={np:=1,nv:=4,res:=[(2,some (some 10)),(3,none)],body:=
(.seq (.ae ⟨[.p (.ox fb (some 10)),.k 0],[(2,1)],[3],none⟩)
 (.seq (.seq (.ae ⟨[.v 0,.p (.fF IH [(.t 0)]),.t 0],[(1,0)],[],none⟩)
 (.seq (.ae ⟨[.v 1,.p (.bin .neq (.t 0) (.c (.int (0))))],[],[],some (8,0)⟩)
 (.cond 8 (.seq (.ae ⟨[.p (.jI fb []),.v 1,.p (.st (.v 2) (.t 1) 10),.t 1],[(3,0)],[0,1],none⟩)
 .ret) .skip)))
 (.seq (.ae ⟨[.v 0,.p (.fF II [(.t 0)]),.p (.ext (.t 0) 0),.p (.ext (.t 1) 1),.p (.st (.v 2) (.t 1) 10),.t 1],[(3,0)],[0,1],none⟩)
 .ret)))}
abbrev ajP:IC:=(.seq (.ae ⟨[.c 8 9],[],[],some (70,0)⟩)
 (.seq (.cond 70 .skip (.exit 0))
 (.seq (.block 1 (.seq (.ae ⟨[.v 8,.t 0],[(10,0)],[],none⟩)
 (.seq (.ae ⟨[.p (.cg (.v 6) (some 20)),.v 10,.p (.cu zl [(.t 1),(.t 0)]),.t 0,.p (.ext (.t 0) 0),.p (.ext (.t 1) 1),.t 1,.t 1],[(11,1),(12,0)],[],none⟩)
 (.ae ⟨[.v 7,.v 10,.f 2 5,.l,.v 11,.i,.l,.f 4 5,.l,.v 12,.i,.l,.p (.beq true (.t 5) (.t 0)),.p (.bU (.t 12) (.t 11) 1),.p (.st (.t 0) (.t 1) 1)],[],[10,11,12],none⟩))))
 (.ae ⟨[.p (.bin .add (.v 8) (.c (.int (1)))),.t 0],[(8,0)],[],none⟩))))
abbrev Db:Fn:={np:=2,nv:=16,res:=[(13,none),(14,none),(15,none)],body:=
(.seq (.ae ⟨[.p (.iD (.v 0)),.p (.iD (.v 1)),.p (.mv (.c (.ah))),.b,.k 0],[(2,4),(4,3)],[0,1,13,14,15],none⟩)
 (.seq (.seq (.ae ⟨[.p (.cg (.v 2) (some 10)),.p (.cu uJ [(.t 0)]),.t 0],[(3,0)],[],none⟩)
 (.seq (.ae ⟨[.v 3,.p (.bin .neq (.t 0) (.c (.int (0))))],[],[],some (17,0)⟩)
 (.cond 17 (.seq (.ae ⟨[.v 3,.p (.mv (.c (.ah))),.b,.t 2],[(13,2),(14,1),(15,0)],[2,3,4],none⟩)
 .ret) .skip)))
 (.seq (.seq (.ae ⟨[.p (.cg (.v 4) (some 10)),.p (.cu uJ [(.t 0)]),.t 0],[(5,0)],[3],none⟩)
 (.seq (.ae ⟨[.v 5,.p (.bin .neq (.t 0) (.c (.int (0))))],[],[],some (22,0)⟩)
 (.cond 22 (.seq (.ae ⟨[.v 5,.p (.mv (.c (.ah))),.b,.t 2],[(13,2),(14,1),(15,0)],[2,4,5],none⟩)
 .ret) .skip)))
 (.seq (.seq (.ae ⟨[.f 2 0,.l,.f 4 0,.l,.p (.bin .neq (.t 2) (.t 0)),.t 0,.y 0 (.b5 (.v 2) 1 none),.y 1 (.cg (.t 0) none),.y 2 (.b5 (.v 4) 1 none),.y 3 (.cg (.t 0) none),.y 4 (.bin .neq (.t 2) (.t 0)),.p (.pick (.t 5) (.c (.bool true)) (.t 0)),.t 0,.y 0 (.b5 (.v 2) 2 none),.y 1 (.cg (.t 0) none),.y 2 (.b5 (.v 4) 2 none),.y 3 (.cg (.t 0) none),.y 4 (.bin .neq (.t 2) (.t 0)),.p (.pick (.t 5) (.c (.bool true)) (.t 0))],[],[5],some (42,0)⟩)
 (.cond 42 (.seq (.ae ⟨[.p (.mv (.c (.ah))),.b,.k 15],[(13,2),(14,1),(15,0)],[2,4],none⟩)
 .ret) .skip))
 (.seq (.seq (.ae ⟨[.f 2 5,.l,.n,.f 4 5,.l,.n,.p (.bin .mul (.t 3) (.t 0)),.p (.bin .gtr (.t 0) (.c (.int (144)))),.t 0,.y 0 (.b5 (.v 2) 3 none),.y 1 (.cg (.t 0) none),.y 2 (.b5 (.v 4) 3 none),.y 3 (.cg (.t 0) none),.y 4 (.bin .mul (.t 2) (.t 0)),.y 5 (.bin .gtr (.t 0) (.c (.int (1024)))),.p (.pick (.t 6) (.c (.bool true)) (.t 0))],[],[],some (58,0)⟩)
 (.cond 58 (.seq (.ae ⟨[.p (.mv (.c (.ah))),.b,.k 11],[(13,2),(14,1),(15,0)],[2,4],none⟩)
 .ret) .skip))
 (.seq (.ae ⟨[.p (.cg (.v 2) (some 10)),.p (.jI fb [(0,10,(.t 0))]),.p (.cg (.v 4) (some 10)),.p (.jI fb [(0,10,(.t 0))]),.p (.jI [.int 0,.int 0,.int 0,.int 0,.int 0,.ah,.ah,.ah,.ah,.ah,.int 0,.int 0,.int 0,.int 0,.int 0,.ah,.ah,.ah,.ah,.ah] [(0,10,(.t 2)),(10,10,(.t 0))]),.p (.gn 20),.p (.ku (.t 0) (.t 1) 20)],[(6,0)],[],none⟩)
 (.seq (.ae ⟨[.p (.cg (.v 6) (some 20)),.p (.cu o8 [(.t 0)]),.p (.jT (.t 0) (.t 0) [.bool false] none),.t 0],[(7,0)],[],none⟩)
 (.seq (.seq (.ae ⟨[.v 7,.n,.k 0],[(9,1),(8,0)],[],none⟩)
 (.seq (.block 0 (.loop ajP)) (.lu 7)))
 (.seq (.ae ⟨[.p (.cg (.v 6) (some 20)),.p (.KU jq (.t 0)),.p (.cg (.v 2) (some 10)),.f 2 4,.l,.p (.b5 (.v 6) 10 (some 10)),.p (.cg (.t 0) (some 10)),.p (.cu jK [(.t 0)]),.p (.bin .mul (.t 3) (.t 0)),.f 4 4,.l,.p (.bin .add (.t 2) (.t 0)),.v 7,.p (.cu Qf [(.t 11),(.t 10),(.t 1),(.t 0)]),.p (.ext (.t 0) 0),.p (.ext (.t 1) 1),.p (.ext (.t 2) 2),.t 2,.t 2,.t 2],[(13,2),(14,1),(15,0)],[2,4,6,7,8,9],none⟩)
 .ret)))))))))}
abbrev Dc:Fn:={np:=2,nv:=4,res:=[(3,none)],body:=
(.seq (.ae ⟨[.p (.iD (.v 1)),.k 0],[(2,1)],[1,3],none⟩)
 (.seq (.block 0 (.seq (.ae ⟨[.p (.cg (.v 2) none),.p (.cu IJ [(.t 0)]),.p (.not (.t 0)),.t 0],[],[],some (5,0)⟩)
 (.cond 5 (.seq (.ae ⟨[.k 2],[(3,0)],[0,2],none⟩)
 .ret) (.seq (.ae ⟨[.v 0,.n,.p (.bin .gtr (.t 0) (.c (.int (1024)))),.t 0],[],[],some (9,0)⟩)
 (.cond 9 (.seq (.ae ⟨[.k 3],[(3,0)],[0,2],none⟩)
 .ret) (.seq (.ae ⟨[.v 0,.p (.BH zr [(.v 2)]),.p (.cu zq [(.t 1),(.t 0)]),.t 0],[],[0,2],some (13,0)⟩)
 (.cond 13 (.seq (.ae ⟨[.k 1],[(3,0)],[],none⟩)
 .ret) .skip)))))))
 (.seq (.ae ⟨[.k 0],[(3,0)],[],none⟩)
 .ret)))}
abbrev Dd:Fn:={np:=1,nv:=3,res:=[(2,none)],body:=
(.seq (.ae ⟨[.p (.iD (.v 0)),.k 0],[(1,1)],[0,2],none⟩)
 (.seq (.ae ⟨[.f 1 0,.l,.f 1 1,.l,.p (.bin .add (.t 2) (.t 0)),.f 1 2,.l,.p (.bin .add (.t 2) (.t 0)),.t 0],[(2,0)],[1],none⟩)
 .ret))}
abbrev ajQ:IC:=(.seq (.ae ⟨[.c 2 3],[],[],some (14,0)⟩)
 (.seq (.cond 14 .skip (.exit 0))
 (.seq (.block 1 (.seq (.ae ⟨[.p (.bU (.v 4) (.v 2) 1),.d,.t 0],[(5,0)],[],none⟩)
 (.seq (.block 2 (.seq (.ae ⟨[.v 5,.f 6 0,.l,.p (.bin .lss (.t 2) (.t 0)),.t 0],[],[],some (17,0)⟩)
 (.cond 17 (.ae ⟨[.v 7,.p (.bin .add (.t 0) (.c (.int (1)))),.t 0],[(7,0)],[5],none⟩) (.seq (.ae ⟨[.v 5,.f 6 0,.l,.f 6 1,.l,.p (.bin .add (.t 2) (.t 0)),.p (.bin .geq (.t 5) (.t 0)),.t 0],[],[5],some (24,0)⟩)
 (.cond 24 (.ae ⟨[.v 7,.p (.bin .sub (.t 0) (.c (.int (1)))),.t 0],[(7,0)],[],none⟩) .skip)))))
 (.seq (.ae ⟨[.v 8,.v 7,.p (.mx true (.t 1) (.t 0)),.t 0],[(8,0)],[],none⟩)
 (.ae ⟨[.v 9,.t 0,.x 0 (.mv (.v 7)),.x 1 (.bin .geq (.t 0) (.c (.int (0)))),.p (.pick (.t 2) (.t 0) (.c (.bool false))),.t 0],[(9,0)],[],none⟩)))))
 (.ae ⟨[.p (.bin .add (.v 2) (.c (.int (1)))),.t 0],[(2,0)],[],none⟩))))
abbrev De:Fn:={np:=2,nv:=12,res:=[(10,none),(11,none)],body:=
(.seq (.ae ⟨[.p (.iD (.v 0)),.k 0,.b],[(6,2)],[0,10,11],none⟩)
 (.seq (.ae ⟨[.k 0,.k 0,.p (.mv (.c (.bool true)))],[(7,2),(8,1),(9,0)],[],none⟩)
 (.seq (.seq (.ae ⟨[.v 1,.n,.k 0],[(4,2),(3,1),(2,0)],[1],none⟩)
 (.block 0 (.loop ajQ)))
 (.seq (.ae ⟨[.v 8,.v 9,.t 0,.x 0 (.mv (.v 7)),.x 1 (.bin .eql (.t 0) (.c (.int (0)))),.p (.pick (.t 2) (.t 0) (.c (.bool false))),.t 5,.t 1],[(10,1),(11,0)],[2,3,4,6,7,8,9],none⟩)
 .ret))))}
abbrev Df:Fn:={np:=3,nv:=6,res:=[(4,none),(5,none)],body:=
(.seq (.ae ⟨[.p (.iD (.v 0)),.k 0,.k 0],[(3,2)],[0,4,5],none⟩)
 (.seq (.ae ⟨[.p (.b5 (.v 3) 0 (some 10)),.h 0 6,.l,.v 1,.i,.l,.v 2,.i,.l,.p (.b5 (.v 3) 0 (some 10)),.h 0 7,.l,.v 1,.i,.l,.v 2,.i,.l,.t 9,.t 1],[(4,1),(5,0)],[1,2,3],none⟩)
 .ret))}
abbrev Dg:Fn:={np:=2,nv:=2,res:=[],body:=
(.ae ⟨[.v 0,.v 0,.q,.h 0 0,.d,.v 1,.p (.dI [(.t 0)] 1),.p (.dm (.t 2) (.t 0) none),.p (.oO (.t 7)),.h 0 0,.p (.st (.t 0) (.t 2) 1)],[],[0,1],none⟩)}
abbrev Dh:Fn:={np:=3,nv:=5,res:=[(4,none)],body:=
(.seq (.ae ⟨[.p (.iD (.v 0)),.k 0],[(3,1)],[0,4],none⟩)
 (.seq (.ae ⟨[.p (.b5 (.v 3) 0 (some 10)),.h 0 8,.l,.v 1,.i,.l,.v 2,.i,.l,.t 0],[(4,0)],[1,2,3],none⟩)
 .ret))}
abbrev Di:Fn:={np:=4,nv:=6,res:=[(5,none)],body:=
(.seq (.ae ⟨[.p (.iD (.v 0)),.k 0],[(4,1)],[0,5],none⟩)
 (.seq (.ae ⟨[.p (.b5 (.v 4) 0 (some 10)),.h 0 9,.l,.v 1,.i,.l,.v 2,.i,.l,.v 3,.i,.l,.t 0],[(5,0)],[1,2,3,4],none⟩)
 .ret))}
abbrev Dj:Fn:={np:=1,nv:=3,res:=[(2,none)],body:=
(.seq (.ae ⟨[.k 0],[],[2],none⟩)
 (.seq (.ae ⟨[.v 0,.q,.h 0 0,.d,.v 0,.q,.h 0 0,.d,.n,.p (.bin .sub (.t 0) (.c (.int (1)))),.p (.bU (.t 6) (.t 0) 1),.d,.t 0],[(1,0)],[],none⟩)
 (.seq (.ae ⟨[.v 0,.v 0,.q,.h 0 0,.d,.v 0,.q,.h 0 0,.d,.n,.p (.bin .sub (.t 0) (.c (.int (1)))),.p (.pK (.t 6) none (some (.t 0)) 1),.p (.oO (.t 11)),.h 0 0,.p (.st (.t 0) (.t 2) 1)],[],[0],none⟩)
 (.seq (.ae ⟨[.v 1,.t 0],[(2,0)],[1],none⟩)
 .ret))))}
abbrev Dk:Fn:={np:=2,nv:=4,res:=[(3,none)],body:=
(.seq (.ae ⟨[.p (.iD (.v 1)),.b],[(2,1)],[1,3],none⟩)
 (.seq (.ae ⟨[.v 0,.p (.BH Ed [(.v 2)]),.p (.cu zq [(.t 1),(.t 0)]),.t 0],[(3,0)],[0,2],none⟩)
 .ret))}
abbrev ajR:IC:=(.seq (.ae ⟨[.c 4 5],[],[],some (86,0)⟩)
 (.seq (.cond 86 .skip (.exit 0))
 (.seq (.block 1 (.seq (.ae ⟨[.p (.bU (.v 6) (.v 4) 1),.d,.t 0],[(7,0)],[],none⟩)
 (.seq (.seq (.ae ⟨[.v 7,.n,.f 2 2,.l,.p (.bin .neq (.t 2) (.t 0))],[],[],some (93,0)⟩)
 (.cond 93 (.seq (.ae ⟨[.k 1],[(8,0)],[2,3,4,5,6,7],none⟩)
 .ret) .skip))
 (.seq (.ae ⟨[.v 7,.v 3,.p (.cu tf [(.t 1),(.t 0)])],[],[7],some (96,0)⟩)
 (.cond 96 (.seq (.ae ⟨[.k 2],[(8,0)],[2,3,4,5,6],none⟩)
 .ret) .skip)))))
 (.ae ⟨[.p (.bin .add (.v 4) (.c (.int (1)))),.t 0],[(4,0)],[],none⟩))))
abbrev Dl:Fn:={np:=2,nv:=9,res:=[(8,none)],body:=
(.seq (.ae ⟨[.p (.iD (.v 0)),.k 0],[(2,1)],[0,8],none⟩)
 (.seq (.ae ⟨[.f 2 5,.l,.n,.t 0],[(3,0)],[],none⟩)
 (.seq (.seq (.ae ⟨[.f 2 6,.l,.v 1,.i,.l,.n,.f 2 0,.l,.p (.bin .neq (.t 2) (.t 0)),.t 0,.y 0 (.b5 (.v 2) 7 none),.y 1 (.cg (.t 0) none),.y 2 (.mv (.v 1)),.y 3 (.bU (.t 1) (.t 0) 1),.y 4 (.cg (.t 0) none),.y 5 (.len (.t 0)),.y 6 (.b5 (.v 2) 0 none),.y 7 (.cg (.t 0) none),.y 8 (.bin .neq (.t 2) (.t 0)),.p (.pick (.t 9) (.c (.bool true)) (.t 0)),.t 0,.y 0 (.b5 (.v 2) 8 none),.y 1 (.cg (.t 0) none),.y 2 (.mv (.v 1)),.y 3 (.bU (.t 1) (.t 0) 1),.y 4 (.cg (.t 0) none),.y 5 (.len (.t 0)),.y 6 (.b5 (.v 2) 1 none),.y 7 (.cg (.t 0) none),.y 8 (.bin .neq (.t 2) (.t 0)),.p (.pick (.t 9) (.c (.bool true)) (.t 0)),.t 0,.y 0 (.b5 (.v 2) 9 none),.y 1 (.cg (.t 0) none),.y 2 (.mv (.v 1)),.y 3 (.bU (.t 1) (.t 0) 1),.y 4 (.cg (.t 0) none),.y 5 (.len (.t 0)),.y 6 (.b5 (.v 2) 3 none),.y 7 (.cg (.t 0) none),.y 8 (.bin .neq (.t 2) (.t 0)),.p (.pick (.t 9) (.c (.bool true)) (.t 0))],[],[],some (52,0)⟩)
 (.cond 52 (.seq (.ae ⟨[.k 1],[(8,0)],[1,2,3],none⟩)
 .ret) .skip))
 (.seq (.seq (.ae ⟨[.f 2 6,.l,.v 1,.i,.l,.v 3,.p (.cu tf [(.t 1),(.t 0)]),.t 0,.y 0 (.b5 (.v 2) 7 none),.y 1 (.cg (.t 0) none),.y 2 (.mv (.v 1)),.y 3 (.bU (.t 1) (.t 0) 1),.y 4 (.cg (.t 0) none),.y 5 (.b5 (.v 2) 3 none),.y 6 (.cg (.t 0) none),.y 7 (.cu tf [(.t 2),(.t 0)]),.p (.pick (.t 8) (.c (.bool true)) (.t 0)),.t 0,.y 0 (.b5 (.v 2) 8 none),.y 1 (.cg (.t 0) none),.y 2 (.mv (.v 1)),.y 3 (.bU (.t 1) (.t 0) 1),.y 4 (.cg (.t 0) none),.y 5 (.mv (.v 3)),.y 6 (.cu tf [(.t 1),(.t 0)]),.p (.pick (.t 7) (.c (.bool true)) (.t 0))],[],[],some (78,0)⟩)
 (.cond 78 (.seq (.ae ⟨[.k 2],[(8,0)],[1,2,3],none⟩)
 .ret) .skip))
 (.seq (.seq (.ae ⟨[.f 2 9,.l,.v 1,.i,.l,.n,.k 0],[(6,2),(5,1),(4,0)],[1],none⟩)
 (.block 0 (.loop ajR)))
 (.seq (.ae ⟨[.k 0],[(8,0)],[2,3,4,5,6],none⟩)
 .ret))))))}
abbrev ajS:IC:=(.seq (.ae ⟨[.c 2 3],[],[],some (13,0)⟩)
 (.seq (.cond 13 .skip (.exit 0))
 (.seq (.block 1 (.seq (.ae ⟨[.p (.bU (.v 4) (.v 2) 1),.d,.t 0],[(6,0)],[],none⟩)
 (.ae ⟨[.v 5,.v 6,.p (.dm (.t 1) (.t 0) none),.t 0],[(5,0)],[6],none⟩)))
 (.ae ⟨[.p (.bin .add (.v 2) (.c (.int (1)))),.t 0],[(2,0)],[],none⟩))))
abbrev Dn:Fn:={np:=1,nv:=8,res:=[(7,none)],body:=
(.seq (.ae ⟨[.p (.iD (.v 0)),.p (.mv (.c (.ah)))],[(1,1)],[0,7],none⟩)
 (.seq (.ae ⟨[.f 1 4,.l,.p (.mw [(.t 0)] none),.t 0],[(5,0)],[],none⟩)
 (.seq (.seq (.ae ⟨[.f 1 6,.l,.n,.k 0],[(4,2),(3,1),(2,0)],[1],none⟩)
 (.block 0 (.loop ajS)))
 (.seq (.ae ⟨[.v 5,.p (.fF zt [(.t 0)])],[],[2,3,4],none⟩)
 (.seq (.ae ⟨[.v 5,.p (.fF IK [(.t 0)]),.t 0],[(7,0)],[5],none⟩)
 .ret)))))}
abbrev Dp:Fn:={np:=2,nv:=5,res:=[(4,none)],body:=
(.seq (.ae ⟨[.k 0],[],[4],none⟩)
 (.seq (.ae ⟨[.v 0,.q,.h 0 13,.d,.v 1,.p (.cu zg [(.t 0)]),.p (.vj (.t 2) 1 (.t 0) (.int 0) true),.t 0,.p (.ext (.t 0) 0),.p (.ext (.t 1) 1),.t 1,.t 1],[(3,1),(2,0)],[],none⟩)
 (.seq (.seq (.ae ⟨[.v 2,.p (.not (.t 0))],[],[2],some (18,0)⟩)
 (.cond 18 (.seq (.ae ⟨[.v 0,.q,.h 0 12,.d,.n,.t 0],[(3,0)],[],none⟩)
 (.seq (.ae ⟨[.v 0,.q,.h 0 13,.d,.v 1,.p (.cu zg [(.t 0)]),.v 3,.p (.vh (.t 3) 1 (.t 1) (.t 0))],[],[],none⟩)
 (.ae ⟨[.v 0,.v 0,.q,.h 0 12,.d,.v 1,.p (.dI [(.t 0)] 1),.p (.dm (.t 2) (.t 0) none),.p (.oO (.t 7)),.h 0 12,.p (.st (.t 0) (.t 2) 1)],[],[0,1],none⟩))) .skip))
 (.seq (.ae ⟨[.v 3,.t 0],[(4,0)],[0,1,3],none⟩)
 .ret))))}
abbrev Qc:Fn:={np:=1,nv:=2,res:=[(1,none)],body:=
(.seq (.ae ⟨[.p (.mv (.c (.ah)))],[],[1],none⟩)
 (.seq (.seq (.ae ⟨[.v 0,.p (.nK false (.t 0))],[],[],some (4,0)⟩)
 (.cond 4 (.seq (.ae ⟨[.p (.mv (.c (.ah)))],[(1,0)],[0],none⟩)
 .ret) .skip))
 (.seq (.ae ⟨[.p (.si 1),.v 0,.p (.dm (.t 1) (.t 0) none),.t 0],[(1,0)],[0],none⟩)
 .ret)))}
abbrev ajT:IC:=(.seq (.ae ⟨[.c 3 4],[],[],some (19,0)⟩)
 (.seq (.cond 19 .skip (.exit 0))
 (.seq (.block 1 (.seq (.ae ⟨[.p (.bU (.v 5) (.v 3) 1),.d,.t 0],[(7,0)],[],none⟩)
 (.ae ⟨[.v 6,.v 0,.q,.p (.b5 (.t 0) 0 (some 10)),.h 0 8,.d,.v 7,.i,.d,.v 2,.i,.d,.p (.dI [(.t 0)] 1),.p (.dm (.t 12) (.t 0) none),.t 0],[(6,0)],[7],none⟩)))
 (.ae ⟨[.p (.bin .add (.v 3) (.c (.int (1)))),.t 0],[(3,0)],[],none⟩))))
abbrev Dq:Fn:={np:=3,nv:=9,res:=[(8,none)],body:=
(.seq (.ae ⟨[.p (.mv (.c (.ah)))],[],[8],none⟩)
 (.seq (.ae ⟨[.p (.nl none)],[(6,0)],[],none⟩)
 (.seq (.seq (.ae ⟨[.v 0,.q,.h 0 12,.d,.v 1,.i,.d,.n,.k 0],[(5,2),(4,1),(3,0)],[1],none⟩)
 (.block 0 (.loop ajT)))
 (.seq (.ae ⟨[.v 6,.t 0],[(8,0)],[0,2,3,4,5,6],none⟩)
 .ret))))}
abbrev ajU:IC:=(.seq (.ae ⟨[.c 4 5],[],[],some (16,0)⟩)
 (.seq (.cond 16 .skip (.exit 0))
 (.seq (.block 1 (.seq (.ae ⟨[.v 4,.t 0],[(7,0)],[],none⟩)
 (.ae ⟨[.v 6,.v 0,.v 0,.v 1,.v 2,.v 3,.v 7,.p (.tO IL [(.t 4),(.t 3),(.t 2),(.t 1),(.t 0)]),.p (.fF wM [(.t 6),(.t 0)]),.p (.dI [(.t 0)] 1),.p (.dm (.t 9) (.t 0) none),.t 0],[(6,0)],[7],none⟩)))
 (.ae ⟨[.p (.bin .add (.v 4) (.c (.int (1)))),.t 0],[(4,0)],[],none⟩))))
abbrev Dr:Fn:={np:=4,nv:=8,res:=[],body:=
(.seq (.ae ⟨[.p (.nl none)],[(6,0)],[],none⟩)
 (.seq (.seq (.ae ⟨[.v 0,.q,.p (.b5 (.t 0) 0 (some 10)),.h 0 2,.d,.k 0],[(5,1),(4,0)],[],none⟩)
 (.seq (.block 0 (.loop ajU)) (.lu 6)))
 (.ae ⟨[.v 0,.q,.h 0 15,.d,.v 1,.i,.d,.v 2,.v 0,.q,.h 0 15,.d,.v 1,.i,.d,.v 2,.i,.d,.v 6,.p (.dI [(.t 0)] 1),.p (.app (.t 2) (.t 0) none),.p (.bU (.t 14) (.t 13) 1),.p (.st (.t 0) (.t 1) 1)],[],[0,1,2,3,4,5,6],none⟩)))}
abbrev ajV:IC:=(.seq (.ae ⟨[.c 2 3],[],[],some (19,0)⟩)
 (.seq (.cond 19 .skip (.exit 0))
 (.seq (.block 1 (.seq (.ae ⟨[.v 2,.t 0],[(4,0)],[],none⟩)
 (.seq (.ae ⟨[.v 0,.v 1,.v 4,.p (.cu Ee [(.t 2),(.t 1),(.t 0)]),.p (.Bp (.t 0)),.t 0],[(6,0)],[],none⟩)
 (.seq (.ae ⟨[.v 5,.v 6,.p (.vj (.t 1) 1 (.t 0) (.int 0) true),.t 0,.p (.ext (.t 0) 0),.p (.ext (.t 1) 1),.t 1,.t 1],[(8,1),(7,0)],[],none⟩)
 (.seq (.seq (.ae ⟨[.v 7,.p (.not (.t 0))],[],[7],some (33,0)⟩)
 (.cond 33 (.seq (.ae ⟨[.v 5,.p (.AH (.t 0)),.t 0],[(8,0)],[],none⟩)
 (.ae ⟨[.v 5,.v 6,.v 8,.p (.vh (.t 2) 1 (.t 1) (.t 0))],[],[6],none⟩)) .skip))
 (.ae ⟨[.v 9,.v 4,.v 8,.p (.bU (.t 2) (.t 1) 1),.p (.st (.t 0) (.t 1) 1)],[],[4,6,8],none⟩))))))
 (.ae ⟨[.p (.bin .add (.v 2) (.c (.int (1)))),.t 0],[(2,0)],[],none⟩))))
abbrev Ds:Fn:={np:=2,nv:=12,res:=[(10,none),(11,none)],body:=
(.seq (.ae ⟨[.p (.mv (.c (.ah))),.k 0],[],[10,11],none⟩)
 (.seq (.ae ⟨[.p (.ya),.t 0],[(5,0)],[],none⟩)
 (.seq (.ae ⟨[.v 1,.n,.p (.jT (.t 0) (.t 0) [.int 0] none),.t 0],[(9,0)],[],none⟩)
 (.seq (.seq (.ae ⟨[.v 1,.n,.k 0],[(3,1),(2,0)],[],none⟩)
 (.block 0 (.loop ajV)))
 (.seq (.ae ⟨[.v 9,.v 5,.p (.AH (.t 0)),.t 2,.t 1],[(10,1),(11,0)],[0,1,2,3,5,9],none⟩)
 .ret)))))}
abbrev RF:ga:=⟨[.k 0],[(6,0)],[],none⟩
abbrev RH:ga:=⟨[.v 2,.n,.k 0],[(5,2),(4,1),(3,0)],[],none⟩
abbrev RI:IC:=(.seq (.ae ⟨[.c 3 4],[],[],some (14,0)⟩)
 (.seq (.cond 14 .skip (.exit 0))
 (.seq (.block 1 (.seq (.ae ⟨[.p (.bU (.v 5) (.v 3) 1),.d,.t 0],[(7,0)],[],none⟩)
 (.ae ⟨[.v 6,.v 7,.n,.p (.bin .add (.t 2) (.t 0)),.t 0],[(6,0)],[7],none⟩)))
 (.ae ⟨[.p (.bin .add (.v 3) (.c (.int (1)))),.t 0],[(3,0)],[],none⟩))))
abbrev RJ:ga:=⟨[.v 0,.q,.h 0 1,.d,.v 1,.i,.d,.t 0],[(8,0)],[3,4,5],none⟩
abbrev RK:ga:=⟨[.v 6,.p (.bin .gtr (.t 0) (.c (.int (1024)))),.t 0,.y 0 (.mv (.v 0)),.y 1 (.oO (.t 0)),.y 2 (.b5 (.t 0) 2 none),.y 3 (.ld (.t 0) none),.y 4 (.mv (.v 1)),.y 5 (.bU (.t 1) (.t 0) 1),.y 6 (.ld (.t 0) none),.p (.pick (.t 7) (.c (.bool true)) (.t 0)),.t 0,.y 0 (.mv (.v 8)),.y 1 (.nK true (.t 0)),.y 2 (.mv (.t 0)),.x 0 (.mv (.v 8)),.x 1 (.len (.t 0)),.x 2 (.mv (.v 6)),.x 3 (.bin .lss (.t 1) (.t 0)),.y 7 (.pick (.t 4) (.t 0) (.c (.bool false))),.p (.pick (.t 8) (.c (.bool true)) (.t 0))],[],[],some (49,0)⟩
abbrev IX:ga:=⟨[.p (.dI [] 1),.v 2,.p (.cu wO [(.t 0)]),.p (.dm (.t 2) (.t 0) none),.t 0],[(9,0)],[2],none⟩
abbrev RL:ga:=⟨[.v 8,.p (.nK true (.t 0)),.t 0,.x 0 (.mv (.v 8)),.x 1 (.mv (.v 9)),.x 2 (.cu o9 [(.t 1),(.t 0)]),.x 3 (.bin .leq (.t 0) (.c (.int (0)))),.p (.pick (.t 4) (.t 0) (.c (.bool false)))],[],[],some (61,0)⟩
abbrev RM:ga:=⟨[.v 0,.q,.h 0 1,.d,.v 1,.v 9,.p (.bU (.t 2) (.t 1) 1),.p (.st (.t 0) (.t 1) 1)],[],[9],none⟩
abbrev RN:ga:=⟨[.v 8,.p (.nK false (.t 0)),.t 0,.y 0 (.mv (.v 8)),.y 1 (.len (.t 0)),.y 2 (.mv (.v 6)),.y 3 (.bin .gtr (.t 1) (.t 0)),.p (.pick (.t 4) (.c (.bool true)) (.t 0))],[],[8],some (76,0)⟩
abbrev IY:ga:=⟨[.v 0,.q,.h 0 3,.d,.v 6,.v 0,.q,.h 0 3,.d,.v 6,.i,.d,.v 1,.p (.dI [(.t 0)] 1),.p (.app (.t 2) (.t 0) none),.p (.bU (.t 11) (.t 10) 1),.p (.st (.t 0) (.t 1) 1)],[],[0,1,6],none⟩
abbrev rH:Fn:={np:=3,nv:=10,res:=[],body:=
(.seq (.ae RF)
 (.seq (.seq (.ae RH)
 (.block 0 (.loop RI)))
 (.seq (.ae RJ)
 (.seq (.seq (.ae RK)
 (.cond 49 .ret .skip))
 (.seq (.seq (.ae IX) (.lu 9))
 (.seq (.seq (.ae RL)
 (.cond 61 .ret .skip))
 (.seq (.ae RM)
 (.seq (.ae RN)
 (.cond 76 (.ae IY) .skip)))))))))}
abbrev ajW:IC:=(.seq (.ae ⟨[.c 2 3],[],[],some (17,0)⟩)
 (.seq (.cond 17 .skip (.exit 0))
 (.seq (.block 1 (.seq (.ae ⟨[.p (.bU (.v 4) (.v 2) 1),.d,.t 0],[(5,0)],[],none⟩)
 (.seq (.ae ⟨[.v 0,.q,.h 0 2,.d,.v 5,.i,.d,.p (.not (.t 0))],[],[],some (27,0)⟩)
 (.cond 27 (.seq (.ae ⟨[.v 0,.q,.h 0 2,.d,.v 5,.i,.p (.st (.t 0) (.c (.bool true)) 1)],[],[],none⟩)
 (.ae ⟨[.v 6,.v 5,.p (.dI [(.t 0)] 1),.p (.dm (.t 2) (.t 0) none),.t 0],[(6,0)],[5],none⟩)) .skip))))
 (.ae ⟨[.p (.bin .add (.v 2) (.c (.int (1)))),.t 0],[(2,0)],[5],none⟩))))
abbrev Dt:Fn:={np:=2,nv:=8,res:=[(7,none)],body:=
(.seq (.ae ⟨[.p (.mv (.c (.ah)))],[],[7],none⟩)
 (.seq (.ae ⟨[.p (.nl none)],[(6,0)],[],none⟩)
 (.seq (.seq (.ae ⟨[.v 0,.q,.h 0 3,.d,.v 1,.i,.d,.n,.k 0],[(4,2),(3,1),(2,0)],[1],none⟩)
 (.block 0 (.loop ajW)))
 (.seq (.ae ⟨[.v 6,.t 0],[(7,0)],[0,2,3,4,6],none⟩)
 .ret))))}
abbrev ajX:IC:=(.seq (.ae ⟨[.c 3 4],[],[],some (23,0)⟩)
 (.seq (.cond 23 .skip (.exit 0))
 (.seq (.block 1 (.seq (.ae ⟨[.v 3,.p (.bU (.v 5) (.v 3) 1),.d,.t 2,.t 1],[(7,1),(6,0)],[],none⟩)
 (.ae ⟨[.v 0,.v 6,.v 0,.q,.h 0 1,.d,.v 1,.i,.d,.v 2,.q,.p (.b5 (.t 0) 0 (some 10)),.h 0 0,.d,.v 7,.p (.bin .add (.t 1) (.t 0)),.p (.bX [(.t 0)] 1),.p (.bX [(.t 8),(.t 0)] 1),.p (.fF uL [(.t 17),(.t 16),(.t 0)])],[],[6,7],none⟩)))
 (.ae ⟨[.p (.bin .add (.v 3) (.c (.int (1)))),.t 0],[(3,0)],[],none⟩))))
abbrev ajY:IC:=(.seq (.ae ⟨[.c 11 12],[],[],some (62,0)⟩)
 (.seq (.cond 62 .skip (.exit 4))
 (.seq (.block 5 (.seq (.ae ⟨[.v 11,.t 0],[(13,0)],[],none⟩)
 (.seq (.ae ⟨[.v 0,.v 1,.v 13,.v 14,.p (.fF Ef [(.t 3),(.t 2),(.t 1),(.t 0)])],[],[],none⟩)
 (.ae ⟨[.v 0,.v 14,.v 13,.v 1,.p (.fF Ef [(.t 3),(.t 2),(.t 1),(.t 0)])],[],[13],none⟩))))
 (.ae ⟨[.p (.bin .add (.v 11) (.c (.int (1)))),.t 0],[(11,0)],[],none⟩))))
abbrev ajZ:IC:=(.seq (.ae ⟨[.c 8 9],[],[],some (53,0)⟩)
 (.seq (.cond 53 .skip (.exit 2))
 (.seq (.block 3 (.seq (.ae ⟨[.p (.bU (.v 10) (.v 8) 1),.d,.t 0],[(14,0)],[],none⟩)
 (.seq (.ae ⟨[.v 2,.q,.p (.b5 (.t 0) 0 (some 10)),.h 0 0,.d,.k 0],[(12,1),(11,0)],[],none⟩)
 (.block 4 (.loop ajY)))))
 (.ae ⟨[.p (.bin .add (.v 8) (.c (.int (1)))),.t 0],[(8,0)],[11,12,14],none⟩))))
abbrev Du:Fn:={np:=2,nv:=15,res:=[],body:=
(.seq (.ae ⟨[.v 0,.q,.h 0 0,.d,.t 0],[(2,0)],[],none⟩)
 (.seq (.seq (.ae ⟨[.v 2,.q,.h 0 14,.d,.v 1,.i,.d,.n,.k 0],[(5,2),(4,1),(3,0)],[],none⟩)
 (.block 0 (.loop ajX)))
 (.seq (.ae ⟨[.v 0,.q,.h 0 4,.d,.n,.k 0],[(10,2),(9,1),(8,0)],[3,4,5],none⟩)
 (.block 2 (.loop ajZ)))))}
abbrev aj0:IC:=(.seq (.ae ⟨[.c 1 2],[],[],some (9,0)⟩)
 (.seq (.cond 9 .skip (.exit 0))
 (.seq (.block 1 (.seq (.ae ⟨[.p (.bU (.v 3) (.v 1) 1),.d,.t 0],[(4,0)],[],none⟩)
 (.seq (.ae ⟨[.v 4,.v 5,.p (.bin .neq (.t 1) (.t 0))],[],[],some (14,0)⟩)
 (.cond 14 (.seq (.ae ⟨[.v 4,.t 0],[(6,0)],[1,2,3,4,5],none⟩)
 .ret) .skip))))
 (.ae ⟨[.p (.bin .add (.v 1) (.c (.int (1)))),.t 0],[(1,0)],[4],none⟩))))
abbrev Dw:Fn:={np:=1,nv:=7,res:=[(6,none)],body:=
(.seq (.ae ⟨[.k 0],[],[6],none⟩)
 (.seq (.ae ⟨[.k 0],[(5,0)],[],none⟩)
 (.seq (.seq (.ae ⟨[.v 0,.n,.k 0],[(3,2),(2,1),(1,0)],[0],none⟩)
 (.block 0 (.loop aj0)))
 (.seq (.ae ⟨[.v 5,.t 0],[(6,0)],[1,2,3,5],none⟩)
 .ret))))}
abbrev Dx:Fn:={np:=2,nv:=5,res:=[(4,none)],body:=
(.seq (.ae ⟨[.k 0],[],[4],none⟩)
 (.seq (.ae ⟨[.v 0,.p (.cu Eg [(.t 0)]),.t 0],[(2,0)],[],none⟩)
 (.seq (.ae ⟨[.v 1,.p (.cu Eg [(.t 0)]),.t 0],[(3,0)],[],none⟩)
 (.seq (.seq (.ae ⟨[.v 2],[],[2],some (11,0)⟩)
 (.cond 11 (.seq (.seq (.ae ⟨[.v 3],[],[0,1,3],some (12,0)⟩)
 (.cond 12 (.seq (.ae ⟨[.k 0],[(4,0)],[],none⟩)
 .ret) .skip))
 (.seq (.ae ⟨[.p (.mv (.c (.int (-1))))],[(4,0)],[],none⟩)
 .ret)) .skip))
 (.seq (.seq (.ae ⟨[.v 3],[],[3],some (13,0)⟩)
 (.cond 13 (.seq (.ae ⟨[.k 1],[(4,0)],[0,1],none⟩)
 .ret) .skip))
 (.seq (.seq (.ae ⟨[.v 0,.v 1,.p (.bin .lss (.t 1) (.t 0))],[],[],some (16,0)⟩)
 (.cond 16 (.seq (.ae ⟨[.p (.mv (.c (.int (-1))))],[(4,0)],[0,1],none⟩)
 .ret) .skip))
 (.seq (.seq (.ae ⟨[.v 0,.v 1,.p (.bin .gtr (.t 1) (.t 0))],[],[0,1],some (19,0)⟩)
 (.cond 19 (.seq (.ae ⟨[.k 1],[(4,0)],[],none⟩)
 .ret) .skip))
 (.seq (.ae ⟨[.k 0],[(4,0)],[],none⟩)
 .ret))))))))}
abbrev aj1:IC:=(.seq (.ae ⟨[.c 2 3],[],[],some (12,0)⟩)
 (.seq (.cond 12 .skip (.exit 0))
 (.seq (.block 1 (.seq (.ae ⟨[.v 2,.p (.bU (.v 4) (.v 2) 1),.d,.t 2,.t 1],[(5,1),(6,0)],[],none⟩)
 (.seq (.seq (.ae ⟨[.v 5,.v 1,.n,.p (.bin .geq (.t 2) (.t 0))],[],[],some (19,0)⟩)
 (.cond 19 (.seq (.ae ⟨[.k 1],[(9,0)],[0,1,2,3,4,5,6],none⟩)
 .ret) .skip))
 (.seq (.ae ⟨[.v 1,.v 5,.i,.d,.t 0],[(7,0)],[5],none⟩)
 (.seq (.ae ⟨[.v 6,.v 7,.p (.cu Ec [(.t 1),(.t 0)]),.t 0],[(8,0)],[6,7],none⟩)
 (.seq (.ae ⟨[.v 8,.p (.bin .neq (.t 0) (.c (.int (0))))],[],[],some (28,0)⟩)
 (.cond 28 (.seq (.ae ⟨[.v 8,.t 0],[(9,0)],[0,1,2,3,4,8],none⟩)
 .ret) .skip)))))))
 (.ae ⟨[.p (.bin .add (.v 2) (.c (.int (1)))),.t 0],[(2,0)],[8],none⟩))))
abbrev Dy:Fn:={np:=2,nv:=10,res:=[(9,none)],body:=
(.seq (.ae ⟨[.k 0],[],[9],none⟩)
 (.seq (.seq (.ae ⟨[.v 0,.n,.k 0],[(4,2),(3,1),(2,0)],[],none⟩)
 (.block 0 (.loop aj1)))
 (.seq (.seq (.ae ⟨[.v 0,.n,.v 1,.n,.p (.bin .lss (.t 2) (.t 0))],[],[0,1,2,3,4],some (35,0)⟩)
 (.cond 35 (.seq (.ae ⟨[.p (.mv (.c (.int (-1))))],[(9,0)],[],none⟩)
 .ret) .skip))
 (.seq (.ae ⟨[.k 0],[(9,0)],[],none⟩)
 .ret))))}
abbrev aj2:IC:=(.seq (.ae ⟨[.c 2 3],[],[],some (9,0)⟩)
 (.seq (.cond 9 .skip (.exit 0))
 (.seq (.block 1 (.seq (.ae ⟨[.v 2,.t 0],[(4,0)],[],none⟩)
 (.seq (.ae ⟨[.v 1,.v 0,.v 4,.p (.bU (.t 1) (.t 0) 3),.p (.ld (.t 0) (some 3)),.p (.lD (.t 4) [(.t 0)])],[],[],some (16,0)⟩)
 (.cond 16 (.seq (.ae ⟨[.v 4,.t 0],[(5,0)],[0,1,2,3,4],none⟩)
 .ret) .skip))))
 (.ae ⟨[.p (.bin .add (.v 2) (.c (.int (1)))),.t 0],[(2,0)],[4],none⟩))))
abbrev Dz:Fn:={np:=2,nv:=6,res:=[(5,none)],body:=
(.seq (.ae ⟨[.k 0],[],[5],none⟩)
 (.seq (.seq (.ae ⟨[.v 0,.n,.k 0],[(3,1),(2,0)],[],none⟩)
 (.block 0 (.loop aj2)))
 (.seq (.ae ⟨[.p (.mv (.c (.int (-1))))],[(5,0)],[0,1,2,3],none⟩)
 .ret)))}
abbrev aj3:IC:=(.seq (.ae ⟨[.c 5 6],[],[],some (32,0)⟩)
 (.seq (.cond 32 .skip (.exit 2))
 (.seq (.block 3 (.seq (.ae ⟨[.v 5,.t 0],[(9,0)],[],none⟩)
 (.ae ⟨[.v 7,.v 8,.f 2 0,.l,.p (.bin .mul (.t 2) (.t 0)),.v 9,.p (.bin .add (.t 1) (.t 0)),.p (.dI [(.t 0)] 1),.p (.dm (.t 7) (.t 0) none),.t 0],[(7,0)],[9],none⟩)))
 (.ae ⟨[.p (.bin .add (.v 5) (.c (.int (1)))),.t 0],[(5,0)],[],none⟩))))
abbrev aj4:IC:=(.seq (.ae ⟨[.c 12 13],[],[],some (50,0)⟩)
 (.seq (.cond 50 .skip (.exit 4))
 (.seq (.block 5 (.seq (.ae ⟨[.v 12,.t 0],[(14,0)],[],none⟩)
 (.ae ⟨[.v 11,.v 14,.f 2 2,.l,.p (.jT (.t 0) (.t 0) [.int 0] none),.p (.bU (.t 4) (.t 3) 1),.p (.st (.t 0) (.t 1) 1)],[],[14],none⟩)))
 (.ae ⟨[.p (.bin .add (.v 12) (.c (.int (1)))),.t 0],[(12,0)],[],none⟩))))
abbrev aj5:IC:=(.seq (.ae ⟨[.c 3 4],[],[],some (27,0)⟩)
 (.seq (.cond 27 .skip (.exit 0))
 (.seq (.block 1 (.seq (.ae ⟨[.v 3,.t 0],[(8,0)],[],none⟩)
 (.seq (.ae ⟨[.p (.nl none)],[(7,0)],[],none⟩)
 (.seq (.seq (.ae ⟨[.f 2 0,.l,.k 0],[(6,1),(5,0)],[],none⟩)
 (.block 2 (.loop aj3)))
 (.seq (.ae ⟨[.f 10 3,.d,.p (.jT (.t 0) (.t 0) [.ah] none),.t 0],[(11,0)],[5,6,8],none⟩)
 (.seq (.seq (.ae ⟨[.v 11,.n,.k 0],[(13,1),(12,0)],[],none⟩)
 (.block 4 (.loop aj4)))
 (.seq (.ae ⟨[.f 10 6,.d,.f 2 0,.l,.p (.jT (.t 0) (.t 0) [.int 0] none),.p (.dI [(.t 0)] 1),.p (.app (.t 4) (.t 0) none),.f 10 7,⟨.ld (.t 0) none,none,true⟩,.v 7,.p (.dI [(.t 0)] 1),.p (.app (.t 2) (.t 0) none),.f 10 6,.p (.st (.t 0) (.t 6) 1),.f 10 7,.p (.st (.t 0) (.t 3) 1)],[],[7,12,13],none⟩)
 (.ae ⟨[.f 10 8,.d,.f 2 1,.l,.p (.jT (.t 0) (.t 0) [.int 0] none),.p (.dI [(.t 0)] 1),.p (.app (.t 4) (.t 0) none),.f 10 9,⟨.ld (.t 0) none,none,true⟩,.v 11,.p (.dI [(.t 0)] 1),.p (.app (.t 2) (.t 0) none),.f 10 8,.p (.st (.t 0) (.t 6) 1),.f 10 9,.p (.st (.t 0) (.t 3) 1)],[],[11],none⟩))))))))
 (.ae ⟨[.p (.bin .add (.v 3) (.c (.int (1)))),.t 0],[(3,0)],[],none⟩))))
abbrev DA:Fn:={np:=2,nv:=16,res:=[(15,some (some 10))],body:=
(.seq (.ae ⟨[.p (.iD (.v 0)),.p (.ox fb (some 10))],[(2,1),(15,0)],[0],none⟩)
 (.seq (.ae ⟨[.f 2 0,.l,.f 2 1,.l,.f 2 2,.l,.v 1,.f 2 0,.l,.p (.bin .mul (.t 2) (.t 0)),.p (.mx true (.c (.int (1))) (.t 0)),.v 1,.p (.jT (.t 0) (.t 0) [.bool false] none),.p (.jI fb [(0,1,(.t 11)),(1,1,(.t 9)),(2,1,(.t 7)),(3,1,(.t 2)),(5,1,(.t 0))]),.p (.ox fb (some 10)),.p (.st (.t 0) (.t 1) 10)],[(10,1)],[],none⟩)
 (.seq (.seq (.ae ⟨[.v 1,.k 0],[(4,1),(3,0)],[1],none⟩)
 (.block 0 (.loop aj5)))
 (.seq (.ae ⟨[.p (.ld (.v 10) (some 10)),.p (.st (.v 15) (.t 0) 10)],[],[2,3,4,10],none⟩)
 .ret))))}
abbrev aj6:IC:=(.seq (.seq (.ae ⟨[.v 2,.v 0,.n,.p (.bin .lss (.t 2) (.t 0))],[],[],some (14,0)⟩)
 (.cond 14 .skip (.exit 0)))
 (.seq (.block 1 (.seq (.ae ⟨[.v 0,.v 2,.i,.d,.v 1,.v 2,.i,.d,.p (.bin .neq (.t 4) (.t 0))],[],[],some (25,0)⟩)
 (.cond 25 (.seq (.ae ⟨[.b],[(3,0)],[0,1,2],none⟩)
 .ret) .skip)))
 (.ae ⟨[.v 2,.p (.bin .add (.t 0) (.c (.int (1)))),.t 0],[(2,0)],[],none⟩)))
abbrev DB:Fn:={np:=2,nv:=4,res:=[(3,none)],body:=
(.seq (.ae ⟨[.b],[],[3],none⟩)
 (.seq (.seq (.ae ⟨[.v 0,.n,.v 1,.n,.p (.bin .neq (.t 2) (.t 0))],[],[],some (10,0)⟩)
 (.cond 10 (.seq (.ae ⟨[.b],[(3,0)],[0,1],none⟩)
 .ret) .skip))
 (.seq (.seq (.ae ⟨[.k 0],[(2,0)],[],none⟩)
 (.block 0 (.loop aj6)))
 (.seq (.ae ⟨[.p (.mv (.c (.bool true)))],[(3,0)],[0,1,2],none⟩)
 .ret))))}
abbrev aj7:IC:=(.block 1 (.seq (.ae ⟨[.v 0,.p (.fF IM [(.t 0)]),.t 0,.p (.ext (.t 0) 0),.p (.ext (.t 1) 1),.p (.ext (.t 2) 2),.t 2,.t 2,.t 2],[(4,2),(2,1),(1,0)],[],none⟩)
 (.seq (.seq (.ae ⟨[.v 1,.p (.bin .neq (.t 0) (.c (.int (0)))),.t 0,.y 0 (.mv (.v 2)),.y 1 (.not (.t 0)),.p (.pick (.t 2) (.c (.bool true)) (.t 0))],[],[2],some (18,0)⟩)
 (.cond 18 (.seq (.ae ⟨[.v 1,.t 0],[(5,0)],[0,1,4],none⟩)
 .ret) .skip))
 (.seq (.seq (.ae ⟨[.v 0,.q,.h 0 10,.d,.n,.p (.bin .add (.t 0) (.c (.int (1)))),.t 0],[(3,0)],[1],none⟩)
 (.seq (.ae ⟨[.v 3,.p (.bin .gtr (.t 0) (.c (.int (128)))),.t 0,.y 0 (.mv (.v 3)),.y 1 (.mv (.v 0)),.y 2 (.oO (.t 0)),.y 3 (.b5 (.t 0) 0 (some 10)),.y 4 (.b5 (.t 0) 0 none),.y 5 (.ld (.t 0) none),.y 6 (.bin .mul (.t 5) (.t 0)),.y 7 (.bin .gtr (.t 0) (.c (.int (128)))),.p (.pick (.t 8) (.c (.bool true)) (.t 0))],[],[3],some (37,0)⟩)
 (.cond 37 (.seq (.ae ⟨[.k 11],[(5,0)],[0,4],none⟩)
 .ret) .skip)))
 (.ae ⟨[.v 0,.v 0,.q,.h 0 10,.d,.v 4,.p (.bX [(.t 0)] 1),.p (.bX [(.t 2),(.t 0)] 1),.p (.cu Eh [(.t 0)]),.p (.oO (.t 8)),.h 0 10,.p (.st (.t 0) (.t 2) 1)],[],[4],none⟩)))))
abbrev DC:Fn:={np:=1,nv:=6,res:=[(5,none)],body:=
(.seq (.ae ⟨[.k 0],[],[5],none⟩)
 (.block 0 (.loop aj7)))}
abbrev aj8:IC:=(.seq (.ae ⟨[.c 11 12],[],[],some (68,0)⟩)
 (.seq (.cond 68 .skip (.exit 2))
 (.seq (.block 3 (.seq (.ae ⟨[.v 11,.t 0],[(13,0)],[],none⟩)
 (.seq (.seq (.ae ⟨[.v 0,.v 0,.v 6,.v 13,.p (.fF Cp [(.t 2),(.t 1),(.t 0)]),.p (.fF th [(.t 4),(.t 0)]),.t 0,.p (.ext (.t 0) 0),.p (.ext (.t 1) 1),.t 1,.t 1],[(10,1),(7,0)],[],none⟩)
 (.seq (.ae ⟨[.v 7,.p (.bin .neq (.t 0) (.c (.int (0))))],[],[],some (80,0)⟩)
 (.cond 80 (.seq (.ae ⟨[.p (.jI fb []),.v 7,.p (.st (.v 2) (.t 1) 10),.t 1],[(26,0)],[0,3,4,5,6,7,8,9,10,11,12,13,14],none⟩)
 .ret) .skip)))
 (.ae ⟨[.f 8 8,.d,.v 9,.i,.d,.v 13,.v 14,.v 10,.p (.vj (.t 1) 1 (.t 0) (.int 0) false),.p (.bU (.t 4) (.t 3) 1),.p (.st (.t 0) (.t 1) 1)],[],[7,10,13],none⟩))))
 (.ae ⟨[.p (.bin .add (.v 11) (.c (.int (1)))),.t 0],[(11,0)],[],none⟩))))
abbrev aj9:IC:=(.seq (.ae ⟨[.c 20 21],[],[],some (118,0)⟩)
 (.seq (.cond 118 .skip (.exit 8))
 (.seq (.block 9 (.seq (.ae ⟨[.v 20,.t 0],[(24,0)],[],none⟩)
 (.seq (.seq (.ae ⟨[.v 0,.v 0,.v 22,.v 23,.v 6,.v 24,.p (.fF Cq [(.t 4),(.t 3),(.t 2),(.t 1),(.t 0)]),.p (.fF th [(.t 6),(.t 0)]),.t 0,.p (.ext (.t 0) 0),.p (.ext (.t 1) 1),.t 1,.t 1],[(10,1),(7,0)],[],none⟩)
 (.seq (.ae ⟨[.v 7,.p (.bin .neq (.t 0) (.c (.int (0))))],[],[],some (132,0)⟩)
 (.cond 132 (.seq (.ae ⟨[.p (.jI fb []),.v 7,.p (.st (.v 2) (.t 1) 10),.t 1],[(26,0)],[0,3,4,5,6,7,8,9,10,14,15,16,17,18,19,20,21,22,23,24,25],none⟩)
 .ret) .skip)))
 (.ae ⟨[.f 8 9,.d,.v 9,.i,.d,.v 25,.v 0,.q,.p (.b5 (.t 0) 0 (some 10)),.h 0 0,.d,.p (.bin .mul (.t 5) (.t 0)),.v 23,.p (.bin .add (.t 1) (.t 0)),.p (.bU (.t 9) (.t 0) 1),.d,.v 24,.v 14,.v 10,.p (.vj (.t 1) 1 (.t 0) (.int 0) false),.p (.bU (.t 4) (.t 3) 1),.p (.st (.t 0) (.t 1) 1)],[],[7,10,24],none⟩))))
 (.ae ⟨[.p (.bin .add (.v 20) (.c (.int (1)))),.t 0],[(20,0)],[],none⟩))))
abbrev aka:IC:=(.seq (.ae ⟨[.c 18 19],[],[],some (110,0)⟩)
 (.seq (.cond 110 .skip (.exit 6))
 (.seq (.block 7 (.seq (.ae ⟨[.v 18,.t 0],[(23,0)],[],none⟩)
 (.seq (.ae ⟨[.v 0,.q,.p (.b5 (.t 0) 0 (some 10)),.h 0 2,.d,.k 0],[(21,1),(20,0)],[],none⟩)
 (.block 8 (.loop aj9)))))
 (.ae ⟨[.p (.bin .add (.v 18) (.c (.int (1)))),.t 0],[(18,0)],[20,21,23],none⟩))))
abbrev akb:IC:=(.seq (.ae ⟨[.c 15 16],[],[],some (100,0)⟩)
 (.seq (.cond 100 .skip (.exit 4))
 (.seq (.block 5 (.seq (.ae ⟨[.v 15,.p (.bU (.v 17) (.v 15) 1),.d,.t 2,.t 1],[(25,1),(22,0)],[],none⟩)
 (.seq (.ae ⟨[.v 0,.q,.p (.b5 (.t 0) 0 (some 10)),.h 0 0,.d,.k 0],[(19,1),(18,0)],[],none⟩)
 (.block 6 (.loop aka)))))
 (.ae ⟨[.p (.bin .add (.v 15) (.c (.int (1)))),.t 0],[(15,0)],[18,19,22,25],none⟩))))
abbrev akc:IC:=(.seq (.ae ⟨[.c 3 4],[],[],some (41,0)⟩)
 (.seq (.cond 41 .skip (.exit 0))
 (.seq (.block 1 (.seq (.ae ⟨[.v 3,.p (.bU (.v 5) (.v 3) 1),.d,.t 2,.t 1],[(9,1),(6,0)],[],none⟩)
 (.seq (.ae ⟨[.v 0,.v 6,.p (.fF th [(.t 1),(.t 0)]),.t 0,.p (.ext (.t 0) 0),.p (.ext (.t 1) 1),.t 1,.t 1],[(10,1),(7,0)],[],none⟩)
 (.seq (.seq (.ae ⟨[.v 7,.p (.bin .neq (.t 0) (.c (.int (0))))],[],[],some (52,0)⟩)
 (.cond 52 (.seq (.ae ⟨[.p (.jI fb []),.v 7,.p (.st (.v 2) (.t 1) 10),.t 1],[(26,0)],[0,3,4,5,6,7,8,9,10,14],none⟩)
 .ret) .skip))
 (.seq (.ae ⟨[.f 8 5,.d,.v 9,.v 10,.p (.KS (.t 0) (.c (.int (0)))),.p (.KT false (.t 0) (.c (.ik 4 (43)))),.p (.bU (.t 4) (.t 3) 1),.p (.st (.t 0) (.t 1) 1)],[],[7,10],none⟩)
 (.seq (.seq (.ae ⟨[.v 0,.q,.p (.b5 (.t 0) 0 (some 10)),.h 0 1,.d,.k 0],[(12,1),(11,0)],[],none⟩)
 (.block 2 (.loop aj8)))
 (.seq (.ae ⟨[.v 0,.q,.h 0 10,.d,.n,.k 0],[(17,2),(16,1),(15,0)],[11,12],none⟩)
 (.block 4 (.loop akb)))))))))
 (.ae ⟨[.p (.bin .add (.v 3) (.c (.int (1)))),.t 0],[(3,0)],[6,9,15,16,17],none⟩))))
abbrev DD:Fn:={np:=1,nv:=27,res:=[(2,some (some 10)),(26,none)],body:=
(.seq (.ae ⟨[.p (.ox fb (some 10)),.k 0],[(2,1)],[26],none⟩)
 (.seq (.ae ⟨[.v 0,.p (.fF Ei [(.t 0)]),.t 0,.p (.ext (.t 0) 0),.p (.ext (.t 1) 1),.t 1,.t 1],[(14,1),(1,0)],[],none⟩)
 (.seq (.seq (.ae ⟨[.v 1,.p (.bin .neq (.t 0) (.c (.int (0))))],[],[],some (22,0)⟩)
 (.cond 22 (.seq (.ae ⟨[.p (.jI fb []),.v 1,.p (.st (.v 2) (.t 1) 10),.t 1],[(26,0)],[0,1,14],none⟩)
 .ret) .skip))
 (.seq (.ae ⟨[.v 0,.q,.p (.b5 (.t 0) 0 (some 10)),.p (.ld (.t 0) (some 10)),.v 0,.q,.h 0 10,.d,.n,.p (.can wN [(.t 5),(.t 0)]),.p (.ox fb (some 10)),.p (.st (.t 0) (.t 1) 10)],[(8,1)],[1],none⟩)
 (.seq (.seq (.ae ⟨[.v 0,.q,.h 0 10,.d,.n,.k 0],[(5,2),(4,1),(3,0)],[],none⟩)
 (.block 0 (.loop akc)))
 (.seq (.ae ⟨[.p (.ld (.v 8) (some 10)),.p (.st (.v 2) (.t 0) 10),.k 0],[(26,0)],[0,3,4,5,8,14],none⟩)
 .ret))))))}
abbrev DE:Fn:={np:=1,nv:=3,res:=[(2,none)],body:=
(.seq (.ae ⟨[.p (.iD (.v 0)),.k 0],[(1,1)],[0,2],none⟩)
 (.seq (.ae ⟨[.p (.b5 (.v 1) 0 (some 10)),.p (.cg (.t 0) (some 10)),.p (.cu jK [(.t 0)]),.p (.b5 (.v 1) 10 (some 10)),.p (.cg (.t 0) (some 10)),.p (.cu jK [(.t 0)]),.p (.bin .mul (.t 3) (.t 0)),.t 0],[(2,0)],[1],none⟩)
 .ret))}
abbrev DF:Fn:={np:=2,nv:=5,res:=[(3,none),(4,none)],body:=
(.seq (.ae ⟨[.p (.iD (.v 0)),.k 0,.k 0],[(2,2)],[0,3,4],none⟩)
 (.seq (.ae ⟨[.v 1,.p (.b5 (.v 2) 10 (some 10)),.p (.cg (.t 0) (some 10)),.p (.cu jK [(.t 0)]),.p (.bin .quo (.t 3) (.t 0)),.v 1,.p (.b5 (.v 2) 10 (some 10)),.p (.cg (.t 0) (some 10)),.p (.cu jK [(.t 0)]),.p (.bin .rem (.t 3) (.t 0)),.t 5,.t 1],[(3,1),(4,0)],[1,2],none⟩)
 .ret))}
abbrev akd:IC:=(.seq (.ae ⟨[.c 5 6],[],[],some (29,0)⟩)
 (.seq (.cond 29 .skip (.exit 0))
 (.seq (.block 1 (.seq (.ae ⟨[.v 5,.p (.bU (.v 7) (.v 5) 1),.d,.t 2,.t 1],[(10,1),(9,0)],[],none⟩)
 (.ae ⟨[.v 8,.t 0,.y 0 (.mv (.v 9)),.y 1 (.mv (.t 0)),.x 0 (.mv (.v 3)),.x 1 (.mv (.v 10)),.x 2 (.bU (.t 1) (.t 0) 1),.x 3 (.ld (.t 0) none),.y 6 (.pick (.t 4) (.t 0) (.c (.bool false))),.p (.pick (.t 7) (.c (.bool true)) (.t 0)),.t 0],[(8,0)],[9,10],none⟩)))
 (.ae ⟨[.p (.bin .add (.v 5) (.c (.int (1)))),.t 0],[(5,0)],[],none⟩))))
abbrev ake:IC:=(.seq (.ae ⟨[.c 14 15],[],[],some (57,0)⟩)
 (.seq (.cond 57 .skip (.exit 4))
 (.seq (.block 5 (.seq (.ae ⟨[.p (.bU (.v 16) (.v 14) 2),.p (.ld (.t 0) (some 2)),.p (.gn 2),.p (.ku (.t 0) (.t 1) 2)],[(17,0)],[],none⟩)
 (.seq (.ae ⟨[.v 12,.q,.h 0 12,.d,.q,.h 0 0,.d,.p (.fS (.v 17) (.c (.int (0))) 2 none),.l,.p (.bU (.t 2) (.t 0) 1),.d,.p (.fS (.v 17) (.c (.int (1))) 2 none),.l,.p (.bU (.t 2) (.t 0) 1),.d,.t 0],[(19,0)],[],none⟩)
 (.seq (.ae ⟨[.p (.fS (.v 17) (.c (.int (0))) 2 none),.l,.v 2,.p (.bin .eql (.t 1) (.t 0)),.t 0,.x 0 (.mv (.v 3)),.x 1 (.fS (.v 17) (.c (.int (1))) 2 none),.x 2 (.cg (.t 0) none),.x 3 (.bU (.t 2) (.t 0) 1),.x 4 (.ld (.t 0) none),.p (.pick (.t 5) (.t 0) (.c (.bool false))),.t 0,.x 0 (.mv (.v 18)),.x 1 (.not (.t 0)),.x 2 (.mv (.t 0)),.y 0 (.mv (.v 19)),.y 1 (.mv (.v 20)),.y 2 (.cu o9 [(.t 1),(.t 0)]),.y 3 (.bin .lss (.t 0) (.c (.int (0)))),.x 7 (.pick (.t 4) (.c (.bool true)) (.t 0)),.p (.pick (.t 8) (.t 0) (.c (.bool false)))],[],[17],some (95,0)⟩)
 (.cond 95 (.ae ⟨[.v 19,.t 0,.p (.mv (.c (.bool true)))],[(20,1),(18,0)],[19],none⟩) .skip)))))
 (.ae ⟨[.p (.bin .add (.v 14) (.c (.int (1)))),.t 0],[(14,0)],[19],none⟩))))
abbrev akf:IC:=(.seq (.ae ⟨[.p (.bin .lss (.v 11) (.c (.int (1025))))],[],[],some (50,0)⟩)
 (.seq (.cond 50 .skip (.exit 2))
 (.seq (.block 3 (.seq (.ae ⟨[.v 11,.t 0],[(13,0)],[],none⟩)
 (.seq (.ae ⟨[.p (.mv (.c (.ah)))],[(20,0)],[],none⟩)
 (.seq (.ae ⟨[.b],[(18,0)],[],none⟩)
 (.seq (.seq (.ae ⟨[.v 12,.v 13,.p (.fF Qj [(.t 1),(.t 0)]),.n,.k 0],[(16,2),(15,1),(14,0)],[13],none⟩)
 (.block 4 (.loop ake)))
 (.seq (.ae ⟨[.v 18],[],[14,15,16,18],some (98,0)⟩)
 (.cond 98 (.seq (.ae ⟨[.v 20,.p (.cu uI [(.t 0)]),.t 0,.p (.mv (.c (.bool true))),.k 0],[(21,2),(22,1),(23,0)],[2,3,11,12,20],none⟩)
 .ret) .skip)))))))
 (.ae ⟨[.p (.bin .add (.v 11) (.c (.int (1)))),.t 0],[(11,0)],[20],none⟩))))
abbrev DG:Fn:={np:=4,nv:=24,res:=[(21,none),(22,none),(23,none)],body:=
(.seq (.ae ⟨[.p (.iD (.v 1)),.p (.mv (.c (.ah))),.b,.k 0],[(4,3)],[1,21,22,23],none⟩)
 (.seq (.ae ⟨[.b],[(8,0)],[],none⟩)
 (.seq (.seq (.ae ⟨[.v 0,.p (.cg (.v 4) (some 10)),.p (.cu Qh [(.t 1),(.t 0)]),.v 2,.i,.d,.n,.k 0],[(7,2),(6,1),(5,0)],[],none⟩)
 (.block 0 (.loop akd)))
 (.seq (.seq (.ae ⟨[.v 8,.p (.not (.t 0))],[],[5,6,7,8],some (45,0)⟩)
 (.cond 45 (.seq (.ae ⟨[.p (.mv (.c (.ah))),.b,.k 0],[(21,2),(22,1),(23,0)],[0,2,3,4],none⟩)
 .ret) .skip))
 (.seq (.ae ⟨[.v 0,.p (.cg (.v 4) (some 10)),.p (.can Qi [(.t 1),(.t 0)]),.t 0],[(12,0)],[0,4],none⟩)
 (.seq (.seq (.ae ⟨[.k 0],[(11,0)],[],none⟩)
 (.block 2 (.loop akf)))
 (.seq (.ae ⟨[.p (.mv (.c (.ah))),.b,.k 3],[(21,2),(22,1),(23,0)],[2,3,11,12],none⟩)
 .ret)))))))}
abbrev DH:Fn:={np:=1,nv:=3,res:=[(2,none)],body:=
(.seq (.ae ⟨[.p (.iD (.v 0)),.k 0],[(1,1)],[0,2],none⟩)
 (.seq (.ae ⟨[.p (.b5 (.v 1) 0 (some 10)),.h 0 5,.l,.n,.t 0],[(2,0)],[1],none⟩)
 .ret))}
abbrev DI:Fn:={np:=1,nv:=2,res:=[(1,none)],body:=
(.seq (.ae ⟨[.p (.mv (.c (.ah)))],[],[1],none⟩)
 (.seq (.ae ⟨[.v 0,.p (.cu wO [(.t 0)]),.t 0],[(1,0)],[0],none⟩)
 .ret))}
abbrev akg:IC:=(.seq (.ae ⟨[.c 1 2],[],[],some (12,0)⟩)
 (.seq (.cond 12 .skip (.exit 0))
 (.seq (.block 1 (.seq (.ae ⟨[.p (.bU (.v 3) (.v 1) 1),.d,.t 0],[(5,0)],[],none⟩)
 (.ae ⟨[.v 4,.v 5,.p (.KR (.t 0)),.p (.dI [(.t 0)] 1),.p (.dm (.t 3) (.t 0) none),.t 0],[(4,0)],[5],none⟩)))
 (.ae ⟨[.p (.bin .add (.v 1) (.c (.int (1)))),.t 0],[(1,0)],[],none⟩))))
abbrev DJ:Fn:={np:=1,nv:=7,res:=[(6,none)],body:=
(.seq (.ae ⟨[.p (.mv (.c (.str [])))],[],[6],none⟩)
 (.seq (.ae ⟨[.v 0,.n,.p (.jT (.c (.int (0))) (.t 0) [.ik 4 0] none),.t 0],[(4,0)],[],none⟩)
 (.seq (.seq (.ae ⟨[.v 0,.n,.k 0],[(3,2),(2,1),(1,0)],[0],none⟩)
 (.block 0 (.loop akg)))
 (.seq (.ae ⟨[.v 4,.p (.Bp (.t 0)),.t 0],[(6,0)],[1,2,3,4],none⟩)
 .ret))))}
abbrev DK:Fn:={np:=1,nv:=2,res:=[(1,none)],body:=
(.seq (.ae ⟨[.b],[],[1],none⟩)
 (.seq (.ae ⟨[.v 0,.p (.bin .geq (.t 0) (.c (.int (1)))),.t 0,.x 0 (.mv (.v 0)),.x 1 (.bin .leq (.t 0) (.c (.int (1024)))),.p (.pick (.t 2) (.t 0) (.c (.bool false))),.t 0],[(1,0)],[0],none⟩)
 .ret))}
abbrev DL:Fn:={np:=2,nv:=3,res:=[(2,none)],body:=
(.seq (.ae ⟨[.b],[],[2],none⟩)
 (.seq (.ae ⟨[.v 0,.v 1,.p (.cu IP [(.t 1),(.t 0)]),.p (.bin .geq (.t 0) (.c (.int (0)))),.t 0],[(2,0)],[0,1],none⟩)
 .ret))}
abbrev DM:Fn:={np:=2,nv:=3,res:=[(2,none)],body:=
(.seq (.ae ⟨[.b],[],[2],none⟩)
 (.seq (.ae ⟨[.v 0,.p (.bin .lss (.t 0) (.c (.int (0)))),.t 0,.y 0 (.mv (.v 0)),.y 1 (.ld (.v 1) none),.y 2 (.bin .geq (.t 1) (.t 0)),.p (.pick (.t 3) (.c (.bool true)) (.t 0)),.t 0],[(2,0)],[0,1],none⟩)
 .ret))}
abbrev DN:Fn:={np:=2,nv:=3,res:=[(2,none)],body:=
(.seq (.ae ⟨[.b],[],[2],none⟩)
 (.seq (.ae ⟨[.v 0,.p (.bin .lss (.t 0) (.c (.int (0)))),.t 0,.y 0 (.mv (.v 0)),.y 1 (.ld (.v 1) none),.y 2 (.bin .geq (.t 1) (.t 0)),.p (.pick (.t 3) (.c (.bool true)) (.t 0)),.t 0],[(2,0)],[0,1],none⟩)
 .ret))}
abbrev akh:IC:=(.seq (.seq (.ae ⟨[.v 2,.v 3,.n,.p (.bin .lss (.t 2) (.t 0))],[],[],some (32,0)⟩)
 (.cond 32 .skip (.exit 2)))
 (.seq (.block 3 (.seq (.ae ⟨[.v 3,.v 2,.i,.d,.v 3,.v 2,.p (.bin .sub (.t 0) (.c (.int (1)))),.p (.bU (.t 2) (.t 0) 1),.d,.p (.bin .neq (.t 5) (.t 0))],[],[],some (44,0)⟩)
 (.cond 44 (.seq (.ae ⟨[.v 0,.v 1,.v 3,.v 2,.i,.d,.p (.bU (.t 5) (.t 4) 1),.p (.st (.t 0) (.t 1) 1)],[],[],none⟩)
 (.ae ⟨[.v 1,.p (.bin .add (.t 0) (.c (.int (1)))),.t 0],[(1,0)],[],none⟩)) .skip)))
 (.ae ⟨[.v 2,.p (.bin .add (.t 0) (.c (.int (1)))),.t 0],[(2,0)],[],none⟩)))
abbrev aki:IC:=(.seq (.seq (.ae ⟨[.v 1,.v 0,.n,.p (.bin .lss (.t 2) (.t 0))],[],[],some (13,0)⟩)
 (.cond 13 .skip (.exit 0)))
 (.seq (.block 1 (.seq (.ae ⟨[.v 0,.v 1,.i,.d,.v 0,.v 1,.p (.bin .sub (.t 0) (.c (.int (1)))),.p (.bU (.t 2) (.t 0) 1),.d,.p (.bin .eql (.t 5) (.t 0))],[],[],some (25,0)⟩)
 (.cond 25 (.seq (.ae ⟨[.v 0,.v 1,.p (.pK (.t 1) (some (.t 0)) none 1),.t 0],[(3,0)],[],none⟩)
 (.seq (.seq (.ae ⟨[.k 1],[(2,0)],[],none⟩)
 (.block 2 (.loop akh)))
 (.seq (.ae ⟨[.v 0,.v 1,.p (.pK (.t 1) (some (.t 0)) none 1),.p (.vi (.t 0) [.int 0] none)],[],[2,3],none⟩)
 (.seq (.ae ⟨[.v 0,.v 1,.p (.pK (.t 1) none (some (.t 0)) 1),.t 0],[(4,0)],[0,1],none⟩)
 .ret)))) .skip)))
 (.ae ⟨[.v 1,.p (.bin .add (.t 0) (.c (.int (1)))),.t 0],[(1,0)],[],none⟩)))
abbrev DO:Fn:={np:=1,nv:=5,res:=[(4,none)],body:=
(.seq (.ae ⟨[.p (.mv (.c (.ah)))],[],[4],none⟩)
 (.seq (.seq (.ae ⟨[.v 0,.n,.p (.bin .lss (.t 0) (.c (.int (2))))],[],[],some (8,0)⟩)
 (.cond 8 (.seq (.ae ⟨[.v 0,.t 0],[(4,0)],[0],none⟩)
 .ret) .skip))
 (.seq (.seq (.ae ⟨[.k 1],[(1,0)],[],none⟩)
 (.block 0 (.loop aki)))
 (.seq (.ae ⟨[.v 0,.t 0],[(4,0)],[0,1],none⟩)
 .ret))))}
abbrev akj:IC:=(.seq (.ae ⟨[.c 5 6],[],[],some (24,0)⟩)
 (.seq (.cond 24 .skip (.exit 0))
 (.seq (.block 1 (.seq (.ae ⟨[.p (.bU (.v 7) (.v 5) 1),.d,.t 0],[(8,0)],[],none⟩)
 (.seq (.ae ⟨[.v 0,.q,.h 0 12,.d,.v 3,.i,.d,.v 0,.q,.h 0 11,.d,.v 0,.q,.p (.b5 (.t 0) 0 (some 10)),.h 0 6,.d,.v 8,.i,.d,.v 2,.i,.d,.p (.bU (.t 11) (.t 0) 1),.d,.p (.bU (.t 17) (.t 0) 1),.d,.t 0],[(10,0)],[],none⟩)
 (.ae ⟨[.v 9,.v 0,.q,.p (.b5 (.t 0) 0 (some 10)),.h 0 9,.d,.v 10,.i,.d,.v 0,.q,.p (.b5 (.t 0) 0 (some 10)),.h 0 7,.d,.v 8,.i,.d,.v 2,.i,.d,.p (.bU (.t 11) (.t 0) 1),.d,.v 4,.i,.d,.p (.dI [(.t 0)] 1),.p (.app (.t 25) (.t 0) none),.t 0],[(9,0)],[8,10],none⟩))))
 (.ae ⟨[.p (.bin .add (.v 5) (.c (.int (1)))),.t 0],[(5,0)],[],none⟩))))
abbrev DP:Fn:={np:=5,nv:=12,res:=[(11,none)],body:=
(.seq (.ae ⟨[.p (.mv (.c (.ah)))],[],[11],none⟩)
 (.seq (.ae ⟨[.p (.nl none)],[(9,0)],[],none⟩)
 (.seq (.seq (.ae ⟨[.v 0,.q,.h 0 12,.d,.v 1,.i,.d,.n,.k 0],[(7,2),(6,1),(5,0)],[1],none⟩)
 (.block 0 (.loop akj)))
 (.seq (.ae ⟨[.v 9,.t 0],[(11,0)],[0,2,3,4,5,6,7,9],none⟩)
 .ret))))}
abbrev akk:IC:=(.seq (.ae ⟨[.c 8 9],[],[],some (47,0)⟩)
 (.seq (.cond 47 .skip (.exit 2))
 (.seq (.block 3 (.seq (.ae ⟨[.v 8,.t 0],[(11,0)],[],none⟩)
 (.seq (.ae ⟨[.v 5,.v 0,.q,.h 0 15,.d,.v 2,.i,.d,.v 10,.i,.d,.v 11,.i,.d,.p (.kT (.t 13) [(.t 0)])],[],[],none⟩)
 (.ae ⟨[.v 5,.v 0,.q,.h 0 15,.d,.v 11,.i,.d,.v 10,.i,.d,.v 2,.i,.d,.p (.kT (.t 13) [(.t 0)])],[],[11],none⟩))))
 (.ae ⟨[.p (.bin .add (.v 8) (.c (.int (1)))),.t 0],[(8,0)],[],none⟩))))
abbrev akl:IC:=(.seq (.ae ⟨[.c 6 7],[],[],some (39,0)⟩)
 (.seq (.cond 39 .skip (.exit 0))
 (.seq (.block 1 (.seq (.ae ⟨[.v 6,.t 0],[(10,0)],[],none⟩)
 (.seq (.ae ⟨[.v 0,.q,.h 0 12,.d,.n,.k 0],[(9,1),(8,0)],[],none⟩)
 (.block 2 (.loop akk)))))
 (.ae ⟨[.p (.bin .add (.v 6) (.c (.int (1)))),.t 0],[(6,0)],[8,9,10],none⟩))))
abbrev DQ:Fn:={np:=3,nv:=13,res:=[(12,none)],body:=
(.seq (.ae ⟨[.p (.iD (.v 1)),.p (.mv (.c (.ah)))],[(3,1)],[1,12],none⟩)
 (.seq (.ae ⟨[.p (.cg (.v 3) none),.v 2,.i,.l,.p (.BD (.t 0)),.p (.cg (.v 3) none),.v 2,.i,.l,.p (.Hn (.t 0) (.c (.ik 7 (8)))),.p (.BD (.t 0)),.p (.mw [(.t 6),(.t 0)] none),.p (.ox [.ah] none),.p (.st (.t 0) (.t 1) 1)],[(4,1)],[],none⟩)
 (.seq (.ae ⟨[.p (.BH Ej [(.v 4),(.v 3)]),.t 0],[(5,0)],[3],none⟩)
 (.seq (.ae ⟨[.v 5,.v 0,.q,.h 0 14,.d,.v 2,.i,.d,.p (.kT (.t 7) [(.t 0)])],[],[],none⟩)
 (.seq (.seq (.ae ⟨[.v 0,.q,.p (.b5 (.t 0) 0 (some 10)),.h 0 0,.d,.k 0],[(7,1),(6,0)],[],none⟩)
 (.block 0 (.loop akl)))
 (.seq (.ae ⟨[.p (.ld (.v 4) none),.t 0],[(12,0)],[0,2,4,5,6,7],none⟩)
 .ret))))))}
abbrev akm:IC:=(.seq (.ae ⟨[.c 1 2],[],[],some (12,0)⟩)
 (.seq (.cond 12 .skip (.exit 0))
 (.seq (.block 1 (.seq (.ae ⟨[.p (.bU (.v 3) (.v 1) 1),.d,.t 0],[(5,0)],[],none⟩)
 (.seq (.ae ⟨[.v 4,.v 5,.n,.p (.bin .add (.t 2) (.t 0)),.t 0],[(4,0)],[5],none⟩)
 (.seq (.ae ⟨[.v 4,.p (.bin .lss (.t 0) (.c (.int (0))))],[],[],some (20,0)⟩)
 (.cond 20 .bad .skip)))))
 (.ae ⟨[.p (.bin .add (.v 1) (.c (.int (1)))),.t 0],[(1,0)],[],none⟩))))
abbrev akn:IC:=(.seq (.ae ⟨[.c 6 7],[],[],some (28,0)⟩)
 (.seq (.cond 28 .skip (.exit 2))
 (.seq (.block 3 (.seq (.ae ⟨[.p (.bU (.v 8) (.v 6) 1),.d,.t 0],[(10,0)],[],none⟩)
 (.ae ⟨[.v 9,.v 10,.p (.dm (.t 1) (.t 0) none),.t 0],[(9,0)],[10],none⟩)))
 (.ae ⟨[.p (.bin .add (.v 6) (.c (.int (1)))),.t 0],[(6,0)],[],none⟩))))
abbrev DR:Fn:={np:=1,nv:=12,res:=[(11,none)],body:=
(.seq (.ae ⟨[.p (.mv (.c (.ah)))],[],[11],none⟩)
 (.seq (.ae ⟨[.k 0],[(4,0)],[],none⟩)
 (.seq (.seq (.ae ⟨[.v 0,.n,.k 0],[(3,2),(2,1),(1,0)],[],none⟩)
 (.block 0 (.loop akm)))
 (.seq (.ae ⟨[.v 4,.p (.can zu [(.c (.ah)),(.t 0)]),.t 0],[(9,0)],[1,2,3,4],none⟩)
 (.seq (.seq (.ae ⟨[.v 0,.n,.k 0],[(8,2),(7,1),(6,0)],[0],none⟩)
 (.block 2 (.loop akn)))
 (.seq (.ae ⟨[.v 9,.t 0],[(11,0)],[6,7,8,9],none⟩)
 .ret))))))}
abbrev ako:IC:=(.seq (.ae ⟨[.c 5 6],[],[],some (30,0)⟩)
 (.seq (.cond 30 .skip (.exit 0))
 (.seq (.block 1 (.seq (.ae ⟨[.v 5,.p (.bU (.v 7) (.v 5) 1),.d,.t 2,.t 1],[(9,1),(8,0)],[],none⟩)
 (.ae ⟨[.v 0,.v 8,.v 0,.q,.h 0 1,.d,.v 1,.i,.d,.v 2,.p (.bX [(.t 0)] 1),.v 0,.q,.h 0 1,.d,.v 3,.i,.d,.v 4,.q,.p (.b5 (.t 0) 0 (some 10)),.h 0 0,.d,.v 4,.q,.p (.b5 (.t 0) 0 (some 10)),.h 0 1,.d,.p (.bin .add (.t 5) (.t 0)),.v 9,.p (.bin .add (.t 1) (.t 0)),.p (.bX [(.t 0)] 1),.p (.bX [(.t 23),(.t 21),(.t 14),(.t 0)] 1),.p (.fF uL [(.t 32),(.t 31),(.t 0)])],[],[8,9],none⟩)))
 (.ae ⟨[.p (.bin .add (.v 5) (.c (.int (1)))),.t 0],[(5,0)],[],none⟩))))
abbrev DS:Fn:={np:=4,nv:=10,res:=[],body:=
(.seq (.ae ⟨[.v 0,.q,.h 0 0,.d,.t 0],[(4,0)],[],none⟩)
 (.seq (.ae ⟨[.v 4,.q,.h 0 15,.d,.v 1,.i,.d,.v 2,.i,.d,.v 3,.i,.d,.n,.k 0],[(7,2),(6,1),(5,0)],[],none⟩)
 (.block 0 (.loop ako))))}
abbrev DU:Fn:={np:=1,nv:=2,res:=[(1,none)],body:=
(.seq (.ae ⟨[.b],[],[1],none⟩)
 (.seq (.ae ⟨[.v 0,.v 0,.p (.bin .neq (.t 1) (.t 0)),.t 0],[(1,0)],[0],none⟩)
 .ret))}
abbrev akp:IC:=(.seq (.ae ⟨[.c 2 3],[],[],some (25,0)⟩)
 (.seq (.cond 25 .skip (.exit 0))
 (.seq (.block 1 (.seq (.ae ⟨[.p (.bU (.v 4) (.v 2) 1),.d,.t 0],[(5,0)],[],none⟩)
 (.seq (.ae ⟨[.v 0,.v 5,.p (.fF th [(.t 1),(.t 0)]),.t 0,.p (.ext (.t 0) 0),.p (.ext (.t 1) 1),.t 1,.t 1],[(8,1),(6,0)],[],none⟩)
 (.seq (.seq (.ae ⟨[.v 6,.p (.bin .neq (.t 0) (.c (.int (0))))],[],[],some (35,0)⟩)
 (.cond 35 (.seq (.ae ⟨[.v 6,.p (.mv (.c (.ah))),.b,.t 2],[(10,2),(11,1),(12,0)],[0,2,3,4,5,6,7,8],none⟩)
 .ret) .skip))
 (.seq (.ae ⟨[.v 7,.v 8,.p (.vj (.t 1) 1 (.t 0) (.int 0) true),.t 0,.p (.ext (.t 0) 0),.p (.ext (.t 1) 1),.t 1,.t 1],[(9,0)],[6,8],none⟩)
 (.seq (.ae ⟨[.v 9,.p (.not (.t 0))],[],[9],some (44,0)⟩)
 (.cond 44 (.seq (.ae ⟨[.v 5,.t 0,.p (.mv (.c (.bool true))),.k 0],[(10,2),(11,1),(12,0)],[0,2,3,4,5,7],none⟩)
 .ret) .skip)))))))
 (.ae ⟨[.p (.bin .add (.v 2) (.c (.int (1)))),.t 0],[(2,0)],[5],none⟩))))
abbrev DV:Fn:={np:=1,nv:=13,res:=[(10,none),(11,none),(12,none)],body:=
(.seq (.ae ⟨[.p (.mv (.c (.ah))),.b,.k 0],[],[10,11,12],none⟩)
 (.seq (.ae ⟨[.v 0,.p (.fF Ei [(.t 0)]),.t 0,.p (.ext (.t 0) 0),.p (.ext (.t 1) 1),.t 1,.t 1],[(7,1),(1,0)],[],none⟩)
 (.seq (.seq (.ae ⟨[.v 1,.p (.bin .neq (.t 0) (.c (.int (0))))],[],[],some (19,0)⟩)
 (.cond 19 (.seq (.ae ⟨[.v 1,.p (.mv (.c (.ah))),.b,.t 2],[(10,2),(11,1),(12,0)],[0,1,7],none⟩)
 .ret) .skip))
 (.seq (.seq (.ae ⟨[.v 0,.p (.fF IQ [(.t 0)]),.n,.k 0],[(4,2),(3,1),(2,0)],[1],none⟩)
 (.block 0 (.loop akp)))
 (.seq (.ae ⟨[.p (.mv (.c (.ah))),.b,.k 0],[(10,2),(11,1),(12,0)],[0,2,3,4,7],none⟩)
 .ret)))))}
abbrev DW:Fn:={np:=1,nv:=2,res:=[(1,none)],body:=
(.seq (.ae ⟨[.p (.mv (.c (.ah)))],[],[1],none⟩)
 (.seq (.ae ⟨[.v 0,.p (.cu IS [(.t 0)]),.p (.cu Cs [(.t 0)]),.t 0],[(1,0)],[0],none⟩)
 .ret))}
abbrev akq:IC:=(.seq (.ae ⟨[.c 1 2],[],[],some (16,0)⟩)
 (.seq (.cond 16 .skip (.exit 0))
 (.seq (.block 1 (.seq (.ae ⟨[.v 1,.p (.bU (.v 3) (.v 1) 1),.d,.t 2,.t 1],[(8,1),(4,0)],[],none⟩)
 (.seq (.ae ⟨[.v 0,.v 4,.p (.fF th [(.t 1),(.t 0)]),.t 0,.p (.ext (.t 0) 0),.p (.ext (.t 1) 1),.t 1,.t 1],[(7,1),(5,0)],[4],none⟩)
 (.seq (.seq (.ae ⟨[.v 5,.p (.bin .neq (.t 0) (.c (.int (0))))],[],[],some (27,0)⟩)
 (.cond 27 (.seq (.ae ⟨[.v 5,.p (.mv (.c (.p7))),.t 1],[(9,1),(10,0)],[0,1,2,3,5,6,7,8],none⟩)
 .ret) .skip))
 (.ae ⟨[.v 6,.v 7,.v 8,.p (.vh (.t 2) 1 (.t 1) (.t 0))],[],[5,7,8],none⟩)))))
 (.ae ⟨[.p (.bin .add (.v 1) (.c (.int (1)))),.t 0],[(1,0)],[],none⟩))))
abbrev DX:Fn:={np:=1,nv:=11,res:=[(9,none),(10,none)],body:=
(.seq (.ae ⟨[.p (.mv (.c (.p7))),.k 0],[],[9,10],none⟩)
 (.seq (.ae ⟨[.p (.ya),.t 0],[(6,0)],[],none⟩)
 (.seq (.seq (.ae ⟨[.v 0,.q,.h 0 10,.d,.n,.k 0],[(3,2),(2,1),(1,0)],[],none⟩)
 (.block 0 (.loop akq)))
 (.seq (.ae ⟨[.v 6,.t 0,.k 0],[(9,1),(10,0)],[0,1,2,3,6],none⟩)
 .ret))))}
end Ab
