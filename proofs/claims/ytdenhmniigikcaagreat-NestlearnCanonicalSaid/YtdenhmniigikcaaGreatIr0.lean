/- The functions of the program as small texts, printed by a tool of mine. Condition: none. -/
import Derived.Test.YtdenhmniigikcaaGreatAbBase
set_option linter.all false
namespace Ab
abbrev Ln.l:Ln:=.p (.cK (.t 0) none)
abbrev Ln.d:Ln:=.p (.ld (.t 0) none)
abbrev Ln.k (n:Int):Ln:=.p (.mv (.c (.int n)))
abbrev Ln.i:Ln:=.p (.bd (.t 1) (.t 0) 1)
abbrev Ln.n:Ln:=.p (.len (.t 0))
abbrev Ln.q:Ln:=.p (.nM (.t 0))
abbrev Ln.f (v o:Nat):Ln:=.p (.dB (.v v) o none)
abbrev Ln.h (v o:Nat):Ln:=.p (.dB (.t v) o none)
abbrev Ln.b:Ln:=.p (.mv (.c (.bool false)))
abbrev Ln.c (a b:Nat):Ln:=.p (.bin .lss (.v a) (.v b))
abbrev dV:List AV:=[.int 0,.int 0,.int 0,.int 0,.int 0,.ae,.ae,.ae,.ae,.ae]
abbrev Ln.bd (a b:Rf) (n:Nat):Ln:=.p (.bd a b n)
abbrev Ln.st (a b:Rf) (n:Nat):Ln:=.p (.st a b n)
abbrev Ln.pick (a b c:Rf):Ln:=.p (.pick a b c)
abbrev Ln.mv (a:Rf):Ln:=.p (.mv a)
abbrev Ln.cK (a:Rf) (n:Option Nat):Ln:=.p (.cK a n)
abbrev Ln.dB (a:Rf) (n:Nat) (k:Option Nat):Ln:=.p (.dB a n k)
abbrev Ln.bD (a:List Rf) (n:Nat):Ln:=.p (.bD a n)
abbrev Ln.cp (a:List Rf) (n:Nat):Ln:=.p (.cp a n)
abbrev Ln.eR (a:Rf):Ln:=.p (.eR a)
abbrev Ln.eZ (f:Nat) (a:List Rf):Ln:=.p (.eZ f a)
abbrev Ln.cu (a b:Rf) (k:Option Nat):Ln:=.p (.cu a b k)
abbrev Ln.ie (a:List AV) (b:List (Nat×Nat×Rf)):Ln:=.p (.ie a b)
abbrev Ln.ks (a:List AV) (k:Option Nat):Ln:=.p (.ks a k)
abbrev Ln.iH (a b:Rf) (z:List AV) (k:Option Nat):Ln:=.p (.iH a b z k)
abbrev Ln.ld (a:Rf) (k:Option Nat):Ln:=.p (.ld a k)
abbrev Ln.bin (o:zf) (a b:Rf):Ln:=.p (.bin o a b)
abbrev Ln.app (a b:Rf) (k:Option Nat):Ln:=.p (.app a b k)
abbrev Ln.nl (k:Option Nat):Ln:=.p (.nl k)
abbrev Ln.not (a:Rf):Ln:=.p (.not a)
abbrev Ln.fg (a b:Rf) (n:Nat) (k:Option Nat):Ln:=.p (.fg a b n k)
abbrev Ln.iF (a b:Rf) (n:Nat):Ln:=.p (.iF a b n)
abbrev Ln.xv (k n:Nat):Ln:=.x k (.mv (.v n))
abbrev Ln.xl (k:Nat):Ln:=.x k (.cK (.t 0) none)
abbrev Ln.xf (k n o:Nat):Ln:=.x k (.dB (.v n) o none)
abbrev Ln.yv (k n:Nat):Ln:=.y k (.mv (.v n))
abbrev Ln.yl (k:Nat):Ln:=.y k (.cK (.t 0) none)
abbrev Ln.yf (k n o:Nat):Ln:=.y k (.dB (.v n) o none)
abbrev Rf.i (n:Int):Rf:=.c (.int n)
abbrev Rf.A:Rf:=.t 0
abbrev Rf.B:Rf:=.t 1
abbrev Rf.C:Rf:=.t 2
abbrev Rf.D:Rf:=.t 3
abbrev Rf.E:Rf:=.t 4
abbrev Rf.F:Rf:=.t 5
abbrev Rf.G:Rf:=.t 6
abbrev Rf.H:Rf:=.t 7
abbrev Rf.I:Rf:=.t 8
abbrev Rf.J:Rf:=.t 9
abbrev Ln.A (a b:Rf):Ln:=.p (.bin .add a b)
abbrev Ln.L (a b:Rf):Ln:=.p (.bin .lss a b)
abbrev Ln.N (a b:Rf):Ln:=.p (.bin .neq a b)
abbrev Ln.E (a b:Rf):Ln:=.p (.bin .eql a b)
abbrev Ln.G (a b:Rf):Ln:=.p (.bin .gtr a b)
abbrev Ln.S (a b:Rf):Ln:=.p (.bin .sub a b)
abbrev Ln.M (a b:Rf):Ln:=.p (.bin .mul a b)
abbrev Ln.C (f:Nat) (l:List Rf):Ln:=.p (.kl f l)
abbrev Ln.e (a:Rf) (n:Nat):Ln:=.p (.ext a n)
abbrev IC.o (n:Nat) (b:IC):IC:=.block n (.loop b)
abbrev IC.g (l:List Ln) (w:List (Nat×Nat)) (d:List Nat):IC:=.cq ⟨l,w,d,none⟩
abbrev IC.s (l:List Ln) (w:List (Nat×Nat)) (d:List Nat) (c:IC):IC:=.seq (.cq ⟨l,w,d,none⟩) c
abbrev IC.r (l:List Ln) (w:List (Nat×Nat)) (d:List Nat) (a b:Nat) (c:IC):IC:=.seq (.cq ⟨l,w,d,some (a,b)⟩) c
abbrev IC.i (l:List Ln) (w:List (Nat×Nat)) (d:List Nat) (a b:Nat) (x y:IC):IC:=.seq (.cq ⟨l,w,d,some (a,b)⟩) (.cond a x y)
abbrev IC.j (l:List Ln) (w:List (Nat×Nat)) (d:List Nat) (a b:Nat) (x:IC):IC:=.seq (.cq ⟨l,w,d,some (a,b)⟩) (.cond a x .skip)
abbrev IC.w (l:List Ln) (w:List (Nat×Nat)) (d:List Nat) (a b:Nat):IC:=.seq (.cq ⟨l,w,d,some (a,b)⟩) (.cond a .skip (.exit 0))
abbrev Fo:Nat:=178
abbrev iP:Nat:=150
abbrev jj:Nat:=110
abbrev anE:Nat:=9
def anF:Nat:=3
def anG:Nat:=4
def anH:Nat:=5
def OM:Nat:=6
def anI:Nat:=7
def anJ:Nat:=8
def AI:Nat:=9
def vl:Nat:=10
def o7:Nat:=11
def anK:Nat:=12
def xU:Nat:=13
def GV:Nat:=14
def anL:Nat:=15
def AJ:Nat:=16
def anM:Nat:=17
def anN:Nat:=18
def GW:Nat:=19
def Fg:Nat:=20
def GX:Nat:=21
def AK:Nat:=22
def AL:Nat:=23
def tw:Nat:=24
def GY:Nat:=25
def AM:Nat:=26
def AN:Nat:=27
def AO:Nat:=28
def nX:Nat:=29
def GZ:Nat:=30
def tx:Nat:=31
def AP:Nat:=32
def xV:Nat:=33
def AQ:Nat:=34
def anO:Nat:=35
def anP:Nat:=36
def anQ:Nat:=37
def anR:Nat:=38
def anS:Nat:=39
def anT:Nat:=40
def vm:Nat:=41
def G0:Nat:=42
def G1:Nat:=43
def G2:Nat:=44
def aho:Nat:=45
def anU:Nat:=46
def anV:Nat:=47
def anW:Nat:=48
def G3:Nat:=49
def G4:Nat:=50
def anX:Nat:=51
def AR:Nat:=52
def anY:Nat:=53
def anZ:Nat:=54
def an0:Nat:=55
def G5:Nat:=56
def G6:Nat:=57
def AT:Nat:=58
def xW:Nat:=59
def AU:Nat:=60
def rJ:Nat:=61
def G7:Nat:=62
def rI:Nat:=63
def rK:Nat:=64
def vk:Nat:=65
def rO:Nat:=66
def G8:Nat:=67
def G9:Nat:=68
def vq:Nat:=69
def ts:Nat:=70
def Hb:Nat:=71
def xX:Nat:=72
def Hc:Nat:=73
def tt:Nat:=74
def Hd:Nat:=75
def AW:Nat:=76
def He:Nat:=77
def AX:Nat:=78
def Hf:Nat:=79
def Hg:Nat:=80
def an1:Nat:=81
def an2:Nat:=82
def vt:Nat:=83
def an3:Nat:=84
def an4:Nat:=85
def an5:Nat:=86
def an6:Nat:=87
def an7:Nat:=88
def an8:Nat:=89
def xM:Nat:=90
def qv:Nat:=91
def an9:Nat:=92
def aoa:Nat:=93
def ET:Nat:=94
def Hh:Nat:=95
def Hi:Nat:=96
def Hj:Nat:=97
def nY:Nat:=98
def xT:Nat:=99
def OO:Nat:=100
def jl:Nat:=101
def aob:Nat:=102
def aoc:Nat:=103
def tu:Nat:=104
def xO:Nat:=105
def aod:Nat:=106
def aoe:Nat:=107
def aof:Nat:=108
def aog:Nat:=109
def aoh:Nat:=110
def xY:Nat:=111
def aoi:Nat:=112
def AY:Nat:=113
def AZ:Nat:=114
def rL:Nat:=115
def Hk:Nat:=116
def Hl:Nat:=117
def xZ:Nat:=118
def x4:Nat:=119
def A0:Nat:=120
def yb:Nat:=121
def Hm:Nat:=122
def Hn:Nat:=123
def A1:Nat:=124
def vi:Nat:=125
def A6:Nat:=126
def A7:Nat:=127
def aoj:Nat:=128
def aok:Nat:=129
def aol:Nat:=130
def aom:Nat:=131
def aon:Nat:=132
def aoo:Nat:=133
def aop:Nat:=134
def aoq:Nat:=135
def aor:Nat:=136
def aos:Nat:=137
def aot:Nat:=138
def Ax:Nat:=139
def Ho:Nat:=140
def Hp:Nat:=141
def A8:Nat:=142
def Ay:Nat:=143
def rH:Nat:=144
def AE:Nat:=145
def AF:Nat:=146
def OE:Nat:=147
def OF:Nat:=148
def OD:Nat:=149
def aou:Nat:=150
def EN:Nat:=151
def EP:Nat:=152
def EX:Nat:=153
def aov:Nat:=154
def Aw:Nat:=155
def xN:Nat:=156
def aow:Nat:=157
def aox:Nat:=158
def aoy:Nat:=159
def aoz:Nat:=160
def aoA:Nat:=161
def Fa:Nat:=162
def Az:Nat:=163
def Fc:Nat:=164
def Ff:Nat:=165
def OG:Nat:=166
def OH:Nat:=167
def Fm:Nat:=168
def vj:Nat:=169
def Fq:Nat:=170
def aoB:Nat:=171
def aoC:Nat:=172
def aoD:Nat:=173
def aoE:Nat:=174
def aoF:Nat:=175
def aoG:Nat:=176
def aoH:Nat:=177
def aoI:Nat:=178
def aoJ:Nat:=179
def aoK:Nat:=180
def aoL:Nat:=181
def Fz:Nat:=182
def xP:Nat:=183
def AG:Nat:=184
def aoM:Nat:=185
def aoN:Nat:=186
def aoO:Nat:=187
def aoP:Nat:=188
def xQ:Nat:=189
def xR:Nat:=190
def AH:Nat:=191
def xS:Nat:=192
def aoQ:Nat:=193
def aoR:Nat:=194
def aoS:Nat:=195
def aoT:Nat:=196
def aoU:Nat:=197
def aoV:Nat:=198
def aoW:Nat:=199
def aoX:Nat:=200
def aoY:Nat:=201
def aoZ:Nat:=202
def ao0:Nat:=203
def ao1:Nat:=204
def ao2:Nat:=205
def ao3:Nat:=206
def AB:Nat:=222
def AA:Nat:=223
def AD:Nat:=224
abbrev FO:Fn:={np:=2,nv:=11,res:=[(10,none)],body:=
(.s [.eR (.v 0),.eR (.v 1),.b] [(2,2),(3,1)] [0,1,10]
 (.seq (.j [.cK (.v 2) (some 10),.C AI [.A],.not .A,.t 0,.y 0 (.cK (.v 3) (some 10)),.y 1 (.kl AI [.A]),.y 2 (.not .A),.pick .D (.c (.bool true)) .A] [] [] 19 0 (.s [.C vl [],.t 0] [(10,0)] [2,3]
 .ret))
 (.s [.cK (.v 2) (some 10),.cK (.v 3) (some 10),.C GW [.B,.A],.t 0,.e .A 0,.e .B 1,.e .C 2,.t 2,.t 2,.t 2] [(9,1),(4,0)] []
 (.s [.cK (.v 2) (some 10),.C o7 [.A],.t 0,.e .A 0,.e .B 1,.p (.ff 10),.iF .A .C 10,.t 2] [(7,1),(5,0)] [2]
 (.s [.cK (.v 3) (some 10),.C o7 [.A],.t 0,.e .A 0,.e .B 1,.p (.ff 10),.iF .A .C 10,.t 2] [(8,1),(6,0)] [3]
 (.seq (.j [.v 4,.N .A (.i 0),.t 0,.yv 0 5,.y 1 (.bin .neq .A (.i 0)),.pick .C (.c (.bool true)) .A,.t 0,.yv 0 6,.y 1 (.bin .neq .A (.i 0)),.pick .C (.c (.bool true)) .A] [] [4,5,6] 47 0 (.s [.C vl [],.t 0] [(10,0)] [7,8,9]
 .ret))
 (.s [.cK (.v 7) (some 10),.cK (.v 8) (some 10),.C xU [.B,.A],.v 9,.p (.beq true .B .A),.t 0,.x 0 (.kl vl []),.pick .B .A (.c (.bool false)),.t 0] [(10,0)] [7,8,9]
 .ret)))))))}
abbrev FP:Fn:={np:=1,nv:=3,res:=[(2,none)],body:=
(.s [.eR (.v 0),.b] [(1,1)] [0,2]
 (.s [.f 1 5,.l,.n,.bin .leq .A (.i 3),.t 0,.xf 0 1 3,.xl 1,.x 2 (.bin .leq .A (.i 4)),.pick .D .A (.c (.bool false)),.t 0,.x 0 (.cK (.v 1) (some 10)),.x 1 (.kl GX [.A]),.pick .C .A (.c (.bool false)),.t 0,.xf 0 1 0,.xl 1,.xf 2 1 1,.xl 3,.x 4 (.bin .sV .C .A),.xf 5 1 2,.xl 6,.x 7 (.bin .sV .C .A),.x 8 (.bin .leq .A (.i 5)),.pick .J .A (.c (.bool false)),.t 0] [(2,0)] [1]
 .ret))}
abbrev FQ:Fn:={np:=0,nv:=6,res:=[(5,none)],body:=
(.s [.b] [] [5]
 (.s [.C AK [],.C o7 [.A],.t 0,.e .A 0,.e .B 1,.p (.ff 10),.iF .A .C 10,.t 2] [(3,1),(0,0)] []
 (.s [.C AK [],.C GV [.A],.t 0,.e .A 0,.e .B 1,.e .C 2,.p (.ff 10),.iF .A .D 10,.t 3,.t 3] [(4,2),(2,1),(1,0)] []
 (.s [.v 0,.E .A (.i 0),.t 0,.xv 0 1,.x 1 (.bin .eql .A (.i 0)),.pick .C .A (.c (.bool false)),.t 0,.xv 0 2,.x 1 (.bin .eql .A (.i 1)),.pick .C .A (.c (.bool false)),.t 0,.x 0 (.cK (.v 3) (some 10)),.x 1 (.kl AL []),.x 2 (.kl xU [.B,.A]),.pick .D .A (.c (.bool false)),.t 0,.x 0 (.cK (.v 4) (some 10)),.x 1 (.kl AL []),.x 2 (.kl xU [.B,.A]),.pick .D .A (.c (.bool false)),.t 0] [(5,0)] [0,1,2,3,4]
 .ret))))}
abbrev OY:fQ:=⟨[.eR (.v 0),.ks dV (some 10),.k 0],[(1,2),(3,1)],[0,19],none⟩
abbrev OZ:fQ:=⟨[.cK (.v 1) (some 10),.C tw [.A],.t 0],[(2,0)],[],none⟩
abbrev O1:fQ:=⟨[.v 2,.N .A (.i 0)],[],[],some (18,0)⟩
abbrev O2:fQ:=⟨[.ie dV [],.v 2,.st (.v 3) .B 10,.t 1],[(19,0)],[1,2],none⟩
abbrev O3:fQ:=⟨[.cK (.v 1) (some 10),.p (.can GY [.A]),.t 0],[(4,0)],[2],none⟩
abbrev O4:fQ:=⟨[.v 4,.eZ AM [.A],.not .A],[],[],some (25,0)⟩
abbrev O5:fQ:=⟨[.ie dV [],.st (.v 3) .A 10,.k 11],[(19,0)],[1,4],none⟩
abbrev O6:fQ:=⟨[.v 4,.C AN [.A],.t 0,.e .A 0,.e .B 1,.t 1,.t 1],[(14,1),(5,0)],[],none⟩
abbrev O7:fQ:=⟨[.v 5,.G .A (.i 128),.t 0,.yv 0 5,.yf 1 1 0,.yl 2,.y 3 (.bin .mul .C .A),.y 4 (.bin .gtr .A (.i 128)),.pick .F (.c (.bool true)) .A],[],[1],some (40,0)⟩
abbrev O8:fQ:=⟨[.ie dV [],.st (.v 3) .A 10,.k 11],[(19,0)],[4,5,14],none⟩
abbrev O9:fQ:=⟨[.v 4,.C AO [.A],.t 0,.e .A 0,.e .B 1,.t 1,.t 1],[(10,1),(16,0)],[],none⟩
abbrev Pa:fQ:=⟨[.v 5,.iH .A .A [.int 0,.int 0,.ae] (some 3),.t 0],[(6,0)],[5],none⟩
abbrev Pb:fQ:=⟨[.v 6,.n,.k 0],[(8,1),(7,0)],[],none⟩
abbrev Pc:IC:=(.r [.c 7 8] [] [] 52 0
 (.seq (.cond 52 .skip (.exit 0))
 (.seq (.block 1 (.s [.v 7,.t 0] [(9,0)] []
 (.g [.v 6,.v 9,.v 9,.ie [.int 0,.int 0,.ae] [(0,1,.A),(1,1,(.i (-1))),(2,1,(.c (.ae)))],.bd .D .C 3,.st .A .B 3] [] [9])))
 (.g [.A (.v 7) (.i 1),.t 0] [(7,0)] []))))
abbrev Pd:fQ:=⟨[.v 10,.n,.k 0],[(13,2),(12,1),(11,0)],[7,8,10],none⟩
abbrev Pe:IC:=(.r [.c 11 12] [] [] 63 0
 (.seq (.cond 63 .skip (.exit 2))
 (.seq (.block 3 (.s [.v 11,.bd (.v 13) (.v 11) 1,.d,.t 2,.t 1] [(15,1),(18,0)] []
 (.s [.v 6,.v 14,.v 15,.i,.d,.bd .E .A 3,.t 0] [(17,0)] []
 (.j [.v 16,.v 15,.i,.d,.t 0,.xv 0 17,.x 1 (.nM .A),.x 2 (.dB .A 1 none),.x 3 (.ld .A none),.x 4 (.bin .lss .A (.i 0)),.x 5 (.mv .A),.yv 0 18,.yv 1 17,.y 2 (.nM .A),.y 3 (.dB .A 2 none),.y 4 (.ld .A none),.y 5 (.kl nX [.E,.A]),.y 6 (.bin .lss .A (.i 0)),.x 13 (.pick .H (.c (.bool true)) .A),.pick (.t 14) .A (.c (.bool false))] [] [] 92 0 (.g [.v 17,.v 17,.v 15,.v 18,.p (.nM .D),.h 0 1,.st .A .D 1,.p (.nM .F),.h 0 2,.st .A .F 1] [] [15,17,18])))))
 (.g [.A (.v 11) (.i 1),.t 0] [(11,0)] [15,17,18]))))
abbrev Pf:fQ:=⟨[.v 6,.p (.qN GZ [.A,(.c (.func tx []))])],[],[11,12,13,16],some (103,0)⟩
abbrev Pg:fQ:=⟨[.ie dV [],.st (.v 3) .A 10,.k 3],[(19,0)],[4,6,14],none⟩
abbrev Ph:fQ:=⟨[.v 6,.eZ AP [.A,(.c (.func xV []))]],[],[],none⟩
abbrev Pj:fQ:=⟨[.v 4,.v 14,.v 6,.C AQ [.C,.B,.A],.st (.v 3) .A 10,.k 0],[(19,0)],[4,6,14],none⟩
abbrev rM:Fn:={np:=1,nv:=20,res:=[(3,some (some 10)),(19,none)],body:=
(.seq (.cq OY)
 (.seq (.seq (.cq OZ)
 (.seq (.cq O1)
 (.cond 18 (.seq (.cq O2)
 .ret) .skip)))
 (.seq (.cq O3)
 (.seq (.seq (.seq (.cq O4) (.kO 4))
 (.cond 25 (.seq (.cq O5)
 .ret) .skip))
 (.seq (.cq O6)
 (.seq (.seq (.cq O7)
 (.cond 40 (.seq (.cq O8)
 .ret) .skip))
 (.seq (.cq O9)
 (.seq (.cq Pa)
 (.seq (.seq (.cq Pb)
 (.o 0 Pc))
 (.seq (.seq (.cq Pd)
 (.o 2 Pe))
 (.seq (.seq (.cq Pf)
 (.cond 103 (.seq (.cq Pg)
 .ret) .skip))
 (.seq (.seq (.cq Ph) (.kO 6))
 (.seq (.cq Pj)
 .ret)))))))))))))}
abbrev ahp:IC:=(.seq (.w [.v 4,.f 2 9,.l,.n,.L .D .A] [] [] 52 0)
 (.seq (.block 1 (.j [.f 2 9,.l,.v 4,.i,.l,.f 3 9,.l,.v 4,.i,.l,.C vm [.F,.A],.not .A] [] [] 66 0 (.s [.b] [(5,0)] [2,3,4]
 .ret)))
 (.g [.v 4,.A .A (.i 1),.t 0] [(4,0)] [])))
abbrev FT:Fn:={np:=2,nv:=6,res:=[(5,none)],body:=
(.s [.eR (.v 0),.eR (.v 1),.b] [(2,2),(3,1)] [0,1,5]
 (.seq (.j [.f 2 0,.l,.f 3 0,.l,.N .C .A,.t 0,.yf 0 2 1,.yl 1,.yf 2 3 1,.yl 3,.y 4 (.bin .neq .C .A),.pick .F (.c (.bool true)) .A,.t 0,.yf 0 2 2,.yl 1,.yf 2 3 2,.yl 3,.y 4 (.bin .neq .C .A),.pick .F (.c (.bool true)) .A,.t 0,.yf 0 2 3,.yl 1,.yf 2 3 3,.yl 3,.y 4 (.bin .neq .C .A),.pick .F (.c (.bool true)) .A,.t 0,.yf 0 2 4,.yl 1,.yf 2 3 4,.yl 3,.y 4 (.bin .neq .C .A),.pick .F (.c (.bool true)) .A,.t 0,.yf 0 2 9,.yl 1,.y 2 (.len .A),.yf 3 3 9,.yl 4,.y 5 (.len .A),.y 6 (.bin .neq .D .A),.pick .H (.c (.bool true)) .A] [] [] 47 0 (.s [.b] [(5,0)] [2,3]
 .ret))
 (.seq (.s [.k 0] [(4,0)] []
 (.o 0 ahp))
 (.s [.f 2 5,.l,.f 3 5,.l,.C G0 [.C,.A],.t 0,.xf 0 2 6,.xl 1,.xf 2 3 6,.xl 3,.x 4 (.kl vm [.C,.A]),.pick .F .A (.c (.bool false)),.t 0,.xf 0 2 7,.xl 1,.xf 2 3 7,.xl 3,.x 4 (.kl vm [.C,.A]),.pick .F .A (.c (.bool false)),.t 0,.xf 0 2 8,.xl 1,.xf 2 3 8,.xl 3,.x 4 (.kl vm [.C,.A]),.pick .F .A (.c (.bool false)),.t 0] [(5,0)] [2,3,4]
 .ret))))}
abbrev ahq:IC:=(.seq (.block 1 (.seq (.s [.v 4,.eZ G1 [.A],.t 0,.e .A 0,.e .B 1,.ks dV (some 10),.st .A .C 10,.t 2] [(6,2),(5,0)] [] (.kO 6))
 (.seq (.j [.v 5,.N .A (.i 0)] [] [] 37 0 (.s [.ie dV [],.v 5,.st (.v 3) .B 10,.k 0,.t 2] [(13,1),(14,0)] [1,4,5,6,10]
 .ret))
 (.s [.ld (.v 6) (some 10),.cK (.v 1) (some 10),.C G2 [.B,.A],.t 0,.e .A 0,.e .B 1,.e .C 2,.t 2,.t 2,.t 2] [(11,2),(7,1),(5,0)] []
 (.seq (.j [.v 5,.N .A (.i 0)] [] [] 48 0 (.s [.ie dV [],.v 5,.st (.v 3) .B 10,.k 0,.t 2] [(13,1),(14,0)] [1,4,5,6,7,10,11]
 .ret))
 (.seq (.j [.v 7,.not .A] [] [5,7] 52 0 (.s [.ld (.v 6) (some 10),.C o7 [.A],.t 0,.e .A 0,.e .B 1,.p (.ff 10),.iF .A .C 10,.t 2] [(9,1),(8,0)] [1,4,6,11]
 (.seq (.j [.v 8,.N .A (.i 0)] [] [] 59 0 (.s [.ie dV [],.v 8,.st (.v 3) .B 10,.k 0,.t 2] [(13,1),(14,0)] [8,9,10]
 .ret))
 (.s [.cK (.v 9) (some 10),.v 10,.st (.v 3) .B 10,.t 1,.k 0] [(13,1),(14,0)] [8,9,10]
 .ret))))
 (.s [.v 4,.ld (.v 6) (some 10),.v 11,.eZ aho [.C,.B,.A],.t 0] [(12,0)] [6,11]
 (.j [.v 12,.N .A (.i 0)] [] [] 69 0 (.s [.ie dV [],.v 12,.st (.v 3) .B 10,.k 0,.t 2] [(13,1),(14,0)] [1,4,10,12]
 .ret)))))))))
 (.g [.v 10,.A .A (.i 1),.t 0] [(10,0)] [12]))
abbrev FU:Fn:={np:=1,nv:=15,res:=[(3,some (some 10)),(13,none),(14,none)],body:=
(.s [.eR (.v 0),.ks dV (some 10),.k 0,.k 0] [(1,3),(3,2)] [0,13,14]
 (.seq (.s [.cK (.v 1) (some 10),.C tw [.A],.t 0] [(2,0)] []
 (.j [.v 2,.N .A (.i 0)] [] [] 18 0 (.s [.ie dV [],.v 2,.st (.v 3) .B 10,.k 0,.t 2] [(13,1),(14,0)] [1,2]
 .ret)))
 (.s [.cK (.v 1) (some 10),.bD [] 1,.bD [.A] 1,.ie [.str [],.str []] [],.p (.lZ [.A] (some 2)),.p (.wM),.ie [.int 0,.int 0,.int 0,.int 0,.int 0,.ae,.ae,.ae,.ae,.ae,.ae,.ae,.oT] [(0,10,.F),(10,1,.D),(11,1,.B),(12,1,.A)],.p (.sJ .A (some 13)),.t 0] [(4,0)] [2]
 (.s [.k 1] [(10,0)] []
 (.o 0 ahq)))))}
abbrev ahr:IC:=(.seq (.w [.v 3,.f 1 5,.l,.n,.L .D .A] [] [] 15 0)
 (.seq (.block 1 (.s [.cK (.v 1) (some 10),.v 3,.C G4 [.B,.A],.t 0] [(4,0)] []
 (.j [.v 4,.N .A (.i 0)] [] [] 22 0 (.s [.v 4,.t 0] [(5,0)] [1,3,4]
 .ret))))
 (.g [.v 3,.A .A (.i 1),.t 0] [(3,0)] [4])))
abbrev FV:Fn:={np:=1,nv:=6,res:=[(5,none)],body:=
(.s [.eR (.v 0),.k 0] [(1,1)] [0,5]
 (.seq (.s [.cK (.v 1) (some 10),.C G3 [.A],.t 0] [(2,0)] []
 (.j [.v 2,.N .A (.i 0)] [] [] 9 0 (.s [.v 2,.t 0] [(5,0)] [1,2]
 .ret)))
 (.seq (.s [.k 0] [(3,0)] [2]
 (.o 0 ahr))
 (.s [.k 0] [(5,0)] [1,3]
 .ret))))}
abbrev FW:Fn:={np:=2,nv:=9,res:=[(6,none),(7,none),(8,none)],body:=
(.s [.eR (.v 0),.eR (.v 1),.mv (.c (.ae)),.b,.k 0] [(2,4),(4,3)] [0,1,6,7,8]
 (.seq (.s [.cK (.v 2) (some 10),.C AJ [.A],.t 0] [(3,0)] []
 (.j [.v 3,.N .A (.i 0)] [] [] 12 0 (.s [.v 3,.mv (.c (.ae)),.b,.t 2] [(6,2),(7,1),(8,0)] [2,3,4]
 .ret)))
 (.seq (.s [.cK (.v 4) (some 10),.C AJ [.A],.t 0] [(5,0)] [3]
 (.j [.v 5,.N .A (.i 0)] [] [] 17 0 (.s [.v 5,.mv (.c (.ae)),.b,.t 2] [(6,2),(7,1),(8,0)] [2,4,5]
 .ret)))
 (.seq (.j [.f 2 0,.l,.f 4 0,.l,.N .C .A,.t 0,.yf 0 2 1,.yl 1,.yf 2 4 1,.yl 3,.y 4 (.bin .neq .C .A),.pick .F (.c (.bool true)) .A,.t 0,.yf 0 2 2,.yl 1,.yf 2 4 2,.yl 3,.y 4 (.bin .neq .C .A),.pick .F (.c (.bool true)) .A] [] [5] 37 0 (.s [.mv (.c (.ae)),.b,.k 15] [(6,2),(7,1),(8,0)] [2,4]
 .ret))
 (.seq (.j [.f 2 5,.l,.n,.f 4 5,.l,.n,.M .D .A,.G .A (.i 144),.t 0,.yf 0 2 3,.yl 1,.yf 2 4 3,.yl 3,.y 4 (.bin .mul .C .A),.y 5 (.bin .gtr .A (.i 1024)),.pick .G (.c (.bool true)) .A] [] [] 53 0 (.s [.mv (.c (.ae)),.b,.k 11] [(6,2),(7,1),(8,0)] [2,4]
 .ret))
 (.s [.cK (.v 2) (some 10),.cK (.v 4) (some 10),.C G6 [.B,.A],.C G5 [.A],.e .A 0,.e .B 1,.e .C 2,.t 2,.t 2,.t 2] [(6,2),(7,1),(8,0)] [2,4]
 .ret))))))}
abbrev ahs:IC:=(.r [.c 7 8] [] [] 46 0
 (.seq (.cond 46 .skip (.exit 0))
 (.seq (.block 1 (.s [.bd (.v 9) (.v 7) 1,.d,.t 0] [(10,0)] []
 (.block 2 (.i [.v 10,.f 2 0,.l,.L .C .A,.t 0] [] [] 60 0 (.s [.cK (.v 11) (some 10),.v 12,.v 10,.C rJ [.C,.B,.A],.t 0,.e .A 0,.e .B 1,.t 1,.t 1] [(15,1),(13,0)] [10,12]
 (.s [.v 13,.eZ G7 [(.v 14),.A]] [] [13]
 (.g [.v 15,.t 0] [(12,0)] [15]))) (.i [.v 10,.f 2 0,.l,.f 2 1,.l,.A .C .A,.L .F .A,.t 0] [] [] 75 0 (.g [.cK (.v 11) (some 10),.v 12,.v 10,.f 2 0,.l,.S .C .A,.C rI [.F,.E,.A],.t 0] [(12,0)] [10]) (.g [.cK (.v 11) (some 10),.v 12,.eZ vk [(.v 14)],.v 10,.f 2 0,.l,.S .C .A,.f 2 1,.l,.S .C .A,.C rK [.J,.I,.H,.A],.t 0] [(12,0)] [10]))))))
 (.g [.A (.v 7) (.i 1),.t 0] [(7,0)] []))))
abbrev FX:Fn:={np:=2,nv:=18,res:=[(16,none),(17,none)],body:=
(.s [.eR (.v 0),.b,.k 0] [(2,2)] [0,16,17]
 (.seq (.s [.cK (.v 2) (some 10),.C tw [.A],.t 0] [(3,0)] []
 (.j [.v 3,.N .A (.i 0)] [] [] 20 0 (.s [.v 3,.b,.t 1] [(16,1),(17,0)] [1,2,3]
 .ret)))
 (.seq (.s [.v 1,.cK (.v 2) (some 10),.C xW [.A],.C AT [.C,.A],.t 0] [(4,0)] [3]
 (.j [.v 4,.N .A (.i 0)] [] [] 27 0 (.s [.v 4,.b,.t 1] [(16,1),(17,0)] [1,2,4]
 .ret)))
 (.s [.cK (.v 2) (some 10),.v 1,.C AU [.B,.A],.t 0,.e .A 0,.e .B 1,.t 1,.t 1] [(5,1),(6,0)] [4]
 (.seq (.j [.v 5,.G .A (.i 64)] [] [5] 36 0 (.s [.b,.k 16] [(16,1),(17,0)] [1,2,6]
 .ret))
 (.seq (.j [.v 6,.not .A] [] [6] 38 0 (.s [.b,.k 0] [(16,1),(17,0)] [1,2]
 .ret))
 (.s [.ks [.ae] (some 1)] [(14,0)] []
 (.s [.cK (.v 2) (some 10),.ie dV [(0,10,.A)],.p (.ff 10),.iF .A .B 10] [(11,0)] []
 (.s [.f 2 4,.l,.t 0] [(12,0)] []
 (.seq (.s [.v 1,.n,.k 0] [(9,2),(8,1),(7,0)] [1]
 (.o 0 ahs))
 (.s [.f 2 5,.l,.v 12,.i,.l,.t 0,.k 0] [(16,1),(17,0)] [2,7,8,9,11,12,14]
 .ret)))))))))))}
abbrev FY:Fn:={np:=1,nv:=3,res:=[(2,none)],body:=
(.s [.eR (.v 0),.b] [(1,1)] [0,2]
 (.s [.f 1 5,.l,.n,.bin .leq .A (.i 5),.t 0,.xf 0 1 3,.xl 1,.x 2 (.bin .leq .A (.i 6)),.pick .D .A (.c (.bool false)),.t 0,.xf 0 1 0,.xl 1,.x 2 (.bin .leq .A (.i 6)),.pick .D .A (.c (.bool false)),.t 0,.xf 0 1 1,.xl 1,.x 2 (.bin .leq .A (.i 6)),.pick .D .A (.c (.bool false)),.t 0,.xf 0 1 2,.xl 1,.x 2 (.bin .leq .A (.i 6)),.pick .D .A (.c (.bool false)),.t 0,.xf 0 1 0,.xl 1,.xf 2 1 1,.xl 3,.x 4 (.bin .sV .C .A),.xf 5 1 2,.xl 6,.x 7 (.bin .sV .C .A),.x 8 (.bin .leq .A (.i 6)),.pick .J .A (.c (.bool false)),.t 0] [(2,0)] [1]
 .ret))}
abbrev FZ:Fn:={np:=0,nv:=1,res:=[(0,some (some 10))],body:=
(.s [.ks dV (some 10)] [(0,0)] []
 (.s [.bD [(.c (.bool true)),(.c (.bool false))] 1,.bD [(.i 0),(.i 0)] 1,.bD [(.i 1),(.i 1)] 1,.bD [.B,.A] 1,.bD [(.i 0),(.i 1)] 1,.bD [(.i 0),(.i 0)] 1,.bD [.B,.A] 1,.bD [] 1,.bD [] 1,.bD [.B,.A] 1,.bD [(.i 0),(.i 1)] 1,.bD [(.i 1),(.i 0)] 1,.bD [.B,.A] 1,.bD [(.i 1),(.i 1)] 1,.bD [(.i 1),(.i 1)] 1,.bD [.B,.A] 1,.bD [.D,.A] 1,.ie dV [(0,1,(.i 2)),(2,1,(.i 2)),(3,1,(.i 2)),(5,1,(.t 16)),(6,1,(.t 13)),(7,1,(.t 10)),(8,1,.H),(9,1,.A)],.st (.v 0) .A 10] [] []
 .ret))}
abbrev F0:Fn:={np:=0,nv:=2,res:=[(1,some (some 10))],body:=
(.s [.ks dV (some 10)] [(1,0)] []
 (.s [.bD [(.i 1),(.i 1)] 1,.bD [(.i 1),(.i 1)] 1,.bD [(.i 1),(.i 1)] 1,.bD [(.i 1),(.i 1)] 1,.bD [.D,.C,.B,.A] 1,.t 0] [(0,0)] []
 (.s [.bD [(.c (.bool true)),(.c (.bool false))] 1,.bD [(.i 0),(.i 0)] 1,.bD [(.i 0),(.i 0)] 1,.bD [.B,.A] 1,.bD [(.i 0),(.i 1)] 1,.bD [(.i 2),(.i 3)] 1,.bD [.B,.A] 1,.bD [] 1,.bD [] 1,.bD [.B,.A] 1,.bD [(.i 0),(.i 1)] 1,.bD [(.i 1),(.i 0)] 1,.bD [(.i 1),(.i 1)] 1,.bD [(.i 1),(.i 1)] 1,.bD [.D,.C,.B,.A] 1,.v 0,.bD [.B,.A] 1,.ie dV [(0,1,(.i 2)),(2,1,(.i 2)),(3,1,(.i 4)),(5,1,(.t 16)),(6,1,(.t 13)),(7,1,(.t 10)),(8,1,.H),(9,1,.A)],.st (.v 1) .A 10] [] [0]
 .ret)))}
abbrev aht:IC:=(.r [.c 3 4] [] [] 82 0
 (.seq (.cond 82 .skip (.exit 1))
 (.seq (.block 2 (.s [.v 3,.t 0] [(5,0)] []
 (.s [.cK (.v 1) (some 10),.v 5,.C G8 [.B,.A],.t 0] [(6,0)] [5]
 (.j [.v 6,.N .A (.i 0)] [] [] 88 0 (.s [.v 6,.t 0] [(7,0)] [1,3,4,6]
 .ret)))))
 (.g [.A (.v 3) (.i 1),.t 0] [(3,0)] [6]))))
abbrev F1:Fn:={np:=1,nv:=8,res:=[(7,none)],body:=
(.s [.eR (.v 0),.k 0] [(1,1)] [0,7]
 (.s [.f 1 5,.l,.n,.t 0] [(2,0)] []
 (.seq (.block 0 (.i [.f 1 0,.l,.f 1 1,.l,.f 1 2,.l,.bD [.E,.C,.A] 1,.C rO [.A,(.i 65)],.t 0] [] [] 9 0 (.s [.k 2] [(7,0)] [1,2]
 .ret) (.i [.cK (.v 1) (some 10),.C xW [.A],.L .A (.i 1),.t 0,.y 0 (.cK (.v 1) (some 10)),.y 1 (.kl xW [.A]),.y 2 (.bin .gtr .A (.i 64)),.pick .D (.c (.bool true)) .A,.t 0,.yf 0 1 3,.yl 1,.y 2 (.bin .lss .A (.i 1)),.pick .D (.c (.bool true)) .A,.t 0,.yf 0 1 3,.yl 1,.y 2 (.bin .gtr .A (.i 128)),.pick .D (.c (.bool true)) .A,.t 0] [] [] 18 0 (.s [.k 2] [(7,0)] [1,2]
 .ret) (.i [.v 2,.E .A (.i 0),.t 0] [] [] 37 0 (.s [.k 19] [(7,0)] [1,2]
 .ret) (.i [.v 2,.G .A (.i 128),.t 0] [] [] 40 0 (.s [.k 11] [(7,0)] [1,2]
 .ret) (.i [.f 1 4,.l,.L .A (.i 0),.t 0,.yf 0 1 4,.yl 1,.yv 2 2,.y 3 (.bin .geq .B .A),.pick .E (.c (.bool true)) .A,.t 0] [] [] 43 0 (.s [.k 2] [(7,0)] [1,2]
 .ret) (.j [.f 1 6,.l,.n,.v 2,.N .B .A,.t 0,.yf 0 1 7,.yl 1,.y 2 (.len .A),.yv 3 2,.y 4 (.bin .neq .B .A),.pick .F (.c (.bool true)) .A,.t 0,.yf 0 1 8,.yl 1,.y 2 (.len .A),.yv 3 2,.y 4 (.bin .neq .B .A),.pick .F (.c (.bool true)) .A,.t 0,.yf 0 1 9,.yl 1,.y 2 (.len .A),.yv 3 2,.y 4 (.bin .neq .B .A),.pick .F (.c (.bool true)) .A,.t 0] [] [] 53 0 (.s [.k 1] [(7,0)] [1,2]
 .ret))))))))
 (.seq (.s [.v 2,.k 0] [(4,1),(3,0)] [2]
 (.o 1 aht))
 (.s [.k 0] [(7,0)] [1,3,4]
 .ret)))))}
abbrev ahu:IC:=(.r [.c 3 4] [] [] 22 0
 (.seq (.cond 22 .skip (.exit 0))
 (.seq (.block 1 (.s [.v 3,.bd (.v 5) (.v 3) 1,.d,.t 2,.t 1] [(7,1),(6,0)] []
 (.g [.v 2,.q,.h 0 11,.d,.v 6,.v 7,.bd .C .B 1,.st .A .B 1] [] [6,7])))
 (.g [.A (.v 3) (.i 1),.t 0] [(3,0)] []))))
abbrev F3:Fn:={np:=1,nv:=9,res:=[(8,none)],body:=
(.s [.eR (.v 0),.mv (.c (.gI))] [(1,1)] [0,8]
 (.s [.cK (.v 1) (some 10),.cK (.v 1) (some 10),.C G9 [.A],.f 1 5,.l,.n,.iH .A .A [.int 0] none,.p (.wM),.ie [.int 0,.int 0,.int 0,.int 0,.int 0,.ae,.ae,.ae,.ae,.ae,.ae,.ae,.ae,.oT,.ae,.ae] [(0,10,.H),(10,1,.F),(11,1,.B),(13,1,.A)],.p (.sJ .A (some 16)),.t 0] [(2,0)] [1]
 (.seq (.s [.v 2,.q,.h 0 10,.d,.n,.k 0] [(5,2),(4,1),(3,0)] []
 (.o 0 ahu))
 (.s [.v 2,.v 2,.q,.h 0 10,.d,.C ts [.A],.eZ vq [.F,.A]] [] [3,4,5]
 (.s [.v 2,.t 0] [(8,0)] [2]
 .ret)))))}
abbrev Pk:fQ:=⟨[.v 1,.v 0,.q,.h 0 12,.d,.n,.L .F .A],[],[],some (14,0)⟩
abbrev Pm:fQ:=⟨[.nl none],[(4,0)],[],none⟩
abbrev Pn:fQ:=⟨[.v 0,.q,.dB .A 0 (some 10),.h 0 1,.d,.k 0],[(3,1),(2,0)],[],none⟩
abbrev Po:IC:=(.r [.c 2 3] [] [] 23 0
 (.seq (.cond 23 .skip (.exit 2))
 (.seq (.block 3 (.s [.v 2,.t 0] [(5,0)] []
 (.g [.v 4,.v 0,.v 0,.v 1,.v 5,.p (.qN Hb [.C,.B,.A]),.eZ vq [.E,.A],.cp [.A] 1,.cu .H .A none,.t 0] [(4,0)] [5])))
 (.g [.A (.v 2) (.i 1),.t 0] [(2,0)] []))))
abbrev Pp:fQ:=⟨[.v 0,.v 0,.q,.h 0 14,.d,.v 4,.cp [.A] 1,.cu .C .A none,.p (.nM .H),.h 0 14,.st .A .C 1],[],[2,3,4],none⟩
abbrev Pq:fQ:=⟨[.v 0,.v 0,.q,.h 0 15,.d,.v 0,.q,.dB .A 0 (some 10),.h 0 0,.d,.iH .A .A [.ae] none,.cp [.A] 1,.app .H .A none,.p (.nM (.t 12)),.h 0 15,.st .A .C 1],[],[],none⟩
abbrev Pr:fQ:=⟨[.v 1,.A .A (.i 1),.k 0],[(7,1),(6,0)],[],none⟩
abbrev ahv:IC:=(.r [.c 8 9] [] [] 71 0
 (.seq (.cond 71 .skip (.exit 6))
 (.seq (.block 7 (.s [.v 8,.t 0] [(10,0)] []
 (.s [.v 0,.v 1,.v 10,.v 11,.eZ xX [.D,.C,.B,.A]] [] []
 (.seq (.j [.v 11,.v 1,.L .B .A] [] [] 80 0 (.g [.v 0,.v 11,.v 10,.v 1,.eZ xX [.D,.C,.B,.A]] [] [10]))
 (.j [.v 0,.q,.h 0 12,.d,.n,.G .A (.i 512)] [] [10] 91 0 (.s [.b] [(12,0)] [0,1,6,7,8,9,11]
 .ret))))))
 (.g [.A (.v 8) (.i 1),.t 0] [(8,0)] []))))
abbrev Ps:IC:=(.r [.c 6 7] [] [] 63 0
 (.seq (.cond 63 .skip (.exit 4))
 (.seq (.block 5 (.s [.v 6,.t 0] [(11,0)] []
 (.s [.v 0,.q,.dB .A 0 (some 10),.h 0 0,.d,.k 0] [(9,1),(8,0)] []
 (.o 6 ahv))))
 (.g [.A (.v 6) (.i 1),.t 0] [(6,0)] [8,9,11]))))
abbrev Pt:fQ:=⟨[.v 0,.q,.h 0 12,.d,.n,.G .A (.i 512)],[],[6,7],some (99,0)⟩
abbrev Pu:fQ:=⟨[.b],[(12,0)],[0,1],none⟩
abbrev Pv:fQ:=⟨[.v 1,.A .A (.i 1),.t 0],[(1,0)],[],none⟩
abbrev ahw:IC:=(.seq (.seq (.cq Pk)
 (.cond 14 .skip (.exit 0)))
 (.seq (.block 1 (.seq (.cq Pm)
 (.seq (.seq (.cq Pn)
 (.seq (.o 2 Po) (.kO 4)))
 (.seq (.cq Pp)
 (.seq (.cq Pq)
 (.seq (.seq (.cq Pr)
 (.o 4 Ps))
 (.seq (.cq Pt)
 (.cond 99 (.seq (.cq Pu)
 .ret) .skip))))))))
 (.cq Pv)))
abbrev F4:Fn:={np:=1,nv:=13,res:=[(12,none)],body:=
(.s [.b] [] [12]
 (.seq (.s [.k 0] [(1,0)] []
 (.o 0 ahw))
 (.s [.mv (.c (.bool true))] [(12,0)] [0,1]
 .ret)))}
abbrev ahx:IC:=(.r [.c 1 2] [] [] 34 0
 (.seq (.cond 34 .skip (.exit 0))
 (.seq (.block 1 (.s [.v 1,.bd (.v 3) (.v 1) 1,.d,.t 2,.t 1] [(7,1),(4,0)] []
 (.seq (.j [.v 0,.q,.dB .A 0 (some 10),.h 0 5,.d,.v 4,.v 5,.i,.d,.bd .E .A 1,.d,.v 0,.q,.dB .A 0 (some 10),.h 0 5,.d,.v 0,.q,.h 0 12,.d,.bd .A (.i 0) 1,.d,.v 5,.i,.d,.bd .J .A 1,.d,.p (.beq true (.t 16) .A)] [] [4] 65 0 (.g [.v 6,.v 7,.i,.st .A (.i 1) 1] [] []))
 (.g [.v 8,.v 6,.v 7,.i,.d,.A .A (.i 1),.p (.mx true .F .A),.t 0] [(8,0)] [7]))))
 (.g [.A (.v 1) (.i 1),.t 0] [(1,0)] []))))
abbrev ahy:IC:=(.block 3 (.s [.v 0,.v 6,.C Hc [.B,.A],.t 0,.e .A 0,.e .B 1,.t 1,.t 1] [(10,1),(9,0)] [1,2,3,5]
 (.seq (.j [.v 9,.v 8,.E .B .A] [] [8] 85 0 (.s [.v 6,.v 9,.t 1,.t 1] [(11,1),(12,0)] [0,6,9,10]
 .ret))
 (.g [.v 10,.v 9,.t 1,.t 1] [(6,1),(8,0)] [9,10]))))
abbrev F5:Fn:={np:=1,nv:=13,res:=[(11,none),(12,none)],body:=
(.s [.mv (.c (.ae)),.k 0] [] [11,12]
 (.s [.v 0,.q,.h 0 11,.d,.v 0,.q,.dB .A 0 (some 10),.h 0 4,.d,.bd .F .A 1,.d,.t 0] [(5,0)] []
 (.s [.v 0,.q,.h 0 12,.d,.n,.iH .A .A [.int 0] none,.t 0] [(6,0)] []
 (.s [.k 0] [(8,0)] []
 (.seq (.s [.v 0,.q,.h 0 12,.d,.n,.k 0] [(3,2),(2,1),(1,0)] []
 (.seq (.o 0 ahx) (.kO 6)))
 (.o 2 ahy))))))}
abbrev ahz:IC:=(.r [.c 5 6] [] [] 40 0
 (.seq (.cond 40 .skip (.exit 2))
 (.seq (.block 3 (.s [.bd (.v 7) (.v 5) 1,.d,.t 0] [(8,0)] []
 (.s [.v 1,.v 1,.q,.h 0 4,.d,.v 8,.cp [.A] 1,.cu .C .A none,.p (.nM .H),.h 0 4,.st .A .C 1] [] []
 (.g [.v 1,.v 8,.eZ AW [.B,.A]] [] [8]))))
 (.g [.A (.v 5) (.i 1),.t 0] [(5,0)] []))))
abbrev ahA:IC:=(.r [.c 2 3] [] [] 33 0
 (.seq (.cond 33 .skip (.exit 0))
 (.seq (.block 1 (.s [.v 2,.t 0] [(4,0)] []
 (.seq (.s [.v 1,.v 4,.eZ Hd [.B,.A],.n,.k 0] [(7,2),(6,1),(5,0)] [4] (.kO 7))
 (.o 2 ahz))))
 (.g [.A (.v 2) (.i 1),.t 0] [(2,0)] [5,6,7]))))
abbrev F6:Fn:={np:=1,nv:=11,res:=[(9,none),(10,none)],body:=
(.s [.mv (.c (.ae)),.mv (.c (.ae))] [] [9,10]
 (.s [.v 0,.v 0,.q,.h 0 12,.d,.n,.iH .A .A [.ae] none,.v 0,.q,.h 0 12,⟨.ld .A none,none,true⟩,.n,.iH .A .A [.bool false] none,.iH (.i 1025) (.i 1025) [.ae] none,.ie [.gI,.ae,.ae,.ae,.ae] [(0,1,(.t 13)),(1,1,.H),(2,1,.B),(3,1,.A)],.p (.sJ .A (some 5)),.t 0] [(1,0)] [0]
 (.s [.v 1,.bD [(.c (.ae))] 1,.eZ tt [.B,(.i 0),.A]] [] []
 (.seq (.s [.v 1,.q,.h 0 3,.d,.n,.k 0] [(3,1),(2,0)] []
 (.o 0 ahA))
 (.s [.v 1,.q,.h 0 1,.d,.v 1,.q,.h 0 2,.d,.t 4,.t 1] [(9,1),(10,0)] [1,2,3]
 .ret)))))}
abbrev F7:Fn:={np:=2,nv:=3,res:=[(2,none)],body:=
(.s [.k 0] [] [2]
 (.s [.v 0,.n,.v 1,.n,.C AX [.C,.A],.v 0,.v 1,.C Hf [.B,.A],.bD [.D,.A] 1,.C He [.A],.t 0] [(2,0)] [0,1]
 .ret))}
abbrev F8:Fn:={np:=2,nv:=3,res:=[(2,none)],body:=
(.s [.b] [] [2]
 (.s [.v 0,.v 1,.C Hg [.B,.A],.bin .geq .A (.i 0),.t 0] [(2,0)] [0,1]
 .ret))}
abbrev F9:Fn:={np:=1,nv:=3,res:=[(2,none)],body:=
(.s [.eR (.v 0),.b] [(1,1)] [0,2]
 (.s [.f 1 1,.l,.L .A (.i 0),.t 0] [(2,0)] [1]
 .ret))}
abbrev Ga:Fn:={np:=2,nv:=5,res:=[(4,none)],body:=
(.s [.eR (.v 0),.eR (.v 1),.k 0] [(2,2),(3,1)] [0,1,4]
 (.s [.f 2 2,.l,.f 3 2,.l,.C nX [.C,.A],.t 0] [(4,0)] [2,3]
 .ret))}
abbrev ahB:IC:=(.r [.c 3 4] [] [] 26 0
 (.seq (.cond 26 .skip (.exit 0))
 (.seq (.block 1 (.s [.v 3,.bd (.v 5) (.v 3) 3,.ld .A (some 3),.p (.ff 3),.t 3,.iF .B .C 3] [(7,0),(8,1)] []
 (.g [.v 6,.f 7 0,.l,.v 8,.bd .D .B 1,.st .A .B 1] [] [7,8])))
 (.g [.A (.v 3) (.i 1),.t 0] [(3,0)] []))))
abbrev ahC:IC:=(.r [.c 15 16] [] [] 92 0
 (.seq (.cond 92 .skip (.exit 4))
 (.seq (.block 5 (.s [.v 15,.bd (.v 17) (.v 15) 1,.d,.t 2,.t 1] [(18,1),(19,0)] []
 (.g [.f 12 8,.d,.v 13,.i,.d,.v 18,.v 6,.v 1,.v 19,.i,.d,.bd .E .A 1,.d,.bd .I .H 1,.st .A .B 1] [] [18,19])))
 (.g [.A (.v 15) (.i 1),.t 0] [(15,0)] []))))
abbrev ahD:IC:=(.r [.c 27 28] [] [] 143 0
 (.seq (.cond 143 .skip (.exit 10))
 (.seq (.block 11 (.s [.v 27,.bd (.v 29) (.v 27) 1,.d,.t 2,.t 1] [(31,1),(32,0)] []
 (.g [.f 12 9,.d,.v 13,.i,.d,.v 30,.v 0,.q,.dB .A 0 (some 10),.h 0 0,.d,.M .F .A,.v 26,.A .B .A,.bd .J .A 1,.d,.v 31,.v 6,.v 1,.v 32,.i,.d,.bd .E .A 1,.d,.bd .I .H 1,.st .A .B 1] [] [31,32])))
 (.g [.A (.v 27) (.i 1),.t 0] [(27,0)] []))))
abbrev ahE:IC:=(.r [.c 23 24] [] [] 124 0
 (.seq (.cond 124 .skip (.exit 8))
 (.seq (.block 9 (.s [.v 23,.t 0] [(26,0)] []
 (.s [.v 0,.q,.h 0 15,.d,.f 25 1,.l,.bd .C .A 1,.d,.v 26,.i,.d,.f 14 1,.l,.bd .C .A 1,.d,.n,.k 0] [(29,2),(28,1),(27,0)] []
 (.o 10 ahD))))
 (.g [.A (.v 23) (.i 1),.t 0] [(23,0)] [26,27,28,29]))))
abbrev ahF:IC:=(.r [.c 20 21] [] [] 114 0
 (.seq (.cond 114 .skip (.exit 6))
 (.seq (.block 7 (.s [.v 20,.bd (.v 22) (.v 20) 3,.ld .A (some 3),.p (.ff 3),.t 3,.iF .B .C 3] [(25,0),(30,1)] []
 (.s [.v 0,.q,.dB .A 0 (some 10),.h 0 0,.d,.k 0] [(24,1),(23,0)] []
 (.o 8 ahE))))
 (.g [.A (.v 20) (.i 1),.t 0] [(20,0)] [23,24,25,30]))))
abbrev ahG:IC:=(.r [.c 9 10] [] [] 46 0
 (.seq (.cond 46 .skip (.exit 2))
 (.seq (.block 3 (.s [.v 9,.bd (.v 11) (.v 9) 3,.ld .A (some 3),.p (.ff 3),.t 3,.iF .B .C 3] [(14,0),(13,1)] []
 (.s [.f 12 5,.d,.v 13,.v 0,.q,.dB .A 0 (some 10),.h 0 5,.d,.v 0,.q,.h 0 12,.d,.f 14 1,.l,.bd .C .A 1,.d,.v 0,.q,.h 0 11,.d,.v 0,.q,.dB .A 0 (some 10),.h 0 4,.d,.bd .F .A 1,.d,.bd (.t 11) .A 1,.d,.bd (.t 21) .A 1,.d,.bd (.t 29) (.t 28) 1,.st .A .B 1] [] []
 (.seq (.s [.v 0,.q,.h 0 14,.d,.f 14 1,.l,.bd .C .A 1,.d,.n,.k 0] [(17,2),(16,1),(15,0)] []
 (.o 4 ahC))
 (.s [.v 2,.n,.k 0] [(22,2),(21,1),(20,0)] [15,16,17]
 (.o 6 ahF))))))
 (.g [.A (.v 9) (.i 1),.t 0] [(9,0)] [13,14,20,21,22]))))
abbrev Gb:Fn:={np:=3,nv:=34,res:=[(33,some (some 10))],body:=
(.s [.ks dV (some 10)] [(33,0)] []
 (.s [.v 2,.n,.iH .A .A [.int 0] none,.t 0] [(6,0)] []
 (.seq (.s [.v 2,.n,.k 0] [(5,2),(4,1),(3,0)] []
 (.o 0 ahB))
 (.s [.v 0,.q,.dB .A 0 (some 10),.ld .A (some 10),.v 2,.n,.p (.can vt [.C,.A]),.ks dV (some 10),.st .A .B 10] [(12,1)] [3,4,5]
 (.seq (.s [.v 2,.n,.k 0] [(11,2),(10,1),(9,0)] []
 (.o 2 ahG))
 (.s [.ld (.v 12) (some 10),.st (.v 33) .A 10] [] [0,1,2,6,9,10,11,12]
 .ret))))))}
abbrev ahH:IC:=(.seq (.w [.v 2,.v 0,.n,.L .C .A] [] [] 14 0)
 (.seq (.block 1 (.j [.v 0,.v 2,.i,.d,.v 1,.v 2,.i,.d,.C Hh [.E,.A],.not .A] [] [] 26 0 (.s [.b] [(3,0)] [0,1,2]
 .ret)))
 (.g [.v 2,.A .A (.i 1),.t 0] [(2,0)] [])))
abbrev Gc:Fn:={np:=2,nv:=4,res:=[(3,none)],body:=
(.s [.b] [] [3]
 (.seq (.j [.v 0,.n,.v 1,.n,.N .C .A] [] [] 10 0 (.s [.b] [(3,0)] [0,1]
 .ret))
 (.seq (.s [.k 0] [(2,0)] []
 (.o 0 ahH))
 (.s [.mv (.c (.bool true))] [(3,0)] [0,1,2]
 .ret))))}
abbrev ahI:IC:=(.seq (.w [.v 2,.v 0,.n,.L .C .A] [] [] 14 0)
 (.seq (.block 1 (.j [.v 0,.v 2,.i,.d,.v 1,.v 2,.i,.d,.p (.beq true .E .A)] [] [] 25 0 (.s [.b] [(3,0)] [0,1,2]
 .ret)))
 (.g [.v 2,.A .A (.i 1),.t 0] [(2,0)] [])))
abbrev Gd:Fn:={np:=2,nv:=4,res:=[(3,none)],body:=
(.s [.b] [] [3]
 (.seq (.j [.v 0,.n,.v 1,.n,.N .C .A] [] [] 10 0 (.s [.b] [(3,0)] [0,1]
 .ret))
 (.seq (.s [.k 0] [(2,0)] []
 (.o 0 ahI))
 (.s [.mv (.c (.bool true))] [(3,0)] [0,1,2]
 .ret))))}
abbrev Ge:Fn:={np:=1,nv:=4,res:=[(2,some (some 10)),(3,none)],body:=
(.s [.ks dV (some 10),.k 0] [(2,1)] [3]
 (.seq (.s [.v 0,.eZ Hi [.A],.t 0] [(1,0)] []
 (.j [.v 1,.N .A (.i 0)] [] [] 8 0 (.s [.ie dV [],.v 1,.st (.v 2) .B 10,.t 1] [(3,0)] [0,1]
 .ret)))
 (.s [.v 0,.eZ Hj [.A],.e .A 0,.e .B 1,.st (.v 2) .B 10,.t 1] [(3,0)] [0,1]
 .ret)))}
abbrev ahJ:IC:=(.r [.c 8 9] [] [] 70 0
 (.seq (.cond 70 .skip (.exit 0))
 (.seq (.block 1 (.s [.v 8,.t 0] [(10,0)] []
 (.s [.cK (.v 6) (some 20),.v 10,.C xT [.B,.A],.t 0,.e .A 0,.e .B 1,.t 1,.t 1] [(11,1),(12,0)] []
 (.g [.v 7,.v 10,.f 2 5,.l,.v 11,.i,.l,.f 4 5,.l,.v 12,.i,.l,.p (.beq true .F .A),.bd (.t 12) (.t 11) 1,.st .A .B 1] [] [10,11,12]))))
 (.g [.A (.v 8) (.i 1),.t 0] [(8,0)] []))))
abbrev Gf:Fn:={np:=2,nv:=16,res:=[(13,none),(14,none),(15,none)],body:=
(.s [.eR (.v 0),.eR (.v 1),.mv (.c (.ae)),.b,.k 0] [(2,4),(4,3)] [0,1,13,14,15]
 (.seq (.s [.cK (.v 2) (some 10),.C tw [.A],.t 0] [(3,0)] []
 (.j [.v 3,.N .A (.i 0)] [] [] 17 0 (.s [.v 3,.mv (.c (.ae)),.b,.t 2] [(13,2),(14,1),(15,0)] [2,3,4]
 .ret)))
 (.seq (.s [.cK (.v 4) (some 10),.C tw [.A],.t 0] [(5,0)] [3]
 (.j [.v 5,.N .A (.i 0)] [] [] 22 0 (.s [.v 5,.mv (.c (.ae)),.b,.t 2] [(13,2),(14,1),(15,0)] [2,4,5]
 .ret)))
 (.seq (.j [.f 2 0,.l,.f 4 0,.l,.N .C .A,.t 0,.yf 0 2 1,.yl 1,.yf 2 4 1,.yl 3,.y 4 (.bin .neq .C .A),.pick .F (.c (.bool true)) .A,.t 0,.yf 0 2 2,.yl 1,.yf 2 4 2,.yl 3,.y 4 (.bin .neq .C .A),.pick .F (.c (.bool true)) .A] [] [5] 42 0 (.s [.mv (.c (.ae)),.b,.k 15] [(13,2),(14,1),(15,0)] [2,4]
 .ret))
 (.seq (.j [.f 2 5,.l,.n,.f 4 5,.l,.n,.M .D .A,.G .A (.i 144),.t 0,.yf 0 2 3,.yl 1,.yf 2 4 3,.yl 3,.y 4 (.bin .mul .C .A),.y 5 (.bin .gtr .A (.i 1024)),.pick .G (.c (.bool true)) .A] [] [] 58 0 (.s [.mv (.c (.ae)),.b,.k 11] [(13,2),(14,1),(15,0)] [2,4]
 .ret))
 (.s [.cK (.v 2) (some 10),.ie dV [(0,10,.A)],.cK (.v 4) (some 10),.ie dV [(0,10,.A)],.ie [.int 0,.int 0,.int 0,.int 0,.int 0,.ae,.ae,.ae,.ae,.ae,.int 0,.int 0,.int 0,.int 0,.int 0,.ae,.ae,.ae,.ae,.ae] [(0,10,.C),(10,10,.A)],.p (.ff 20),.iF .A .B 20] [(6,0)] []
 (.s [.cK (.v 6) (some 20),.C nY [.A],.iH .A .A [.bool false] none,.t 0] [(7,0)] []
 (.seq (.s [.v 7,.n,.k 0] [(9,1),(8,0)] []
 (.seq (.o 0 ahJ) (.kO 7)))
 (.s [.cK (.v 6) (some 20),.p (.JQ iP .A),.cK (.v 2) (some 10),.f 2 4,.l,.dB (.v 6) 10 (some 10),.cK .A (some 10),.C jl [.A],.M .D .A,.f 4 4,.l,.A .C .A,.v 7,.C OO [(.t 11),(.t 10),.B,.A],.e .A 0,.e .B 1,.e .C 2,.t 2,.t 2,.t 2] [(13,2),(14,1),(15,0)] [2,4,6,7,8,9]
 .ret)))))))))}
abbrev Gg:Fn:={np:=1,nv:=3,res:=[(2,none)],body:=
(.s [.eR (.v 0),.k 0] [(1,1)] [0,2]
 (.seq (.j [.f 1 0,.l,.L .A (.i 0),.t 0,.yf 0 1 0,.yl 1,.y 2 (.bin .gtr .A (.i 64)),.pick .D (.c (.bool true)) .A,.t 0,.yf 0 1 1,.yl 1,.y 2 (.bin .lss .A (.i 0)),.pick .D (.c (.bool true)) .A,.t 0,.yf 0 1 1,.yl 1,.y 2 (.bin .gtr .A (.i 64)),.pick .D (.c (.bool true)) .A,.t 0,.yf 0 1 2,.yl 1,.y 2 (.bin .lss .A (.i 0)),.pick .D (.c (.bool true)) .A,.t 0,.yf 0 1 2,.yl 1,.y 2 (.bin .gtr .A (.i 64)),.pick .D (.c (.bool true)) .A] [] [] 30 0 (.s [.k 2] [(2,0)] [1]
 .ret))
 (.seq (.j [.cK (.v 1) (some 10),.C AR [.A],.L .A (.i 1),.t 0,.y 0 (.cK (.v 1) (some 10)),.y 1 (.kl AR [.A]),.y 2 (.bin .gtr .A (.i 64)),.pick .D (.c (.bool true)) .A,.t 0,.yf 0 1 3,.yl 1,.y 2 (.bin .lss .A (.i 1)),.pick .D (.c (.bool true)) .A,.t 0,.yf 0 1 3,.yl 1,.y 2 (.bin .gtr .A (.i 128)),.pick .D (.c (.bool true)) .A] [] [] 48 0 (.s [.k 2] [(2,0)] [1]
 .ret))
 (.seq (.j [.f 1 5,.l,.n,.E .A (.i 0)] [] [] 52 0 (.s [.k 19] [(2,0)] [1]
 .ret))
 (.seq (.j [.f 1 5,.l,.n,.G .A (.i 128)] [] [] 56 0 (.s [.k 11] [(2,0)] [1]
 .ret))
 (.seq (.j [.f 1 4,.l,.L .A (.i 0),.t 0,.yf 0 1 4,.yl 1,.yf 2 1 5,.yl 3,.y 4 (.len .A),.y 5 (.bin .geq .D .A),.pick .G (.c (.bool true)) .A] [] [] 67 0 (.s [.k 2] [(2,0)] [1]
 .ret))
 (.seq (.j [.f 1 6,.l,.n,.f 1 5,.l,.n,.N .D .A,.t 0,.yf 0 1 7,.yl 1,.y 2 (.len .A),.yf 3 1 5,.yl 4,.y 5 (.len .A),.y 6 (.bin .neq .D .A),.pick .H (.c (.bool true)) .A,.t 0,.yf 0 1 8,.yl 1,.y 2 (.len .A),.yf 3 1 5,.yl 4,.y 5 (.len .A),.y 6 (.bin .neq .D .A),.pick .H (.c (.bool true)) .A,.t 0,.yf 0 1 9,.yl 1,.y 2 (.len .A),.yf 3 1 5,.yl 4,.y 5 (.len .A),.y 6 (.bin .neq .D .A),.pick .H (.c (.bool true)) .A] [] [1] 101 0 (.s [.k 1] [(2,0)] []
 .ret))
 (.s [.k 0] [(2,0)] []
 .ret))))))))}
abbrev ahK:IC:=(.seq (.w [.v 3,.f 2 0,.l,.L .C .A] [] [] 54 0)
 (.seq (.block 1 (.j [.cK (.v 2) (some 10),.f 2 6,.l,.v 1,.i,.l,.v 3,.i,.l,.C xY [.I,.A],.not .A,.t 0,.yf 0 2 7,.yl 1,.yv 2 1,.y 3 (.bd .B .A 1),.yl 4,.yv 5 3,.y 6 (.bd .B .A 1),.yl 7,.y 8 (.bin .lss .A (.i 0)),.pick .J (.c (.bool true)) .A,.t 0,.yf 0 2 7,.yl 1,.yv 2 1,.y 3 (.bd .B .A 1),.yl 4,.yv 5 3,.y 6 (.bd .B .A 1),.yl 7,.yf 8 2 3,.yl 9,.y 10 (.bin .geq .C .A),.pick (.t 11) (.c (.bool true)) .A] [] [] 91 0 (.s [.k 2] [(7,0)] [1,2,3]
 .ret)))
 (.g [.v 3,.A .A (.i 1),.t 0] [(3,0)] [])))
abbrev ahL:IC:=(.seq (.i [.v 4,.f 2 1,.l,.L .C .A] [] [] 95 0 .skip (.exit 2))
 (.seq (.block 3 (.j [.cK (.v 2) (some 10),.f 2 8,.l,.v 1,.i,.l,.v 4,.i,.l,.C xY [.I,.A],.not .A] [] [] 108 0 (.s [.k 2] [(7,0)] [1,2,4]
 .ret)))
 (.g [.v 4,.A .A (.i 1),.t 0] [(4,0)] [])))
abbrev ahM:IC:=(.seq (.i [.v 6,.f 2 2,.l,.L .C .A] [] [] 130 0 .skip (.exit 6))
 (.seq (.block 7 (.j [.cK (.v 2) (some 10),.f 2 9,.l,.v 1,.i,.l,.v 5,.i,.l,.v 6,.i,.l,.C xY [(.t 11),.A],.not .A] [] [] 146 0 (.s [.k 2] [(7,0)] [1,2,5,6]
 .ret)))
 (.g [.v 6,.A .A (.i 1),.t 0] [(6,0)] [])))
abbrev ahN:IC:=(.seq (.i [.v 5,.f 2 3,.l,.L .C .A] [] [] 112 0 .skip (.exit 4))
 (.seq (.block 5 (.seq (.j [.f 2 9,.l,.v 1,.i,.l,.v 5,.i,.l,.n,.f 2 2,.l,.N .C .A] [] [] 126 0 (.s [.k 1] [(7,0)] [1,2,5]
 .ret))
 (.s [.k 0] [(6,0)] []
 (.o 6 ahM))))
 (.g [.v 5,.A .A (.i 1),.t 0] [(5,0)] [6])))
abbrev Gh:Fn:={np:=2,nv:=8,res:=[(7,none)],body:=
(.s [.eR (.v 0),.k 0] [(2,1)] [0,7]
 (.seq (.j [.f 2 6,.l,.v 1,.i,.l,.n,.f 2 0,.l,.N .C .A,.t 0,.yf 0 2 7,.yl 1,.yv 2 1,.y 3 (.bd .B .A 1),.yl 4,.y 5 (.len .A),.yf 6 2 0,.yl 7,.y 8 (.bin .neq .C .A),.pick .J (.c (.bool true)) .A,.t 0,.yf 0 2 8,.yl 1,.yv 2 1,.y 3 (.bd .B .A 1),.yl 4,.y 5 (.len .A),.yf 6 2 1,.yl 7,.y 8 (.bin .neq .C .A),.pick .J (.c (.bool true)) .A,.t 0,.yf 0 2 9,.yl 1,.yv 2 1,.y 3 (.bd .B .A 1),.yl 4,.y 5 (.len .A),.yf 6 2 3,.yl 7,.y 8 (.bin .neq .C .A),.pick .J (.c (.bool true)) .A] [] [] 50 0 (.s [.k 1] [(7,0)] [1,2]
 .ret))
 (.seq (.s [.k 0] [(3,0)] []
 (.o 0 ahK))
 (.seq (.s [.k 0] [(4,0)] [3]
 (.o 2 ahL))
 (.seq (.s [.k 0] [(5,0)] [4]
 (.o 4 ahN))
 (.s [.k 0] [(7,0)] [1,2,5]
 .ret))))))}
abbrev Gi:Fn:={np:=1,nv:=3,res:=[(2,none)],body:=
(.s [.eR (.v 0),.k 0] [(1,1)] [0,2]
 (.s [.f 1 0,.l,.f 1 1,.l,.A .C .A,.f 1 2,.l,.A .C .A,.t 0] [(2,0)] [1]
 .ret))}
abbrev ahO:IC:=(.seq (.w [.v 2,.f 1 5,.l,.n,.L .D .A] [] [] 18 0)
 (.seq (.block 1 (.seq (.j [.f 1 5,.l,.v 2,.i,.l,.not .A] [] [] 26 0 (.exit 1))
 (.s [.v 3,.t 0,.yv 0 4,.yf 1 1 4,.yl 2,.y 3 (.bd .C .A 1),.y 4 (.ld .A none),.yv 5 2,.y 6 (.bd .B .A 1),.y 7 (.ld .A none),.pick .I (.c (.bool true)) .A,.t 0] [(3,0)] []
 (.j [.v 5,.f 1 4,.l,.bd .C .A 1,.d,.v 2,.bd .B .A 2,.h 0 0,.d] [] [] 46 0 (.g [.ld (.v 6) (some 2),.v 5,.f 1 4,.l,.bd .C .A 1,.d,.v 2,.bd .B .A 2,.h 0 1,.d,.C rL [.J,.A],.st (.v 6) .A 2] [] [])))))
 (.g [.v 2,.A .A (.i 1),.t 0] [(2,0)] [])))
abbrev Gj:Fn:={np:=1,nv:=10,res:=[(7,none),(8,none),(9,none)],body:=
(.s [.eR (.v 0),.mv (.c (.ae)),.b,.k 0] [(1,3)] [0,7,8,9]
 (.s [.cK (.v 1) (some 10),.C AY [.A],.t 0] [(5,0)] []
 (.s [.cK (.v 1) (some 10),.C AZ [.A],.t 0] [(4,0)] []
 (.s [.ks [.bool false,.ae] (some 2)] [(6,0)] []
 (.s [.b] [(3,0)] []
 (.seq (.s [.k 0] [(2,0)] []
 (.o 0 ahO))
 (.seq (.j [.v 3,.t 0,.xf 0 6 0,.x 1 (.ld .A none),.x 2 (.not .A),.pick .D .A (.c (.bool false))] [] [1,2,3,4,5] 63 0 (.s [.mv (.c (.ae)),.b,.k 3] [(7,2),(8,1),(9,0)] [6]
 .ret))
 (.s [.f 6 1,.d,.bD [.A] 1,.C qv [.A],.f 6 0,.d,.t 2,.t 1,.k 0] [(7,2),(8,1),(9,0)] [6]
 .ret))))))))}
abbrev ahP:IC:=(.seq (.i [.v 7,.f 3 0,.l,.L .C .A] [] [] 51 0 .skip (.exit 4))
 (.seq (.block 5 (.s [.v 8,.f 3 6,.l,.v 5,.i,.l,.v 7,.i,.l,.v 4,.M .B .A,.f 2 6,.l,.v 6,.i,.l,.v 7,.i,.l,.A .I .A,.cp [.A] 1,.app (.t 20) .A none,.t 0] [(8,0)] []
 (.g [.v 9,.f 3 7,.l,.v 5,.i,.l,.v 7,.i,.l,.f 2 3,.l,.M .C .A,.f 2 7,.l,.v 6,.i,.l,.v 7,.i,.l,.A .I .A,.cp [.A] 1,.app (.t 21) .A none,.t 0] [(9,0)] [])))
 (.g [.v 7,.A .A (.i 1),.t 0] [(7,0)] [])))
abbrev ahQ:IC:=(.seq (.i [.v 10,.f 3 1,.l,.L .C .A] [] [] 102 0 .skip (.exit 6))
 (.seq (.block 7 (.g [.v 11,.f 3 8,.l,.v 5,.i,.l,.v 10,.i,.l,.v 4,.M .B .A,.f 2 8,.l,.v 6,.i,.l,.v 10,.i,.l,.A .I .A,.cp [.A] 1,.app (.t 20) .A none,.t 0] [(11,0)] []))
 (.g [.v 10,.A .A (.i 1),.t 0] [(10,0)] [])))
abbrev ahR:IC:=(.seq (.i [.v 6,.v 4,.L .B .A] [] [] 45 0 .skip (.exit 2))
 (.seq (.block 3 (.s [.nl none,.nl none,.nl none] [(8,2),(9,1),(11,0)] []
 (.seq (.s [.k 0] [(7,0)] []
 (.o 4 ahP))
 (.seq (.s [.k 0] [(10,0)] [7]
 (.o 6 ahQ))
 (.s [.f 12 5,.d,.f 3 5,.l,.v 5,.i,.l,.f 2 5,.l,.v 6,.i,.l,.p (.beq true .F .A),.cp [.A] 1,.app (.t 12) .A none,.f 12 5,.st .A .B 1] [] [10]
 (.s [.f 12 6,.d,.v 8,.cp [.A] 1,.cu .C .A none,.f 12 6,.st .A .B 1] [] [8]
 (.s [.f 12 7,.d,.v 9,.cp [.A] 1,.cu .C .A none,.f 12 7,.st .A .B 1] [] [9]
 (.s [.f 12 8,.d,.v 11,.cp [.A] 1,.cu .C .A none,.f 12 8,.st .A .B 1] [] [11]
 (.g [.f 12 9,.d,.cK (.v 3) (some 10),.cK (.v 2) (some 10),.v 5,.v 6,.C Hk [.D,.C,.B,.A],.cp [.A] 1,.app .G .A none,.f 12 9,.st .A .B 1] [] [])))))))))
 (.g [.v 6,.A .A (.i 1),.t 0] [(6,0)] [])))
abbrev ahS:IC:=(.seq (.w [.v 5,.f 3 5,.l,.n,.L .D .A] [] [] 40 0)
 (.seq (.block 1 (.s [.k 0] [(6,0)] []
 (.o 2 ahR)))
 (.g [.v 5,.A .A (.i 1),.t 0] [(5,0)] [6])))
abbrev Gk:Fn:={np:=2,nv:=14,res:=[(13,some (some 10))],body:=
(.s [.eR (.v 0),.eR (.v 1),.ks dV (some 10)] [(3,2),(2,1),(13,0)] [0,1]
 (.s [.f 2 5,.l,.n,.t 0] [(4,0)] []
 (.s [.f 3 0,.l,.f 3 1,.l,.f 3 2,.l,.f 3 3,.l,.f 2 3,.l,.M .C .A,.f 3 4,.l,.v 4,.M .B .A,.f 2 4,.l,.A .C .A,.ie dV [(0,1,(.t 16)),(1,1,(.t 14)),(2,1,(.t 12)),(3,1,.H),(4,1,.A)],.ks dV (some 10),.st .A .B 10] [(12,1)] []
 (.seq (.s [.k 0] [(5,0)] []
 (.o 0 ahS))
 (.s [.ld (.v 12) (some 10),.st (.v 13) .A 10] [] [2,3,4,5,12]
 .ret)))))}
abbrev Gl:Fn:={np:=2,nv:=4,res:=[(3,none)],body:=
(.s [.eR (.v 1),.k 0] [(2,1)] [1,3]
 (.seq (.block 0 (.i [.cK (.v 2) none,.C Hl [.A],.not .A,.t 0] [] [] 5 0 (.s [.k 2] [(3,0)] [0,2]
 .ret) (.i [.v 0,.n,.G .A (.i 1024),.t 0] [] [] 9 0 (.s [.k 3] [(3,0)] [0,2]
 .ret) (.j [.v 0,.p (.zU x4 [(.v 2)]),.C xZ [.B,.A],.t 0] [] [0,2] 13 0 (.s [.k 1] [(3,0)] []
 .ret)))))
 (.s [.k 0] [(3,0)] []
 .ret)))}
abbrev Gm:Fn:={np:=1,nv:=3,res:=[(2,none)],body:=
(.s [.eR (.v 0),.k 0] [(1,1)] [0,2]
 (.s [.f 1 0,.l,.f 1 1,.l,.A .C .A,.f 1 2,.l,.A .C .A,.t 0] [(2,0)] [1]
 .ret))}
abbrev ahT:IC:=(.r [.c 2 3] [] [] 14 0
 (.seq (.cond 14 .skip (.exit 0))
 (.seq (.block 1 (.s [.bd (.v 4) (.v 2) 1,.d,.t 0] [(5,0)] []
 (.seq (.block 2 (.i [.v 5,.f 6 0,.l,.L .C .A,.t 0] [] [] 17 0 (.g [.v 7,.A .A (.i 1),.t 0] [(7,0)] [5]) (.j [.v 5,.f 6 0,.l,.f 6 1,.l,.A .C .A,.bin .geq .F .A,.t 0] [] [5] 24 0 (.g [.v 7,.S .A (.i 1),.t 0] [(7,0)] []))))
 (.s [.v 8,.v 7,.p (.mx true .B .A),.t 0] [(8,0)] []
 (.g [.v 9,.t 0,.xv 0 7,.x 1 (.bin .geq .A (.i 0)),.pick .C .A (.c (.bool false)),.t 0] [(9,0)] [])))))
 (.g [.A (.v 2) (.i 1),.t 0] [(2,0)] []))))
abbrev Gn:Fn:={np:=2,nv:=12,res:=[(10,none),(11,none)],body:=
(.s [.eR (.v 0),.k 0,.b] [(6,2)] [0,10,11]
 (.s [.k 0,.k 0,.mv (.c (.bool true))] [(7,2),(8,1),(9,0)] []
 (.seq (.s [.v 1,.n,.k 0] [(4,2),(3,1),(2,0)] [1]
 (.o 0 ahT))
 (.s [.v 8,.v 9,.t 0,.xv 0 7,.x 1 (.bin .eql .A (.i 0)),.pick .C .A (.c (.bool false)),.t 5,.t 1] [(10,1),(11,0)] [2,3,4,6,7,8,9]
 .ret))))}
abbrev Gp:Fn:={np:=3,nv:=6,res:=[(4,none),(5,none)],body:=
(.s [.eR (.v 0),.k 0,.k 0] [(3,2)] [0,4,5]
 (.s [.dB (.v 3) 0 (some 10),.h 0 6,.l,.v 1,.i,.l,.v 2,.i,.l,.dB (.v 3) 0 (some 10),.h 0 7,.l,.v 1,.i,.l,.v 2,.i,.l,.t 9,.t 1] [(4,1),(5,0)] [1,2,3]
 .ret))}
abbrev Gq:Fn:={np:=2,nv:=2,res:=[],body:=
(.g [.v 0,.v 0,.q,.h 0 0,.d,.v 1,.cp [.A] 1,.cu .C .A none,.p (.nM .H),.h 0 0,.st .A .C 1] [] [0,1])}
abbrev Gr:Fn:={np:=3,nv:=5,res:=[(4,none)],body:=
(.s [.eR (.v 0),.k 0] [(3,1)] [0,4]
 (.s [.dB (.v 3) 0 (some 10),.h 0 8,.l,.v 1,.i,.l,.v 2,.i,.l,.t 0] [(4,0)] [1,2,3]
 .ret))}
abbrev Gs:Fn:={np:=4,nv:=6,res:=[(5,none)],body:=
(.s [.eR (.v 0),.k 0] [(4,1)] [0,5]
 (.s [.dB (.v 4) 0 (some 10),.h 0 9,.l,.v 1,.i,.l,.v 2,.i,.l,.v 3,.i,.l,.t 0] [(5,0)] [1,2,3,4]
 .ret))}
abbrev Gu:Fn:={np:=1,nv:=3,res:=[(2,none)],body:=
(.s [.k 0] [] [2]
 (.s [.v 0,.q,.h 0 0,.d,.v 0,.q,.h 0 0,.d,.n,.S .A (.i 1),.bd .G .A 1,.d,.t 0] [(1,0)] []
 (.s [.v 0,.v 0,.q,.h 0 0,.d,.v 0,.q,.h 0 0,.d,.n,.S .A (.i 1),.p (.pI .G none (some .A) 1),.p (.nM (.t 11)),.h 0 0,.st .A .C 1] [] [0]
 (.s [.v 1,.t 0] [(2,0)] [1]
 .ret))))}
abbrev Gv:Fn:={np:=2,nv:=4,res:=[(3,none)],body:=
(.s [.eR (.v 1),.b] [(2,1)] [1,3]
 (.s [.v 0,.p (.zU A0 [(.v 2)]),.C xZ [.B,.A],.t 0] [(3,0)] [0,2]
 .ret))}
abbrev ahU:IC:=(.r [.c 4 5] [] [] 86 0
 (.seq (.cond 86 .skip (.exit 0))
 (.seq (.block 1 (.s [.bd (.v 6) (.v 4) 1,.d,.t 0] [(7,0)] []
 (.seq (.j [.v 7,.n,.f 2 2,.l,.N .C .A] [] [] 93 0 (.s [.k 1] [(8,0)] [2,3,4,5,6,7]
 .ret))
 (.j [.v 7,.v 3,.C rO [.B,.A]] [] [7] 96 0 (.s [.k 2] [(8,0)] [2,3,4,5,6]
 .ret)))))
 (.g [.A (.v 4) (.i 1),.t 0] [(4,0)] []))))
abbrev Gx:Fn:={np:=2,nv:=9,res:=[(8,none)],body:=
(.s [.eR (.v 0),.k 0] [(2,1)] [0,8]
 (.s [.f 2 5,.l,.n,.t 0] [(3,0)] []
 (.seq (.j [.f 2 6,.l,.v 1,.i,.l,.n,.f 2 0,.l,.N .C .A,.t 0,.yf 0 2 7,.yl 1,.yv 2 1,.y 3 (.bd .B .A 1),.yl 4,.y 5 (.len .A),.yf 6 2 0,.yl 7,.y 8 (.bin .neq .C .A),.pick .J (.c (.bool true)) .A,.t 0,.yf 0 2 8,.yl 1,.yv 2 1,.y 3 (.bd .B .A 1),.yl 4,.y 5 (.len .A),.yf 6 2 1,.yl 7,.y 8 (.bin .neq .C .A),.pick .J (.c (.bool true)) .A,.t 0,.yf 0 2 9,.yl 1,.yv 2 1,.y 3 (.bd .B .A 1),.yl 4,.y 5 (.len .A),.yf 6 2 3,.yl 7,.y 8 (.bin .neq .C .A),.pick .J (.c (.bool true)) .A] [] [] 52 0 (.s [.k 1] [(8,0)] [1,2,3]
 .ret))
 (.seq (.j [.f 2 6,.l,.v 1,.i,.l,.v 3,.C rO [.B,.A],.t 0,.yf 0 2 7,.yl 1,.yv 2 1,.y 3 (.bd .B .A 1),.yl 4,.yf 5 2 3,.yl 6,.y 7 (.kl rO [.C,.A]),.pick .I (.c (.bool true)) .A,.t 0,.yf 0 2 8,.yl 1,.yv 2 1,.y 3 (.bd .B .A 1),.yl 4,.yv 5 3,.y 6 (.kl rO [.B,.A]),.pick .H (.c (.bool true)) .A] [] [] 78 0 (.s [.k 2] [(8,0)] [1,2,3]
 .ret))
 (.seq (.s [.f 2 9,.l,.v 1,.i,.l,.n,.k 0] [(6,2),(5,1),(4,0)] [1]
 (.o 0 ahU))
 (.s [.k 0] [(8,0)] [2,3,4,5,6]
 .ret))))))}
abbrev ahV:IC:=(.r [.c 2 3] [] [] 13 0
 (.seq (.cond 13 .skip (.exit 0))
 (.seq (.block 1 (.s [.bd (.v 4) (.v 2) 1,.d,.t 0] [(6,0)] []
 (.g [.v 5,.v 6,.cu .B .A none,.t 0] [(5,0)] [6])))
 (.g [.A (.v 2) (.i 1),.t 0] [(2,0)] []))))
abbrev Gy:Fn:={np:=1,nv:=8,res:=[(7,none)],body:=
(.s [.eR (.v 0),.mv (.c (.ae))] [(1,1)] [0,7]
 (.s [.f 1 4,.l,.p (.lZ [.A] none),.t 0] [(5,0)] []
 (.seq (.s [.f 1 6,.l,.n,.k 0] [(4,2),(3,1),(2,0)] [1]
 (.o 0 ahV))
 (.s [.v 5,.eZ yb [.A]] [] [2,3,4]
 (.s [.v 5,.eZ Hm [.A],.t 0] [(7,0)] [5]
 .ret)))))}
abbrev Gz:Fn:={np:=2,nv:=5,res:=[(4,none)],body:=
(.s [.k 0] [] [4]
 (.s [.v 0,.q,.h 0 13,.d,.v 1,.C xO [.A],.p (.tZ .C 1 .A (.int 0) true),.t 0,.e .A 0,.e .B 1,.t 1,.t 1] [(3,1),(2,0)] []
 (.seq (.j [.v 2,.not .A] [] [2] 18 0 (.s [.v 0,.q,.h 0 12,.d,.n,.t 0] [(3,0)] []
 (.s [.v 0,.q,.h 0 13,.d,.v 1,.C xO [.A],.v 3,.p (.tX .D 1 .B .A)] [] []
 (.g [.v 0,.v 0,.q,.h 0 12,.d,.v 1,.cp [.A] 1,.cu .C .A none,.p (.nM .H),.h 0 12,.st .A .C 1] [] [0,1]))))
 (.s [.v 3,.t 0] [(4,0)] [0,1,3]
 .ret))))}
abbrev OK:Fn:={np:=1,nv:=2,res:=[(1,none)],body:=
(.s [.mv (.c (.ae))] [] [1]
 (.seq (.j [.v 0,.p (.mP false .A)] [] [] 4 0 (.s [.mv (.c (.ae))] [(1,0)] [0]
 .ret))
 (.s [.p (.qP 1),.v 0,.cu .B .A none,.t 0] [(1,0)] [0]
 .ret)))}
abbrev ahW:IC:=(.r [.c 3 4] [] [] 19 0
 (.seq (.cond 19 .skip (.exit 0))
 (.seq (.block 1 (.s [.bd (.v 5) (.v 3) 1,.d,.t 0] [(7,0)] []
 (.g [.v 6,.v 0,.q,.dB .A 0 (some 10),.h 0 8,.d,.v 7,.i,.d,.v 2,.i,.d,.cp [.A] 1,.cu (.t 12) .A none,.t 0] [(6,0)] [7])))
 (.g [.A (.v 3) (.i 1),.t 0] [(3,0)] []))))
abbrev GA:Fn:={np:=3,nv:=9,res:=[(8,none)],body:=
(.s [.mv (.c (.ae))] [] [8]
 (.s [.nl none] [(6,0)] []
 (.seq (.s [.v 0,.q,.h 0 12,.d,.v 1,.i,.d,.n,.k 0] [(5,2),(4,1),(3,0)] [1]
 (.o 0 ahW))
 (.s [.v 6,.t 0] [(8,0)] [0,2,3,4,5,6]
 .ret))))}
abbrev ahX:IC:=(.r [.c 4 5] [] [] 16 0
 (.seq (.cond 16 .skip (.exit 0))
 (.seq (.block 1 (.s [.v 4,.t 0] [(7,0)] []
 (.g [.v 6,.v 0,.v 0,.v 1,.v 2,.v 3,.v 7,.p (.qN Hn [.E,.D,.C,.B,.A]),.eZ vq [.G,.A],.cp [.A] 1,.cu .J .A none,.t 0] [(6,0)] [7])))
 (.g [.A (.v 4) (.i 1),.t 0] [(4,0)] []))))
abbrev GB:Fn:={np:=4,nv:=8,res:=[],body:=
(.s [.nl none] [(6,0)] []
 (.seq (.s [.v 0,.q,.dB .A 0 (some 10),.h 0 2,.d,.k 0] [(5,1),(4,0)] []
 (.seq (.o 0 ahX) (.kO 6)))
 (.g [.v 0,.q,.h 0 15,.d,.v 1,.i,.d,.v 2,.v 0,.q,.h 0 15,.d,.v 1,.i,.d,.v 2,.i,.d,.v 6,.cp [.A] 1,.app .C .A none,.bd (.t 14) (.t 13) 1,.st .A .B 1] [] [0,1,2,3,4,5,6])))}
abbrev ahY:IC:=(.r [.c 2 3] [] [] 19 0
 (.seq (.cond 19 .skip (.exit 0))
 (.seq (.block 1 (.s [.v 2,.t 0] [(4,0)] []
 (.s [.v 0,.v 1,.v 4,.C A1 [.C,.B,.A],.p (.zK .A),.t 0] [(6,0)] []
 (.s [.v 5,.v 6,.p (.tZ .B 1 .A (.int 0) true),.t 0,.e .A 0,.e .B 1,.t 1,.t 1] [(8,1),(7,0)] []
 (.seq (.j [.v 7,.not .A] [] [7] 33 0 (.s [.v 5,.p (.ze .A),.t 0] [(8,0)] []
 (.g [.v 5,.v 6,.v 8,.p (.tX .C 1 .B .A)] [] [6])))
 (.g [.v 9,.v 4,.v 8,.bd .C .B 1,.st .A .B 1] [] [4,6,8]))))))
 (.g [.A (.v 2) (.i 1),.t 0] [(2,0)] []))))
abbrev GC:Fn:={np:=2,nv:=12,res:=[(10,none),(11,none)],body:=
(.s [.mv (.c (.ae)),.k 0] [] [10,11]
 (.s [.p (.wM),.t 0] [(5,0)] []
 (.s [.v 1,.n,.iH .A .A [.int 0] none,.t 0] [(9,0)] []
 (.seq (.s [.v 1,.n,.k 0] [(3,1),(2,0)] []
 (.o 0 ahY))
 (.s [.v 9,.v 5,.p (.ze .A),.t 2,.t 1] [(10,1),(11,0)] [0,1,2,3,5,9]
 .ret)))))}
abbrev Pw:fQ:=⟨[.k 0],[(6,0)],[],none⟩
abbrev Px:fQ:=⟨[.v 2,.n,.k 0],[(5,2),(4,1),(3,0)],[],none⟩
abbrev Py:IC:=(.r [.c 3 4] [] [] 14 0
 (.seq (.cond 14 .skip (.exit 0))
 (.seq (.block 1 (.s [.bd (.v 5) (.v 3) 1,.d,.t 0] [(7,0)] []
 (.g [.v 6,.v 7,.n,.A .C .A,.t 0] [(6,0)] [7])))
 (.g [.A (.v 3) (.i 1),.t 0] [(3,0)] []))))
abbrev Pz:fQ:=⟨[.v 0,.q,.h 0 1,.d,.v 1,.i,.d,.t 0],[(8,0)],[3,4,5],none⟩
abbrev PA:fQ:=⟨[.v 6,.G .A (.i 1024),.t 0,.yv 0 0,.y 1 (.nM .A),.y 2 (.dB .A 2 none),.y 3 (.ld .A none),.yv 4 1,.y 5 (.bd .B .A 1),.y 6 (.ld .A none),.pick .H (.c (.bool true)) .A,.t 0,.yv 0 8,.y 1 (.mP true .A),.y 2 (.mv .A),.xv 0 8,.x 1 (.len .A),.xv 2 6,.x 3 (.bin .lss .B .A),.y 7 (.pick .E .A (.c (.bool false))),.pick .I (.c (.bool true)) .A],[],[],some (49,0)⟩
abbrev Hv:fQ:=⟨[.cp [] 1,.v 2,.C vi [.A],.cu .C .A none,.t 0],[(9,0)],[2],none⟩
abbrev PB:fQ:=⟨[.v 8,.p (.mP true .A),.t 0,.xv 0 8,.xv 1 9,.x 2 (.kl nX [.B,.A]),.x 3 (.bin .leq .A (.i 0)),.pick .E .A (.c (.bool false))],[],[],some (61,0)⟩
abbrev PD:fQ:=⟨[.v 0,.q,.h 0 1,.d,.v 1,.v 9,.bd .C .B 1,.st .A .B 1],[],[9],none⟩
abbrev PF:fQ:=⟨[.v 8,.p (.mP false .A),.t 0,.yv 0 8,.y 1 (.len .A),.yv 2 6,.y 3 (.bin .gtr .B .A),.pick .E (.c (.bool true)) .A],[],[8],some (76,0)⟩
abbrev Hw:fQ:=⟨[.v 0,.q,.h 0 3,.d,.v 6,.v 0,.q,.h 0 3,.d,.v 6,.i,.d,.v 1,.cp [.A] 1,.app .C .A none,.bd (.t 11) (.t 10) 1,.st .A .B 1],[],[0,1,6],none⟩
abbrev rN:Fn:={np:=3,nv:=10,res:=[],body:=
(.seq (.cq Pw)
 (.seq (.seq (.cq Px)
 (.o 0 Py))
 (.seq (.cq Pz)
 (.seq (.seq (.cq PA)
 (.cond 49 .ret .skip))
 (.seq (.seq (.cq Hv) (.kO 9))
 (.seq (.seq (.cq PB)
 (.cond 61 .ret .skip))
 (.seq (.cq PD)
 (.seq (.cq PF)
 (.cond 76 (.cq Hw) .skip)))))))))}
abbrev ahZ:IC:=(.r [.c 2 3] [] [] 17 0
 (.seq (.cond 17 .skip (.exit 0))
 (.seq (.block 1 (.s [.bd (.v 4) (.v 2) 1,.d,.t 0] [(5,0)] []
 (.j [.v 0,.q,.h 0 2,.d,.v 5,.i,.d,.not .A] [] [] 27 0 (.s [.v 0,.q,.h 0 2,.d,.v 5,.i,.st .A (.c (.bool true)) 1] [] []
 (.g [.v 6,.v 5,.cp [.A] 1,.cu .C .A none,.t 0] [(6,0)] [5])))))
 (.g [.A (.v 2) (.i 1),.t 0] [(2,0)] [5]))))
abbrev GD:Fn:={np:=2,nv:=8,res:=[(7,none)],body:=
(.s [.mv (.c (.ae))] [] [7]
 (.s [.nl none] [(6,0)] []
 (.seq (.s [.v 0,.q,.h 0 3,.d,.v 1,.i,.d,.n,.k 0] [(4,2),(3,1),(2,0)] [1]
 (.o 0 ahZ))
 (.s [.v 6,.t 0] [(7,0)] [0,2,3,4,6]
 .ret))))}
abbrev ah0:IC:=(.r [.c 3 4] [] [] 23 0
 (.seq (.cond 23 .skip (.exit 0))
 (.seq (.block 1 (.s [.v 3,.bd (.v 5) (.v 3) 1,.d,.t 2,.t 1] [(7,1),(6,0)] []
 (.g [.v 0,.v 6,.v 0,.q,.h 0 1,.d,.v 1,.i,.d,.v 2,.q,.dB .A 0 (some 10),.h 0 0,.d,.v 7,.A .B .A,.bD [.A] 1,.bD [.I,.A] 1,.eZ tt [(.t 17),(.t 16),.A]] [] [6,7])))
 (.g [.A (.v 3) (.i 1),.t 0] [(3,0)] []))))
abbrev ah1:IC:=(.r [.c 11 12] [] [] 62 0
 (.seq (.cond 62 .skip (.exit 4))
 (.seq (.block 5 (.s [.v 11,.t 0] [(13,0)] []
 (.s [.v 0,.v 1,.v 13,.v 14,.eZ A6 [.D,.C,.B,.A]] [] []
 (.g [.v 0,.v 14,.v 13,.v 1,.eZ A6 [.D,.C,.B,.A]] [] [13]))))
 (.g [.A (.v 11) (.i 1),.t 0] [(11,0)] []))))
abbrev ah2:IC:=(.r [.c 8 9] [] [] 53 0
 (.seq (.cond 53 .skip (.exit 2))
 (.seq (.block 3 (.s [.bd (.v 10) (.v 8) 1,.d,.t 0] [(14,0)] []
 (.s [.v 2,.q,.dB .A 0 (some 10),.h 0 0,.d,.k 0] [(12,1),(11,0)] []
 (.o 4 ah1))))
 (.g [.A (.v 8) (.i 1),.t 0] [(8,0)] [11,12,14]))))
abbrev GF:Fn:={np:=2,nv:=15,res:=[],body:=
(.s [.v 0,.q,.h 0 0,.d,.t 0] [(2,0)] []
 (.seq (.s [.v 2,.q,.h 0 14,.d,.v 1,.i,.d,.n,.k 0] [(5,2),(4,1),(3,0)] []
 (.o 0 ah0))
 (.s [.v 0,.q,.h 0 4,.d,.n,.k 0] [(10,2),(9,1),(8,0)] [3,4,5]
 (.o 2 ah2))))}
abbrev ah3:IC:=(.r [.c 1 2] [] [] 9 0
 (.seq (.cond 9 .skip (.exit 0))
 (.seq (.block 1 (.s [.bd (.v 3) (.v 1) 1,.d,.t 0] [(4,0)] []
 (.j [.v 4,.v 5,.N .B .A] [] [] 14 0 (.s [.v 4,.t 0] [(6,0)] [1,2,3,4,5]
 .ret))))
 (.g [.A (.v 1) (.i 1),.t 0] [(1,0)] [4]))))
abbrev GG:Fn:={np:=1,nv:=7,res:=[(6,none)],body:=
(.s [.k 0] [] [6]
 (.s [.k 0] [(5,0)] []
 (.seq (.s [.v 0,.n,.k 0] [(3,2),(2,1),(1,0)] [0]
 (.o 0 ah3))
 (.s [.v 5,.t 0] [(6,0)] [1,2,3,5]
 .ret))))}
abbrev GH:Fn:={np:=2,nv:=5,res:=[(4,none)],body:=
(.s [.k 0] [] [4]
 (.s [.v 0,.C A7 [.A],.t 0] [(2,0)] []
 (.s [.v 1,.C A7 [.A],.t 0] [(3,0)] []
 (.seq (.j [.v 2] [] [2] 11 0 (.seq (.j [.v 3] [] [0,1,3] 12 0 (.s [.k 0] [(4,0)] []
 .ret))
 (.s [.mv (.i (-1))] [(4,0)] []
 .ret)))
 (.seq (.j [.v 3] [] [3] 13 0 (.s [.k 1] [(4,0)] [0,1]
 .ret))
 (.seq (.j [.v 0,.v 1,.L .B .A] [] [] 16 0 (.s [.mv (.i (-1))] [(4,0)] [0,1]
 .ret))
 (.seq (.j [.v 0,.v 1,.G .B .A] [] [0,1] 19 0 (.s [.k 1] [(4,0)] []
 .ret))
 (.s [.k 0] [(4,0)] []
 .ret))))))))}
abbrev ah4:IC:=(.r [.c 2 3] [] [] 12 0
 (.seq (.cond 12 .skip (.exit 0))
 (.seq (.block 1 (.s [.v 2,.bd (.v 4) (.v 2) 1,.d,.t 2,.t 1] [(5,1),(6,0)] []
 (.seq (.j [.v 5,.v 1,.n,.bin .geq .C .A] [] [] 19 0 (.s [.k 1] [(9,0)] [0,1,2,3,4,5,6]
 .ret))
 (.s [.v 1,.v 5,.i,.d,.t 0] [(7,0)] [5]
 (.s [.v 6,.v 7,.C AX [.B,.A],.t 0] [(8,0)] [6,7]
 (.j [.v 8,.N .A (.i 0)] [] [] 28 0 (.s [.v 8,.t 0] [(9,0)] [0,1,2,3,4,8]
 .ret)))))))
 (.g [.A (.v 2) (.i 1),.t 0] [(2,0)] [8]))))
abbrev GI:Fn:={np:=2,nv:=10,res:=[(9,none)],body:=
(.s [.k 0] [] [9]
 (.seq (.s [.v 0,.n,.k 0] [(4,2),(3,1),(2,0)] []
 (.o 0 ah4))
 (.seq (.j [.v 0,.n,.v 1,.n,.L .C .A] [] [0,1,2,3,4] 35 0 (.s [.mv (.i (-1))] [(9,0)] []
 .ret))
 (.s [.k 0] [(9,0)] []
 .ret))))}
abbrev ah5:IC:=(.r [.c 2 3] [] [] 9 0
 (.seq (.cond 9 .skip (.exit 0))
 (.seq (.block 1 (.s [.v 2,.t 0] [(4,0)] []
 (.j [.v 1,.v 0,.v 4,.bd .B .A 3,.ld .A (some 3),.p (.kR .E [.A])] [] [] 16 0 (.s [.v 4,.t 0] [(5,0)] [0,1,2,3,4]
 .ret))))
 (.g [.A (.v 2) (.i 1),.t 0] [(2,0)] [4]))))
abbrev GJ:Fn:={np:=2,nv:=6,res:=[(5,none)],body:=
(.s [.k 0] [] [5]
 (.seq (.s [.v 0,.n,.k 0] [(3,1),(2,0)] []
 (.o 0 ah5))
 (.s [.mv (.i (-1))] [(5,0)] [0,1,2,3]
 .ret)))}
abbrev ah6:IC:=(.r [.c 5 6] [] [] 32 0
 (.seq (.cond 32 .skip (.exit 2))
 (.seq (.block 3 (.s [.v 5,.t 0] [(9,0)] []
 (.g [.v 7,.v 8,.f 2 0,.l,.M .C .A,.v 9,.A .B .A,.cp [.A] 1,.cu .H .A none,.t 0] [(7,0)] [9])))
 (.g [.A (.v 5) (.i 1),.t 0] [(5,0)] []))))
abbrev ah7:IC:=(.r [.c 12 13] [] [] 50 0
 (.seq (.cond 50 .skip (.exit 4))
 (.seq (.block 5 (.s [.v 12,.t 0] [(14,0)] []
 (.g [.v 11,.v 14,.f 2 2,.l,.iH .A .A [.int 0] none,.bd .E .D 1,.st .A .B 1] [] [14])))
 (.g [.A (.v 12) (.i 1),.t 0] [(12,0)] []))))
abbrev ah8:IC:=(.r [.c 3 4] [] [] 27 0
 (.seq (.cond 27 .skip (.exit 0))
 (.seq (.block 1 (.s [.v 3,.t 0] [(8,0)] []
 (.s [.nl none] [(7,0)] []
 (.seq (.s [.f 2 0,.l,.k 0] [(6,1),(5,0)] []
 (.o 2 ah6))
 (.s [.f 10 3,.d,.iH .A .A [.ae] none,.t 0] [(11,0)] [5,6,8]
 (.seq (.s [.v 11,.n,.k 0] [(13,1),(12,0)] []
 (.o 4 ah7))
 (.s [.f 10 6,.d,.f 2 0,.l,.iH .A .A [.int 0] none,.cp [.A] 1,.app .E .A none,.f 10 7,⟨.ld .A none,none,true⟩,.v 7,.cp [.A] 1,.app .C .A none,.f 10 6,.st .A .G 1,.f 10 7,.st .A .D 1] [] [7,12,13]
 (.g [.f 10 8,.d,.f 2 1,.l,.iH .A .A [.int 0] none,.cp [.A] 1,.app .E .A none,.f 10 9,⟨.ld .A none,none,true⟩,.v 11,.cp [.A] 1,.app .C .A none,.f 10 8,.st .A .G 1,.f 10 9,.st .A .D 1] [] [11]))))))))
 (.g [.A (.v 3) (.i 1),.t 0] [(3,0)] []))))
abbrev GK:Fn:={np:=2,nv:=16,res:=[(15,some (some 10))],body:=
(.s [.eR (.v 0),.ks dV (some 10)] [(2,1),(15,0)] [0]
 (.s [.f 2 0,.l,.f 2 1,.l,.f 2 2,.l,.v 1,.f 2 0,.l,.M .C .A,.p (.mx true (.i 1) .A),.v 1,.iH .A .A [.bool false] none,.ie dV [(0,1,(.t 11)),(1,1,.J),(2,1,.H),(3,1,.C),(5,1,.A)],.ks dV (some 10),.st .A .B 10] [(10,1)] []
 (.seq (.s [.v 1,.k 0] [(4,1),(3,0)] [1]
 (.o 0 ah8))
 (.s [.ld (.v 10) (some 10),.st (.v 15) .A 10] [] [2,3,4,10]
 .ret))))}
abbrev GL:Fn:={np:=2,nv:=3,res:=[(2,none)],body:=
(.s [.b] [] [2]
 (.s [.v 0,.n,.v 1,.n,.E .C .A,.t 0,.xv 0 0,.xv 1 1,.x 2 (.kl Ax [.B,.A]),.xv 3 0,.x 4 (.len .A),.x 5 (.bin .eql .C .A),.pick .G .A (.c (.bool false)),.t 0] [(2,0)] [0,1]
 .ret))}
abbrev ah9:IC:=(.seq (.w [.v 1,.v 0,.n,.L .C .A] [] [] 8 0)
 (.seq (.block 1 (.g [.v 2,.v 0,.v 1,.i,.d,.cu .E .A none,.t 0] [(2,0)] []))
 (.g [.v 1,.A .A (.i 1),.t 0] [(1,0)] [])))
abbrev GM:Fn:={np:=1,nv:=4,res:=[(3,none)],body:=
(.s [.mv (.c (.ae))] [] [3]
 (.s [.nl none] [(2,0)] []
 (.seq (.s [.k 0] [(1,0)] []
 (.o 0 ah9))
 (.s [.v 2,.t 0] [(3,0)] [0,1,2]
 .ret))))}
abbrev GN:Fn:={np:=2,nv:=3,res:=[(2,none)],body:=
(.s [.k 0] [] [2]
 (.seq (.j [.v 0,.n,.v 1,.n,.L .C .A] [] [] 9 0 (.s [.mv (.i (-1))] [(2,0)] [0,1]
 .ret))
 (.seq (.j [.v 0,.n,.v 1,.n,.G .C .A] [] [] 14 0 (.s [.k 1] [(2,0)] [0,1]
 .ret))
 (.s [.v 0,.v 1,.C Ho [.B,.A],.t 0] [(2,0)] [0,1]
 .ret))))}
abbrev aia:IC:=(.seq (.w [.v 2,.v 0,.n,.L .C .A] [] [] 14 0)
 (.seq (.block 1 (.j [.v 0,.v 2,.i,.d,.v 1,.v 2,.i,.d,.N .E .A] [] [] 25 0 (.s [.b] [(3,0)] [0,1,2]
 .ret)))
 (.g [.v 2,.A .A (.i 1),.t 0] [(2,0)] [])))
abbrev GP:Fn:={np:=2,nv:=4,res:=[(3,none)],body:=
(.s [.b] [] [3]
 (.seq (.j [.v 0,.n,.v 1,.n,.N .C .A] [] [] 10 0 (.s [.b] [(3,0)] [0,1]
 .ret))
 (.seq (.s [.k 0] [(2,0)] []
 (.o 0 aia))
 (.s [.mv (.c (.bool true))] [(3,0)] [0,1,2]
 .ret))))}
abbrev aib:IC:=(.block 1 (.s [.v 0,.eZ Hp [.A],.t 0,.e .A 0,.e .B 1,.e .C 2,.t 2,.t 2,.t 2] [(4,2),(2,1),(1,0)] []
 (.seq (.j [.v 1,.N .A (.i 0),.t 0,.yv 0 2,.y 1 (.not .A),.pick .C (.c (.bool true)) .A] [] [2] 18 0 (.s [.v 1,.t 0] [(5,0)] [0,1,4]
 .ret))
 (.seq (.s [.v 0,.q,.h 0 10,.d,.n,.A .A (.i 1),.t 0] [(3,0)] [1]
 (.j [.v 3,.G .A (.i 128),.t 0,.yv 0 3,.yv 1 0,.y 2 (.nM .A),.y 3 (.dB .A 0 (some 10)),.y 4 (.dB .A 0 none),.y 5 (.ld .A none),.y 6 (.bin .mul .F .A),.y 7 (.bin .gtr .A (.i 128)),.pick .I (.c (.bool true)) .A] [] [3] 37 0 (.s [.k 11] [(5,0)] [0,4]
 .ret)))
 (.g [.v 0,.v 0,.q,.h 0 10,.d,.v 4,.bD [.A] 1,.bD [.C,.A] 1,.C A8 [.A],.p (.nM .I),.h 0 10,.st .A .C 1] [] [4])))))
abbrev GQ:Fn:={np:=1,nv:=6,res:=[(5,none)],body:=
(.s [.k 0] [] [5]
 (.o 0 aib))}
abbrev aic:IC:=(.r [.c 11 12] [] [] 68 0
 (.seq (.cond 68 .skip (.exit 2))
 (.seq (.block 3 (.s [.v 11,.t 0] [(13,0)] []
 (.seq (.s [.v 0,.v 0,.v 6,.v 13,.eZ AE [.C,.B,.A],.eZ rH [.E,.A],.t 0,.e .A 0,.e .B 1,.t 1,.t 1] [(10,1),(7,0)] []
 (.j [.v 7,.N .A (.i 0)] [] [] 80 0 (.s [.ie dV [],.v 7,.st (.v 2) .B 10,.t 1] [(26,0)] [0,3,4,5,6,7,8,9,10,11,12,13,14]
 .ret)))
 (.g [.f 8 8,.d,.v 9,.i,.d,.v 13,.v 14,.v 10,.p (.tZ .B 1 .A (.int 0) false),.bd .E .D 1,.st .A .B 1] [] [7,10,13]))))
 (.g [.A (.v 11) (.i 1),.t 0] [(11,0)] []))))
abbrev aid:IC:=(.r [.c 20 21] [] [] 118 0
 (.seq (.cond 118 .skip (.exit 8))
 (.seq (.block 9 (.s [.v 20,.t 0] [(24,0)] []
 (.seq (.s [.v 0,.v 0,.v 22,.v 23,.v 6,.v 24,.eZ AF [.E,.D,.C,.B,.A],.eZ rH [.G,.A],.t 0,.e .A 0,.e .B 1,.t 1,.t 1] [(10,1),(7,0)] []
 (.j [.v 7,.N .A (.i 0)] [] [] 132 0 (.s [.ie dV [],.v 7,.st (.v 2) .B 10,.t 1] [(26,0)] [0,3,4,5,6,7,8,9,10,14,15,16,17,18,19,20,21,22,23,24,25]
 .ret)))
 (.g [.f 8 9,.d,.v 9,.i,.d,.v 25,.v 0,.q,.dB .A 0 (some 10),.h 0 0,.d,.M .F .A,.v 23,.A .B .A,.bd .J .A 1,.d,.v 24,.v 14,.v 10,.p (.tZ .B 1 .A (.int 0) false),.bd .E .D 1,.st .A .B 1] [] [7,10,24]))))
 (.g [.A (.v 20) (.i 1),.t 0] [(20,0)] []))))
abbrev aie:IC:=(.r [.c 18 19] [] [] 110 0
 (.seq (.cond 110 .skip (.exit 6))
 (.seq (.block 7 (.s [.v 18,.t 0] [(23,0)] []
 (.s [.v 0,.q,.dB .A 0 (some 10),.h 0 2,.d,.k 0] [(21,1),(20,0)] []
 (.o 8 aid))))
 (.g [.A (.v 18) (.i 1),.t 0] [(18,0)] [20,21,23]))))
abbrev aif:IC:=(.r [.c 15 16] [] [] 100 0
 (.seq (.cond 100 .skip (.exit 4))
 (.seq (.block 5 (.s [.v 15,.bd (.v 17) (.v 15) 1,.d,.t 2,.t 1] [(25,1),(22,0)] []
 (.s [.v 0,.q,.dB .A 0 (some 10),.h 0 0,.d,.k 0] [(19,1),(18,0)] []
 (.o 6 aie))))
 (.g [.A (.v 15) (.i 1),.t 0] [(15,0)] [18,19,22,25]))))
abbrev aih:IC:=(.r [.c 3 4] [] [] 41 0
 (.seq (.cond 41 .skip (.exit 0))
 (.seq (.block 1 (.s [.v 3,.bd (.v 5) (.v 3) 1,.d,.t 2,.t 1] [(9,1),(6,0)] []
 (.s [.v 0,.v 6,.eZ rH [.B,.A],.t 0,.e .A 0,.e .B 1,.t 1,.t 1] [(10,1),(7,0)] []
 (.seq (.j [.v 7,.N .A (.i 0)] [] [] 52 0 (.s [.ie dV [],.v 7,.st (.v 2) .B 10,.t 1] [(26,0)] [0,3,4,5,6,7,8,9,10,14]
 .ret))
 (.s [.f 8 5,.d,.v 9,.v 10,.p (.JO .A (.i 0)),.p (.JP false .A (.c (.ik 4 (43)))),.bd .E .D 1,.st .A .B 1] [] [7,10]
 (.seq (.s [.v 0,.q,.dB .A 0 (some 10),.h 0 1,.d,.k 0] [(12,1),(11,0)] []
 (.o 2 aic))
 (.s [.v 0,.q,.h 0 10,.d,.n,.k 0] [(17,2),(16,1),(15,0)] [11,12]
 (.o 4 aif))))))))
 (.g [.A (.v 3) (.i 1),.t 0] [(3,0)] [6,9,15,16,17]))))
abbrev GR:Fn:={np:=1,nv:=27,res:=[(2,some (some 10)),(26,none)],body:=
(.s [.ks dV (some 10),.k 0] [(2,1)] [26]
 (.s [.v 0,.eZ Ay [.A],.t 0,.e .A 0,.e .B 1,.t 1,.t 1] [(14,1),(1,0)] []
 (.seq (.j [.v 1,.N .A (.i 0)] [] [] 22 0 (.s [.ie dV [],.v 1,.st (.v 2) .B 10,.t 1] [(26,0)] [0,1,14]
 .ret))
 (.s [.v 0,.q,.dB .A 0 (some 10),.ld .A (some 10),.v 0,.q,.h 0 10,.d,.n,.p (.can vt [.F,.A]),.ks dV (some 10),.st .A .B 10] [(8,1)] [1]
 (.seq (.s [.v 0,.q,.h 0 10,.d,.n,.k 0] [(5,2),(4,1),(3,0)] []
 (.o 0 aih))
 (.s [.ld (.v 8) (some 10),.st (.v 2) .A 10,.k 0] [(26,0)] [0,3,4,5,8,14]
 .ret))))))}
abbrev GS:Fn:={np:=1,nv:=3,res:=[(2,none)],body:=
(.s [.eR (.v 0),.k 0] [(1,1)] [0,2]
 (.s [.dB (.v 1) 0 (some 10),.cK .A (some 10),.C jl [.A],.dB (.v 1) 10 (some 10),.cK .A (some 10),.C jl [.A],.M .D .A,.t 0] [(2,0)] [1]
 .ret))}
abbrev GU:Fn:={np:=2,nv:=5,res:=[(3,none),(4,none)],body:=
(.s [.eR (.v 0),.k 0,.k 0] [(2,2)] [0,3,4]
 (.s [.v 1,.dB (.v 2) 10 (some 10),.cK .A (some 10),.C jl [.A],.bin .quo .D .A,.v 1,.dB (.v 2) 10 (some 10),.cK .A (some 10),.C jl [.A],.bin .rem .D .A,.t 5,.t 1] [(3,1),(4,0)] [1,2]
 .ret))}
end Ab
