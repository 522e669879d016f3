/- The functions of the program as small texts, printed by a tool of mine. Condition: none. -/
import Derived.Test.YtdenhmniigikcaaGreatAbBase
set_option linter.all false
namespace Ab
abbrev Ln.l:Ln:=.p (.cW (.t 0) none)
abbrev Ln.d:Ln:=.p (.ld (.t 0) none)
abbrev Ln.k (n:Int):Ln:=.p (.mv (.c (.int n)))
abbrev Ln.i:Ln:=.p (.bu (.t 1) (.t 0) 1)
abbrev Ln.n:Ln:=.p (.len (.t 0))
abbrev Ln.q:Ln:=.p (.o9 (.t 0))
abbrev Ln.f (v o:Nat):Ln:=.p (.cV (.v v) o none)
abbrev Ln.h (v o:Nat):Ln:=.p (.cV (.t v) o none)
abbrev Ln.b:Ln:=.p (.mv (.c (.bool false)))
abbrev Ln.c (a b:Nat):Ln:=.p (.bin .lss (.v a) (.v b))
abbrev dJ:List AV:=[.int 0,.int 0,.int 0,.int 0,.int 0,.ag,.ag,.ag,.ag,.ag]
abbrev Ln.bu (a b:Rf) (n:Nat):Ln:=.p (.bu a b n)
abbrev Ln.st (a b:Rf) (n:Nat):Ln:=.p (.st a b n)
abbrev Ln.pick (a b c:Rf):Ln:=.p (.pick a b c)
abbrev Ln.mv (a:Rf):Ln:=.p (.mv a)
abbrev Ln.cW (a:Rf) (n:Option Nat):Ln:=.p (.cW a n)
abbrev Ln.cV (a:Rf) (n:Nat) (k:Option Nat):Ln:=.p (.cV a n k)
abbrev Ln.bN (a:List Rf) (n:Nat):Ln:=.p (.bN a n)
abbrev Ln.bW (a:List Rf) (n:Nat):Ln:=.p (.bW a n)
abbrev Ln.fD (a:Rf):Ln:=.p (.fD a)
abbrev Ln.fE (f:Nat) (a:List Rf):Ln:=.p (.fE f a)
abbrev Ln.cp (a b:Rf) (k:Option Nat):Ln:=.p (.cp a b k)
abbrev Ln.iz (a:List AV) (b:List (Nat×Nat×Rf)):Ln:=.p (.iz a b)
abbrev Ln.lW (a:List AV) (k:Option Nat):Ln:=.p (.lW a k)
abbrev Ln.jc (a b:Rf) (z:List AV) (k:Option Nat):Ln:=.p (.jc a b z k)
abbrev Ln.ld (a:Rf) (k:Option Nat):Ln:=.p (.ld a k)
abbrev Ln.bin (o:AP) (a b:Rf):Ln:=.p (.bin o a b)
abbrev Ln.app (a b:Rf) (k:Option Nat):Ln:=.p (.app a b k)
abbrev Ln.nl (k:Option Nat):Ln:=.p (.nl k)
abbrev Ln.not (a:Rf):Ln:=.p (.not a)
abbrev Ln.fN (a b:Rf) (n:Nat) (k:Option Nat):Ln:=.p (.fN a b n k)
abbrev Ln.jX (a b:Rf) (n:Nat):Ln:=.p (.jX a b n)
abbrev Ln.xv (k n:Nat):Ln:=.x k (.mv (.v n))
abbrev Ln.xl (k:Nat):Ln:=.x k (.cW (.t 0) none)
abbrev Ln.xf (k n o:Nat):Ln:=.x k (.cV (.v n) o none)
abbrev Ln.yv (k n:Nat):Ln:=.y k (.mv (.v n))
abbrev Ln.yl (k:Nat):Ln:=.y k (.cW (.t 0) none)
abbrev Ln.yf (k n o:Nat):Ln:=.y k (.cV (.v n) o none)
abbrev Rf.i (n:Int):Rf:=.c (.int n)
abbrev Rf.A:Rf:=.t 0
abbrev Rf.B:Rf:=.t 1
abbrev Rf.C:Rf:=.t 2
abbrev Rf.D:Rf:=.t 3
abbrev Rf.E:Rf:=.t 4
abbrev Rf.F:Rf:=.t 5
abbrev Rf.G:Rf:=.t 6
abbrev Rf.H:Rf:=.t 7
abbrev Rf.I:Rf:=.t 8
abbrev Rf.J:Rf:=.t 9
abbrev Ln.A (a b:Rf):Ln:=.p (.bin .add a b)
abbrev Ln.L (a b:Rf):Ln:=.p (.bin .lss a b)
abbrev Ln.N (a b:Rf):Ln:=.p (.bin .neq a b)
abbrev Ln.E (a b:Rf):Ln:=.p (.bin .eql a b)
abbrev Ln.G (a b:Rf):Ln:=.p (.bin .gtr a b)
abbrev Ln.S (a b:Rf):Ln:=.p (.bin .sub a b)
abbrev Ln.M (a b:Rf):Ln:=.p (.bin .mul a b)
abbrev Ln.C (f:Nat) (l:List Rf):Ln:=.p (.k9 f l)
abbrev Ln.e (a:Rf) (n:Nat):Ln:=.p (.ext a n)
abbrev IC.o (n:Nat) (b:IC):IC:=.block n (.loop b)
abbrev IC.g (l:List Ln) (w:List (Nat×Nat)) (d:List Nat):IC:=.cF ⟨l,w,d,none⟩
abbrev IC.s (l:List Ln) (w:List (Nat×Nat)) (d:List Nat) (c:IC):IC:=.seq (.cF ⟨l,w,d,none⟩) c
abbrev IC.r (l:List Ln) (w:List (Nat×Nat)) (d:List Nat) (a b:Nat) (c:IC):IC:=.seq (.cF ⟨l,w,d,some (a,b)⟩) c
abbrev IC.i (l:List Ln) (w:List (Nat×Nat)) (d:List Nat) (a b:Nat) (x y:IC):IC:=.seq (.cF ⟨l,w,d,some (a,b)⟩) (.cond a x y)
abbrev IC.j (l:List Ln) (w:List (Nat×Nat)) (d:List Nat) (a b:Nat) (x:IC):IC:=.seq (.cF ⟨l,w,d,some (a,b)⟩) (.cond a x .skip)
abbrev IC.w (l:List Ln) (w:List (Nat×Nat)) (d:List Nat) (a b:Nat):IC:=.seq (.cF ⟨l,w,d,some (a,b)⟩) (.cond a .skip (.exit 0))
abbrev IC.V (a:Nat) (k:List Nat):IC:=.g [.A (.v a) (.i 1),.t 0] [(a,0)] k
abbrev IC.U (a:Nat) (k:List Nat):IC:=.g [.v a,.A .A (.i 1),.t 0] [(a,0)] k
abbrev IC.H (a b:Nat) (x:IC):IC:=.seq (.cond a .skip (.exit b)) x
abbrev IC.m (a b:Nat) (k:List Nat) (x:IC):IC:=.s [.v a,.t 0] [(b,0)] k x
abbrev IC.k (n:Int) (b:Nat) (k:List Nat) (x:IC):IC:=.s [.k n] [(b,0)] k x
abbrev IC.z (a b n c:Nat) (k:List Nat) (x:IC):IC:=.s [.bu (.v a) (.v b) n,.d,.t 0] [(c,0)] k x
abbrev IC.Z (a b f e n:Nat) (k:List Nat) (x:IC):IC:=.r [.c a b] [] [] f 0 (.H f e (.seq (.block n x) (.V a k)))
abbrev HR:Nat:=178
abbrev jH:Nat:=150
abbrev j5:Nat:=110
abbrev aqz:Nat:=9
def Rl:Nat:=3
def Jk:Nat:=9
def zA:Nat:=10
def rZ:Nat:=11
def zB:Nat:=12
def zC:Nat:=13
def Jl:Nat:=14
def Jm:Nat:=16
def HK:Nat:=20
def Jn:Nat:=21
def Cq:Nat:=22
def Cr:Nat:=23
def uV:Nat:=24
def Jo:Nat:=25
def Cs:Nat:=26
def Ct:Nat:=27
def Cu:Nat:=28
def pB:Nat:=29
def Jp:Nat:=30
def uW:Nat:=31
def Cv:Nat:=32
def zD:Nat:=33
def Cw:Nat:=34
def Cx:Nat:=35
def Jq:Nat:=36
def Cy:Nat:=37
def Cz:Nat:=38
def CA:Nat:=39
def zE:Nat:=40
def w9:Nat:=41
def Jr:Nat:=42
def Js:Nat:=43
def Jt:Nat:=44
def ako:Nat:=45
def Ju:Nat:=49
def Jv:Nat:=50
def CB:Nat:=52
def CC:Nat:=58
def zF:Nat:=59
def CD:Nat:=60
def tp:Nat:=61
def Jw:Nat:=62
def tn:Nat:=63
def tq:Nat:=64
def w8:Nat:=65
def tu:Nat:=66
def Jx:Nat:=67
def Jy:Nat:=68
def xa:Nat:=69
def uS:Nat:=70
def JA:Nat:=71
def zG:Nat:=72
def JB:Nat:=73
def uT:Nat:=74
def JC:Nat:=75
def CF:Nat:=76
def JD:Nat:=77
def CG:Nat:=78
def JE:Nat:=79
def JF:Nat:=80
def w5:Nat:=83
def JG:Nat:=84
def JH:Nat:=85
def zH:Nat:=86
def B8:Nat:=87
def zq:Nat:=88
def JI:Nat:=89
def B9:Nat:=90
def xb:Nat:=91
def CH:Nat:=92
def w4:Nat:=93
def Cb:Nat:=94
def JJ:Nat:=95
def JK:Nat:=96
def JL:Nat:=97
def pC:Nat:=98
def zz:Nat:=99
def Ro:Nat:=100
def jZ:Nat:=101
def uU:Nat:=104
def zt:Nat:=105
def zI:Nat:=111
def JM:Nat:=117
def zJ:Nat:=118
def zK:Nat:=119
def CI:Nat:=120
def zL:Nat:=121
def JN:Nat:=122
def JO:Nat:=123
def CJ:Nat:=124
def w6:Nat:=125
def CK:Nat:=126
def CL:Nat:=127
def GX:Nat:=138
def Ca:Nat:=139
def Hb:Nat:=140
def Hd:Nat:=141
def Cc:Nat:=142
def Cf:Nat:=143
def tm:Nat:=144
def Cd:Nat:=145
def Ce:Nat:=146
def Q9:Nat:=147
def Ra:Nat:=148
def Q8:Nat:=149
def Hp:Nat:=153
def Cg:Nat:=155
def zr:Nat:=156
def HE:Nat:=162
def Ci:Nat:=163
def HG:Nat:=164
def HJ:Nat:=165
def Rb:Nat:=166
def Rc:Nat:=167
def HQ:Nat:=168
def w7:Nat:=169
def HT:Nat:=170
def HY:Nat:=182
def zu:Nat:=183
def Co:Nat:=184
def zw:Nat:=189
def zx:Nat:=190
def Cp:Nat:=191
def zy:Nat:=192
def Ck:Nat:=222
def Cj:Nat:=223
def Cn:Nat:=224
abbrev Ig:Fn:={np:=1,nv:=7,res:=[(6,none)],body:=
(.s [.fD (.v 0),.b] [(1,1)] [0,6]
 (.seq (.j [.cW (.v 1) (some 10),.C Jk [.A],.not .A] [] [] 9 0 (.s [.C zA [],.t 0] [(6,0)] [1]
 .ret))
 (.s [.cW (.v 1) (some 10),.C rZ [.A],.t 0,.e .A 0,.e .B 1,.p (.gw 10),.jX .A .C 10,.t 2] [(2,1),(4,0)] []
 (.s [.cW (.v 1) (some 10),.C zB [.A],.t 0,.e .A 0,.e .B 1,.p (.gw 10),.jX .A .C 10,.t 2] [(3,1),(5,0)] [1]
 (.s [.cW (.v 2) (some 10),.cW (.v 3) (some 10),.C zC [.B,.A],.t 0,.xv 0 4,.xv 1 5,.x 2 (.bin .eql .B .A),.pick .D .A (.c (.bool false)),.t 0,.x 0 (.k9 zA []),.pick .B .A (.c (.bool false)),.t 0] [(6,0)] [2,3,4,5]
 .ret)))))}
abbrev Ih:Fn:={np:=1,nv:=3,res:=[(2,none)],body:=
(.s [.fD (.v 0),.b] [(1,1)] [0,2]
 (.s [.f 1 5,.l,.n,.bin .leq .A (.i 3),.t 0,.xf 0 1 3,.xl 1,.x 2 (.bin .leq .A (.i 4)),.pick .D .A (.c (.bool false)),.t 0,.x 0 (.cW (.v 1) (some 10)),.x 1 (.k9 Jn [.A]),.pick .C .A (.c (.bool false)),.t 0,.xf 0 1 0,.xl 1,.xf 2 1 1,.xl 3,.x 4 (.bin .uC .C .A),.xf 5 1 2,.xl 6,.x 7 (.bin .uC .C .A),.x 8 (.bin .leq .A (.i 5)),.pick .J .A (.c (.bool false)),.t 0] [(2,0)] [1]
 .ret))}
abbrev Ii:Fn:={np:=0,nv:=6,res:=[(5,none)],body:=
(.s [.b] [] [5]
 (.s [.C Cq [],.C rZ [.A],.t 0,.e .A 0,.e .B 1,.p (.gw 10),.jX .A .C 10,.t 2] [(3,1),(0,0)] []
 (.s [.C Cq [],.C Jl [.A],.t 0,.e .A 0,.e .B 1,.e .C 2,.p (.gw 10),.jX .A .D 10,.t 3,.t 3] [(4,2),(2,1),(1,0)] []
 (.s [.v 0,.E .A (.i 0),.t 0,.xv 0 1,.x 1 (.bin .eql .A (.i 0)),.pick .C .A (.c (.bool false)),.t 0,.xv 0 2,.x 1 (.bin .eql .A (.i 1)),.pick .C .A (.c (.bool false)),.t 0,.x 0 (.cW (.v 3) (some 10)),.x 1 (.k9 Cr []),.x 2 (.k9 zC [.B,.A]),.pick .D .A (.c (.bool false)),.t 0,.x 0 (.cW (.v 4) (some 10)),.x 1 (.k9 Cr []),.x 2 (.k9 zC [.B,.A]),.pick .D .A (.c (.bool false)),.t 0] [(5,0)] [0,1,2,3,4]
 .ret))))}
abbrev Ry:gi:=⟨[.fD (.v 0),.lW dJ (some 10),.k 0],[(1,2),(3,1)],[0,19],none⟩
abbrev Rz:gi:=⟨[.cW (.v 1) (some 10),.C uV [.A],.t 0],[(2,0)],[],none⟩
abbrev RA:gi:=⟨[.v 2,.N .A (.i 0)],[],[],some (18,0)⟩
abbrev RB:gi:=⟨[.iz dJ [],.v 2,.st (.v 3) .B 10,.t 1],[(19,0)],[1,2],none⟩
abbrev RD:gi:=⟨[.cW (.v 1) (some 10),.p (.can Jo [.A]),.t 0],[(4,0)],[2],none⟩
abbrev RE:gi:=⟨[.v 4,.fE Cs [.A],.not .A],[],[],some (25,0)⟩
abbrev RF:gi:=⟨[.iz dJ [],.st (.v 3) .A 10,.k 11],[(19,0)],[1,4],none⟩
abbrev RH:gi:=⟨[.v 4,.C Ct [.A],.t 0,.e .A 0,.e .B 1,.t 1,.t 1],[(14,1),(5,0)],[],none⟩
abbrev RI:gi:=⟨[.v 5,.G .A (.i 128),.t 0,.yv 0 5,.yf 1 1 0,.yl 2,.y 3 (.bin .mul .C .A),.y 4 (.bin .gtr .A (.i 128)),.pick .F (.c (.bool true)) .A],[],[1],some (40,0)⟩
abbrev RJ:gi:=⟨[.iz dJ [],.st (.v 3) .A 10,.k 11],[(19,0)],[4,5,14],none⟩
abbrev RK:gi:=⟨[.v 4,.C Cu [.A],.t 0,.e .A 0,.e .B 1,.t 1,.t 1],[(10,1),(16,0)],[],none⟩
abbrev RL:gi:=⟨[.v 5,.jc .A .A [.int 0,.int 0,.ag] (some 3),.t 0],[(6,0)],[5],none⟩
abbrev RM:gi:=⟨[.v 6,.n,.k 0],[(8,1),(7,0)],[],none⟩
abbrev RN:IC:=(.Z 7 8 52 0 1 [] (.m 7 9 []
 (.g [.v 6,.v 9,.v 9,.iz [.int 0,.int 0,.ag] [(0,1,.A),(1,1,(.i (-1))),(2,1,(.c (.ag)))],.bu .D .C 3,.st .A .B 3] [] [9])))
abbrev RP:gi:=⟨[.v 10,.n,.k 0],[(13,2),(12,1),(11,0)],[7,8,10],none⟩
abbrev RQ:IC:=(.Z 11 12 63 2 3 [15,17,18] (.s [.v 11,.bu (.v 13) (.v 11) 1,.d,.t 2,.t 1] [(15,1),(18,0)] []
 (.s [.v 6,.v 14,.v 15,.i,.d,.bu .E .A 3,.t 0] [(17,0)] []
 (.j [.v 16,.v 15,.i,.d,.t 0,.xv 0 17,.x 1 (.o9 .A),.x 2 (.cV .A 1 none),.x 3 (.ld .A none),.x 4 (.bin .lss .A (.i 0)),.x 5 (.mv .A),.yv 0 18,.yv 1 17,.y 2 (.o9 .A),.y 3 (.cV .A 2 none),.y 4 (.ld .A none),.y 5 (.k9 pB [.E,.A]),.y 6 (.bin .lss .A (.i 0)),.x 13 (.pick .H (.c (.bool true)) .A),.pick (.t 14) .A (.c (.bool false))] [] [] 92 0 (.g [.v 17,.v 17,.v 15,.v 18,.p (.o9 .D),.h 0 1,.st .A .D 1,.p (.o9 .F),.h 0 2,.st .A .F 1] [] [15,17,18])))))
abbrev RR:gi:=⟨[.v 6,.p (.rp Jp [.A,(.c (.func uW []))])],[],[11,12,13,16],some (103,0)⟩
abbrev RS:gi:=⟨[.iz dJ [],.st (.v 3) .A 10,.k 3],[(19,0)],[4,6,14],none⟩
abbrev RT:gi:=⟨[.v 6,.fE Cv [.A,(.c (.func zD []))]],[],[],none⟩
abbrev RU:gi:=⟨[.v 4,.v 14,.v 6,.C Cw [.C,.B,.A],.st (.v 3) .A 10,.k 0],[(19,0)],[4,6,14],none⟩
abbrev ts:Fn:={np:=1,nv:=20,res:=[(3,some (some 10)),(19,none)],body:=
(.seq (.cF Ry)
 (.seq (.seq (.cF Rz)
 (.seq (.cF RA)
 (.cond 18 (.seq (.cF RB)
 .ret) .skip)))
 (.seq (.cF RD)
 (.seq (.seq (.seq (.cF RE) (.ji 4))
 (.cond 25 (.seq (.cF RF)
 .ret) .skip))
 (.seq (.cF RH)
 (.seq (.seq (.cF RI)
 (.cond 40 (.seq (.cF RJ)
 .ret) .skip))
 (.seq (.cF RK)
 (.seq (.cF RL)
 (.seq (.seq (.cF RM)
 (.o 0 RN))
 (.seq (.seq (.cF RP)
 (.o 2 RQ))
 (.seq (.seq (.cF RR)
 (.cond 103 (.seq (.cF RS)
 .ret) .skip))
 (.seq (.seq (.cF RT) (.ji 6))
 (.seq (.cF RU)
 .ret)))))))))))))}
abbrev akp:IC:=(.seq (.w [.v 8,.v 9,.n,.L .C .A] [] [] 38 0)
 (.seq (.block 1 (.j [.v 9,.v 8,.i,.d,.v 8,.E .B .A] [] [] 46 0 (.U 10 [])))
 (.U 8 [])))
abbrev Ij:Fn:={np:=1,nv:=13,res:=[(3,some (some 10)),(12,none)],body:=
(.s [.fD (.v 0),.lW dJ (some 10),.k 0] [(1,2),(3,1)] [0,12]
 (.seq (.s [.cW (.v 1) (some 10),.C Jm [.A],.t 0] [(2,0)] []
 (.j [.v 2,.N .A (.i 0)] [] [] 17 0 (.s [.iz dJ [],.v 2,.st (.v 3) .B 10,.t 1] [(12,0)] [1,2]
 .ret)))
 (.s [.cW (.v 1) (some 10),.C Cx [.A],.t 0,.e .A 0,.e .B 1,.e .C 2,.t 2,.t 2,.t 2] [(5,2),(6,1),(4,0)] [2]
 (.seq (.j [.v 4,.not .A] [] [4] 27 0 (.s [.iz dJ [],.st (.v 3) .A 10,.k 11] [(12,0)] [1,5,6]
 .ret))
 (.s [.cW (.v 1) (some 10),.v 5,.v 6,.C Jq [.C,.B,.A],.p (.gw 13),.jX .A .B 13] [(7,0)] [5,6]
 (.s [.cW (.v 7) (some 13),.C Cy [.A],.t 0] [(9,0)] []
 (.k 0 10 []
 (.seq (.k 0 8 []
 (.o 0 akp))
 (.seq (.j [.v 10,.G .A (.i 128),.t 0,.yv 0 10,.yf 1 1 0,.yl 2,.y 3 (.bin .mul .C .A),.y 4 (.bin .gtr .A (.i 128)),.pick .F (.c (.bool true)) .A] [] [1,8,10] 57 0 (.s [.iz dJ [],.st (.v 3) .A 10,.k 11] [(12,0)] [7,9]
 .ret))
 (.s [.cW (.v 7) (some 13),.v 9,.C Cz [.B,.A],.t 0,.e .A 0,.e .B 1,.e .C 2,.t 2,.t 2,.t 2] [(11,2),(4,0)] []
 (.seq (.j [.v 4,.not .A] [] [4] 67 0 (.s [.iz dJ [],.st (.v 3) .A 10,.k 3] [(12,0)] [7,9,11]
 .ret))
 (.s [.cW (.v 7) (some 13),.v 9,.v 9,.v 11,.C zE [.B,.A],.C CA [.E,.D,.A],.st (.v 3) .A 10,.k 0] [(12,0)] [7,9,11]
 .ret))))))))))))}
abbrev akq:IC:=(.seq (.w [.v 4,.f 2 9,.l,.n,.L .D .A] [] [] 52 0)
 (.seq (.block 1 (.j [.f 2 9,.l,.v 4,.i,.l,.f 3 9,.l,.v 4,.i,.l,.C w9 [.F,.A],.not .A] [] [] 66 0 (.s [.b] [(5,0)] [2,3,4]
 .ret)))
 (.U 4 [])))
abbrev Ik:Fn:={np:=2,nv:=6,res:=[(5,none)],body:=
(.s [.fD (.v 0),.fD (.v 1),.b] [(2,2),(3,1)] [0,1,5]
 (.seq (.j [.f 2 0,.l,.f 3 0,.l,.N .C .A,.t 0,.yf 0 2 1,.yl 1,.yf 2 3 1,.yl 3,.y 4 (.bin .neq .C .A),.pick .F (.c (.bool true)) .A,.t 0,.yf 0 2 2,.yl 1,.yf 2 3 2,.yl 3,.y 4 (.bin .neq .C .A),.pick .F (.c (.bool true)) .A,.t 0,.yf 0 2 3,.yl 1,.yf 2 3 3,.yl 3,.y 4 (.bin .neq .C .A),.pick .F (.c (.bool true)) .A,.t 0,.yf 0 2 4,.yl 1,.yf 2 3 4,.yl 3,.y 4 (.bin .neq .C .A),.pick .F (.c (.bool true)) .A,.t 0,.yf 0 2 9,.yl 1,.y 2 (.len .A),.yf 3 3 9,.yl 4,.y 5 (.len .A),.y 6 (.bin .neq .D .A),.pick .H (.c (.bool true)) .A] [] [] 47 0 (.s [.b] [(5,0)] [2,3]
 .ret))
 (.seq (.k 0 4 []
 (.o 0 akq))
 (.s [.f 2 5,.l,.f 3 5,.l,.C Jr [.C,.A],.t 0,.xf 0 2 6,.xl 1,.xf 2 3 6,.xl 3,.x 4 (.k9 w9 [.C,.A]),.pick .F .A (.c (.bool false)),.t 0,.xf 0 2 7,.xl 1,.xf 2 3 7,.xl 3,.x 4 (.k9 w9 [.C,.A]),.pick .F .A (.c (.bool false)),.t 0,.xf 0 2 8,.xl 1,.xf 2 3 8,.xl 3,.x 4 (.k9 w9 [.C,.A]),.pick .F .A (.c (.bool false)),.t 0] [(5,0)] [2,3,4]
 .ret))))}
abbrev akr:IC:=(.seq (.block 1 (.seq (.s [.v 4,.fE Js [.A],.t 0,.e .A 0,.e .B 1,.lW dJ (some 10),.st .A .C 10,.t 2] [(6,2),(5,0)] [] (.ji 6))
 (.seq (.j [.v 5,.N .A (.i 0)] [] [] 37 0 (.s [.iz dJ [],.v 5,.st (.v 3) .B 10,.k 0,.t 2] [(13,1),(14,0)] [1,4,5,6,10]
 .ret))
 (.s [.ld (.v 6) (some 10),.cW (.v 1) (some 10),.C Jt [.B,.A],.t 0,.e .A 0,.e .B 1,.e .C 2,.t 2,.t 2,.t 2] [(11,2),(7,1),(5,0)] []
 (.seq (.j [.v 5,.N .A (.i 0)] [] [] 48 0 (.s [.iz dJ [],.v 5,.st (.v 3) .B 10,.k 0,.t 2] [(13,1),(14,0)] [1,4,5,6,7,10,11]
 .ret))
 (.seq (.j [.v 7,.not .A] [] [5,7] 52 0 (.s [.ld (.v 6) (some 10),.C rZ [.A],.t 0,.e .A 0,.e .B 1,.p (.gw 10),.jX .A .C 10,.t 2] [(9,1),(8,0)] [1,4,6,11]
 (.seq (.j [.v 8,.N .A (.i 0)] [] [] 59 0 (.s [.iz dJ [],.v 8,.st (.v 3) .B 10,.k 0,.t 2] [(13,1),(14,0)] [8,9,10]
 .ret))
 (.s [.cW (.v 9) (some 10),.v 10,.st (.v 3) .B 10,.t 1,.k 0] [(13,1),(14,0)] [8,9,10]
 .ret))))
 (.s [.v 4,.ld (.v 6) (some 10),.v 11,.fE ako [.C,.B,.A],.t 0] [(12,0)] [6,11]
 (.j [.v 12,.N .A (.i 0)] [] [] 69 0 (.s [.iz dJ [],.v 12,.st (.v 3) .B 10,.k 0,.t 2] [(13,1),(14,0)] [1,4,10,12]
 .ret)))))))))
 (.U 10 [12]))
abbrev Il:Fn:={np:=1,nv:=15,res:=[(3,some (some 10)),(13,none),(14,none)],body:=
(.s [.fD (.v 0),.lW dJ (some 10),.k 0,.k 0] [(1,3),(3,2)] [0,13,14]
 (.seq (.s [.cW (.v 1) (some 10),.C uV [.A],.t 0] [(2,0)] []
 (.j [.v 2,.N .A (.i 0)] [] [] 18 0 (.s [.iz dJ [],.v 2,.st (.v 3) .B 10,.k 0,.t 2] [(13,1),(14,0)] [1,2]
 .ret)))
 (.s [.cW (.v 1) (some 10),.bN [] 1,.bN [.A] 1,.iz [.str [],.str []] [],.p (.lz [.A] (some 2)),.p (.yr),.iz [.int 0,.int 0,.int 0,.int 0,.int 0,.ag,.ag,.ag,.ag,.ag,.ag,.ag,.qh] [(0,10,.F),(10,1,.D),(11,1,.B),(12,1,.A)],.p (.vw .A (some 13)),.t 0] [(4,0)] [2]
 (.k 1 10 []
 (.o 0 akr)))))}
abbrev aks:IC:=(.seq (.w [.v 3,.f 1 5,.l,.n,.L .D .A] [] [] 15 0)
 (.seq (.block 1 (.s [.cW (.v 1) (some 10),.v 3,.C Jv [.B,.A],.t 0] [(4,0)] []
 (.j [.v 4,.N .A (.i 0)] [] [] 22 0 (.m 4 5 [1,3,4]
 .ret))))
 (.U 3 [4])))
abbrev Im:Fn:={np:=1,nv:=6,res:=[(5,none)],body:=
(.s [.fD (.v 0),.k 0] [(1,1)] [0,5]
 (.seq (.s [.cW (.v 1) (some 10),.C Ju [.A],.t 0] [(2,0)] []
 (.j [.v 2,.N .A (.i 0)] [] [] 9 0 (.m 2 5 [1,2]
 .ret)))
 (.seq (.k 0 3 [2]
 (.o 0 aks))
 (.k 0 5 [1,3]
 .ret))))}
abbrev akt:IC:=(.Z 7 8 46 0 1 [] (.z 9 7 1 10 []
 (.block 2 (.i [.v 10,.f 2 0,.l,.L .C .A,.t 0] [] [] 60 0 (.s [.cW (.v 11) (some 10),.v 12,.v 10,.C tp [.C,.B,.A],.t 0,.e .A 0,.e .B 1,.t 1,.t 1] [(15,1),(13,0)] [10,12]
 (.s [.v 13,.fE Jw [(.v 14),.A]] [] [13]
 (.g [.v 15,.t 0] [(12,0)] [15]))) (.i [.v 10,.f 2 0,.l,.f 2 1,.l,.A .C .A,.L .F .A,.t 0] [] [] 75 0 (.g [.cW (.v 11) (some 10),.v 12,.v 10,.f 2 0,.l,.S .C .A,.C tn [.F,.E,.A],.t 0] [(12,0)] [10]) (.g [.cW (.v 11) (some 10),.v 12,.fE w8 [(.v 14)],.v 10,.f 2 0,.l,.S .C .A,.f 2 1,.l,.S .C .A,.C tq [.J,.I,.H,.A],.t 0] [(12,0)] [10]))))))
abbrev Io:Fn:={np:=2,nv:=18,res:=[(16,none),(17,none)],body:=
(.s [.fD (.v 0),.b,.k 0] [(2,2)] [0,16,17]
 (.seq (.s [.cW (.v 2) (some 10),.C uV [.A],.t 0] [(3,0)] []
 (.j [.v 3,.N .A (.i 0)] [] [] 20 0 (.s [.v 3,.b,.t 1] [(16,1),(17,0)] [1,2,3]
 .ret)))
 (.seq (.s [.v 1,.cW (.v 2) (some 10),.C zF [.A],.C CC [.C,.A],.t 0] [(4,0)] [3]
 (.j [.v 4,.N .A (.i 0)] [] [] 27 0 (.s [.v 4,.b,.t 1] [(16,1),(17,0)] [1,2,4]
 .ret)))
 (.s [.cW (.v 2) (some 10),.v 1,.C CD [.B,.A],.t 0,.e .A 0,.e .B 1,.t 1,.t 1] [(5,1),(6,0)] [4]
 (.seq (.j [.v 5,.G .A (.i 64)] [] [5] 36 0 (.s [.b,.k 16] [(16,1),(17,0)] [1,2,6]
 .ret))
 (.seq (.j [.v 6,.not .A] [] [6] 38 0 (.s [.b,.k 0] [(16,1),(17,0)] [1,2]
 .ret))
 (.s [.lW [.ag] (some 1)] [(14,0)] []
 (.s [.cW (.v 2) (some 10),.iz dJ [(0,10,.A)],.p (.gw 10),.jX .A .B 10] [(11,0)] []
 (.s [.f 2 4,.l,.t 0] [(12,0)] []
 (.seq (.s [.v 1,.n,.k 0] [(9,2),(8,1),(7,0)] [1]
 (.o 0 akt))
 (.s [.f 2 5,.l,.v 12,.i,.l,.t 0,.k 0] [(16,1),(17,0)] [2,7,8,9,11,12,14]
 .ret)))))))))))}
abbrev Ip:Fn:={np:=1,nv:=3,res:=[(2,none)],body:=
(.s [.fD (.v 0),.b] [(1,1)] [0,2]
 (.s [.f 1 5,.l,.n,.bin .leq .A (.i 5),.t 0,.xf 0 1 3,.xl 1,.x 2 (.bin .leq .A (.i 6)),.pick .D .A (.c (.bool false)),.t 0,.xf 0 1 0,.xl 1,.x 2 (.bin .leq .A (.i 6)),.pick .D .A (.c (.bool false)),.t 0,.xf 0 1 1,.xl 1,.x 2 (.bin .leq .A (.i 6)),.pick .D .A (.c (.bool false)),.t 0,.xf 0 1 2,.xl 1,.x 2 (.bin .leq .A (.i 6)),.pick .D .A (.c (.bool false)),.t 0,.xf 0 1 0,.xl 1,.xf 2 1 1,.xl 3,.x 4 (.bin .uC .C .A),.xf 5 1 2,.xl 6,.x 7 (.bin .uC .C .A),.x 8 (.bin .leq .A (.i 6)),.pick .J .A (.c (.bool false)),.t 0] [(2,0)] [1]
 .ret))}
abbrev Iq:Fn:={np:=0,nv:=1,res:=[(0,some (some 10))],body:=
(.s [.lW dJ (some 10)] [(0,0)] []
 (.s [.bN [(.c (.bool true)),(.c (.bool false))] 1,.bN [(.i 0),(.i 0)] 1,.bN [(.i 1),(.i 1)] 1,.bN [.B,.A] 1,.bN [(.i 0),(.i 1)] 1,.bN [(.i 0),(.i 0)] 1,.bN [.B,.A] 1,.bN [] 1,.bN [] 1,.bN [.B,.A] 1,.bN [(.i 0),(.i 1)] 1,.bN [(.i 1),(.i 0)] 1,.bN [.B,.A] 1,.bN [(.i 1),(.i 1)] 1,.bN [(.i 1),(.i 1)] 1,.bN [.B,.A] 1,.bN [.D,.A] 1,.iz dJ [(0,1,(.i 2)),(2,1,(.i 2)),(3,1,(.i 2)),(5,1,(.t 16)),(6,1,(.t 13)),(7,1,(.t 10)),(8,1,.H),(9,1,.A)],.st (.v 0) .A 10] [] []
 .ret))}
abbrev Ir:Fn:={np:=0,nv:=2,res:=[(1,some (some 10))],body:=
(.s [.lW dJ (some 10)] [(1,0)] []
 (.s [.bN [(.i 1),(.i 1)] 1,.bN [(.i 1),(.i 1)] 1,.bN [(.i 1),(.i 1)] 1,.bN [(.i 1),(.i 1)] 1,.bN [.D,.C,.B,.A] 1,.t 0] [(0,0)] []
 (.s [.bN [(.c (.bool true)),(.c (.bool false))] 1,.bN [(.i 0),(.i 0)] 1,.bN [(.i 0),(.i 0)] 1,.bN [.B,.A] 1,.bN [(.i 0),(.i 1)] 1,.bN [(.i 2),(.i 3)] 1,.bN [.B,.A] 1,.bN [] 1,.bN [] 1,.bN [.B,.A] 1,.bN [(.i 0),(.i 1)] 1,.bN [(.i 1),(.i 0)] 1,.bN [(.i 1),(.i 1)] 1,.bN [(.i 1),(.i 1)] 1,.bN [.D,.C,.B,.A] 1,.v 0,.bN [.B,.A] 1,.iz dJ [(0,1,(.i 2)),(2,1,(.i 2)),(3,1,(.i 4)),(5,1,(.t 16)),(6,1,(.t 13)),(7,1,(.t 10)),(8,1,.H),(9,1,.A)],.st (.v 1) .A 10] [] [0]
 .ret)))}
abbrev aku:IC:=(.Z 3 4 82 1 2 [6] (.m 3 5 []
 (.s [.cW (.v 1) (some 10),.v 5,.C Jx [.B,.A],.t 0] [(6,0)] [5]
 (.j [.v 6,.N .A (.i 0)] [] [] 88 0 (.m 6 7 [1,3,4,6]
 .ret)))))
abbrev Is:Fn:={np:=1,nv:=8,res:=[(7,none)],body:=
(.s [.fD (.v 0),.k 0] [(1,1)] [0,7]
 (.s [.f 1 5,.l,.n,.t 0] [(2,0)] []
 (.seq (.block 0 (.i [.f 1 0,.l,.f 1 1,.l,.f 1 2,.l,.bN [.E,.C,.A] 1,.C tu [.A,(.i 65)],.t 0] [] [] 9 0 (.k 2 7 [1,2]
 .ret) (.i [.cW (.v 1) (some 10),.C zF [.A],.L .A (.i 1),.t 0,.y 0 (.cW (.v 1) (some 10)),.y 1 (.k9 zF [.A]),.y 2 (.bin .gtr .A (.i 64)),.pick .D (.c (.bool true)) .A,.t 0,.yf 0 1 3,.yl 1,.y 2 (.bin .lss .A (.i 1)),.pick .D (.c (.bool true)) .A,.t 0,.yf 0 1 3,.yl 1,.y 2 (.bin .gtr .A (.i 128)),.pick .D (.c (.bool true)) .A,.t 0] [] [] 18 0 (.k 2 7 [1,2]
 .ret) (.i [.v 2,.E .A (.i 0),.t 0] [] [] 37 0 (.k 19 7 [1,2]
 .ret) (.i [.v 2,.G .A (.i 128),.t 0] [] [] 40 0 (.k 11 7 [1,2]
 .ret) (.i [.f 1 4,.l,.L .A (.i 0),.t 0,.yf 0 1 4,.yl 1,.yv 2 2,.y 3 (.bin .geq .B .A),.pick .E (.c (.bool true)) .A,.t 0] [] [] 43 0 (.k 2 7 [1,2]
 .ret) (.j [.f 1 6,.l,.n,.v 2,.N .B .A,.t 0,.yf 0 1 7,.yl 1,.y 2 (.len .A),.yv 3 2,.y 4 (.bin .neq .B .A),.pick .F (.c (.bool true)) .A,.t 0,.yf 0 1 8,.yl 1,.y 2 (.len .A),.yv 3 2,.y 4 (.bin .neq .B .A),.pick .F (.c (.bool true)) .A,.t 0,.yf 0 1 9,.yl 1,.y 2 (.len .A),.yv 3 2,.y 4 (.bin .neq .B .A),.pick .F (.c (.bool true)) .A,.t 0] [] [] 53 0 (.k 1 7 [1,2]
 .ret))))))))
 (.seq (.s [.v 2,.k 0] [(4,1),(3,0)] [2]
 (.o 1 aku))
 (.k 0 7 [1,3,4]
 .ret)))))}
abbrev akv:IC:=(.Z 3 4 22 0 1 [] (.s [.v 3,.bu (.v 5) (.v 3) 1,.d,.t 2,.t 1] [(7,1),(6,0)] []
 (.g [.v 2,.q,.h 0 11,.d,.v 6,.v 7,.bu .C .B 1,.st .A .B 1] [] [6,7])))
abbrev It:Fn:={np:=1,nv:=9,res:=[(8,none)],body:=
(.s [.fD (.v 0),.mv (.c (.iy))] [(1,1)] [0,8]
 (.s [.cW (.v 1) (some 10),.cW (.v 1) (some 10),.C Jy [.A],.f 1 5,.l,.n,.jc .A .A [.int 0] none,.p (.yr),.iz [.int 0,.int 0,.int 0,.int 0,.int 0,.ag,.ag,.ag,.ag,.ag,.ag,.ag,.ag,.qh,.ag,.ag] [(0,10,.H),(10,1,.F),(11,1,.B),(13,1,.A)],.p (.vw .A (some 16)),.t 0] [(2,0)] [1]
 (.seq (.s [.v 2,.q,.h 0 10,.d,.n,.k 0] [(5,2),(4,1),(3,0)] []
 (.o 0 akv))
 (.s [.v 2,.v 2,.q,.h 0 10,.d,.C uS [.A],.fE xa [.F,.A]] [] [3,4,5]
 (.m 2 8 [2]
 .ret)))))}
abbrev RV:gi:=⟨[.v 1,.v 0,.q,.h 0 12,.d,.n,.L .F .A],[],[],some (14,0)⟩
abbrev RY:gi:=⟨[.nl none],[(4,0)],[],none⟩
abbrev RZ:gi:=⟨[.v 0,.q,.cV .A 0 (some 10),.h 0 1,.d,.k 0],[(3,1),(2,0)],[],none⟩
abbrev R0:IC:=(.Z 2 3 23 2 3 [] (.m 2 5 []
 (.g [.v 4,.v 0,.v 0,.v 1,.v 5,.p (.rp JA [.C,.B,.A]),.fE xa [.E,.A],.bW [.A] 1,.cp .H .A none,.t 0] [(4,0)] [5])))
abbrev R1:gi:=⟨[.v 0,.v 0,.q,.h 0 14,.d,.v 4,.bW [.A] 1,.cp .C .A none,.p (.o9 .H),.h 0 14,.st .A .C 1],[],[2,3,4],none⟩
abbrev R2:gi:=⟨[.v 0,.v 0,.q,.h 0 15,.d,.v 0,.q,.cV .A 0 (some 10),.h 0 0,.d,.jc .A .A [.ag] none,.bW [.A] 1,.app .H .A none,.p (.o9 (.t 12)),.h 0 15,.st .A .C 1],[],[],none⟩
abbrev R3:gi:=⟨[.v 1,.A .A (.i 1),.k 0],[(7,1),(6,0)],[],none⟩
abbrev akw:IC:=(.Z 8 9 71 6 7 [] (.m 8 10 []
 (.s [.v 0,.v 1,.v 10,.v 11,.fE zG [.D,.C,.B,.A]] [] []
 (.seq (.j [.v 11,.v 1,.L .B .A] [] [] 80 0 (.g [.v 0,.v 11,.v 10,.v 1,.fE zG [.D,.C,.B,.A]] [] [10]))
 (.j [.v 0,.q,.h 0 12,.d,.n,.G .A (.i 512)] [] [10] 91 0 (.s [.b] [(12,0)] [0,1,6,7,8,9,11]
 .ret))))))
abbrev R4:IC:=(.Z 6 7 63 4 5 [8,9,11] (.m 6 11 []
 (.s [.v 0,.q,.cV .A 0 (some 10),.h 0 0,.d,.k 0] [(9,1),(8,0)] []
 (.o 6 akw))))
abbrev R5:gi:=⟨[.v 0,.q,.h 0 12,.d,.n,.G .A (.i 512)],[],[6,7],some (99,0)⟩
abbrev R6:gi:=⟨[.b],[(12,0)],[0,1],none⟩
abbrev R7:gi:=⟨[.v 1,.A .A (.i 1),.t 0],[(1,0)],[],none⟩
abbrev akx:IC:=(.seq (.seq (.cF RV)
 (.cond 14 .skip (.exit 0)))
 (.seq (.block 1 (.seq (.cF RY)
 (.seq (.seq (.cF RZ)
 (.seq (.o 2 R0) (.ji 4)))
 (.seq (.cF R1)
 (.seq (.cF R2)
 (.seq (.seq (.cF R3)
 (.o 4 R4))
 (.seq (.cF R5)
 (.cond 99 (.seq (.cF R6)
 .ret) .skip))))))))
 (.cF R7)))
abbrev Iu:Fn:={np:=1,nv:=13,res:=[(12,none)],body:=
(.s [.b] [] [12]
 (.seq (.k 0 1 []
 (.o 0 akx))
 (.s [.mv (.c (.bool true))] [(12,0)] [0,1]
 .ret)))}
abbrev aky:IC:=(.Z 1 2 34 0 1 [] (.s [.v 1,.bu (.v 3) (.v 1) 1,.d,.t 2,.t 1] [(7,1),(4,0)] []
 (.seq (.j [.v 0,.q,.cV .A 0 (some 10),.h 0 5,.d,.v 4,.v 5,.i,.d,.bu .E .A 1,.d,.v 0,.q,.cV .A 0 (some 10),.h 0 5,.d,.v 0,.q,.h 0 12,.d,.bu .A (.i 0) 1,.d,.v 5,.i,.d,.bu .J .A 1,.d,.p (.beq true (.t 16) .A)] [] [4] 65 0 (.g [.v 6,.v 7,.i,.st .A (.i 1) 1] [] []))
 (.g [.v 8,.v 6,.v 7,.i,.d,.A .A (.i 1),.p (.mx true .F .A),.t 0] [(8,0)] [7]))))
abbrev akz:IC:=(.block 3 (.s [.v 0,.v 6,.C JB [.B,.A],.t 0,.e .A 0,.e .B 1,.t 1,.t 1] [(10,1),(9,0)] [1,2,3,5]
 (.seq (.j [.v 9,.v 8,.E .B .A] [] [8] 85 0 (.s [.v 6,.v 9,.t 1,.t 1] [(11,1),(12,0)] [0,6,9,10]
 .ret))
 (.g [.v 10,.v 9,.t 1,.t 1] [(6,1),(8,0)] [9,10]))))
abbrev Iy:Fn:={np:=1,nv:=13,res:=[(11,none),(12,none)],body:=
(.s [.mv (.c (.ag)),.k 0] [] [11,12]
 (.s [.v 0,.q,.h 0 11,.d,.v 0,.q,.cV .A 0 (some 10),.h 0 4,.d,.bu .F .A 1,.d,.t 0] [(5,0)] []
 (.s [.v 0,.q,.h 0 12,.d,.n,.jc .A .A [.int 0] none,.t 0] [(6,0)] []
 (.k 0 8 []
 (.seq (.s [.v 0,.q,.h 0 12,.d,.n,.k 0] [(3,2),(2,1),(1,0)] []
 (.seq (.o 0 aky) (.ji 6)))
 (.o 2 akz))))))}
abbrev akA:IC:=(.Z 5 6 40 2 3 [] (.z 7 5 1 8 []
 (.s [.v 1,.v 1,.q,.h 0 4,.d,.v 8,.bW [.A] 1,.cp .C .A none,.p (.o9 .H),.h 0 4,.st .A .C 1] [] []
 (.g [.v 1,.v 8,.fE CF [.B,.A]] [] [8]))))
abbrev akB:IC:=(.Z 2 3 33 0 1 [5,6,7] (.m 2 4 []
 (.seq (.s [.v 1,.v 4,.fE JC [.B,.A],.n,.k 0] [(7,2),(6,1),(5,0)] [4] (.ji 7))
 (.o 2 akA))))
abbrev Iz:Fn:={np:=1,nv:=11,res:=[(9,none),(10,none)],body:=
(.s [.mv (.c (.ag)),.mv (.c (.ag))] [] [9,10]
 (.s [.v 0,.v 0,.q,.h 0 12,.d,.n,.jc .A .A [.ag] none,.v 0,.q,.h 0 12,⟨.ld .A none,none,true⟩,.n,.jc .A .A [.bool false] none,.jc (.i 1025) (.i 1025) [.ag] none,.iz [.iy,.ag,.ag,.ag,.ag] [(0,1,(.t 13)),(1,1,.H),(2,1,.B),(3,1,.A)],.p (.vw .A (some 5)),.t 0] [(1,0)] [0]
 (.s [.v 1,.bN [(.c (.ag))] 1,.fE uT [.B,(.i 0),.A]] [] []
 (.seq (.s [.v 1,.q,.h 0 3,.d,.n,.k 0] [(3,1),(2,0)] []
 (.o 0 akB))
 (.s [.v 1,.q,.h 0 1,.d,.v 1,.q,.h 0 2,.d,.t 4,.t 1] [(9,1),(10,0)] [1,2,3]
 .ret)))))}
abbrev IA:Fn:={np:=2,nv:=3,res:=[(2,none)],body:=
(.s [.k 0] [] [2]
 (.s [.v 0,.n,.v 1,.n,.C CG [.C,.A],.v 0,.v 1,.C JE [.B,.A],.bN [.D,.A] 1,.C JD [.A],.t 0] [(2,0)] [0,1]
 .ret))}
abbrev IB:Fn:={np:=2,nv:=3,res:=[(2,none)],body:=
(.s [.b] [] [2]
 (.s [.v 0,.v 1,.C JF [.B,.A],.bin .geq .A (.i 0),.t 0] [(2,0)] [0,1]
 .ret))}
abbrev ID:Fn:={np:=1,nv:=3,res:=[(2,none)],body:=
(.s [.fD (.v 0),.b] [(1,1)] [0,2]
 (.s [.f 1 1,.l,.L .A (.i 0),.t 0] [(2,0)] [1]
 .ret))}
abbrev IE:Fn:={np:=2,nv:=5,res:=[(4,none)],body:=
(.s [.fD (.v 0),.fD (.v 1),.k 0] [(2,2),(3,1)] [0,1,4]
 (.s [.f 2 2,.l,.f 3 2,.l,.C pB [.C,.A],.t 0] [(4,0)] [2,3]
 .ret))}
abbrev akC:IC:=(.Z 3 4 26 0 1 [] (.s [.v 3,.bu (.v 5) (.v 3) 3,.ld .A (some 3),.p (.gw 3),.t 3,.jX .B .C 3] [(7,0),(8,1)] []
 (.g [.v 6,.f 7 0,.l,.v 8,.bu .D .B 1,.st .A .B 1] [] [7,8])))
abbrev akD:IC:=(.Z 15 16 92 4 5 [] (.s [.v 15,.bu (.v 17) (.v 15) 1,.d,.t 2,.t 1] [(18,1),(19,0)] []
 (.g [.f 12 8,.d,.v 13,.i,.d,.v 18,.v 6,.v 1,.v 19,.i,.d,.bu .E .A 1,.d,.bu .I .H 1,.st .A .B 1] [] [18,19])))
abbrev akE:IC:=(.Z 27 28 143 10 11 [] (.s [.v 27,.bu (.v 29) (.v 27) 1,.d,.t 2,.t 1] [(31,1),(32,0)] []
 (.g [.f 12 9,.d,.v 13,.i,.d,.v 30,.v 0,.q,.cV .A 0 (some 10),.h 0 0,.d,.M .F .A,.v 26,.A .B .A,.bu .J .A 1,.d,.v 31,.v 6,.v 1,.v 32,.i,.d,.bu .E .A 1,.d,.bu .I .H 1,.st .A .B 1] [] [31,32])))
abbrev akF:IC:=(.Z 23 24 124 8 9 [26,27,28,29] (.m 23 26 []
 (.s [.v 0,.q,.h 0 15,.d,.f 25 1,.l,.bu .C .A 1,.d,.v 26,.i,.d,.f 14 1,.l,.bu .C .A 1,.d,.n,.k 0] [(29,2),(28,1),(27,0)] []
 (.o 10 akE))))
abbrev akG:IC:=(.Z 20 21 114 6 7 [23,24,25,30] (.s [.v 20,.bu (.v 22) (.v 20) 3,.ld .A (some 3),.p (.gw 3),.t 3,.jX .B .C 3] [(25,0),(30,1)] []
 (.s [.v 0,.q,.cV .A 0 (some 10),.h 0 0,.d,.k 0] [(24,1),(23,0)] []
 (.o 8 akF))))
abbrev akH:IC:=(.Z 9 10 46 2 3 [13,14,20,21,22] (.s [.v 9,.bu (.v 11) (.v 9) 3,.ld .A (some 3),.p (.gw 3),.t 3,.jX .B .C 3] [(14,0),(13,1)] []
 (.s [.f 12 5,.d,.v 13,.v 0,.q,.cV .A 0 (some 10),.h 0 5,.d,.v 0,.q,.h 0 12,.d,.f 14 1,.l,.bu .C .A 1,.d,.v 0,.q,.h 0 11,.d,.v 0,.q,.cV .A 0 (some 10),.h 0 4,.d,.bu .F .A 1,.d,.bu (.t 11) .A 1,.d,.bu (.t 21) .A 1,.d,.bu (.t 29) (.t 28) 1,.st .A .B 1] [] []
 (.seq (.s [.v 0,.q,.h 0 14,.d,.f 14 1,.l,.bu .C .A 1,.d,.n,.k 0] [(17,2),(16,1),(15,0)] []
 (.o 4 akD))
 (.s [.v 2,.n,.k 0] [(22,2),(21,1),(20,0)] [15,16,17]
 (.o 6 akG))))))
abbrev IF:Fn:={np:=3,nv:=34,res:=[(33,some (some 10))],body:=
(.s [.lW dJ (some 10)] [(33,0)] []
 (.s [.v 2,.n,.jc .A .A [.int 0] none,.t 0] [(6,0)] []
 (.seq (.s [.v 2,.n,.k 0] [(5,2),(4,1),(3,0)] []
 (.o 0 akC))
 (.s [.v 0,.q,.cV .A 0 (some 10),.ld .A (some 10),.v 2,.n,.p (.can w5 [.C,.A]),.lW dJ (some 10),.st .A .B 10] [(12,1)] [3,4,5]
 (.seq (.s [.v 2,.n,.k 0] [(11,2),(10,1),(9,0)] []
 (.o 2 akH))
 (.s [.ld (.v 12) (some 10),.st (.v 33) .A 10] [] [0,1,2,6,9,10,11,12]
 .ret))))))}
abbrev akI:IC:=(.seq (.i [.v 5,.v 6,.n,.L .C .A] [] [] 28 0 .skip (.exit 2))
 (.seq (.block 3 (.seq (.j [.v 4,.v 6,.v 5,.i,.d,.p (.rp zH [.E,.A]),.v 4,.n,.L .C .A] [] [] 39 0 (.exit 3))
 (.seq (.j [.v 4,.n,.E .A (.i 512)] [] [] 42 0 (.s [.mv (.c (.ag)),.mv (.c (.ag)),.b] [(7,2),(8,1),(9,0)] [1,2,3,4,5,6]
 .ret))
 (.g [.v 4,.v 6,.v 5,.i,.d,.bW [.A] 1,.cp .F .A none,.t 0] [(4,0)] []))))
 (.U 5 [])))
abbrev akJ:IC:=(.seq (.w [.v 3,.v 4,.n,.L .C .A] [] [] 17 0)
 (.seq (.block 1 (.s [.cW (.v 1) (some 10),.v 2,.v 4,.v 3,.p (.rp JH [.D,.C,.B,.A]),.t 0] [(6,0)] []
 (.k 0 5 []
 (.o 2 akI))))
 (.U 3 [5,6])))
abbrev IG:Fn:={np:=1,nv:=10,res:=[(7,none),(8,none),(9,none)],body:=
(.s [.fD (.v 0),.mv (.c (.ag)),.mv (.c (.ag)),.b] [(1,3)] [0,7,8,9]
 (.s [.cW (.v 1) (some 10),.C JG [.A],.t 0] [(2,0)] []
 (.s [.v 2,.p (.lz [.A] none),.t 0] [(4,0)] []
 (.seq (.k 0 3 []
 (.o 0 akJ))
 (.s [.v 2,.v 4,.t 1,.t 1,.mv (.c (.bool true))] [(7,2),(8,1),(9,0)] [1,2,3,4]
 .ret)))))}
abbrev akK:IC:=(.seq (.i [.v 5,.f 3 1,.l,.L .C .A] [] [] 27 0 .skip (.exit 2))
 (.seq (.block 3 (.g [.v 6,.v 2,.cW (.v 3) (some 10),.v 2,.v 4,.i,.d,.v 5,.C B8 [.F,.B,.A],.C zH [.H,.A],.bW [.A] 1,.app (.t 10) .A none,.t 0] [(6,0)] []))
 (.U 5 [])))
abbrev akL:IC:=(.seq (.i [.v 9,.f 3 2,.l,.L .C .A] [] [] 57 0 .skip (.exit 8))
 (.seq (.block 9 (.g [.v 10,.v 2,.cW (.v 3) (some 10),.v 1,.v 2,.v 4,.i,.d,.v 2,.v 7,.i,.d,.v 8,.v 9,.C zq [(.t 11),(.t 10),.G,.C,.B,.A],.C zH [(.t 13),.A],.bW [.A] 1,.app (.t 16) .A none,.t 0] [(10,0)] []))
 (.U 9 [])))
abbrev akM:IC:=(.seq (.i [.v 8,.f 3 0,.l,.L .C .A] [] [] 51 0 .skip (.exit 6))
 (.seq (.block 7 (.k 0 9 []
 (.o 8 akL)))
 (.U 8 [9])))
abbrev akN:IC:=(.seq (.i [.v 7,.v 2,.n,.L .C .A] [] [] 45 0 .skip (.exit 4))
 (.seq (.block 5 (.s [.nl none] [(10,0)] []
 (.seq (.k 0 8 []
 (.seq (.o 6 akM) (.ji 10)))
 (.g [.v 11,.v 10,.bW [.A] 1,.cp .C .A none,.t 0] [(11,0)] [8,10]))))
 (.U 7 [])))
abbrev akO:IC:=(.seq (.w [.v 4,.v 2,.n,.L .C .A] [] [] 21 0)
 (.seq (.block 1 (.s [.nl none] [(6,0)] []
 (.seq (.k 0 5 []
 (.seq (.o 2 akK) (.ji 6)))
 (.s [.nl none] [(11,0)] [5]
 (.seq (.k 0 7 []
 (.seq (.o 4 akN) (.ji 11)))
 (.s [.f 12 10,.d,.f 3 5,.l,.v 2,.v 4,.i,.d,.bu .A (.i 0) 1,.d,.bu .G .A 1,.l,.bW [.A] 1,.app (.t 11) .A none,.f 12 10,.st .A .B 1] [] [7]
 (.s [.f 12 11,.d,.v 6,.bW [.A] 1,.cp .C .A none,.f 12 11,.st .A .B 1] [] [6]
 (.g [.f 12 12,.d,.v 11,.bW [.A] 1,.cp .C .A none,.f 12 12,.st .A .B 1] [] [11]))))))))
 (.U 4 [])))
abbrev IH:Fn:={np:=3,nv:=14,res:=[(13,some (some 13))],body:=
(.s [.fD (.v 0),.lW [.int 0,.int 0,.int 0,.int 0,.int 0,.ag,.ag,.ag,.ag,.ag,.ag,.ag,.ag] (some 13)] [(3,1),(13,0)] [0]
 (.s [.cW (.v 3) (some 10),.iz [.int 0,.int 0,.int 0,.int 0,.int 0,.ag,.ag,.ag,.ag,.ag,.ag,.ag,.ag] [(0,10,.A)],.lW [.int 0,.int 0,.int 0,.int 0,.int 0,.ag,.ag,.ag,.ag,.ag,.ag,.ag,.ag] (some 13),.st .A .B 13] [(12,1)] []
 (.seq (.k 0 4 []
 (.o 0 akO))
 (.s [.ld (.v 12) (some 13),.st (.v 13) .A 13] [] [1,2,3,4,12]
 .ret))))}
abbrev akP:IC:=(.seq (.i [.v 3,.bin .geq .A (.i 0)] [] [] 19 0 .skip (.exit 2))
 (.seq (.block 3 (.j [.f 2 10,.l,.v 3,.i,.l,.f 2 10,.l,.v 1,.i,.l,.p (.beq false .F .A)] [] [] 32 0 (.g [.v 3,.t 0] [(5,0)] [])))
 (.g [.v 3,.S .A (.i 1),.t 0] [(3,0)] [])))
abbrev akQ:IC:=(.seq (.w [.v 1,.f 2 10,.l,.n,.L .D .A] [] [] 12 0)
 (.seq (.block 1 (.m 1 5 []
 (.seq (.s [.v 1,.S .A (.i 1),.t 0] [(3,0)] []
 (.o 2 akP))
 (.g [.v 4,.v 5,.bW [.A] 1,.cp .C .A none,.t 0] [(4,0)] [3,5]))))
 (.U 1 [])))
abbrev akR:IC:=(.block 5 (.s [.cW (.v 2) (some 13),.v 4,.C JI [.B,.A],.t 0] [(6,0)] [1]
 (.seq (.j [.v 6,.v 4,.C B9 [.B,.A]] [] [] 43 0 (.m 4 7 [2,4,6]
 .ret))
 (.g [.v 6,.t 0] [(4,0)] [6]))))
abbrev II:Fn:={np:=1,nv:=8,res:=[(7,none)],body:=
(.s [.fD (.v 0),.mv (.c (.ag))] [(2,1)] [0,7]
 (.s [.nl none] [(4,0)] []
 (.seq (.k 0 1 []
 (.seq (.o 0 akQ) (.ji 4)))
 (.o 4 akR))))}
abbrev akS:IC:=(.seq (.i [.v 6,.cV (.v 7) 0 (some 10),.h 0 1,.l,.L .D .A] [] [] 50 0 .skip (.exit 4))
 (.seq (.block 5 (.s [.v 3,.v 5,.i,.d,.cV (.v 7) 0 (some 10),.h 0 0,.l,.v 6,.A .B .A,.bN [.A] 1,.bN [.G,.A] 1,.C xb [.A],.t 0] [(8,0)] []
 (.g [.v 3,.v 2,.v 1,.f 7 11,.l,.v 5,.i,.l,.v 6,.i,.l,.bu .I .A 1,.d,.v 8,.fE CH [(.t 13),(.t 12),.B,.A],.t 0,.yv 0 4,.pick .B (.c (.bool true)) .A,.t 0] [(4,0)] [8])))
 (.U 6 [])))
abbrev akT:IC:=(.seq (.i [.v 2,.v 9,.i,.d,.t 0,.xv 0 10,.x 1 (.cV (.v 7) 0 (some 10)),.x 2 (.cV .A 0 none),.xl 3,.x 4 (.cV (.v 7) 0 (some 10)),.x 5 (.cV .A 2 none),.xl 6,.x 7 (.bin .mul .D .A),.x 8 (.bin .lss .H .A),.pick .J .A (.c (.bool false))] [] [] 103 0 .skip (.exit 8))
 (.seq (.block 9 (.s [.v 3,.v 5,.i,.d,.v 10,.cV (.v 7) 0 (some 10),.h 0 2,.l,.bin .quo .D .A,.bN [.A] 1,.v 3,.v 9,.i,.d,.cV (.v 7) 0 (some 10),.h 0 0,.l,.cV (.v 7) 0 (some 10),.h 0 1,.l,.A .D .A,.v 10,.cV (.v 7) 0 (some 10),.h 0 2,.l,.bin .rem .D .A,.A .F .A,.bN [.A] 1,.bN [(.t 24),(.t 18),(.t 14),.A] 1,.C xb [.A],.t 0] [(11,0)] []
 (.g [.v 3,.v 2,.v 1,.f 7 12,.l,.v 5,.i,.l,.v 9,.i,.l,.v 10,.i,.l,.bu (.t 11) .A 1,.d,.v 11,.fE CH [(.t 16),(.t 15),.B,.A],.t 0,.yv 0 4,.pick .B (.c (.bool true)) .A,.t 0] [(4,0)] [11])))
 (.U 10 [])))
abbrev akU:IC:=(.seq (.i [.v 9,.v 1,.n,.L .C .A] [] [] 86 0 .skip (.exit 6))
 (.seq (.block 7 (.k 0 10 []
 (.o 8 akT)))
 (.U 9 [10])))
abbrev akV:IC:=(.seq (.i [.v 5,.v 1,.n,.L .C .A] [] [] 38 0 .skip (.exit 2))
 (.seq (.block 3 (.seq (.j [.v 2,.v 5,.i,.d,.not .A] [] [] 45 0 (.exit 3))
 (.seq (.k 0 6 []
 (.o 4 akS))
 (.k 0 9 [6]
 (.o 6 akU)))))
 (.U 5 [9])))
abbrev akW:IC:=(.seq (.w [.v 4] [] [4,5] 34 0)
 (.block 1 (.s [.b] [(4,0)] []
 (.k 0 5 []
 (.o 2 akV)))))
abbrev akX:IC:=(.seq (.i [.v 12,.v 1,.n,.L .C .A] [] [] 160 0 .skip (.exit 10))
 (.seq (.block 11 (.j [.v 1,.v 12,.i,.d,.v 12,.E .B .A,.t 0,.xv 0 2,.xv 1 12,.x 2 (.bu .B .A 1),.x 3 (.ld .A none),.x 4 (.not .A),.pick .F .A (.c (.bool false))] [] [] 175 0 (.s [.mv (.c (.ag)),.mv (.c (.ag)),.b] [(13,2),(14,1),(15,0)] [1,2,3,12]
 .ret)))
 (.U 12 [])))
abbrev IJ:Fn:={np:=2,nv:=16,res:=[(13,none),(14,none),(15,none)],body:=
(.s [.fD (.v 0),.mv (.c (.ag)),.mv (.c (.ag)),.b] [(7,3)] [0,13,14,15]
 (.s [.v 1,.n,.jc .A .A [.ag] none,.t 0] [(3,0)] []
 (.s [.v 1,.n,.jc .A .A [.bool false] none,.t 0] [(2,0)] []
 (.s [.v 2,.v 1,.bu .A (.i 0) 1,.d,.bu .D .A 1,.st .A (.c (.bool true)) 1] [] []
 (.s [.v 3,.v 1,.bu .A (.i 0) 1,.d,.bN [] 1,.bu .E .B 1,.st .A .B 1] [] []
 (.seq (.s [.mv (.c (.bool true))] [(4,0)] []
 (.o 0 akW))
 (.seq (.k 0 12 [7]
 (.o 10 akX))
 (.s [.v 3,.v 2,.t 1,.t 1,.mv (.c (.bool true))] [(13,2),(14,1),(15,0)] [1,2,3,12]
 .ret))))))))}
abbrev akY:IC:=(.seq (.i [.v 5,.f 6 0,.d,.L .C .A] [] [] 43 0 .skip (.exit 2))
 (.seq (.block 3 (.g [.v 7,.v 4,.f 6 0,.d,.M .C .A,.v 5,.A .B .A,.bW [.A] 1,.cp .H .A none,.t 0] [(7,0)] []))
 (.U 5 [])))
abbrev akZ:IC:=(.seq (.i [.v 8,.f 6 1,.d,.L .C .A] [] [] 58 0 .skip (.exit 4))
 (.seq (.block 5 (.g [.v 9,.v 2,.v 1,.f 3 11,.l,.v 2,.v 4,.i,.d,.bu .E .A 1,.l,.v 8,.i,.l,.bu (.t 11) .A 1,.d,.C w4 [(.t 14),.A],.bW [.A] 1,.app (.t 17) .A none,.t 0] [(9,0)] []))
 (.U 8 [])))
abbrev ak0:IC:=(.seq (.i [.v 11,.f 6 2,.d,.L .C .A,.t 0,.xf 0 6 0,.x 1 (.ld .A none),.x 2 (.bin .gtr .A (.i 0)),.pick .D .A (.c (.bool false))] [] [] 97 0 .skip (.exit 8))
 (.seq (.block 9 (.g [.v 12,.v 11,.v 2,.v 1,.f 3 12,.l,.v 2,.v 10,.f 6 0,.d,.bin .quo .C .A,.bu .E .A 1,.d,.bu .H .A 1,.l,.v 2,.v 4,.i,.d,.bu .E .A 1,.l,.v 10,.f 6 0,.d,.bin .rem .C .A,.f 6 2,.d,.M .C .A,.v 11,.A .B .A,.bu .J .A 1,.l,.bu (.t 28) .A 1,.d,.C w4 [(.t 31),.A],.bu (.t 34) (.t 33) 1,.st .A .B 1] [] []))
 (.U 11 [])))
abbrev ak1:IC:=(.seq (.i [.v 10,.f 6 3,.d,.L .C .A] [] [] 83 0 .skip (.exit 6))
 (.seq (.block 7 (.s [.f 6 2,.d,.jc .A .A [.int 0] none,.t 0] [(12,0)] []
 (.seq (.k 0 11 []
 (.seq (.o 8 ak0) (.ji 12)))
 (.g [.v 13,.v 12,.bW [.A] 1,.cp .C .A none,.t 0] [(13,0)] [11,12]))))
 (.U 10 [])))
abbrev ak2:IC:=(.seq (.w [.v 4,.v 2,.n,.L .C .A] [] [] 37 0)
 (.seq (.block 1 (.s [.nl none,.nl none] [(7,1),(9,0)] []
 (.seq (.k 0 5 []
 (.seq (.o 2 akY) (.ji 7)))
 (.seq (.k 0 8 [5]
 (.seq (.o 4 akZ) (.ji 9)))
 (.s [.nl none] [(13,0)] [8]
 (.seq (.k 0 10 []
 (.seq (.o 6 ak1) (.ji 13)))
 (.s [.f 6 5,.d,.f 3 10,.l,.v 2,.v 4,.i,.d,.bu .E .A 1,.l,.bW [.A] 1,.app .J .A none,.f 6 5,.st .A .B 1] [] [10]
 (.s [.f 6 6,.d,.f 6 0,.d,.jc .A .A [.int 0] none,.bW [.A] 1,.app .E .A none,.f 6 6,.st .A .B 1] [] []
 (.s [.f 6 7,.d,.v 7,.bW [.A] 1,.cp .C .A none,.f 6 7,.st .A .B 1] [] [7]
 (.s [.f 6 8,.d,.v 9,.bW [.A] 1,.cp .C .A none,.f 6 8,.st .A .B 1] [] [9]
 (.g [.f 6 9,.d,.v 13,.bW [.A] 1,.cp .C .A none,.f 6 9,.st .A .B 1] [] [13])))))))))))
 (.U 4 [])))
abbrev IK:Fn:={np:=3,nv:=15,res:=[(14,some (some 10))],body:=
(.s [.fD (.v 0),.lW dJ (some 10)] [(3,1),(14,0)] [0]
 (.s [.cV (.v 3) 0 (some 10),.h 0 0,.l,.cV (.v 3) 0 (some 10),.h 0 1,.l,.cV (.v 3) 0 (some 10),.h 0 2,.l,.v 2,.n,.cV (.v 3) 0 (some 10),.h 0 0,.l,.M .D .A,.p (.mx true (.i 1) .A),.iz dJ [(0,1,(.t 13)),(1,1,(.t 10)),(2,1,.H),(3,1,.A)],.lW dJ (some 10),.st .A .B 10] [(6,1)] []
 (.seq (.k 0 4 []
 (.o 0 ak2))
 (.s [.ld (.v 6) (some 10),.st (.v 14) .A 10] [] [1,2,3,4,6]
 .ret))))}
abbrev ak3:IC:=(.seq (.i [.v 4,.G .A (.i 0),.t 0,.xv 0 1,.xv 1 3,.xv 2 4,.x 3 (.bu .B .A 1),.x 4 (.ld .A none),.x 5 (.bu .E .A 1),.x 6 (.ld .A none),.xv 7 1,.xv 8 3,.xv 9 4,.x 10 (.bin .sub .A (.i 1)),.x 11 (.bu .C .A 1),.x 12 (.ld .A none),.x 13 (.bu .F .A 1),.x 14 (.ld .A none),.x 15 (.k9 Cb [.I,.A]),.x 16 (.bin .lss .A (.i 0)),.pick (.t 17) .A (.c (.bool false))] [] [] 47 0 .skip (.exit 2))
 (.seq (.block 3 (.g [.v 3,.v 4,.v 3,.v 4,.S .A (.i 1),.v 3,.v 4,.S .A (.i 1),.bu .C .A 1,.d,.v 3,.v 4,.i,.d,.bu (.t 13) (.t 12) 1,.st .A .F 1,.bu (.t 13) (.t 11) 1,.st .A .D 1] [] []))
 (.g [.v 4,.S .A (.i 1),.t 0] [(4,0)] [])))
abbrev ak4:IC:=(.seq (.w [.v 2,.v 0,.n,.L .C .A] [] [] 11 0)
 (.seq (.block 1 (.seq (.j [.v 0,.v 2,.i,.d,.v 2,.N .B .A] [] [] 19 0 (.exit 1))
 (.s [.v 3,.v 2,.bW [.A] 1,.cp .C .A none,.t 0] [(3,0)] []
 (.s [.v 3,.n,.S .A (.i 1),.t 0] [(4,0)] []
 (.o 2 ak3)))))
 (.U 2 [4])))
abbrev IL:Fn:={np:=2,nv:=6,res:=[(5,none)],body:=
(.s [.mv (.c (.ag))] [] [5]
 (.s [.nl none] [(3,0)] []
 (.seq (.k 0 2 []
 (.o 0 ak4))
 (.m 3 5 [0,1,2,3]
 .ret))))}
abbrev ak5:IC:=(.seq (.w [.v 2,.v 0,.n,.L .C .A] [] [] 14 0)
 (.seq (.block 1 (.j [.v 0,.v 2,.i,.d,.v 1,.v 2,.i,.d,.C JJ [.E,.A],.not .A] [] [] 26 0 (.s [.b] [(3,0)] [0,1,2]
 .ret)))
 (.U 2 [])))
abbrev IM:Fn:={np:=2,nv:=4,res:=[(3,none)],body:=
(.s [.b] [] [3]
 (.seq (.j [.v 0,.n,.v 1,.n,.N .C .A] [] [] 10 0 (.s [.b] [(3,0)] [0,1]
 .ret))
 (.seq (.k 0 2 []
 (.o 0 ak5))
 (.s [.mv (.c (.bool true))] [(3,0)] [0,1,2]
 .ret))))}
abbrev ak6:IC:=(.seq (.w [.v 2,.v 0,.n,.L .C .A] [] [] 14 0)
 (.seq (.block 1 (.j [.v 0,.v 2,.i,.d,.v 1,.v 2,.i,.d,.p (.beq true .E .A)] [] [] 25 0 (.s [.b] [(3,0)] [0,1,2]
 .ret)))
 (.U 2 [])))
abbrev IP:Fn:={np:=2,nv:=4,res:=[(3,none)],body:=
(.s [.b] [] [3]
 (.seq (.j [.v 0,.n,.v 1,.n,.N .C .A] [] [] 10 0 (.s [.b] [(3,0)] [0,1]
 .ret))
 (.seq (.k 0 2 []
 (.o 0 ak6))
 (.s [.mv (.c (.bool true))] [(3,0)] [0,1,2]
 .ret))))}
abbrev IQ:Fn:={np:=1,nv:=4,res:=[(2,some (some 10)),(3,none)],body:=
(.s [.lW dJ (some 10),.k 0] [(2,1)] [3]
 (.seq (.s [.v 0,.fE JK [.A],.t 0] [(1,0)] []
 (.j [.v 1,.N .A (.i 0)] [] [] 8 0 (.s [.iz dJ [],.v 1,.st (.v 2) .B 10,.t 1] [(3,0)] [0,1]
 .ret)))
 (.s [.v 0,.fE JL [.A],.e .A 0,.e .B 1,.st (.v 2) .B 10,.t 1] [(3,0)] [0,1]
 .ret)))}
abbrev ak7:IC:=(.Z 8 9 70 0 1 [] (.m 8 10 []
 (.s [.cW (.v 6) (some 20),.v 10,.C zz [.B,.A],.t 0,.e .A 0,.e .B 1,.t 1,.t 1] [(11,1),(12,0)] []
 (.g [.v 7,.v 10,.f 2 5,.l,.v 11,.i,.l,.f 4 5,.l,.v 12,.i,.l,.p (.beq true .F .A),.bu (.t 12) (.t 11) 1,.st .A .B 1] [] [10,11,12]))))
abbrev IS:Fn:={np:=2,nv:=16,res:=[(13,none),(14,none),(15,none)],body:=
(.s [.fD (.v 0),.fD (.v 1),.mv (.c (.ag)),.b,.k 0] [(2,4),(4,3)] [0,1,13,14,15]
 (.seq (.s [.cW (.v 2) (some 10),.C uV [.A],.t 0] [(3,0)] []
 (.j [.v 3,.N .A (.i 0)] [] [] 17 0 (.s [.v 3,.mv (.c (.ag)),.b,.t 2] [(13,2),(14,1),(15,0)] [2,3,4]
 .ret)))
 (.seq (.s [.cW (.v 4) (some 10),.C uV [.A],.t 0] [(5,0)] [3]
 (.j [.v 5,.N .A (.i 0)] [] [] 22 0 (.s [.v 5,.mv (.c (.ag)),.b,.t 2] [(13,2),(14,1),(15,0)] [2,4,5]
 .ret)))
 (.seq (.j [.f 2 0,.l,.f 4 0,.l,.N .C .A,.t 0,.yf 0 2 1,.yl 1,.yf 2 4 1,.yl 3,.y 4 (.bin .neq .C .A),.pick .F (.c (.bool true)) .A,.t 0,.yf 0 2 2,.yl 1,.yf 2 4 2,.yl 3,.y 4 (.bin .neq .C .A),.pick .F (.c (.bool true)) .A] [] [5] 42 0 (.s [.mv (.c (.ag)),.b,.k 15] [(13,2),(14,1),(15,0)] [2,4]
 .ret))
 (.seq (.j [.f 2 5,.l,.n,.f 4 5,.l,.n,.M .D .A,.G .A (.i 144),.t 0,.yf 0 2 3,.yl 1,.yf 2 4 3,.yl 3,.y 4 (.bin .mul .C .A),.y 5 (.bin .gtr .A (.i 1024)),.pick .G (.c (.bool true)) .A] [] [] 58 0 (.s [.mv (.c (.ag)),.b,.k 11] [(13,2),(14,1),(15,0)] [2,4]
 .ret))
 (.s [.cW (.v 2) (some 10),.iz dJ [(0,10,.A)],.cW (.v 4) (some 10),.iz dJ [(0,10,.A)],.iz [.int 0,.int 0,.int 0,.int 0,.int 0,.ag,.ag,.ag,.ag,.ag,.int 0,.int 0,.int 0,.int 0,.int 0,.ag,.ag,.ag,.ag,.ag] [(0,10,.C),(10,10,.A)],.p (.gw 20),.jX .A .B 20] [(6,0)] []
 (.s [.cW (.v 6) (some 20),.C pC [.A],.jc .A .A [.bool false] none,.t 0] [(7,0)] []
 (.seq (.s [.v 7,.n,.k 0] [(9,1),(8,0)] []
 (.seq (.o 0 ak7) (.ji 7)))
 (.s [.cW (.v 6) (some 20),.p (.Mm jH .A),.cW (.v 2) (some 10),.f 2 4,.l,.cV (.v 6) 10 (some 10),.cW .A (some 10),.C jZ [.A],.M .D .A,.f 4 4,.l,.A .C .A,.v 7,.C Ro [(.t 11),(.t 10),.B,.A],.e .A 0,.e .B 1,.e .C 2,.t 2,.t 2,.t 2] [(13,2),(14,1),(15,0)] [2,4,6,7,8,9]
 .ret)))))))))}
abbrev IT:Fn:={np:=1,nv:=3,res:=[(2,none)],body:=
(.s [.fD (.v 0),.k 0] [(1,1)] [0,2]
 (.seq (.j [.f 1 0,.l,.L .A (.i 0),.t 0,.yf 0 1 0,.yl 1,.y 2 (.bin .gtr .A (.i 64)),.pick .D (.c (.bool true)) .A,.t 0,.yf 0 1 1,.yl 1,.y 2 (.bin .lss .A (.i 0)),.pick .D (.c (.bool true)) .A,.t 0,.yf 0 1 1,.yl 1,.y 2 (.bin .gtr .A (.i 64)),.pick .D (.c (.bool true)) .A,.t 0,.yf 0 1 2,.yl 1,.y 2 (.bin .lss .A (.i 0)),.pick .D (.c (.bool true)) .A,.t 0,.yf 0 1 2,.yl 1,.y 2 (.bin .gtr .A (.i 64)),.pick .D (.c (.bool true)) .A] [] [] 30 0 (.k 2 2 [1]
 .ret))
 (.seq (.j [.cW (.v 1) (some 10),.C CB [.A],.L .A (.i 1),.t 0,.y 0 (.cW (.v 1) (some 10)),.y 1 (.k9 CB [.A]),.y 2 (.bin .gtr .A (.i 64)),.pick .D (.c (.bool true)) .A,.t 0,.yf 0 1 3,.yl 1,.y 2 (.bin .lss .A (.i 1)),.pick .D (.c (.bool true)) .A,.t 0,.yf 0 1 3,.yl 1,.y 2 (.bin .gtr .A (.i 128)),.pick .D (.c (.bool true)) .A] [] [] 48 0 (.k 2 2 [1]
 .ret))
 (.seq (.j [.f 1 5,.l,.n,.E .A (.i 0)] [] [] 52 0 (.k 19 2 [1]
 .ret))
 (.seq (.j [.f 1 5,.l,.n,.G .A (.i 128)] [] [] 56 0 (.k 11 2 [1]
 .ret))
 (.seq (.j [.f 1 4,.l,.L .A (.i 0),.t 0,.yf 0 1 4,.yl 1,.yf 2 1 5,.yl 3,.y 4 (.len .A),.y 5 (.bin .geq .D .A),.pick .G (.c (.bool true)) .A] [] [] 67 0 (.k 2 2 [1]
 .ret))
 (.seq (.j [.f 1 6,.l,.n,.f 1 5,.l,.n,.N .D .A,.t 0,.yf 0 1 7,.yl 1,.y 2 (.len .A),.yf 3 1 5,.yl 4,.y 5 (.len .A),.y 6 (.bin .neq .D .A),.pick .H (.c (.bool true)) .A,.t 0,.yf 0 1 8,.yl 1,.y 2 (.len .A),.yf 3 1 5,.yl 4,.y 5 (.len .A),.y 6 (.bin .neq .D .A),.pick .H (.c (.bool true)) .A,.t 0,.yf 0 1 9,.yl 1,.y 2 (.len .A),.yf 3 1 5,.yl 4,.y 5 (.len .A),.y 6 (.bin .neq .D .A),.pick .H (.c (.bool true)) .A] [] [1] 101 0 (.k 1 2 []
 .ret))
 (.k 0 2 []
 .ret))))))))}
abbrev ak8:IC:=(.seq (.w [.v 3,.f 2 0,.l,.L .C .A] [] [] 54 0)
 (.seq (.block 1 (.j [.cW (.v 2) (some 10),.f 2 6,.l,.v 1,.i,.l,.v 3,.i,.l,.C zI [.I,.A],.not .A,.t 0,.yf 0 2 7,.yl 1,.yv 2 1,.y 3 (.bu .B .A 1),.yl 4,.yv 5 3,.y 6 (.bu .B .A 1),.yl 7,.y 8 (.bin .lss .A (.i 0)),.pick .J (.c (.bool true)) .A,.t 0,.yf 0 2 7,.yl 1,.yv 2 1,.y 3 (.bu .B .A 1),.yl 4,.yv 5 3,.y 6 (.bu .B .A 1),.yl 7,.yf 8 2 3,.yl 9,.y 10 (.bin .geq .C .A),.pick (.t 11) (.c (.bool true)) .A] [] [] 91 0 (.k 2 7 [1,2,3]
 .ret)))
 (.U 3 [])))
abbrev ak9:IC:=(.seq (.i [.v 4,.f 2 1,.l,.L .C .A] [] [] 95 0 .skip (.exit 2))
 (.seq (.block 3 (.j [.cW (.v 2) (some 10),.f 2 8,.l,.v 1,.i,.l,.v 4,.i,.l,.C zI [.I,.A],.not .A] [] [] 108 0 (.k 2 7 [1,2,4]
 .ret)))
 (.U 4 [])))
abbrev ala:IC:=(.seq (.i [.v 6,.f 2 2,.l,.L .C .A] [] [] 130 0 .skip (.exit 6))
 (.seq (.block 7 (.j [.cW (.v 2) (some 10),.f 2 9,.l,.v 1,.i,.l,.v 5,.i,.l,.v 6,.i,.l,.C zI [(.t 11),.A],.not .A] [] [] 146 0 (.k 2 7 [1,2,5,6]
 .ret)))
 (.U 6 [])))
abbrev alb:IC:=(.seq (.i [.v 5,.f 2 3,.l,.L .C .A] [] [] 112 0 .skip (.exit 4))
 (.seq (.block 5 (.seq (.j [.f 2 9,.l,.v 1,.i,.l,.v 5,.i,.l,.n,.f 2 2,.l,.N .C .A] [] [] 126 0 (.k 1 7 [1,2,5]
 .ret))
 (.k 0 6 []
 (.o 6 ala))))
 (.U 5 [6])))
abbrev IU:Fn:={np:=2,nv:=8,res:=[(7,none)],body:=
(.s [.fD (.v 0),.k 0] [(2,1)] [0,7]
 (.seq (.j [.f 2 6,.l,.v 1,.i,.l,.n,.f 2 0,.l,.N .C .A,.t 0,.yf 0 2 7,.yl 1,.yv 2 1,.y 3 (.bu .B .A 1),.yl 4,.y 5 (.len .A),.yf 6 2 0,.yl 7,.y 8 (.bin .neq .C .A),.pick .J (.c (.bool true)) .A,.t 0,.yf 0 2 8,.yl 1,.yv 2 1,.y 3 (.bu .B .A 1),.yl 4,.y 5 (.len .A),.yf 6 2 1,.yl 7,.y 8 (.bin .neq .C .A),.pick .J (.c (.bool true)) .A,.t 0,.yf 0 2 9,.yl 1,.yv 2 1,.y 3 (.bu .B .A 1),.yl 4,.y 5 (.len .A),.yf 6 2 3,.yl 7,.y 8 (.bin .neq .C .A),.pick .J (.c (.bool true)) .A] [] [] 50 0 (.k 1 7 [1,2]
 .ret))
 (.seq (.k 0 3 []
 (.o 0 ak8))
 (.seq (.k 0 4 [3]
 (.o 2 ak9))
 (.seq (.k 0 5 [4]
 (.o 4 alb))
 (.k 0 7 [1,2,5]
 .ret))))))}
abbrev IV:Fn:={np:=1,nv:=3,res:=[(2,none)],body:=
(.s [.fD (.v 0),.k 0] [(1,1)] [0,2]
 (.s [.f 1 0,.l,.f 1 1,.l,.A .C .A,.f 1 2,.l,.A .C .A,.t 0] [(2,0)] [1]
 .ret))}
abbrev IW:Fn:={np:=2,nv:=4,res:=[(3,none)],body:=
(.s [.fD (.v 1),.k 0] [(2,1)] [1,3]
 (.seq (.block 0 (.i [.cW (.v 2) none,.C JM [.A],.not .A,.t 0] [] [] 5 0 (.k 2 3 [0,2]
 .ret) (.i [.v 0,.n,.G .A (.i 1024),.t 0] [] [] 9 0 (.k 3 3 [0,2]
 .ret) (.j [.v 0,.p (.BG zK [(.v 2)]),.C zJ [.B,.A],.t 0] [] [0,2] 13 0 (.k 1 3 []
 .ret)))))
 (.k 0 3 []
 .ret)))}
abbrev IX:Fn:={np:=1,nv:=3,res:=[(2,none)],body:=
(.s [.fD (.v 0),.k 0] [(1,1)] [0,2]
 (.s [.f 1 0,.l,.f 1 1,.l,.A .C .A,.f 1 2,.l,.A .C .A,.t 0] [(2,0)] [1]
 .ret))}
abbrev ald:IC:=(.Z 2 3 14 0 1 [] (.z 4 2 1 5 []
 (.seq (.block 2 (.i [.v 5,.f 6 0,.l,.L .C .A,.t 0] [] [] 17 0 (.U 7 [5]) (.j [.v 5,.f 6 0,.l,.f 6 1,.l,.A .C .A,.bin .geq .F .A,.t 0] [] [5] 24 0 (.g [.v 7,.S .A (.i 1),.t 0] [(7,0)] []))))
 (.s [.v 8,.v 7,.p (.mx true .B .A),.t 0] [(8,0)] []
 (.g [.v 9,.t 0,.xv 0 7,.x 1 (.bin .geq .A (.i 0)),.pick .C .A (.c (.bool false)),.t 0] [(9,0)] [])))))
abbrev IY:Fn:={np:=2,nv:=12,res:=[(10,none),(11,none)],body:=
(.s [.fD (.v 0),.k 0,.b] [(6,2)] [0,10,11]
 (.s [.k 0,.k 0,.mv (.c (.bool true))] [(7,2),(8,1),(9,0)] []
 (.seq (.s [.v 1,.n,.k 0] [(4,2),(3,1),(2,0)] [1]
 (.o 0 ald))
 (.s [.v 8,.v 9,.t 0,.xv 0 7,.x 1 (.bin .eql .A (.i 0)),.pick .C .A (.c (.bool false)),.t 5,.t 1] [(10,1),(11,0)] [2,3,4,6,7,8,9]
 .ret))))}
abbrev IZ:Fn:={np:=3,nv:=6,res:=[(4,none),(5,none)],body:=
(.s [.fD (.v 0),.k 0,.k 0] [(3,2)] [0,4,5]
 (.s [.cV (.v 3) 0 (some 10),.h 0 6,.l,.v 1,.i,.l,.v 2,.i,.l,.cV (.v 3) 0 (some 10),.h 0 7,.l,.v 1,.i,.l,.v 2,.i,.l,.t 9,.t 1] [(4,1),(5,0)] [1,2,3]
 .ret))}
abbrev I0:Fn:={np:=2,nv:=2,res:=[],body:=
(.g [.v 0,.v 0,.q,.h 0 0,.d,.v 1,.bW [.A] 1,.cp .C .A none,.p (.o9 .H),.h 0 0,.st .A .C 1] [] [0,1])}
abbrev I3:Fn:={np:=3,nv:=5,res:=[(4,none)],body:=
(.s [.fD (.v 0),.k 0] [(3,1)] [0,4]
 (.s [.cV (.v 3) 0 (some 10),.h 0 8,.l,.v 1,.i,.l,.v 2,.i,.l,.t 0] [(4,0)] [1,2,3]
 .ret))}
abbrev I4:Fn:={np:=4,nv:=6,res:=[(5,none)],body:=
(.s [.fD (.v 0),.k 0] [(4,1)] [0,5]
 (.s [.cV (.v 4) 0 (some 10),.h 0 9,.l,.v 1,.i,.l,.v 2,.i,.l,.v 3,.i,.l,.t 0] [(5,0)] [1,2,3,4]
 .ret))}
abbrev I5:Fn:={np:=1,nv:=3,res:=[(2,none)],body:=
(.s [.k 0] [] [2]
 (.s [.v 0,.q,.h 0 0,.d,.v 0,.q,.h 0 0,.d,.n,.S .A (.i 1),.bu .G .A 1,.d,.t 0] [(1,0)] []
 (.s [.v 0,.v 0,.q,.h 0 0,.d,.v 0,.q,.h 0 0,.d,.n,.S .A (.i 1),.p (.qX .G none (some .A) 1),.p (.o9 (.t 11)),.h 0 0,.st .A .C 1] [] [0]
 (.m 1 2 [1]
 .ret))))}
abbrev I6:Fn:={np:=2,nv:=4,res:=[(3,none)],body:=
(.s [.fD (.v 1),.b] [(2,1)] [1,3]
 (.s [.v 0,.p (.BG CI [(.v 2)]),.C zJ [.B,.A],.t 0] [(3,0)] [0,2]
 .ret))}
abbrev ale:IC:=(.Z 4 5 86 0 1 [] (.z 6 4 1 7 []
 (.seq (.j [.v 7,.n,.f 2 2,.l,.N .C .A] [] [] 93 0 (.k 1 8 [2,3,4,5,6,7]
 .ret))
 (.j [.v 7,.v 3,.C tu [.B,.A]] [] [7] 96 0 (.k 2 8 [2,3,4,5,6]
 .ret)))))
abbrev I7:Fn:={np:=2,nv:=9,res:=[(8,none)],body:=
(.s [.fD (.v 0),.k 0] [(2,1)] [0,8]
 (.s [.f 2 5,.l,.n,.t 0] [(3,0)] []
 (.seq (.j [.f 2 6,.l,.v 1,.i,.l,.n,.f 2 0,.l,.N .C .A,.t 0,.yf 0 2 7,.yl 1,.yv 2 1,.y 3 (.bu .B .A 1),.yl 4,.y 5 (.len .A),.yf 6 2 0,.yl 7,.y 8 (.bin .neq .C .A),.pick .J (.c (.bool true)) .A,.t 0,.yf 0 2 8,.yl 1,.yv 2 1,.y 3 (.bu .B .A 1),.yl 4,.y 5 (.len .A),.yf 6 2 1,.yl 7,.y 8 (.bin .neq .C .A),.pick .J (.c (.bool true)) .A,.t 0,.yf 0 2 9,.yl 1,.yv 2 1,.y 3 (.bu .B .A 1),.yl 4,.y 5 (.len .A),.yf 6 2 3,.yl 7,.y 8 (.bin .neq .C .A),.pick .J (.c (.bool true)) .A] [] [] 52 0 (.k 1 8 [1,2,3]
 .ret))
 (.seq (.j [.f 2 6,.l,.v 1,.i,.l,.v 3,.C tu [.B,.A],.t 0,.yf 0 2 7,.yl 1,.yv 2 1,.y 3 (.bu .B .A 1),.yl 4,.yf 5 2 3,.yl 6,.y 7 (.k9 tu [.C,.A]),.pick .I (.c (.bool true)) .A,.t 0,.yf 0 2 8,.yl 1,.yv 2 1,.y 3 (.bu .B .A 1),.yl 4,.yv 5 3,.y 6 (.k9 tu [.B,.A]),.pick .H (.c (.bool true)) .A] [] [] 78 0 (.k 2 8 [1,2,3]
 .ret))
 (.seq (.s [.f 2 9,.l,.v 1,.i,.l,.n,.k 0] [(6,2),(5,1),(4,0)] [1]
 (.o 0 ale))
 (.k 0 8 [2,3,4,5,6]
 .ret))))))}
abbrev alf:IC:=(.Z 2 3 13 0 1 [] (.z 4 2 1 6 []
 (.g [.v 5,.v 6,.cp .B .A none,.t 0] [(5,0)] [6])))
abbrev I8:Fn:={np:=1,nv:=8,res:=[(7,none)],body:=
(.s [.fD (.v 0),.mv (.c (.ag))] [(1,1)] [0,7]
 (.s [.f 1 4,.l,.p (.lz [.A] none),.t 0] [(5,0)] []
 (.seq (.s [.f 1 6,.l,.n,.k 0] [(4,2),(3,1),(2,0)] [1]
 (.o 0 alf))
 (.s [.v 5,.fE zL [.A]] [] [2,3,4]
 (.s [.v 5,.fE JN [.A],.t 0] [(7,0)] [5]
 .ret)))))}
abbrev I9:Fn:={np:=2,nv:=5,res:=[(4,none)],body:=
(.s [.k 0] [] [4]
 (.s [.v 0,.q,.h 0 13,.d,.v 1,.C zt [.A],.p (.vB .C 1 .A (.int 0) true),.t 0,.e .A 0,.e .B 1,.t 1,.t 1] [(3,1),(2,0)] []
 (.seq (.j [.v 2,.not .A] [] [2] 18 0 (.s [.v 0,.q,.h 0 12,.d,.n,.t 0] [(3,0)] []
 (.s [.v 0,.q,.h 0 13,.d,.v 1,.C zt [.A],.v 3,.p (.vz .D 1 .B .A)] [] []
 (.g [.v 0,.v 0,.q,.h 0 12,.d,.v 1,.bW [.A] 1,.cp .C .A none,.p (.o9 .H),.h 0 12,.st .A .C 1] [] [0,1]))))
 (.m 3 4 [0,1,3]
 .ret))))}
abbrev Rh:Fn:={np:=1,nv:=2,res:=[(1,none)],body:=
(.s [.mv (.c (.ag))] [] [1]
 (.seq (.j [.v 0,.p (.oy false .A)] [] [] 4 0 (.s [.mv (.c (.ag))] [(1,0)] [0]
 .ret))
 (.s [.p (.sB 1),.v 0,.cp .B .A none,.t 0] [(1,0)] [0]
 .ret)))}
abbrev alg:IC:=(.Z 3 4 19 0 1 [] (.z 5 3 1 7 []
 (.g [.v 6,.v 0,.q,.cV .A 0 (some 10),.h 0 8,.d,.v 7,.i,.d,.v 2,.i,.d,.bW [.A] 1,.cp (.t 12) .A none,.t 0] [(6,0)] [7])))
abbrev Ja:Fn:={np:=3,nv:=9,res:=[(8,none)],body:=
(.s [.mv (.c (.ag))] [] [8]
 (.s [.nl none] [(6,0)] []
 (.seq (.s [.v 0,.q,.h 0 12,.d,.v 1,.i,.d,.n,.k 0] [(5,2),(4,1),(3,0)] [1]
 (.o 0 alg))
 (.m 6 8 [0,2,3,4,5,6]
 .ret))))}
abbrev alh:IC:=(.Z 4 5 16 0 1 [] (.m 4 7 []
 (.g [.v 6,.v 0,.v 0,.v 1,.v 2,.v 3,.v 7,.p (.rp JO [.E,.D,.C,.B,.A]),.fE xa [.G,.A],.bW [.A] 1,.cp .J .A none,.t 0] [(6,0)] [7])))
abbrev Jb:Fn:={np:=4,nv:=8,res:=[],body:=
(.s [.nl none] [(6,0)] []
 (.seq (.s [.v 0,.q,.cV .A 0 (some 10),.h 0 2,.d,.k 0] [(5,1),(4,0)] []
 (.seq (.o 0 alh) (.ji 6)))
 (.g [.v 0,.q,.h 0 15,.d,.v 1,.i,.d,.v 2,.v 0,.q,.h 0 15,.d,.v 1,.i,.d,.v 2,.i,.d,.v 6,.bW [.A] 1,.app .C .A none,.bu (.t 14) (.t 13) 1,.st .A .B 1] [] [0,1,2,3,4,5,6])))}
abbrev ali:IC:=(.Z 2 3 19 0 1 [] (.m 2 4 []
 (.s [.v 0,.v 1,.v 4,.C CJ [.C,.B,.A],.p (.Bu .A),.t 0] [(6,0)] []
 (.s [.v 5,.v 6,.p (.vB .B 1 .A (.int 0) true),.t 0,.e .A 0,.e .B 1,.t 1,.t 1] [(8,1),(7,0)] []
 (.seq (.j [.v 7,.not .A] [] [7] 33 0 (.s [.v 5,.p (.AO .A),.t 0] [(8,0)] []
 (.g [.v 5,.v 6,.v 8,.p (.vz .C 1 .B .A)] [] [6])))
 (.g [.v 9,.v 4,.v 8,.bu .C .B 1,.st .A .B 1] [] [4,6,8]))))))
abbrev Jc:Fn:={np:=2,nv:=12,res:=[(10,none),(11,none)],body:=
(.s [.mv (.c (.ag)),.k 0] [] [10,11]
 (.s [.p (.yr),.t 0] [(5,0)] []
 (.s [.v 1,.n,.jc .A .A [.int 0] none,.t 0] [(9,0)] []
 (.seq (.s [.v 1,.n,.k 0] [(3,1),(2,0)] []
 (.o 0 ali))
 (.s [.v 9,.v 5,.p (.AO .A),.t 2,.t 1] [(10,1),(11,0)] [0,1,2,3,5,9]
 .ret)))))}
abbrev R8:gi:=⟨[.k 0],[(6,0)],[],none⟩
abbrev R9:gi:=⟨[.v 2,.n,.k 0],[(5,2),(4,1),(3,0)],[],none⟩
abbrev Sa:IC:=(.Z 3 4 14 0 1 [] (.z 5 3 1 7 []
 (.g [.v 6,.v 7,.n,.A .C .A,.t 0] [(6,0)] [7])))
abbrev Sb:gi:=⟨[.v 0,.q,.h 0 1,.d,.v 1,.i,.d,.t 0],[(8,0)],[3,4,5],none⟩
abbrev Sc:gi:=⟨[.v 6,.G .A (.i 1024),.t 0,.yv 0 0,.y 1 (.o9 .A),.y 2 (.cV .A 2 none),.y 3 (.ld .A none),.yv 4 1,.y 5 (.bu .B .A 1),.y 6 (.ld .A none),.pick .H (.c (.bool true)) .A,.t 0,.yv 0 8,.y 1 (.oy true .A),.y 2 (.mv .A),.xv 0 8,.x 1 (.len .A),.xv 2 6,.x 3 (.bin .lss .B .A),.y 7 (.pick .E .A (.c (.bool false))),.pick .I (.c (.bool true)) .A],[],[],some (49,0)⟩
abbrev JT:gi:=⟨[.bW [] 1,.v 2,.C w6 [.A],.cp .C .A none,.t 0],[(9,0)],[2],none⟩
abbrev Sd:gi:=⟨[.v 8,.p (.oy true .A),.t 0,.xv 0 8,.xv 1 9,.x 2 (.k9 pB [.B,.A]),.x 3 (.bin .leq .A (.i 0)),.pick .E .A (.c (.bool false))],[],[],some (61,0)⟩
abbrev Se:gi:=⟨[.v 0,.q,.h 0 1,.d,.v 1,.v 9,.bu .C .B 1,.st .A .B 1],[],[9],none⟩
abbrev Sf:gi:=⟨[.v 8,.p (.oy false .A),.t 0,.yv 0 8,.y 1 (.len .A),.yv 2 6,.y 3 (.bin .gtr .B .A),.pick .E (.c (.bool true)) .A],[],[8],some (76,0)⟩
abbrev JU:gi:=⟨[.v 0,.q,.h 0 3,.d,.v 6,.v 0,.q,.h 0 3,.d,.v 6,.i,.d,.v 1,.bW [.A] 1,.app .C .A none,.bu (.t 11) (.t 10) 1,.st .A .B 1],[],[0,1,6],none⟩
abbrev tt:Fn:={np:=3,nv:=10,res:=[],body:=
(.seq (.cF R8)
 (.seq (.seq (.cF R9)
 (.o 0 Sa))
 (.seq (.cF Sb)
 (.seq (.seq (.cF Sc)
 (.cond 49 .ret .skip))
 (.seq (.seq (.cF JT) (.ji 9))
 (.seq (.seq (.cF Sd)
 (.cond 61 .ret .skip))
 (.seq (.cF Se)
 (.seq (.cF Sf)
 (.cond 76 (.cF JU) .skip)))))))))}
abbrev alj:IC:=(.Z 2 3 17 0 1 [5] (.z 4 2 1 5 []
 (.j [.v 0,.q,.h 0 2,.d,.v 5,.i,.d,.not .A] [] [] 27 0 (.s [.v 0,.q,.h 0 2,.d,.v 5,.i,.st .A (.c (.bool true)) 1] [] []
 (.g [.v 6,.v 5,.bW [.A] 1,.cp .C .A none,.t 0] [(6,0)] [5])))))
abbrev Jd:Fn:={np:=2,nv:=8,res:=[(7,none)],body:=
(.s [.mv (.c (.ag))] [] [7]
 (.s [.nl none] [(6,0)] []
 (.seq (.s [.v 0,.q,.h 0 3,.d,.v 1,.i,.d,.n,.k 0] [(4,2),(3,1),(2,0)] [1]
 (.o 0 alj))
 (.m 6 7 [0,2,3,4,6]
 .ret))))}
abbrev alm:IC:=(.Z 3 4 23 0 1 [] (.s [.v 3,.bu (.v 5) (.v 3) 1,.d,.t 2,.t 1] [(7,1),(6,0)] []
 (.g [.v 0,.v 6,.v 0,.q,.h 0 1,.d,.v 1,.i,.d,.v 2,.q,.cV .A 0 (some 10),.h 0 0,.d,.v 7,.A .B .A,.bN [.A] 1,.bN [.I,.A] 1,.fE uT [(.t 17),(.t 16),.A]] [] [6,7])))
abbrev aln:IC:=(.Z 11 12 62 4 5 [] (.m 11 13 []
 (.s [.v 0,.v 1,.v 13,.v 14,.fE CK [.D,.C,.B,.A]] [] []
 (.g [.v 0,.v 14,.v 13,.v 1,.fE CK [.D,.C,.B,.A]] [] [13]))))
abbrev alo:IC:=(.Z 8 9 53 2 3 [11,12,14] (.z 10 8 1 14 []
 (.s [.v 2,.q,.cV .A 0 (some 10),.h 0 0,.d,.k 0] [(12,1),(11,0)] []
 (.o 4 aln))))
abbrev Je:Fn:={np:=2,nv:=15,res:=[],body:=
(.s [.v 0,.q,.h 0 0,.d,.t 0] [(2,0)] []
 (.seq (.s [.v 2,.q,.h 0 14,.d,.v 1,.i,.d,.n,.k 0] [(5,2),(4,1),(3,0)] []
 (.o 0 alm))
 (.s [.v 0,.q,.h 0 4,.d,.n,.k 0] [(10,2),(9,1),(8,0)] [3,4,5]
 (.o 2 alo))))}
abbrev alq:IC:=(.Z 1 2 9 0 1 [4] (.z 3 1 1 4 []
 (.j [.v 4,.v 5,.N .B .A] [] [] 14 0 (.m 4 6 [1,2,3,4,5]
 .ret))))
abbrev Jf:Fn:={np:=1,nv:=7,res:=[(6,none)],body:=
(.s [.k 0] [] [6]
 (.k 0 5 []
 (.seq (.s [.v 0,.n,.k 0] [(3,2),(2,1),(1,0)] [0]
 (.o 0 alq))
 (.m 5 6 [1,2,3,5]
 .ret))))}
abbrev Jg:Fn:={np:=2,nv:=5,res:=[(4,none)],body:=
(.s [.k 0] [] [4]
 (.s [.v 0,.C CL [.A],.t 0] [(2,0)] []
 (.s [.v 1,.C CL [.A],.t 0] [(3,0)] []
 (.seq (.j [.v 2] [] [2] 11 0 (.seq (.j [.v 3] [] [0,1,3] 12 0 (.k 0 4 []
 .ret))
 (.s [.mv (.i (-1))] [(4,0)] []
 .ret)))
 (.seq (.j [.v 3] [] [3] 13 0 (.k 1 4 [0,1]
 .ret))
 (.seq (.j [.v 0,.v 1,.L .B .A] [] [] 16 0 (.s [.mv (.i (-1))] [(4,0)] [0,1]
 .ret))
 (.seq (.j [.v 0,.v 1,.G .B .A] [] [0,1] 19 0 (.k 1 4 []
 .ret))
 (.k 0 4 []
 .ret))))))))}
abbrev alr:IC:=(.Z 2 3 12 0 1 [8] (.s [.v 2,.bu (.v 4) (.v 2) 1,.d,.t 2,.t 1] [(5,1),(6,0)] []
 (.seq (.j [.v 5,.v 1,.n,.bin .geq .C .A] [] [] 19 0 (.k 1 9 [0,1,2,3,4,5,6]
 .ret))
 (.s [.v 1,.v 5,.i,.d,.t 0] [(7,0)] [5]
 (.s [.v 6,.v 7,.C CG [.B,.A],.t 0] [(8,0)] [6,7]
 (.j [.v 8,.N .A (.i 0)] [] [] 28 0 (.m 8 9 [0,1,2,3,4,8]
 .ret)))))))
abbrev Jh:Fn:={np:=2,nv:=10,res:=[(9,none)],body:=
(.s [.k 0] [] [9]
 (.seq (.s [.v 0,.n,.k 0] [(4,2),(3,1),(2,0)] []
 (.o 0 alr))
 (.seq (.j [.v 0,.n,.v 1,.n,.L .C .A] [] [0,1,2,3,4] 35 0 (.s [.mv (.i (-1))] [(9,0)] []
 .ret))
 (.k 0 9 []
 .ret))))}
abbrev als:IC:=(.Z 2 3 9 0 1 [4] (.m 2 4 []
 (.j [.v 1,.v 0,.v 4,.bu .B .A 3,.ld .A (some 3),.p (.l5 .E [.A])] [] [] 16 0 (.m 4 5 [0,1,2,3,4]
 .ret))))
abbrev Ji:Fn:={np:=2,nv:=6,res:=[(5,none)],body:=
(.s [.k 0] [] [5]
 (.seq (.s [.v 0,.n,.k 0] [(3,1),(2,0)] []
 (.o 0 als))
 (.s [.mv (.i (-1))] [(5,0)] [0,1,2,3]
 .ret)))}
abbrev alu:IC:=(.Z 5 6 32 2 3 [] (.m 5 9 []
 (.g [.v 7,.v 8,.f 2 0,.l,.M .C .A,.v 9,.A .B .A,.bW [.A] 1,.cp .H .A none,.t 0] [(7,0)] [9])))
abbrev alv:IC:=(.Z 12 13 50 4 5 [] (.m 12 14 []
 (.g [.v 11,.v 14,.f 2 2,.l,.jc .A .A [.int 0] none,.bu .E .D 1,.st .A .B 1] [] [14])))
abbrev alw:IC:=(.Z 3 4 27 0 1 [] (.m 3 8 []
 (.s [.nl none] [(7,0)] []
 (.seq (.s [.f 2 0,.l,.k 0] [(6,1),(5,0)] []
 (.o 2 alu))
 (.s [.f 10 3,.d,.jc .A .A [.ag] none,.t 0] [(11,0)] [5,6,8]
 (.seq (.s [.v 11,.n,.k 0] [(13,1),(12,0)] []
 (.o 4 alv))
 (.s [.f 10 6,.d,.f 2 0,.l,.jc .A .A [.int 0] none,.bW [.A] 1,.app .E .A none,.f 10 7,⟨.ld .A none,none,true⟩,.v 7,.bW [.A] 1,.app .C .A none,.f 10 6,.st .A .G 1,.f 10 7,.st .A .D 1] [] [7,12,13]
 (.g [.f 10 8,.d,.f 2 1,.l,.jc .A .A [.int 0] none,.bW [.A] 1,.app .E .A none,.f 10 9,⟨.ld .A none,none,true⟩,.v 11,.bW [.A] 1,.app .C .A none,.f 10 8,.st .A .G 1,.f 10 9,.st .A .D 1] [] [11]))))))))
abbrev Jj:Fn:={np:=2,nv:=16,res:=[(15,some (some 10))],body:=
(.s [.fD (.v 0),.lW dJ (some 10)] [(2,1),(15,0)] [0]
 (.s [.f 2 0,.l,.f 2 1,.l,.f 2 2,.l,.v 1,.f 2 0,.l,.M .C .A,.p (.mx true (.i 1) .A),.v 1,.jc .A .A [.bool false] none,.iz dJ [(0,1,(.t 11)),(1,1,.J),(2,1,.H),(3,1,.C),(5,1,.A)],.lW dJ (some 10),.st .A .B 10] [(10,1)] []
 (.seq (.s [.v 1,.k 0] [(4,1),(3,0)] [1]
 (.o 0 alw))
 (.s [.ld (.v 10) (some 10),.st (.v 15) .A 10] [] [2,3,4,10]
 .ret))))}
end Ab
