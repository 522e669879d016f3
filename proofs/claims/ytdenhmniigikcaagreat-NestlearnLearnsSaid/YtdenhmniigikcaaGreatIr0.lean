/- The functions of the program as small texts, printed by a tool of mine. Condition: none. -/
import Derived.Test.YtdenhmniigikcaaGreatAbBase
set_option linter.all false
open Option renaming some->aa,none->ab
open Bool renaming true->ad,false->ae
namespace Ab
abbrev Ln.l:Ln:=.p (.ew (.t 0) ab)
abbrev Ln.d:Ln:=.p (.ld (.t 0) ab)
abbrev Ln.k (n:Int):Ln:=.p (.mv (.c (.int n)))
abbrev Ln.i:Ln:=.p (.cz (.t 1) (.t 0) 1)
abbrev Ln.n:Ln:=.p (.len (.t 0))
abbrev Ln.q:Ln:=.p (.p7 (.t 0))
abbrev Ln.f (v o:Nat):Ln:=.p (.eu (.v v) o ab)
abbrev Ln.h (v o:Nat):Ln:=.p (.eu (.t v) o ab)
abbrev Ln.b:Ln:=.p (.mv (.c (.bool ae)))
abbrev Ln.c (a b:Nat):Ln:=.p (.bin .lss (.v a) (.v b))
abbrev fN:ao:=[.int 0,.int 0,.int 0,.int 0,.int 0,.aJ,.aJ,.aJ,.aJ,.aJ]
abbrev Ln.cz (a b:Rf) (n:Nat):Ln:=.p (.cz a b n)
abbrev Ln.st (a b:Rf) (n:Nat):Ln:=.p (.st a b n)
abbrev Ln.pick (a b c:Rf):Ln:=.p (.pick a b c)
abbrev Ln.mv (a:Rf):Ln:=.p (.mv a)
abbrev Ln.ew (a:Rf) (n:Option Nat):Ln:=.p (.ew a n)
abbrev Ln.eu (a:Rf) (n:Nat) (k:Option Nat):Ln:=.p (.eu a n k)
abbrev Ln.cq (a:List Rf) (n:Nat):Ln:=.p (.cq a n)
abbrev Ln.dV (a:List Rf) (n:Nat):Ln:=.p (.dV a n)
abbrev Ln.ig (a:Rf):Ln:=.p (.ig a)
abbrev Ln.gm (f:Nat) (a:List Rf):Ln:=.p (.gm f a)
abbrev Ln.dH (a b:Rf) (k:Option Nat):Ln:=.p (.dH a b k)
abbrev Ln.ju (a:ao) (b:List (Nat×Nat×Rf)):Ln:=.p (.ju a b)
abbrev Ln.oz (a:ao) (k:Option Nat):Ln:=.p (.oz a k)
abbrev Ln.kG (a b:Rf) (z:ao) (k:Option Nat):Ln:=.p (.kG a b z k)
abbrev Ln.ld (a:Rf) (k:Option Nat):Ln:=.p (.ld a k)
abbrev Ln.bin (o:Dg) (a b:Rf):Ln:=.p (.bin o a b)
abbrev Ln.app (a b:Rf) (k:Option Nat):Ln:=.p (.app a b k)
abbrev Ln.nl (k:Option Nat):Ln:=.p (.nl k)
abbrev Ln.not (a:Rf):Ln:=.p (.not a)
abbrev Ln.gy (a b:Rf) (n:Nat) (k:Option Nat):Ln:=.p (.gy a b n k)
abbrev Ln.kP (a b:Rf) (n:Nat):Ln:=.p (.kP a b n)
abbrev Ln.xv (k n:Nat):Ln:=.x k (.mv (.v n))
abbrev Ln.xl (k:Nat):Ln:=.x k (.ew (.t 0) ab)
abbrev Ln.xf (k n o:Nat):Ln:=.x k (.eu (.v n) o ab)
abbrev Ln.yv (k n:Nat):Ln:=.y k (.mv (.v n))
abbrev Ln.yl (k:Nat):Ln:=.y k (.ew (.t 0) ab)
abbrev Ln.yf (k n o:Nat):Ln:=.y k (.eu (.v n) o ab)
abbrev Rf.i (n:Int):Rf:=.c (.int n)
abbrev Rf.A:Rf:=.t 0
abbrev Rf.B:Rf:=.t 1
abbrev Rf.C:Rf:=.t 2
abbrev Rf.D:Rf:=.t 3
abbrev Rf.E:Rf:=.t 4
abbrev Rf.F:Rf:=.t 5
abbrev Rf.G:Rf:=.t 6
abbrev Rf.H:Rf:=.t 7
abbrev Rf.I:Rf:=.t 8
abbrev Rf.J:Rf:=.t 9
abbrev Ln.A (a b:Rf):Ln:=.p (.bin .add a b)
abbrev Ln.L (a b:Rf):Ln:=.p (.bin .lss a b)
abbrev Ln.N (a b:Rf):Ln:=.p (.bin .neq a b)
abbrev Ln.E (a b:Rf):Ln:=.p (.bin .eql a b)
abbrev Ln.G (a b:Rf):Ln:=.p (.bin .gtr a b)
abbrev Ln.S (a b:Rf):Ln:=.p (.bin .sub a b)
abbrev Ln.M (a b:Rf):Ln:=.p (.bin .mul a b)
abbrev Ln.C (f:Nat) (l:List Rf):Ln:=.p (.ml f l)
abbrev Ln.e (a:Rf) (n:Nat):Ln:=.p (.ext a n)
abbrev IC.o (n:Nat) (b:IC):IC:=.block n (.loop b)
abbrev IC.g (l:List Ln) (w:List (Nat×Nat)) (d:List Nat):IC:=.cM ⟨l,w,d,ab⟩
abbrev IC.s (l:List Ln) (w:List (Nat×Nat)) (d:List Nat) (c:IC):IC:=.seq (.cM ⟨l,w,d,ab⟩) c
abbrev IC.r (l:List Ln) (w:List (Nat×Nat)) (d:List Nat) (a b:Nat) (c:IC):IC:=.seq (.cM ⟨l,w,d,aa (a,b)⟩) c
abbrev IC.i (l:List Ln) (w:List (Nat×Nat)) (d:List Nat) (a b:Nat) (x y:IC):IC:=.seq (.cM ⟨l,w,d,aa (a,b)⟩) (.cond a x y)
abbrev IC.j (l:List Ln) (w:List (Nat×Nat)) (d:List Nat) (a b:Nat) (x:IC):IC:=.seq (.cM ⟨l,w,d,aa (a,b)⟩) (.cond a x .skip)
abbrev IC.w (l:List Ln) (w:List (Nat×Nat)) (d:List Nat) (a b:Nat):IC:=.seq (.cM ⟨l,w,d,aa (a,b)⟩) (.cond a .skip (.exit 0))
abbrev IC.V (a:Nat) (k:List Nat):IC:=.g [.A (.v a) (.i 1),.t 0] [(a,0)] k
abbrev IC.U (a:Nat) (k:List Nat):IC:=.g [.v a,.A .A (.i 1),.t 0] [(a,0)] k
abbrev IC.H (a b:Nat) (x:IC):IC:=.seq (.cond a .skip (.exit b)) x
abbrev IC.m (a b:Nat) (k:List Nat) (x:IC):IC:=.s [.v a,.t 0] [(b,0)] k x
abbrev IC.k (n:Int) (b:Nat) (k:List Nat) (x:IC):IC:=.s [.k n] [(b,0)] k x
abbrev IC.z (a b n c:Nat) (k:List Nat) (x:IC):IC:=.s [.cz (.v a) (.v b) n,.d,.t 0] [(c,0)] k x
abbrev IC.Z (a b f e n:Nat) (k:List Nat) (x:IC):IC:=.r [.c a b] [] [] f 0 (.H f e (.seq (.block n x) (.V a k)))
abbrev Je:Nat:=178
abbrev jY:Nat:=150
abbrev kM:Nat:=110
abbrev arN:Nat:=9
def S2:Nat:=8
def KG:Nat:=9
def zg:Nat:=10
def tw:Nat:=11
def BJ:Nat:=13
def zh:Nat:=14
def KH:Nat:=16
def wN:Nat:=20
def KI:Nat:=21
def Ez:Nat:=22
def EA:Nat:=23
def wO:Nat:=24
def KJ:Nat:=25
def EB:Nat:=26
def EC:Nat:=27
def ED:Nat:=28
def oP:Nat:=29
def KK:Nat:=30
def wP:Nat:=31
def EE:Nat:=32
def BK:Nat:=33
def EF:Nat:=34
def zi:Nat:=41
def KL:Nat:=42
def EG:Nat:=43
def EH:Nat:=44
def KM:Nat:=45
def KN:Nat:=49
def KO:Nat:=50
def EI:Nat:=52
def EJ:Nat:=58
def BM:Nat:=59
def EK:Nat:=60
def uT:Nat:=61
def KP:Nat:=62
def uQ:Nat:=63
def uU:Nat:=64
def zd:Nat:=65
def uX:Nat:=66
def KQ:Nat:=67
def KR:Nat:=68
def zj:Nat:=69
def pL:Nat:=70
def KS:Nat:=71
def BO:Nat:=72
def KT:Nat:=73
def wM:Nat:=74
def KU:Nat:=75
def EL:Nat:=76
def KV:Nat:=77
def EM:Nat:=78
def KW:Nat:=79
def KX:Nat:=80
def zk:Nat:=83
def KY:Nat:=95
def KZ:Nat:=96
def K0:Nat:=97
def oO:Nat:=98
def ze:Nat:=99
def K4:Nat:=100
def kq:Nat:=101
def zl:Nat:=102
def K6:Nat:=103
def qK:Nat:=104
def uP:Nat:=105
def BP:Nat:=111
def K7:Nat:=117
def BQ:Nat:=118
def BR:Nat:=119
def EN:Nat:=120
def BS:Nat:=121
def K8:Nat:=122
def K9:Nat:=123
def EO:Nat:=124
def zm:Nat:=125
def EP:Nat:=126
def ER:Nat:=127
def La:Nat:=141
def ES:Nat:=142
def Es:Nat:=143
def uO:Nat:=144
def Eu:Nat:=145
def Ev:Nat:=146
def ET:Nat:=147
def EU:Nat:=148
def EV:Nat:=149
def Lc:Nat:=153
def Er:Nat:=155
def BB:Nat:=156
def I0:Nat:=162
def Et:Nat:=163
def I4:Nat:=164
def I6:Nat:=165
def Ja:Nat:=166
def Jb:Nat:=167
def BC:Nat:=168
def uR:Nat:=169
def BD:Nat:=170
def Jk:Nat:=182
def BE:Nat:=183
def Ew:Nat:=184
def BG:Nat:=189
def BH:Nat:=190
def Ey:Nat:=191
def BI:Nat:=192
def za:Nat:=222
def y9:Nat:=223
def zb:Nat:=224
abbrev JA:Fn:={np:=2,nv:=13,res:=[(12,ab)],body:=
(.s [.ig (.v 0),.b] [(2,1)] [0,12]
 (.seq (.j [.ew (.v 2) (aa 10),.C KG [.A],.not .A,.t 0,.yv 0 1,.y 1 (.len .A),.y 2 (.bin .gtr .A (.i 60)),.pick .D (.c (.bool ad)) .A] [] [] 21 0 (.s [.C zg [],.t 0] [(12,0)] [1,2]
 .ret))
 (.s [.ew (.v 2) (aa 10),.C zh [.A],.t 0,.e .A 0,.e .B 1,.e .C 2,.p (.iA 10),.kP .A .D 10,.t 3,.t 3] [(4,2),(5,1),(3,0)] []
 (.seq (.j [.v 3,.N .A (.i 0)] [] [3] 30 0 (.s [.f 4 5,.l,.n,.E .A (.i 0),.t 0,.xv 0 5,.x 1 (.bin .eql .A (.i 0)),.pick .C .A (.c (.bool ae)),.t 0,.x 0 (.ml zg []),.pick .B .A (.c (.bool ae)),.t 0] [(12,0)] [1,2,4,5]
 .ret))
 (.s [.ew (.v 2) (aa 10),.C tw [.A],.t 0,.e .A 0,.e .B 1,.p (.iA 10),.kP .A .C 10,.t 2] [(7,1),(6,0)] []
 (.seq (.j [.v 6,.E .A (.i 0),.t 0,.x 0 (.ew (.v 4) (aa 10)),.x 1 (.ew (.v 7) (aa 10)),.x 2 (.ml BJ [.B,.A]),.x 3 (.not .A),.pick .E .A (.c (.bool ae)),.t 0,.y 0 (.ew (.v 4) (aa 10)),.y 1 (.ml KH [.A]),.y 2 (.bin .neq .A (.i 0)),.pick .D (.c (.bool ad)) .A,.t 0,.yv 0 5,.y 1 (.bin .lss .A (.i 1)),.pick .C (.c (.bool ad)) .A,.t 0,.yv 0 5,.yf 1 4 5,.yl 2,.y 3 (.len .A),.y 4 (.bin .gtr .D .A),.pick .F (.c (.bool ad)) .A] [] [5,6,7] 70 0 (.s [.b] [(12,0)] [1,2,4]
 .ret))
 (.s [.ew (.v 2) (aa 10),.v 1,.C wN [.B,.A],.t 0,.e .A 0,.e .B 1,.t 1,.t 1] [(8,1),(10,0)] [2]
 (.s [.ew (.v 4) (aa 10),.v 1,.C wN [.B,.A],.t 0,.e .A 0,.e .B 1,.t 1,.t 1] [(9,1),(11,0)] [1,4]
 (.s [.v 8,.v 9,.p (.beq ae .B .A),.t 0,.xv 0 10,.xv 1 11,.x 2 (.bin .eql .B .A),.pick .D .A (.c (.bool ae)),.t 0,.x 0 (.ml zg []),.pick .B .A (.c (.bool ae)),.t 0] [(12,0)] [8,9,10,11]
 .ret)))))))))}
abbrev JB:Fn:={np:=1,nv:=3,res:=[(2,ab)],body:=
(.s [.ig (.v 0),.b] [(1,1)] [0,2]
 (.s [.f 1 5,.l,.n,.bin .leq .A (.i 3),.t 0,.xf 0 1 3,.xl 1,.x 2 (.bin .leq .A (.i 4)),.pick .D .A (.c (.bool ae)),.t 0,.x 0 (.ew (.v 1) (aa 10)),.x 1 (.ml KI [.A]),.pick .C .A (.c (.bool ae)),.t 0,.xf 0 1 0,.xl 1,.xf 2 1 1,.xl 3,.x 4 (.bin .wq .C .A),.xf 5 1 2,.xl 6,.x 7 (.bin .wq .C .A),.x 8 (.bin .leq .A (.i 5)),.pick .J .A (.c (.bool ae)),.t 0] [(2,0)] [1]
 .ret))}
abbrev JC:Fn:={np:=0,nv:=6,res:=[(5,ab)],body:=
(.s [.b] [] [5]
 (.s [.C Ez [],.C tw [.A],.t 0,.e .A 0,.e .B 1,.p (.iA 10),.kP .A .C 10,.t 2] [(3,1),(0,0)] []
 (.s [.C Ez [],.C zh [.A],.t 0,.e .A 0,.e .B 1,.e .C 2,.p (.iA 10),.kP .A .D 10,.t 3,.t 3] [(4,2),(2,1),(1,0)] []
 (.s [.v 0,.E .A (.i 0),.t 0,.xv 0 1,.x 1 (.bin .eql .A (.i 0)),.pick .C .A (.c (.bool ae)),.t 0,.xv 0 2,.x 1 (.bin .eql .A (.i 1)),.pick .C .A (.c (.bool ae)),.t 0,.x 0 (.ew (.v 3) (aa 10)),.x 1 (.ml EA []),.x 2 (.ml BJ [.B,.A]),.pick .D .A (.c (.bool ae)),.t 0,.x 0 (.ew (.v 4) (aa 10)),.x 1 (.ml EA []),.x 2 (.ml BJ [.B,.A]),.pick .D .A (.c (.bool ae)),.t 0] [(5,0)] [0,1,2,3,4]
 .ret))))}
abbrev Th:gW:=⟨[.ig (.v 0),.oz fN (aa 10),.k 0],[(1,2),(3,1)],[0,19],ab⟩
abbrev Ti:gW:=⟨[.ew (.v 1) (aa 10),.C wO [.A],.t 0],[(2,0)],[],ab⟩
abbrev Tj:gW:=⟨[.v 2,.N .A (.i 0)],[],[],aa (18,0)⟩
abbrev Tl:gW:=⟨[.ju fN [],.v 2,.st (.v 3) .B 10,.t 1],[(19,0)],[1,2],ab⟩
abbrev Tm:gW:=⟨[.ew (.v 1) (aa 10),.p (.can KJ [.A]),.t 0],[(4,0)],[2],ab⟩
abbrev To:gW:=⟨[.v 4,.gm EB [.A],.not .A],[],[],aa (25,0)⟩
abbrev Tp:gW:=⟨[.ju fN [],.st (.v 3) .A 10,.k 11],[(19,0)],[1,4],ab⟩
abbrev Tq:gW:=⟨[.v 4,.C EC [.A],.t 0,.e .A 0,.e .B 1,.t 1,.t 1],[(14,1),(5,0)],[],ab⟩
abbrev Tt:gW:=⟨[.v 5,.G .A (.i 128),.t 0,.yv 0 5,.yf 1 1 0,.yl 2,.y 3 (.bin .mul .C .A),.y 4 (.bin .gtr .A (.i 128)),.pick .F (.c (.bool ad)) .A],[],[1],aa (40,0)⟩
abbrev Tu:gW:=⟨[.ju fN [],.st (.v 3) .A 10,.k 11],[(19,0)],[4,5,14],ab⟩
abbrev Tv:gW:=⟨[.v 4,.C ED [.A],.t 0,.e .A 0,.e .B 1,.t 1,.t 1],[(10,1),(16,0)],[],ab⟩
abbrev Tw:gW:=⟨[.v 5,.kG .A .A [.int 0,.int 0,.aJ] (aa 3),.t 0],[(6,0)],[5],ab⟩
abbrev Tx:gW:=⟨[.v 6,.n,.k 0],[(8,1),(7,0)],[],ab⟩
abbrev Tz:IC:=(.Z 7 8 52 0 1 [] (.m 7 9 []
 (.g [.v 6,.v 9,.v 9,.ju [.int 0,.int 0,.aJ] [(0,1,.A),(1,1,(.i (-1))),(2,1,(.c (.aJ)))],.cz .D .C 3,.st .A .B 3] [] [9])))
abbrev TA:gW:=⟨[.v 10,.n,.k 0],[(13,2),(12,1),(11,0)],[7,8,10],ab⟩
abbrev TB:IC:=(.Z 11 12 63 2 3 [15,17,18] (.s [.v 11,.cz (.v 13) (.v 11) 1,.d,.t 2,.t 1] [(15,1),(18,0)] []
 (.s [.v 6,.v 14,.v 15,.i,.d,.cz .E .A 3,.t 0] [(17,0)] []
 (.j [.v 16,.v 15,.i,.d,.t 0,.xv 0 17,.x 1 (.p7 .A),.x 2 (.eu .A 1 ab),.x 3 (.ld .A ab),.x 4 (.bin .lss .A (.i 0)),.x 5 (.mv .A),.yv 0 18,.yv 1 17,.y 2 (.p7 .A),.y 3 (.eu .A 2 ab),.y 4 (.ld .A ab),.y 5 (.ml oP [.E,.A]),.y 6 (.bin .lss .A (.i 0)),.x 13 (.pick .H (.c (.bool ad)) .A),.pick (.t 14) .A (.c (.bool ae))] [] [] 92 0 (.g [.v 17,.v 17,.v 15,.v 18,.p (.p7 .D),.h 0 1,.st .A .D 1,.p (.p7 .F),.h 0 2,.st .A .F 1] [] [15,17,18])))))
abbrev TC:gW:=⟨[.v 6,.p (.vC KK [.A,(.c (.func wP []))])],[],[11,12,13,16],aa (103,0)⟩
abbrev TD:gW:=⟨[.ju fN [],.st (.v 3) .A 10,.k 3],[(19,0)],[4,6,14],ab⟩
abbrev TE:gW:=⟨[.v 6,.gm EE [.A,(.c (.func BK []))]],[],[],ab⟩
abbrev TF:gW:=⟨[.v 4,.v 14,.v 6,.C EF [.C,.B,.A],.st (.v 3) .A 10,.k 0],[(19,0)],[4,6,14],ab⟩
abbrev uV:Fn:={np:=1,nv:=20,res:=[(3,aa (aa 10)),(19,ab)],body:=
(.seq (.cM Th)
 (.seq (.seq (.cM Ti)
 (.seq (.cM Tj)
 (.cond 18 (.seq (.cM Tl)
 .ret) .skip)))
 (.seq (.cM Tm)
 (.seq (.seq (.seq (.cM To) (.km 4))
 (.cond 25 (.seq (.cM Tp)
 .ret) .skip))
 (.seq (.cM Tq)
 (.seq (.seq (.cM Tt)
 (.cond 40 (.seq (.cM Tu)
 .ret) .skip))
 (.seq (.cM Tv)
 (.seq (.cM Tw)
 (.seq (.seq (.cM Tx)
 (.o 0 Tz))
 (.seq (.seq (.cM TA)
 (.o 2 TB))
 (.seq (.seq (.cM TC)
 (.cond 103 (.seq (.cM TD)
 .ret) .skip))
 (.seq (.seq (.cM TE) (.km 6))
 (.seq (.cM TF)
 .ret)))))))))))))}
abbrev ali:IC:=(.seq (.w [.v 4,.f 2 9,.l,.n,.L .D .A] [] [] 52 0)
 (.seq (.block 1 (.j [.f 2 9,.l,.v 4,.i,.l,.f 3 9,.l,.v 4,.i,.l,.C zi [.F,.A],.not .A] [] [] 66 0 (.s [.b] [(5,0)] [2,3,4]
 .ret)))
 (.U 4 [])))
abbrev JD:Fn:={np:=2,nv:=6,res:=[(5,ab)],body:=
(.s [.ig (.v 0),.ig (.v 1),.b] [(2,2),(3,1)] [0,1,5]
 (.seq (.j [.f 2 0,.l,.f 3 0,.l,.N .C .A,.t 0,.yf 0 2 1,.yl 1,.yf 2 3 1,.yl 3,.y 4 (.bin .neq .C .A),.pick .F (.c (.bool ad)) .A,.t 0,.yf 0 2 2,.yl 1,.yf 2 3 2,.yl 3,.y 4 (.bin .neq .C .A),.pick .F (.c (.bool ad)) .A,.t 0,.yf 0 2 3,.yl 1,.yf 2 3 3,.yl 3,.y 4 (.bin .neq .C .A),.pick .F (.c (.bool ad)) .A,.t 0,.yf 0 2 4,.yl 1,.yf 2 3 4,.yl 3,.y 4 (.bin .neq .C .A),.pick .F (.c (.bool ad)) .A,.t 0,.yf 0 2 9,.yl 1,.y 2 (.len .A),.yf 3 3 9,.yl 4,.y 5 (.len .A),.y 6 (.bin .neq .D .A),.pick .H (.c (.bool ad)) .A] [] [] 47 0 (.s [.b] [(5,0)] [2,3]
 .ret))
 (.seq (.k 0 4 []
 (.o 0 ali))
 (.s [.f 2 5,.l,.f 3 5,.l,.C KL [.C,.A],.t 0,.xf 0 2 6,.xl 1,.xf 2 3 6,.xl 3,.x 4 (.ml zi [.C,.A]),.pick .F .A (.c (.bool ae)),.t 0,.xf 0 2 7,.xl 1,.xf 2 3 7,.xl 3,.x 4 (.ml zi [.C,.A]),.pick .F .A (.c (.bool ae)),.t 0,.xf 0 2 8,.xl 1,.xf 2 3 8,.xl 3,.x 4 (.ml zi [.C,.A]),.pick .F .A (.c (.bool ae)),.t 0] [(5,0)] [2,3,4]
 .ret))))}
abbrev alj:IC:=(.seq (.block 1 (.seq (.s [.v 4,.gm EG [.A],.t 0,.e .A 0,.e .B 1,.oz fN (aa 10),.st .A .C 10,.t 2] [(6,2),(5,0)] [] (.km 6))
 (.seq (.j [.v 5,.N .A (.i 0)] [] [] 37 0 (.s [.ju fN [],.v 5,.st (.v 3) .B 10,.k 0,.t 2] [(13,1),(14,0)] [1,4,5,6,10]
 .ret))
 (.s [.ld (.v 6) (aa 10),.ew (.v 1) (aa 10),.C EH [.B,.A],.t 0,.e .A 0,.e .B 1,.e .C 2,.t 2,.t 2,.t 2] [(11,2),(7,1),(5,0)] []
 (.seq (.j [.v 5,.N .A (.i 0)] [] [] 48 0 (.s [.ju fN [],.v 5,.st (.v 3) .B 10,.k 0,.t 2] [(13,1),(14,0)] [1,4,5,6,7,10,11]
 .ret))
 (.seq (.j [.v 7,.not .A] [] [5,7] 52 0 (.s [.ld (.v 6) (aa 10),.C tw [.A],.t 0,.e .A 0,.e .B 1,.p (.iA 10),.kP .A .C 10,.t 2] [(9,1),(8,0)] [1,4,6,11]
 (.seq (.j [.v 8,.N .A (.i 0)] [] [] 59 0 (.s [.ju fN [],.v 8,.st (.v 3) .B 10,.k 0,.t 2] [(13,1),(14,0)] [8,9,10]
 .ret))
 (.s [.ew (.v 9) (aa 10),.v 10,.st (.v 3) .B 10,.t 1,.k 0] [(13,1),(14,0)] [8,9,10]
 .ret))))
 (.s [.v 4,.ld (.v 6) (aa 10),.v 11,.gm KM [.C,.B,.A],.t 0] [(12,0)] [6,11]
 (.j [.v 12,.N .A (.i 0)] [] [] 69 0 (.s [.ju fN [],.v 12,.st (.v 3) .B 10,.k 0,.t 2] [(13,1),(14,0)] [1,4,10,12]
 .ret)))))))))
 (.U 10 [12]))
abbrev JE:Fn:={np:=1,nv:=15,res:=[(3,aa (aa 10)),(13,ab),(14,ab)],body:=
(.s [.ig (.v 0),.oz fN (aa 10),.k 0,.k 0] [(1,3),(3,2)] [0,13,14]
 (.seq (.s [.ew (.v 1) (aa 10),.C wO [.A],.t 0] [(2,0)] []
 (.j [.v 2,.N .A (.i 0)] [] [] 18 0 (.s [.ju fN [],.v 2,.st (.v 3) .B 10,.k 0,.t 2] [(13,1),(14,0)] [1,2]
 .ret)))
 (.s [.ew (.v 1) (aa 10),.cq [] 1,.cq [.A] 1,.ju [.str [],.str []] [],.p (.oA [.A] (aa 2)),.p (.Az),.ju [.int 0,.int 0,.int 0,.int 0,.int 0,.aJ,.aJ,.aJ,.aJ,.aJ,.aJ,.aJ,.rF] [(0,10,.F),(10,1,.D),(11,1,.B),(12,1,.A)],.p (.xB .A (aa 13)),.t 0] [(4,0)] [2]
 (.k 1 10 []
 (.o 0 alj)))))}
abbrev alm:IC:=(.seq (.w [.v 3,.f 1 5,.l,.n,.L .D .A] [] [] 15 0)
 (.seq (.block 1 (.s [.ew (.v 1) (aa 10),.v 3,.C KO [.B,.A],.t 0] [(4,0)] []
 (.j [.v 4,.N .A (.i 0)] [] [] 22 0 (.m 4 5 [1,3,4]
 .ret))))
 (.U 3 [4])))
abbrev JF:Fn:={np:=1,nv:=6,res:=[(5,ab)],body:=
(.s [.ig (.v 0),.k 0] [(1,1)] [0,5]
 (.seq (.s [.ew (.v 1) (aa 10),.C KN [.A],.t 0] [(2,0)] []
 (.j [.v 2,.N .A (.i 0)] [] [] 9 0 (.m 2 5 [1,2]
 .ret)))
 (.seq (.k 0 3 [2]
 (.o 0 alm))
 (.k 0 5 [1,3]
 .ret))))}
abbrev aln:IC:=(.Z 7 8 46 0 1 [] (.z 9 7 1 10 []
 (.block 2 (.i [.v 10,.f 2 0,.l,.L .C .A,.t 0] [] [] 60 0 (.s [.ew (.v 11) (aa 10),.v 12,.v 10,.C uT [.C,.B,.A],.t 0,.e .A 0,.e .B 1,.t 1,.t 1] [(15,1),(13,0)] [10,12]
 (.s [.v 13,.gm KP [(.v 14),.A]] [] [13]
 (.g [.v 15,.t 0] [(12,0)] [15]))) (.i [.v 10,.f 2 0,.l,.f 2 1,.l,.A .C .A,.L .F .A,.t 0] [] [] 75 0 (.g [.ew (.v 11) (aa 10),.v 12,.v 10,.f 2 0,.l,.S .C .A,.C uQ [.F,.E,.A],.t 0] [(12,0)] [10]) (.g [.ew (.v 11) (aa 10),.v 12,.gm zd [(.v 14)],.v 10,.f 2 0,.l,.S .C .A,.f 2 1,.l,.S .C .A,.C uU [.J,.I,.H,.A],.t 0] [(12,0)] [10]))))))
abbrev JG:Fn:={np:=2,nv:=18,res:=[(16,ab),(17,ab)],body:=
(.s [.ig (.v 0),.b,.k 0] [(2,2)] [0,16,17]
 (.seq (.s [.ew (.v 2) (aa 10),.C wO [.A],.t 0] [(3,0)] []
 (.j [.v 3,.N .A (.i 0)] [] [] 20 0 (.s [.v 3,.b,.t 1] [(16,1),(17,0)] [1,2,3]
 .ret)))
 (.seq (.s [.v 1,.ew (.v 2) (aa 10),.C BM [.A],.C EJ [.C,.A],.t 0] [(4,0)] [3]
 (.j [.v 4,.N .A (.i 0)] [] [] 27 0 (.s [.v 4,.b,.t 1] [(16,1),(17,0)] [1,2,4]
 .ret)))
 (.s [.ew (.v 2) (aa 10),.v 1,.C EK [.B,.A],.t 0,.e .A 0,.e .B 1,.t 1,.t 1] [(5,1),(6,0)] [4]
 (.seq (.j [.v 5,.G .A (.i 64)] [] [5] 36 0 (.s [.b,.k 16] [(16,1),(17,0)] [1,2,6]
 .ret))
 (.seq (.j [.v 6,.not .A] [] [6] 38 0 (.s [.b,.k 0] [(16,1),(17,0)] [1,2]
 .ret))
 (.s [.oz [.aJ] (aa 1)] [(14,0)] []
 (.s [.ew (.v 2) (aa 10),.ju fN [(0,10,.A)],.p (.iA 10),.kP .A .B 10] [(11,0)] []
 (.s [.f 2 4,.l,.t 0] [(12,0)] []
 (.seq (.s [.v 1,.n,.k 0] [(9,2),(8,1),(7,0)] [1]
 (.o 0 aln))
 (.s [.f 2 5,.l,.v 12,.i,.l,.t 0,.k 0] [(16,1),(17,0)] [2,7,8,9,11,12,14]
 .ret)))))))))))}
abbrev JH:Fn:={np:=1,nv:=3,res:=[(2,ab)],body:=
(.s [.ig (.v 0),.b] [(1,1)] [0,2]
 (.s [.f 1 5,.l,.n,.bin .leq .A (.i 5),.t 0,.xf 0 1 3,.xl 1,.x 2 (.bin .leq .A (.i 6)),.pick .D .A (.c (.bool ae)),.t 0,.xf 0 1 0,.xl 1,.x 2 (.bin .leq .A (.i 6)),.pick .D .A (.c (.bool ae)),.t 0,.xf 0 1 1,.xl 1,.x 2 (.bin .leq .A (.i 6)),.pick .D .A (.c (.bool ae)),.t 0,.xf 0 1 2,.xl 1,.x 2 (.bin .leq .A (.i 6)),.pick .D .A (.c (.bool ae)),.t 0,.xf 0 1 0,.xl 1,.xf 2 1 1,.xl 3,.x 4 (.bin .wq .C .A),.xf 5 1 2,.xl 6,.x 7 (.bin .wq .C .A),.x 8 (.bin .leq .A (.i 6)),.pick .J .A (.c (.bool ae)),.t 0] [(2,0)] [1]
 .ret))}
abbrev JI:Fn:={np:=0,nv:=1,res:=[(0,aa (aa 10))],body:=
(.s [.oz fN (aa 10)] [(0,0)] []
 (.s [.cq [(.c (.bool ad)),(.c (.bool ae))] 1,.cq [(.i 0),(.i 0)] 1,.cq [(.i 1),(.i 1)] 1,.cq [.B,.A] 1,.cq [(.i 0),(.i 1)] 1,.cq [(.i 0),(.i 0)] 1,.cq [.B,.A] 1,.cq [] 1,.cq [] 1,.cq [.B,.A] 1,.cq [(.i 0),(.i 1)] 1,.cq [(.i 1),(.i 0)] 1,.cq [.B,.A] 1,.cq [(.i 1),(.i 1)] 1,.cq [(.i 1),(.i 1)] 1,.cq [.B,.A] 1,.cq [.D,.A] 1,.ju fN [(0,1,(.i 2)),(2,1,(.i 2)),(3,1,(.i 2)),(5,1,(.t 16)),(6,1,(.t 13)),(7,1,(.t 10)),(8,1,.H),(9,1,.A)],.st (.v 0) .A 10] [] []
 .ret))}
abbrev JJ:Fn:={np:=0,nv:=2,res:=[(1,aa (aa 10))],body:=
(.s [.oz fN (aa 10)] [(1,0)] []
 (.s [.cq [(.i 1),(.i 1)] 1,.cq [(.i 1),(.i 1)] 1,.cq [(.i 1),(.i 1)] 1,.cq [(.i 1),(.i 1)] 1,.cq [.D,.C,.B,.A] 1,.t 0] [(0,0)] []
 (.s [.cq [(.c (.bool ad)),(.c (.bool ae))] 1,.cq [(.i 0),(.i 0)] 1,.cq [(.i 0),(.i 0)] 1,.cq [.B,.A] 1,.cq [(.i 0),(.i 1)] 1,.cq [(.i 2),(.i 3)] 1,.cq [.B,.A] 1,.cq [] 1,.cq [] 1,.cq [.B,.A] 1,.cq [(.i 0),(.i 1)] 1,.cq [(.i 1),(.i 0)] 1,.cq [(.i 1),(.i 1)] 1,.cq [(.i 1),(.i 1)] 1,.cq [.D,.C,.B,.A] 1,.v 0,.cq [.B,.A] 1,.ju fN [(0,1,(.i 2)),(2,1,(.i 2)),(3,1,(.i 4)),(5,1,(.t 16)),(6,1,(.t 13)),(7,1,(.t 10)),(8,1,.H),(9,1,.A)],.st (.v 1) .A 10] [] [0]
 .ret)))}
abbrev alo:IC:=(.Z 3 4 82 1 2 [6] (.m 3 5 []
 (.s [.ew (.v 1) (aa 10),.v 5,.C KQ [.B,.A],.t 0] [(6,0)] [5]
 (.j [.v 6,.N .A (.i 0)] [] [] 88 0 (.m 6 7 [1,3,4,6]
 .ret)))))
abbrev JK:Fn:={np:=1,nv:=8,res:=[(7,ab)],body:=
(.s [.ig (.v 0),.k 0] [(1,1)] [0,7]
 (.s [.f 1 5,.l,.n,.t 0] [(2,0)] []
 (.seq (.block 0 (.i [.f 1 0,.l,.f 1 1,.l,.f 1 2,.l,.cq [.E,.C,.A] 1,.C uX [.A,(.i 65)],.t 0] [] [] 9 0 (.k 2 7 [1,2]
 .ret) (.i [.ew (.v 1) (aa 10),.C BM [.A],.L .A (.i 1),.t 0,.y 0 (.ew (.v 1) (aa 10)),.y 1 (.ml BM [.A]),.y 2 (.bin .gtr .A (.i 64)),.pick .D (.c (.bool ad)) .A,.t 0,.yf 0 1 3,.yl 1,.y 2 (.bin .lss .A (.i 1)),.pick .D (.c (.bool ad)) .A,.t 0,.yf 0 1 3,.yl 1,.y 2 (.bin .gtr .A (.i 128)),.pick .D (.c (.bool ad)) .A,.t 0] [] [] 18 0 (.k 2 7 [1,2]
 .ret) (.i [.v 2,.E .A (.i 0),.t 0] [] [] 37 0 (.k 19 7 [1,2]
 .ret) (.i [.v 2,.G .A (.i 128),.t 0] [] [] 40 0 (.k 11 7 [1,2]
 .ret) (.i [.f 1 4,.l,.L .A (.i 0),.t 0,.yf 0 1 4,.yl 1,.yv 2 2,.y 3 (.bin .geq .B .A),.pick .E (.c (.bool ad)) .A,.t 0] [] [] 43 0 (.k 2 7 [1,2]
 .ret) (.j [.f 1 6,.l,.n,.v 2,.N .B .A,.t 0,.yf 0 1 7,.yl 1,.y 2 (.len .A),.yv 3 2,.y 4 (.bin .neq .B .A),.pick .F (.c (.bool ad)) .A,.t 0,.yf 0 1 8,.yl 1,.y 2 (.len .A),.yv 3 2,.y 4 (.bin .neq .B .A),.pick .F (.c (.bool ad)) .A,.t 0,.yf 0 1 9,.yl 1,.y 2 (.len .A),.yv 3 2,.y 4 (.bin .neq .B .A),.pick .F (.c (.bool ad)) .A,.t 0] [] [] 53 0 (.k 1 7 [1,2]
 .ret))))))))
 (.seq (.s [.v 2,.k 0] [(4,1),(3,0)] [2]
 (.o 1 alo))
 (.k 0 7 [1,3,4]
 .ret)))))}
abbrev alq:IC:=(.Z 3 4 22 0 1 [] (.s [.v 3,.cz (.v 5) (.v 3) 1,.d,.t 2,.t 1] [(7,1),(6,0)] []
 (.g [.v 2,.q,.h 0 11,.d,.v 6,.v 7,.cz .C .B 1,.st .A .B 1] [] [6,7])))
abbrev JL:Fn:={np:=1,nv:=9,res:=[(8,ab)],body:=
(.s [.ig (.v 0),.mv (.c (.jj))] [(1,1)] [0,8]
 (.s [.ew (.v 1) (aa 10),.ew (.v 1) (aa 10),.C KR [.A],.f 1 5,.l,.n,.kG .A .A [.int 0] ab,.p (.Az),.ju [.int 0,.int 0,.int 0,.int 0,.int 0,.aJ,.aJ,.aJ,.aJ,.aJ,.aJ,.aJ,.aJ,.rF,.aJ,.aJ] [(0,10,.H),(10,1,.F),(11,1,.B),(13,1,.A)],.p (.xB .A (aa 16)),.t 0] [(2,0)] [1]
 (.seq (.s [.v 2,.q,.h 0 10,.d,.n,.k 0] [(5,2),(4,1),(3,0)] []
 (.o 0 alq))
 (.s [.v 2,.v 2,.q,.h 0 10,.d,.C pL [.A],.gm zj [.F,.A]] [] [3,4,5]
 (.m 2 8 [2]
 .ret)))))}
abbrev TG:gW:=⟨[.v 1,.v 0,.q,.h 0 12,.d,.n,.L .F .A],[],[],aa (14,0)⟩
abbrev TH:gW:=⟨[.nl ab],[(4,0)],[],ab⟩
abbrev TJ:gW:=⟨[.v 0,.q,.eu .A 0 (aa 10),.h 0 1,.d,.k 0],[(3,1),(2,0)],[],ab⟩
abbrev TK:IC:=(.Z 2 3 23 2 3 [] (.m 2 5 []
 (.g [.v 4,.v 0,.v 0,.v 1,.v 5,.p (.vC KS [.C,.B,.A]),.gm zj [.E,.A],.dV [.A] 1,.dH .H .A ab,.t 0] [(4,0)] [5])))
abbrev TL:gW:=⟨[.v 0,.v 0,.q,.h 0 14,.d,.v 4,.dV [.A] 1,.dH .C .A ab,.p (.p7 .H),.h 0 14,.st .A .C 1],[],[2,3,4],ab⟩
abbrev TM:gW:=⟨[.v 0,.v 0,.q,.h 0 15,.d,.v 0,.q,.eu .A 0 (aa 10),.h 0 0,.d,.kG .A .A [.aJ] ab,.dV [.A] 1,.app .H .A ab,.p (.p7 (.t 12)),.h 0 15,.st .A .C 1],[],[],ab⟩
abbrev TN:gW:=⟨[.v 1,.A .A (.i 1),.k 0],[(7,1),(6,0)],[],ab⟩
abbrev alr:IC:=(.Z 8 9 71 6 7 [] (.m 8 10 []
 (.s [.v 0,.v 1,.v 10,.v 11,.gm BO [.D,.C,.B,.A]] [] []
 (.seq (.j [.v 11,.v 1,.L .B .A] [] [] 80 0 (.g [.v 0,.v 11,.v 10,.v 1,.gm BO [.D,.C,.B,.A]] [] [10]))
 (.j [.v 0,.q,.h 0 12,.d,.n,.G .A (.i 512)] [] [10] 91 0 (.s [.b] [(12,0)] [0,1,6,7,8,9,11]
 .ret))))))
abbrev TP:IC:=(.Z 6 7 63 4 5 [8,9,11] (.m 6 11 []
 (.s [.v 0,.q,.eu .A 0 (aa 10),.h 0 0,.d,.k 0] [(9,1),(8,0)] []
 (.o 6 alr))))
abbrev TQ:gW:=⟨[.v 0,.q,.h 0 12,.d,.n,.G .A (.i 512)],[],[6,7],aa (99,0)⟩
abbrev TR:gW:=⟨[.b],[(12,0)],[0,1],ab⟩
abbrev TS:gW:=⟨[.v 1,.A .A (.i 1),.t 0],[(1,0)],[],ab⟩
abbrev als:IC:=(.seq (.seq (.cM TG)
 (.cond 14 .skip (.exit 0)))
 (.seq (.block 1 (.seq (.cM TH)
 (.seq (.seq (.cM TJ)
 (.seq (.o 2 TK) (.km 4)))
 (.seq (.cM TL)
 (.seq (.cM TM)
 (.seq (.seq (.cM TN)
 (.o 4 TP))
 (.seq (.cM TQ)
 (.cond 99 (.seq (.cM TR)
 .ret) .skip))))))))
 (.cM TS)))
abbrev JM:Fn:={np:=1,nv:=13,res:=[(12,ab)],body:=
(.s [.b] [] [12]
 (.seq (.k 0 1 []
 (.o 0 als))
 (.s [.mv (.c (.bool ad))] [(12,0)] [0,1]
 .ret)))}
abbrev alu:IC:=(.Z 1 2 34 0 1 [] (.s [.v 1,.cz (.v 3) (.v 1) 1,.d,.t 2,.t 1] [(7,1),(4,0)] []
 (.seq (.j [.v 0,.q,.eu .A 0 (aa 10),.h 0 5,.d,.v 4,.v 5,.i,.d,.cz .E .A 1,.d,.v 0,.q,.eu .A 0 (aa 10),.h 0 5,.d,.v 0,.q,.h 0 12,.d,.cz .A (.i 0) 1,.d,.v 5,.i,.d,.cz .J .A 1,.d,.p (.beq ad (.t 16) .A)] [] [4] 65 0 (.g [.v 6,.v 7,.i,.st .A (.i 1) 1] [] []))
 (.g [.v 8,.v 6,.v 7,.i,.d,.A .A (.i 1),.p (.mx ad .F .A),.t 0] [(8,0)] [7]))))
abbrev alv:IC:=(.block 3 (.s [.v 0,.v 6,.C KT [.B,.A],.t 0,.e .A 0,.e .B 1,.t 1,.t 1] [(10,1),(9,0)] [1,2,3,5]
 (.seq (.j [.v 9,.v 8,.E .B .A] [] [8] 85 0 (.s [.v 6,.v 9,.t 1,.t 1] [(11,1),(12,0)] [0,6,9,10]
 .ret))
 (.g [.v 10,.v 9,.t 1,.t 1] [(6,1),(8,0)] [9,10]))))
abbrev JN:Fn:={np:=1,nv:=13,res:=[(11,ab),(12,ab)],body:=
(.s [.mv (.c (.aJ)),.k 0] [] [11,12]
 (.s [.v 0,.q,.h 0 11,.d,.v 0,.q,.eu .A 0 (aa 10),.h 0 4,.d,.cz .F .A 1,.d,.t 0] [(5,0)] []
 (.s [.v 0,.q,.h 0 12,.d,.n,.kG .A .A [.int 0] ab,.t 0] [(6,0)] []
 (.k 0 8 []
 (.seq (.s [.v 0,.q,.h 0 12,.d,.n,.k 0] [(3,2),(2,1),(1,0)] []
 (.seq (.o 0 alu) (.km 6)))
 (.o 2 alv))))))}
abbrev alw:IC:=(.Z 5 6 40 2 3 [] (.z 7 5 1 8 []
 (.s [.v 1,.v 1,.q,.h 0 4,.d,.v 8,.dV [.A] 1,.dH .C .A ab,.p (.p7 .H),.h 0 4,.st .A .C 1] [] []
 (.g [.v 1,.v 8,.gm EL [.B,.A]] [] [8]))))
abbrev alx:IC:=(.Z 2 3 33 0 1 [5,6,7] (.m 2 4 []
 (.seq (.s [.v 1,.v 4,.gm KU [.B,.A],.n,.k 0] [(7,2),(6,1),(5,0)] [4] (.km 7))
 (.o 2 alw))))
abbrev JO:Fn:={np:=1,nv:=11,res:=[(9,ab),(10,ab)],body:=
(.s [.mv (.c (.aJ)),.mv (.c (.aJ))] [] [9,10]
 (.s [.v 0,.v 0,.q,.h 0 12,.d,.n,.kG .A .A [.aJ] ab,.v 0,.q,.h 0 12,⟨.ld .A ab,ab,ad⟩,.n,.kG .A .A [.bool ae] ab,.kG (.i 1025) (.i 1025) [.aJ] ab,.ju [.jj,.aJ,.aJ,.aJ,.aJ] [(0,1,(.t 13)),(1,1,.H),(2,1,.B),(3,1,.A)],.p (.xB .A (aa 5)),.t 0] [(1,0)] [0]
 (.s [.v 1,.cq [(.c (.aJ))] 1,.gm wM [.B,(.i 0),.A]] [] []
 (.seq (.s [.v 1,.q,.h 0 3,.d,.n,.k 0] [(3,1),(2,0)] []
 (.o 0 alx))
 (.s [.v 1,.q,.h 0 1,.d,.v 1,.q,.h 0 2,.d,.t 4,.t 1] [(9,1),(10,0)] [1,2,3]
 .ret)))))}
abbrev JP:Fn:={np:=2,nv:=3,res:=[(2,ab)],body:=
(.s [.k 0] [] [2]
 (.s [.v 0,.n,.v 1,.n,.C EM [.C,.A],.v 0,.v 1,.C KW [.B,.A],.cq [.D,.A] 1,.C KV [.A],.t 0] [(2,0)] [0,1]
 .ret))}
abbrev JQ:Fn:={np:=2,nv:=3,res:=[(2,ab)],body:=
(.s [.b] [] [2]
 (.s [.v 0,.v 1,.C KX [.B,.A],.bin .geq .A (.i 0),.t 0] [(2,0)] [0,1]
 .ret))}
abbrev JR:Fn:={np:=1,nv:=3,res:=[(2,ab)],body:=
(.s [.ig (.v 0),.b] [(1,1)] [0,2]
 (.s [.f 1 1,.l,.L .A (.i 0),.t 0] [(2,0)] [1]
 .ret))}
abbrev JS:Fn:={np:=2,nv:=5,res:=[(4,ab)],body:=
(.s [.ig (.v 0),.ig (.v 1),.k 0] [(2,2),(3,1)] [0,1,4]
 (.s [.f 2 2,.l,.f 3 2,.l,.C oP [.C,.A],.t 0] [(4,0)] [2,3]
 .ret))}
abbrev aly:IC:=(.Z 3 4 26 0 1 [] (.s [.v 3,.cz (.v 5) (.v 3) 3,.ld .A (aa 3),.p (.iA 3),.t 3,.kP .B .C 3] [(7,0),(8,1)] []
 (.g [.v 6,.f 7 0,.l,.v 8,.cz .D .B 1,.st .A .B 1] [] [7,8])))
abbrev alz:IC:=(.Z 15 16 92 4 5 [] (.s [.v 15,.cz (.v 17) (.v 15) 1,.d,.t 2,.t 1] [(18,1),(19,0)] []
 (.g [.f 12 8,.d,.v 13,.i,.d,.v 18,.v 6,.v 1,.v 19,.i,.d,.cz .E .A 1,.d,.cz .I .H 1,.st .A .B 1] [] [18,19])))
abbrev alA:IC:=(.Z 27 28 143 10 11 [] (.s [.v 27,.cz (.v 29) (.v 27) 1,.d,.t 2,.t 1] [(31,1),(32,0)] []
 (.g [.f 12 9,.d,.v 13,.i,.d,.v 30,.v 0,.q,.eu .A 0 (aa 10),.h 0 0,.d,.M .F .A,.v 26,.A .B .A,.cz .J .A 1,.d,.v 31,.v 6,.v 1,.v 32,.i,.d,.cz .E .A 1,.d,.cz .I .H 1,.st .A .B 1] [] [31,32])))
abbrev alB:IC:=(.Z 23 24 124 8 9 [26,27,28,29] (.m 23 26 []
 (.s [.v 0,.q,.h 0 15,.d,.f 25 1,.l,.cz .C .A 1,.d,.v 26,.i,.d,.f 14 1,.l,.cz .C .A 1,.d,.n,.k 0] [(29,2),(28,1),(27,0)] []
 (.o 10 alA))))
abbrev alC:IC:=(.Z 20 21 114 6 7 [23,24,25,30] (.s [.v 20,.cz (.v 22) (.v 20) 3,.ld .A (aa 3),.p (.iA 3),.t 3,.kP .B .C 3] [(25,0),(30,1)] []
 (.s [.v 0,.q,.eu .A 0 (aa 10),.h 0 0,.d,.k 0] [(24,1),(23,0)] []
 (.o 8 alB))))
abbrev alD:IC:=(.Z 9 10 46 2 3 [13,14,20,21,22] (.s [.v 9,.cz (.v 11) (.v 9) 3,.ld .A (aa 3),.p (.iA 3),.t 3,.kP .B .C 3] [(14,0),(13,1)] []
 (.s [.f 12 5,.d,.v 13,.v 0,.q,.eu .A 0 (aa 10),.h 0 5,.d,.v 0,.q,.h 0 12,.d,.f 14 1,.l,.cz .C .A 1,.d,.v 0,.q,.h 0 11,.d,.v 0,.q,.eu .A 0 (aa 10),.h 0 4,.d,.cz .F .A 1,.d,.cz (.t 11) .A 1,.d,.cz (.t 21) .A 1,.d,.cz (.t 29) (.t 28) 1,.st .A .B 1] [] []
 (.seq (.s [.v 0,.q,.h 0 14,.d,.f 14 1,.l,.cz .C .A 1,.d,.n,.k 0] [(17,2),(16,1),(15,0)] []
 (.o 4 alz))
 (.s [.v 2,.n,.k 0] [(22,2),(21,1),(20,0)] [15,16,17]
 (.o 6 alC))))))
abbrev JT:Fn:={np:=3,nv:=34,res:=[(33,aa (aa 10))],body:=
(.s [.oz fN (aa 10)] [(33,0)] []
 (.s [.v 2,.n,.kG .A .A [.int 0] ab,.t 0] [(6,0)] []
 (.seq (.s [.v 2,.n,.k 0] [(5,2),(4,1),(3,0)] []
 (.o 0 aly))
 (.s [.v 0,.q,.eu .A 0 (aa 10),.ld .A (aa 10),.v 2,.n,.p (.can zk [.C,.A]),.oz fN (aa 10),.st .A .B 10] [(12,1)] [3,4,5]
 (.seq (.s [.v 2,.n,.k 0] [(11,2),(10,1),(9,0)] []
 (.o 2 alD))
 (.s [.ld (.v 12) (aa 10),.st (.v 33) .A 10] [] [0,1,2,6,9,10,11,12]
 .ret))))))}
abbrev alE:IC:=(.seq (.w [.v 2,.v 0,.n,.L .C .A] [] [] 14 0)
 (.seq (.block 1 (.j [.v 0,.v 2,.i,.d,.v 1,.v 2,.i,.d,.C KY [.E,.A],.not .A] [] [] 26 0 (.s [.b] [(3,0)] [0,1,2]
 .ret)))
 (.U 2 [])))
abbrev JU:Fn:={np:=2,nv:=4,res:=[(3,ab)],body:=
(.s [.b] [] [3]
 (.seq (.j [.v 0,.n,.v 1,.n,.N .C .A] [] [] 10 0 (.s [.b] [(3,0)] [0,1]
 .ret))
 (.seq (.k 0 2 []
 (.o 0 alE))
 (.s [.mv (.c (.bool ad))] [(3,0)] [0,1,2]
 .ret))))}
abbrev alF:IC:=(.seq (.w [.v 2,.v 0,.n,.L .C .A] [] [] 14 0)
 (.seq (.block 1 (.j [.v 0,.v 2,.i,.d,.v 1,.v 2,.i,.d,.p (.beq ad .E .A)] [] [] 25 0 (.s [.b] [(3,0)] [0,1,2]
 .ret)))
 (.U 2 [])))
abbrev JV:Fn:={np:=2,nv:=4,res:=[(3,ab)],body:=
(.s [.b] [] [3]
 (.seq (.j [.v 0,.n,.v 1,.n,.N .C .A] [] [] 10 0 (.s [.b] [(3,0)] [0,1]
 .ret))
 (.seq (.k 0 2 []
 (.o 0 alF))
 (.s [.mv (.c (.bool ad))] [(3,0)] [0,1,2]
 .ret))))}
abbrev JW:Fn:={np:=1,nv:=4,res:=[(2,aa (aa 10)),(3,ab)],body:=
(.s [.oz fN (aa 10),.k 0] [(2,1)] [3]
 (.seq (.s [.v 0,.gm KZ [.A],.t 0] [(1,0)] []
 (.j [.v 1,.N .A (.i 0)] [] [] 8 0 (.s [.ju fN [],.v 1,.st (.v 2) .B 10,.t 1] [(3,0)] [0,1]
 .ret)))
 (.s [.v 0,.gm K0 [.A],.e .A 0,.e .B 1,.st (.v 2) .B 10,.t 1] [(3,0)] [0,1]
 .ret)))}
abbrev alG:IC:=(.Z 8 9 70 0 1 [] (.m 8 10 []
 (.s [.ew (.v 6) (aa 20),.v 10,.C ze [.B,.A],.t 0,.e .A 0,.e .B 1,.t 1,.t 1] [(11,1),(12,0)] []
 (.g [.v 7,.v 10,.f 2 5,.l,.v 11,.i,.l,.f 4 5,.l,.v 12,.i,.l,.p (.beq ad .F .A),.cz (.t 12) (.t 11) 1,.st .A .B 1] [] [10,11,12]))))
abbrev JX:Fn:={np:=2,nv:=16,res:=[(13,ab),(14,ab),(15,ab)],body:=
(.s [.ig (.v 0),.ig (.v 1),.mv (.c (.aJ)),.b,.k 0] [(2,4),(4,3)] [0,1,13,14,15]
 (.seq (.s [.ew (.v 2) (aa 10),.C wO [.A],.t 0] [(3,0)] []
 (.j [.v 3,.N .A (.i 0)] [] [] 17 0 (.s [.v 3,.mv (.c (.aJ)),.b,.t 2] [(13,2),(14,1),(15,0)] [2,3,4]
 .ret)))
 (.seq (.s [.ew (.v 4) (aa 10),.C wO [.A],.t 0] [(5,0)] [3]
 (.j [.v 5,.N .A (.i 0)] [] [] 22 0 (.s [.v 5,.mv (.c (.aJ)),.b,.t 2] [(13,2),(14,1),(15,0)] [2,4,5]
 .ret)))
 (.seq (.j [.f 2 0,.l,.f 4 0,.l,.N .C .A,.t 0,.yf 0 2 1,.yl 1,.yf 2 4 1,.yl 3,.y 4 (.bin .neq .C .A),.pick .F (.c (.bool ad)) .A,.t 0,.yf 0 2 2,.yl 1,.yf 2 4 2,.yl 3,.y 4 (.bin .neq .C .A),.pick .F (.c (.bool ad)) .A] [] [5] 42 0 (.s [.mv (.c (.aJ)),.b,.k 15] [(13,2),(14,1),(15,0)] [2,4]
 .ret))
 (.seq (.j [.f 2 5,.l,.n,.f 4 5,.l,.n,.M .D .A,.G .A (.i 144),.t 0,.yf 0 2 3,.yl 1,.yf 2 4 3,.yl 3,.y 4 (.bin .mul .C .A),.y 5 (.bin .gtr .A (.i 1024)),.pick .G (.c (.bool ad)) .A] [] [] 58 0 (.s [.mv (.c (.aJ)),.b,.k 11] [(13,2),(14,1),(15,0)] [2,4]
 .ret))
 (.s [.ew (.v 2) (aa 10),.ju fN [(0,10,.A)],.ew (.v 4) (aa 10),.ju fN [(0,10,.A)],.ju [.int 0,.int 0,.int 0,.int 0,.int 0,.aJ,.aJ,.aJ,.aJ,.aJ,.int 0,.int 0,.int 0,.int 0,.int 0,.aJ,.aJ,.aJ,.aJ,.aJ] [(0,10,.C),(10,10,.A)],.p (.iA 20),.kP .A .B 20] [(6,0)] []
 (.s [.ew (.v 6) (aa 20),.C oO [.A],.kG .A .A [.bool ae] ab,.t 0] [(7,0)] []
 (.seq (.s [.v 7,.n,.k 0] [(9,1),(8,0)] []
 (.seq (.o 0 alG) (.km 7)))
 (.s [.ew (.v 6) (aa 20),.p (.NP jY .A),.ew (.v 2) (aa 10),.f 2 4,.l,.eu (.v 6) 10 (aa 10),.ew .A (aa 10),.C kq [.A],.M .D .A,.f 4 4,.l,.A .C .A,.v 7,.C K4 [(.t 11),(.t 10),.B,.A],.e .A 0,.e .B 1,.e .C 2,.t 2,.t 2,.t 2] [(13,2),(14,1),(15,0)] [2,4,6,7,8,9]
 .ret)))))))))}
abbrev alH:IC:=(.Z 5 6 34 0 1 [11,12] (.s [.v 5,.cz (.v 7) (.v 5) 1,.d,.t 2,.t 1] [(10,1),(9,0)] []
 (.s [.ld (.v 8) (aa 2),.ew (.v 3) (aa 10),.v 9,.C zl [.C,.B,.A],.st (.v 8) .A 2] [] [9]
 (.s [.v 0,.ld (.v 8) (aa 2),.gm K6 [.B,.A],.v 2,.v 10,.A .A (.i 1),.p (.NK .C (aa .A) ab 1),.t 4,.t 1] [(11,1),(12,0)] [10]
 (.s [.v 0,.q,.eu .A 0 (aa 10),.ld .A (aa 10),.v 11,.v 0,.q,.h 0 10,.d,.f 8 1,.d,.cz .C .A 1,.d,.v 12,.cq [.J,.B,.A] 1,.C qK [.A],.C wN [(.t 12),.A],.t 0,.e .A 0,.e .B 1,.t 1,.t 1] [(14,1),(13,0)] []
 (.seq (.j [.v 13,.N .A (.i 0)] [] [] 70 0 (.m 13 16 [0,2,3,5,6,7,8,11,12,13,14,15]
 .ret))
 (.j [.v 14,.v 15,.p (.beq ad .B .A)] [] [13,14] 74 0 (.s [.v 0,.v 0,.q,.h 0 11,.d,.v 11,.C uP [.A],.v 12,.C uP [.A],.ju [.str [],.str []] [(0,1,.C),(1,1,.A)],.dV [.A] 2,.app .G .A (aa 2),.p (.p7 (.t 11)),.h 0 11,.st .A .C 1] [] [0,2,3,5,6,7,8,11,12,15]
 (.k 0 16 []
 .ret)))))))))
abbrev JY:Fn:={np:=3,nv:=17,res:=[(16,ab)],body:=
(.s [.ig (.v 1),.k 0] [(3,1)] [1,16]
 (.s [.f 3 4,.l,.ju [.aJ,.int 0] [(1,1,.A)],.oz [.aJ,.int 0] (aa 2),.st .A .B 2] [(8,1)] []
 (.s [.v 0,.q,.eu .A 0 (aa 10),.ld .A (aa 10),.v 2,.C wN [.B,.A],.t 0,.e .A 0,.e .B 1,.t 1,.t 1] [(15,1),(4,0)] []
 (.seq (.j [.v 4,.N .A (.i 0)] [] [] 29 0 (.m 4 16 [0,2,3,4,8,15]
 .ret))
 (.seq (.s [.v 2,.n,.k 0] [(7,2),(6,1),(5,0)] [4]
 (.o 0 alH))
 (.k 8 16 [0,2,3,5,6,7,8,15]
 .ret))))))}
abbrev JZ:Fn:={np:=1,nv:=3,res:=[(2,ab)],body:=
(.s [.ig (.v 0),.k 0] [(1,1)] [0,2]
 (.seq (.j [.f 1 0,.l,.L .A (.i 0),.t 0,.yf 0 1 0,.yl 1,.y 2 (.bin .gtr .A (.i 64)),.pick .D (.c (.bool ad)) .A,.t 0,.yf 0 1 1,.yl 1,.y 2 (.bin .lss .A (.i 0)),.pick .D (.c (.bool ad)) .A,.t 0,.yf 0 1 1,.yl 1,.y 2 (.bin .gtr .A (.i 64)),.pick .D (.c (.bool ad)) .A,.t 0,.yf 0 1 2,.yl 1,.y 2 (.bin .lss .A (.i 0)),.pick .D (.c (.bool ad)) .A,.t 0,.yf 0 1 2,.yl 1,.y 2 (.bin .gtr .A (.i 64)),.pick .D (.c (.bool ad)) .A] [] [] 30 0 (.k 2 2 [1]
 .ret))
 (.seq (.j [.ew (.v 1) (aa 10),.C EI [.A],.L .A (.i 1),.t 0,.y 0 (.ew (.v 1) (aa 10)),.y 1 (.ml EI [.A]),.y 2 (.bin .gtr .A (.i 64)),.pick .D (.c (.bool ad)) .A,.t 0,.yf 0 1 3,.yl 1,.y 2 (.bin .lss .A (.i 1)),.pick .D (.c (.bool ad)) .A,.t 0,.yf 0 1 3,.yl 1,.y 2 (.bin .gtr .A (.i 128)),.pick .D (.c (.bool ad)) .A] [] [] 48 0 (.k 2 2 [1]
 .ret))
 (.seq (.j [.f 1 5,.l,.n,.E .A (.i 0)] [] [] 52 0 (.k 19 2 [1]
 .ret))
 (.seq (.j [.f 1 5,.l,.n,.G .A (.i 128)] [] [] 56 0 (.k 11 2 [1]
 .ret))
 (.seq (.j [.f 1 4,.l,.L .A (.i 0),.t 0,.yf 0 1 4,.yl 1,.yf 2 1 5,.yl 3,.y 4 (.len .A),.y 5 (.bin .geq .D .A),.pick .G (.c (.bool ad)) .A] [] [] 67 0 (.k 2 2 [1]
 .ret))
 (.seq (.j [.f 1 6,.l,.n,.f 1 5,.l,.n,.N .D .A,.t 0,.yf 0 1 7,.yl 1,.y 2 (.len .A),.yf 3 1 5,.yl 4,.y 5 (.len .A),.y 6 (.bin .neq .D .A),.pick .H (.c (.bool ad)) .A,.t 0,.yf 0 1 8,.yl 1,.y 2 (.len .A),.yf 3 1 5,.yl 4,.y 5 (.len .A),.y 6 (.bin .neq .D .A),.pick .H (.c (.bool ad)) .A,.t 0,.yf 0 1 9,.yl 1,.y 2 (.len .A),.yf 3 1 5,.yl 4,.y 5 (.len .A),.y 6 (.bin .neq .D .A),.pick .H (.c (.bool ad)) .A] [] [1] 101 0 (.k 1 2 []
 .ret))
 (.k 0 2 []
 .ret))))))))}
abbrev alI:IC:=(.seq (.w [.v 3,.f 2 0,.l,.L .C .A] [] [] 54 0)
 (.seq (.block 1 (.j [.ew (.v 2) (aa 10),.f 2 6,.l,.v 1,.i,.l,.v 3,.i,.l,.C BP [.I,.A],.not .A,.t 0,.yf 0 2 7,.yl 1,.yv 2 1,.y 3 (.cz .B .A 1),.yl 4,.yv 5 3,.y 6 (.cz .B .A 1),.yl 7,.y 8 (.bin .lss .A (.i 0)),.pick .J (.c (.bool ad)) .A,.t 0,.yf 0 2 7,.yl 1,.yv 2 1,.y 3 (.cz .B .A 1),.yl 4,.yv 5 3,.y 6 (.cz .B .A 1),.yl 7,.yf 8 2 3,.yl 9,.y 10 (.bin .geq .C .A),.pick (.t 11) (.c (.bool ad)) .A] [] [] 91 0 (.k 2 7 [1,2,3]
 .ret)))
 (.U 3 [])))
abbrev alJ:IC:=(.seq (.i [.v 4,.f 2 1,.l,.L .C .A] [] [] 95 0 .skip (.exit 2))
 (.seq (.block 3 (.j [.ew (.v 2) (aa 10),.f 2 8,.l,.v 1,.i,.l,.v 4,.i,.l,.C BP [.I,.A],.not .A] [] [] 108 0 (.k 2 7 [1,2,4]
 .ret)))
 (.U 4 [])))
abbrev alK:IC:=(.seq (.i [.v 6,.f 2 2,.l,.L .C .A] [] [] 130 0 .skip (.exit 6))
 (.seq (.block 7 (.j [.ew (.v 2) (aa 10),.f 2 9,.l,.v 1,.i,.l,.v 5,.i,.l,.v 6,.i,.l,.C BP [(.t 11),.A],.not .A] [] [] 146 0 (.k 2 7 [1,2,5,6]
 .ret)))
 (.U 6 [])))
abbrev alL:IC:=(.seq (.i [.v 5,.f 2 3,.l,.L .C .A] [] [] 112 0 .skip (.exit 4))
 (.seq (.block 5 (.seq (.j [.f 2 9,.l,.v 1,.i,.l,.v 5,.i,.l,.n,.f 2 2,.l,.N .C .A] [] [] 126 0 (.k 1 7 [1,2,5]
 .ret))
 (.k 0 6 []
 (.o 6 alK))))
 (.U 5 [6])))
abbrev J0:Fn:={np:=2,nv:=8,res:=[(7,ab)],body:=
(.s [.ig (.v 0),.k 0] [(2,1)] [0,7]
 (.seq (.j [.f 2 6,.l,.v 1,.i,.l,.n,.f 2 0,.l,.N .C .A,.t 0,.yf 0 2 7,.yl 1,.yv 2 1,.y 3 (.cz .B .A 1),.yl 4,.y 5 (.len .A),.yf 6 2 0,.yl 7,.y 8 (.bin .neq .C .A),.pick .J (.c (.bool ad)) .A,.t 0,.yf 0 2 8,.yl 1,.yv 2 1,.y 3 (.cz .B .A 1),.yl 4,.y 5 (.len .A),.yf 6 2 1,.yl 7,.y 8 (.bin .neq .C .A),.pick .J (.c (.bool ad)) .A,.t 0,.yf 0 2 9,.yl 1,.yv 2 1,.y 3 (.cz .B .A 1),.yl 4,.y 5 (.len .A),.yf 6 2 3,.yl 7,.y 8 (.bin .neq .C .A),.pick .J (.c (.bool ad)) .A] [] [] 50 0 (.k 1 7 [1,2]
 .ret))
 (.seq (.k 0 3 []
 (.o 0 alI))
 (.seq (.k 0 4 [3]
 (.o 2 alJ))
 (.seq (.k 0 5 [4]
 (.o 4 alL))
 (.k 0 7 [1,2,5]
 .ret))))))}
abbrev J1:Fn:={np:=1,nv:=3,res:=[(2,ab)],body:=
(.s [.ig (.v 0),.k 0] [(1,1)] [0,2]
 (.s [.f 1 0,.l,.f 1 1,.l,.A .C .A,.f 1 2,.l,.A .C .A,.t 0] [(2,0)] [1]
 .ret))}
abbrev J2:Fn:={np:=2,nv:=4,res:=[(3,ab)],body:=
(.s [.ig (.v 1),.k 0] [(2,1)] [1,3]
 (.seq (.block 0 (.i [.ew (.v 2) ab,.C K7 [.A],.not .A,.t 0] [] [] 5 0 (.k 2 3 [0,2]
 .ret) (.i [.v 0,.n,.G .A (.i 1024),.t 0] [] [] 9 0 (.k 3 3 [0,2]
 .ret) (.j [.v 0,.p (.D4 BR [(.v 2)]),.C BQ [.B,.A],.t 0] [] [0,2] 13 0 (.k 1 3 []
 .ret)))))
 (.k 0 3 []
 .ret)))}
abbrev J3:Fn:={np:=1,nv:=3,res:=[(2,ab)],body:=
(.s [.ig (.v 0),.k 0] [(1,1)] [0,2]
 (.s [.f 1 0,.l,.f 1 1,.l,.A .C .A,.f 1 2,.l,.A .C .A,.t 0] [(2,0)] [1]
 .ret))}
abbrev alM:IC:=(.Z 2 3 14 0 1 [] (.z 4 2 1 5 []
 (.seq (.block 2 (.i [.v 5,.f 6 0,.l,.L .C .A,.t 0] [] [] 17 0 (.U 7 [5]) (.j [.v 5,.f 6 0,.l,.f 6 1,.l,.A .C .A,.bin .geq .F .A,.t 0] [] [5] 24 0 (.g [.v 7,.S .A (.i 1),.t 0] [(7,0)] []))))
 (.s [.v 8,.v 7,.p (.mx ad .B .A),.t 0] [(8,0)] []
 (.g [.v 9,.t 0,.xv 0 7,.x 1 (.bin .geq .A (.i 0)),.pick .C .A (.c (.bool ae)),.t 0] [(9,0)] [])))))
abbrev J4:Fn:={np:=2,nv:=12,res:=[(10,ab),(11,ab)],body:=
(.s [.ig (.v 0),.k 0,.b] [(6,2)] [0,10,11]
 (.s [.k 0,.k 0,.mv (.c (.bool ad))] [(7,2),(8,1),(9,0)] []
 (.seq (.s [.v 1,.n,.k 0] [(4,2),(3,1),(2,0)] [1]
 (.o 0 alM))
 (.s [.v 8,.v 9,.t 0,.xv 0 7,.x 1 (.bin .eql .A (.i 0)),.pick .C .A (.c (.bool ae)),.t 5,.t 1] [(10,1),(11,0)] [2,3,4,6,7,8,9]
 .ret))))}
abbrev J5:Fn:={np:=3,nv:=6,res:=[(4,ab),(5,ab)],body:=
(.s [.ig (.v 0),.k 0,.k 0] [(3,2)] [0,4,5]
 (.s [.eu (.v 3) 0 (aa 10),.h 0 6,.l,.v 1,.i,.l,.v 2,.i,.l,.eu (.v 3) 0 (aa 10),.h 0 7,.l,.v 1,.i,.l,.v 2,.i,.l,.t 9,.t 1] [(4,1),(5,0)] [1,2,3]
 .ret))}
abbrev J6:Fn:={np:=2,nv:=2,res:=[],body:=
(.g [.v 0,.v 0,.q,.h 0 0,.d,.v 1,.dV [.A] 1,.dH .C .A ab,.p (.p7 .H),.h 0 0,.st .A .C 1] [] [0,1])}
abbrev J7:Fn:={np:=3,nv:=5,res:=[(4,ab)],body:=
(.s [.ig (.v 0),.k 0] [(3,1)] [0,4]
 (.s [.eu (.v 3) 0 (aa 10),.h 0 8,.l,.v 1,.i,.l,.v 2,.i,.l,.t 0] [(4,0)] [1,2,3]
 .ret))}
abbrev J8:Fn:={np:=4,nv:=6,res:=[(5,ab)],body:=
(.s [.ig (.v 0),.k 0] [(4,1)] [0,5]
 (.s [.eu (.v 4) 0 (aa 10),.h 0 9,.l,.v 1,.i,.l,.v 2,.i,.l,.v 3,.i,.l,.t 0] [(5,0)] [1,2,3,4]
 .ret))}
abbrev J9:Fn:={np:=1,nv:=3,res:=[(2,ab)],body:=
(.s [.k 0] [] [2]
 (.s [.v 0,.q,.h 0 0,.d,.v 0,.q,.h 0 0,.d,.n,.S .A (.i 1),.cz .G .A 1,.d,.t 0] [(1,0)] []
 (.s [.v 0,.v 0,.q,.h 0 0,.d,.v 0,.q,.h 0 0,.d,.n,.S .A (.i 1),.p (.qp .G ab (aa .A) 1),.p (.p7 (.t 11)),.h 0 0,.st .A .C 1] [] [0]
 (.m 1 2 [1]
 .ret))))}
abbrev Ka:Fn:={np:=2,nv:=4,res:=[(3,ab)],body:=
(.s [.ig (.v 1),.b] [(2,1)] [1,3]
 (.s [.v 0,.p (.D4 EN [(.v 2)]),.C BQ [.B,.A],.t 0] [(3,0)] [0,2]
 .ret))}
abbrev alN:IC:=(.Z 4 5 86 0 1 [] (.z 6 4 1 7 []
 (.seq (.j [.v 7,.n,.f 2 2,.l,.N .C .A] [] [] 93 0 (.k 1 8 [2,3,4,5,6,7]
 .ret))
 (.j [.v 7,.v 3,.C uX [.B,.A]] [] [7] 96 0 (.k 2 8 [2,3,4,5,6]
 .ret)))))
abbrev Kb:Fn:={np:=2,nv:=9,res:=[(8,ab)],body:=
(.s [.ig (.v 0),.k 0] [(2,1)] [0,8]
 (.s [.f 2 5,.l,.n,.t 0] [(3,0)] []
 (.seq (.j [.f 2 6,.l,.v 1,.i,.l,.n,.f 2 0,.l,.N .C .A,.t 0,.yf 0 2 7,.yl 1,.yv 2 1,.y 3 (.cz .B .A 1),.yl 4,.y 5 (.len .A),.yf 6 2 0,.yl 7,.y 8 (.bin .neq .C .A),.pick .J (.c (.bool ad)) .A,.t 0,.yf 0 2 8,.yl 1,.yv 2 1,.y 3 (.cz .B .A 1),.yl 4,.y 5 (.len .A),.yf 6 2 1,.yl 7,.y 8 (.bin .neq .C .A),.pick .J (.c (.bool ad)) .A,.t 0,.yf 0 2 9,.yl 1,.yv 2 1,.y 3 (.cz .B .A 1),.yl 4,.y 5 (.len .A),.yf 6 2 3,.yl 7,.y 8 (.bin .neq .C .A),.pick .J (.c (.bool ad)) .A] [] [] 52 0 (.k 1 8 [1,2,3]
 .ret))
 (.seq (.j [.f 2 6,.l,.v 1,.i,.l,.v 3,.C uX [.B,.A],.t 0,.yf 0 2 7,.yl 1,.yv 2 1,.y 3 (.cz .B .A 1),.yl 4,.yf 5 2 3,.yl 6,.y 7 (.ml uX [.C,.A]),.pick .I (.c (.bool ad)) .A,.t 0,.yf 0 2 8,.yl 1,.yv 2 1,.y 3 (.cz .B .A 1),.yl 4,.yv 5 3,.y 6 (.ml uX [.B,.A]),.pick .H (.c (.bool ad)) .A] [] [] 78 0 (.k 2 8 [1,2,3]
 .ret))
 (.seq (.s [.f 2 9,.l,.v 1,.i,.l,.n,.k 0] [(6,2),(5,1),(4,0)] [1]
 (.o 0 alN))
 (.k 0 8 [2,3,4,5,6]
 .ret))))))}
abbrev alO:IC:=(.Z 2 3 13 0 1 [] (.z 4 2 1 6 []
 (.g [.v 5,.v 6,.dH .B .A ab,.t 0] [(5,0)] [6])))
abbrev Kc:Fn:={np:=1,nv:=8,res:=[(7,ab)],body:=
(.s [.ig (.v 0),.mv (.c (.aJ))] [(1,1)] [0,7]
 (.s [.f 1 4,.l,.p (.oA [.A] ab),.t 0] [(5,0)] []
 (.seq (.s [.f 1 6,.l,.n,.k 0] [(4,2),(3,1),(2,0)] [1]
 (.o 0 alO))
 (.s [.v 5,.gm BS [.A]] [] [2,3,4]
 (.s [.v 5,.gm K8 [.A],.t 0] [(7,0)] [5]
 .ret)))))}
abbrev Ke:Fn:={np:=2,nv:=5,res:=[(4,ab)],body:=
(.s [.k 0] [] [4]
 (.s [.v 0,.q,.h 0 13,.d,.v 1,.C uP [.A],.p (.xG .C 1 .A (.int 0) ad),.t 0,.e .A 0,.e .B 1,.t 1,.t 1] [(3,1),(2,0)] []
 (.seq (.j [.v 2,.not .A] [] [2] 18 0 (.s [.v 0,.q,.h 0 12,.d,.n,.t 0] [(3,0)] []
 (.s [.v 0,.q,.h 0 13,.d,.v 1,.C uP [.A],.v 3,.p (.xE .D 1 .B .A)] [] []
 (.g [.v 0,.v 0,.q,.h 0 12,.d,.v 1,.dV [.A] 1,.dH .C .A ab,.p (.p7 .H),.h 0 12,.st .A .C 1] [] [0,1]))))
 (.m 3 4 [0,1,3]
 .ret))))}
abbrev SX:Fn:={np:=1,nv:=2,res:=[(1,ab)],body:=
(.s [.mv (.c (.aJ))] [] [1]
 (.seq (.j [.v 0,.p (.pI ae .A)] [] [] 4 0 (.s [.mv (.c (.aJ))] [(1,0)] [0]
 .ret))
 (.s [.p (.ue 1),.v 0,.dH .B .A ab,.t 0] [(1,0)] [0]
 .ret)))}
abbrev alP:IC:=(.Z 3 4 19 0 1 [] (.z 5 3 1 7 []
 (.g [.v 6,.v 0,.q,.eu .A 0 (aa 10),.h 0 8,.d,.v 7,.i,.d,.v 2,.i,.d,.dV [.A] 1,.dH (.t 12) .A ab,.t 0] [(6,0)] [7])))
abbrev Kf:Fn:={np:=3,nv:=9,res:=[(8,ab)],body:=
(.s [.mv (.c (.aJ))] [] [8]
 (.s [.nl ab] [(6,0)] []
 (.seq (.s [.v 0,.q,.h 0 12,.d,.v 1,.i,.d,.n,.k 0] [(5,2),(4,1),(3,0)] [1]
 (.o 0 alP))
 (.m 6 8 [0,2,3,4,5,6]
 .ret))))}
abbrev alQ:IC:=(.Z 4 5 16 0 1 [] (.m 4 7 []
 (.g [.v 6,.v 0,.v 0,.v 1,.v 2,.v 3,.v 7,.p (.vC K9 [.E,.D,.C,.B,.A]),.gm zj [.G,.A],.dV [.A] 1,.dH .J .A ab,.t 0] [(6,0)] [7])))
abbrev Kg:Fn:={np:=4,nv:=8,res:=[],body:=
(.s [.nl ab] [(6,0)] []
 (.seq (.s [.v 0,.q,.eu .A 0 (aa 10),.h 0 2,.d,.k 0] [(5,1),(4,0)] []
 (.seq (.o 0 alQ) (.km 6)))
 (.g [.v 0,.q,.h 0 15,.d,.v 1,.i,.d,.v 2,.v 0,.q,.h 0 15,.d,.v 1,.i,.d,.v 2,.i,.d,.v 6,.dV [.A] 1,.app .C .A ab,.cz (.t 14) (.t 13) 1,.st .A .B 1] [] [0,1,2,3,4,5,6])))}
abbrev alR:IC:=(.Z 2 3 19 0 1 [] (.m 2 4 []
 (.s [.v 0,.v 1,.v 4,.C EO [.C,.B,.A],.p (.DR .A),.t 0] [(6,0)] []
 (.s [.v 5,.v 6,.p (.xG .B 1 .A (.int 0) ad),.t 0,.e .A 0,.e .B 1,.t 1,.t 1] [(8,1),(7,0)] []
 (.seq (.j [.v 7,.not .A] [] [7] 33 0 (.s [.v 5,.p (.De .A),.t 0] [(8,0)] []
 (.g [.v 5,.v 6,.v 8,.p (.xE .C 1 .B .A)] [] [6])))
 (.g [.v 9,.v 4,.v 8,.cz .C .B 1,.st .A .B 1] [] [4,6,8]))))))
abbrev Kh:Fn:={np:=2,nv:=12,res:=[(10,ab),(11,ab)],body:=
(.s [.mv (.c (.aJ)),.k 0] [] [10,11]
 (.s [.p (.Az),.t 0] [(5,0)] []
 (.s [.v 1,.n,.kG .A .A [.int 0] ab,.t 0] [(9,0)] []
 (.seq (.s [.v 1,.n,.k 0] [(3,1),(2,0)] []
 (.o 0 alR))
 (.s [.v 9,.v 5,.p (.De .A),.t 2,.t 1] [(10,1),(11,0)] [0,1,2,3,5,9]
 .ret)))))}
abbrev TT:gW:=⟨[.k 0],[(6,0)],[],ab⟩
abbrev TU:gW:=⟨[.v 2,.n,.k 0],[(5,2),(4,1),(3,0)],[],ab⟩
abbrev TV:IC:=(.Z 3 4 14 0 1 [] (.z 5 3 1 7 []
 (.g [.v 6,.v 7,.n,.A .C .A,.t 0] [(6,0)] [7])))
abbrev TW:gW:=⟨[.v 0,.q,.h 0 1,.d,.v 1,.i,.d,.t 0],[(8,0)],[3,4,5],ab⟩
abbrev TX:gW:=⟨[.v 6,.G .A (.i 1024),.t 0,.yv 0 0,.y 1 (.p7 .A),.y 2 (.eu .A 2 ab),.y 3 (.ld .A ab),.yv 4 1,.y 5 (.cz .B .A 1),.y 6 (.ld .A ab),.pick .H (.c (.bool ad)) .A,.t 0,.yv 0 8,.y 1 (.pI ad .A),.y 2 (.mv .A),.xv 0 8,.x 1 (.len .A),.xv 2 6,.x 3 (.bin .lss .B .A),.y 7 (.pick .E .A (.c (.bool ae))),.pick .I (.c (.bool ad)) .A],[],[],aa (49,0)⟩
abbrev Li:gW:=⟨[.dV [] 1,.v 2,.C zm [.A],.dH .C .A ab,.t 0],[(9,0)],[2],ab⟩
abbrev TY:gW:=⟨[.v 8,.p (.pI ad .A),.t 0,.xv 0 8,.xv 1 9,.x 2 (.ml oP [.B,.A]),.x 3 (.bin .leq .A (.i 0)),.pick .E .A (.c (.bool ae))],[],[],aa (61,0)⟩
abbrev TZ:gW:=⟨[.v 0,.q,.h 0 1,.d,.v 1,.v 9,.cz .C .B 1,.st .A .B 1],[],[9],ab⟩
abbrev T1:gW:=⟨[.v 8,.p (.pI ae .A),.t 0,.yv 0 8,.y 1 (.len .A),.yv 2 6,.y 3 (.bin .gtr .B .A),.pick .E (.c (.bool ad)) .A],[],[8],aa (76,0)⟩
abbrev Lj:gW:=⟨[.v 0,.q,.h 0 3,.d,.v 6,.v 0,.q,.h 0 3,.d,.v 6,.i,.d,.v 1,.dV [.A] 1,.app .C .A ab,.cz (.t 11) (.t 10) 1,.st .A .B 1],[],[0,1,6],ab⟩
abbrev uW:Fn:={np:=3,nv:=10,res:=[],body:=
(.seq (.cM TT)
 (.seq (.seq (.cM TU)
 (.o 0 TV))
 (.seq (.cM TW)
 (.seq (.seq (.cM TX)
 (.cond 49 .ret .skip))
 (.seq (.seq (.cM Li) (.km 9))
 (.seq (.seq (.cM TY)
 (.cond 61 .ret .skip))
 (.seq (.cM TZ)
 (.seq (.cM T1)
 (.cond 76 (.cM Lj) .skip)))))))))}
abbrev alS:IC:=(.Z 2 3 17 0 1 [5] (.z 4 2 1 5 []
 (.j [.v 0,.q,.h 0 2,.d,.v 5,.i,.d,.not .A] [] [] 27 0 (.s [.v 0,.q,.h 0 2,.d,.v 5,.i,.st .A (.c (.bool ad)) 1] [] []
 (.g [.v 6,.v 5,.dV [.A] 1,.dH .C .A ab,.t 0] [(6,0)] [5])))))
abbrev Ki:Fn:={np:=2,nv:=8,res:=[(7,ab)],body:=
(.s [.mv (.c (.aJ))] [] [7]
 (.s [.nl ab] [(6,0)] []
 (.seq (.s [.v 0,.q,.h 0 3,.d,.v 1,.i,.d,.n,.k 0] [(4,2),(3,1),(2,0)] [1]
 (.o 0 alS))
 (.m 6 7 [0,2,3,4,6]
 .ret))))}
abbrev alT:IC:=(.Z 3 4 23 0 1 [] (.s [.v 3,.cz (.v 5) (.v 3) 1,.d,.t 2,.t 1] [(7,1),(6,0)] []
 (.g [.v 0,.v 6,.v 0,.q,.h 0 1,.d,.v 1,.i,.d,.v 2,.q,.eu .A 0 (aa 10),.h 0 0,.d,.v 7,.A .B .A,.cq [.A] 1,.cq [.I,.A] 1,.gm wM [(.t 17),(.t 16),.A]] [] [6,7])))
abbrev alU:IC:=(.Z 11 12 62 4 5 [] (.m 11 13 []
 (.s [.v 0,.v 1,.v 13,.v 14,.gm EP [.D,.C,.B,.A]] [] []
 (.g [.v 0,.v 14,.v 13,.v 1,.gm EP [.D,.C,.B,.A]] [] [13]))))
abbrev alV:IC:=(.Z 8 9 53 2 3 [11,12,14] (.z 10 8 1 14 []
 (.s [.v 2,.q,.eu .A 0 (aa 10),.h 0 0,.d,.k 0] [(12,1),(11,0)] []
 (.o 4 alU))))
abbrev Kj:Fn:={np:=2,nv:=15,res:=[],body:=
(.s [.v 0,.q,.h 0 0,.d,.t 0] [(2,0)] []
 (.seq (.s [.v 2,.q,.h 0 14,.d,.v 1,.i,.d,.n,.k 0] [(5,2),(4,1),(3,0)] []
 (.o 0 alT))
 (.s [.v 0,.q,.h 0 4,.d,.n,.k 0] [(10,2),(9,1),(8,0)] [3,4,5]
 (.o 2 alV))))}
abbrev alW:IC:=(.Z 1 2 9 0 1 [4] (.z 3 1 1 4 []
 (.j [.v 4,.v 5,.N .B .A] [] [] 14 0 (.m 4 6 [1,2,3,4,5]
 .ret))))
abbrev Kk:Fn:={np:=1,nv:=7,res:=[(6,ab)],body:=
(.s [.k 0] [] [6]
 (.k 0 5 []
 (.seq (.s [.v 0,.n,.k 0] [(3,2),(2,1),(1,0)] [0]
 (.o 0 alW))
 (.m 5 6 [1,2,3,5]
 .ret))))}
abbrev Kl:Fn:={np:=2,nv:=5,res:=[(4,ab)],body:=
(.s [.k 0] [] [4]
 (.s [.v 0,.C ER [.A],.t 0] [(2,0)] []
 (.s [.v 1,.C ER [.A],.t 0] [(3,0)] []
 (.seq (.j [.v 2] [] [2] 11 0 (.seq (.j [.v 3] [] [0,1,3] 12 0 (.k 0 4 []
 .ret))
 (.s [.mv (.i (-1))] [(4,0)] []
 .ret)))
 (.seq (.j [.v 3] [] [3] 13 0 (.k 1 4 [0,1]
 .ret))
 (.seq (.j [.v 0,.v 1,.L .B .A] [] [] 16 0 (.s [.mv (.i (-1))] [(4,0)] [0,1]
 .ret))
 (.seq (.j [.v 0,.v 1,.G .B .A] [] [0,1] 19 0 (.k 1 4 []
 .ret))
 (.k 0 4 []
 .ret))))))))}
abbrev alX:IC:=(.Z 2 3 12 0 1 [8] (.s [.v 2,.cz (.v 4) (.v 2) 1,.d,.t 2,.t 1] [(5,1),(6,0)] []
 (.seq (.j [.v 5,.v 1,.n,.bin .geq .C .A] [] [] 19 0 (.k 1 9 [0,1,2,3,4,5,6]
 .ret))
 (.s [.v 1,.v 5,.i,.d,.t 0] [(7,0)] [5]
 (.s [.v 6,.v 7,.C EM [.B,.A],.t 0] [(8,0)] [6,7]
 (.j [.v 8,.N .A (.i 0)] [] [] 28 0 (.m 8 9 [0,1,2,3,4,8]
 .ret)))))))
abbrev Km:Fn:={np:=2,nv:=10,res:=[(9,ab)],body:=
(.s [.k 0] [] [9]
 (.seq (.s [.v 0,.n,.k 0] [(4,2),(3,1),(2,0)] []
 (.o 0 alX))
 (.seq (.j [.v 0,.n,.v 1,.n,.L .C .A] [] [0,1,2,3,4] 35 0 (.s [.mv (.i (-1))] [(9,0)] []
 .ret))
 (.k 0 9 []
 .ret))))}
abbrev alY:IC:=(.Z 2 3 9 0 1 [4] (.m 2 4 []
 (.j [.v 1,.v 0,.v 4,.cz .B .A 3,.ld .A (aa 3),.p (.mX .E [.A])] [] [] 16 0 (.m 4 5 [0,1,2,3,4]
 .ret))))
abbrev Kn:Fn:={np:=2,nv:=6,res:=[(5,ab)],body:=
(.s [.k 0] [] [5]
 (.seq (.s [.v 0,.n,.k 0] [(3,1),(2,0)] []
 (.o 0 alY))
 (.s [.mv (.i (-1))] [(5,0)] [0,1,2,3]
 .ret)))}
abbrev alZ:IC:=(.Z 5 6 32 2 3 [] (.m 5 9 []
 (.g [.v 7,.v 8,.f 2 0,.l,.M .C .A,.v 9,.A .B .A,.dV [.A] 1,.dH .H .A ab,.t 0] [(7,0)] [9])))
abbrev al0:IC:=(.Z 12 13 50 4 5 [] (.m 12 14 []
 (.g [.v 11,.v 14,.f 2 2,.l,.kG .A .A [.int 0] ab,.cz .E .D 1,.st .A .B 1] [] [14])))
abbrev al1:IC:=(.Z 3 4 27 0 1 [] (.m 3 8 []
 (.s [.nl ab] [(7,0)] []
 (.seq (.s [.f 2 0,.l,.k 0] [(6,1),(5,0)] []
 (.o 2 alZ))
 (.s [.f 10 3,.d,.kG .A .A [.aJ] ab,.t 0] [(11,0)] [5,6,8]
 (.seq (.s [.v 11,.n,.k 0] [(13,1),(12,0)] []
 (.o 4 al0))
 (.s [.f 10 6,.d,.f 2 0,.l,.kG .A .A [.int 0] ab,.dV [.A] 1,.app .E .A ab,.f 10 7,⟨.ld .A ab,ab,ad⟩,.v 7,.dV [.A] 1,.app .C .A ab,.f 10 6,.st .A .G 1,.f 10 7,.st .A .D 1] [] [7,12,13]
 (.g [.f 10 8,.d,.f 2 1,.l,.kG .A .A [.int 0] ab,.dV [.A] 1,.app .E .A ab,.f 10 9,⟨.ld .A ab,ab,ad⟩,.v 11,.dV [.A] 1,.app .C .A ab,.f 10 8,.st .A .G 1,.f 10 9,.st .A .D 1] [] [11]))))))))
abbrev Ko:Fn:={np:=2,nv:=16,res:=[(15,aa (aa 10))],body:=
(.s [.ig (.v 0),.oz fN (aa 10)] [(2,1),(15,0)] [0]
 (.s [.f 2 0,.l,.f 2 1,.l,.f 2 2,.l,.v 1,.f 2 0,.l,.M .C .A,.p (.mx ad (.i 1) .A),.v 1,.kG .A .A [.bool ae] ab,.ju fN [(0,1,(.t 11)),(1,1,.J),(2,1,.H),(3,1,.C),(5,1,.A)],.oz fN (aa 10),.st .A .B 10] [(10,1)] []
 (.seq (.s [.v 1,.k 0] [(4,1),(3,0)] [1]
 (.o 0 al1))
 (.s [.ld (.v 10) (aa 10),.st (.v 15) .A 10] [] [2,3,4,10]
 .ret))))}
abbrev al2:IC:=(.seq (.w [.v 2,.v 0,.n,.L .C .A] [] [] 14 0)
 (.seq (.block 1 (.j [.v 0,.v 2,.i,.d,.v 1,.v 2,.i,.d,.N .E .A] [] [] 25 0 (.s [.b] [(3,0)] [0,1,2]
 .ret)))
 (.U 2 [])))
abbrev Kq:Fn:={np:=2,nv:=4,res:=[(3,ab)],body:=
(.s [.b] [] [3]
 (.seq (.j [.v 0,.n,.v 1,.n,.N .C .A] [] [] 10 0 (.s [.b] [(3,0)] [0,1]
 .ret))
 (.seq (.k 0 2 []
 (.o 0 al2))
 (.s [.mv (.c (.bool ad))] [(3,0)] [0,1,2]
 .ret))))}
abbrev al3:IC:=(.block 1 (.s [.v 0,.gm La [.A],.t 0,.e .A 0,.e .B 1,.e .C 2,.t 2,.t 2,.t 2] [(4,2),(2,1),(1,0)] []
 (.seq (.j [.v 1,.N .A (.i 0),.t 0,.yv 0 2,.y 1 (.not .A),.pick .C (.c (.bool ad)) .A] [] [2] 18 0 (.m 1 5 [0,1,4]
 .ret))
 (.seq (.s [.v 0,.q,.h 0 10,.d,.n,.A .A (.i 1),.t 0] [(3,0)] [1]
 (.j [.v 3,.G .A (.i 128),.t 0,.yv 0 3,.yv 1 0,.y 2 (.p7 .A),.y 3 (.eu .A 0 (aa 10)),.y 4 (.eu .A 0 ab),.y 5 (.ld .A ab),.y 6 (.bin .mul .F .A),.y 7 (.bin .gtr .A (.i 128)),.pick .I (.c (.bool ad)) .A] [] [3] 37 0 (.k 11 5 [0,4]
 .ret)))
 (.g [.v 0,.v 0,.q,.h 0 10,.d,.v 4,.cq [.A] 1,.cq [.C,.A] 1,.C ES [.A],.p (.p7 .I),.h 0 10,.st .A .C 1] [] [4])))))
abbrev Kr:Fn:={np:=1,nv:=6,res:=[(5,ab)],body:=
(.s [.k 0] [] [5]
 (.o 0 al3))}
abbrev al4:IC:=(.Z 11 12 68 2 3 [] (.m 11 13 []
 (.seq (.s [.v 0,.v 0,.v 6,.v 13,.gm Eu [.C,.B,.A],.gm uO [.E,.A],.t 0,.e .A 0,.e .B 1,.t 1,.t 1] [(10,1),(7,0)] []
 (.j [.v 7,.N .A (.i 0)] [] [] 80 0 (.s [.ju fN [],.v 7,.st (.v 2) .B 10,.t 1] [(26,0)] [0,3,4,5,6,7,8,9,10,11,12,13,14]
 .ret)))
 (.g [.f 8 8,.d,.v 9,.i,.d,.v 13,.v 14,.v 10,.p (.xG .B 1 .A (.int 0) ae),.cz .E .D 1,.st .A .B 1] [] [7,10,13]))))
abbrev al5:IC:=(.Z 20 21 118 8 9 [] (.m 20 24 []
 (.seq (.s [.v 0,.v 0,.v 22,.v 23,.v 6,.v 24,.gm Ev [.E,.D,.C,.B,.A],.gm uO [.G,.A],.t 0,.e .A 0,.e .B 1,.t 1,.t 1] [(10,1),(7,0)] []
 (.j [.v 7,.N .A (.i 0)] [] [] 132 0 (.s [.ju fN [],.v 7,.st (.v 2) .B 10,.t 1] [(26,0)] [0,3,4,5,6,7,8,9,10,14,15,16,17,18,19,20,21,22,23,24,25]
 .ret)))
 (.g [.f 8 9,.d,.v 9,.i,.d,.v 25,.v 0,.q,.eu .A 0 (aa 10),.h 0 0,.d,.M .F .A,.v 23,.A .B .A,.cz .J .A 1,.d,.v 24,.v 14,.v 10,.p (.xG .B 1 .A (.int 0) ae),.cz .E .D 1,.st .A .B 1] [] [7,10,24]))))
abbrev al6:IC:=(.Z 18 19 110 6 7 [20,21,23] (.m 18 23 []
 (.s [.v 0,.q,.eu .A 0 (aa 10),.h 0 2,.d,.k 0] [(21,1),(20,0)] []
 (.o 8 al5))))
abbrev al7:IC:=(.Z 15 16 100 4 5 [18,19,22,25] (.s [.v 15,.cz (.v 17) (.v 15) 1,.d,.t 2,.t 1] [(25,1),(22,0)] []
 (.s [.v 0,.q,.eu .A 0 (aa 10),.h 0 0,.d,.k 0] [(19,1),(18,0)] []
 (.o 6 al6))))
abbrev al8:IC:=(.Z 3 4 41 0 1 [6,9,15,16,17] (.s [.v 3,.cz (.v 5) (.v 3) 1,.d,.t 2,.t 1] [(9,1),(6,0)] []
 (.s [.v 0,.v 6,.gm uO [.B,.A],.t 0,.e .A 0,.e .B 1,.t 1,.t 1] [(10,1),(7,0)] []
 (.seq (.j [.v 7,.N .A (.i 0)] [] [] 52 0 (.s [.ju fN [],.v 7,.st (.v 2) .B 10,.t 1] [(26,0)] [0,3,4,5,6,7,8,9,10,14]
 .ret))
 (.s [.f 8 5,.d,.v 9,.v 10,.p (.NN .A (.i 0)),.p (.NO ae .A (.c (.ik 4 (43)))),.cz .E .D 1,.st .A .B 1] [] [7,10]
 (.seq (.s [.v 0,.q,.eu .A 0 (aa 10),.h 0 1,.d,.k 0] [(12,1),(11,0)] []
 (.o 2 al4))
 (.s [.v 0,.q,.h 0 10,.d,.n,.k 0] [(17,2),(16,1),(15,0)] [11,12]
 (.o 4 al7))))))))
abbrev Ks:Fn:={np:=1,nv:=27,res:=[(2,aa (aa 10)),(26,ab)],body:=
(.s [.oz fN (aa 10),.k 0] [(2,1)] [26]
 (.s [.v 0,.gm Es [.A],.t 0,.e .A 0,.e .B 1,.t 1,.t 1] [(14,1),(1,0)] []
 (.seq (.j [.v 1,.N .A (.i 0)] [] [] 22 0 (.s [.ju fN [],.v 1,.st (.v 2) .B 10,.t 1] [(26,0)] [0,1,14]
 .ret))
 (.s [.v 0,.q,.eu .A 0 (aa 10),.ld .A (aa 10),.v 0,.q,.h 0 10,.d,.n,.p (.can zk [.F,.A]),.oz fN (aa 10),.st .A .B 10] [(8,1)] [1]
 (.seq (.s [.v 0,.q,.h 0 10,.d,.n,.k 0] [(5,2),(4,1),(3,0)] []
 (.o 0 al8))
 (.s [.ld (.v 8) (aa 10),.st (.v 2) .A 10,.k 0] [(26,0)] [0,3,4,5,8,14]
 .ret))))))}
abbrev Kt:Fn:={np:=1,nv:=3,res:=[(2,ab)],body:=
(.s [.ig (.v 0),.k 0] [(1,1)] [0,2]
 (.s [.eu (.v 1) 0 (aa 10),.ew .A (aa 10),.C kq [.A],.eu (.v 1) 10 (aa 10),.ew .A (aa 10),.C kq [.A],.M .D .A,.t 0] [(2,0)] [1]
 .ret))}
abbrev Ku:Fn:={np:=2,nv:=5,res:=[(3,ab),(4,ab)],body:=
(.s [.ig (.v 0),.k 0,.k 0] [(2,2)] [0,3,4]
 (.s [.v 1,.eu (.v 2) 10 (aa 10),.ew .A (aa 10),.C kq [.A],.bin .quo .D .A,.v 1,.eu (.v 2) 10 (aa 10),.ew .A (aa 10),.C kq [.A],.bin .rem .D .A,.t 5,.t 1] [(3,1),(4,0)] [1,2]
 .ret))}
abbrev al9:IC:=(.Z 5 6 29 0 1 [] (.s [.v 5,.cz (.v 7) (.v 5) 1,.d,.t 2,.t 1] [(10,1),(9,0)] []
 (.g [.v 8,.t 0,.yv 0 9,.y 1 (.mv .A),.xv 0 3,.xv 1 10,.x 2 (.cz .B .A 1),.x 3 (.ld .A ab),.y 6 (.pick .E .A (.c (.bool ae))),.pick .H (.c (.bool ad)) .A,.t 0] [(8,0)] [9,10])))
abbrev ama:IC:=(.Z 14 15 57 4 5 [19] (.s [.cz (.v 16) (.v 14) 2,.ld .A (aa 2),.p (.iA 2),.kP .A .B 2] [(17,0)] []
 (.s [.v 12,.q,.h 0 12,.d,.q,.h 0 0,.d,.gy (.v 17) (.i 0) 2 ab,.l,.cz .C .A 1,.d,.gy (.v 17) (.i 1) 2 ab,.l,.cz .C .A 1,.d,.t 0] [(19,0)] []
 (.j [.gy (.v 17) (.i 0) 2 ab,.l,.v 2,.E .B .A,.t 0,.xv 0 3,.x 1 (.gy (.v 17) (.i 1) 2 ab),.xl 2,.x 3 (.cz .C .A 1),.x 4 (.ld .A ab),.pick .F .A (.c (.bool ae)),.t 0,.xv 0 18,.x 1 (.not .A),.x 2 (.mv .A),.yv 0 19,.yv 1 20,.y 2 (.ml oP [.B,.A]),.y 3 (.bin .lss .A (.i 0)),.x 7 (.pick .E (.c (.bool ad)) .A),.pick .I .A (.c (.bool ae))] [] [17] 95 0 (.g [.v 19,.t 0,.mv (.c (.bool ad))] [(20,1),(18,0)] [19])))))
abbrev amb:IC:=(.r [.L (.v 11) (.i 1025)] [] [] 50 0
 (.H 50 2
 (.seq (.block 3 (.m 11 13 []
 (.s [.mv (.c (.aJ))] [(20,0)] []
 (.s [.b] [(18,0)] []
 (.seq (.s [.v 12,.v 13,.gm EV [.B,.A],.n,.k 0] [(16,2),(15,1),(14,0)] [13]
 (.o 4 ama))
 (.j [.v 18] [] [14,15,16,18] 98 0 (.s [.v 20,.C pL [.A],.t 0,.mv (.c (.bool ad)),.k 0] [(21,2),(22,1),(23,0)] [2,3,11,12,20]
 .ret)))))))
 (.V 11 [20]))))
abbrev Kv:Fn:={np:=4,nv:=24,res:=[(21,ab),(22,ab),(23,ab)],body:=
(.s [.ig (.v 1),.mv (.c (.aJ)),.b,.k 0] [(4,3)] [1,21,22,23]
 (.s [.b] [(8,0)] []
 (.seq (.s [.v 0,.ew (.v 4) (aa 10),.C ET [.B,.A],.v 2,.i,.d,.n,.k 0] [(7,2),(6,1),(5,0)] []
 (.o 0 al9))
 (.seq (.j [.v 8,.not .A] [] [5,6,7,8] 45 0 (.s [.mv (.c (.aJ)),.b,.k 0] [(21,2),(22,1),(23,0)] [0,2,3,4]
 .ret))
 (.s [.v 0,.ew (.v 4) (aa 10),.p (.can EU [.B,.A]),.t 0] [(12,0)] [0,4]
 (.seq (.k 0 11 []
 (.o 2 amb))
 (.s [.mv (.c (.aJ)),.b,.k 3] [(21,2),(22,1),(23,0)] [2,3,11,12]
 .ret)))))))}
abbrev Kw:Fn:={np:=1,nv:=3,res:=[(2,ab)],body:=
(.s [.ig (.v 0),.k 0] [(1,1)] [0,2]
 (.s [.eu (.v 1) 0 (aa 10),.h 0 5,.l,.n,.t 0] [(2,0)] [1]
 .ret))}
abbrev Kx:Fn:={np:=3,nv:=7,res:=[(5,aa (aa 2))],body:=
(.s [.ig (.v 0),.ig (.v 1),.oz [.aJ,.int 0] (aa 2)] [(4,2),(3,1),(5,0)] [0,1]
 (.seq (.block 0 (.i [.v 2,.f 3 0,.l,.L .C .A,.t 0] [] [] 8 0 (.s [.f 4 0,.l,.p (.can pL [.A]),.f 3 7,.l,.f 4 1,.l,.cz .C .A 1,.l,.v 2,.i,.l,.dV [.A] 1,.app (.t 10) .A ab,.f 3 6,.l,.f 4 1,.l,.cz .C .A 1,.l,.v 2,.i,.l,.ju [.aJ,.int 0] [(0,1,.J),(1,1,.A)],.st (.v 5) .A 2] [] [2,3,4]
 .ret) (.j [.v 2,.f 3 0,.l,.f 3 1,.l,.A .C .A,.L .F .A,.t 0] [] [] 37 0 (.s [.f 4 0,.l,.f 3 8,.l,.f 4 1,.l,.cz .C .A 1,.l,.v 2,.f 3 0,.l,.S .C .A,.cz .E .A 1,.l,.ju [.aJ,.int 0] [(0,1,(.t 12)),(1,1,.A)],.st (.v 5) .A 2] [] [2,3,4]
 .ret))))
 (.s [.f 4 0,.l,.n,.S .A (.i 1),.t 0] [(6,0)] []
 (.s [.f 4 0,.l,.v 6,.p (.qp .B ab (aa .A) 1),.f 3 9,.l,.f 4 1,.l,.cz .C .A 1,.l,.f 4 0,.l,.v 6,.i,.l,.cz .F .A 1,.l,.v 2,.f 3 0,.l,.S .C .A,.f 3 1,.l,.S .C .A,.cz .H .A 1,.l,.ju [.aJ,.int 0] [(0,1,(.t 22)),(1,1,.A)],.st (.v 5) .A 2] [] [2,3,4,6]
 .ret))))}
abbrev amc:IC:=(.Z 3 4 12 0 1 [] (.z 5 3 1 7 []
 (.g [.v 6,.v 0,.q,.h 0 10,.d,.v 7,.v 0,.q,.eu .A 0 (aa 10),.h 0 0,.d,.bin .quo .F .A,.cz .H .A 1,.d,.v 7,.v 0,.q,.eu .A 0 (aa 10),.h 0 0,.d,.bin .rem .F .A,.cq [.A] 1,.cq [(.t 21),.I,.A] 1,.C qK [.A],.t 0] [(6,0)] [7])))
abbrev Ky:Fn:={np:=2,nv:=9,res:=[(8,ab)],body:=
(.s [.ig (.v 1),.mv (.c (.aJ))] [(2,1)] [1,8]
 (.s [.mv (.c (.aJ))] [(6,0)] []
 (.seq (.s [.f 2 0,.l,.n,.k 0] [(5,2),(4,1),(3,0)] [2]
 (.o 0 amc))
 (.m 6 8 [0,3,4,5,6]
 .ret))))}
abbrev Kz:Fn:={np:=1,nv:=2,res:=[(1,ab)],body:=
(.s [.mv (.c (.aJ))] [] [1]
 (.s [.v 0,.C zm [.A],.t 0] [(1,0)] [0]
 .ret))}
abbrev amd:IC:=(.Z 1 2 12 0 1 [] (.z 3 1 1 5 []
 (.g [.v 4,.v 5,.p (.NM .A),.dV [.A] 1,.dH .D .A ab,.t 0] [(4,0)] [5])))
abbrev KA:Fn:={np:=1,nv:=7,res:=[(6,ab)],body:=
(.s [.mv (.c (.str []))] [] [6]
 (.s [.v 0,.n,.kG (.i 0) .A [.ik 4 0] ab,.t 0] [(4,0)] []
 (.seq (.s [.v 0,.n,.k 0] [(3,2),(2,1),(1,0)] [0]
 (.o 0 amd))
 (.s [.v 4,.p (.DR .A),.t 0] [(6,0)] [1,2,3,4]
 .ret))))}
abbrev KB:Fn:={np:=2,nv:=4,res:=[(3,ab)],body:=
(.s [.ig (.v 0),.b] [(2,1)] [0,3]
 (.s [.v 1,.bin .geq .A (.i 0),.t 0,.xv 0 1,.xf 1 2 5,.xl 2,.x 3 (.len .A),.x 4 (.bin .lss .D .A),.pick .F .A (.c (.bool ae)),.t 0] [(3,0)] [1,2]
 .ret))}
abbrev KC:Fn:={np:=1,nv:=2,res:=[(1,ab)],body:=
(.s [.b] [] [1]
 (.s [.v 0,.bin .geq .A (.i 1),.t 0,.xv 0 0,.x 1 (.bin .leq .A (.i 1024)),.pick .C .A (.c (.bool ae)),.t 0] [(1,0)] [0]
 .ret))}
abbrev KD:Fn:={np:=2,nv:=3,res:=[(2,ab)],body:=
(.s [.b] [] [2]
 (.s [.v 0,.v 1,.C Lc [.B,.A],.bin .geq .A (.i 0),.t 0] [(2,0)] [0,1]
 .ret))}
abbrev KE:Fn:={np:=2,nv:=3,res:=[(2,ab)],body:=
(.s [.b] [] [2]
 (.s [.v 0,.L .A (.i 0),.t 0,.yv 0 0,.y 1 (.ld (.v 1) ab),.y 2 (.bin .geq .B .A),.pick .D (.c (.bool ad)) .A,.t 0] [(2,0)] [0,1]
 .ret))}
abbrev KF:Fn:={np:=2,nv:=3,res:=[(2,ab)],body:=
(.s [.b] [] [2]
 (.s [.v 0,.L .A (.i 0),.t 0,.yv 0 0,.y 1 (.ld (.v 1) ab),.y 2 (.bin .geq .B .A),.pick .D (.c (.bool ad)) .A,.t 0] [(2,0)] [0,1]
 .ret))}
end Ab
