/- The functions of the program as small texts, printed by a tool of mine. Condition: none. -/
import Derived.Test.YtcdccenbhiddcaaGreatAbBase
set_option linter.all false
namespace Ab
abbrev Ln.l:Ln:=.p (.bH (.t 0) none)
abbrev Ln.d:Ln:=.p (.ld (.t 0) none)
abbrev Ln.k (n:Int):Ln:=.p (.mv (.c (.int n)))
abbrev Ln.i:Ln:=.p (.bW (.t 1) (.t 0) 1)
abbrev Ln.n:Ln:=.p (.len (.t 0))
abbrev Ln.q:Ln:=.p (.vM (.t 0))
abbrev Ln.f (v o:Nat):Ln:=.p (.nV (.v v) o none)
abbrev Ln.h (v o:Nat):Ln:=.p (.nV (.t v) o none)
abbrev Ln.b:Ln:=.p (.mv (.c (.bool false)))
abbrev Ln.c (a b:Nat):Ln:=.p (.bin .lss (.v a) (.v b))
abbrev abf:List AV:=[.int 0,.int 0,.int 0,.int 0,.int 0,.ag,.ag,.ag,.ag,.ag]
abbrev Ln.bW (a b:Rf) (n:Nat):Ln:=.p (.bW a b n)
abbrev Ln.st (a b:Rf) (n:Nat):Ln:=.p (.st a b n)
abbrev Ln.pick (a b c:Rf):Ln:=.p (.pick a b c)
abbrev Ln.mv (a:Rf):Ln:=.p (.mv a)
abbrev Ln.bH (a:Rf) (n:Option Nat):Ln:=.p (.bH a n)
abbrev Ln.nV (a:Rf) (n:Nat) (k:Option Nat):Ln:=.p (.nV a n k)
abbrev Ln.cA (a:List Rf) (n:Nat):Ln:=.p (.cA a n)
abbrev Ln.bY (a:List Rf) (n:Nat):Ln:=.p (.bY a n)
abbrev Ln.cz (a:Rf):Ln:=.p (.cz a)
abbrev Ln.lF (f:Nat) (a:List Rf):Ln:=.p (.lF f a)
abbrev Ln.bB (a b:Rf) (k:Option Nat):Ln:=.p (.bB a b k)
abbrev Ln.e9 (a:List AV) (b:List (Nat×Nat×Rf)):Ln:=.p (.e9 a b)
abbrev Ln.j8 (a:List AV) (k:Option Nat):Ln:=.p (.j8 a k)
abbrev Ln.kf (a b:Rf) (z:List AV) (k:Option Nat):Ln:=.p (.kf a b z k)
abbrev Ln.ld (a:Rf) (k:Option Nat):Ln:=.p (.ld a k)
abbrev Ln.bin (o:tm) (a b:Rf):Ln:=.p (.bin o a b)
abbrev Ln.app (a b:Rf) (k:Option Nat):Ln:=.p (.app a b k)
abbrev Ln.nl (k:Option Nat):Ln:=.p (.nl k)
abbrev Ln.not (a:Rf):Ln:=.p (.not a)
abbrev Ln.ko (a b:Rf) (n:Nat) (k:Option Nat):Ln:=.p (.ko a b n k)
abbrev Ln.gv (a b:Rf) (n:Nat):Ln:=.p (.gv a b n)
abbrev Ln.xv (k n:Nat):Ln:=.x k (.mv (.v n))
abbrev Ln.xl (k:Nat):Ln:=.x k (.bH (.t 0) none)
abbrev Ln.xf (k n o:Nat):Ln:=.x k (.nV (.v n) o none)
abbrev Ln.yv (k n:Nat):Ln:=.y k (.mv (.v n))
abbrev Ln.yl (k:Nat):Ln:=.y k (.bH (.t 0) none)
abbrev Ln.yf (k n o:Nat):Ln:=.y k (.nV (.v n) o none)
abbrev Rf.i (n:Int):Rf:=.c (.int n)
abbrev Rf.A:Rf:=.t 0
abbrev Rf.B:Rf:=.t 1
abbrev Rf.C:Rf:=.t 2
abbrev Rf.D:Rf:=.t 3
abbrev Rf.E:Rf:=.t 4
abbrev Rf.F:Rf:=.t 5
abbrev Rf.G:Rf:=.t 6
abbrev Rf.H:Rf:=.t 7
abbrev Rf.I:Rf:=.t 8
abbrev Rf.J:Rf:=.t 9
abbrev Ln.A (a b:Rf):Ln:=.p (.bin .add a b)
abbrev Ln.L (a b:Rf):Ln:=.p (.bin .lss a b)
abbrev Ln.N (a b:Rf):Ln:=.p (.bin .neq a b)
abbrev Ln.E (a b:Rf):Ln:=.p (.bin .eql a b)
abbrev Ln.G (a b:Rf):Ln:=.p (.bin .gtr a b)
abbrev Ln.S (a b:Rf):Ln:=.p (.bin .sub a b)
abbrev Ln.M (a b:Rf):Ln:=.p (.bin .mul a b)
abbrev Ln.C (f:Nat) (l:List Rf):Ln:=.p (.kG f l)
abbrev Ln.e (a:Rf) (n:Nat):Ln:=.p (.ext a n)
abbrev IC.o (n:Nat) (b:IC):IC:=.block n (.loop b)
abbrev IC.g (l:List Ln) (w:List (Nat×Nat)) (d:List Nat):IC:=.bM ⟨l,w,d,none⟩
abbrev IC.s (l:List Ln) (w:List (Nat×Nat)) (d:List Nat) (c:IC):IC:=.seq (.bM ⟨l,w,d,none⟩) c
abbrev IC.r (l:List Ln) (w:List (Nat×Nat)) (d:List Nat) (a b:Nat) (c:IC):IC:=.seq (.bM ⟨l,w,d,some (a,b)⟩) c
abbrev IC.i (l:List Ln) (w:List (Nat×Nat)) (d:List Nat) (a b:Nat) (x y:IC):IC:=.seq (.bM ⟨l,w,d,some (a,b)⟩) (.cond a x y)
abbrev IC.j (l:List Ln) (w:List (Nat×Nat)) (d:List Nat) (a b:Nat) (x:IC):IC:=.seq (.bM ⟨l,w,d,some (a,b)⟩) (.cond a x .skip)
abbrev IC.w (l:List Ln) (w:List (Nat×Nat)) (d:List Nat) (a b:Nat):IC:=.seq (.bM ⟨l,w,d,some (a,b)⟩) (.cond a .skip (.exit 0))
abbrev IC.V (a:Nat) (k:List Nat):IC:=.g [.A (.v a) (.i 1),.t 0] [(a,0)] k
abbrev IC.U (a:Nat) (k:List Nat):IC:=.g [.v a,.A .A (.i 1),.t 0] [(a,0)] k
abbrev IC.H (a b:Nat) (x:IC):IC:=.seq (.cond a .skip (.exit b)) x
abbrev IC.m (a b:Nat) (k:List Nat) (x:IC):IC:=.s [.v a,.t 0] [(b,0)] k x
abbrev IC.k (n:Int) (b:Nat) (k:List Nat) (x:IC):IC:=.s [.k n] [(b,0)] k x
abbrev IC.z (a b n c:Nat) (k:List Nat) (x:IC):IC:=.s [.bW (.v a) (.v b) n,.d,.t 0] [(c,0)] k x
abbrev IC.Z (a b f e n:Nat) (k:List Nat) (x:IC):IC:=.r [.c a b] [] [] f 0 (.H f e (.seq (.block n x) (.V a k)))
abbrev abg:Nat:=9
def Gh:Nat:=3
def ya:Nat:=4
def yb:Nat:=5
def oF:Nat:=6
def qg:Nat:=7
def sd:Nat:=8
def yc:Nat:=9
def uw:Nat:=10
def yd:Nat:=11
def ux:Nat:=12
def ye:Nat:=13
def yg:Nat:=14
def Gj:Nat:=15
def ia:Nat:=16
def uy:Nat:=17
def yh:Nat:=18
def kz:Nat:=19
def yi:Nat:=20
def yj:Nat:=21
def yk:Nat:=22
def qh:Nat:=23
def uz:Nat:=24
def ym:Nat:=25
def yn:Nat:=26
def yo:Nat:=27
def se:Nat:=28
def nA:Nat:=29
def qi:Nat:=30
def yp:Nat:=31
def yq:Nat:=32
def Gk:Nat:=33
def yr:Nat:=34
def yt:Nat:=35
def yu:Nat:=36
def yw:Nat:=37
def Gl:Nat:=38
def yx:Nat:=39
def sf:Nat:=40
def uA:Nat:=41
def uC:Nat:=42
def oG:Nat:=43
def fB:Nat:=44
def sg:Nat:=45
def si:Nat:=46
def yy:Nat:=47
def yz:Nat:=48
def uD:Nat:=49
def sj:Nat:=50
def sk:Nat:=51
def iS:Nat:=52
def uE:Nat:=53
def uF:Nat:=54
def yA:Nat:=55
def yB:Nat:=56
def yC:Nat:=59
def Gm:Nat:=60
def yD:Nat:=61
def yE:Nat:=62
def yF:Nat:=63
def yG:Nat:=64
def uG:Nat:=65
def uH:Nat:=66
def uI:Nat:=67
def uJ:Nat:=68
def yH:Nat:=69
def sm:Nat:=70
def sn:Nat:=71
def uK:Nat:=72
def sq:Nat:=73
def uL:Nat:=74
def yI:Nat:=75
def yJ:Nat:=76
def yK:Nat:=77
def yL:Nat:=78
def yM:Nat:=79
def yN:Nat:=91
def yO:Nat:=92
def uM:Nat:=93
def sr:Nat:=94
def yP:Nat:=96
def yQ:Nat:=97
def yR:Nat:=98
def uN:Nat:=104
def yS:Nat:=105
def yT:Nat:=114
abbrev yU:Fn:={np:=1,nv:=7,res:=[(6,none)],body:=
(.s [.cz (.v 0),.b] [(1,1)] [0,6]
 (.seq (.j [.bH (.v 1) (some 4),.C ya [.A],.not .A,.t 0,.yf 0 1 2,.yl 1,.y 2 (.len .A),.y 3 (.bin .gtr .A (.i 5)),.pick .E (.c (.bool true)) .A,.t 0,.yf 0 1 0,.yl 1,.y 2 (.bin .gtr .A (.i 3)),.pick .D (.c (.bool true)) .A,.t 0,.y 0 (.bH (.v 1) (some 4)),.y 1 (.kG yb [.A]),.y 2 (.bin .neq .A (.i 0)),.pick .D (.c (.bool true)) .A] [] [] 25 0 (.s [.C oF [],.t 0] [(6,0)] [1]
 .ret))
 (.s [.bH (.v 1) (some 4),.C qg [.A,(.i 1)],.t 0,.e .A 0,.e .B 1,.t 1,.t 1] [(2,1),(3,0)] []
 (.s [.bH (.v 1) (some 4),.v 2,.C sd [.B,.A],.t 0,.e .A 0,.e .B 1,.t 1,.t 1] [(5,1),(4,0)] [1]
 (.s [.v 3,.E .A (.i 0),.t 0,.xv 0 4,.x 1 (.bin .eql .A (.i 0)),.pick .C .A (.c (.bool false)),.t 0,.xv 0 5,.x 1 (.len .A),.x 2 (.bin .eql .A (.i 0)),.pick .D .A (.c (.bool false)),.t 0,.xv 0 2,.x 1 (.len .A),.x 2 (.bin .gtr .A (.i 0)),.pick .D .A (.c (.bool false)),.t 0,.x 0 (.kG oF []),.pick .B .A (.c (.bool false)),.t 0] [(6,0)] [2,3,4,5]
 .ret)))))}
abbrev yV:Fn:={np:=1,nv:=3,res:=[(2,none)],body:=
(.s [.cz (.v 0),.b] [(1,1)] [0,2]
 (.s [.bH (.v 1) (some 4),.C yc [.A],.not .A,.t 0,.xf 0 1 2,.xl 1,.x 2 (.len .A),.x 3 (.bin .leq .A (.i 8)),.pick .E .A (.c (.bool false)),.t 0,.xf 0 1 0,.xl 1,.x 2 (.bin .leq .A (.i 4)),.pick .D .A (.c (.bool false)),.t 0] [(2,0)] [1]
 .ret))}
abbrev yW:Fn:={np:=1,nv:=4,res:=[(3,none)],body:=
(.s [.cz (.v 0),.k 0] [(1,1)] [0,3]
 (.seq (.s [.bH (.v 1) (some 4),.C uw [.A],.t 0] [(2,0)] []
 (.j [.v 2,.N .A (.i 0)] [] [] 7 0 (.m 2 3 [1,2]
 .ret)))
 (.seq (.j [.bH (.v 1) (some 4),.C yd [.A],.not .A] [] [1,2] 11 0 (.k 1 3 []
 .ret))
 (.k 0 3 []
 .ret))))}
abbrev yX:Fn:={np:=0,nv:=10,res:=[(9,none)],body:=
(.s [.b] [] [9]
 (.s [.cA [(.i 1)] 1,.cA [(.i 0)] 1,.cA [.B,.A] 1,.cA [(.i 0)] 1,.cA [(.i 1)] 1,.cA [.B,.A] 1,.e9 [.int 0,.int 0,.ag,.ag] [(0,1,(.i 1)),(2,1,.D),(3,1,.A)],.p (.eC 4),.gv .A .B 4] [(0,0)] []
 (.s [.bH (.v 0) (some 4),.C ux [.A],.t 0,.e .A 0,.e .B 1,.t 1,.t 1] [(5,1),(1,0)] []
 (.s [.e9 [.int 0,.int 0,.int 0,.int 0,.int 0] [(0,1,(.i 1)),(3,1,(.i 1))],.e9 [.int 0,.int 0,.int 0,.int 0,.int 0] [(0,1,(.i 2))],.e9 [.int 0,.int 0,.int 0,.int 0,.int 0] [(0,1,(.i 3))],.e9 [.int 0,.int 0,.int 0,.int 0,.int 0] [(0,1,(.i 1)),(1,1,(.i 1))],.e9 [.int 0,.int 0,.int 0,.int 0,.int 0] [(0,1,(.i 2)),(1,1,(.i 1)),(3,1,(.i 1))],.e9 [.int 0,.int 0,.int 0,.int 0,.int 0] [(0,1,(.i 3)),(1,1,(.i 1)),(3,1,(.i 1))],.cA [.F,.E,.D,.C,.B,.A] 5,.t 0] [(6,0)] []
 (.s [.bH (.v 0) (some 4),.e9 [.int 0,.int 0,.int 0,.int 0,.int 0] [(0,1,(.i 3))],.C ye [.B,.A],.t 0,.e .A 0,.e .B 1,.p (.eC 4),.gv .A .C 4,.t 2] [(7,1),(2,0)] []
 (.s [.bH (.v 0) (some 4),.cA [(.i 0)] 1,.cA [.A] 1,.C sd [.C,.A],.t 0,.e .A 0,.e .B 1,.t 1,.t 1] [(8,1),(3,0)] []
 (.s [.bH (.v 0) (some 4),.e9 [.int 0,.int 0,.int 0,.int 0,.int 0] [(0,1,(.i 2)),(4,1,(.i 1))],.C ye [.B,.A],.t 0,.e .A 0,.e .B 1,.p (.eC 4),.gv .A .C 4,.t 2] [(4,0)] [0]
 (.s [.v 1,.E .A (.i 0),.t 0,.xv 0 2,.x 1 (.bin .eql .A (.i 0)),.pick .C .A (.c (.bool false)),.t 0,.xv 0 3,.x 1 (.bin .eql .A (.i 0)),.pick .C .A (.c (.bool false)),.t 0,.xv 0 4,.x 1 (.bin .eql .A (.i 1)),.pick .C .A (.c (.bool false)),.t 0,.xv 0 5,.xv 1 6,.x 2 (.kG yg [.B,.A]),.pick .D .A (.c (.bool false)),.t 0,.x 0 (.bH (.v 7) (some 4)),.x 1 (.cA [(.i 2)] 1),.x 2 (.cA [(.i 0)] 1),.x 3 (.cA [(.i 0)] 1),.x 4 (.cA [.C,.B,.A] 1),.x 5 (.cA [(.i 0)] 1),.x 6 (.cA [(.i 1)] 1),.x 7 (.cA [(.i 0)] 1),.x 8 (.cA [.C,.B,.A] 1),.x 9 (.e9 [.int 0,.int 0,.ag,.ag] [(0,1,(.i 1)),(2,1,.E),(3,1,.A)]),.x 10 (.kG Gj [.J,.A]),.pick (.t 11) .A (.c (.bool false)),.t 0,.xv 0 8,.xv 1 6,.x 2 (.l9 .A (some (.i 1)) none 5),.x 3 (.kG yg [.C,.A]),.pick .E .A (.c (.bool false)),.t 0] [(9,0)] [1,2,3,4,5,6,7,8]
 .ret))))))))}
abbrev Gn:dt:=⟨[.cz (.v 0),.mv (.c (.ag)),.k 0],[(2,2)],[0,12,13],none⟩
abbrev Gp:dt:=⟨[.bH (.v 2) (some 4),.C ia [.A],.t 0],[(3,0)],[],none⟩
abbrev Gs:dt:=⟨[.v 3,.N .A (.i 0)],[],[],some (17,0)⟩
abbrev Gt:dt:=⟨[.v 3,.mv (.c (.ag)),.t 1],[(12,1),(13,0)],[1,2,3],none⟩
abbrev Gu:dt:=⟨[.v 1,.L .A (.i 0),.t 0,.yv 0 1,.y 1 (.bin .gtr .A (.i 3)),.pick .C (.c (.bool true)) .A],[],[3],some (24,0)⟩
abbrev Gv:dt:=⟨[.mv (.c (.ag)),.k 2],[(12,1),(13,0)],[1,2],none⟩
abbrev Gw:dt:=⟨[.bH (.v 2) (some 4),.C uy [.A],.t 0,.e .A 0,.e .B 1,.p (.eC 4),.gv .A .C 4,.t 2],[(5,1),(4,0)],[2],none⟩
abbrev Gx:dt:=⟨[.v 4,.N .A (.i 0)],[],[],some (31,0)⟩
abbrev Gy:dt:=⟨[.v 4,.mv (.c (.ag)),.t 1],[(12,1),(13,0)],[1,4,5],none⟩
abbrev Gz:dt:=⟨[.bH (.v 5) (some 4),.C yh [.A],.t 0,.e .A 0,.e .B 1,.t 1,.t 1],[(7,1),(4,0)],[],none⟩
abbrev GA:dt:=⟨[.v 4,.N .A (.i 0)],[],[],some (39,0)⟩
abbrev GB:dt:=⟨[.v 4,.mv (.c (.ag)),.t 1],[(12,1),(13,0)],[1,4,5,7],none⟩
abbrev GC:dt:=⟨[.f 5 0,.l,.v 1,.A .A (.i 1),.C kz [.C,.A],.t 0,.e .A 0,.e .B 1,.t 1,.t 1],[(8,1),(4,0)],[1],none⟩
abbrev GD:dt:=⟨[.v 4,.N .A (.i 0)],[],[],some (50,0)⟩
abbrev GF:dt:=⟨[.v 4,.mv (.c (.ag)),.t 1],[(12,1),(13,0)],[4,5,7,8],none⟩
abbrev GG:dt:=⟨[.bH (.v 5) (some 4),.C yi [.A],.t 0,.e .A 0,.e .B 1,.t 1,.t 1],[(6,1),(4,0)],[5],none⟩
abbrev GH:dt:=⟨[.v 4,.N .A (.i 0)],[],[],some (58,0)⟩
abbrev GI:dt:=⟨[.v 4,.mv (.c (.ag)),.t 1],[(12,1),(13,0)],[4,6,7,8],none⟩
abbrev GJ:dt:=⟨[.v 6,.n,.E .A (.i 0)],[],[4],some (62,0)⟩
abbrev GK:dt:=⟨[.cA [(.c (.ag))] 1,.t 0],[(6,0)],[],none⟩
abbrev GL:dt:=⟨[.v 7,.n,.v 8,.n,.M .C .A,.v 6,.n,.M .C .A,.G .A (.i 10000)],[],[],some (72,0)⟩
abbrev GM:dt:=⟨[.mv (.c (.ag)),.k 11],[(12,1),(13,0)],[6,7,8],none⟩
abbrev GN:dt:=⟨[.j8 [.ag] none],[(10,0)],[],none⟩
abbrev uO:dt:=⟨[.v 7,.v 8,.v 6,.C yj [.C,.B,.A]],[],[6,7,8],some (76,0)⟩
abbrev abh:dt:=⟨[.v 9],[(11,0)],[],none⟩
abbrev ss:dt:=⟨[.ld (.v 10) none,.v 11,.bY [.A] 1,.bB .C .A none,.st (.v 10) .A 1],[],[10],none⟩
abbrev GP:dt:=⟨[.ld (.v 10) none,.C yk [.A],.t 0,.k 0],[(12,1),(13,0)],[10],none⟩
abbrev uP:Fn:={np:=2,nv:=14,res:=[(12,none),(13,none)],body:=
(.seq (.bM Gn)
 (.seq (.seq (.bM Gp)
 (.seq (.bM Gs)
 (.cond 17 (.seq (.bM Gt)
 .ret) .skip)))
 (.seq (.seq (.bM Gu)
 (.cond 24 (.seq (.bM Gv)
 .ret) .skip))
 (.seq (.bM Gw)
 (.seq (.seq (.bM Gx)
 (.cond 31 (.seq (.bM Gy)
 .ret) .skip))
 (.seq (.bM Gz)
 (.seq (.seq (.bM GA)
 (.cond 39 (.seq (.bM GB)
 .ret) .skip))
 (.seq (.bM GC)
 (.seq (.seq (.bM GD)
 (.cond 50 (.seq (.bM GF)
 .ret) .skip))
 (.seq (.bM GG)
 (.seq (.seq (.bM GH)
 (.cond 58 (.seq (.bM GI)
 .ret) .skip))
 (.seq (.seq (.bM GJ)
 (.cond 62 (.bM GK) .skip))
 (.seq (.seq (.bM GL)
 (.cond 72 (.seq (.bM GM)
 .ret) .skip))
 (.seq (.bM GN)
 (.seq (.seq (.bM uO)
 (.block 0 .bad))
 (.seq (.bM GP)
 .ret))))))))))))))))}
abbrev UB:IC:=(.Z 4 5 28 0 1 [8] (.z 6 4 1 7 []
 (.s [.v 7,.f 2 0,.l,.C qh [.C,.A],.t 0] [(8,0)] [7]
 (.j [.v 8,.N .A (.i 0)] [] [] 36 0 (.s [.v 8,.mv (.c (.ag)),.t 1] [(18,1),(19,0)] [1,2,4,5,6,8,9]
 .ret)))))
abbrev UC:IC:=(.Z 10 11 42 2 3 [13,14] (.s [.bW (.v 12) (.v 10) 5,.ld .A (some 5),.p (.eC 5),.gv .A .B 5] [(13,0)] []
 (.s [.bH (.v 2) (some 4),.bH (.v 13) (some 5),.C uz [.B,.A],.p (.eC 4),.gv .A .B 4] [(14,0)] []
 (.seq (.j [.bH (.v 2) (some 4),.bH (.v 14) (some 4),.v 1,.C ym [.C,.B,.A],.not .A] [] [] 52 0 (.exit 3))
 (.s [.bH (.v 2) (some 4),.bH (.v 14) (some 4),.C yn [.B,.A],.t 0,.e .A 0,.e .B 1,.t 1,.t 1] [(16,1),(15,0)] [14]
 (.seq (.j [.v 15,.N .A (.i 0)] [] [] 60 0 (.s [.v 15,.mv (.c (.ag)),.t 1] [(18,1),(19,0)] [1,2,10,11,12,13,15,16,17]
 .ret))
 (.j [.v 16,.not .A] [] [15,16] 63 0 (.g [.v 17,.bH (.v 13) (some 5),.bY [.A] 5,.bB .C .A (some 5),.t 0] [(17,0)] [13]))))))))
abbrev yY:Fn:={np:=2,nv:=20,res:=[(18,none),(19,none)],body:=
(.s [.cz (.v 0),.mv (.c (.ag)),.k 0] [(2,2)] [0,18,19]
 (.s [.bH (.v 2) (some 4),.C ux [.A],.t 0,.e .A 0,.e .B 1,.t 1,.t 1] [(9,1),(3,0)] []
 (.seq (.j [.v 3,.N .A (.i 0)] [] [] 23 0 (.s [.v 3,.mv (.c (.ag)),.t 1] [(18,1),(19,0)] [1,2,3,9]
 .ret))
 (.seq (.s [.v 1,.n,.k 0] [(6,2),(5,1),(4,0)] [3]
 (.o 0 UB))
 (.s [.nl (some 5)] [(17,0)] [4,5,6]
 (.seq (.s [.v 9,.n,.k 0] [(12,2),(11,1),(10,0)] [9]
 (.o 2 UC))
 (.s [.v 17,.t 0,.k 0] [(18,1),(19,0)] [1,2,10,11,12,17]
 .ret)))))))}
abbrev UD:IC:=(.Z 2 3 24 0 1 [] (.m 2 4 []
 (.j [.f 1 2,.l,.v 4,.i,.l,.n,.G .A (.i 12)] [] [4] 32 0 (.s [.mv (.c (.bool true))] [(8,0)] [1,2,3]
 .ret))))
abbrev UE:IC:=(.Z 5 6 38 2 3 [] (.m 5 7 []
 (.j [.f 1 3,.l,.v 7,.i,.l,.n,.G .A (.i 12)] [] [7] 46 0 (.s [.mv (.c (.bool true))] [(8,0)] [1,5,6]
 .ret))))
abbrev yZ:Fn:={np:=1,nv:=9,res:=[(8,none)],body:=
(.s [.cz (.v 0),.b] [(1,1)] [0,8]
 (.seq (.j [.f 1 2,.l,.n,.G .A (.i 12),.t 0,.yf 0 1 3,.yl 1,.y 2 (.len .A),.y 3 (.bin .gtr .A (.i 12)),.pick .E (.c (.bool true)) .A,.t 0,.yf 0 1 0,.yl 1,.y 2 (.bin .gtr .A (.i 6)),.pick .D (.c (.bool true)) .A] [] [] 19 0 (.s [.mv (.c (.bool true))] [(8,0)] [1]
 .ret))
 (.seq (.s [.f 1 2,.l,.n,.k 0] [(3,1),(2,0)] []
 (.o 0 UD))
 (.seq (.s [.f 1 3,.l,.n,.k 0] [(6,1),(5,0)] [2,3]
 (.o 2 UE))
 (.s [.b] [(8,0)] [1,5,6]
 .ret)))))}
abbrev UF:IC:=(.seq (.w [.v 2,.f 1 2,.l,.n,.L .D .A] [] [] 43 0)
 (.seq (.block 1 (.s [.bH (.v 1) (some 4),.v 2,.C yo [.B,.A],.t 0] [(3,0)] []
 (.j [.v 3,.N .A (.i 0)] [] [] 50 0 (.m 3 4 [1,2,3]
 .ret))))
 (.U 2 [3])))
abbrev y4:Fn:={np:=1,nv:=5,res:=[(4,none)],body:=
(.s [.cz (.v 0),.k 0] [(1,1)] [0,4]
 (.seq (.j [.f 1 0,.l,.L .A (.i 1),.t 0,.yf 0 1 0,.yl 1,.y 2 (.bin .gtr .A (.i 64)),.pick .D (.c (.bool true)) .A] [] [] 12 0 (.k 2 4 [1]
 .ret))
 (.seq (.j [.f 1 2,.l,.n,.E .A (.i 0)] [] [] 16 0 (.k 19 4 [1]
 .ret))
 (.seq (.j [.f 1 2,.l,.n,.G .A (.i 128)] [] [] 20 0 (.k 11 4 [1]
 .ret))
 (.seq (.j [.f 1 1,.l,.L .A (.i 0),.t 0,.yf 0 1 1,.yl 1,.yf 2 1 2,.yl 3,.y 4 (.len .A),.y 5 (.bin .geq .D .A),.pick .G (.c (.bool true)) .A] [] [] 31 0 (.k 2 4 [1]
 .ret))
 (.seq (.j [.f 1 3,.l,.n,.f 1 2,.l,.n,.N .D .A] [] [] 38 0 (.k 1 4 [1]
 .ret))
 (.seq (.k 0 2 []
 (.o 0 UF))
 (.k 0 4 [1,2]
 .ret))))))))}
abbrev y5:Fn:={np:=1,nv:=5,res:=[(4,none)],body:=
(.s [.cz (.v 0),.b] [(1,1)] [0,4]
 (.s [.bH (.v 1) (some 4),.C se [.A],.t 0,.e .A 0,.e .B 1,.p (.eC 4),.gv .A .C 4,.t 2] [(3,1),(2,0)] []
 (.s [.v 2,.E .A (.i 0),.t 0,.xf 0 3 2,.xl 1,.x 2 (.len .A),.xf 3 1 2,.xl 4,.x 5 (.len .A),.x 6 (.bin .eql .D .A),.pick .H .A (.c (.bool false)),.t 0] [(4,0)] [1,2,3]
 .ret)))}
abbrev UG:IC:=(.Z 7 8 31 2 3 [] (.m 7 11 []
 (.s [.v 9,.bH (.v 1) (some 4),.v 10,.v 11,.v 12,.C yq [.D,.C,.B,.A],.bB .F .A (some 5),.t 0] [(9,0)] [11]
 (.j [.v 9,.n,.G .A (.i 10000)] [] [] 42 0 (.s [.mv (.c (.ag)),.k 11] [(13,1),(14,0)] [1,4,5,6,7,8,9,10,12]
 .ret)))))
abbrev UH:IC:=(.Z 4 5 25 0 1 [7,8,10] (.z 6 4 1 10 []
 (.s [.f 1 0,.l,.k 0] [(8,1),(7,0)] []
 (.o 2 UG))))
abbrev y6:Fn:={np:=1,nv:=15,res:=[(13,none),(14,none)],body:=
(.s [.cz (.v 0),.mv (.c (.ag)),.k 0] [(1,2)] [0,13,14]
 (.seq (.s [.bH (.v 1) (some 4),.C ia [.A],.t 0] [(2,0)] []
 (.j [.v 2,.N .A (.i 0)] [] [] 14 0 (.s [.v 2,.mv (.c (.ag)),.t 1] [(13,1),(14,0)] [1,2]
 .ret)))
 (.s [.bH (.v 1) (some 4),.p (.can nA [.A]),.t 0] [(3,0)] [2]
 (.s [.v 3,.lF qi [.A]] [] []
 (.s [.bH (.v 1) (some 4),.C yp [.A],.t 0] [(12,0)] []
 (.s [.nl (some 5)] [(9,0)] []
 (.seq (.s [.v 3,.n,.k 0] [(6,2),(5,1),(4,0)] [3]
 (.o 0 UH))
 (.s [.v 9,.t 0,.k 0] [(13,1),(14,0)] [1,4,5,6,9,12]
 .ret))))))))}
abbrev y7:Fn:={np:=2,nv:=7,res:=[(4,some (some 4)),(6,none)],body:=
(.s [.cz (.v 0),.cz (.v 1),.j8 [.int 0,.int 0,.ag,.ag] (some 4),.k 0] [(2,3),(5,2),(4,1)] [0,1,6]
 (.seq (.s [.bH (.v 2) (some 4),.C ia [.A],.t 0] [(3,0)] []
 (.j [.v 3,.N .A (.i 0)] [] [] 10 0 (.s [.e9 [.int 0,.int 0,.ag,.ag] [],.v 3,.st (.v 4) .B 4,.t 1] [(6,0)] [2,3,5]
 .ret)))
 (.seq (.j [.bH (.v 2) (some 4),.bH (.v 5) (some 5),.C Gk [.B,.A],.not .A] [] [3] 16 0 (.s [.e9 [.int 0,.int 0,.ag,.ag] [],.st (.v 4) .A 4,.k 1] [(6,0)] [2,5]
 .ret))
 (.seq (.j [.f 5 0,.l,.E .A (.i 3),.t 0,.xf 0 2 2,.xl 1,.x 2 (.len .A),.x 3 (.bin .geq .A (.i 128)),.pick .E .A (.c (.bool false))] [] [] 26 0 (.s [.e9 [.int 0,.int 0,.ag,.ag] [],.st (.v 4) .A 4,.k 11] [(6,0)] [2,5]
 .ret))
 (.s [.bH (.v 2) (some 4),.bH (.v 5) (some 5),.C uz [.B,.A],.st (.v 4) .A 4,.k 0] [(6,0)] [2,5]
 .ret)))))}
abbrev UI:IC:=(.seq (.w [.v 2,.v 0,.n,.L .C .A] [] [] 14 0)
 (.seq (.block 1 (.j [.v 0,.v 2,.bW .B .A 5,.ld .A (some 5),.v 1,.v 2,.bW .B .A 5,.ld .A (some 5),.p (.seq true 5 .E .A)] [] [] 25 0 (.s [.b] [(3,0)] [0,1,2]
 .ret)))
 (.U 2 [])))
abbrev y8:Fn:={np:=2,nv:=4,res:=[(3,none)],body:=
(.s [.b] [] [3]
 (.seq (.j [.v 0,.n,.v 1,.n,.N .C .A] [] [] 10 0 (.s [.b] [(3,0)] [0,1]
 .ret))
 (.seq (.k 0 2 []
 (.o 0 UI))
 (.s [.mv (.c (.bool true))] [(3,0)] [0,1,2]
 .ret))))}
abbrev y9:Fn:={np:=2,nv:=5,res:=[(4,none)],body:=
(.s [.cz (.v 0),.cz (.v 1),.b] [(2,2),(3,1)] [0,1,4]
 (.s [.f 2 0,.l,.f 3 0,.l,.E .C .A,.t 0,.xf 0 2 1,.xl 1,.xf 2 3 1,.xl 3,.x 4 (.bin .eql .C .A),.pick .F .A (.c (.bool false)),.t 0,.xf 0 2 2,.xl 1,.xf 2 3 2,.xl 3,.x 4 (.kG yr [.C,.A]),.pick .F .A (.c (.bool false)),.t 0,.xf 0 2 3,.xl 1,.xf 2 3 3,.xl 3,.x 4 (.kG yr [.C,.A]),.pick .F .A (.c (.bool false)),.t 0] [(4,0)] [2,3]
 .ret))}
abbrev UJ:IC:=(.Z 6 7 69 3 4 [] (.m 6 8 []
 (.s [.f 1 2,.l,.v 5,.i,.l,.v 8,.i,.l,.f 1 3,.l,.v 5,.i,.l,.v 8,.i,.l,.t 8,.t 1] [(9,1),(10,0)] [8]
 (.j [.v 9,.L .A (.i 0),.t 0,.yv 0 9,.yv 1 2,.y 2 (.bin .geq .B .A),.pick .D (.c (.bool true)) .A,.t 0,.yv 0 10,.y 1 (.bin .lss .A (.i 0)),.pick .C (.c (.bool true)) .A,.t 0,.yv 0 10,.y 1 (.bin .gtr .A (.i 1048576)),.pick .C (.c (.bool true)) .A] [] [9,10] 101 0 (.k 2 11 [1,2,3,4,5,6,7]
 .ret)))))
abbrev UK:IC:=(.Z 3 4 44 1 2 [5,6,7] (.m 3 5 []
 (.seq (.j [.f 1 2,.l,.v 5,.i,.l,.n,.f 1 0,.l,.N .C .A,.t 0,.yf 0 1 3,.yl 1,.yv 2 5,.y 3 (.bW .B .A 1),.yl 4,.y 5 (.len .A),.yf 6 1 0,.yl 7,.y 8 (.bin .neq .C .A),.pick .J (.c (.bool true)) .A] [] [] 65 0 (.k 1 11 [1,2,3,4,5]
 .ret))
 (.s [.f 1 0,.l,.k 0] [(7,1),(6,0)] []
 (.o 3 UJ)))))
abbrev za:Fn:={np:=1,nv:=12,res:=[(11,none)],body:=
(.s [.cz (.v 0),.k 0] [(1,1)] [0,11]
 (.s [.f 1 2,.l,.n,.t 0] [(2,0)] []
 (.seq (.block 0 (.i [.f 1 0,.l,.L .A (.i 1),.t 0,.yf 0 1 0,.yl 1,.y 2 (.bin .gtr .A (.i 64)),.pick .D (.c (.bool true)) .A,.t 0] [] [] 11 0 (.k 2 11 [1,2]
 .ret) (.i [.v 2,.E .A (.i 0),.t 0] [] [] 20 0 (.k 19 11 [1,2]
 .ret) (.i [.v 2,.G .A (.i 128),.t 0] [] [] 23 0 (.k 11 11 [1,2]
 .ret) (.i [.f 1 1,.l,.L .A (.i 0),.t 0,.yf 0 1 1,.yl 1,.yv 2 2,.y 3 (.bin .geq .B .A),.pick .E (.c (.bool true)) .A,.t 0] [] [] 26 0 (.k 2 11 [1,2]
 .ret) (.j [.f 1 3,.l,.n,.v 2,.N .B .A,.t 0] [] [] 36 0 (.k 1 11 [1,2]
 .ret)))))))
 (.seq (.s [.v 2,.k 0] [(4,1),(3,0)] []
 (.o 1 UK))
 (.k 0 11 [1,2,3,4]
 .ret)))))}
abbrev UL:IC:=(.Z 12 13 53 2 3 [] (.z 14 12 1 16 []
 (.g [.v 15,.v 5,.v 16,.i,.d,.bY [.A] 1,.bB .F .A none,.t 0] [(15,0)] [16])))
abbrev UM:IC:=(.Z 6 7 37 0 1 [11] (.s [.v 6,.bW (.v 8) (.v 6) 1,.d,.t 2,.t 1] [(11,1),(9,0)] []
 (.seq (.j [.v 9,.f 10 2,.d,.n,.L .D .A] [] [9] 45 0 (.exit 1))
 (.s [.nl none] [(15,0)] []
 (.seq (.s [.f 4 2,.l,.v 11,.i,.l,.n,.k 0] [(14,2),(13,1),(12,0)] []
 (.o 2 UL))
 (.s [.f 10 2,.d,.v 15,.bY [.A] 1,.bB .C .A none,.f 10 2,.st .A .B 1] [] [12,13,14,15]
 (.g [.f 10 3,.d,.bY [] 1,.f 4 3,.l,.v 11,.i,.l,.app .F .A none,.bY [.A] 1,.app .I .A none,.f 10 3,.st .A .B 1] [] [11])))))))
abbrev zb:Fn:={np:=1,nv:=18,res:=[(3,some (some 4)),(17,none)],body:=
(.s [.cz (.v 0),.j8 [.int 0,.int 0,.ag,.ag] (some 4),.k 0] [(1,2),(3,1)] [0,17]
 (.s [.bH (.v 1) (some 4),.C yt [.A],.t 0,.e .A 0,.e .B 1,.p (.eC 4),.gv .A .C 4,.t 2] [(4,1),(2,0)] [1]
 (.seq (.j [.v 2,.N .A (.i 0)] [] [] 19 0 (.s [.e9 [.int 0,.int 0,.ag,.ag] [],.v 2,.st (.v 3) .B 4,.t 1] [(17,0)] [2,4]
 .ret))
 (.s [.bH (.v 4) (some 4),.C yu [.A],.t 0,.e .A 0,.e .B 1,.t 1,.t 1] [(5,1),(2,0)] []
 (.seq (.j [.v 2,.N .A (.i 0)] [] [] 28 0 (.s [.e9 [.int 0,.int 0,.ag,.ag] [],.v 2,.st (.v 3) .B 4,.t 1] [(17,0)] [2,4,5]
 .ret))
 (.s [.f 4 0,.l,.e9 [.int 0,.int 0,.ag,.ag] [(0,1,.A)],.j8 [.int 0,.int 0,.ag,.ag] (some 4),.st .A .B 4] [(10,1)] [2]
 (.seq (.s [.v 5,.n,.k 0] [(8,2),(7,1),(6,0)] []
 (.o 0 UM))
 (.s [.ld (.v 10) (some 4),.st (.v 3) .A 4,.k 0] [(17,0)] [4,5,6,7,8,10]
 .ret))))))))}
abbrev zd:Fn:={np:=1,nv:=6,res:=[(4,none),(5,none)],body:=
(.s [.cz (.v 0),.mv (.c (.ag)),.k 0] [(1,2)] [0,4,5]
 (.s [.bH (.v 1) (some 4),.C yw [.A],.t 0,.e .A 0,.e .B 1,.e .C 2,.t 2,.t 2,.t 2] [(2,1),(3,0)] [1]
 (.s [.v 2,.v 3,.t 1,.t 1] [(4,1),(5,0)] [2,3]
 .ret)))}
abbrev UN:IC:=(.seq (.w [.v 2,.t 0,.xv 0 3,.x 1 (.len .A),.xv 2 1,.x 3 (.bin .leq .B .A),.pick .E .A (.c (.bool false))] [] [2] 26 0)
 (.seq (.block 1 (.seq (.j [.v 4,.n,.E .A (.i 10000)] [] [] 35 0 (.s [.mv (.c (.ag)),.k 11] [(5,1),(6,0)] [0,1,3,4]
 .ret))
 (.g [.v 4,.v 3,.bY [.A] 1,.bB .C .A none,.t 0] [(4,0)] [])))
 (.g [.v 3,.v 0,.C Gl [.B,.A],.t 0,.e .A 0,.e .B 1,.t 1,.t 1] [(3,1),(2,0)] [])))
abbrev ze:Fn:={np:=2,nv:=7,res:=[(5,none),(6,none)],body:=
(.s [.mv (.c (.ag)),.k 0] [] [5,6]
 (.seq (.j [.v 0,.C qh [(.c (.ag)),.A],.N .A (.i 0),.t 0,.yv 0 1,.y 1 (.bin .lss .A (.i 0)),.pick .C (.c (.bool true)) .A,.t 0,.yv 0 1,.y 1 (.bin .gtr .A (.i 1024)),.pick .C (.c (.bool true)) .A] [] [] 19 0 (.s [.mv (.c (.ag)),.k 2] [(5,1),(6,0)] [0,1]
 .ret))
 (.s [.nl none] [(4,0)] []
 (.seq (.s [.mv (.c (.ag)),.mv (.c (.bool true))] [(3,1),(2,0)] []
 (.o 0 UN))
 (.s [.v 4,.t 0,.k 0] [(5,1),(6,0)] [0,1,3,4]
 .ret)))))}
abbrev UO:IC:=(.seq (.i [.v 6,.f 1 2,.l,.n,.L .D .A] [] [] 28 0 .skip (.exit 2))
 (.seq (.block 3 (.seq (.j [.bH (.v 1) (some 4),.v 7,.v 5,.v 6,.p (.nY sf [.D,.C,.B,.A])] [] [] 35 0 (.exit 3))
 (.s [.bH (.v 1) (some 4),.v 5,.v 6,.C uA [.C,.B,.A],.t 0,.e .A 0,.e .B 1,.e .C 2,.t 2,.t 2,.t 2] [(9,2),(8,0)] []
 (.seq (.j [.v 8,.N .A (.i 0)] [] [] 45 0 (.s [.v 8,.mv (.c (.ag)),.t 1] [(10,1),(11,0)] [1,3,4,5,6,7,8,9]
 .ret))
 (.g [.v 7,.v 9,.bY [.A] 1,.bB .C .A none,.t 0] [(7,0)] [8,9])))))
 (.U 6 [])))
abbrev UP:IC:=(.Z 3 4 20 0 1 [5,6] (.m 3 5 []
 (.s [.v 5,.A .A (.i 1),.t 0] [(6,0)] []
 (.o 2 UO))))
abbrev zf:Fn:={np:=1,nv:=12,res:=[(10,none),(11,none)],body:=
(.s [.cz (.v 0),.mv (.c (.ag)),.k 0] [(1,2)] [0,10,11]
 (.seq (.s [.bH (.v 1) (some 4),.C yx [.A],.t 0] [(2,0)] []
 (.j [.v 2,.N .A (.i 0)] [] [] 14 0 (.s [.v 2,.mv (.c (.ag)),.t 1] [(10,1),(11,0)] [1,2]
 .ret)))
 (.s [.nl none] [(7,0)] [2]
 (.seq (.s [.f 1 2,.l,.n,.k 0] [(4,1),(3,0)] []
 (.seq (.o 0 UP) (.mW 7)))
 (.s [.v 7,.C uC [.A],.t 0,.k 0] [(10,1),(11,0)] [1,3,4,7]
 .ret)))))}
abbrev zg:Fn:={np:=3,nv:=7,res:=[(6,none)],body:=
(.s [.cz (.v 0),.cz (.v 1),.cz (.v 2),.mv (.c (.gu))] [(3,3),(4,2),(5,1)] [0,1,2,6]
 (.s [.p (.tS oG [(.v 3),(.v 4),(.v 5)]),.t 0] [(6,0)] [3,4,5]
 .ret))}
abbrev UQ:IC:=(.Z 2 3 12 0 1 [6] (.s [.v 2,.bW (.v 4) (.v 2) 1,.d,.t 2,.t 1] [(5,1),(6,0)] []
 (.j [.v 5,.A .A (.i 1),.v 1,.n,.E .C .A,.t 0,.yv 0 1,.yv 1 5,.y 2 (.bin .add .A (.i 1)),.y 3 (.bW .C .A 1),.y 4 (.ld .A none),.yv 5 6,.y 6 (.kG yy [.B,.A]),.y 7 (.not .A),.pick .I (.c (.bool true)) .A] [] [5] 30 0 (.g [.v 7,.v 6,.bY [.A] 1,.bB .C .A none,.t 0] [(7,0)] [6]))))
abbrev zh:Fn:={np:=1,nv:=9,res:=[(8,none)],body:=
(.s [.mv (.c (.ag))] [] [8]
 (.s [.v 0,.p (.kG sg [.A,(.c (.func si []))]),.t 0] [(1,0)] [0]
 (.s [.nl none] [(7,0)] []
 (.seq (.s [.v 1,.n,.k 0] [(4,2),(3,1),(2,0)] []
 (.seq (.o 0 UQ) (.mW 7)))
 (.s [.v 7,.C uC [.A],.t 0] [(8,0)] [1,2,3,4,7]
 .ret)))))}
abbrev zi:Fn:={np:=2,nv:=4,res:=[(3,none)],body:=
(.s [.cz (.v 1),.k 0] [(2,1)] [1,3]
 (.seq (.block 0 (.i [.bH (.v 2) none,.C yz [.A],.not .A,.t 0] [] [] 5 0 (.k 2 3 [0,2]
 .ret) (.i [.v 0,.n,.G .A (.i 1024),.t 0] [] [] 9 0 (.k 3 3 [0,2]
 .ret) (.j [.v 0,.p (.tS sj [(.v 2)]),.C uD [.B,.A],.t 0] [] [0,2] 13 0 (.k 1 3 []
 .ret)))))
 (.k 0 3 []
 .ret)))}
abbrev zj:Fn:={np:=2,nv:=9,res:=[(8,some (some 4))],body:=
(.s [.cz (.v 0),.cz (.v 1),.j8 [.int 0,.int 0,.ag,.ag] (some 4)] [(2,2),(3,1),(8,0)] [0,1]
 (.s [.bH (.v 2) (some 4),.p (.can sk [.A]),.j8 [.int 0,.int 0,.ag,.ag] (some 4),.st .A .B 4] [(5,1)] []
 (.seq (.s [.f 3 0,.l] [(4,0)] []
 (.block 0 (.i [.E (.v 4) (.i 1),.t 0] [] [] 12 0 (.g [.f 5 3,.d,.f 3 1,.l,.bW .C .A 1,.d,.f 3 2,.l,.f 3 3,.l,.bW .E .C 1,.st .A .B 1] [] [2,3,4]) (.i [.E (.v 4) (.i 2),.t 0] [] [] 25 0 (.g [.f 5 2,.d,.f 3 1,.l,.bW .C .A 1,.d,.f 3 2,.l,.f 3 3,.l,.bW .E .C 1,.st .A .B 1] [] [2,3,4]) (.j [.E (.v 4) (.i 3),.t 0] [] [4] 38 0 (.s [.f 2 2,.l,.f 3 1,.l,.bW .C .A 1,.l,.f 3 2,.l,.bW .C .A 1,.l,.t 0] [(6,0)] []
 (.s [.f 2 3,.l,.v 6,.i,.l,.p (.can iS [.A]),.t 0] [(7,0)] []
 (.s [.v 7,.f 3 4,.l,.f 3 3,.l,.bW .E .C 1,.st .A .B 1] [] []
 (.s [.f 5 2,.d,.f 2 2,.l,.v 6,.i,.l,.p (.can iS [.A]),.bY [.A] 1,.app .H .A none,.f 5 2,.st .A .B 1] [] [6]
 (.s [.f 5 3,.d,.v 7,.bY [.A] 1,.bB .C .A none,.f 5 3,.st .A .B 1] [] [7]
 (.g [.f 5 2,.d,.f 3 1,.l,.bW .C .A 1,.d,.f 3 2,.l,.f 2 2,.l,.n,.bW .F .D 1,.st .A .B 1] [] [2,3])))))))))))
 (.s [.ld (.v 5) (some 4),.st (.v 8) .A 4] [] [2,3,5]
 .ret))))}
abbrev UR:IC:=(.Z 3 4 16 0 1 [] (.z 5 3 1 7 []
 (.s [.bH (.v 6) (some 4),.v 7,.C uE [.B,.A],.t 0,.e .A 0,.e .B 1,.t 1,.t 1] [(9,1)] []
 (.s [.bH (.v 8) (some 4),.v 7,.C uE [.B,.A],.t 0,.e .A 0,.e .B 1,.t 1,.t 1] [(10,1)] [7]
 (.j [.v 9,.v 10,.C uF [.B,.A],.not .A] [] [9,10] 34 0 (.s [.b] [(11,0)] [3,4,5,6,8]
 .ret))))))
abbrev zk:Fn:={np:=3,nv:=12,res:=[(11,none)],body:=
(.s [.cz (.v 0),.cz (.v 1),.b] [(6,2),(8,1)] [0,1,11]
 (.seq (.s [.v 2,.n,.k 0] [(5,2),(4,1),(3,0)] [2]
 (.o 0 UR))
 (.s [.mv (.c (.bool true))] [(11,0)] [3,4,5,6,8]
 .ret)))}
abbrev zl:Fn:={np:=2,nv:=8,res:=[(6,none),(7,none)],body:=
(.s [.cz (.v 0),.cz (.v 1),.b,.k 0] [(2,3),(3,2)] [0,1,6,7]
 (.s [.bH (.v 2) (some 4),.bH (.v 3) (some 4),.C yA [.B,.A],.t 0,.e .A 0,.e .B 1,.e .C 2,.t 2,.t 2,.t 2] [(5,1),(4,0)] [2,3]
 (.s [.v 4,.E .A (.i 0),.t 0,.xv 0 5,.x 1 (.not .A),.pick .C .A (.c (.bool false)),.v 4,.t 1,.t 1] [(6,1),(7,0)] [4,5]
 .ret)))}
abbrev US:IC:=(.seq (.w [.v 3,.f 2 0,.l,.L .C .A] [] [] 29 0)
 (.seq (.block 1 (.j [.f 2 2,.l,.v 1,.i,.l,.v 3,.i,.l,.L .A (.i 0),.t 0,.yf 0 2 2,.yl 1,.yv 2 1,.y 3 (.bW .B .A 1),.yl 4,.yv 5 3,.y 6 (.bW .B .A 1),.yl 7,.yf 8 2 2,.yl 9,.y 10 (.len .A),.y 11 (.bin .geq .D .A),.pick (.t 12) (.c (.bool true)) .A,.t 0,.yf 0 2 3,.yl 1,.yv 2 1,.y 3 (.bW .B .A 1),.yl 4,.yv 5 3,.y 6 (.bW .B .A 1),.yl 7,.y 8 (.bin .lss .A (.i 0)),.pick .J (.c (.bool true)) .A,.t 0,.yf 0 2 3,.yl 1,.yv 2 1,.y 3 (.bW .B .A 1),.yl 4,.yv 5 3,.y 6 (.bW .B .A 1),.yl 7,.y 8 (.bin .gtr .A (.i 1048576)),.pick .J (.c (.bool true)) .A] [] [] 76 0 (.k 2 4 [1,2,3]
 .ret)))
 (.U 3 [])))
abbrev zm:Fn:={np:=2,nv:=5,res:=[(4,none)],body:=
(.s [.cz (.v 0),.k 0] [(2,1)] [0,4]
 (.seq (.j [.f 2 2,.l,.v 1,.i,.l,.n,.f 2 0,.l,.N .C .A,.t 0,.yf 0 2 3,.yl 1,.yv 2 1,.y 3 (.bW .B .A 1),.yl 4,.y 5 (.len .A),.yf 6 2 0,.yl 7,.y 8 (.bin .neq .C .A),.pick .J (.c (.bool true)) .A] [] [] 25 0 (.k 1 4 [1,2]
 .ret))
 (.seq (.k 0 3 []
 (.o 0 US))
 (.k 0 4 [1,2,3]
 .ret))))}
abbrev UT:IC:=(.seq (.w [.v 4,.v 5,.n,.L .C .A] [] [] 34 0)
 (.seq (.block 1 (.g [.v 5,.v 4,.i,.st .A (.i (-1)) 1] [] []))
 (.U 4 [])))
abbrev UU:IC:=(.seq (.i [.v 9,.f 1 0,.l,.L .C .A] [] [] 59 0 .skip (.exit 4))
 (.seq (.block 5 (.s [.f 1 2,.l,.v 8,.v 7,.i,.d,.bW .E .A 1,.l,.v 9,.i,.l,.t 0] [(10,0)] []
 (.seq (.j [.v 5,.v 6,.v 10,.i,.d,.bW .E .A 1,.d,.L .A (.i 0)] [] [] 80 0 (.s [.v 5,.v 6,.v 10,.i,.d,.v 8,.n,.bW .G .C 1,.st .A .B 1] [] []
 (.g [.v 8,.v 10,.bY [.A] 1,.bB .C .A none,.t 0] [(8,0)] [])))
 (.s [.v 11,.v 5,.v 6,.v 10,.i,.d,.bW .E .A 1,.d,.bY [.A] 1,.bB .I .A none,.t 0] [(11,0)] [10]
 (.g [.v 12,.f 1 3,.l,.v 8,.v 7,.i,.d,.bW .E .A 1,.l,.v 9,.i,.l,.bY [.A] 1,.app (.t 12) .A none,.t 0] [(12,0)] [])))))
 (.U 9 [])))
abbrev UW:IC:=(.seq (.i [.v 7,.v 8,.n,.L .C .A] [] [] 53 0 .skip (.exit 2))
 (.seq (.block 3 (.s [.nl none,.nl none] [(11,1),(12,0)] []
 (.seq (.k 0 9 []
 (.o 4 UU))
 (.s [.f 13 2,.d,.v 11,.bY [.A] 1,.bB .C .A none,.f 13 2,.st .A .B 1] [] [9,11]
 (.g [.f 13 3,.d,.v 12,.bY [.A] 1,.bB .C .A none,.f 13 3,.st .A .B 1] [] [12])))))
 (.U 7 [])))
abbrev zn:Fn:={np:=1,nv:=15,res:=[(3,some (some 4)),(14,none)],body:=
(.s [.cz (.v 0),.j8 [.int 0,.int 0,.ag,.ag] (some 4),.k 0] [(1,2),(3,1)] [0,14]
 (.s [.bH (.v 1) (some 4),.C yB [.A],.t 0,.e .A 0,.e .B 1,.t 1,.t 1] [(6,1),(2,0)] []
 (.seq (.j [.v 2,.N .A (.i 0)] [] [] 21 0 (.s [.e9 [.int 0,.int 0,.ag,.ag] [],.v 2,.st (.v 3) .B 4,.t 1] [(14,0)] [1,2,6]
 .ret))
 (.s [.f 1 1,.l,.p (.je [.A] none),.t 0] [(8,0)] [2]
 (.s [.f 1 2,.l,.n,.kf .A .A [.int 0] none,.t 0] [(5,0)] []
 (.seq (.k 0 4 []
 (.o 0 UT))
 (.s [.v 5,.v 6,.f 1 1,.l,.bW .C .A 1,.d,.bW .F .A 1,.st .A (.i 0) 1] [] [4]
 (.s [.f 1 0,.l,.e9 [.int 0,.int 0,.ag,.ag] [(0,1,.A)],.j8 [.int 0,.int 0,.ag,.ag] (some 4),.st .A .B 4] [(13,1)] []
 (.seq (.k 0 7 []
 (.o 2 UW))
 (.s [.ld (.v 13) (some 4),.st (.v 3) .A 4,.k 0] [(14,0)] [1,5,6,7,8,13]
 .ret))))))))))}
abbrev UX:IC:=(.Z 5 6 38 2 3 [8] (.z 7 5 1 8 []
 (.j [.v 2,.v 8,.i,.d,.not .A] [] [] 45 0 (.s [.v 2,.v 8,.i,.st .A (.c (.bool true)) 1] [] []
 (.g [.v 4,.v 8,.bY [.A] 1,.bB .C .A none,.t 0] [(4,0)] [8])))))
abbrev UY:IC:=(.seq (.w [.v 3,.v 4,.n,.L .C .A] [] [] 25 0)
 (.seq (.block 1 (.s [.f 1 2,.l,.v 4,.v 3,.i,.d,.bW .E .A 1,.l,.n,.k 0] [(7,2),(6,1),(5,0)] []
 (.o 2 UX)))
 (.U 3 [5,6,7])))
abbrev zo:Fn:={np:=1,nv:=10,res:=[(9,none)],body:=
(.s [.cz (.v 0),.mv (.c (.ag))] [(1,1)] [0,9]
 (.seq (.j [.bH (.v 1) (some 4),.C ia [.A],.N .A (.i 0)] [] [] 10 0 (.s [.mv (.c (.ag))] [(9,0)] [1]
 .ret))
 (.s [.f 1 2,.l,.n,.kf .A .A [.bool false] none,.t 0] [(2,0)] []
 (.s [.v 2,.f 1 1,.l,.bW .C .A 1,.st .A (.c (.bool true)) 1] [] []
 (.s [.f 1 1,.l,.p (.je [.A] none),.t 0] [(4,0)] []
 (.seq (.k 0 3 []
 (.o 0 UY))
 (.m 4 9 [1,2,3,4]
 .ret)))))))}
abbrev UZ:IC:=(.Z 2 3 13 0 1 [] (.z 4 2 1 6 []
 (.g [.v 5,.v 6,.bB .B .A none,.t 0] [(5,0)] [6])))
abbrev zp:Fn:={np:=1,nv:=8,res:=[(7,none)],body:=
(.s [.cz (.v 0),.mv (.c (.ag))] [(1,1)] [0,7]
 (.seq (.j [.bH (.v 1) (some 4),.C ia [.A],.N .A (.i 0)] [] [] 8 0 (.s [.mv (.c (.ag))] [(7,0)] [1]
 .ret))
 (.s [.nl none] [(5,0)] []
 (.seq (.s [.f 1 3,.l,.n,.k 0] [(4,2),(3,1),(2,0)] [1]
 (.o 0 UZ))
 (.s [.v 5,.lF qi [.A]] [] [2,3,4]
 (.s [.v 5,.lF yC [.A],.t 0] [(7,0)] [5]
 .ret))))))}
abbrev U0:IC:=(.Z 5 6 28 0 1 [8] (.z 7 5 1 8 []
 (.j [.v 8,.f 4 3,.l,.v 1,.i,.l,.v 2,.i,.l,.N .I .A] [] [] 40 0 (.g [.v 9,.v 1,.v 2,.v 8,.e9 [.int 0,.int 0,.int 0,.int 0,.int 0] [(0,1,(.i 1)),(1,1,.C),(2,1,.B),(3,1,.A)],.bY [.A] 5,.bB .F .A (some 5),.t 0] [(9,0)] [8]))))
abbrev U1:IC:=(.Z 10 11 53 2 3 [12] (.m 10 12 []
 (.j [.v 12,.v 13,.N .B .A] [] [] 57 0 (.g [.v 9,.v 1,.v 2,.v 12,.e9 [.int 0,.int 0,.int 0,.int 0,.int 0] [(0,1,(.i 2)),(1,1,.C),(2,1,.B),(3,1,.A)],.bY [.A] 5,.bB .F .A (some 5),.t 0] [(9,0)] [12]))))
abbrev U2:IC:=(.Z 16 17 79 6 7 [19] (.z 18 16 1 19 []
 (.j [.v 19,.f 4 3,.l,.v 13,.i,.l,.v 20,.i,.l,.N .I .A] [] [] 91 0 (.g [.v 9,.v 1,.v 2,.v 19,.v 20,.e9 [.int 0,.int 0,.int 0,.int 0,.int 0] [(0,1,(.i 3)),(1,1,.D),(2,1,.C),(3,1,.B),(4,1,.A)],.bY [.A] 5,.bB .G .A (some 5),.t 0] [(9,0)] [19]))))
abbrev U3:IC:=(.Z 14 15 74 4 5 [16,17,18,20] (.m 14 20 []
 (.s [.v 3,.n,.k 0] [(18,2),(17,1),(16,0)] []
 (.o 6 U2))))
abbrev zq:Fn:={np:=4,nv:=22,res:=[(21,none)],body:=
(.s [.cz (.v 0),.mv (.c (.ag))] [(4,1)] [0,21]
 (.s [.nl (some 5)] [(9,0)] []
 (.s [.f 4 2,.l,.v 1,.i,.l,.v 2,.i,.l,.t 0] [(13,0)] []
 (.seq (.s [.v 3,.n,.k 0] [(7,2),(6,1),(5,0)] []
 (.o 0 U0))
 (.seq (.s [.f 4 2,.l,.n,.k 0] [(11,1),(10,0)] [5,6,7]
 (.o 2 U1))
 (.seq (.j [.f 4 2,.l,.n,.bin .geq .A (.i 128)] [] [10,11] 69 0 (.m 9 21 [1,2,3,4,9,13]
 .ret))
 (.seq (.s [.f 4 0,.l,.k 0] [(15,1),(14,0)] []
 (.o 4 U3))
 (.m 9 21 [1,2,3,4,9,13,14,15]
 .ret))))))))}
abbrev zr:Fn:={np:=2,nv:=6,res:=[(5,none)],body:=
(.s [.cz (.v 0),.p (.ti (.v 1) (some 5)),.b] [(3,2),(2,1)] [0,1,5]
 (.seq (.j [.f 2 1,.d,.L .A (.i 0),.t 0,.yf 0 2 1,.y 1 (.ld .A none),.yf 2 3 2,.yl 3,.y 4 (.len .A),.y 5 (.bin .geq .D .A),.pick .G (.c (.bool true)) .A,.t 0,.yf 0 2 2,.y 1 (.ld .A none),.y 2 (.bin .lss .A (.i 0)),.pick .D (.c (.bool true)) .A,.t 0,.yf 0 2 2,.y 1 (.ld .A none),.yf 2 3 0,.yl 3,.y 4 (.bin .geq .C .A),.pick .F (.c (.bool true)) .A] [] [] 27 0 (.s [.b] [(5,0)] [2,3]
 .ret))
 (.seq (.s [.f 2 0,.d] [(4,0)] []
 (.block 0 (.seq (.block 3 (.seq (.block 2 (.seq (.block 1 (.seq (.seq (.j [.E (.v 4) (.i 2),.t 0] [] [] 30 0 (.exit 1))
 (.seq (.j [.E (.v 4) (.i 3),.t 0] [] [] 32 0 (.exit 2))
 (.j [.E (.v 4) (.i 1),.t 0] [] [3,4] 34 0 (.exit 3))))
 (.exit 0)))
 (.seq (.s [.f 2 3,.d,.bin .geq .A (.i 0),.t 0,.xf 0 2 3,.x 1 (.ld .A none),.xf 2 3 2,.xl 3,.x 4 (.len .A),.x 5 (.bin .lss .D .A),.pick .G .A (.c (.bool false)),.t 0,.xf 0 2 4,.x 1 (.ld .A none),.x 2 (.bin .eql .A (.i 0)),.pick .D .A (.c (.bool false)),.t 0] [(5,0)] [2,3,4]
 .ret)
 (.exit 0))))
 (.seq (.j [.f 2 4,.d,.L .A (.i 0),.t 0,.yf 0 2 4,.y 1 (.ld .A none),.yf 2 3 0,.yl 3,.y 4 (.bin .geq .C .A),.pick .F (.c (.bool true)) .A] [] [3,4] 61 0 (.s [.b] [(5,0)] [2]
 .ret))
 (.g [.f 2 4,.st .A (.i 0) 1] [] []))))
 (.seq (.s [.f 2 3,.d,.bin .geq .A (.i 0),.t 0,.xf 0 2 3,.x 1 (.ld .A none),.x 2 (.bin .leq .A (.i 1048576)),.pick .D .A (.c (.bool false)),.t 0,.xf 0 2 4,.x 1 (.ld .A none),.x 2 (.bin .eql .A (.i 0)),.pick .D .A (.c (.bool false)),.t 0] [(5,0)] [2]
 .ret)
 (.exit 0)))))
 (.s [.b] [(5,0)] [2]
 .ret))))}
abbrev U4:IC:=(.seq (.w [.v 2,.v 0,.n,.L .C .A] [] [] 14 0)
 (.seq (.block 1 (.j [.v 0,.v 2,.i,.d,.v 1,.v 2,.i,.d,.C Gm [.E,.A],.not .A] [] [] 26 0 (.s [.b] [(3,0)] [0,1,2]
 .ret)))
 (.U 2 [])))
abbrev zt:Fn:={np:=2,nv:=4,res:=[(3,none)],body:=
(.s [.b] [] [3]
 (.seq (.j [.v 0,.n,.v 1,.n,.N .C .A] [] [] 10 0 (.s [.b] [(3,0)] [0,1]
 .ret))
 (.seq (.k 0 2 []
 (.o 0 U4))
 (.s [.mv (.c (.bool true))] [(3,0)] [0,1,2]
 .ret))))}
abbrev U5:IC:=(.Z 5 6 30 0 1 [] (.s [.v 5,.bW (.v 7) (.v 5) 1,.d,.t 2,.t 1] [(10,1),(9,0)] []
 (.g [.v 8,.v 9,.v 10,.bW .C .B 1,.st .A .B 1] [] [9,10])))
abbrev U6:IC:=(.Z 15 16 58 4 5 [] (.s [.v 15,.bW (.v 17) (.v 15) 1,.d,.t 2,.t 1] [(19,1),(20,0)] []
 (.g [.v 18,.v 19,.v 8,.v 20,.i,.d,.bW .F .E 1,.st .A .B 1] [] [19,20])))
abbrev U7:IC:=(.Z 11 12 45 2 3 [] (.z 13 11 1 14 []
 (.s [.f 1 0,.l,.kf .A .A [.int 0] none,.t 0] [(18,0)] []
 (.seq (.s [.f 1 2,.l,.v 14,.i,.l,.n,.k 0] [(17,2),(16,1),(15,0)] []
 (.o 4 U6))
 (.s [.f 21 2,.d,.v 18,.bY [.A] 1,.bB .C .A none,.f 21 2,.st .A .B 1] [] [15,16,17,18]
 (.g [.f 21 3,.d,.f 1 3,.l,.v 14,.i,.l,.C iS [.A],.bY [.A] 1,.app .H .A none,.f 21 3,.st .A .B 1] [] [14]))))))
abbrev zu:Fn:={np:=1,nv:=23,res:=[(3,some (some 4)),(22,none)],body:=
(.s [.cz (.v 0),.j8 [.int 0,.int 0,.ag,.ag] (some 4),.k 0] [(1,2),(3,1)] [0,22]
 (.seq (.s [.bH (.v 1) (some 4),.C ia [.A],.t 0] [(2,0)] []
 (.j [.v 2,.N .A (.i 0)] [] [] 18 0 (.s [.e9 [.int 0,.int 0,.ag,.ag] [],.v 2,.st (.v 3) .B 4,.t 1] [(22,0)] [1,2]
 .ret)))
 (.s [.bH (.v 1) (some 4),.C nA [.A],.t 0] [(4,0)] [2]
 (.s [.f 1 2,.l,.n,.kf .A .A [.int 0] none,.t 0] [(8,0)] []
 (.seq (.s [.v 4,.n,.k 0] [(7,2),(6,1),(5,0)] []
 (.o 0 U5))
 (.s [.f 1 0,.l,.e9 [.int 0,.int 0,.ag,.ag] [(0,1,.A)],.j8 [.int 0,.int 0,.ag,.ag] (some 4),.st .A .B 4] [(21,1)] [5,6,7]
 (.seq (.s [.v 4,.n,.k 0] [(13,2),(12,1),(11,0)] [4]
 (.o 2 U7))
 (.s [.ld (.v 21) (some 4),.st (.v 3) .A 4,.k 0] [(22,0)] [1,8,11,12,13,21]
 .ret))))))))}
abbrev zw:Fn:={np:=1,nv:=4,res:=[(2,none),(3,none)],body:=
(.s [.cz (.v 0),.mv (.c (.ag)),.k 0] [(1,2)] [0,2,3]
 (.s [.bH (.v 1) (some 4),.C yD [.A,(.i 128)],.e .A 0,.e .B 1,.t 1,.t 1] [(2,1),(3,0)] [1]
 .ret))}
abbrev U8:IC:=(.Z 3 4 21 0 1 [] (.s [.bW (.v 5) (.v 3) 2,.ld .A (some 2),.p (.eC 2),.gv .A .B 2] [(7,0)] []
 (.s [.v 6,.f 7 0,.l,.bY [.A] 1,.bB .D .A none,.t 0] [(6,0)] []
 (.g [.v 8,.f 7 1,.l,.bY [.A] 1,.bB .D .A none,.t 0] [(8,0)] [7]))))
abbrev zx:Fn:={np:=1,nv:=12,res:=[(9,none),(10,none),(11,none)],body:=
(.s [.cz (.v 0),.mv (.c (.ag)),.mv (.c (.ag)),.k 0] [(1,3)] [0,9,10,11]
 (.seq (.s [.bH (.v 1) (some 4),.C ia [.A],.t 0] [(2,0)] []
 (.j [.v 2,.N .A (.i 0)] [] [] 13 0 (.s [.v 2,.mv (.c (.ag)),.mv (.c (.ag)),.t 2] [(9,2),(10,1),(11,0)] [1,2]
 .ret)))
 (.s [.nl none] [(6,0)] [2]
 (.s [.nl none] [(8,0)] []
 (.seq (.s [.bH (.v 1) (some 4),.f 1 1,.l,.C yE [.C,.A],.n,.k 0] [(5,2),(4,1),(3,0)] [1]
 (.o 0 U8))
 (.s [.v 6,.v 8,.t 1,.t 1,.k 0] [(9,2),(10,1),(11,0)] [3,4,5,6,8]
 .ret))))))}
abbrev U9:IC:=(.seq (.w [.v 3,.bin .geq .A (.i 0)] [] [] 18 0)
 (.seq (.block 1 (.seq (.j [.v 2,.v 3,.i,.d,.A .A (.i 1),.v 1,.L .B .A] [] [] 27 0 (.s [.v 2,.v 3,.i,.d,.A .A (.i 1),.bW .E .D 1,.st .A .B 1] [] [1,3]
 (.s [.v 2,.t 0,.mv (.c (.bool true))] [(4,1),(5,0)] [2]
 .ret)))
 (.g [.v 2,.v 3,.i,.st .A (.i 0) 1] [] [])))
 (.g [.v 3,.S .A (.i 1),.t 0] [(3,0)] [])))
abbrev zy:Fn:={np:=2,nv:=6,res:=[(4,none),(5,none)],body:=
(.s [.mv (.c (.ag)),.b] [] [4,5]
 (.seq (.j [.v 0,.v 1,.C qh [.B,.A],.N .A (.i 0)] [] [] 11 0 (.s [.mv (.c (.ag)),.b] [(4,1),(5,0)] [0,1]
 .ret))
 (.s [.v 0,.p (.can iS [.A]),.t 0] [(2,0)] [0]
 (.seq (.s [.v 2,.n,.S .A (.i 1),.t 0] [(3,0)] []
 (.o 0 U9))
 (.seq (.j [.v 2,.n,.E .A (.i 1024)] [] [1,3] 40 0 (.s [.mv (.c (.ag)),.b] [(4,1),(5,0)] [2]
 .ret))
 (.s [.v 2,.bY [(.i 0)] 1,.bB .B .A none,.t 0,.mv (.c (.bool true))] [(4,1),(5,0)] [2]
 .ret))))))}
abbrev zz:Fn:={np:=1,nv:=4,res:=[(3,none)],body:=
(.s [.cz (.v 0),.k 0] [(1,1)] [0,3]
 (.seq (.s [.bH (.v 1) (some 4),.C ia [.A],.t 0] [(2,0)] []
 (.j [.v 2,.N .A (.i 0)] [] [] 7 0 (.m 2 3 [1,2]
 .ret)))
 (.seq (.j [.bH (.v 1) (some 4),.C yF [.A],.not .A] [] [1,2] 11 0 (.k 1 3 []
 .ret))
 (.k 0 3 []
 .ret))))}
abbrev zA:Fn:={np:=4,nv:=8,res:=[(7,none)],body:=
(.s [.cz (.v 0),.cz (.v 2),.cz (.v 3),.b] [(4,3),(5,2),(6,1)] [0,2,3,7]
 (.s [.v 1,.p (.tS uG [(.v 4),(.v 5),(.v 6)]),.C yG [.B,.A],.t 0] [(7,0)] [1,4,5,6]
 .ret))}
abbrev zB:Fn:={np:=3,nv:=10,res:=[(7,none),(8,none),(9,none)],body:=
(.s [.cz (.v 0),.mv (.c (.ag)),.b,.k 0] [(3,3)] [0,7,8,9]
 (.seq (.s [.bH (.v 3) (some 4),.C ia [.A],.t 0] [(4,0)] []
 (.j [.v 4,.N .A (.i 0)] [] [] 15 0 (.s [.v 4,.mv (.c (.ag)),.b,.t 2] [(7,2),(8,1),(9,0)] [1,2,3,4]
 .ret)))
 (.seq (.j [.v 1,.L .A (.i 0),.t 0,.yv 0 1,.yf 1 3 2,.yl 2,.y 3 (.len .A),.y 4 (.bin .geq .D .A),.pick .F (.c (.bool true)) .A,.t 0,.yv 0 2,.y 1 (.bin .lss .A (.i 0)),.pick .C (.c (.bool true)) .A,.t 0,.yv 0 2,.yf 1 3 2,.yl 2,.y 3 (.len .A),.y 4 (.bin .geq .D .A),.pick .F (.c (.bool true)) .A] [] [4] 36 0 (.s [.mv (.c (.ag)),.b,.k 2] [(7,2),(8,1),(9,0)] [1,2,3]
 .ret))
 (.s [.bH (.v 3) (some 4),.bH (.v 3) (some 4),.v 1,.v 2,.e9 [.int 0,.int 0] [(0,1,.B),(1,1,.A)],.C uI [.E,.D,.A],.t 0,.e .A 0,.e .B 1,.t 1,.t 1] [(5,1),(6,0)] [1,2,3]
 (.s [.v 5,.v 6,.t 1,.t 1,.k 0] [(7,2),(8,1),(9,0)] [5,6]
 .ret)))))}
abbrev zC:Fn:={np:=1,nv:=2,res:=[(1,none)],body:=
(.s [.mv (.c (.ag))] [] [1]
 (.s [.v 0,.p (.kG sg [.A,(.c (.func uJ []))]),.t 0] [(1,0)] [0]
 .ret))}
abbrev GQ:dt:=⟨[.ld (.v 1) none,.n,.k 0],[(6,2),(5,1),(4,0)],[1],none⟩
abbrev GR:dt:=⟨[.c 4 5],[],[],some (14,0)⟩
abbrev GS:dt:=⟨[.bW (.v 6) (.v 4) 1,.d,.t 0],[(13,0)],[],none⟩
abbrev GU:dt:=⟨[.ld (.v 2) none,.n,.k 0],[(9,2),(8,1),(7,0)],[],none⟩
abbrev GV:dt:=⟨[.c 7 8],[],[],some (20,0)⟩
abbrev GW:dt:=⟨[.bW (.v 9) (.v 7) 1,.d,.t 0],[(14,0)],[],none⟩
abbrev GX:dt:=⟨[.ld (.v 3) none,.n,.k 0],[(12,2),(11,1),(10,0)],[],none⟩
abbrev GY:dt:=⟨[.c 10 11],[],[],some (26,0)⟩
abbrev GZ:dt:=⟨[.bW (.v 12) (.v 10) 1,.d,.t 0],[(15,0)],[],none⟩
abbrev Va:IC:=(.seq (.bM GY)
 (.H 26 4
 (.seq (.block 5 (.seq (.bM GZ)
 (.j [.v 0,.v 13,.v 14,.v 15,.cA [.C,.B,.A] 1,.C fB [.A],.p (.gP .F [.A]),.not .A] [] [15] 36 0 .ret)))
 (.V 10 []))))
abbrev G0:dt:=⟨[.A (.v 7) (.i 1),.t 0],[(7,0)],[10,11,12,14],none⟩
abbrev Vb:IC:=(.seq (.bM GV)
 (.H 20 2
 (.seq (.block 3 (.seq (.bM GW)
 (.seq (.bM GX)
 (.o 4 Va))))
 (.bM G0))))
abbrev G1:dt:=⟨[.A (.v 4) (.i 1),.t 0],[(4,0)],[7,8,9,13],none⟩
abbrev Vc:IC:=(.seq (.bM GR)
 (.H 14 0
 (.seq (.block 1 (.seq (.bM GS)
 (.seq (.bM GU)
 (.o 2 Vb))))
 (.bM G1))))
abbrev zD:Fn:={np:=4,nv:=16,res:=[],body:=
(.seq (.bM GQ)
 (.o 0 Vc))}
abbrev zE:Fn:={np:=1,nv:=2,res:=[(1,none)],body:=
(.s [.mv (.c (.ag))] [] [1]
 (.s [.v 0,.C yH [.A],.t 0] [(1,0)] [0]
 .ret))}
abbrev G2:IC:=(.Z 4 5 19 0 1 [] (.s [.v 4,.bW (.v 6) (.v 4) 1,.d,.t 2,.t 1] [(7,1),(8,0)] []
 (.g [.v 2,.v 7,.v 8,.C iS [.A],.bW .D .C 1,.st .A .B 1] [] [7,8])))
abbrev zF:Fn:={np:=2,nv:=10,res:=[(9,none)],body:=
(.s [.cz (.v 1),.mv (.c (.ag))] [(3,1)] [1,9]
 (.s [.v 0,.p (.can sm [.A]),.t 0] [(2,0)] [0]
 (.s [.v 2,.bH (.v 3) none,.lF sn [.B,.A]] [] []
 (.s [.v 2,.p (.tS sq [(.v 3)]),.lF uK [.B,.A],.t 0] [(2,0)] [3]
 (.seq (.s [.v 2,.n,.k 0] [(6,2),(5,1),(4,0)] []
 (.o 0 G2))
 (.m 2 9 [2,4,5,6]
 .ret))))))}
abbrev zG:Fn:={np:=2,nv:=3,res:=[(2,none)],body:=
(.s [.k 0] [] [2]
 (.s [.v 0,.v 1,.C uL [.B,.A],.t 0] [(2,0)] [0,1]
 .ret))}
abbrev zH:Fn:={np:=2,nv:=3,res:=[(2,none)],body:=
(.s [.b] [] [2]
 (.s [.v 0,.v 1,.C yI [.B,.A],.v 1,.n,.E .C .A,.t 0] [(2,0)] [0,1]
 .ret))}
abbrev zI:Fn:={np:=1,nv:=2,res:=[(1,none)],body:=
(.s [.b] [] [1]
 (.s [.v 0,.bin .geq .A (.i 1),.t 0,.xv 0 0,.x 1 (.bin .leq .A (.i 1024)),.pick .C .A (.c (.bool false)),.t 0] [(1,0)] [0]
 .ret))}
abbrev zJ:Fn:={np:=2,nv:=3,res:=[(2,none)],body:=
(.s [.b] [] [2]
 (.s [.v 0,.v 1,.C yJ [.B,.A],.bin .geq .A (.i 0),.t 0] [(2,0)] [0,1]
 .ret))}
abbrev zK:Fn:={np:=2,nv:=3,res:=[(2,none)],body:=
(.s [.b] [] [2]
 (.s [.v 0,.L .A (.i 0),.t 0,.yv 0 0,.y 1 (.ld (.v 1) none),.y 2 (.bin .geq .B .A),.pick .D (.c (.bool true)) .A,.t 0] [(2,0)] [0,1]
 .ret))}
abbrev Vd:IC:=(.Z 2 3 14 0 1 [] (.m 2 5 []
 (.s [.f 4 2,.d,.f 1 2,.l,.v 5,.i,.l,.p (.can iS [.A]),.bY [.A] 1,.app .H .A none,.f 4 2,.st .A .B 1] [] []
 (.g [.f 4 3,.d,.f 1 3,.l,.v 5,.i,.l,.p (.can iS [.A]),.bY [.A] 1,.app .H .A none,.f 4 3,.st .A .B 1] [] [5]))))
abbrev zL:Fn:={np:=1,nv:=7,res:=[(6,some (some 4))],body:=
(.s [.cz (.v 0),.j8 [.int 0,.int 0,.ag,.ag] (some 4)] [(1,1),(6,0)] [0]
 (.s [.f 1 0,.l,.f 1 1,.l,.e9 [.int 0,.int 0,.ag,.ag] [(0,1,.C),(1,1,.A)],.j8 [.int 0,.int 0,.ag,.ag] (some 4),.st .A .B 4] [(4,1)] []
 (.seq (.s [.f 1 2,.l,.n,.k 0] [(3,1),(2,0)] []
 (.o 0 Vd))
 (.s [.ld (.v 4) (some 4),.st (.v 6) .A 4] [] [1,2,3,4]
 .ret))))}
abbrev G3:Fn:={np:=1,nv:=2,res:=[(1,none)],body:=
(.s [.mv (.c (.ag))] [] [1]
 (.seq (.j [.v 0,.p (.ma false .A)] [] [] 4 0 (.s [.mv (.c (.ag))] [(1,0)] [0]
 .ret))
 (.s [.p (.mG 1),.v 0,.bB .B .A none,.t 0] [(1,0)] [0]
 .ret)))}
abbrev zM:Fn:={np:=2,nv:=7,res:=[(5,none),(6,none)],body:=
(.s [.cz (.v 0),.mv (.c (.ag)),.k 0] [(2,2)] [0,5,6]
 (.s [.bH (.v 2) (some 4),.f 2 1,.l,.v 1,.C yK [.D,.B,.A],.t 0,.e .A 0,.e .B 1,.e .C 2,.t 2,.t 2,.t 2] [(3,2),(4,0)] [1,2]
 (.s [.v 3,.v 4,.t 1,.t 1] [(5,1),(6,0)] [3,4]
 .ret)))}
abbrev Ve:IC:=(.Z 2 3 14 0 1 [] (.m 2 4 []
 (.j [.v 0,.v 4,.i,.d,.v 1,.v 4,.i,.d,.N .E .A] [] [4] 24 0 (.s [.b] [(5,0)] [0,1,2,3]
 .ret))))
abbrev zN:Fn:={np:=2,nv:=6,res:=[(5,none)],body:=
(.s [.b] [] [5]
 (.seq (.j [.v 0,.n,.v 1,.n,.N .C .A] [] [] 10 0 (.s [.b] [(5,0)] [0,1]
 .ret))
 (.seq (.s [.v 0,.n,.k 0] [(3,1),(2,0)] []
 (.o 0 Ve))
 (.s [.mv (.c (.bool true))] [(5,0)] [0,1,2,3]
 .ret))))}
abbrev zO:Fn:={np:=2,nv:=10,res:=[(7,none),(8,none),(9,none)],body:=
(.s [.cz (.v 0),.cz (.v 1),.mv (.c (.ag)),.b,.k 0] [(2,4),(3,3)] [0,1,7,8,9]
 (.seq (.s [.bH (.v 2) (some 4),.bH (.v 3) (some 4),.C yL [.B,.A],.t 0] [(4,0)] []
 (.j [.v 4,.N .A (.i 0)] [] [] 14 0 (.s [.v 4,.mv (.c (.ag)),.b,.t 2] [(7,2),(8,1),(9,0)] [2,3,4]
 .ret)))
 (.s [.bH (.v 2) (some 4),.bH (.v 3) (some 4),.f 2 1,.l,.f 3 1,.l,.e9 [.int 0,.int 0] [(0,1,.C),(1,1,.A)],.C uI [.G,.F,.A],.t 0,.e .A 0,.e .B 1,.t 1,.t 1] [(5,1),(6,0)] [2,3,4]
 (.s [.v 5,.v 6,.t 1,.t 1,.k 0] [(7,2),(8,1),(9,0)] [5,6]
 .ret))))}
abbrev zP:Fn:={np:=1,nv:=4,res:=[(2,none),(3,none)],body:=
(.s [.cz (.v 0),.mv (.c (.ag)),.k 0] [(1,2)] [0,2,3]
 (.s [.bH (.v 1) (some 4),.f 1 2,.l,.n,.C yM [.D,.A],.e .A 0,.e .B 1,.t 1,.t 1] [(2,1),(3,0)] [1]
 .ret))}
abbrev Vf:IC:=(.seq (.i [.v 2,.v 3,.n,.L .C .A] [] [] 32 0 .skip (.exit 2))
 (.seq (.block 3 (.j [.v 3,.v 2,.i,.d,.v 3,.v 2,.S .A (.i 1),.bW .C .A 1,.d,.N .F .A] [] [] 44 0 (.s [.v 0,.v 1,.v 3,.v 2,.i,.d,.bW .F .E 1,.st .A .B 1] [] []
 (.U 1 []))))
 (.U 2 [])))
abbrev Vg:IC:=(.seq (.w [.v 1,.v 0,.n,.L .C .A] [] [] 13 0)
 (.seq (.block 1 (.j [.v 0,.v 1,.i,.d,.v 0,.v 1,.S .A (.i 1),.bW .C .A 1,.d,.E .F .A] [] [] 25 0 (.s [.v 0,.v 1,.p (.l9 .B (some .A) none 1),.t 0] [(3,0)] []
 (.seq (.k 1 2 []
 (.o 2 Vf))
 (.s [.v 0,.v 1,.p (.l9 .B (some .A) none 1),.p (.oY .A [.int 0] none)] [] [2,3]
 (.s [.v 0,.v 1,.p (.l9 .B none (some .A) 1),.t 0] [(4,0)] [0,1]
 .ret))))))
 (.U 1 [])))
abbrev zQ:Fn:={np:=1,nv:=5,res:=[(4,none)],body:=
(.s [.mv (.c (.ag))] [] [4]
 (.seq (.j [.v 0,.n,.L .A (.i 2)] [] [] 8 0 (.m 0 4 [0]
 .ret))
 (.seq (.k 1 1 []
 (.o 0 Vg))
 (.m 0 4 [0,1]
 .ret))))}
abbrev Vh:IC:=(.seq (.w [.v 2,.v 0,.n,.L .C .A] [] [] 14 0)
 (.seq (.block 1 (.j [.v 0,.v 2,.i,.d,.v 1,.v 2,.i,.d,.N .E .A] [] [] 25 0 (.s [.b] [(3,0)] [0,1,2]
 .ret)))
 (.U 2 [])))
abbrev zR:Fn:={np:=2,nv:=4,res:=[(3,none)],body:=
(.s [.b] [] [3]
 (.seq (.j [.v 0,.n,.v 1,.n,.N .C .A] [] [] 10 0 (.s [.b] [(3,0)] [0,1]
 .ret))
 (.seq (.k 0 2 []
 (.o 0 Vh))
 (.s [.mv (.c (.bool true))] [(3,0)] [0,1,2]
 .ret))))}
abbrev zS:Fn:={np:=2,nv:=7,res:=[(5,none),(6,none)],body:=
(.s [.cz (.v 0),.mv (.c (.ag)),.k 0] [(2,2)] [0,5,6]
 (.seq (.s [.bH (.v 2) (some 4),.C ia [.A],.t 0] [(3,0)] []
 (.j [.v 3,.N .A (.i 0)] [] [] 12 0 (.s [.v 3,.mv (.c (.ag)),.t 1] [(5,1),(6,0)] [1,2,3]
 .ret)))
 (.s [.bH (.v 2) (some 4),.v 1,.C yN [.B,.A],.t 0,.e .A 0,.e .B 1,.t 1,.t 1] [(4,1)] [1,2,3]
 (.s [.v 4,.t 0,.k 0] [(5,1),(6,0)] [4]
 .ret))))}
abbrev Vi:IC:=(.Z 6 7 37 2 3 [9,10] (.s [.v 6,.bW (.v 8) (.v 6) 1,.d,.t 2,.t 1] [(10,1),(9,0)] []
 (.j [.v 3,.v 9,.i,.d,.not .A] [] [] 45 0 (.s [.v 3,.v 9,.i,.st .A (.c (.bool true)) 1] [] []
 (.g [.v 5,.v 9,.v 5,.v 4,.bW .B .A 2,.h 0 1,.d,.v 10,.cA [.A] 1,.cA [.C,.A] 1,.C fB [.A],.e9 [.int 0,.ag] [(0,1,.J),(1,1,.A)],.bY [.A] 2,.bB (.t 12) .A (some 2),.t 0] [(5,0)] [9,10])))))
abbrev Vj:IC:=(.seq (.w [.v 4,.v 5,.n,.L .C .A] [] [] 23 0)
 (.seq (.block 1 (.s [.f 2 2,.l,.v 5,.v 4,.bW .B .A 2,.h 0 0,.d,.bW .F .A 1,.l,.n,.k 0] [(8,2),(7,1),(6,0)] []
 (.o 2 Vi)))
 (.U 4 [6,7,8])))
abbrev zT:Fn:={np:=2,nv:=12,res:=[(11,none)],body:=
(.s [.cz (.v 0),.mv (.c (.ag))] [(2,1)] [0,11]
 (.s [.f 2 2,.l,.n,.kf .A .A [.bool false] none,.t 0] [(3,0)] []
 (.s [.v 3,.v 1,.i,.st .A (.c (.bool true)) 1] [] []
 (.s [.v 1,.e9 [.int 0,.ag] [(0,1,.A)],.p (.je [.A] (some 2)),.t 0] [(5,0)] [1]
 (.seq (.k 0 4 []
 (.o 0 Vj))
 (.m 5 11 [2,3,4,5]
 .ret))))))}
abbrev zU:Fn:={np:=1,nv:=5,res:=[(4,none)],body:=
(.s [.cz (.v 0),.b] [(1,1)] [0,4]
 (.seq (.j [.bH (.v 1) (some 4),.C ia [.A],.N .A (.i 0),.t 0,.y 0 (.bH (.v 1) (some 4)),.y 1 (.kG nA [.A]),.y 2 (.len .A),.yf 3 1 2,.yl 4,.y 5 (.len .A),.y 6 (.bin .neq .D .A),.pick .H (.c (.bool true)) .A] [] [] 16 0 (.s [.b] [(4,0)] [1]
 .ret))
 (.s [.bH (.v 1) (some 4),.C uy [.A],.t 0,.e .A 0,.e .B 1,.p (.eC 4),.gv .A .C 4,.t 2] [(3,1),(2,0)] []
 (.s [.v 2,.E .A (.i 0),.t 0,.xf 0 3 2,.xl 1,.x 2 (.len .A),.xf 3 1 2,.xl 4,.x 5 (.len .A),.x 6 (.bin .eql .D .A),.pick .H .A (.c (.bool false)),.t 0] [(4,0)] [1,2,3]
 .ret))))}
abbrev Vk:IC:=(.Z 2 3 10 0 1 [] (.z 4 2 1 5 []
 (.j [.v 1,.v 5,.p (.gP .B [.A])] [] [5] 15 0 (.s [.mv (.c (.bool true))] [(6,0)] [1,2,3,4]
 .ret))))
abbrev zV:Fn:={np:=2,nv:=7,res:=[(6,none)],body:=
(.s [.b] [] [6]
 (.seq (.s [.v 0,.n,.k 0] [(4,2),(3,1),(2,0)] [0]
 (.o 0 Vk))
 (.s [.b] [(6,0)] [1,2,3,4]
 .ret)))}
abbrev zW:Fn:={np:=4,nv:=5,res:=[(4,none)],body:=
(.s [.b] [] [4]
 (.s [.ld (.v 1) (some 4),.ld (.v 2) none,.v 0,.C uH [.C,.B,.A],.ld (.v 1) (some 4),.ld (.v 3) none,.v 0,.C uH [.C,.B,.A],.C uF [.E,.A],.not .A,.t 0] [(4,0)] [0,1,2,3]
 .ret))}
abbrev Vl:IC:=(.Z 3 4 16 0 1 [] (.z 5 3 1 8 []
 (.s [.v 6,.f 7 3,.l,.v 1,.i,.l,.v 8,.i,.l,.bY [.A] 1,.bB .J .A none,.t 0] [(6,0)] []
 (.g [.f 7 2,.l,.v 1,.i,.l,.v 8,.i,.l,.t 0] [(1,0)] [8]))))
abbrev zX:Fn:={np:=3,nv:=10,res:=[(9,none)],body:=
(.s [.cz (.v 0),.mv (.c (.ag))] [(7,1)] [0,9]
 (.s [.v 2,.n,.kf (.i 0) .A [.int 0] none,.t 0] [(6,0)] []
 (.seq (.s [.v 2,.n,.k 0] [(5,2),(4,1),(3,0)] [2]
 (.o 0 Vl))
 (.m 6 9 [1,3,4,5,6,7]
 .ret))))}
abbrev Vm:IC:=(.Z 5 6 22 0 1 [] (.m 5 7 []
 (.g [.v 4,.v 7,.f 8 2,.l,.n,.kf .A .A [.bool false] none,.bW .F .E 1,.st .A .B 1] [] [7])))
abbrev Vn:IC:=(.Z 12 13 57 4 5 [15,16] (.m 12 15 []
 (.seq (.j [.f 3 3,.l,.f 14 0,.l,.bW .C .A 1,.l,.v 15,.i,.l,.f 8 3,.l,.f 14 1,.l,.bW .C .A 1,.l,.v 15,.i,.l,.N .J .A] [] [] 77 0 (.s [.v 11,.v 10,.bW .B .A 3,.h 0 2,.d,.v 15,.cA [.A] 1,.cA [.C,.A] 1,.C fB [.A],.t 0,.mv (.c (.bool true))] [(17,1),(18,0)] [3,4,8,10,11,12,13,14,15]
 .ret))
 (.s [.f 3 2,.l,.f 14 0,.l,.bW .C .A 1,.l,.v 15,.i,.l,.f 8 2,.l,.f 14 1,.l,.bW .C .A 1,.l,.v 15,.i,.l,.e9 [.int 0,.int 0] [(0,1,.J),(1,1,.A)],.p (.eC 2),.gv .A .B 2] [(16,0)] []
 (.j [.bH (.v 16) (some 2),.bH (.v 14) (some 2),.p (.seq true 2 .B .A),.t 0,.xv 0 4,.xf 1 16 0,.xl 2,.x 3 (.bW .C .A 1),.x 4 (.ld .A none),.xf 5 16 1,.xl 6,.x 7 (.bW .C .A 1),.x 8 (.ld .A none),.x 9 (.not .A),.pick (.t 10) .A (.c (.bool false))] [] [] 120 0 (.s [.v 4,.f 16 0,.l,.bW .C .A 1,.d,.f 16 1,.l,.bW .C .A 1,.st .A (.c (.bool true)) 1] [] []
 (.g [.v 11,.bH (.v 16) (some 2),.v 11,.v 10,.bW .B .A 3,.h 0 2,.d,.v 15,.cA [.A] 1,.cA [.C,.A] 1,.C fB [.A],.e9 [.int 0,.int 0,.ag] [(0,2,.J),(2,1,.A)],.bY [.A] 3,.app (.t 12) .A (some 3),.t 0] [(11,0)] [15,16])))))))
abbrev Vo:IC:=(.seq (.i [.v 10,.v 11,.n,.L .C .A] [] [] 46 0 .skip (.exit 2))
 (.seq (.block 3 (.s [.v 11,.v 10,.bW .B .A 3,.nV .A 0 (some 2),.ld .A (some 2),.p (.eC 2),.gv .A .B 2] [(14,0)] []
 (.s [.f 3 0,.l,.k 0] [(13,1),(12,0)] []
 (.o 4 Vn))))
 (.U 10 [12,13,14])))
abbrev zY:Fn:={np:=3,nv:=19,res:=[(17,none),(18,none)],body:=
(.s [.cz (.v 0),.cz (.v 1),.cz (.v 2),.mv (.c (.ag)),.b] [(3,4),(8,3),(9,2)] [0,1,2,17,18]
 (.s [.f 3 2,.l,.n,.kf .A .A [.ag] none,.t 0] [(4,0)] []
 (.seq (.s [.v 4,.n,.k 0] [(6,1),(5,0)] []
 (.o 0 Vm))
 (.s [.v 4,.f 9 0,.l,.bW .C .A 1,.d,.f 9 1,.l,.bW .C .A 1,.st .A (.c (.bool true)) 1] [] [5,6]
 (.s [.bH (.v 9) (some 2),.e9 [.int 0,.int 0,.ag] [(0,2,.A)],.p (.je [.A] (some 3)),.t 0] [(11,0)] [9]
 (.seq (.k 0 10 []
 (.o 2 Vo))
 (.s [.mv (.c (.ag)),.b] [(17,1),(18,0)] [3,4,8,10,11]
 .ret)))))))}
abbrev zZ:Fn:={np:=2,nv:=3,res:=[(2,none)],body:=
(.s [.k 0] [] [2]
 (.s [.v 0,.n,.v 1,.n,.C uM [.C,.A],.v 0,.v 1,.C uL [.B,.A],.cA [.D,.A] 1,.C yO [.A],.t 0] [(2,0)] [0,1]
 .ret))}
abbrev Vp:IC:=(.Z 1 2 12 0 1 [] (.z 3 1 1 5 []
 (.s [.v 4,.v 5,.n,.A .C .A,.t 0] [(4,0)] [5]
 (.j [.v 4,.L .A (.i 0)] [] [] 20 0 .bad))))
abbrev Vq:IC:=(.Z 6 7 28 2 3 [] (.z 8 6 1 10 []
 (.g [.v 9,.v 10,.bB .B .A none,.t 0] [(9,0)] [10])))
abbrev z6:Fn:={np:=1,nv:=12,res:=[(11,none)],body:=
(.s [.mv (.c (.ag))] [] [11]
 (.k 0 4 []
 (.seq (.s [.v 0,.n,.k 0] [(3,2),(2,1),(1,0)] []
 (.o 0 Vp))
 (.s [.v 4,.p (.can sr [(.c (.ag)),.A]),.t 0] [(9,0)] [1,2,3,4]
 (.seq (.s [.v 0,.n,.k 0] [(8,2),(7,1),(6,0)] [0]
 (.o 2 Vq))
 (.m 9 11 [6,7,8,9]
 .ret))))))}
abbrev G4:Fn:={np:=1,nv:=2,res:=[(1,none)],body:=
(.s [.mv (.c (.ag))] [] [1]
 (.seq (.j [.v 0,.p (.ma false .A)] [] [] 4 0 (.s [.mv (.c (.ag))] [(1,0)] [0]
 .ret))
 (.s [.bY [] 1,.v 0,.bB .B .A none,.t 0] [(1,0)] [0]
 .ret)))}
abbrev Vr:IC:=(.seq (.i [.v 3,.v 4,.n,.L .C .A] [] [] 35 0 .skip (.exit 2))
 (.seq (.block 3 (.j [.v 1,.v 4,.v 3,.i,.d,.v 4,.v 3,.S .A (.i 1),.bW .C .A 1,.d,.p (.gP .J [.F,.A]),.not .A] [] [] 49 0 (.s [.v 0,.v 2,.v 4,.v 3,.i,.d,.bW .F .E 1,.st .A .B 1] [] []
 (.U 2 []))))
 (.U 3 [])))
abbrev Vs:IC:=(.seq (.w [.v 2,.v 0,.n,.L .C .A] [] [] 15 0)
 (.seq (.block 1 (.j [.v 1,.v 0,.v 2,.i,.d,.v 0,.v 2,.S .A (.i 1),.bW .C .A 1,.d,.p (.gP .J [.F,.A])] [] [] 28 0 (.s [.v 0,.v 2,.p (.l9 .B (some .A) none 1),.t 0] [(4,0)] []
 (.seq (.k 1 3 []
 (.o 2 Vr))
 (.s [.v 0,.v 2,.p (.l9 .B (some .A) none 1),.p (.oY .A [.ag] none)] [] [1,3,4]
 (.s [.v 0,.v 2,.p (.l9 .B none (some .A) 1),.t 0] [(5,0)] [0,2]
 .ret))))))
 (.U 2 [])))
abbrev z7:Fn:={np:=2,nv:=6,res:=[(5,none)],body:=
(.s [.mv (.c (.ag))] [] [5]
 (.seq (.j [.v 0,.n,.L .A (.i 2)] [] [] 10 0 (.m 0 5 [0,1]
 .ret))
 (.seq (.k 1 2 []
 (.o 0 Vs))
 (.m 0 5 [0,1,2]
 .ret))))}
abbrev z8:Fn:={np:=3,nv:=4,res:=[(3,none)],body:=
(.s [.b] [] [3]
 (.s [.ld (.v 2) none,.v 0,.v 1,.p (.gP .C [.B,.A]),.E .A (.i 0),.t 0] [(3,0)] [0,1,2]
 .ret))}
abbrev Vt:IC:=(.Z 2 3 12 0 1 [8] (.s [.v 2,.bW (.v 4) (.v 2) 1,.d,.t 2,.t 1] [(5,1),(6,0)] []
 (.seq (.j [.v 5,.v 1,.n,.bin .geq .C .A] [] [] 19 0 (.k 1 9 [0,1,2,3,4,5,6]
 .ret))
 (.s [.v 1,.v 5,.i,.d,.t 0] [(7,0)] [5]
 (.s [.v 6,.v 7,.C uM [.B,.A],.t 0] [(8,0)] [6,7]
 (.j [.v 8,.N .A (.i 0)] [] [] 28 0 (.m 8 9 [0,1,2,3,4,8]
 .ret)))))))
abbrev Aa:Fn:={np:=2,nv:=10,res:=[(9,none)],body:=
(.s [.k 0] [] [9]
 (.seq (.s [.v 0,.n,.k 0] [(4,2),(3,1),(2,0)] []
 (.o 0 Vt))
 (.seq (.j [.v 0,.n,.v 1,.n,.L .C .A] [] [0,1,2,3,4] 35 0 (.s [.mv (.i (-1))] [(9,0)] []
 .ret))
 (.k 0 9 []
 .ret))))}
abbrev Vu:IC:=(.Z 2 3 12 0 1 [4] (.m 2 4 []
 (.j [.v 0,.v 4,.i,.d,.v 1,.v 4,.i,.d,.N .E .A] [] [] 22 0 (.m 4 5 [0,1,2,3,4]
 .ret))))
abbrev Ac:Fn:={np:=2,nv:=6,res:=[(5,none)],body:=
(.s [.k 0] [] [5]
 (.seq (.s [.v 0,.n,.v 1,.n,.p (.mx false .C .A),.k 0] [(3,1),(2,0)] []
 (.o 0 Vu))
 (.s [.v 0,.n,.v 1,.n,.p (.mx false .C .A),.t 0] [(5,0)] [0,1,2,3]
 .ret)))}
abbrev Vv:IC:=(.Z 2 3 9 0 1 [4] (.m 2 4 []
 (.j [.v 1,.v 0,.v 4,.i,.d,.p (.gP .E [.A])] [] [] 16 0 (.m 4 5 [0,1,2,3,4]
 .ret))))
abbrev Ad:Fn:={np:=2,nv:=6,res:=[(5,none)],body:=
(.s [.k 0] [] [5]
 (.seq (.s [.v 0,.n,.k 0] [(3,1),(2,0)] []
 (.o 0 Vv))
 (.s [.mv (.i (-1))] [(5,0)] [0,1,2,3]
 .ret)))}
abbrev Ae:Fn:={np:=3,nv:=11,res:=[(8,none),(9,none),(10,none)],body:=
(.s [.cz (.v 0),.mv (.c (.ag)),.k 0,.k 0] [(3,3)] [0,8,9,10]
 (.seq (.s [.bH (.v 3) (some 4),.v 1,.C yP [.B,.A],.t 0] [(4,0)] []
 (.j [.v 4,.N .A (.i 0)] [] [] 17 0 (.s [.v 4,.mv (.c (.ag)),.k 0,.t 2] [(8,2),(9,1),(10,0)] [1,2,3,4]
 .ret)))
 (.seq (.s [.v 2,.f 3 0,.l,.C qh [.C,.A],.t 0] [(5,0)] [4]
 (.j [.v 5,.N .A (.i 0)] [] [] 24 0 (.s [.v 5,.mv (.c (.ag)),.k 0,.t 2] [(8,2),(9,1),(10,0)] [1,2,3,5]
 .ret)))
 (.s [.bH (.v 3) (some 4),.e9 [.int 0,.int 0,.ag,.ag] [(0,4,.A)],.v 1,.e9 [.int 0,.int 0,.ag,.ag,.int 0] [(0,4,.B),(4,1,.A)],.p (.ti .A (some 5)),.t 0] [(6,0)] [1,3,5]
 (.s [.v 6,.v 2,.lF yQ [.B,.A],.t 0] [(7,0)] [2]
 (.s [.v 7,.v 6,.q,.h 0 4,.d,.t 4,.t 1,.k 0] [(8,2),(9,1),(10,0)] [6,7]
 .ret))))))}
abbrev Vw:IC:=(.r [.L (.v 4) (.i 2)] [] [] 12 0
 (.H 12 0
 (.seq (.block 1 (.s [.p (.idx (.v 5) (.v 4) 2 (some 4)),.p (.eC 4),.gv .A .B 4] [(6,0)] []
 (.s [.bH (.v 6) (some 4),.C ia [.A],.t 0] [(7,0)] [6]
 (.j [.v 7,.N .A (.i 0)] [] [] 17 0 (.m 7 8 [2,3,4,5,7]
 .ret)))))
 (.V 4 [7]))))
abbrev Af:Fn:={np:=2,nv:=9,res:=[(8,none)],body:=
(.s [.cz (.v 0),.cz (.v 1),.k 0] [(2,2),(3,1)] [0,1,8]
 (.seq (.s [.bH (.v 2) (some 4),.bH (.v 3) (some 4),.e9 [.int 0,.int 0,.ag,.ag,.int 0,.int 0,.ag,.ag] [(0,4,.B),(4,4,.A)],.k 0] [(5,1),(4,0)] []
 (.o 0 Vw))
 (.seq (.j [.f 2 0,.l,.f 3 0,.l,.N .C .A] [] [2,3,4,5] 24 0 (.k 15 8 []
 .ret))
 (.k 0 8 []
 .ret))))}
abbrev Vx:IC:=(.seq (.w [.v 4,.v 1,.L .B .A,.t 0,.xv 0 4,.xf 1 2 2,.xl 2,.x 3 (.len .A),.x 4 (.bin .lss .D .A),.pick .F .A (.c (.bool false))] [] [] 27 0)
 (.seq (.block 1 (.g [.bH (.v 2) (some 4),.v 5,.p (.nY yR [.B,.A]),.t 0] [(5,0)] []))
 (.U 4 [])))
abbrev Ag:Fn:={np:=2,nv:=8,res:=[(6,none),(7,none)],body:=
(.s [.cz (.v 0),.mv (.c (.ag)),.k 0] [(2,2)] [0,6,7]
 (.seq (.s [.bH (.v 2) (some 4),.C uw [.A],.t 0] [(3,0)] []
 (.j [.v 3,.N .A (.i 0)] [] [] 12 0 (.s [.v 3,.mv (.c (.ag)),.t 1] [(6,1),(7,0)] [1,2,3]
 .ret)))
 (.s [.f 2 2,.l,.n,.kf .A .A [.int 0] none,.t 0] [(5,0)] [3]
 (.seq (.k 0 4 []
 (.o 0 Vx))
 (.s [.v 5,.t 0,.k 0] [(6,1),(7,0)] [1,2,4,5]
 .ret)))))}
abbrev Vy:IC:=(.Z 3 4 22 0 1 [] (.m 3 8 []
 (.s [.bH (.v 2) (some 4),.v 5,.p (.nY yS [.B,.A]),.t 0,.e .A 0,.e .B 1,.t 1,.t 1] [(9,1),(6,0)] []
 (.seq (.j [.v 6,.v 7,.E .B .A] [] [7] 32 0 (.s [.v 5,.v 8,.t 1,.t 1] [(10,1),(11,0)] [1,2,3,4,5,6,8,9]
 .ret))
 (.g [.v 9,.v 6,.t 1,.t 1] [(5,1),(7,0)] [6,8,9])))))
abbrev Ah:Fn:={np:=2,nv:=12,res:=[(10,none),(11,none)],body:=
(.s [.cz (.v 0),.mv (.c (.ag)),.k 0] [(2,2)] [0,10,11]
 (.s [.f 2 2,.l,.n,.kf .A .A [.int 0] none,.t 0,.k 1] [(5,1),(7,0)] []
 (.seq (.s [.v 1,.p (.mx true .A (.i 0)),.f 2 2,.l,.n,.p (.mx false .D .A),.k 0] [(4,1),(3,0)] []
 (.o 0 Vy))
 (.s [.v 5,.v 1,.p (.mx true .A (.i 0)),.f 2 2,.l,.n,.p (.mx false .D .A),.t 6,.t 1] [(10,1),(11,0)] [1,2,3,4,5,7]
 .ret))))}
abbrev Vz:IC:=(.Z 1 2 9 0 1 [4] (.z 3 1 1 4 []
 (.j [.v 4,.v 5,.N .B .A] [] [] 14 0 (.m 4 6 [1,2,3,4,5]
 .ret))))
abbrev Ai:Fn:={np:=1,nv:=7,res:=[(6,none)],body:=
(.s [.k 0] [] [6]
 (.k 0 5 []
 (.seq (.s [.v 0,.n,.k 0] [(3,2),(2,1),(1,0)] [0]
 (.o 0 Vz))
 (.m 5 6 [1,2,3,5]
 .ret))))}
abbrev Aj:Fn:={np:=2,nv:=5,res:=[(4,none)],body:=
(.s [.k 0] [] [4]
 (.s [.v 0,.C uN [.A],.t 0] [(2,0)] []
 (.s [.v 1,.C uN [.A],.t 0] [(3,0)] []
 (.seq (.j [.v 2] [] [2] 11 0 (.seq (.j [.v 3] [] [0,1,3] 12 0 (.k 0 4 []
 .ret))
 (.s [.mv (.i (-1))] [(4,0)] []
 .ret)))
 (.seq (.j [.v 3] [] [3] 13 0 (.k 1 4 [0,1]
 .ret))
 (.seq (.j [.v 0,.v 1,.L .B .A] [] [] 16 0 (.s [.mv (.i (-1))] [(4,0)] [0,1]
 .ret))
 (.seq (.j [.v 0,.v 1,.G .B .A] [] [0,1] 19 0 (.k 1 4 []
 .ret))
 (.k 0 4 []
 .ret))))))))}
abbrev Ak:Fn:={np:=2,nv:=5,res:=[(4,none)],body:=
(.s [.cz (.v 0),.k 0] [(2,1)] [0,4]
 (.seq (.s [.bH (.v 2) (some 4),.C ia [.A],.t 0] [(3,0)] []
 (.j [.v 3,.N .A (.i 0)] [] [] 9 0 (.m 3 4 [1,2,3]
 .ret)))
 (.seq (.j [.v 1,.L .A (.i 0),.t 0,.yv 0 1,.yf 1 2 2,.yl 2,.y 3 (.len .A),.y 4 (.bin .geq .D .A),.pick .F (.c (.bool true)) .A] [] [1,2,3] 19 0 (.k 2 4 []
 .ret))
 (.k 0 4 []
 .ret))))}
abbrev VA:IC:=(.Z 2 3 13 0 1 [] (.z 4 2 1 5 []
 (.s [.v 0,.q,.nV .A 0 (some 4),.ld .A (some 4),.v 0,.q,.h 0 4,.d,.v 5,.C yT [.F,.B,.A],.t 0,.e .A 0,.e .B 1,.t 1,.t 1] [(6,1),(8,0)] [5]
 (.s [.v 0,.v 6,.p (.vM .B),.h 0 4,.st .A .C 1] [] [6]
 (.g [.v 7,.v 8,.bY [.A] 1,.bB .C .A none,.t 0] [(7,0)] [8])))))
abbrev Al:Fn:={np:=2,nv:=10,res:=[(9,none)],body:=
(.s [.mv (.c (.ag))] [] [9]
 (.s [.nl none] [(7,0)] []
 (.seq (.s [.v 1,.n,.k 0] [(4,2),(3,1),(2,0)] [1]
 (.o 0 VA))
 (.m 7 9 [0,2,3,4,7]
 .ret))))}
abbrev VB:IC:=(.seq (.i [.v 4,.f 5 0,.l,.L .C .A,.t 0,.xv 0 6,.pick .B .A (.c (.bool false))] [] [] 39 0 .skip (.exit 4))
 (.seq (.block 5 (.g [.f 5 3,.l,.v 2,.i,.l,.v 4,.i,.l,.f 5 3,.l,.v 3,.i,.l,.v 4,.i,.l,.E .I .A,.t 0,.xv 0 1,.xf 1 5 2,.xl 2,.xv 3 2,.x 4 (.bW .B .A 1),.xl 5,.xv 6 4,.x 7 (.bW .B .A 1),.xl 8,.x 9 (.bW .I .A 1),.x 10 (.ld .A none),.xv 11 1,.xf 12 5 2,.xl 13,.xv 14 3,.x 15 (.bW .B .A 1),.xl 16,.xv 17 4,.x 18 (.bW .B .A 1),.xl 19,.x 20 (.bW .I .A 1),.x 21 (.ld .A none),.x 22 (.bin .eql (.t 11) .A),.pick (.t 23) .A (.c (.bool false)),.t 0] [(6,0)] []))
 (.U 4 [])))
abbrev VC:IC:=(.seq (.i [.v 3,.bin .geq .A (.i 0)] [] [] 21 0 .skip (.exit 2))
 (.seq (.block 3 (.s [.v 1,.v 2,.i,.d,.v 1,.v 3,.i,.d,.E .E .A,.t 0] [(6,0)] []
 (.seq (.k 0 4 []
 (.o 4 VB))
 (.j [.v 6] [] [4,6] 84 0 (.g [.v 7,.v 3,.i,.d,.t 0] [(8,0)] [])))))
 (.g [.v 3,.S .A (.i 1),.t 0] [(3,0)] [])))
abbrev VD:IC:=(.seq (.w [.v 2,.v 1,.n,.L .C .A] [] [] 15 0)
 (.seq (.block 1 (.s [.mv (.i (-1))] [(8,0)] []
 (.seq (.s [.v 2,.S .A (.i 1),.t 0] [(3,0)] []
 (.o 2 VC))
 (.seq (.j [.v 8,.L .A (.i 0)] [] [3] 90 0 (.m 9 8 []
 (.U 9 [])))
 (.g [.v 7,.v 8,.bY [.A] 1,.bB .C .A none,.t 0] [(7,0)] [8])))))
 (.U 2 [])))
abbrev Am:Fn:={np:=2,nv:=11,res:=[(10,none)],body:=
(.s [.cz (.v 0),.mv (.c (.ag))] [(5,1)] [0,10]
 (.s [.nl none] [(7,0)] []
 (.k 0 9 []
 (.seq (.k 0 2 []
 (.o 0 VD))
 (.m 7 10 [1,2,5,7,9]
 .ret)))))}
abbrev Ao:Fn:={np:=1,nv:=2,res:=[(1,none)],body:=
(.s [.b] [] [1]
 (.s [.v 0,.v 0,.N .B .A,.t 0] [(1,0)] [0]
 .ret))}
end Ab
