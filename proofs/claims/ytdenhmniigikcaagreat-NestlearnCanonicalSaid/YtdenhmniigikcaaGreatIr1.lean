/- The functions of the program as small texts, printed by a tool of mine. Condition: none. -/
import Derived.Test.YtdenhmniigikcaaGreatIr0
set_option linter.all false
namespace Ab
abbrev aeB:IC:=(.r [.c 5 6] [] [] 29 0
 (.seq (.cond 29 .skip (.exit 0))
 (.seq (.block 1 (.s [.v 5,.bd (.v 7) (.v 5) 1,.d,.t 2,.t 1] [(10,1),(9,0)] []
 (.g [.v 8,.t 0,.yv 0 9,.y 1 (.mv .A),.xv 0 3,.xv 1 10,.x 2 (.bd .B .A 1),.x 3 (.ld .A none),.y 6 (.pick .E .A (.c (.bool false))),.pick .H (.c (.bool true)) .A,.t 0] [(8,0)] [9,10])))
 (.g [.A (.v 5) (.i 1),.t 0] [(5,0)] []))))
abbrev aeC:IC:=(.r [.c 14 15] [] [] 57 0
 (.seq (.cond 57 .skip (.exit 4))
 (.seq (.block 5 (.s [.bd (.v 16) (.v 14) 2,.ld .A (some 2),.p (.ff 2),.iF .A .B 2] [(17,0)] []
 (.s [.v 12,.q,.h 0 12,.d,.q,.h 0 0,.d,.fg (.v 17) (.i 0) 2 none,.l,.bd .C .A 1,.d,.fg (.v 17) (.i 1) 2 none,.l,.bd .C .A 1,.d,.t 0] [(19,0)] []
 (.j [.fg (.v 17) (.i 0) 2 none,.l,.v 2,.E .B .A,.t 0,.xv 0 3,.x 1 (.fg (.v 17) (.i 1) 2 none),.xl 2,.x 3 (.bd .C .A 1),.x 4 (.ld .A none),.pick .F .A (.c (.bool false)),.t 0,.xv 0 18,.x 1 (.not .A),.x 2 (.mv .A),.yv 0 19,.yv 1 20,.y 2 (.kl nX [.B,.A]),.y 3 (.bin .lss .A (.i 0)),.x 7 (.pick .E (.c (.bool true)) .A),.pick .I .A (.c (.bool false))] [] [17] 95 0 (.g [.v 19,.t 0,.mv (.c (.bool true))] [(20,1),(18,0)] [19])))))
 (.g [.A (.v 14) (.i 1),.t 0] [(14,0)] [19]))))
abbrev aeD:IC:=(.r [.L (.v 11) (.i 1025)] [] [] 50 0
 (.seq (.cond 50 .skip (.exit 2))
 (.seq (.block 3 (.s [.v 11,.t 0] [(13,0)] []
 (.s [.mv (.c (.ae))] [(20,0)] []
 (.s [.b] [(18,0)] []
 (.seq (.s [.v 12,.v 13,.eZ OD [.B,.A],.n,.k 0] [(16,2),(15,1),(14,0)] [13]
 (.o 4 aeC))
 (.j [.v 18] [] [14,15,16,18] 98 0 (.s [.v 20,.C ts [.A],.t 0,.mv (.c (.bool true)),.k 0] [(21,2),(22,1),(23,0)] [2,3,11,12,20]
 .ret)))))))
 (.g [.A (.v 11) (.i 1),.t 0] [(11,0)] [20]))))
abbrev EI:Fn:={np:=4,nv:=24,res:=[(21,none),(22,none),(23,none)],body:=
(.s [.eR (.v 1),.mv (.c (.ae)),.b,.k 0] [(4,3)] [1,21,22,23]
 (.s [.b] [(8,0)] []
 (.seq (.s [.v 0,.cK (.v 4) (some 10),.C OE [.B,.A],.v 2,.i,.d,.n,.k 0] [(7,2),(6,1),(5,0)] []
 (.o 0 aeB))
 (.seq (.j [.v 8,.not .A] [] [5,6,7,8] 45 0 (.s [.mv (.c (.ae)),.b,.k 0] [(21,2),(22,1),(23,0)] [0,2,3,4]
 .ret))
 (.s [.v 0,.cK (.v 4) (some 10),.p (.can OF [.B,.A]),.t 0] [(12,0)] [0,4]
 (.seq (.s [.k 0] [(11,0)] []
 (.o 2 aeD))
 (.s [.mv (.c (.ae)),.b,.k 3] [(21,2),(22,1),(23,0)] [2,3,11,12]
 .ret)))))))}
abbrev EJ:Fn:={np:=1,nv:=3,res:=[(2,none)],body:=
(.s [.eR (.v 0),.k 0] [(1,1)] [0,2]
 (.s [.dB (.v 1) 0 (some 10),.h 0 5,.l,.n,.t 0] [(2,0)] [1]
 .ret))}
abbrev EK:Fn:={np:=1,nv:=2,res:=[(1,none)],body:=
(.s [.mv (.c (.ae))] [] [1]
 (.s [.v 0,.C vi [.A],.t 0] [(1,0)] [0]
 .ret))}
abbrev aeE:IC:=(.r [.c 1 2] [] [] 12 0
 (.seq (.cond 12 .skip (.exit 0))
 (.seq (.block 1 (.s [.bd (.v 3) (.v 1) 1,.d,.t 0] [(5,0)] []
 (.g [.v 4,.v 5,.p (.JN .A),.cp [.A] 1,.cu .D .A none,.t 0] [(4,0)] [5])))
 (.g [.A (.v 1) (.i 1),.t 0] [(1,0)] []))))
abbrev EL:Fn:={np:=1,nv:=7,res:=[(6,none)],body:=
(.s [.mv (.c (.str []))] [] [6]
 (.s [.v 0,.n,.iH (.i 0) .A [.ik 4 0] none,.t 0] [(4,0)] []
 (.seq (.s [.v 0,.n,.k 0] [(3,2),(2,1),(1,0)] [0]
 (.o 0 aeE))
 (.s [.v 4,.p (.zK .A),.t 0] [(6,0)] [1,2,3,4]
 .ret))))}
abbrev EM:Fn:={np:=2,nv:=4,res:=[(3,none)],body:=
(.s [.eR (.v 0),.b] [(2,1)] [0,3]
 (.s [.v 1,.bin .geq .A (.i 0),.t 0,.xv 0 1,.xf 1 2 5,.xl 2,.x 3 (.len .A),.x 4 (.bin .lss .D .A),.pick .F .A (.c (.bool false)),.t 0] [(3,0)] [1,2]
 .ret))}
abbrev aeF:IC:=(.seq (.w [.v 1,.f 2 5,.d,.n,.L .D .A] [] [] 13 0)
 (.seq (.block 1 (.s [.v 3,.f 2 5,.d,.n,.iH .A .A [.bool false,.ae] (some 2),.cp [.A] 1,.cu .F .A none,.t 0] [(3,0)] []
 (.g [.v 3,.v 1,.i,.d,.v 1,.ie [.bool false,.ae] [(0,1,(.c (.bool true)))],.bd .C .B 2,.st .A .B 2] [] [])))
 (.g [.v 1,.A .A (.i 1),.t 0] [(1,0)] [])))
abbrev aeG:IC:=(.seq (.i [.v 6,.f 2 5,.d,.n,.L .D .A] [] [] 42 0 .skip (.exit 6))
 (.seq (.block 7 (.s [.ld (.v 2) (some 10),.v 3,.v 5,.v 6,.eZ EN [.D,.C,.B,.A],.p (.ff 2),.iF .A .B 2] [(7,0)] []
 (.j [.f 7 0,.l,.v 3,.v 5,.i,.d,.v 6,.bd .B .A 2,.h 0 0,.d,.p (.beq true .I .A),.t 0,.yf 0 7 0,.yl 1,.y 2 (.mv .A),.xf 0 7 1,.xl 1,.xv 2 3,.xv 3 5,.x 4 (.bd .B .A 1),.x 5 (.ld .A none),.xv 6 6,.x 7 (.bd .B .A 2),.x 8 (.dB .A 1 none),.x 9 (.ld .A none),.x 10 (.kl xM [.I,.A]),.x 11 (.not .A),.y 15 (.pick (.t 12) .A (.c (.bool false))),.pick (.t 16) (.c (.bool true)) .A] [] [] 78 0 (.s [.v 3,.v 5,.i,.d,.v 6,.cK (.v 7) (some 2),.bd .C .B 2,.st .A .B 2] [] [4,7]
 (.g [.mv (.c (.bool true))] [(4,0)] [])))))
 (.g [.v 6,.A .A (.i 1),.t 0] [(6,0)] [7])))
abbrev aeH:IC:=(.seq (.i [.v 5,.f 2 5,.d,.n,.L .D .A] [] [] 35 0 .skip (.exit 4))
 (.seq (.block 5 (.s [.k 0] [(6,0)] []
 (.o 6 aeG)))
 (.g [.v 5,.A .A (.i 1),.t 0] [(5,0)] [6])))
abbrev aeI:IC:=(.seq (.i [.v 4] [] [4,5] 30 0 .skip (.exit 2))
 (.block 3 (.s [.b] [(4,0)] []
 (.s [.k 0] [(5,0)] []
 (.o 4 aeH)))))
abbrev EO:Fn:={np:=1,nv:=9,res:=[(8,none)],body:=
(.s [.p (.sJ (.v 0) (some 10)),.mv (.c (.ae))] [(2,1)] [0,8]
 (.s [.nl none] [(3,0)] []
 (.seq (.s [.k 0] [(1,0)] []
 (.o 0 aeF))
 (.seq (.s [.mv (.c (.bool true))] [(4,0)] [1]
 (.o 2 aeI))
 (.s [.v 3,.t 0] [(8,0)] [2,3]
 .ret)))))}
abbrev aeJ:IC:=(.seq (.w [.v 1,.f 2 5,.l,.n,.L .D .A] [] [] 12 0)
 (.seq (.block 1 (.s [.v 3,.f 2 5,.l,.n,.iH .A .A [.bool false] none,.cp [.A] 1,.cu .F .A none,.t 0] [(3,0)] []
 (.g [.v 3,.v 1,.i,.d,.v 1,.i,.st .A (.c (.bool true)) 1] [] [])))
 (.g [.v 1,.A .A (.i 1),.t 0] [(1,0)] [])))
abbrev aeK:IC:=(.seq (.i [.v 6,.f 2 5,.l,.n,.L .D .A] [] [] 40 0 .skip (.exit 6))
 (.seq (.block 7 (.j [.v 3,.v 5,.i,.d,.v 6,.i,.d,.not .A,.t 0,.x 0 (.cK (.v 2) (some 10)),.xv 1 3,.xv 2 5,.xv 3 6,.x 4 (.qN EP [.D,.C,.B,.A]),.pick .F .A (.c (.bool false))] [] [] 57 0 (.s [.v 3,.v 5,.i,.d,.v 6,.i,.st .A (.c (.bool true)) 1] [] [4]
 (.g [.mv (.c (.bool true))] [(4,0)] []))))
 (.g [.v 6,.A .A (.i 1),.t 0] [(6,0)] [])))
abbrev aeL:IC:=(.seq (.i [.v 5,.f 2 5,.l,.n,.L .D .A] [] [] 33 0 .skip (.exit 4))
 (.seq (.block 5 (.s [.k 0] [(6,0)] []
 (.o 6 aeK)))
 (.g [.v 5,.A .A (.i 1),.t 0] [(5,0)] [6])))
abbrev aeM:IC:=(.seq (.i [.v 4] [] [4,5] 28 0 .skip (.exit 2))
 (.block 3 (.s [.b] [(4,0)] []
 (.s [.k 0] [(5,0)] []
 (.o 4 aeL)))))
abbrev ER:Fn:={np:=1,nv:=8,res:=[(7,none)],body:=
(.s [.eR (.v 0),.mv (.c (.ae))] [(2,1)] [0,7]
 (.s [.nl none] [(3,0)] []
 (.seq (.s [.k 0] [(1,0)] []
 (.o 0 aeJ))
 (.seq (.s [.mv (.c (.bool true))] [(4,0)] [1]
 (.o 2 aeM))
 (.s [.v 3,.t 0] [(7,0)] [2,3]
 .ret)))))}
abbrev ES:Fn:={np:=2,nv:=4,res:=[(3,some (some 2))],body:=
(.s [.eR (.v 0),.ks [.bool false,.ae] (some 2)] [(2,1),(3,0)] [0]
 (.seq (.j [.v 1,.n,.G .A (.i 1024),.t 0,.yf 0 2 0,.yl 1,.y 2 (.mv .A),.xf 0 2 1,.xl 1,.xv 2 1,.x 3 (.kl ET [.B,.A]),.x 4 (.bin .leq .A (.i 0)),.y 8 (.pick .F .A (.c (.bool false))),.pick .J (.c (.bool true)) .A] [] [] 18 0 (.s [.cK (.v 2) (some 2),.st (.v 3) .A 2] [] [1,2]
 .ret))
 (.s [.v 1,.ie [.bool false,.ae] [(0,1,(.c (.bool true))),(1,1,.A)],.st (.v 3) .A 2] [] [1,2]
 .ret)))}
abbrev aeN:IC:=(.seq (.i [.v 8,.f 5 2,.l,.L .C .A] [] [] 29 0 .skip (.exit 4))
 (.seq (.block 5 (.g [.v 9,.f 5 9,.l,.v 2,.i,.l,.v 4,.i,.l,.v 8,.i,.l,.f 7 5,.l,.n,.M .D .A,.f 7 9,.l,.v 3,.i,.l,.v 6,.i,.l,.v 8,.i,.l,.A (.t 11) .A,.cp [.A] 1,.app (.t 28) .A none,.t 0] [(9,0)] []))
 (.g [.v 8,.A .A (.i 1),.t 0] [(8,0)] [])))
abbrev aeO:IC:=(.seq (.i [.v 6,.f 7 3,.l,.L .C .A] [] [] 23 0 .skip (.exit 2))
 (.seq (.block 3 (.s [.nl none] [(9,0)] []
 (.seq (.s [.k 0] [(8,0)] []
 (.o 4 aeN))
 (.g [.v 10,.v 9,.cp [.A] 1,.cu .C .A none,.t 0] [(10,0)] [8,9]))))
 (.g [.v 6,.A .A (.i 1),.t 0] [(6,0)] [])))
abbrev aeP:IC:=(.seq (.w [.v 4,.f 5 3,.l,.L .C .A] [] [] 17 0)
 (.seq (.block 1 (.s [.k 0] [(6,0)] []
 (.o 2 aeO)))
 (.g [.v 4,.A .A (.i 1),.t 0] [(4,0)] [6])))
abbrev EU:Fn:={np:=4,nv:=12,res:=[(11,none)],body:=
(.s [.eR (.v 0),.eR (.v 1),.mv (.c (.ae))] [(5,2),(7,1)] [0,1,11]
 (.s [.nl none] [(10,0)] []
 (.seq (.s [.k 0] [(4,0)] []
 (.o 0 aeP))
 (.s [.v 10,.t 0] [(11,0)] [2,3,4,5,7,10]
 .ret))))}
abbrev EV:Fn:={np:=1,nv:=2,res:=[(1,none)],body:=
(.s [.b] [] [1]
 (.s [.v 0,.bin .geq .A (.i 1),.t 0,.xv 0 0,.x 1 (.bin .leq .A (.i 1024)),.pick .C .A (.c (.bool false)),.t 0] [(1,0)] [0]
 .ret))}
abbrev EW:Fn:={np:=2,nv:=3,res:=[(2,none)],body:=
(.s [.b] [] [2]
 (.s [.v 0,.v 1,.C EX [.B,.A],.bin .geq .A (.i 0),.t 0] [(2,0)] [0,1]
 .ret))}
abbrev EY:Fn:={np:=2,nv:=3,res:=[(2,none)],body:=
(.s [.b] [] [2]
 (.s [.v 0,.L .A (.i 0),.t 0,.yv 0 0,.y 1 (.ld (.v 1) none),.y 2 (.bin .geq .B .A),.pick .D (.c (.bool true)) .A,.t 0] [(2,0)] [0,1]
 .ret))}
abbrev EZ:Fn:={np:=2,nv:=3,res:=[(2,none)],body:=
(.s [.b] [] [2]
 (.s [.v 0,.L .A (.i 0),.t 0,.yv 0 0,.y 1 (.ld (.v 1) none),.y 2 (.bin .geq .B .A),.pick .D (.c (.bool true)) .A,.t 0] [(2,0)] [0,1]
 .ret))}
abbrev aeQ:IC:=(.seq (.i [.v 2,.v 3,.n,.L .C .A] [] [] 32 0 .skip (.exit 2))
 (.seq (.block 3 (.j [.v 3,.v 2,.i,.d,.v 3,.v 2,.S .A (.i 1),.bd .C .A 1,.d,.N .F .A] [] [] 44 0 (.s [.v 0,.v 1,.v 3,.v 2,.i,.d,.bd .F .E 1,.st .A .B 1] [] []
 (.g [.v 1,.A .A (.i 1),.t 0] [(1,0)] []))))
 (.g [.v 2,.A .A (.i 1),.t 0] [(2,0)] [])))
abbrev aeR:IC:=(.seq (.w [.v 1,.v 0,.n,.L .C .A] [] [] 13 0)
 (.seq (.block 1 (.j [.v 0,.v 1,.i,.d,.v 0,.v 1,.S .A (.i 1),.bd .C .A 1,.d,.E .F .A] [] [] 25 0 (.s [.v 0,.v 1,.p (.pI .B (some .A) none 1),.t 0] [(3,0)] []
 (.seq (.s [.k 1] [(2,0)] []
 (.o 2 aeQ))
 (.s [.v 0,.v 1,.p (.pI .B (some .A) none 1),.p (.tY .A [.int 0] none)] [] [2,3]
 (.s [.v 0,.v 1,.p (.pI .B none (some .A) 1),.t 0] [(4,0)] [0,1]
 .ret))))))
 (.g [.v 1,.A .A (.i 1),.t 0] [(1,0)] [])))
abbrev E0:Fn:={np:=1,nv:=5,res:=[(4,none)],body:=
(.s [.mv (.c (.ae))] [] [4]
 (.seq (.j [.v 0,.n,.L .A (.i 2)] [] [] 8 0 (.s [.v 0,.t 0] [(4,0)] [0]
 .ret))
 (.seq (.s [.k 1] [(1,0)] []
 (.o 0 aeR))
 (.s [.v 0,.t 0] [(4,0)] [0,1]
 .ret))))}
abbrev aeS:IC:=(.r [.c 5 6] [] [] 24 0
 (.seq (.cond 24 .skip (.exit 0))
 (.seq (.block 1 (.s [.bd (.v 7) (.v 5) 1,.d,.t 0] [(8,0)] []
 (.s [.v 0,.q,.h 0 12,.d,.v 3,.i,.d,.v 0,.q,.h 0 11,.d,.v 0,.q,.dB .A 0 (some 10),.h 0 6,.d,.v 8,.i,.d,.v 2,.i,.d,.bd (.t 11) .A 1,.d,.bd (.t 17) .A 1,.d,.t 0] [(10,0)] []
 (.g [.v 9,.v 0,.q,.dB .A 0 (some 10),.h 0 9,.d,.v 10,.i,.d,.v 0,.q,.dB .A 0 (some 10),.h 0 7,.d,.v 8,.i,.d,.v 2,.i,.d,.bd (.t 11) .A 1,.d,.v 4,.i,.d,.cp [.A] 1,.app (.t 25) .A none,.t 0] [(9,0)] [8,10]))))
 (.g [.A (.v 5) (.i 1),.t 0] [(5,0)] []))))
abbrev E1:Fn:={np:=5,nv:=12,res:=[(11,none)],body:=
(.s [.mv (.c (.ae))] [] [11]
 (.s [.nl none] [(9,0)] []
 (.seq (.s [.v 0,.q,.h 0 12,.d,.v 1,.i,.d,.n,.k 0] [(7,2),(6,1),(5,0)] [1]
 (.o 0 aeS))
 (.s [.v 9,.t 0] [(11,0)] [0,2,3,4,5,6,7,9]
 .ret))))}
abbrev aeT:IC:=(.r [.c 8 9] [] [] 47 0
 (.seq (.cond 47 .skip (.exit 2))
 (.seq (.block 3 (.s [.v 8,.t 0] [(11,0)] []
 (.s [.v 5,.v 0,.q,.h 0 15,.d,.v 2,.i,.d,.v 10,.i,.d,.v 11,.i,.d,.p (.kB (.t 13) [.A])] [] []
 (.g [.v 5,.v 0,.q,.h 0 15,.d,.v 11,.i,.d,.v 10,.i,.d,.v 2,.i,.d,.p (.kB (.t 13) [.A])] [] [11]))))
 (.g [.A (.v 8) (.i 1),.t 0] [(8,0)] []))))
abbrev aeU:IC:=(.r [.c 6 7] [] [] 39 0
 (.seq (.cond 39 .skip (.exit 0))
 (.seq (.block 1 (.s [.v 6,.t 0] [(10,0)] []
 (.s [.v 0,.q,.h 0 12,.d,.n,.k 0] [(9,1),(8,0)] []
 (.o 2 aeT))))
 (.g [.A (.v 6) (.i 1),.t 0] [(6,0)] [8,9,10]))))
abbrev E3:Fn:={np:=3,nv:=13,res:=[(12,none)],body:=
(.s [.eR (.v 1),.mv (.c (.ae))] [(3,1)] [1,12]
 (.s [.cK (.v 3) none,.v 2,.i,.l,.p (.zR .A),.cK (.v 3) none,.v 2,.i,.l,.p (.DQ .A (.c (.ik 7 (8)))),.p (.zR .A),.p (.lZ [.G,.A] none),.ks [.ae] none,.st .A .B 1] [(4,1)] []
 (.s [.p (.zU Aw [(.v 4),(.v 3)]),.t 0] [(5,0)] [3]
 (.s [.v 5,.v 0,.q,.h 0 14,.d,.v 2,.i,.d,.p (.kB .H [.A])] [] []
 (.seq (.s [.v 0,.q,.dB .A 0 (some 10),.h 0 0,.d,.k 0] [(7,1),(6,0)] []
 (.o 0 aeU))
 (.s [.ld (.v 4) none,.t 0] [(12,0)] [0,2,4,5,6,7]
 .ret))))))}
abbrev aeV:IC:=(.r [.c 1 2] [] [] 12 0
 (.seq (.cond 12 .skip (.exit 0))
 (.seq (.block 1 (.s [.bd (.v 3) (.v 1) 1,.d,.t 0] [(5,0)] []
 (.s [.v 4,.v 5,.n,.A .C .A,.t 0] [(4,0)] [5]
 (.j [.v 4,.L .A (.i 0)] [] [] 20 0 .bad))))
 (.g [.A (.v 1) (.i 1),.t 0] [(1,0)] []))))
abbrev aeW:IC:=(.r [.c 6 7] [] [] 28 0
 (.seq (.cond 28 .skip (.exit 2))
 (.seq (.block 3 (.s [.bd (.v 8) (.v 6) 1,.d,.t 0] [(10,0)] []
 (.g [.v 9,.v 10,.cu .B .A none,.t 0] [(9,0)] [10])))
 (.g [.A (.v 6) (.i 1),.t 0] [(6,0)] []))))
abbrev E4:Fn:={np:=1,nv:=12,res:=[(11,none)],body:=
(.s [.mv (.c (.ae))] [] [11]
 (.s [.k 0] [(4,0)] []
 (.seq (.s [.v 0,.n,.k 0] [(3,2),(2,1),(1,0)] []
 (.o 0 aeV))
 (.s [.v 4,.p (.can xN [(.c (.ae)),.A]),.t 0] [(9,0)] [1,2,3,4]
 (.seq (.s [.v 0,.n,.k 0] [(8,2),(7,1),(6,0)] [0]
 (.o 2 aeW))
 (.s [.v 9,.t 0] [(11,0)] [6,7,8,9]
 .ret))))))}
abbrev aeX:IC:=(.r [.c 5 6] [] [] 30 0
 (.seq (.cond 30 .skip (.exit 0))
 (.seq (.block 1 (.s [.v 5,.bd (.v 7) (.v 5) 1,.d,.t 2,.t 1] [(9,1),(8,0)] []
 (.g [.v 0,.v 8,.v 0,.q,.h 0 1,.d,.v 1,.i,.d,.v 2,.bD [.A] 1,.v 0,.q,.h 0 1,.d,.v 3,.i,.d,.v 4,.q,.dB .A 0 (some 10),.h 0 0,.d,.v 4,.q,.dB .A 0 (some 10),.h 0 1,.d,.A .F .A,.v 9,.A .B .A,.bD [.A] 1,.bD [(.t 23),(.t 21),(.t 14),.A] 1,.eZ tt [(.t 32),(.t 31),.A]] [] [8,9])))
 (.g [.A (.v 5) (.i 1),.t 0] [(5,0)] []))))
abbrev E5:Fn:={np:=4,nv:=10,res:=[],body:=
(.s [.v 0,.q,.h 0 0,.d,.t 0] [(4,0)] []
 (.s [.v 4,.q,.h 0 15,.d,.v 1,.i,.d,.v 2,.i,.d,.v 3,.i,.d,.n,.k 0] [(7,2),(6,1),(5,0)] []
 (.o 0 aeX)))}
abbrev E6:Fn:={np:=1,nv:=2,res:=[(1,none)],body:=
(.s [.b] [] [1]
 (.s [.v 0,.v 0,.N .B .A,.t 0] [(1,0)] [0]
 .ret))}
abbrev aeY:IC:=(.seq (.w [.v 2,.v 0,.n,.L .C .A,.t 0,.xv 0 2,.xv 1 1,.x 2 (.len .A),.x 3 (.bin .lss .C .A),.pick .E .A (.c (.bool false)),.t 0,.xv 0 0,.xv 1 2,.x 2 (.bd .B .A 1),.x 3 (.ld .A none),.xv 4 1,.xv 5 2,.x 6 (.bd .B .A 1),.x 7 (.ld .A none),.x 8 (.bin .eql .E .A),.pick .J .A (.c (.bool false))] [] [] 26 0)
 (.block 1 (.g [.v 2,.A .A (.i 1),.t 0] [(2,0)] [])))
abbrev E7:Fn:={np:=2,nv:=4,res:=[(3,none)],body:=
(.s [.k 0] [] [3]
 (.s [.k 0] [(2,0)] []
 (.seq (.o 0 aeY)
 (.s [.v 2,.t 0] [(3,0)] [0,1,2]
 .ret))))}
abbrev E8:Fn:={np:=2,nv:=5,res:=[(3,none)],body:=
(.s [.k 0] [] [3]
 (.s [.v 0,.v 1,.C Ax [.B,.A],.t 0] [(2,0)] []
 (.seq (.block 0 (.i [.v 2,.v 0,.n,.E .C .A,.t 0,.xv 0 2,.xv 1 1,.x 2 (.len .A),.x 3 (.bin .eql .C .A),.pick .E .A (.c (.bool false)),.t 0] [] [] 9 0 (.s [.k 0] [(3,0)] [0,1,2]
 .ret) (.seq (.s [.v 2,.v 0,.n,.E .C .A,.t 0] [(4,0)] []
 (.iX 4 .skip (.g [.v 2,.v 1,.n,.L .C .A,.t 0,.xv 0 0,.xv 1 2,.x 2 (.bd .B .A 1),.x 3 (.ld .A none),.xv 4 1,.xv 5 2,.x 6 (.bd .B .A 1),.x 7 (.ld .A none),.x 8 (.bin .lss .E .A),.pick .J .A (.c (.bool false)),.t 0] [(4,0)] [0,1,2])))
 (.iX 4 (.s [.mv (.i (-1))] [(3,0)] [0,1,2,4]
 .ret) .skip))))
 (.s [.k 1] [(3,0)] [0,1,2,4]
 .ret))))}
abbrev aeZ:IC:=(.r [.c 2 3] [] [] 25 0
 (.seq (.cond 25 .skip (.exit 0))
 (.seq (.block 1 (.s [.bd (.v 4) (.v 2) 1,.d,.t 0] [(5,0)] []
 (.s [.v 0,.v 5,.eZ rH [.B,.A],.t 0,.e .A 0,.e .B 1,.t 1,.t 1] [(8,1),(6,0)] []
 (.seq (.j [.v 6,.N .A (.i 0)] [] [] 35 0 (.s [.v 6,.mv (.c (.ae)),.b,.t 2] [(10,2),(11,1),(12,0)] [0,2,3,4,5,6,7,8]
 .ret))
 (.s [.v 7,.v 8,.p (.tZ .B 1 .A (.int 0) true),.t 0,.e .A 0,.e .B 1,.t 1,.t 1] [(9,0)] [6,8]
 (.j [.v 9,.not .A] [] [9] 44 0 (.s [.v 5,.t 0,.mv (.c (.bool true)),.k 0] [(10,2),(11,1),(12,0)] [0,2,3,4,5,7]
 .ret)))))))
 (.g [.A (.v 2) (.i 1),.t 0] [(2,0)] [5]))))
abbrev E9:Fn:={np:=1,nv:=13,res:=[(10,none),(11,none),(12,none)],body:=
(.s [.mv (.c (.ae)),.b,.k 0] [] [10,11,12]
 (.s [.v 0,.eZ Ay [.A],.t 0,.e .A 0,.e .B 1,.t 1,.t 1] [(7,1),(1,0)] []
 (.seq (.j [.v 1,.N .A (.i 0)] [] [] 19 0 (.s [.v 1,.mv (.c (.ae)),.b,.t 2] [(10,2),(11,1),(12,0)] [0,1,7]
 .ret))
 (.seq (.s [.v 0,.eZ Fa [.A],.n,.k 0] [(4,2),(3,1),(2,0)] [1]
 (.o 0 aeZ))
 (.s [.mv (.c (.ae)),.b,.k 0] [(10,2),(11,1),(12,0)] [0,2,3,4,7]
 .ret)))))}
abbrev Fb:Fn:={np:=1,nv:=2,res:=[(1,none)],body:=
(.s [.mv (.c (.ae))] [] [1]
 (.s [.v 0,.C Fc [.A],.C Az [.A],.t 0] [(1,0)] [0]
 .ret))}
abbrev ae0:IC:=(.r [.c 1 2] [] [] 16 0
 (.seq (.cond 16 .skip (.exit 0))
 (.seq (.block 1 (.s [.v 1,.bd (.v 3) (.v 1) 1,.d,.t 2,.t 1] [(8,1),(4,0)] []
 (.s [.v 0,.v 4,.eZ rH [.B,.A],.t 0,.e .A 0,.e .B 1,.t 1,.t 1] [(7,1),(5,0)] [4]
 (.seq (.j [.v 5,.N .A (.i 0)] [] [] 27 0 (.s [.v 5,.mv (.c (.oT)),.t 1] [(9,1),(10,0)] [0,1,2,3,5,6,7,8]
 .ret))
 (.g [.v 6,.v 7,.v 8,.p (.tX .C 1 .B .A)] [] [5,7,8])))))
 (.g [.A (.v 1) (.i 1),.t 0] [(1,0)] []))))
abbrev Fe:Fn:={np:=1,nv:=11,res:=[(9,none),(10,none)],body:=
(.s [.mv (.c (.oT)),.k 0] [] [9,10]
 (.s [.p (.wM),.t 0] [(6,0)] []
 (.seq (.s [.v 0,.q,.h 0 10,.d,.n,.k 0] [(3,2),(2,1),(1,0)] []
 (.o 0 ae0))
 (.s [.v 6,.t 0,.k 0] [(9,1),(10,0)] [0,1,2,3,6]
 .ret))))}
abbrev ae1:IC:=(.r [.c 4 5] [] [] 30 0
 (.seq (.cond 30 .skip (.exit 0))
 (.seq (.block 1 (.s [.bd (.v 6) (.v 4) 2,.ld .A (some 2),.p (.ff 2),.iF .A .B 2] [(7,0)] []
 (.s [.v 0,.q,.dB .A 0 (some 10),.ld .A (some 10),.cK (.v 7) (some 2),.v 1,.C Ff [.B,.A],.C Fg [.D,.A],.t 0,.e .A 0,.e .B 1,.t 1,.t 1] [(9,1),(8,0)] [7]
 (.seq (.j [.v 8,.N .A (.i 0)] [] [] 45 0 (.s [.v 8,.mv (.c (.str [])),.t 1] [(11,1),(12,0)] [0,1,2,3,4,5,6,8,9]
 .ret))
 (.s [.mv (.c (.ik 4 (45)))] [(10,0)] [8]
 (.seq (.j [.v 9] [] [9] 47 0 (.g [.mv (.c (.ik 4 (43)))] [(10,0)] []))
 (.s [.v 3,.v 10,.cp [.A] 1,.cu .C .A none,.t 0] [(3,0)] [10]
 (.g [.v 0,.q,.h 0 12,.d,.v 2,.v 3,.p (.wg .C 1 .B .A)] [] []))))))))
 (.g [.A (.v 4) (.i 1),.t 0] [(4,0)] []))))
abbrev Fh:Fn:={np:=2,nv:=13,res:=[(11,none),(12,none)],body:=
(.s [.mv (.c (.str [])),.k 0] [] [11,12]
 (.s [.v 1,.C xO [.A],.t 0] [(2,0)] []
 (.s [.v 0,.q,.h 0 12,.d,.v 2,.p (.tZ .B 1 .A (.ae) false),.t 0] [(3,0)] []
 (.seq (.s [.v 0,.q,.h 0 11,.d,.v 3,.n,.p (.pI .C (some .A) none 2),.n,.k 0] [(6,2),(5,1),(4,0)] []
 (.o 0 ae1))
 (.s [.v 3,.p (.zK .A),.t 0,.k 0] [(11,1),(12,0)] [0,1,2,3,4,5,6]
 .ret)))))}
abbrev Fi:Fn:={np:=3,nv:=4,res:=[(3,none)],body:=
(.s [.mv (.c (.ae))] [] [3]
 (.s [.v 1,.v 0,.q,.dB .A 0 (some 10),.h 0 0,.d,.v 2,.A .B .A,.bD [.A] 1,.bD [.I,.A] 1,.C tu [.A],.t 0] [(3,0)] [0,1,2]
 .ret))}
abbrev Fj:Fn:={np:=5,nv:=6,res:=[(5,none)],body:=
(.s [.mv (.c (.ae))] [] [5]
 (.s [.v 1,.v 2,.bD [.A] 1,.v 3,.v 0,.q,.dB .A 0 (some 10),.h 0 0,.d,.v 0,.q,.dB .A 0 (some 10),.h 0 1,.d,.A .F .A,.v 4,.A .B .A,.bD [.A] 1,.bD [(.t 17),(.t 15),(.t 14),.A] 1,.C tu [.A],.t 0] [(5,0)] [0,1,2,3,4]
 .ret))}
abbrev ae2:IC:=(.r [.c 7 8] [] [] 27 0
 (.seq (.cond 27 .skip (.exit 2))
 (.seq (.block 3 (.s [.v 7,.t 0] [(9,0)] []
 (.g [.v 2,.v 5,.i,.d,.v 0,.v 5,.v 9,.p (.inv .C [(jj,rI),(iP,AA)] [.B,.A]),.bd .E .A 1,.st .A (.c (.bool true)) 1] [] [9])))
 (.g [.A (.v 7) (.i 1),.t 0] [(7,0)] []))))
abbrev ae3:IC:=(.r [.c 3 4] [] [] 16 0
 (.seq (.cond 16 .skip (.exit 0))
 (.seq (.block 1 (.s [.v 3,.t 0] [(5,0)] []
 (.s [.v 2,.v 5,.v 0,.p (.inv .A [(jj,jl),(iP,nY)] []),.iH .A .A [.bool false] none,.bd .E .D 1,.st .A .B 1] [] []
 (.s [.f 6 1,.d,.k 0] [(8,1),(7,0)] []
 (.o 2 ae2)))))
 (.g [.A (.v 3) (.i 1),.t 0] [(3,0)] [5,7,8]))))
abbrev ae4:IC:=(.r [.c 11 12] [] [] 46 0
 (.seq (.cond 46 .skip (.exit 6))
 (.seq (.block 7 (.s [.v 11,.t 0] [(13,0)] []
 (.g [.v 10,.v 13,.v 2,.v 13,.p (.qN OG [.B,.A]),.bd .E .D 1,.st .A .B 1] [] [13])))
 (.g [.A (.v 11) (.i 1),.t 0] [(11,0)] []))))
abbrev ae5:IC:=(.block 5 (.s [.v 0,.p (.inv .A [(jj,jl),(iP,nY)] []),.iH .A .A [.ae] none,.t 0] [(10,0)] [3,4]
 (.seq (.s [.v 10,.n,.k 0] [(12,1),(11,0)] []
 (.o 6 ae4))
 (.j [.v 0,.ld (.v 6) (some 10),.v 2,.v 10,.eZ OH [.D,.C,.B,.A],.not .A] [] [11,12] 60 0 (.s [.v 10,.t 0] [(14,0)] [0,2,6,10]
 .ret)))))
abbrev Fk:Fn:={np:=2,nv:=15,res:=[(14,none)],body:=
(.s [.p (.sJ (.v 1) (some 10)),.mv (.c (.ae))] [(6,1)] [1,14]
 (.s [.v 0,.p (.inv .A [(jj,jl),(iP,nY)] []),.iH .A .A [.ae] none,.t 0] [(2,0)] []
 (.seq (.s [.v 2,.n,.k 0] [(4,1),(3,0)] []
 (.o 0 ae3))
 (.o 4 ae5))))}
abbrev ae6:IC:=(.r [.c 7 8] [] [] 39 0
 (.seq (.cond 39 .skip (.exit 2))
 (.seq (.block 3 (.s [.v 7,.t 0] [(9,0)] []
 (.g [.v 5,.q,.h 0 11,.d,.v 6,.v 0,.v 6,.v 9,.p (.inv .C [(jj,rI),(iP,AA)] [.B,.A]),.f 2 0,.l,.v 9,.A .B .A,.bD [.A] 1,.eZ vj [(.t 10),.J,.F,.A,(.c (.ae))]] [] [9])))
 (.g [.A (.v 7) (.i 1),.t 0] [(7,0)] []))))
abbrev ae7:IC:=(.r [.c 10 11] [] [] 60 0
 (.seq (.cond 60 .skip (.exit 4))
 (.seq (.block 5 (.s [.v 10,.t 0] [(12,0)] []
 (.s [.v 0,.v 6,.v 12,.p (.inv .C [(jj,rJ),(iP,AB)] [.B,.A]),.t 0,.e .A 0,.e .B 1,.t 1,.t 1] [(13,1),(14,0)] []
 (.g [.v 5,.q,.h 0 13,.d,.v 13,.v 5,.q,.h 0 13,.d,.v 13,.i,.d,.v 6,.v 12,.v 14,.ie [.int 0,.int 0,.int 0] [(0,1,.C),(1,1,.B),(2,1,.A)],.cp [.A] 3,.app .F .A (some 3),.bd (.t 14) (.t 13) 1,.st .A .B 1] [] [12,13,14]))))
 (.g [.A (.v 10) (.i 1),.t 0] [(10,0)] []))))
abbrev ae8:IC:=(.r [.c 3 4] [] [] 27 0
 (.seq (.cond 27 .skip (.exit 0))
 (.seq (.block 1 (.s [.v 3,.t 0] [(6,0)] []
 (.s [.v 5,.q,.h 0 12,.d,.v 6,.v 6,.eZ vj [.C,.B,.A,(.c (.ae)),(.c (.ae))]] [] []
 (.seq (.s [.f 2 1,.l,.k 0] [(8,1),(7,0)] []
 (.o 2 ae6))
 (.s [.f 2 0,.l,.k 0] [(11,1),(10,0)] [7,8]
 (.o 4 ae7))))))
 (.g [.A (.v 3) (.i 1),.t 0] [(3,0)] [6,10,11]))))
abbrev Fl:Fn:={np:=2,nv:=16,res:=[(15,none)],body:=
(.s [.eR (.v 1),.mv (.c (.gI))] [(2,1)] [1,15]
 (.s [.v 0,.cK (.v 2) (some 10),.v 0,.p (.inv .A [(jj,jl),(iP,nY)] []),.p (.can Fm [.A]),.v 0,.p (.inv .A [(jj,jl),(iP,nY)] []),.p (.can Fm [.A]),.v 0,.p (.inv .A [(jj,jl),(iP,nY)] []),.iH .A .A [.ae] none,.ie [.gu,.int 0,.int 0,.int 0,.int 0,.int 0,.ae,.ae,.ae,.ae,.ae,.gI,.gI,.ae] [(0,1,(.t 10)),(1,10,.J),(11,1,.G),(12,1,.D),(13,1,.A)],.p (.sJ .A (some 14)),.t 0] [(5,0)] []
 (.seq (.s [.v 0,.p (.inv .A [(jj,jl),(iP,nY)] []),.k 0] [(4,1),(3,0)] []
 (.o 0 ae8))
 (.s [.v 5,.t 0] [(15,0)] [0,2,3,4,5]
 .ret))))}
abbrev ae9:IC:=(.r [.c 6 7] [] [] 41 0
 (.seq (.cond 41 .skip (.exit 2))
 (.seq (.block 3 (.s [.v 6,.bd (.v 8) (.v 6) 1,.d,.t 2,.t 1] [(10,1),(9,0)] []
 (.j [.v 9] [] [9] 45 0 (.g [.v 0,.q,.h 0 12,.d,.fg (.v 5) (.i 0) 2 none,.l,.v 10,.v 0,.q,.h 0 11,.d,.q,.h 0 0,.d,.fg (.v 5) (.i 0) 2 none,.l,.bd .C .A 1,.d,.fg (.v 5) (.i 1) 2 none,.l,.bd .C .A 1,.d,.v 0,.q,.h 0 12,.d,.q,.h 0 0,.d,.fg (.v 5) (.i 1) 2 none,.l,.bd .C .A 1,.d,.v 10,.i,.d,.eZ vj [(.t 32),(.t 30),(.t 29),(.t 14),.A]] [] [10]))))
 (.g [.A (.v 6) (.i 1),.t 0] [(6,0)] [10]))))
abbrev afa:IC:=(.r [.c 2 3] [] [] 25 0
 (.seq (.cond 25 .skip (.exit 0))
 (.seq (.block 1 (.s [.bd (.v 4) (.v 2) 2,.ld .A (some 2),.p (.ff 2),.iF .A .B 2] [(5,0)] []
 (.s [.v 0,.q,.h 0 12,.d,.q,.h 0 1,.d,.fg (.v 5) (.i 1) 2 none,.l,.bd .C .A 1,.d,.n,.k 0] [(8,2),(7,1),(6,0)] []
 (.o 2 ae9))))
 (.g [.A (.v 2) (.i 1),.t 0] [(2,0)] [5,6,7,8]))))
abbrev afb:IC:=(.r [.c 16 17] [] [] 118 0
 (.seq (.cond 118 .skip (.exit 6))
 (.seq (.block 7 (.s [.v 16,.t 0] [(18,0)] []
 (.j [.v 0,.q,.h 0 11,.d,.q,.h 0 1,.d,.v 18,.i,.d,.fg (.v 15) (.i 0) 2 none,.l,.bd .C .A 1,.d] [] [] 133 0 (.g [.v 0,.q,.h 0 12,.d,.v 18,.fg (.v 15) (.i 1) 2 none,.l,.v 0,.q,.h 0 11,.d,.q,.h 0 0,.d,.v 18,.i,.d,.fg (.v 15) (.i 0) 2 none,.l,.bd .C .A 1,.d,.v 19,.eZ vj [(.t 18),(.t 17),(.t 15),.B,.A]] [] [18]))))
 (.g [.A (.v 16) (.i 1),.t 0] [(16,0)] [18]))))
abbrev afc:IC:=(.r [.c 23 24] [] [] 177 0
 (.seq (.cond 177 .skip (.exit 10))
 (.seq (.block 11 (.s [.v 23,.t 0] [(26,0)] []
 (.g [.v 0,.q,.h 0 11,.d,.f 25 0,.l,.v 0,.q,.h 0 0,.d,.fg (.v 15) (.i 1) 2 none,.l,.f 25 2,.l,.v 26,.p (.inv .F [(jj,rK),(iP,AD),(Fo,vk)] [.D,.B,.A]),.f 25 1,.l,.cp [.A] 1,.v 19,.app .B .A none,.v 0,.q,.dB .A 1 (some 10),.h 0 0,⟨.ld .A none,none,true⟩,.v 0,.q,.dB .A 1 (some 10),.h 0 1,⟨.ld .A none,none,true⟩,.A .F .A,.v 26,.A .B .A,.bD [.A] 1,.eZ vj [(.t 31),(.t 29),(.t 19),(.t 14),.A]] [] [26])))
 (.g [.A (.v 23) (.i 1),.t 0] [(23,0)] []))))
abbrev afd:IC:=(.r [.c 20 21] [] [] 168 0
 (.seq (.cond 168 .skip (.exit 8))
 (.seq (.block 9 (.s [.bd (.v 22) (.v 20) 3,.ld .A (some 3),.p (.ff 3),.iF .A .B 3] [(25,0)] []
 (.s [.v 0,.q,.dB .A 1 (some 10),.h 0 2,.d,.k 0] [(24,1),(23,0)] []
 (.o 10 afc))))
 (.g [.A (.v 20) (.i 1),.t 0] [(20,0)] [23,24,25]))))
abbrev afe:IC:=(.r [.c 12 13] [] [] 94 0
 (.seq (.cond 94 .skip (.exit 4))
 (.seq (.block 5 (.s [.bd (.v 14) (.v 12) 2,.ld .A (some 2),.p (.ff 2),.iF .A .B 2] [(15,0)] []
 (.s [.v 0,.q,.h 0 12,.d,.q,.h 0 0,.d,.fg (.v 15) (.i 0) 2 none,.l,.bd .C .A 1,.d,.fg (.v 15) (.i 1) 2 none,.l,.bd .C .A 1,.d,.t 0] [(19,0)] []
 (.seq (.s [.v 0,.q,.h 0 0,.d,.p (.inv .A [(jj,jl),(iP,nY)] []),.k 0] [(17,1),(16,0)] []
 (.o 6 afb))
 (.s [.v 0,.q,.h 0 13,.d,.fg (.v 15) (.i 0) 2 none,.l,.bd .C .A 1,.d,.n,.k 0] [(22,2),(21,1),(20,0)] [16,17]
 (.o 8 afd))))))
 (.g [.A (.v 12) (.i 1),.t 0] [(12,0)] [15,19,20,21,22]))))
abbrev Fp:Fn:={np:=2,nv:=28,res:=[(27,none)],body:=
(.s [.mv (.c (.ae))] [] [27]
 (.seq (.s [.v 0,.q,.h 0 11,.d,.v 1,.eZ Fq [.B,.A],.n,.k 0] [(4,2),(3,1),(2,0)] []
 (.o 0 afa))
 (.s [.v 0,.q,.h 0 12,.d,.v 1,.eZ Fq [.B,.A],.t 0] [(11,0)] [1,2,3,4]
 (.seq (.s [.v 11,.n,.k 0] [(14,2),(13,1),(12,0)] []
 (.o 4 afe))
 (.s [.v 11,.t 0] [(27,0)] [0,11,12,13,14]
 .ret)))))}
abbrev aff:IC:=(.seq (.w [.v 4,.f 5 1,.l,.L .C .A] [] [] 27 0)
 (.seq (.block 1 (.s [.v 1,.f 5 8,.l,.v 2,.i,.l,.v 4,.i,.l,.bd .I .A 1,.d,.v 3,.bd .B .A 2,.ld .A (some 2),.p (.ff 2),.iF .A .B 2] [(6,0)] []
 (.j [.f 6 0,.l] [] [] 45 0 (.g [.ld (.v 7) (some 2),.f 5 0,.l,.v 4,.A .B .A,.bD [.A] 1,.f 6 1,.l,.bD [.C,.A] 1,.C qv [.A],.C rL [.J,.A],.st (.v 7) .A 2] [] [6]))))
 (.g [.v 4,.A .A (.i 1),.t 0] [(4,0)] [6])))
abbrev afg:IC:=(.seq (.i [.v 10,.f 5 2,.l,.L .C .A,.t 0,.xf 0 11 0,.xl 1,.pick .C .A (.c (.bool false))] [] [] 91 0 .skip (.exit 6))
 (.seq (.block 7 (.s [.v 1,.f 5 9,.l,.v 9,.i,.l,.f 5 7,.l,.v 2,.i,.l,.v 8,.i,.l,.bd .I .A 1,.l,.v 10,.i,.l,.bd (.t 18) .A 1,.d,.v 3,.bd .B .A 2,.ld .A (some 2),.p (.ff 2),.iF .A .B 2] [(12,0)] []
 (.j [.f 12 0,.l] [] [] 119 0 (.g [.ld (.v 7) (some 2),.v 8,.bD [.A] 1,.f 11 1,.l,.f 5 0,.l,.f 5 1,.l,.A .C .A,.v 10,.A .B .A,.bD [.A] 1,.f 12 1,.l,.bD [(.t 12),(.t 10),.C,.A] 1,.C qv [.A],.C rL [(.t 16),.A],.st (.v 7) .A 2] [] [12]))))
 (.g [.v 10,.A .A (.i 1),.t 0] [(10,0)] [12])))
abbrev afh:IC:=(.seq (.i [.v 9,.f 5 5,.l,.n,.L .D .A] [] [] 67 0 .skip (.exit 4))
 (.seq (.block 5 (.s [.v 1,.f 5 6,.l,.v 2,.i,.l,.v 8,.i,.l,.bd .I .A 1,.d,.v 9,.bd .B .A 2,.ld .A (some 2),.p (.ff 2),.iF .A .B 2] [(11,0)] []
 (.s [.k 0] [(10,0)] []
 (.o 6 afg))))
 (.g [.v 9,.A .A (.i 1),.t 0] [(9,0)] [10,11])))
abbrev afi:IC:=(.seq (.i [.v 8,.f 5 0,.l,.L .C .A] [] [] 60 0 .skip (.exit 2))
 (.seq (.block 3 (.s [.k 0] [(9,0)] []
 (.o 4 afh)))
 (.g [.v 8,.A .A (.i 1),.t 0] [(8,0)] [9])))
abbrev Fs:Fn:={np:=4,nv:=14,res:=[(13,some (some 2))],body:=
(.s [.eR (.v 0),.ks [.bool false,.ae] (some 2)] [(5,1),(13,0)] [0]
 (.s [.v 1,.v 2,.i,.d,.v 3,.bd .B .A 2,.ld .A (some 2),.ks [.bool false,.ae] (some 2),.st .A .B 2] [(7,1)] []
 (.seq (.s [.k 0] [(4,0)] []
 (.o 0 aff))
 (.seq (.s [.k 0] [(8,0)] [4]
 (.o 2 afi))
 (.s [.ld (.v 7) (some 2),.st (.v 13) .A 2] [] [1,2,3,5,7,8]
 .ret)))))}
abbrev afj:IC:=(.seq (.w [.v 4,.f 5 1,.l,.L .C .A] [] [] 16 0)
 (.seq (.block 1 (.j [.v 1,.f 5 8,.l,.v 2,.i,.l,.v 4,.i,.l,.bd .I .A 1,.d,.v 3,.i,.d] [] [] 32 0 (.s [.mv (.c (.bool true))] [(9,0)] [1,2,3,4,5]
 .ret)))
 (.g [.v 4,.A .A (.i 1),.t 0] [(4,0)] [])))
abbrev afk:IC:=(.seq (.i [.v 8,.f 5 2,.l,.L .C .A] [] [] 64 0 .skip (.exit 6))
 (.seq (.block 7 (.j [.v 1,.f 5 9,.l,.v 7,.i,.l,.f 5 7,.l,.v 2,.i,.l,.v 6,.i,.l,.bd .I .A 1,.l,.v 8,.i,.l,.bd (.t 18) .A 1,.d,.v 3,.i,.d] [] [] 90 0 (.s [.mv (.c (.bool true))] [(9,0)] [1,2,3,5,6,7,8]
 .ret)))
 (.g [.v 8,.A .A (.i 1),.t 0] [(8,0)] [])))
abbrev afl:IC:=(.seq (.i [.v 7,.f 5 5,.l,.n,.L .D .A] [] [] 43 0 .skip (.exit 4))
 (.seq (.block 5 (.seq (.j [.v 1,.f 5 6,.l,.v 2,.i,.l,.v 6,.i,.l,.bd .I .A 1,.d,.v 7,.i,.d,.not .A] [] [] 60 0 (.exit 5))
 (.s [.k 0] [(8,0)] []
 (.o 6 afk))))
 (.g [.v 7,.A .A (.i 1),.t 0] [(7,0)] [8])))
abbrev afm:IC:=(.seq (.i [.v 6,.f 5 0,.l,.L .C .A] [] [] 36 0 .skip (.exit 2))
 (.seq (.block 3 (.s [.k 0] [(7,0)] []
 (.o 4 afl)))
 (.g [.v 6,.A .A (.i 1),.t 0] [(6,0)] [7])))
abbrev Ft:Fn:={np:=4,nv:=10,res:=[(9,none)],body:=
(.s [.eR (.v 0),.b] [(5,1)] [0,9]
 (.seq (.s [.k 0] [(4,0)] []
 (.o 0 afj))
 (.seq (.s [.k 0] [(6,0)] [4]
 (.o 2 afm))
 (.s [.b] [(9,0)] [1,2,3,5,6]
 .ret))))}
abbrev afn:IC:=(.r [.c 2 3] [] [] 9 0
 (.seq (.cond 9 .skip (.exit 0))
 (.seq (.block 1 (.s [.v 2,.t 0] [(4,0)] []
 (.j [.v 1,.v 0,.v 4,.i,.d,.p (.kR .E [.A])] [] [] 16 0 (.s [.v 4,.t 0] [(5,0)] [0,1,2,3,4]
 .ret))))
 (.g [.A (.v 2) (.i 1),.t 0] [(2,0)] [4]))))
abbrev Fu:Fn:={np:=2,nv:=6,res:=[(5,none)],body:=
(.s [.k 0] [] [5]
 (.seq (.s [.v 0,.n,.k 0] [(3,1),(2,0)] []
 (.o 0 afn))
 (.s [.mv (.i (-1))] [(5,0)] [0,1,2,3]
 .ret)))}
abbrev afo:IC:=(.r [.c 3 4] [] [] 9 0
 (.seq (.cond 9 .skip (.exit 0))
 (.seq (.block 1 (.s [.bd (.v 5) (.v 3) 1,.d,.t 0] [(6,0)] []
 (.g [.ld (.v 1) none,.ld (.v 2) none,.v 6,.i,.d,.p (.zR .A),.ld (.v 2) none,.v 6,.i,.d,.p (.DQ .A (.c (.ik 7 (8)))),.p (.zR .A),.cp [.G,.A] 1,.app (.t 12) .A none,.st (.v 1) .A 1] [] [6])))
 (.g [.A (.v 3) (.i 1),.t 0] [(3,0)] []))))
abbrev Fv:Fn:={np:=3,nv:=7,res:=[],body:=
(.s [.v 0,.n,.k 0] [(5,2),(4,1),(3,0)] [0]
 (.o 0 afo))}
abbrev afp:IC:=(.r [.c 4 5] [] [] 26 0
 (.seq (.cond 26 .skip (.exit 2))
 (.seq (.block 3 (.s [.v 4,.t 0] [(8,0)] []
 (.g [.v 6,.v 0,.v 7,.v 8,.eZ AE [.C,.B,.A],.cp [.A] 1,.cu .F .A none,.t 0] [(6,0)] [8])))
 (.g [.A (.v 4) (.i 1),.t 0] [(4,0)] []))))
abbrev afq:IC:=(.r [.c 14 15] [] [] 59 0
 (.seq (.cond 59 .skip (.exit 8))
 (.seq (.block 9 (.s [.v 14,.t 0] [(18,0)] []
 (.g [.v 6,.v 0,.v 7,.v 16,.v 17,.v 18,.eZ AF [.E,.D,.C,.B,.A],.cp [.A] 1,.cu .H .A none,.t 0] [(6,0)] [18])))
 (.g [.A (.v 14) (.i 1),.t 0] [(14,0)] []))))
abbrev afr:IC:=(.r [.c 11 12] [] [] 50 0
 (.seq (.cond 50 .skip (.exit 6))
 (.seq (.block 7 (.s [.bd (.v 13) (.v 11) 1,.d,.t 0] [(17,0)] []
 (.s [.v 0,.q,.dB .A 0 (some 10),.h 0 2,.d,.k 0] [(15,1),(14,0)] []
 (.o 8 afq))))
 (.g [.A (.v 11) (.i 1),.t 0] [(11,0)] [14,15,17]))))
abbrev afs:IC:=(.r [.c 9 10] [] [] 42 0
 (.seq (.cond 42 .skip (.exit 4))
 (.seq (.block 5 (.s [.v 9,.t 0] [(16,0)] []
 (.s [.v 0,.q,.h 0 10,.d,.n,.k 0] [(13,2),(12,1),(11,0)] []
 (.o 6 afr))))
 (.g [.A (.v 9) (.i 1),.t 0] [(9,0)] [11,12,13,16]))))
abbrev afu:IC:=(.r [.c 1 2] [] [] 17 0
 (.seq (.cond 17 .skip (.exit 0))
 (.seq (.block 1 (.s [.bd (.v 3) (.v 1) 1,.d,.t 0] [(7,0)] []
 (.seq (.s [.v 0,.q,.dB .A 0 (some 10),.h 0 1,.d,.k 0] [(5,1),(4,0)] []
 (.o 2 afp))
 (.s [.v 0,.q,.dB .A 0 (some 10),.h 0 0,.d,.k 0] [(10,1),(9,0)] [4,5]
 (.o 4 afs)))))
 (.g [.A (.v 1) (.i 1),.t 0] [(1,0)] [7,9,10]))))
abbrev Fw:Fn:={np:=1,nv:=20,res:=[(19,none)],body:=
(.s [.mv (.c (.ae))] [] [19]
 (.s [.nl none] [(6,0)] []
 (.seq (.s [.v 0,.q,.h 0 10,.d,.n,.k 0] [(3,2),(2,1),(1,0)] []
 (.seq (.o 0 afu) (.kO 6)))
 (.s [.v 6,.C Az [.A],.t 0] [(19,0)] [0,1,2,3,6]
 .ret))))}
abbrev Fy:Fn:={np:=1,nv:=2,res:=[(1,none)],body:=
(.s [.mv (.c (.ae))] [] [1]
 (.s [.v 0,.p (.kl Fz [.A,(.c (.func nX []))]),.t 0] [(1,0)] [0]
 .ret))}
abbrev afv:IC:=(.r [.c 1 2] [] [] 12 0
 (.seq (.cond 12 .skip (.exit 0))
 (.seq (.block 1 (.s [.bd (.v 3) (.v 1) 1,.d,.t 0] [(5,0)] []
 (.s [.v 4,.v 5,.n,.A .C .A,.t 0] [(4,0)] [5]
 (.j [.v 4,.L .A (.i 0)] [] [] 20 0 .bad))))
 (.g [.A (.v 1) (.i 1),.t 0] [(1,0)] []))))
abbrev afw:IC:=(.r [.c 6 7] [] [] 28 0
 (.seq (.cond 28 .skip (.exit 2))
 (.seq (.block 3 (.s [.bd (.v 8) (.v 6) 1,.d,.t 0] [(10,0)] []
 (.g [.v 9,.v 10,.cu .B .A none,.t 0] [(9,0)] [10])))
 (.g [.A (.v 6) (.i 1),.t 0] [(6,0)] []))))
abbrev FA:Fn:={np:=1,nv:=12,res:=[(11,none)],body:=
(.s [.mv (.c (.ae))] [] [11]
 (.s [.k 0] [(4,0)] []
 (.seq (.s [.v 0,.n,.k 0] [(3,2),(2,1),(1,0)] []
 (.o 0 afv))
 (.s [.v 4,.p (.can xP [(.c (.ae)),.A]),.t 0] [(9,0)] [1,2,3,4]
 (.seq (.s [.v 0,.n,.k 0] [(8,2),(7,1),(6,0)] [0]
 (.o 2 afw))
 (.s [.v 9,.t 0] [(11,0)] [6,7,8,9]
 .ret))))))}
abbrev FB:Fn:={np:=2,nv:=4,res:=[(3,none)],body:=
(.s [.eR (.v 0),.mv (.c (.ae))] [(2,1)] [0,3]
 (.seq (.j [.cK (.v 2) (some 2),.ie [.str [],.str []] [],.p (.JS false 2 .B .A)] [] [] 7 0 (.s [.v 1,.t 0] [(3,0)] [1,2]
 .ret))
 (.s [.f 2 0,.l,.C AG [.A],.v 1,.f 2 1,.l,.C AG [.A],.bD [.E,.D,.A] 1,.C tu [.A],.t 0] [(3,0)] [1,2]
 .ret)))}
abbrev afx:IC:=(.r [.c 5 6] [] [] 33 0
 (.seq (.cond 33 .skip (.exit 2))
 (.seq (.block 3 (.s [.v 5,.bd (.v 7) (.v 5) 1,.d,.t 2,.t 1] [(9,1),(8,0)] []
 (.j [.v 8,.t 0,.xv 0 2,.xv 1 9,.x 2 (.bd .B .A 1),.x 3 (.ld .A none),.x 4 (.not .A),.pick .F .A (.c (.bool false))] [] [8] 44 0 (.s [.v 2,.v 9,.i,.st .A (.c (.bool true)) 1] [] []
 (.g [.v 4,.v 9,.cp [.A] 1,.cu .C .A none,.t 0] [(4,0)] [9])))))
 (.g [.A (.v 5) (.i 1),.t 0] [(5,0)] [9]))))
abbrev afy:IC:=(.seq (.w [.v 3,.v 4,.n,.L .C .A] [] [] 21 0)
 (.seq (.block 1 (.s [.v 0,.v 4,.v 3,.i,.d,.bd .E .A 1,.d,.n,.k 0] [(7,2),(6,1),(5,0)] []
 (.o 2 afx)))
 (.g [.v 3,.A .A (.i 1),.t 0] [(3,0)] [5,6,7])))
abbrev FC:Fn:={np:=2,nv:=11,res:=[(10,none)],body:=
(.s [.mv (.c (.ae))] [] [10]
 (.s [.v 0,.n,.iH .A .A [.bool false] none,.t 0] [(2,0)] []
 (.s [.v 2,.v 1,.i,.st .A (.c (.bool true)) 1] [] []
 (.s [.v 1,.p (.lZ [.A] none),.t 0] [(4,0)] [1]
 (.seq (.s [.k 0] [(3,0)] []
 (.o 0 afy))
 (.s [.v 2,.t 0] [(10,0)] [0,2,3,4]
 .ret))))))}
abbrev afz:IC:=(.seq (.i [.v 15,.f 6 2,.l,.L .C .A,.t 0,.xv 0 16,.pick .B .A (.c (.bool false))] [] [] 51 0 .skip (.exit 6))
 (.seq (.block 7 (.s [.v 0,.v 17,.v 18,.v 15,.p (.inv .D [(jj,rK),(iP,AD),(Fo,vk)] [.C,.B,.A]),.t 0] [(20,0)] []
 (.s [.v 19,.t 0,.yv 0 2,.yv 1 9,.y 2 (.bd .B .A 1),.y 3 (.ld .A none),.yv 4 20,.y 5 (.bd .B .A 1),.y 6 (.ld .A none),.y 7 (.not .A),.pick .I (.c (.bool true)) .A,.t 0] [(19,0)] []
 (.g [.v 2,.v 9,.i,.d,.v 20,.i,.st .A (.c (.bool true)) 1] [] [20]))))
 (.g [.v 15,.A .A (.i 1),.t 0] [(15,0)] [])))
abbrev afA:IC:=(.r [.c 12 13] [] [] 41 0
 (.seq (.cond 41 .skip (.exit 4))
 (.seq (.block 5 (.s [.v 12,.bd (.v 14) (.v 12) 1,.d,.t 2,.t 1] [(17,1),(16,0)] []
 (.s [.k 0] [(15,0)] []
 (.o 6 afz))))
 (.g [.A (.v 12) (.i 1),.t 0] [(12,0)] [15,16,17]))))
abbrev afB:IC:=(.r [.c 7 8] [] [] 26 0
 (.seq (.cond 26 .skip (.exit 2))
 (.seq (.block 3 (.s [.v 7,.t 0] [(10,0)] []
 (.s [.v 0,.v 9,.v 10,.p (.inv .C [(jj,rJ),(iP,AB)] [.B,.A]),.t 0,.e .A 0,.e .B 1,.t 1,.t 1] [(11,1),(18,0)] [10]
 (.s [.v 3,.v 11,.i,.d,.n,.k 0] [(14,2),(13,1),(12,0)] [11]
 (.o 4 afA)))))
 (.g [.A (.v 7) (.i 1),.t 0] [(7,0)] [12,13,14,18]))))
abbrev afC:IC:=(.r [.c 4 5] [] [] 21 0
 (.seq (.cond 21 .skip (.exit 0))
 (.seq (.block 1 (.s [.v 4,.t 0] [(9,0)] []
 (.s [.f 6 0,.l,.k 0] [(8,1),(7,0)] []
 (.o 2 afB))))
 (.g [.A (.v 4) (.i 1),.t 0] [(4,0)] [7,8,9]))))
abbrev FD:Fn:={np:=4,nv:=22,res:=[(21,none)],body:=
(.s [.eR (.v 1),.b] [(6,1)] [1,21]
 (.s [.b] [(19,0)] []
 (.seq (.s [.v 2,.n,.k 0] [(5,1),(4,0)] []
 (.o 0 afC))
 (.s [.v 19,.t 0] [(21,0)] [0,2,3,4,5,6,19]
 .ret))))}
abbrev afD:IC:=(.r [.c 1 2] [] [] 9 0
 (.seq (.cond 9 .skip (.exit 0))
 (.seq (.block 1 (.s [.v 3,.v 3,.q,.h 0 0,.d,.v 0,.iH .A .A [.ae] none,.cp [.A] 1,.app .D .A none,.p (.nM .I),.h 0 0,.st .A .C 1] [] []
 (.g [.v 3,.v 3,.q,.h 0 1,.d,.v 0,.iH .A .A [.bool false] none,.cp [.A] 1,.app .D .A none,.p (.nM .I),.h 0 1,.st .A .C 1] [] [])))
 (.g [.A (.v 1) (.i 1),.t 0] [(1,0)] []))))
abbrev FE:Fn:={np:=1,nv:=5,res:=[(4,none)],body:=
(.s [.mv (.c (.gI))] [] [4]
 (.s [.iH (.i 1025) (.i 1025) [.ae] none,.ie [.ae,.ae,.ae] [(2,1,.A)],.p (.sJ .A (some 3)),.t 0] [(3,0)] []
 (.seq (.s [.v 0,.k 0] [(2,1),(1,0)] []
 (.o 0 afD))
 (.s [.v 3,.t 0] [(4,0)] [0,1,2,3]
 .ret))))}
abbrev afE:fQ:=⟨[.v 3,.n,.v 4,.n,.A .C .A,.t 0],[(5,0)],[],none⟩
abbrev afF:fQ:=⟨[.v 0,.q,.h 0 0,.d,.v 1,.i,.d,.v 2,.i,.d,.t 0],[(6,0)],[],none⟩
abbrev afG:fQ:=⟨[.v 5,.G .A (.i 1024),.t 0,.yv 0 0,.y 1 (.nM .A),.y 2 (.dB .A 1 none),.y 3 (.ld .A none),.yv 4 1,.y 5 (.bd .B .A 1),.y 6 (.ld .A none),.yv 7 2,.y 8 (.bd .B .A 1),.y 9 (.ld .A none),.pick (.t 10) (.c (.bool true)) .A,.t 0,.yv 0 6,.y 1 (.mP true .A),.y 2 (.mv .A),.xv 0 6,.x 1 (.len .A),.xv 2 5,.x 3 (.bin .lss .B .A),.y 7 (.pick .E .A (.c (.bool false))),.pick .I (.c (.bool true)) .A],[],[],some (51,0)⟩
abbrev afH:fQ:=⟨[.v 5,.A .A (.i 1),.iH (.i 0) .A [.int 0] none,.v 3,.cu .B .A none,.v 4,.cu .B .A none,.t 0],[(7,0)],[3,4],none⟩
abbrev afI:fQ:=⟨[.v 6,.p (.mP true .A),.t 0,.xv 0 6,.xv 1 7,.x 2 (.kl nX [.B,.A]),.x 3 (.bin .leq .A (.i 0)),.pick .E .A (.c (.bool false))],[],[],some (66,0)⟩
abbrev afJ:fQ:=⟨[.v 0,.q,.h 0 0,.d,.v 1,.i,.d,.v 2,.v 7,.bd .C .B 1,.st .A .B 1],[],[7],none⟩
abbrev afK:fQ:=⟨[.v 6,.p (.mP false .A),.t 0,.yv 0 6,.y 1 (.len .A),.yv 2 5,.y 3 (.bin .gtr .B .A),.pick .E (.c (.bool true)) .A],[],[6],some (84,0)⟩
abbrev afL:fQ:=⟨[.v 0,.q,.h 0 2,.d,.v 5,.v 0,.q,.h 0 2,.d,.v 5,.i,.d,.v 1,.v 2,.ie [.int 0,.int 0] [(0,1,.B),(1,1,.A)],.cp [.A] 2,.app .E .A (some 2),.bd (.t 13) (.t 12) 1,.st .A .B 1],[],[0,1,2,5],none⟩
abbrev FF:Fn:={np:=5,nv:=8,res:=[],body:=
(.seq (.cq afE)
 (.seq (.cq afF)
 (.seq (.seq (.cq afG)
 (.cond 51 .ret .skip))
 (.seq (.seq (.cq afH) (.kO 7))
 (.seq (.seq (.cq afI)
 (.cond 66 .ret .skip))
 (.seq (.cq afJ)
 (.seq (.cq afK)
 (.cond 84 (.cq afL) .skip))))))))}
abbrev afM:IC:=(.r [.c 2 3] [] [] 17 0
 (.seq (.cond 17 .skip (.exit 0))
 (.seq (.block 1 (.s [.bd (.v 4) (.v 2) 2,.ld .A (some 2),.p (.ff 2),.iF .A .B 2] [(5,0)] []
 (.j [.v 0,.q,.h 0 1,.d,.fg (.v 5) (.i 0) 2 none,.l,.bd .C .A 1,.d,.fg (.v 5) (.i 1) 2 none,.l,.bd .C .A 1,.d,.not .A] [] [] 32 0 (.s [.v 0,.q,.h 0 1,.d,.fg (.v 5) (.i 0) 2 none,.l,.bd .C .A 1,.d,.fg (.v 5) (.i 1) 2 none,.l,.bd .C .A 1,.st .A (.c (.bool true)) 1] [] []
 (.g [.v 6,.cK (.v 5) (some 2),.cp [.A] 2,.cu .C .A (some 2),.t 0] [(6,0)] [5])))))
 (.g [.A (.v 2) (.i 1),.t 0] [(2,0)] [5]))))
abbrev FG:Fn:={np:=2,nv:=8,res:=[(7,none)],body:=
(.s [.mv (.c (.ae))] [] [7]
 (.s [.nl (some 2)] [(6,0)] []
 (.seq (.s [.v 0,.q,.h 0 2,.d,.v 1,.i,.d,.n,.k 0] [(4,2),(3,1),(2,0)] [1]
 (.o 0 afM))
 (.s [.v 6,.t 0] [(7,0)] [0,2,3,4,6]
 .ret))))}
abbrev OI:IC:=(.r [.c 4 5] [] [] 19 0
 (.seq (.cond 19 .skip (.exit 0))
 (.seq (.block 1 (.s [.v 4,.bd (.v 6) (.v 4) 1,.d,.t 2,.t 1] [(7,1),(8,0)] []
 (.g [.v 2,.v 7,.v 8,.C ts [.A],.bd .D .C 1,.st .A .B 1] [] [7,8])))
 (.g [.A (.v 4) (.i 1),.t 0] [(4,0)] []))))
abbrev FH:Fn:={np:=2,nv:=10,res:=[(9,none)],body:=
(.s [.eR (.v 1),.mv (.c (.ae))] [(3,1)] [1,9]
 (.s [.v 0,.p (.can xQ [.A]),.t 0] [(2,0)] [0]
 (.s [.v 2,.cK (.v 3) none,.eZ xR [.B,.A]] [] []
 (.s [.v 2,.p (.zU xS [(.v 3)]),.eZ AH [.B,.A],.t 0] [(2,0)] [3]
 (.seq (.s [.v 2,.n,.k 0] [(6,2),(5,1),(4,0)] []
 (.o 0 OI))
 (.s [.v 2,.t 0] [(9,0)] [2,4,5,6]
 .ret))))))}
abbrev afN:IC:=(.r [.c 1 2] [] [] 10 0
 (.seq (.cond 10 .skip (.exit 0))
 (.seq (.block 1 (.s [.bd (.v 3) (.v 1) 1,.d,.t 0] [(5,0)] []
 (.g [.v 4,.v 5,.p (.CC .A),.cp [.A] 1,.cu .D .A none,.t 0] [(4,0)] [5])))
 (.g [.A (.v 1) (.i 1),.t 0] [(1,0)] []))))
abbrev FI:Fn:={np:=1,nv:=7,res:=[(6,none)],body:=
(.s [.mv (.c (.ae))] [] [6]
 (.s [.nl none] [(4,0)] []
 (.seq (.s [.v 0,.p (.JE .A),.n,.k 0] [(3,2),(2,1),(1,0)] [0]
 (.o 0 afN))
 (.s [.v 4,.t 0] [(6,0)] [1,2,3,4]
 .ret))))}
abbrev OJ:Fn:={np:=1,nv:=2,res:=[(1,none)],body:=
(.s [.mv (.c (.ae))] [] [1]
 (.seq (.j [.v 0,.p (.mP false .A)] [] [] 4 0 (.s [.mv (.c (.ae))] [(1,0)] [0]
 .ret))
 (.s [.cp [] 1,.v 0,.cu .B .A none,.t 0] [(1,0)] [0]
 .ret)))}
abbrev afO:IC:=(.seq (.i [.v 3,.v 4,.n,.L .C .A] [] [] 35 0 .skip (.exit 2))
 (.seq (.block 3 (.j [.v 1,.v 4,.v 3,.i,.d,.v 4,.v 3,.S .A (.i 1),.bd .C .A 1,.d,.p (.kR .J [.F,.A]),.not .A] [] [] 49 0 (.s [.v 0,.v 2,.v 4,.v 3,.i,.d,.bd .F .E 1,.st .A .B 1] [] []
 (.g [.v 2,.A .A (.i 1),.t 0] [(2,0)] []))))
 (.g [.v 3,.A .A (.i 1),.t 0] [(3,0)] [])))
abbrev afP:IC:=(.seq (.w [.v 2,.v 0,.n,.L .C .A] [] [] 15 0)
 (.seq (.block 1 (.j [.v 1,.v 0,.v 2,.i,.d,.v 0,.v 2,.S .A (.i 1),.bd .C .A 1,.d,.p (.kR .J [.F,.A])] [] [] 28 0 (.s [.v 0,.v 2,.p (.pI .B (some .A) none 1),.t 0] [(4,0)] []
 (.seq (.s [.k 1] [(3,0)] []
 (.o 2 afO))
 (.s [.v 0,.v 2,.p (.pI .B (some .A) none 1),.p (.tY .A [.ae] none)] [] [1,3,4]
 (.s [.v 0,.v 2,.p (.pI .B none (some .A) 1),.t 0] [(5,0)] [0,2]
 .ret))))))
 (.g [.v 2,.A .A (.i 1),.t 0] [(2,0)] [])))
abbrev FJ:Fn:={np:=2,nv:=6,res:=[(5,none)],body:=
(.s [.mv (.c (.ae))] [] [5]
 (.seq (.j [.v 0,.n,.L .A (.i 2)] [] [] 10 0 (.s [.v 0,.t 0] [(5,0)] [0,1]
 .ret))
 (.seq (.s [.k 1] [(2,0)] []
 (.o 0 afP))
 (.s [.v 0,.t 0] [(5,0)] [0,1,2]
 .ret))))}
abbrev FK:Fn:={np:=3,nv:=4,res:=[(3,none)],body:=
(.s [.b] [] [3]
 (.s [.ld (.v 2) none,.v 0,.v 1,.p (.kR .C [.B,.A]),.E .A (.i 0),.t 0] [(3,0)] [0,1,2]
 .ret))}
abbrev FL:Fn:={np:=3,nv:=12,res:=[(10,none),(11,none)],body:=
(.s [.eR (.v 0),.k 0,.k 0] [(3,2)] [0,10,11]
 (.s [.cK (.v 3) (some 20),.v 1,.C xT [.B,.A],.t 0,.e .A 0,.e .B 1,.t 1,.t 1] [(4,1),(5,0)] [1]
 (.s [.dB (.v 3) 0 (some 10),.cK .A (some 10),.v 4,.v 2,.C rJ [.C,.B,.A],.t 0,.e .A 0,.e .B 1,.t 1,.t 1] [(6,1),(8,0)] [4]
 (.s [.dB (.v 3) 10 (some 10),.cK .A (some 10),.v 5,.v 2,.C rJ [.C,.B,.A],.t 0,.e .A 0,.e .B 1,.t 1,.t 1] [(7,1),(9,0)] [2,5]
 (.s [.v 6,.dB (.v 3) 10 (some 10),.cK .A (some 10),.C jl [.A],.M .D .A,.v 7,.A .B .A,.v 8,.dB (.v 3) 10 (some 10),.dB .A 0 (some 10),.h 0 3,.l,.M .E .A,.v 9,.A .B .A,.t 8,.t 1] [(10,1),(11,0)] [3,6,7,8,9]
 .ret)))))}
abbrev FM:Fn:={np:=3,nv:=7,res:=[(6,none)],body:=
(.s [.eR (.v 0),.k 0] [(3,1)] [0,6]
 (.s [.cK (.v 3) (some 20),.v 1,.C xT [.B,.A],.t 0,.e .A 0,.e .B 1,.t 1,.t 1] [(4,1),(5,0)] [1]
 (.s [.dB (.v 3) 0 (some 10),.cK .A (some 10),.v 4,.v 2,.C rI [.C,.B,.A],.dB (.v 3) 10 (some 10),.cK .A (some 10),.C jl [.A],.M .D .A,.dB (.v 3) 10 (some 10),.cK .A (some 10),.v 5,.v 2,.C rI [.C,.B,.A],.A .F .A,.t 0] [(6,0)] [2,3,4,5]
 .ret)))}
abbrev FN:Fn:={np:=4,nv:=8,res:=[(7,none)],body:=
(.s [.eR (.v 0),.k 0] [(4,1)] [0,7]
 (.s [.cK (.v 4) (some 20),.v 1,.C xT [.B,.A],.t 0,.e .A 0,.e .B 1,.t 1,.t 1] [(5,1),(6,0)] [1]
 (.s [.dB (.v 4) 0 (some 10),.cK .A (some 10),.v 5,.v 2,.dB (.v 4) 10 (some 10),.dB .A 0 (some 10),.h 0 3,.l,.bin .quo .E .A,.v 3,.C rK [.I,.H,.B,.A],.dB (.v 4) 10 (some 10),.cK .A (some 10),.C jl [.A],.M .D .A,.dB (.v 4) 10 (some 10),.cK .A (some 10),.v 6,.v 2,.dB (.v 4) 10 (some 10),.dB .A 0 (some 10),.h 0 3,.l,.bin .rem .E .A,.v 3,.C rK [.I,.H,.B,.A],.A (.t 11) .A,.t 0] [(7,0)] [2,3,4,5,6]
 .ret)))}
end Ab
