/- The functions of the program as small texts, printed by a tool of mine. Condition: none. -/
import Derived.Test.YtdenhmniigikcaaGreatIr0
set_option linter.all false
namespace Ab
abbrev ahs:IC:=(.seq (.i [.v 3,.f 1 0,.l,.L .C .A] [] [] 19 0 .skip (.exit 2))
 (.seq (.block 3 (.j [.v 4,.f 1 6,.l,.v 2,.i,.l,.v 3,.i,.l,.p (.rp w4 [.I,.A]),.v 4,.n,.E .C .A] [] [] 34 0 (.g [.v 4,.f 1 6,.l,.v 2,.i,.l,.v 3,.i,.l,.bW [.A] 1,.cp .J .A none,.t 0] [(4,0)] [])))
 (.U 3 [])))
abbrev aht:IC:=(.seq (.w [.v 2,.f 1 5,.l,.n,.L .D .A] [] [] 13 0)
 (.seq (.block 1 (.k 0 3 []
 (.o 2 ahs)))
 (.U 2 [3])))
abbrev GR:Fn:={np:=1,nv:=6,res:=[(5,none)],body:=
(.s [.fD (.v 0),.mv (.c (.ag))] [(1,1)] [0,5]
 (.s [.f 1 4,.l,.p (.lz [.A] none),.t 0] [(4,0)] []
 (.seq (.k 0 2 []
 (.o 0 aht))
 (.m 4 5 [1,2,4]
 .ret))))}
abbrev ahu:IC:=(.seq (.w [.v 4,.f 5 1,.l,.L .C .A] [] [] 17 0)
 (.seq (.block 1 (.g [.v 6,.cW (.v 5) (some 10),.v 2,.v 3,.i,.d,.v 4,.p (.can B8 [.F,.B,.A]),.bW [.A] 1,.app .I .A none,.t 0] [(6,0)] []))
 (.U 4 [])))
abbrev ahv:IC:=(.seq (.i [.v 9,.f 5 2,.l,.L .C .A] [] [] 44 0 .skip (.exit 6))
 (.seq (.block 7 (.s [.v 6,.cW (.v 5) (some 10),.v 1,.v 2,.v 3,.i,.d,.v 2,.v 7,.i,.d,.v 8,.v 9,.p (.can zq [(.t 11),(.t 10),.G,.C,.B,.A]),.bW [.A] 1,.app (.t 14) .A none,.t 0] [(6,0)] []
 (.g [.v 6,.cW (.v 5) (some 10),.v 1,.v 2,.v 7,.i,.d,.v 2,.v 3,.i,.d,.v 8,.v 9,.p (.can zq [(.t 11),(.t 10),.G,.C,.B,.A]),.bW [.A] 1,.app (.t 14) .A none,.t 0] [(6,0)] [])))
 (.U 9 [])))
abbrev ahw:IC:=(.seq (.i [.v 8,.f 5 0,.l,.L .C .A] [] [] 38 0 .skip (.exit 4))
 (.seq (.block 5 (.k 0 9 []
 (.o 6 ahv)))
 (.U 8 [9])))
abbrev ahx:IC:=(.seq (.i [.v 7,.v 3,.bin .leq .B .A] [] [] 32 0 .skip (.exit 2))
 (.seq (.block 3 (.k 0 8 []
 (.o 4 ahw)))
 (.U 7 [8])))
abbrev GS:Fn:={np:=4,nv:=11,res:=[(10,none)],body:=
(.s [.fD (.v 0),.mv (.c (.ag))] [(5,1)] [0,10]
 (.s [.nl none] [(6,0)] []
 (.seq (.k 0 4 []
 (.o 0 ahu))
 (.seq (.k 0 7 [4]
 (.o 2 ahx))
 (.m 6 10 [1,2,3,5,6,7]
 .ret)))))}
abbrev ahy:IC:=(.seq (.w [.v 2,.v 0,.n,.L .C .A] [] [] 9 0)
 (.seq (.block 1 (.j [.v 0,.v 2,.i,.d,.v 1,.C B9 [.B,.A]] [] [] 17 0 (.m 2 3 [0,1,2]
 .ret)))
 (.U 2 [])))
abbrev GU:Fn:={np:=2,nv:=4,res:=[(3,none)],body:=
(.s [.k 0] [] [3]
 (.seq (.k 0 2 []
 (.o 0 ahy))
 (.s [.v 0,.n,.t 0] [(3,0)] [0,1,2]
 .ret)))}
abbrev ahz:IC:=(.seq (.w [.v 3,.v 1,.n,.L .C .A] [] [] 12 0)
 (.seq (.block 1 (.g [.v 4,.f 5 8,.l,.v 1,.v 3,.i,.d,.bu .E .A 1,.l,.v 2,.i,.l,.bW [.A] 1,.app (.t 12) .A none,.t 0] [(4,0)] []))
 (.U 3 [])))
abbrev GV:Fn:={np:=3,nv:=7,res:=[(6,none)],body:=
(.s [.fD (.v 0),.mv (.c (.ag))] [(5,1)] [0,6]
 (.s [.nl none] [(4,0)] []
 (.seq (.k 0 3 []
 (.o 0 ahz))
 (.m 4 6 [1,2,3,4,5]
 .ret))))}
abbrev ahA:IC:=(.seq (.w [.v 6,.v 2,.n,.L .C .A] [] [] 19 0)
 (.seq (.block 1 (.s [.v 3,.v 1,.f 7 6,.l,.v 2,.v 6,.i,.d,.bu .E .A 1,.l,.v 4,.i,.l,.C w4 [(.t 11),.A],.bu (.t 13) .A 1,.d,.t 0] [(9,0)] []
 (.g [.v 8,.f 7 9,.l,.v 9,.i,.l,.f 7 7,.l,.v 2,.v 6,.i,.d,.bu .E .A 1,.l,.v 4,.i,.l,.bu (.t 11) .A 1,.l,.v 5,.i,.l,.bW [.A] 1,.app (.t 22) .A none,.t 0] [(8,0)] [9])))
 (.U 6 [])))
abbrev GW:Fn:={np:=6,nv:=11,res:=[(10,none)],body:=
(.s [.fD (.v 0),.mv (.c (.ag))] [(7,1)] [0,10]
 (.s [.nl none] [(8,0)] []
 (.seq (.k 0 6 []
 (.o 0 ahA))
 (.m 8 10 [1,2,3,4,5,6,7,8]
 .ret))))}
abbrev ahB:IC:=(.seq (.i [.v 3,.bin .geq .A (.i 0)] [] [] 19 0 .skip (.exit 2))
 (.seq (.block 3 (.j [.v 4,.v 3,.i,.d,.v 3,.E .B .A,.t 0,.x 0 (.cW (.v 5) (some 13)),.xv 1 1,.xv 2 2,.xv 3 3,.x 4 (.k9 GX [.D,.C,.B,.A]),.pick .F .A (.c (.bool false))] [] [] 34 0 (.g [.v 3,.t 0] [(6,0)] [])))
 (.g [.v 3,.S .A (.i 1),.t 0] [(3,0)] [])))
abbrev ahC:IC:=(.seq (.w [.v 2,.v 1,.n,.L .C .A] [] [] 12 0)
 (.seq (.block 1 (.m 2 6 []
 (.seq (.s [.v 2,.S .A (.i 1),.t 0] [(3,0)] []
 (.o 2 ahB))
 (.g [.v 4,.v 6,.bW [.A] 1,.cp .C .A none,.t 0] [(4,0)] [3,6]))))
 (.U 2 [])))
abbrev GY:Fn:={np:=2,nv:=8,res:=[(7,none)],body:=
(.s [.fD (.v 0),.mv (.c (.ag))] [(5,1)] [0,7]
 (.s [.nl none] [(4,0)] []
 (.seq (.k 0 2 []
 (.o 0 ahC))
 (.m 4 7 [1,2,4,5]
 .ret))))}
abbrev GZ:Fn:={np:=2,nv:=3,res:=[(2,none)],body:=
(.s [.b] [] [2]
 (.s [.v 0,.n,.v 1,.n,.E .C .A,.t 0,.xv 0 0,.xv 1 1,.x 2 (.k9 Ca [.B,.A]),.xv 3 0,.x 4 (.len .A),.x 5 (.bin .eql .C .A),.pick .G .A (.c (.bool false)),.t 0] [(2,0)] [0,1]
 .ret))}
abbrev ahD:IC:=(.seq (.w [.v 1,.v 0,.n,.L .C .A] [] [] 8 0)
 (.seq (.block 1 (.g [.v 2,.v 0,.v 1,.i,.d,.cp .E .A none,.t 0] [(2,0)] []))
 (.U 1 [])))
abbrev G0:Fn:={np:=1,nv:=4,res:=[(3,none)],body:=
(.s [.mv (.c (.ag))] [] [3]
 (.s [.nl none] [(2,0)] []
 (.seq (.k 0 1 []
 (.o 0 ahD))
 (.m 2 3 [0,1,2]
 .ret))))}
abbrev G8:Fn:={np:=4,nv:=5,res:=[(4,none)],body:=
(.s [.b] [] [4]
 (.seq (.j [.v 3,.n,.G .A (.i 1024),.t 0,.yv 0 1,.yv 1 2,.y 2 (.bu .B .A 1),.y 3 (.ld .A none),.y 4 (.mv .A),.xv 0 0,.xv 1 2,.x 2 (.bu .B .A 1),.x 3 (.ld .A none),.xv 4 3,.x 5 (.k9 Cb [.B,.A]),.x 6 (.bin .leq .A (.i 0)),.y 12 (.pick .H .A (.c (.bool false))),.pick (.t 13) (.c (.bool true)) .A] [] [] 26 0 (.s [.b] [(4,0)] [0,1,2,3]
 .ret))
 (.s [.v 1,.v 2,.i,.st .A (.c (.bool true)) 1] [] [1]
 (.s [.v 0,.v 2,.v 3,.bu .C .B 1,.st .A .B 1] [] [0,2,3]
 (.s [.mv (.c (.bool true))] [(4,0)] []
 .ret)))))}
abbrev ahE:IC:=(.seq (.w [.v 2,.v 0,.n,.L .C .A] [] [] 9 0)
 (.seq (.block 1 (.j [.v 0,.v 2,.i,.d,.v 1,.E .B .A] [] [] 17 0 (.m 2 3 [0,1,2]
 .ret)))
 (.U 2 [])))
abbrev G9:Fn:={np:=2,nv:=4,res:=[(3,none)],body:=
(.s [.k 0] [] [3]
 (.seq (.k 0 2 []
 (.o 0 ahE))
 (.s [.v 0,.n,.t 0] [(3,0)] [0,1,2]
 .ret)))}
abbrev Ha:Fn:={np:=2,nv:=3,res:=[(2,none)],body:=
(.s [.k 0] [] [2]
 (.seq (.j [.v 0,.n,.v 1,.n,.L .C .A] [] [] 9 0 (.s [.mv (.i (-1))] [(2,0)] [0,1]
 .ret))
 (.seq (.j [.v 0,.n,.v 1,.n,.G .C .A] [] [] 14 0 (.k 1 2 [0,1]
 .ret))
 (.s [.v 0,.v 1,.C Hb [.B,.A],.t 0] [(2,0)] [0,1]
 .ret))))}
abbrev ahF:IC:=(.seq (.w [.v 2,.v 0,.n,.L .C .A] [] [] 14 0)
 (.seq (.block 1 (.j [.v 0,.v 2,.i,.d,.v 1,.v 2,.i,.d,.N .E .A] [] [] 25 0 (.s [.b] [(3,0)] [0,1,2]
 .ret)))
 (.U 2 [])))
abbrev Hc:Fn:={np:=2,nv:=4,res:=[(3,none)],body:=
(.s [.b] [] [3]
 (.seq (.j [.v 0,.n,.v 1,.n,.N .C .A] [] [] 10 0 (.s [.b] [(3,0)] [0,1]
 .ret))
 (.seq (.k 0 2 []
 (.o 0 ahF))
 (.s [.mv (.c (.bool true))] [(3,0)] [0,1,2]
 .ret))))}
abbrev ahG:IC:=(.block 1 (.s [.v 0,.fE Hd [.A],.t 0,.e .A 0,.e .B 1,.e .C 2,.t 2,.t 2,.t 2] [(4,2),(2,1),(1,0)] []
 (.seq (.j [.v 1,.N .A (.i 0),.t 0,.yv 0 2,.y 1 (.not .A),.pick .C (.c (.bool true)) .A] [] [2] 18 0 (.m 1 5 [0,1,4]
 .ret))
 (.seq (.s [.v 0,.q,.h 0 10,.d,.n,.A .A (.i 1),.t 0] [(3,0)] [1]
 (.j [.v 3,.G .A (.i 128),.t 0,.yv 0 3,.yv 1 0,.y 2 (.o9 .A),.y 3 (.cV .A 0 (some 10)),.y 4 (.cV .A 0 none),.y 5 (.ld .A none),.y 6 (.bin .mul .F .A),.y 7 (.bin .gtr .A (.i 128)),.pick .I (.c (.bool true)) .A] [] [3] 37 0 (.k 11 5 [0,4]
 .ret)))
 (.g [.v 0,.v 0,.q,.h 0 10,.d,.v 4,.bN [.A] 1,.bN [.C,.A] 1,.C Cc [.A],.p (.o9 .I),.h 0 10,.st .A .C 1] [] [4])))))
abbrev He:Fn:={np:=1,nv:=6,res:=[(5,none)],body:=
(.s [.k 0] [] [5]
 (.o 0 ahG))}
abbrev ahH:IC:=(.Z 11 12 68 2 3 [] (.m 11 13 []
 (.seq (.s [.v 0,.v 0,.v 6,.v 13,.fE Cd [.C,.B,.A],.fE tm [.E,.A],.t 0,.e .A 0,.e .B 1,.t 1,.t 1] [(10,1),(7,0)] []
 (.j [.v 7,.N .A (.i 0)] [] [] 80 0 (.s [.iz dJ [],.v 7,.st (.v 2) .B 10,.t 1] [(26,0)] [0,3,4,5,6,7,8,9,10,11,12,13,14]
 .ret)))
 (.g [.f 8 8,.d,.v 9,.i,.d,.v 13,.v 14,.v 10,.p (.vB .B 1 .A (.int 0) false),.bu .E .D 1,.st .A .B 1] [] [7,10,13]))))
abbrev ahI:IC:=(.Z 20 21 118 8 9 [] (.m 20 24 []
 (.seq (.s [.v 0,.v 0,.v 22,.v 23,.v 6,.v 24,.fE Ce [.E,.D,.C,.B,.A],.fE tm [.G,.A],.t 0,.e .A 0,.e .B 1,.t 1,.t 1] [(10,1),(7,0)] []
 (.j [.v 7,.N .A (.i 0)] [] [] 132 0 (.s [.iz dJ [],.v 7,.st (.v 2) .B 10,.t 1] [(26,0)] [0,3,4,5,6,7,8,9,10,14,15,16,17,18,19,20,21,22,23,24,25]
 .ret)))
 (.g [.f 8 9,.d,.v 9,.i,.d,.v 25,.v 0,.q,.cV .A 0 (some 10),.h 0 0,.d,.M .F .A,.v 23,.A .B .A,.bu .J .A 1,.d,.v 24,.v 14,.v 10,.p (.vB .B 1 .A (.int 0) false),.bu .E .D 1,.st .A .B 1] [] [7,10,24]))))
abbrev ahJ:IC:=(.Z 18 19 110 6 7 [20,21,23] (.m 18 23 []
 (.s [.v 0,.q,.cV .A 0 (some 10),.h 0 2,.d,.k 0] [(21,1),(20,0)] []
 (.o 8 ahI))))
abbrev ahK:IC:=(.Z 15 16 100 4 5 [18,19,22,25] (.s [.v 15,.bu (.v 17) (.v 15) 1,.d,.t 2,.t 1] [(25,1),(22,0)] []
 (.s [.v 0,.q,.cV .A 0 (some 10),.h 0 0,.d,.k 0] [(19,1),(18,0)] []
 (.o 6 ahJ))))
abbrev ahL:IC:=(.Z 3 4 41 0 1 [6,9,15,16,17] (.s [.v 3,.bu (.v 5) (.v 3) 1,.d,.t 2,.t 1] [(9,1),(6,0)] []
 (.s [.v 0,.v 6,.fE tm [.B,.A],.t 0,.e .A 0,.e .B 1,.t 1,.t 1] [(10,1),(7,0)] []
 (.seq (.j [.v 7,.N .A (.i 0)] [] [] 52 0 (.s [.iz dJ [],.v 7,.st (.v 2) .B 10,.t 1] [(26,0)] [0,3,4,5,6,7,8,9,10,14]
 .ret))
 (.s [.f 8 5,.d,.v 9,.v 10,.p (.Mk .A (.i 0)),.p (.Ml false .A (.c (.ik 4 (43)))),.bu .E .D 1,.st .A .B 1] [] [7,10]
 (.seq (.s [.v 0,.q,.cV .A 0 (some 10),.h 0 1,.d,.k 0] [(12,1),(11,0)] []
 (.o 2 ahH))
 (.s [.v 0,.q,.h 0 10,.d,.n,.k 0] [(17,2),(16,1),(15,0)] [11,12]
 (.o 4 ahK))))))))
abbrev Hf:Fn:={np:=1,nv:=27,res:=[(2,some (some 10)),(26,none)],body:=
(.s [.lW dJ (some 10),.k 0] [(2,1)] [26]
 (.s [.v 0,.fE Cf [.A],.t 0,.e .A 0,.e .B 1,.t 1,.t 1] [(14,1),(1,0)] []
 (.seq (.j [.v 1,.N .A (.i 0)] [] [] 22 0 (.s [.iz dJ [],.v 1,.st (.v 2) .B 10,.t 1] [(26,0)] [0,1,14]
 .ret))
 (.s [.v 0,.q,.cV .A 0 (some 10),.ld .A (some 10),.v 0,.q,.h 0 10,.d,.n,.p (.can w5 [.F,.A]),.lW dJ (some 10),.st .A .B 10] [(8,1)] [1]
 (.seq (.s [.v 0,.q,.h 0 10,.d,.n,.k 0] [(5,2),(4,1),(3,0)] []
 (.o 0 ahL))
 (.s [.ld (.v 8) (some 10),.st (.v 2) .A 10,.k 0] [(26,0)] [0,3,4,5,8,14]
 .ret))))))}
abbrev Hg:Fn:={np:=1,nv:=3,res:=[(2,none)],body:=
(.s [.fD (.v 0),.k 0] [(1,1)] [0,2]
 (.s [.cV (.v 1) 0 (some 10),.cW .A (some 10),.C jZ [.A],.cV (.v 1) 10 (some 10),.cW .A (some 10),.C jZ [.A],.M .D .A,.t 0] [(2,0)] [1]
 .ret))}
abbrev Hh:Fn:={np:=2,nv:=5,res:=[(3,none),(4,none)],body:=
(.s [.fD (.v 0),.k 0,.k 0] [(2,2)] [0,3,4]
 (.s [.v 1,.cV (.v 2) 10 (some 10),.cW .A (some 10),.C jZ [.A],.bin .quo .D .A,.v 1,.cV (.v 2) 10 (some 10),.cW .A (some 10),.C jZ [.A],.bin .rem .D .A,.t 5,.t 1] [(3,1),(4,0)] [1,2]
 .ret))}
abbrev ahM:IC:=(.Z 5 6 29 0 1 [] (.s [.v 5,.bu (.v 7) (.v 5) 1,.d,.t 2,.t 1] [(10,1),(9,0)] []
 (.g [.v 8,.t 0,.yv 0 9,.y 1 (.mv .A),.xv 0 3,.xv 1 10,.x 2 (.bu .B .A 1),.x 3 (.ld .A none),.y 6 (.pick .E .A (.c (.bool false))),.pick .H (.c (.bool true)) .A,.t 0] [(8,0)] [9,10])))
abbrev ahN:IC:=(.Z 14 15 57 4 5 [19] (.s [.bu (.v 16) (.v 14) 2,.ld .A (some 2),.p (.gw 2),.jX .A .B 2] [(17,0)] []
 (.s [.v 12,.q,.h 0 12,.d,.q,.h 0 0,.d,.fN (.v 17) (.i 0) 2 none,.l,.bu .C .A 1,.d,.fN (.v 17) (.i 1) 2 none,.l,.bu .C .A 1,.d,.t 0] [(19,0)] []
 (.j [.fN (.v 17) (.i 0) 2 none,.l,.v 2,.E .B .A,.t 0,.xv 0 3,.x 1 (.fN (.v 17) (.i 1) 2 none),.xl 2,.x 3 (.bu .C .A 1),.x 4 (.ld .A none),.pick .F .A (.c (.bool false)),.t 0,.xv 0 18,.x 1 (.not .A),.x 2 (.mv .A),.yv 0 19,.yv 1 20,.y 2 (.k9 pB [.B,.A]),.y 3 (.bin .lss .A (.i 0)),.x 7 (.pick .E (.c (.bool true)) .A),.pick .I .A (.c (.bool false))] [] [17] 95 0 (.g [.v 19,.t 0,.mv (.c (.bool true))] [(20,1),(18,0)] [19])))))
abbrev ahO:IC:=(.r [.L (.v 11) (.i 1025)] [] [] 50 0
 (.H 50 2
 (.seq (.block 3 (.m 11 13 []
 (.s [.mv (.c (.ag))] [(20,0)] []
 (.s [.b] [(18,0)] []
 (.seq (.s [.v 12,.v 13,.fE Q8 [.B,.A],.n,.k 0] [(16,2),(15,1),(14,0)] [13]
 (.o 4 ahN))
 (.j [.v 18] [] [14,15,16,18] 98 0 (.s [.v 20,.C uS [.A],.t 0,.mv (.c (.bool true)),.k 0] [(21,2),(22,1),(23,0)] [2,3,11,12,20]
 .ret)))))))
 (.V 11 [20]))))
abbrev Hi:Fn:={np:=4,nv:=24,res:=[(21,none),(22,none),(23,none)],body:=
(.s [.fD (.v 1),.mv (.c (.ag)),.b,.k 0] [(4,3)] [1,21,22,23]
 (.s [.b] [(8,0)] []
 (.seq (.s [.v 0,.cW (.v 4) (some 10),.C Q9 [.B,.A],.v 2,.i,.d,.n,.k 0] [(7,2),(6,1),(5,0)] []
 (.o 0 ahM))
 (.seq (.j [.v 8,.not .A] [] [5,6,7,8] 45 0 (.s [.mv (.c (.ag)),.b,.k 0] [(21,2),(22,1),(23,0)] [0,2,3,4]
 .ret))
 (.s [.v 0,.cW (.v 4) (some 10),.p (.can Ra [.B,.A]),.t 0] [(12,0)] [0,4]
 (.seq (.k 0 11 []
 (.o 2 ahO))
 (.s [.mv (.c (.ag)),.b,.k 3] [(21,2),(22,1),(23,0)] [2,3,11,12]
 .ret)))))))}
abbrev Hj:Fn:={np:=1,nv:=3,res:=[(2,none)],body:=
(.s [.fD (.v 0),.k 0] [(1,1)] [0,2]
 (.s [.cV (.v 1) 0 (some 10),.h 0 5,.l,.n,.t 0] [(2,0)] [1]
 .ret))}
abbrev Hk:Fn:={np:=1,nv:=2,res:=[(1,none)],body:=
(.s [.mv (.c (.ag))] [] [1]
 (.s [.v 0,.C w6 [.A],.t 0] [(1,0)] [0]
 .ret))}
abbrev ahP:IC:=(.Z 1 2 12 0 1 [] (.z 3 1 1 5 []
 (.g [.v 4,.v 5,.p (.Mj .A),.bW [.A] 1,.cp .D .A none,.t 0] [(4,0)] [5])))
abbrev Hl:Fn:={np:=1,nv:=7,res:=[(6,none)],body:=
(.s [.mv (.c (.str []))] [] [6]
 (.s [.v 0,.n,.jc (.i 0) .A [.ik 4 0] none,.t 0] [(4,0)] []
 (.seq (.s [.v 0,.n,.k 0] [(3,2),(2,1),(1,0)] [0]
 (.o 0 ahP))
 (.s [.v 4,.p (.Bu .A),.t 0] [(6,0)] [1,2,3,4]
 .ret))))}
abbrev Hm:Fn:={np:=2,nv:=4,res:=[(3,none)],body:=
(.s [.fD (.v 0),.b] [(2,1)] [0,3]
 (.s [.v 1,.bin .geq .A (.i 0),.t 0,.xv 0 1,.xf 1 2 5,.xl 2,.x 3 (.len .A),.x 4 (.bin .lss .D .A),.pick .F .A (.c (.bool false)),.t 0] [(3,0)] [1,2]
 .ret))}
abbrev Hn:Fn:={np:=1,nv:=2,res:=[(1,none)],body:=
(.s [.b] [] [1]
 (.s [.v 0,.bin .geq .A (.i 1),.t 0,.xv 0 0,.x 1 (.bin .leq .A (.i 1024)),.pick .C .A (.c (.bool false)),.t 0] [(1,0)] [0]
 .ret))}
abbrev Ho:Fn:={np:=2,nv:=3,res:=[(2,none)],body:=
(.s [.b] [] [2]
 (.s [.v 0,.v 1,.C Hp [.B,.A],.bin .geq .A (.i 0),.t 0] [(2,0)] [0,1]
 .ret))}
abbrev Hq:Fn:={np:=2,nv:=3,res:=[(2,none)],body:=
(.s [.b] [] [2]
 (.s [.v 0,.L .A (.i 0),.t 0,.yv 0 0,.y 1 (.ld (.v 1) none),.y 2 (.bin .geq .B .A),.pick .D (.c (.bool true)) .A,.t 0] [(2,0)] [0,1]
 .ret))}
abbrev Hr:Fn:={np:=2,nv:=3,res:=[(2,none)],body:=
(.s [.b] [] [2]
 (.s [.v 0,.L .A (.i 0),.t 0,.yv 0 0,.y 1 (.ld (.v 1) none),.y 2 (.bin .geq .B .A),.pick .D (.c (.bool true)) .A,.t 0] [(2,0)] [0,1]
 .ret))}
abbrev ahQ:IC:=(.seq (.i [.v 2,.v 3,.n,.L .C .A] [] [] 32 0 .skip (.exit 2))
 (.seq (.block 3 (.j [.v 3,.v 2,.i,.d,.v 3,.v 2,.S .A (.i 1),.bu .C .A 1,.d,.N .F .A] [] [] 44 0 (.s [.v 0,.v 1,.v 3,.v 2,.i,.d,.bu .F .E 1,.st .A .B 1] [] []
 (.U 1 []))))
 (.U 2 [])))
abbrev ahR:IC:=(.seq (.w [.v 1,.v 0,.n,.L .C .A] [] [] 13 0)
 (.seq (.block 1 (.j [.v 0,.v 1,.i,.d,.v 0,.v 1,.S .A (.i 1),.bu .C .A 1,.d,.E .F .A] [] [] 25 0 (.s [.v 0,.v 1,.p (.qX .B (some .A) none 1),.t 0] [(3,0)] []
 (.seq (.k 1 2 []
 (.o 2 ahQ))
 (.s [.v 0,.v 1,.p (.qX .B (some .A) none 1),.p (.vA .A [.int 0] none)] [] [2,3]
 (.s [.v 0,.v 1,.p (.qX .B none (some .A) 1),.t 0] [(4,0)] [0,1]
 .ret))))))
 (.U 1 [])))
abbrev Ht:Fn:={np:=1,nv:=5,res:=[(4,none)],body:=
(.s [.mv (.c (.ag))] [] [4]
 (.seq (.j [.v 0,.n,.L .A (.i 2)] [] [] 8 0 (.m 0 4 [0]
 .ret))
 (.seq (.k 1 1 []
 (.o 0 ahR))
 (.m 0 4 [0,1]
 .ret))))}
abbrev ahS:IC:=(.Z 5 6 24 0 1 [] (.z 7 5 1 8 []
 (.s [.v 0,.q,.h 0 12,.d,.v 3,.i,.d,.v 0,.q,.h 0 11,.d,.v 0,.q,.cV .A 0 (some 10),.h 0 6,.d,.v 8,.i,.d,.v 2,.i,.d,.bu (.t 11) .A 1,.d,.bu (.t 17) .A 1,.d,.t 0] [(10,0)] []
 (.g [.v 9,.v 0,.q,.cV .A 0 (some 10),.h 0 9,.d,.v 10,.i,.d,.v 0,.q,.cV .A 0 (some 10),.h 0 7,.d,.v 8,.i,.d,.v 2,.i,.d,.bu (.t 11) .A 1,.d,.v 4,.i,.d,.bW [.A] 1,.app (.t 25) .A none,.t 0] [(9,0)] [8,10]))))
abbrev Hu:Fn:={np:=5,nv:=12,res:=[(11,none)],body:=
(.s [.mv (.c (.ag))] [] [11]
 (.s [.nl none] [(9,0)] []
 (.seq (.s [.v 0,.q,.h 0 12,.d,.v 1,.i,.d,.n,.k 0] [(7,2),(6,1),(5,0)] [1]
 (.o 0 ahS))
 (.m 9 11 [0,2,3,4,5,6,7,9]
 .ret))))}
abbrev ahT:IC:=(.Z 8 9 47 2 3 [] (.m 8 11 []
 (.s [.v 5,.v 0,.q,.h 0 15,.d,.v 2,.i,.d,.v 10,.i,.d,.v 11,.i,.d,.p (.lE (.t 13) [.A])] [] []
 (.g [.v 5,.v 0,.q,.h 0 15,.d,.v 11,.i,.d,.v 10,.i,.d,.v 2,.i,.d,.p (.lE (.t 13) [.A])] [] [11]))))
abbrev ahU:IC:=(.Z 6 7 39 0 1 [8,9,10] (.m 6 10 []
 (.s [.v 0,.q,.h 0 12,.d,.n,.k 0] [(9,1),(8,0)] []
 (.o 2 ahT))))
abbrev Hv:Fn:={np:=3,nv:=13,res:=[(12,none)],body:=
(.s [.fD (.v 1),.mv (.c (.ag))] [(3,1)] [1,12]
 (.s [.cW (.v 3) none,.v 2,.i,.l,.p (.BD .A),.cW (.v 3) none,.v 2,.i,.l,.p (.FJ .A (.c (.ik 7 (8)))),.p (.BD .A),.p (.lz [.G,.A] none),.lW [.ag] none,.st .A .B 1] [(4,1)] []
 (.s [.p (.BG Cg [(.v 4),(.v 3)]),.t 0] [(5,0)] [3]
 (.s [.v 5,.v 0,.q,.h 0 14,.d,.v 2,.i,.d,.p (.lE .H [.A])] [] []
 (.seq (.s [.v 0,.q,.cV .A 0 (some 10),.h 0 0,.d,.k 0] [(7,1),(6,0)] []
 (.o 0 ahU))
 (.s [.ld (.v 4) none,.t 0] [(12,0)] [0,2,4,5,6,7]
 .ret))))))}
abbrev ahV:IC:=(.Z 1 2 12 0 1 [] (.z 3 1 1 5 []
 (.s [.v 4,.v 5,.n,.A .C .A,.t 0] [(4,0)] [5]
 (.j [.v 4,.L .A (.i 0)] [] [] 20 0 .bad))))
abbrev ahW:IC:=(.Z 6 7 28 2 3 [] (.z 8 6 1 10 []
 (.g [.v 9,.v 10,.cp .B .A none,.t 0] [(9,0)] [10])))
abbrev Hw:Fn:={np:=1,nv:=12,res:=[(11,none)],body:=
(.s [.mv (.c (.ag))] [] [11]
 (.k 0 4 []
 (.seq (.s [.v 0,.n,.k 0] [(3,2),(2,1),(1,0)] []
 (.o 0 ahV))
 (.s [.v 4,.p (.can zr [(.c (.ag)),.A]),.t 0] [(9,0)] [1,2,3,4]
 (.seq (.s [.v 0,.n,.k 0] [(8,2),(7,1),(6,0)] [0]
 (.o 2 ahW))
 (.m 9 11 [6,7,8,9]
 .ret))))))}
abbrev ahX:IC:=(.Z 5 6 30 0 1 [] (.s [.v 5,.bu (.v 7) (.v 5) 1,.d,.t 2,.t 1] [(9,1),(8,0)] []
 (.g [.v 0,.v 8,.v 0,.q,.h 0 1,.d,.v 1,.i,.d,.v 2,.bN [.A] 1,.v 0,.q,.h 0 1,.d,.v 3,.i,.d,.v 4,.q,.cV .A 0 (some 10),.h 0 0,.d,.v 4,.q,.cV .A 0 (some 10),.h 0 1,.d,.A .F .A,.v 9,.A .B .A,.bN [.A] 1,.bN [(.t 23),(.t 21),(.t 14),.A] 1,.fE uT [(.t 32),(.t 31),.A]] [] [8,9])))
abbrev Hx:Fn:={np:=4,nv:=10,res:=[],body:=
(.s [.v 0,.q,.h 0 0,.d,.t 0] [(4,0)] []
 (.s [.v 4,.q,.h 0 15,.d,.v 1,.i,.d,.v 2,.i,.d,.v 3,.i,.d,.n,.k 0] [(7,2),(6,1),(5,0)] []
 (.o 0 ahX)))}
abbrev Hy:Fn:={np:=1,nv:=2,res:=[(1,none)],body:=
(.s [.b] [] [1]
 (.s [.v 0,.v 0,.N .B .A,.t 0] [(1,0)] [0]
 .ret))}
abbrev ahY:IC:=(.seq (.w [.v 4,.cV (.v 5) 0 (some 10),.h 0 1,.l,.L .D .A] [] [] 25 0)
 (.seq (.block 1 (.j [.v 1,.f 5 11,.l,.v 2,.i,.l,.v 4,.i,.l,.bu .I .A 1,.d,.v 1,.f 5 11,.l,.v 3,.i,.l,.v 4,.i,.l,.bu .I .A 1,.d,.N (.t 11) .A] [] [] 50 0 (.s [.b] [(8,0)] [1,2,3,4,5]
 .ret)))
 (.U 4 [])))
abbrev ahZ:IC:=(.seq (.i [.v 7,.cV (.v 5) 0 (some 10),.h 0 0,.l,.cV (.v 5) 0 (some 10),.h 0 2,.l,.M .D .A,.L .H .A] [] [] 65 0 .skip (.exit 4))
 (.seq (.block 5 (.j [.v 1,.f 5 12,.l,.v 2,.i,.l,.v 6,.i,.l,.v 7,.i,.l,.bu (.t 11) .A 1,.d,.v 1,.f 5 12,.l,.v 3,.i,.l,.v 6,.i,.l,.v 7,.i,.l,.bu (.t 11) .A 1,.d,.N (.t 14) .A,.t 0,.yv 0 1,.yf 1 5 12,.yl 2,.yv 3 6,.y 4 (.bu .B .A 1),.yl 5,.yv 6 2,.y 7 (.bu .B .A 1),.yl 8,.yv 9 7,.y 10 (.bu .B .A 1),.yl 11,.y 12 (.bu (.t 11) .A 1),.y 13 (.ld .A none),.yv 14 1,.yf 15 5 12,.yl 16,.yv 17 6,.y 18 (.bu .B .A 1),.yl 19,.yv 20 3,.y 21 (.bu .B .A 1),.yl 22,.yv 23 7,.y 24 (.bu .B .A 1),.yl 25,.y 26 (.bu (.t 11) .A 1),.y 27 (.ld .A none),.y 28 (.bin .neq (.t 14) .A),.pick (.t 29) (.c (.bool true)) .A] [] [] 127 0 (.s [.b] [(8,0)] [1,2,3,5,6,7]
 .ret)))
 (.U 7 [])))
abbrev ah0:IC:=(.seq (.i [.v 6,.v 1,.n,.L .C .A] [] [] 54 0 .skip (.exit 2))
 (.seq (.block 3 (.k 0 7 []
 (.o 4 ahZ)))
 (.U 6 [7])))
abbrev Hz:Fn:={np:=4,nv:=9,res:=[(8,none)],body:=
(.s [.fD (.v 0),.b] [(5,1)] [0,8]
 (.seq (.j [.v 1,.v 2,.i,.d,.v 1,.v 3,.i,.d,.N .E .A] [] [] 20 0 (.s [.b] [(8,0)] [1,2,3,5]
 .ret))
 (.seq (.k 0 4 []
 (.o 0 ahY))
 (.seq (.k 0 6 [4]
 (.o 2 ah0))
 (.s [.mv (.c (.bool true))] [(8,0)] [1,2,3,5,6]
 .ret)))))}
abbrev ah1:IC:=(.seq (.w [.v 2,.v 0,.n,.L .C .A,.t 0,.xv 0 2,.xv 1 1,.x 2 (.len .A),.x 3 (.bin .lss .C .A),.pick .E .A (.c (.bool false)),.t 0,.xv 0 0,.xv 1 2,.x 2 (.bu .B .A 1),.x 3 (.ld .A none),.xv 4 1,.xv 5 2,.x 6 (.bu .B .A 1),.x 7 (.ld .A none),.x 8 (.bin .eql .E .A),.pick .J .A (.c (.bool false))] [] [] 26 0)
 (.block 1 (.U 2 [])))
abbrev HA:Fn:={np:=2,nv:=4,res:=[(3,none)],body:=
(.s [.k 0] [] [3]
 (.k 0 2 []
 (.seq (.o 0 ah1)
 (.m 2 3 [0,1,2]
 .ret))))}
abbrev HB:Fn:={np:=2,nv:=5,res:=[(3,none)],body:=
(.s [.k 0] [] [3]
 (.s [.v 0,.v 1,.C Ca [.B,.A],.t 0] [(2,0)] []
 (.seq (.block 0 (.i [.v 2,.v 0,.n,.E .C .A,.t 0,.xv 0 2,.xv 1 1,.x 2 (.len .A),.x 3 (.bin .eql .C .A),.pick .E .A (.c (.bool false)),.t 0] [] [] 9 0 (.k 0 3 [0,1,2]
 .ret) (.seq (.s [.v 2,.v 0,.n,.E .C .A,.t 0] [(4,0)] []
 (.jN 4 .skip (.g [.v 2,.v 1,.n,.L .C .A,.t 0,.xv 0 0,.xv 1 2,.x 2 (.bu .B .A 1),.x 3 (.ld .A none),.xv 4 1,.xv 5 2,.x 6 (.bu .B .A 1),.x 7 (.ld .A none),.x 8 (.bin .lss .E .A),.pick .J .A (.c (.bool false)),.t 0] [(4,0)] [0,1,2])))
 (.jN 4 (.s [.mv (.i (-1))] [(3,0)] [0,1,2,4]
 .ret) .skip))))
 (.k 1 3 [0,1,2,4]
 .ret))))}
abbrev ah2:IC:=(.Z 2 3 25 0 1 [5] (.z 4 2 1 5 []
 (.s [.v 0,.v 5,.fE tm [.B,.A],.t 0,.e .A 0,.e .B 1,.t 1,.t 1] [(8,1),(6,0)] []
 (.seq (.j [.v 6,.N .A (.i 0)] [] [] 35 0 (.s [.v 6,.mv (.c (.ag)),.b,.t 2] [(10,2),(11,1),(12,0)] [0,2,3,4,5,6,7,8]
 .ret))
 (.s [.v 7,.v 8,.p (.vB .B 1 .A (.int 0) true),.t 0,.e .A 0,.e .B 1,.t 1,.t 1] [(9,0)] [6,8]
 (.j [.v 9,.not .A] [] [9] 44 0 (.s [.v 5,.t 0,.mv (.c (.bool true)),.k 0] [(10,2),(11,1),(12,0)] [0,2,3,4,5,7]
 .ret)))))))
abbrev HC:Fn:={np:=1,nv:=13,res:=[(10,none),(11,none),(12,none)],body:=
(.s [.mv (.c (.ag)),.b,.k 0] [] [10,11,12]
 (.s [.v 0,.fE Cf [.A],.t 0,.e .A 0,.e .B 1,.t 1,.t 1] [(7,1),(1,0)] []
 (.seq (.j [.v 1,.N .A (.i 0)] [] [] 19 0 (.s [.v 1,.mv (.c (.ag)),.b,.t 2] [(10,2),(11,1),(12,0)] [0,1,7]
 .ret))
 (.seq (.s [.v 0,.fE HE [.A],.n,.k 0] [(4,2),(3,1),(2,0)] [1]
 (.o 0 ah2))
 (.s [.mv (.c (.ag)),.b,.k 0] [(10,2),(11,1),(12,0)] [0,2,3,4,7]
 .ret)))))}
abbrev HF:Fn:={np:=1,nv:=2,res:=[(1,none)],body:=
(.s [.mv (.c (.ag))] [] [1]
 (.s [.v 0,.C HG [.A],.C Ci [.A],.t 0] [(1,0)] [0]
 .ret))}
abbrev ah3:IC:=(.Z 1 2 16 0 1 [] (.s [.v 1,.bu (.v 3) (.v 1) 1,.d,.t 2,.t 1] [(8,1),(4,0)] []
 (.s [.v 0,.v 4,.fE tm [.B,.A],.t 0,.e .A 0,.e .B 1,.t 1,.t 1] [(7,1),(5,0)] [4]
 (.seq (.j [.v 5,.N .A (.i 0)] [] [] 27 0 (.s [.v 5,.mv (.c (.qh)),.t 1] [(9,1),(10,0)] [0,1,2,3,5,6,7,8]
 .ret))
 (.g [.v 6,.v 7,.v 8,.p (.vz .C 1 .B .A)] [] [5,7,8])))))
abbrev HH:Fn:={np:=1,nv:=11,res:=[(9,none),(10,none)],body:=
(.s [.mv (.c (.qh)),.k 0] [] [9,10]
 (.s [.p (.yr),.t 0] [(6,0)] []
 (.seq (.s [.v 0,.q,.h 0 10,.d,.n,.k 0] [(3,2),(2,1),(1,0)] []
 (.o 0 ah3))
 (.s [.v 6,.t 0,.k 0] [(9,1),(10,0)] [0,1,2,3,6]
 .ret))))}
abbrev ah4:IC:=(.Z 4 5 30 0 1 [] (.s [.bu (.v 6) (.v 4) 2,.ld .A (some 2),.p (.gw 2),.jX .A .B 2] [(7,0)] []
 (.s [.v 0,.q,.cV .A 0 (some 10),.ld .A (some 10),.cW (.v 7) (some 2),.v 1,.C HJ [.B,.A],.C HK [.D,.A],.t 0,.e .A 0,.e .B 1,.t 1,.t 1] [(9,1),(8,0)] [7]
 (.seq (.j [.v 8,.N .A (.i 0)] [] [] 45 0 (.s [.v 8,.mv (.c (.str [])),.t 1] [(11,1),(12,0)] [0,1,2,3,4,5,6,8,9]
 .ret))
 (.s [.mv (.c (.ik 4 (45)))] [(10,0)] [8]
 (.seq (.j [.v 9] [] [9] 47 0 (.g [.mv (.c (.ik 4 (43)))] [(10,0)] []))
 (.s [.v 3,.v 10,.bW [.A] 1,.cp .C .A none,.t 0] [(3,0)] [10]
 (.g [.v 0,.q,.h 0 12,.d,.v 2,.v 3,.p (.xV .C 1 .B .A)] [] []))))))))
abbrev HL:Fn:={np:=2,nv:=13,res:=[(11,none),(12,none)],body:=
(.s [.mv (.c (.str [])),.k 0] [] [11,12]
 (.s [.v 1,.C zt [.A],.t 0] [(2,0)] []
 (.s [.v 0,.q,.h 0 12,.d,.v 2,.p (.vB .B 1 .A (.ag) false),.t 0] [(3,0)] []
 (.seq (.s [.v 0,.q,.h 0 11,.d,.v 3,.n,.p (.qX .C (some .A) none 2),.n,.k 0] [(6,2),(5,1),(4,0)] []
 (.o 0 ah4))
 (.s [.v 3,.p (.Bu .A),.t 0,.k 0] [(11,1),(12,0)] [0,1,2,3,4,5,6]
 .ret)))))}
abbrev HM:Fn:={np:=3,nv:=4,res:=[(3,none)],body:=
(.s [.mv (.c (.ag))] [] [3]
 (.s [.v 1,.v 0,.q,.cV .A 0 (some 10),.h 0 0,.d,.v 2,.A .B .A,.bN [.A] 1,.bN [.I,.A] 1,.C uU [.A],.t 0] [(3,0)] [0,1,2]
 .ret))}
abbrev HN:Fn:={np:=5,nv:=6,res:=[(5,none)],body:=
(.s [.mv (.c (.ag))] [] [5]
 (.s [.v 1,.v 2,.bN [.A] 1,.v 3,.v 0,.q,.cV .A 0 (some 10),.h 0 0,.d,.v 0,.q,.cV .A 0 (some 10),.h 0 1,.d,.A .F .A,.v 4,.A .B .A,.bN [.A] 1,.bN [(.t 17),(.t 15),(.t 14),.A] 1,.C uU [.A],.t 0] [(5,0)] [0,1,2,3,4]
 .ret))}
abbrev ah5:IC:=(.Z 7 8 27 2 3 [] (.m 7 9 []
 (.g [.v 2,.v 5,.i,.d,.v 0,.v 5,.v 9,.p (.inv .C [(j5,tn),(jH,Cj)] [.B,.A]),.bu .E .A 1,.st .A (.c (.bool true)) 1] [] [9])))
abbrev ah6:IC:=(.Z 3 4 16 0 1 [5,7,8] (.m 3 5 []
 (.s [.v 2,.v 5,.v 0,.p (.inv .A [(j5,jZ),(jH,pC)] []),.jc .A .A [.bool false] none,.bu .E .D 1,.st .A .B 1] [] []
 (.s [.f 6 1,.d,.k 0] [(8,1),(7,0)] []
 (.o 2 ah5)))))
abbrev ah7:IC:=(.Z 11 12 46 6 7 [] (.m 11 13 []
 (.g [.v 10,.v 13,.v 2,.v 13,.p (.rp Rb [.B,.A]),.bu .E .D 1,.st .A .B 1] [] [13])))
abbrev ah8:IC:=(.block 5 (.s [.v 0,.p (.inv .A [(j5,jZ),(jH,pC)] []),.jc .A .A [.ag] none,.t 0] [(10,0)] [3,4]
 (.seq (.s [.v 10,.n,.k 0] [(12,1),(11,0)] []
 (.o 6 ah7))
 (.j [.v 0,.ld (.v 6) (some 10),.v 2,.v 10,.fE Rc [.D,.C,.B,.A],.not .A] [] [11,12] 60 0 (.m 10 14 [0,2,6,10]
 .ret)))))
abbrev HO:Fn:={np:=2,nv:=15,res:=[(14,none)],body:=
(.s [.p (.vw (.v 1) (some 10)),.mv (.c (.ag))] [(6,1)] [1,14]
 (.s [.v 0,.p (.inv .A [(j5,jZ),(jH,pC)] []),.jc .A .A [.ag] none,.t 0] [(2,0)] []
 (.seq (.s [.v 2,.n,.k 0] [(4,1),(3,0)] []
 (.o 0 ah6))
 (.o 4 ah8))))}
abbrev ah9:IC:=(.Z 7 8 39 2 3 [] (.m 7 9 []
 (.g [.v 5,.q,.h 0 11,.d,.v 6,.v 0,.v 6,.v 9,.p (.inv .C [(j5,tn),(jH,Cj)] [.B,.A]),.f 2 0,.l,.v 9,.A .B .A,.bN [.A] 1,.fE w7 [(.t 10),.J,.F,.A,(.c (.ag))]] [] [9])))
abbrev aia:IC:=(.Z 10 11 60 4 5 [] (.m 10 12 []
 (.s [.v 0,.v 6,.v 12,.p (.inv .C [(j5,tp),(jH,Ck)] [.B,.A]),.t 0,.e .A 0,.e .B 1,.t 1,.t 1] [(13,1),(14,0)] []
 (.g [.v 5,.q,.h 0 13,.d,.v 13,.v 5,.q,.h 0 13,.d,.v 13,.i,.d,.v 6,.v 12,.v 14,.iz [.int 0,.int 0,.int 0] [(0,1,.C),(1,1,.B),(2,1,.A)],.bW [.A] 3,.app .F .A (some 3),.bu (.t 14) (.t 13) 1,.st .A .B 1] [] [12,13,14]))))
abbrev aib:IC:=(.Z 3 4 27 0 1 [6,10,11] (.m 3 6 []
 (.s [.v 5,.q,.h 0 12,.d,.v 6,.v 6,.fE w7 [.C,.B,.A,(.c (.ag)),(.c (.ag))]] [] []
 (.seq (.s [.f 2 1,.l,.k 0] [(8,1),(7,0)] []
 (.o 2 ah9))
 (.s [.f 2 0,.l,.k 0] [(11,1),(10,0)] [7,8]
 (.o 4 aia))))))
abbrev HP:Fn:={np:=2,nv:=16,res:=[(15,none)],body:=
(.s [.fD (.v 1),.mv (.c (.iy))] [(2,1)] [1,15]
 (.s [.v 0,.cW (.v 2) (some 10),.v 0,.p (.inv .A [(j5,jZ),(jH,pC)] []),.p (.can HQ [.A]),.v 0,.p (.inv .A [(j5,jZ),(jH,pC)] []),.p (.can HQ [.A]),.v 0,.p (.inv .A [(j5,jZ),(jH,pC)] []),.jc .A .A [.ag] none,.iz [.hY,.int 0,.int 0,.int 0,.int 0,.int 0,.ag,.ag,.ag,.ag,.ag,.iy,.iy,.ag] [(0,1,(.t 10)),(1,10,.J),(11,1,.G),(12,1,.D),(13,1,.A)],.p (.vw .A (some 14)),.t 0] [(5,0)] []
 (.seq (.s [.v 0,.p (.inv .A [(j5,jZ),(jH,pC)] []),.k 0] [(4,1),(3,0)] []
 (.o 0 aib))
 (.m 5 15 [0,2,3,4,5]
 .ret))))}
abbrev aic:IC:=(.Z 6 7 41 2 3 [10] (.s [.v 6,.bu (.v 8) (.v 6) 1,.d,.t 2,.t 1] [(10,1),(9,0)] []
 (.j [.v 9] [] [9] 45 0 (.g [.v 0,.q,.h 0 12,.d,.fN (.v 5) (.i 0) 2 none,.l,.v 10,.v 0,.q,.h 0 11,.d,.q,.h 0 0,.d,.fN (.v 5) (.i 0) 2 none,.l,.bu .C .A 1,.d,.fN (.v 5) (.i 1) 2 none,.l,.bu .C .A 1,.d,.v 0,.q,.h 0 12,.d,.q,.h 0 0,.d,.fN (.v 5) (.i 1) 2 none,.l,.bu .C .A 1,.d,.v 10,.i,.d,.fE w7 [(.t 32),(.t 30),(.t 29),(.t 14),.A]] [] [10]))))
abbrev aid:IC:=(.Z 2 3 25 0 1 [5,6,7,8] (.s [.bu (.v 4) (.v 2) 2,.ld .A (some 2),.p (.gw 2),.jX .A .B 2] [(5,0)] []
 (.s [.v 0,.q,.h 0 12,.d,.q,.h 0 1,.d,.fN (.v 5) (.i 1) 2 none,.l,.bu .C .A 1,.d,.n,.k 0] [(8,2),(7,1),(6,0)] []
 (.o 2 aic))))
abbrev aie:IC:=(.Z 16 17 118 6 7 [18] (.m 16 18 []
 (.j [.v 0,.q,.h 0 11,.d,.q,.h 0 1,.d,.v 18,.i,.d,.fN (.v 15) (.i 0) 2 none,.l,.bu .C .A 1,.d] [] [] 133 0 (.g [.v 0,.q,.h 0 12,.d,.v 18,.fN (.v 15) (.i 1) 2 none,.l,.v 0,.q,.h 0 11,.d,.q,.h 0 0,.d,.v 18,.i,.d,.fN (.v 15) (.i 0) 2 none,.l,.bu .C .A 1,.d,.v 19,.fE w7 [(.t 18),(.t 17),(.t 15),.B,.A]] [] [18]))))
abbrev aif:IC:=(.Z 23 24 177 10 11 [] (.m 23 26 []
 (.g [.v 0,.q,.h 0 11,.d,.f 25 0,.l,.v 0,.q,.h 0 0,.d,.fN (.v 15) (.i 1) 2 none,.l,.f 25 2,.l,.v 26,.p (.inv .F [(j5,tq),(jH,Cn),(HR,w8)] [.D,.B,.A]),.f 25 1,.l,.bW [.A] 1,.v 19,.app .B .A none,.v 0,.q,.cV .A 1 (some 10),.h 0 0,⟨.ld .A none,none,true⟩,.v 0,.q,.cV .A 1 (some 10),.h 0 1,⟨.ld .A none,none,true⟩,.A .F .A,.v 26,.A .B .A,.bN [.A] 1,.fE w7 [(.t 31),(.t 29),(.t 19),(.t 14),.A]] [] [26])))
abbrev aih:IC:=(.Z 20 21 168 8 9 [23,24,25] (.s [.bu (.v 22) (.v 20) 3,.ld .A (some 3),.p (.gw 3),.jX .A .B 3] [(25,0)] []
 (.s [.v 0,.q,.cV .A 1 (some 10),.h 0 2,.d,.k 0] [(24,1),(23,0)] []
 (.o 10 aif))))
abbrev aii:IC:=(.Z 12 13 94 4 5 [15,19,20,21,22] (.s [.bu (.v 14) (.v 12) 2,.ld .A (some 2),.p (.gw 2),.jX .A .B 2] [(15,0)] []
 (.s [.v 0,.q,.h 0 12,.d,.q,.h 0 0,.d,.fN (.v 15) (.i 0) 2 none,.l,.bu .C .A 1,.d,.fN (.v 15) (.i 1) 2 none,.l,.bu .C .A 1,.d,.t 0] [(19,0)] []
 (.seq (.s [.v 0,.q,.h 0 0,.d,.p (.inv .A [(j5,jZ),(jH,pC)] []),.k 0] [(17,1),(16,0)] []
 (.o 6 aie))
 (.s [.v 0,.q,.h 0 13,.d,.fN (.v 15) (.i 0) 2 none,.l,.bu .C .A 1,.d,.n,.k 0] [(22,2),(21,1),(20,0)] [16,17]
 (.o 8 aih))))))
abbrev HS:Fn:={np:=2,nv:=28,res:=[(27,none)],body:=
(.s [.mv (.c (.ag))] [] [27]
 (.seq (.s [.v 0,.q,.h 0 11,.d,.v 1,.fE HT [.B,.A],.n,.k 0] [(4,2),(3,1),(2,0)] []
 (.o 0 aid))
 (.s [.v 0,.q,.h 0 12,.d,.v 1,.fE HT [.B,.A],.t 0] [(11,0)] [1,2,3,4]
 (.seq (.s [.v 11,.n,.k 0] [(14,2),(13,1),(12,0)] []
 (.o 4 aii))
 (.m 11 27 [0,11,12,13,14]
 .ret)))))}
abbrev aij:IC:=(.Z 2 3 9 0 1 [4] (.m 2 4 []
 (.j [.v 1,.v 0,.v 4,.i,.d,.p (.l5 .E [.A])] [] [] 16 0 (.m 4 5 [0,1,2,3,4]
 .ret))))
abbrev HU:Fn:={np:=2,nv:=6,res:=[(5,none)],body:=
(.s [.k 0] [] [5]
 (.seq (.s [.v 0,.n,.k 0] [(3,1),(2,0)] []
 (.o 0 aij))
 (.s [.mv (.i (-1))] [(5,0)] [0,1,2,3]
 .ret)))}
abbrev aik:IC:=(.Z 3 4 9 0 1 [] (.z 5 3 1 6 []
 (.g [.ld (.v 1) none,.ld (.v 2) none,.v 6,.i,.d,.p (.BD .A),.ld (.v 2) none,.v 6,.i,.d,.p (.FJ .A (.c (.ik 7 (8)))),.p (.BD .A),.bW [.G,.A] 1,.app (.t 12) .A none,.st (.v 1) .A 1] [] [6])))
abbrev HV:Fn:={np:=3,nv:=7,res:=[],body:=
(.s [.v 0,.n,.k 0] [(5,2),(4,1),(3,0)] [0]
 (.o 0 aik))}
abbrev ail:IC:=(.Z 4 5 26 2 3 [] (.m 4 8 []
 (.g [.v 6,.v 0,.v 7,.v 8,.fE Cd [.C,.B,.A],.bW [.A] 1,.cp .F .A none,.t 0] [(6,0)] [8])))
abbrev aim:IC:=(.Z 14 15 59 8 9 [] (.m 14 18 []
 (.g [.v 6,.v 0,.v 7,.v 16,.v 17,.v 18,.fE Ce [.E,.D,.C,.B,.A],.bW [.A] 1,.cp .H .A none,.t 0] [(6,0)] [18])))
abbrev ain:IC:=(.Z 11 12 50 6 7 [14,15,17] (.z 13 11 1 17 []
 (.s [.v 0,.q,.cV .A 0 (some 10),.h 0 2,.d,.k 0] [(15,1),(14,0)] []
 (.o 8 aim))))
abbrev aio:IC:=(.Z 9 10 42 4 5 [11,12,13,16] (.m 9 16 []
 (.s [.v 0,.q,.h 0 10,.d,.n,.k 0] [(13,2),(12,1),(11,0)] []
 (.o 6 ain))))
abbrev aip:IC:=(.Z 1 2 17 0 1 [7,9,10] (.z 3 1 1 7 []
 (.seq (.s [.v 0,.q,.cV .A 0 (some 10),.h 0 1,.d,.k 0] [(5,1),(4,0)] []
 (.o 2 ail))
 (.s [.v 0,.q,.cV .A 0 (some 10),.h 0 0,.d,.k 0] [(10,1),(9,0)] [4,5]
 (.o 4 aio)))))
abbrev HW:Fn:={np:=1,nv:=20,res:=[(19,none)],body:=
(.s [.mv (.c (.ag))] [] [19]
 (.s [.nl none] [(6,0)] []
 (.seq (.s [.v 0,.q,.h 0 10,.d,.n,.k 0] [(3,2),(2,1),(1,0)] []
 (.seq (.o 0 aip) (.ji 6)))
 (.s [.v 6,.C Ci [.A],.t 0] [(19,0)] [0,1,2,3,6]
 .ret))))}
abbrev HX:Fn:={np:=1,nv:=2,res:=[(1,none)],body:=
(.s [.mv (.c (.ag))] [] [1]
 (.s [.v 0,.p (.k9 HY [.A,(.c (.func pB []))]),.t 0] [(1,0)] [0]
 .ret))}
abbrev aiq:IC:=(.Z 1 2 12 0 1 [] (.z 3 1 1 5 []
 (.s [.v 4,.v 5,.n,.A .C .A,.t 0] [(4,0)] [5]
 (.j [.v 4,.L .A (.i 0)] [] [] 20 0 .bad))))
abbrev air:IC:=(.Z 6 7 28 2 3 [] (.z 8 6 1 10 []
 (.g [.v 9,.v 10,.cp .B .A none,.t 0] [(9,0)] [10])))
abbrev HZ:Fn:={np:=1,nv:=12,res:=[(11,none)],body:=
(.s [.mv (.c (.ag))] [] [11]
 (.k 0 4 []
 (.seq (.s [.v 0,.n,.k 0] [(3,2),(2,1),(1,0)] []
 (.o 0 aiq))
 (.s [.v 4,.p (.can zu [(.c (.ag)),.A]),.t 0] [(9,0)] [1,2,3,4]
 (.seq (.s [.v 0,.n,.k 0] [(8,2),(7,1),(6,0)] [0]
 (.o 2 air))
 (.m 9 11 [6,7,8,9]
 .ret))))))}
abbrev H0:Fn:={np:=2,nv:=4,res:=[(3,none)],body:=
(.s [.fD (.v 0),.mv (.c (.ag))] [(2,1)] [0,3]
 (.seq (.j [.cW (.v 2) (some 2),.iz [.str [],.str []] [],.p (.Mp false 2 .B .A)] [] [] 7 0 (.m 1 3 [1,2]
 .ret))
 (.s [.f 2 0,.l,.C Co [.A],.v 1,.f 2 1,.l,.C Co [.A],.bN [.E,.D,.A] 1,.C uU [.A],.t 0] [(3,0)] [1,2]
 .ret)))}
abbrev ais:IC:=(.Z 5 6 33 2 3 [9] (.s [.v 5,.bu (.v 7) (.v 5) 1,.d,.t 2,.t 1] [(9,1),(8,0)] []
 (.j [.v 8,.t 0,.xv 0 2,.xv 1 9,.x 2 (.bu .B .A 1),.x 3 (.ld .A none),.x 4 (.not .A),.pick .F .A (.c (.bool false))] [] [8] 44 0 (.s [.v 2,.v 9,.i,.st .A (.c (.bool true)) 1] [] []
 (.g [.v 4,.v 9,.bW [.A] 1,.cp .C .A none,.t 0] [(4,0)] [9])))))
abbrev ait:IC:=(.seq (.w [.v 3,.v 4,.n,.L .C .A] [] [] 21 0)
 (.seq (.block 1 (.s [.v 0,.v 4,.v 3,.i,.d,.bu .E .A 1,.d,.n,.k 0] [(7,2),(6,1),(5,0)] []
 (.o 2 ais)))
 (.U 3 [5,6,7])))
abbrev H2:Fn:={np:=2,nv:=11,res:=[(10,none)],body:=
(.s [.mv (.c (.ag))] [] [10]
 (.s [.v 0,.n,.jc .A .A [.bool false] none,.t 0] [(2,0)] []
 (.s [.v 2,.v 1,.i,.st .A (.c (.bool true)) 1] [] []
 (.s [.v 1,.p (.lz [.A] none),.t 0] [(4,0)] [1]
 (.seq (.k 0 3 []
 (.o 0 ait))
 (.m 2 10 [0,2,3,4]
 .ret))))))}
abbrev aiu:IC:=(.seq (.i [.v 15,.f 6 2,.l,.L .C .A,.t 0,.xv 0 16,.pick .B .A (.c (.bool false))] [] [] 51 0 .skip (.exit 6))
 (.seq (.block 7 (.s [.v 0,.v 17,.v 18,.v 15,.p (.inv .D [(j5,tq),(jH,Cn),(HR,w8)] [.C,.B,.A]),.t 0] [(20,0)] []
 (.s [.v 19,.t 0,.yv 0 2,.yv 1 9,.y 2 (.bu .B .A 1),.y 3 (.ld .A none),.yv 4 20,.y 5 (.bu .B .A 1),.y 6 (.ld .A none),.y 7 (.not .A),.pick .I (.c (.bool true)) .A,.t 0] [(19,0)] []
 (.g [.v 2,.v 9,.i,.d,.v 20,.i,.st .A (.c (.bool true)) 1] [] [20]))))
 (.U 15 [])))
abbrev aiv:IC:=(.Z 12 13 41 4 5 [15,16,17] (.s [.v 12,.bu (.v 14) (.v 12) 1,.d,.t 2,.t 1] [(17,1),(16,0)] []
 (.k 0 15 []
 (.o 6 aiu))))
abbrev aiw:IC:=(.Z 7 8 26 2 3 [12,13,14,18] (.m 7 10 []
 (.s [.v 0,.v 9,.v 10,.p (.inv .C [(j5,tp),(jH,Ck)] [.B,.A]),.t 0,.e .A 0,.e .B 1,.t 1,.t 1] [(11,1),(18,0)] [10]
 (.s [.v 3,.v 11,.i,.d,.n,.k 0] [(14,2),(13,1),(12,0)] [11]
 (.o 4 aiv)))))
abbrev aix:IC:=(.Z 4 5 21 0 1 [7,8,9] (.m 4 9 []
 (.s [.f 6 0,.l,.k 0] [(8,1),(7,0)] []
 (.o 2 aiw))))
abbrev H3:Fn:={np:=4,nv:=22,res:=[(21,none)],body:=
(.s [.fD (.v 1),.b] [(6,1)] [1,21]
 (.s [.b] [(19,0)] []
 (.seq (.s [.v 2,.n,.k 0] [(5,1),(4,0)] []
 (.o 0 aix))
 (.m 19 21 [0,2,3,4,5,6,19]
 .ret))))}
abbrev aiy:IC:=(.Z 1 2 9 0 1 [] (.s [.v 3,.v 3,.q,.h 0 0,.d,.v 0,.jc .A .A [.ag] none,.bW [.A] 1,.app .D .A none,.p (.o9 .I),.h 0 0,.st .A .C 1] [] []
 (.g [.v 3,.v 3,.q,.h 0 1,.d,.v 0,.jc .A .A [.bool false] none,.bW [.A] 1,.app .D .A none,.p (.o9 .I),.h 0 1,.st .A .C 1] [] [])))
abbrev H4:Fn:={np:=1,nv:=5,res:=[(4,none)],body:=
(.s [.mv (.c (.iy))] [] [4]
 (.s [.jc (.i 1025) (.i 1025) [.ag] none,.iz [.ag,.ag,.ag] [(2,1,.A)],.p (.vw .A (some 3)),.t 0] [(3,0)] []
 (.seq (.s [.v 0,.k 0] [(2,1),(1,0)] []
 (.o 0 aiy))
 (.m 3 4 [0,1,2,3]
 .ret))))}
abbrev aiz:gi:=⟨[.v 3,.n,.v 4,.n,.A .C .A,.t 0],[(5,0)],[],none⟩
abbrev aiA:gi:=⟨[.v 0,.q,.h 0 0,.d,.v 1,.i,.d,.v 2,.i,.d,.t 0],[(6,0)],[],none⟩
abbrev aiB:gi:=⟨[.v 5,.G .A (.i 1024),.t 0,.yv 0 0,.y 1 (.o9 .A),.y 2 (.cV .A 1 none),.y 3 (.ld .A none),.yv 4 1,.y 5 (.bu .B .A 1),.y 6 (.ld .A none),.yv 7 2,.y 8 (.bu .B .A 1),.y 9 (.ld .A none),.pick (.t 10) (.c (.bool true)) .A,.t 0,.yv 0 6,.y 1 (.oy true .A),.y 2 (.mv .A),.xv 0 6,.x 1 (.len .A),.xv 2 5,.x 3 (.bin .lss .B .A),.y 7 (.pick .E .A (.c (.bool false))),.pick .I (.c (.bool true)) .A],[],[],some (51,0)⟩
abbrev aiC:gi:=⟨[.v 5,.A .A (.i 1),.jc (.i 0) .A [.int 0] none,.v 3,.cp .B .A none,.v 4,.cp .B .A none,.t 0],[(7,0)],[3,4],none⟩
abbrev aiD:gi:=⟨[.v 6,.p (.oy true .A),.t 0,.xv 0 6,.xv 1 7,.x 2 (.k9 pB [.B,.A]),.x 3 (.bin .leq .A (.i 0)),.pick .E .A (.c (.bool false))],[],[],some (66,0)⟩
abbrev aiE:gi:=⟨[.v 0,.q,.h 0 0,.d,.v 1,.i,.d,.v 2,.v 7,.bu .C .B 1,.st .A .B 1],[],[7],none⟩
abbrev aiF:gi:=⟨[.v 6,.p (.oy false .A),.t 0,.yv 0 6,.y 1 (.len .A),.yv 2 5,.y 3 (.bin .gtr .B .A),.pick .E (.c (.bool true)) .A],[],[6],some (84,0)⟩
abbrev aiG:gi:=⟨[.v 0,.q,.h 0 2,.d,.v 5,.v 0,.q,.h 0 2,.d,.v 5,.i,.d,.v 1,.v 2,.iz [.int 0,.int 0] [(0,1,.B),(1,1,.A)],.bW [.A] 2,.app .E .A (some 2),.bu (.t 13) (.t 12) 1,.st .A .B 1],[],[0,1,2,5],none⟩
abbrev H5:Fn:={np:=5,nv:=8,res:=[],body:=
(.seq (.cF aiz)
 (.seq (.cF aiA)
 (.seq (.seq (.cF aiB)
 (.cond 51 .ret .skip))
 (.seq (.seq (.cF aiC) (.ji 7))
 (.seq (.seq (.cF aiD)
 (.cond 66 .ret .skip))
 (.seq (.cF aiE)
 (.seq (.cF aiF)
 (.cond 84 (.cF aiG) .skip))))))))}
abbrev aiH:IC:=(.Z 2 3 17 0 1 [5] (.s [.bu (.v 4) (.v 2) 2,.ld .A (some 2),.p (.gw 2),.jX .A .B 2] [(5,0)] []
 (.j [.v 0,.q,.h 0 1,.d,.fN (.v 5) (.i 0) 2 none,.l,.bu .C .A 1,.d,.fN (.v 5) (.i 1) 2 none,.l,.bu .C .A 1,.d,.not .A] [] [] 32 0 (.s [.v 0,.q,.h 0 1,.d,.fN (.v 5) (.i 0) 2 none,.l,.bu .C .A 1,.d,.fN (.v 5) (.i 1) 2 none,.l,.bu .C .A 1,.st .A (.c (.bool true)) 1] [] []
 (.g [.v 6,.cW (.v 5) (some 2),.bW [.A] 2,.cp .C .A (some 2),.t 0] [(6,0)] [5])))))
abbrev H6:Fn:={np:=2,nv:=8,res:=[(7,none)],body:=
(.s [.mv (.c (.ag))] [] [7]
 (.s [.nl (some 2)] [(6,0)] []
 (.seq (.s [.v 0,.q,.h 0 2,.d,.v 1,.i,.d,.n,.k 0] [(4,2),(3,1),(2,0)] [1]
 (.o 0 aiH))
 (.m 6 7 [0,2,3,4,6]
 .ret))))}
abbrev Re:IC:=(.Z 4 5 19 0 1 [] (.s [.v 4,.bu (.v 6) (.v 4) 1,.d,.t 2,.t 1] [(7,1),(8,0)] []
 (.g [.v 2,.v 7,.v 8,.C uS [.A],.bu .D .C 1,.st .A .B 1] [] [7,8])))
abbrev H7:Fn:={np:=2,nv:=10,res:=[(9,none)],body:=
(.s [.fD (.v 1),.mv (.c (.ag))] [(3,1)] [1,9]
 (.s [.v 0,.p (.can zw [.A]),.t 0] [(2,0)] [0]
 (.s [.v 2,.cW (.v 3) none,.fE zx [.B,.A]] [] []
 (.s [.v 2,.p (.BG zy [(.v 3)]),.fE Cp [.B,.A],.t 0] [(2,0)] [3]
 (.seq (.s [.v 2,.n,.k 0] [(6,2),(5,1),(4,0)] []
 (.o 0 Re))
 (.m 2 9 [2,4,5,6]
 .ret))))))}
abbrev aiI:IC:=(.Z 1 2 10 0 1 [] (.z 3 1 1 5 []
 (.g [.v 4,.v 5,.p (.Et .A),.bW [.A] 1,.cp .D .A none,.t 0] [(4,0)] [5])))
abbrev H8:Fn:={np:=1,nv:=7,res:=[(6,none)],body:=
(.s [.mv (.c (.ag))] [] [6]
 (.s [.nl none] [(4,0)] []
 (.seq (.s [.v 0,.p (.Mb .A),.n,.k 0] [(3,2),(2,1),(1,0)] [0]
 (.o 0 aiI))
 (.m 4 6 [1,2,3,4]
 .ret))))}
abbrev Rg:Fn:={np:=1,nv:=2,res:=[(1,none)],body:=
(.s [.mv (.c (.ag))] [] [1]
 (.seq (.j [.v 0,.p (.oy false .A)] [] [] 4 0 (.s [.mv (.c (.ag))] [(1,0)] [0]
 .ret))
 (.s [.bW [] 1,.v 0,.cp .B .A none,.t 0] [(1,0)] [0]
 .ret)))}
abbrev aiJ:IC:=(.seq (.i [.v 3,.v 4,.n,.L .C .A] [] [] 35 0 .skip (.exit 2))
 (.seq (.block 3 (.j [.v 1,.v 4,.v 3,.i,.d,.v 4,.v 3,.S .A (.i 1),.bu .C .A 1,.d,.p (.l5 .J [.F,.A]),.not .A] [] [] 49 0 (.s [.v 0,.v 2,.v 4,.v 3,.i,.d,.bu .F .E 1,.st .A .B 1] [] []
 (.U 2 []))))
 (.U 3 [])))
abbrev aiK:IC:=(.seq (.w [.v 2,.v 0,.n,.L .C .A] [] [] 15 0)
 (.seq (.block 1 (.j [.v 1,.v 0,.v 2,.i,.d,.v 0,.v 2,.S .A (.i 1),.bu .C .A 1,.d,.p (.l5 .J [.F,.A])] [] [] 28 0 (.s [.v 0,.v 2,.p (.qX .B (some .A) none 1),.t 0] [(4,0)] []
 (.seq (.k 1 3 []
 (.o 2 aiJ))
 (.s [.v 0,.v 2,.p (.qX .B (some .A) none 1),.p (.vA .A [.ag] none)] [] [1,3,4]
 (.s [.v 0,.v 2,.p (.qX .B none (some .A) 1),.t 0] [(5,0)] [0,2]
 .ret))))))
 (.U 2 [])))
abbrev H9:Fn:={np:=2,nv:=6,res:=[(5,none)],body:=
(.s [.mv (.c (.ag))] [] [5]
 (.seq (.j [.v 0,.n,.L .A (.i 2)] [] [] 10 0 (.m 0 5 [0,1]
 .ret))
 (.seq (.k 1 2 []
 (.o 0 aiK))
 (.m 0 5 [0,1,2]
 .ret))))}
abbrev Ia:Fn:={np:=3,nv:=4,res:=[(3,none)],body:=
(.s [.b] [] [3]
 (.s [.ld (.v 2) none,.v 0,.v 1,.p (.l5 .C [.B,.A]),.E .A (.i 0),.t 0] [(3,0)] [0,1,2]
 .ret))}
abbrev Ib:Fn:={np:=3,nv:=12,res:=[(10,none),(11,none)],body:=
(.s [.fD (.v 0),.k 0,.k 0] [(3,2)] [0,10,11]
 (.s [.cW (.v 3) (some 20),.v 1,.C zz [.B,.A],.t 0,.e .A 0,.e .B 1,.t 1,.t 1] [(4,1),(5,0)] [1]
 (.s [.cV (.v 3) 0 (some 10),.cW .A (some 10),.v 4,.v 2,.C tp [.C,.B,.A],.t 0,.e .A 0,.e .B 1,.t 1,.t 1] [(6,1),(8,0)] [4]
 (.s [.cV (.v 3) 10 (some 10),.cW .A (some 10),.v 5,.v 2,.C tp [.C,.B,.A],.t 0,.e .A 0,.e .B 1,.t 1,.t 1] [(7,1),(9,0)] [2,5]
 (.s [.v 6,.cV (.v 3) 10 (some 10),.cW .A (some 10),.C jZ [.A],.M .D .A,.v 7,.A .B .A,.v 8,.cV (.v 3) 10 (some 10),.cV .A 0 (some 10),.h 0 3,.l,.M .E .A,.v 9,.A .B .A,.t 8,.t 1] [(10,1),(11,0)] [3,6,7,8,9]
 .ret)))))}
abbrev Ic:Fn:={np:=3,nv:=7,res:=[(6,none)],body:=
(.s [.fD (.v 0),.k 0] [(3,1)] [0,6]
 (.s [.cW (.v 3) (some 20),.v 1,.C zz [.B,.A],.t 0,.e .A 0,.e .B 1,.t 1,.t 1] [(4,1),(5,0)] [1]
 (.s [.cV (.v 3) 0 (some 10),.cW .A (some 10),.v 4,.v 2,.C tn [.C,.B,.A],.cV (.v 3) 10 (some 10),.cW .A (some 10),.C jZ [.A],.M .D .A,.cV (.v 3) 10 (some 10),.cW .A (some 10),.v 5,.v 2,.C tn [.C,.B,.A],.A .F .A,.t 0] [(6,0)] [2,3,4,5]
 .ret)))}
abbrev Ie:Fn:={np:=4,nv:=8,res:=[(7,none)],body:=
(.s [.fD (.v 0),.k 0] [(4,1)] [0,7]
 (.s [.cW (.v 4) (some 20),.v 1,.C zz [.B,.A],.t 0,.e .A 0,.e .B 1,.t 1,.t 1] [(5,1),(6,0)] [1]
 (.s [.cV (.v 4) 0 (some 10),.cW .A (some 10),.v 5,.v 2,.cV (.v 4) 10 (some 10),.cV .A 0 (some 10),.h 0 3,.l,.bin .quo .E .A,.v 3,.C tq [.I,.H,.B,.A],.cV (.v 4) 10 (some 10),.cW .A (some 10),.C jZ [.A],.M .D .A,.cV (.v 4) 10 (some 10),.cW .A (some 10),.v 6,.v 2,.cV (.v 4) 10 (some 10),.cV .A 0 (some 10),.h 0 3,.l,.bin .rem .E .A,.v 3,.C tq [.I,.H,.B,.A],.A (.t 11) .A,.t 0] [(7,0)] [2,3,4,5,6]
 .ret)))}
end Ab
