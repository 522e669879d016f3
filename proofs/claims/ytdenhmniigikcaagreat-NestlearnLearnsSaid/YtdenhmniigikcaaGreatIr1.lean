/- The functions of the program as small texts, printed by a tool of mine. Condition: none. -/
import Derived.Test.YtdenhmniigikcaaGreatIr0
set_option linter.all false
open Option renaming some->aa,none->ab
open Bool renaming true->ad,false->ae
namespace Ab
abbrev ai2:IC:=(.seq (.i [.v 2,.v 3,.n,.L .C .A] [] [] 32 0 .skip (.exit 2))
 (.seq (.block 3 (.j [.v 3,.v 2,.i,.d,.v 3,.v 2,.S .A (.i 1),.cz .C .A 1,.d,.N .F .A] [] [] 44 0 (.s [.v 0,.v 1,.v 3,.v 2,.i,.d,.cz .F .E 1,.st .A .B 1] [] []
 (.U 1 []))))
 (.U 2 [])))
abbrev ai3:IC:=(.seq (.w [.v 1,.v 0,.n,.L .C .A] [] [] 13 0)
 (.seq (.block 1 (.j [.v 0,.v 1,.i,.d,.v 0,.v 1,.S .A (.i 1),.cz .C .A 1,.d,.E .F .A] [] [] 25 0 (.s [.v 0,.v 1,.p (.qp .B (aa .A) ab 1),.t 0] [(3,0)] []
 (.seq (.k 1 2 []
 (.o 2 ai2))
 (.s [.v 0,.v 1,.p (.qp .B (aa .A) ab 1),.p (.xF .A [.int 0] ab)] [] [2,3]
 (.s [.v 0,.v 1,.p (.qp .B ab (aa .A) 1),.t 0] [(4,0)] [0,1]
 .ret))))))
 (.U 1 [])))
abbrev IT:Fn:={np:=1,nv:=5,res:=[(4,ab)],body:=
(.s [.mv (.c (.aJ))] [] [4]
 (.seq (.j [.v 0,.n,.L .A (.i 2)] [] [] 8 0 (.m 0 4 [0]
 .ret))
 (.seq (.k 1 1 []
 (.o 0 ai3))
 (.m 0 4 [0,1]
 .ret))))}
abbrev ai4:IC:=(.Z 5 6 24 0 1 [] (.z 7 5 1 8 []
 (.s [.v 0,.q,.h 0 12,.d,.v 3,.i,.d,.v 0,.q,.h 0 11,.d,.v 0,.q,.eu .A 0 (aa 10),.h 0 6,.d,.v 8,.i,.d,.v 2,.i,.d,.cz (.t 11) .A 1,.d,.cz (.t 17) .A 1,.d,.t 0] [(10,0)] []
 (.g [.v 9,.v 0,.q,.eu .A 0 (aa 10),.h 0 9,.d,.v 10,.i,.d,.v 0,.q,.eu .A 0 (aa 10),.h 0 7,.d,.v 8,.i,.d,.v 2,.i,.d,.cz (.t 11) .A 1,.d,.v 4,.i,.d,.dV [.A] 1,.app (.t 25) .A ab,.t 0] [(9,0)] [8,10]))))
abbrev IU:Fn:={np:=5,nv:=12,res:=[(11,ab)],body:=
(.s [.mv (.c (.aJ))] [] [11]
 (.s [.nl ab] [(9,0)] []
 (.seq (.s [.v 0,.q,.h 0 12,.d,.v 1,.i,.d,.n,.k 0] [(7,2),(6,1),(5,0)] [1]
 (.o 0 ai4))
 (.m 9 11 [0,2,3,4,5,6,7,9]
 .ret))))}
abbrev ai5:IC:=(.Z 8 9 47 2 3 [] (.m 8 11 []
 (.s [.v 5,.v 0,.q,.h 0 15,.d,.v 2,.i,.d,.v 10,.i,.d,.v 11,.i,.d,.p (.mB (.t 13) [.A])] [] []
 (.g [.v 5,.v 0,.q,.h 0 15,.d,.v 11,.i,.d,.v 10,.i,.d,.v 2,.i,.d,.p (.mB (.t 13) [.A])] [] [11]))))
abbrev ai6:IC:=(.Z 6 7 39 0 1 [8,9,10] (.m 6 10 []
 (.s [.v 0,.q,.h 0 12,.d,.n,.k 0] [(9,1),(8,0)] []
 (.o 2 ai5))))
abbrev IV:Fn:={np:=3,nv:=13,res:=[(12,ab)],body:=
(.s [.ig (.v 1),.mv (.c (.aJ))] [(3,1)] [1,12]
 (.s [.ew (.v 3) ab,.v 2,.i,.l,.p (.DZ .A),.ew (.v 3) ab,.v 2,.i,.l,.p (.HU .A (.c (.ik 7 (8)))),.p (.DZ .A),.p (.oA [.G,.A] ab),.oz [.aJ] ab,.st .A .B 1] [(4,1)] []
 (.s [.p (.D4 Er [(.v 4),(.v 3)]),.t 0] [(5,0)] [3]
 (.s [.v 5,.v 0,.q,.h 0 14,.d,.v 2,.i,.d,.p (.mB .H [.A])] [] []
 (.seq (.s [.v 0,.q,.eu .A 0 (aa 10),.h 0 0,.d,.k 0] [(7,1),(6,0)] []
 (.o 0 ai6))
 (.s [.ld (.v 4) ab,.t 0] [(12,0)] [0,2,4,5,6,7]
 .ret))))))}
abbrev ai7:IC:=(.Z 1 2 12 0 1 [] (.z 3 1 1 5 []
 (.s [.v 4,.v 5,.n,.A .C .A,.t 0] [(4,0)] [5]
 (.j [.v 4,.L .A (.i 0)] [] [] 20 0 .bad))))
abbrev ai8:IC:=(.Z 6 7 28 2 3 [] (.z 8 6 1 10 []
 (.g [.v 9,.v 10,.dH .B .A ab,.t 0] [(9,0)] [10])))
abbrev IW:Fn:={np:=1,nv:=12,res:=[(11,ab)],body:=
(.s [.mv (.c (.aJ))] [] [11]
 (.k 0 4 []
 (.seq (.s [.v 0,.n,.k 0] [(3,2),(2,1),(1,0)] []
 (.o 0 ai7))
 (.s [.v 4,.p (.can BB [(.c (.aJ)),.A]),.t 0] [(9,0)] [1,2,3,4]
 (.seq (.s [.v 0,.n,.k 0] [(8,2),(7,1),(6,0)] [0]
 (.o 2 ai8))
 (.m 9 11 [6,7,8,9]
 .ret))))))}
abbrev ai9:IC:=(.Z 5 6 30 0 1 [] (.s [.v 5,.cz (.v 7) (.v 5) 1,.d,.t 2,.t 1] [(9,1),(8,0)] []
 (.g [.v 0,.v 8,.v 0,.q,.h 0 1,.d,.v 1,.i,.d,.v 2,.cq [.A] 1,.v 0,.q,.h 0 1,.d,.v 3,.i,.d,.v 4,.q,.eu .A 0 (aa 10),.h 0 0,.d,.v 4,.q,.eu .A 0 (aa 10),.h 0 1,.d,.A .F .A,.v 9,.A .B .A,.cq [.A] 1,.cq [(.t 23),(.t 21),(.t 14),.A] 1,.gm wM [(.t 32),(.t 31),.A]] [] [8,9])))
abbrev IX:Fn:={np:=4,nv:=10,res:=[],body:=
(.s [.v 0,.q,.h 0 0,.d,.t 0] [(4,0)] []
 (.s [.v 4,.q,.h 0 15,.d,.v 1,.i,.d,.v 2,.i,.d,.v 3,.i,.d,.n,.k 0] [(7,2),(6,1),(5,0)] []
 (.o 0 ai9)))}
abbrev IY:Fn:={np:=1,nv:=2,res:=[(1,ab)],body:=
(.s [.b] [] [1]
 (.s [.v 0,.v 0,.N .B .A,.t 0] [(1,0)] [0]
 .ret))}
abbrev aja:IC:=(.Z 2 3 25 0 1 [5] (.z 4 2 1 5 []
 (.s [.v 0,.v 5,.gm uO [.B,.A],.t 0,.e .A 0,.e .B 1,.t 1,.t 1] [(8,1),(6,0)] []
 (.seq (.j [.v 6,.N .A (.i 0)] [] [] 35 0 (.s [.v 6,.mv (.c (.aJ)),.b,.t 2] [(10,2),(11,1),(12,0)] [0,2,3,4,5,6,7,8]
 .ret))
 (.s [.v 7,.v 8,.p (.xG .B 1 .A (.int 0) ad),.t 0,.e .A 0,.e .B 1,.t 1,.t 1] [(9,0)] [6,8]
 (.j [.v 9,.not .A] [] [9] 44 0 (.s [.v 5,.t 0,.mv (.c (.bool ad)),.k 0] [(10,2),(11,1),(12,0)] [0,2,3,4,5,7]
 .ret)))))))
abbrev IZ:Fn:={np:=1,nv:=13,res:=[(10,ab),(11,ab),(12,ab)],body:=
(.s [.mv (.c (.aJ)),.b,.k 0] [] [10,11,12]
 (.s [.v 0,.gm Es [.A],.t 0,.e .A 0,.e .B 1,.t 1,.t 1] [(7,1),(1,0)] []
 (.seq (.j [.v 1,.N .A (.i 0)] [] [] 19 0 (.s [.v 1,.mv (.c (.aJ)),.b,.t 2] [(10,2),(11,1),(12,0)] [0,1,7]
 .ret))
 (.seq (.s [.v 0,.gm I0 [.A],.n,.k 0] [(4,2),(3,1),(2,0)] [1]
 (.o 0 aja))
 (.s [.mv (.c (.aJ)),.b,.k 0] [(10,2),(11,1),(12,0)] [0,2,3,4,7]
 .ret)))))}
abbrev I3:Fn:={np:=1,nv:=2,res:=[(1,ab)],body:=
(.s [.mv (.c (.aJ))] [] [1]
 (.s [.v 0,.C I4 [.A],.C Et [.A],.t 0] [(1,0)] [0]
 .ret))}
abbrev ajb:IC:=(.Z 1 2 16 0 1 [] (.s [.v 1,.cz (.v 3) (.v 1) 1,.d,.t 2,.t 1] [(8,1),(4,0)] []
 (.s [.v 0,.v 4,.gm uO [.B,.A],.t 0,.e .A 0,.e .B 1,.t 1,.t 1] [(7,1),(5,0)] [4]
 (.seq (.j [.v 5,.N .A (.i 0)] [] [] 27 0 (.s [.v 5,.mv (.c (.rF)),.t 1] [(9,1),(10,0)] [0,1,2,3,5,6,7,8]
 .ret))
 (.g [.v 6,.v 7,.v 8,.p (.xE .C 1 .B .A)] [] [5,7,8])))))
abbrev I5:Fn:={np:=1,nv:=11,res:=[(9,ab),(10,ab)],body:=
(.s [.mv (.c (.rF)),.k 0] [] [9,10]
 (.s [.p (.Az),.t 0] [(6,0)] []
 (.seq (.s [.v 0,.q,.h 0 10,.d,.n,.k 0] [(3,2),(2,1),(1,0)] []
 (.o 0 ajb))
 (.s [.v 6,.t 0,.k 0] [(9,1),(10,0)] [0,1,2,3,6]
 .ret))))}
abbrev ajc:IC:=(.Z 4 5 30 0 1 [] (.s [.cz (.v 6) (.v 4) 2,.ld .A (aa 2),.p (.iA 2),.kP .A .B 2] [(7,0)] []
 (.s [.v 0,.q,.eu .A 0 (aa 10),.ld .A (aa 10),.ew (.v 7) (aa 2),.v 1,.C I6 [.B,.A],.C wN [.D,.A],.t 0,.e .A 0,.e .B 1,.t 1,.t 1] [(9,1),(8,0)] [7]
 (.seq (.j [.v 8,.N .A (.i 0)] [] [] 45 0 (.s [.v 8,.mv (.c (.str [])),.t 1] [(11,1),(12,0)] [0,1,2,3,4,5,6,8,9]
 .ret))
 (.s [.mv (.c (.ik 4 (45)))] [(10,0)] [8]
 (.seq (.j [.v 9] [] [9] 47 0 (.g [.mv (.c (.ik 4 (43)))] [(10,0)] []))
 (.s [.v 3,.v 10,.dV [.A] 1,.dH .C .A ab,.t 0] [(3,0)] [10]
 (.g [.v 0,.q,.h 0 12,.d,.v 2,.v 3,.p (.Af .C 1 .B .A)] [] []))))))))
abbrev I7:Fn:={np:=2,nv:=13,res:=[(11,ab),(12,ab)],body:=
(.s [.mv (.c (.str [])),.k 0] [] [11,12]
 (.s [.v 1,.C uP [.A],.t 0] [(2,0)] []
 (.s [.v 0,.q,.h 0 12,.d,.v 2,.p (.xG .B 1 .A (.aJ) ae),.t 0] [(3,0)] []
 (.seq (.s [.v 0,.q,.h 0 11,.d,.v 3,.n,.p (.qp .C (aa .A) ab 2),.n,.k 0] [(6,2),(5,1),(4,0)] []
 (.o 0 ajc))
 (.s [.v 3,.p (.DR .A),.t 0,.k 0] [(11,1),(12,0)] [0,1,2,3,4,5,6]
 .ret)))))}
abbrev I8:Fn:={np:=3,nv:=4,res:=[(3,ab)],body:=
(.s [.mv (.c (.aJ))] [] [3]
 (.s [.v 1,.v 0,.q,.eu .A 0 (aa 10),.h 0 0,.d,.v 2,.A .B .A,.cq [.A] 1,.cq [.I,.A] 1,.C qK [.A],.t 0] [(3,0)] [0,1,2]
 .ret))}
abbrev I9:Fn:={np:=5,nv:=6,res:=[(5,ab)],body:=
(.s [.mv (.c (.aJ))] [] [5]
 (.s [.v 1,.v 2,.cq [.A] 1,.v 3,.v 0,.q,.eu .A 0 (aa 10),.h 0 0,.d,.v 0,.q,.eu .A 0 (aa 10),.h 0 1,.d,.A .F .A,.v 4,.A .B .A,.cq [.A] 1,.cq [(.t 17),(.t 15),(.t 14),.A] 1,.C qK [.A],.t 0] [(5,0)] [0,1,2,3,4]
 .ret))}
abbrev ajd:IC:=(.Z 7 8 27 2 3 [] (.m 7 9 []
 (.g [.v 2,.v 5,.i,.d,.v 0,.v 5,.v 9,.p (.inv .C [(kM,uQ),(jY,y9)] [.B,.A]),.cz .E .A 1,.st .A (.c (.bool ad)) 1] [] [9])))
abbrev aje:IC:=(.Z 3 4 16 0 1 [5,7,8] (.m 3 5 []
 (.s [.v 2,.v 5,.v 0,.p (.inv .A [(kM,kq),(jY,oO)] []),.kG .A .A [.bool ae] ab,.cz .E .D 1,.st .A .B 1] [] []
 (.s [.f 6 1,.d,.k 0] [(8,1),(7,0)] []
 (.o 2 ajd)))))
abbrev ajf:IC:=(.Z 11 12 46 6 7 [] (.m 11 13 []
 (.g [.v 10,.v 13,.v 2,.v 13,.p (.vC Ja [.B,.A]),.cz .E .D 1,.st .A .B 1] [] [13])))
abbrev ajg:IC:=(.block 5 (.s [.v 0,.p (.inv .A [(kM,kq),(jY,oO)] []),.kG .A .A [.aJ] ab,.t 0] [(10,0)] [3,4]
 (.seq (.s [.v 10,.n,.k 0] [(12,1),(11,0)] []
 (.o 6 ajf))
 (.j [.v 0,.ld (.v 6) (aa 10),.v 2,.v 10,.gm Jb [.D,.C,.B,.A],.not .A] [] [11,12] 60 0 (.m 10 14 [0,2,6,10]
 .ret)))))
abbrev Jc:Fn:={np:=2,nv:=15,res:=[(14,ab)],body:=
(.s [.p (.xB (.v 1) (aa 10)),.mv (.c (.aJ))] [(6,1)] [1,14]
 (.s [.v 0,.p (.inv .A [(kM,kq),(jY,oO)] []),.kG .A .A [.aJ] ab,.t 0] [(2,0)] []
 (.seq (.s [.v 2,.n,.k 0] [(4,1),(3,0)] []
 (.o 0 aje))
 (.o 4 ajg))))}
abbrev ajh:IC:=(.Z 7 8 39 2 3 [] (.m 7 9 []
 (.g [.v 5,.q,.h 0 11,.d,.v 6,.v 0,.v 6,.v 9,.p (.inv .C [(kM,uQ),(jY,y9)] [.B,.A]),.f 2 0,.l,.v 9,.A .B .A,.cq [.A] 1,.gm uR [(.t 10),.J,.F,.A,(.c (.aJ))]] [] [9])))
abbrev aji:IC:=(.Z 10 11 60 4 5 [] (.m 10 12 []
 (.s [.v 0,.v 6,.v 12,.p (.inv .C [(kM,uT),(jY,za)] [.B,.A]),.t 0,.e .A 0,.e .B 1,.t 1,.t 1] [(13,1),(14,0)] []
 (.g [.v 5,.q,.h 0 13,.d,.v 13,.v 5,.q,.h 0 13,.d,.v 13,.i,.d,.v 6,.v 12,.v 14,.ju [.int 0,.int 0,.int 0] [(0,1,.C),(1,1,.B),(2,1,.A)],.dV [.A] 3,.app .F .A (aa 3),.cz (.t 14) (.t 13) 1,.st .A .B 1] [] [12,13,14]))))
abbrev ajj:IC:=(.Z 3 4 27 0 1 [6,10,11] (.m 3 6 []
 (.s [.v 5,.q,.h 0 12,.d,.v 6,.v 6,.gm uR [.C,.B,.A,(.c (.aJ)),(.c (.aJ))]] [] []
 (.seq (.s [.f 2 1,.l,.k 0] [(8,1),(7,0)] []
 (.o 2 ajh))
 (.s [.f 2 0,.l,.k 0] [(11,1),(10,0)] [7,8]
 (.o 4 aji))))))
abbrev Jd:Fn:={np:=2,nv:=16,res:=[(15,ab)],body:=
(.s [.ig (.v 1),.mv (.c (.jj))] [(2,1)] [1,15]
 (.s [.v 0,.ew (.v 2) (aa 10),.v 0,.p (.inv .A [(kM,kq),(jY,oO)] []),.p (.can BC [.A]),.v 0,.p (.inv .A [(kM,kq),(jY,oO)] []),.p (.can BC [.A]),.v 0,.p (.inv .A [(kM,kq),(jY,oO)] []),.kG .A .A [.aJ] ab,.ju [.iR,.int 0,.int 0,.int 0,.int 0,.int 0,.aJ,.aJ,.aJ,.aJ,.aJ,.jj,.jj,.aJ] [(0,1,(.t 10)),(1,10,.J),(11,1,.G),(12,1,.D),(13,1,.A)],.p (.xB .A (aa 14)),.t 0] [(5,0)] []
 (.seq (.s [.v 0,.p (.inv .A [(kM,kq),(jY,oO)] []),.k 0] [(4,1),(3,0)] []
 (.o 0 ajj))
 (.m 5 15 [0,2,3,4,5]
 .ret))))}
abbrev ajk:IC:=(.Z 6 7 41 2 3 [10] (.s [.v 6,.cz (.v 8) (.v 6) 1,.d,.t 2,.t 1] [(10,1),(9,0)] []
 (.j [.v 9] [] [9] 45 0 (.g [.v 0,.q,.h 0 12,.d,.gy (.v 5) (.i 0) 2 ab,.l,.v 10,.v 0,.q,.h 0 11,.d,.q,.h 0 0,.d,.gy (.v 5) (.i 0) 2 ab,.l,.cz .C .A 1,.d,.gy (.v 5) (.i 1) 2 ab,.l,.cz .C .A 1,.d,.v 0,.q,.h 0 12,.d,.q,.h 0 0,.d,.gy (.v 5) (.i 1) 2 ab,.l,.cz .C .A 1,.d,.v 10,.i,.d,.gm uR [(.t 32),(.t 30),(.t 29),(.t 14),.A]] [] [10]))))
abbrev SK:IC:=(.Z 2 3 25 0 1 [5,6,7,8] (.s [.cz (.v 4) (.v 2) 2,.ld .A (aa 2),.p (.iA 2),.kP .A .B 2] [(5,0)] []
 (.s [.v 0,.q,.h 0 12,.d,.q,.h 0 1,.d,.gy (.v 5) (.i 1) 2 ab,.l,.cz .C .A 1,.d,.n,.k 0] [(8,2),(7,1),(6,0)] []
 (.o 2 ajk))))
abbrev ajl:IC:=(.Z 16 17 118 6 7 [18] (.m 16 18 []
 (.j [.v 0,.q,.h 0 11,.d,.q,.h 0 1,.d,.v 18,.i,.d,.gy (.v 15) (.i 0) 2 ab,.l,.cz .C .A 1,.d] [] [] 133 0 (.g [.v 0,.q,.h 0 12,.d,.v 18,.gy (.v 15) (.i 1) 2 ab,.l,.v 0,.q,.h 0 11,.d,.q,.h 0 0,.d,.v 18,.i,.d,.gy (.v 15) (.i 0) 2 ab,.l,.cz .C .A 1,.d,.v 19,.gm uR [(.t 18),(.t 17),(.t 15),.B,.A]] [] [18]))))
abbrev ajm:IC:=(.Z 23 24 177 10 11 [] (.m 23 26 []
 (.g [.v 0,.q,.h 0 11,.d,.f 25 0,.l,.v 0,.q,.h 0 0,.d,.gy (.v 15) (.i 1) 2 ab,.l,.f 25 2,.l,.v 26,.p (.inv .F [(kM,uU),(jY,zb),(Je,zd)] [.D,.B,.A]),.f 25 1,.l,.dV [.A] 1,.v 19,.app .B .A ab,.v 0,.q,.eu .A 1 (aa 10),.h 0 0,⟨.ld .A ab,ab,ad⟩,.v 0,.q,.eu .A 1 (aa 10),.h 0 1,⟨.ld .A ab,ab,ad⟩,.A .F .A,.v 26,.A .B .A,.cq [.A] 1,.gm uR [(.t 31),(.t 29),(.t 19),(.t 14),.A]] [] [26])))
abbrev ajn:IC:=(.Z 20 21 168 8 9 [23,24,25] (.s [.cz (.v 22) (.v 20) 3,.ld .A (aa 3),.p (.iA 3),.kP .A .B 3] [(25,0)] []
 (.s [.v 0,.q,.eu .A 1 (aa 10),.h 0 2,.d,.k 0] [(24,1),(23,0)] []
 (.o 10 ajm))))
abbrev SM:IC:=(.Z 12 13 94 4 5 [15,19,20,21,22] (.s [.cz (.v 14) (.v 12) 2,.ld .A (aa 2),.p (.iA 2),.kP .A .B 2] [(15,0)] []
 (.s [.v 0,.q,.h 0 12,.d,.q,.h 0 0,.d,.gy (.v 15) (.i 0) 2 ab,.l,.cz .C .A 1,.d,.gy (.v 15) (.i 1) 2 ab,.l,.cz .C .A 1,.d,.t 0] [(19,0)] []
 (.seq (.s [.v 0,.q,.h 0 0,.d,.p (.inv .A [(kM,kq),(jY,oO)] []),.k 0] [(17,1),(16,0)] []
 (.o 6 ajl))
 (.s [.v 0,.q,.h 0 13,.d,.gy (.v 15) (.i 0) 2 ab,.l,.cz .C .A 1,.d,.n,.k 0] [(22,2),(21,1),(20,0)] [16,17]
 (.o 8 ajn))))))
abbrev Jf:Fn:={np:=2,nv:=28,res:=[(27,ab)],body:=
(.s [.mv (.c (.aJ))] [] [27]
 (.seq (.s [.v 0,.q,.h 0 11,.d,.v 1,.gm BD [.B,.A],.n,.k 0] [(4,2),(3,1),(2,0)] []
 (.o 0 SK))
 (.s [.v 0,.q,.h 0 12,.d,.v 1,.gm BD [.B,.A],.t 0] [(11,0)] [1,2,3,4]
 (.seq (.s [.v 11,.n,.k 0] [(14,2),(13,1),(12,0)] []
 (.o 4 SM))
 (.m 11 27 [0,11,12,13,14]
 .ret)))))}
abbrev ajo:IC:=(.Z 2 3 9 0 1 [4] (.m 2 4 []
 (.j [.v 1,.v 0,.v 4,.i,.d,.p (.mX .E [.A])] [] [] 16 0 (.m 4 5 [0,1,2,3,4]
 .ret))))
abbrev Jg:Fn:={np:=2,nv:=6,res:=[(5,ab)],body:=
(.s [.k 0] [] [5]
 (.seq (.s [.v 0,.n,.k 0] [(3,1),(2,0)] []
 (.o 0 ajo))
 (.s [.mv (.i (-1))] [(5,0)] [0,1,2,3]
 .ret)))}
abbrev ajp:IC:=(.Z 3 4 9 0 1 [] (.z 5 3 1 6 []
 (.g [.ld (.v 1) ab,.ld (.v 2) ab,.v 6,.i,.d,.p (.DZ .A),.ld (.v 2) ab,.v 6,.i,.d,.p (.HU .A (.c (.ik 7 (8)))),.p (.DZ .A),.dV [.G,.A] 1,.app (.t 12) .A ab,.st (.v 1) .A 1] [] [6])))
abbrev Jh:Fn:={np:=3,nv:=7,res:=[],body:=
(.s [.v 0,.n,.k 0] [(5,2),(4,1),(3,0)] [0]
 (.o 0 ajp))}
abbrev ajq:IC:=(.Z 4 5 26 2 3 [] (.m 4 8 []
 (.g [.v 6,.v 0,.v 7,.v 8,.gm Eu [.C,.B,.A],.dV [.A] 1,.dH .F .A ab,.t 0] [(6,0)] [8])))
abbrev ajr:IC:=(.Z 14 15 59 8 9 [] (.m 14 18 []
 (.g [.v 6,.v 0,.v 7,.v 16,.v 17,.v 18,.gm Ev [.E,.D,.C,.B,.A],.dV [.A] 1,.dH .H .A ab,.t 0] [(6,0)] [18])))
abbrev ajs:IC:=(.Z 11 12 50 6 7 [14,15,17] (.z 13 11 1 17 []
 (.s [.v 0,.q,.eu .A 0 (aa 10),.h 0 2,.d,.k 0] [(15,1),(14,0)] []
 (.o 8 ajr))))
abbrev ajt:IC:=(.Z 9 10 42 4 5 [11,12,13,16] (.m 9 16 []
 (.s [.v 0,.q,.h 0 10,.d,.n,.k 0] [(13,2),(12,1),(11,0)] []
 (.o 6 ajs))))
abbrev aju:IC:=(.Z 1 2 17 0 1 [7,9,10] (.z 3 1 1 7 []
 (.seq (.s [.v 0,.q,.eu .A 0 (aa 10),.h 0 1,.d,.k 0] [(5,1),(4,0)] []
 (.o 2 ajq))
 (.s [.v 0,.q,.eu .A 0 (aa 10),.h 0 0,.d,.k 0] [(10,1),(9,0)] [4,5]
 (.o 4 ajt)))))
abbrev Ji:Fn:={np:=1,nv:=20,res:=[(19,ab)],body:=
(.s [.mv (.c (.aJ))] [] [19]
 (.s [.nl ab] [(6,0)] []
 (.seq (.s [.v 0,.q,.h 0 10,.d,.n,.k 0] [(3,2),(2,1),(1,0)] []
 (.seq (.o 0 aju) (.km 6)))
 (.s [.v 6,.C Et [.A],.t 0] [(19,0)] [0,1,2,3,6]
 .ret))))}
abbrev Jj:Fn:={np:=1,nv:=2,res:=[(1,ab)],body:=
(.s [.mv (.c (.aJ))] [] [1]
 (.s [.v 0,.p (.ml Jk [.A,(.c (.func oP []))]),.t 0] [(1,0)] [0]
 .ret))}
abbrev ajv:IC:=(.Z 1 2 12 0 1 [] (.z 3 1 1 5 []
 (.s [.v 4,.v 5,.n,.A .C .A,.t 0] [(4,0)] [5]
 (.j [.v 4,.L .A (.i 0)] [] [] 20 0 .bad))))
abbrev ajw:IC:=(.Z 6 7 28 2 3 [] (.z 8 6 1 10 []
 (.g [.v 9,.v 10,.dH .B .A ab,.t 0] [(9,0)] [10])))
abbrev Jl:Fn:={np:=1,nv:=12,res:=[(11,ab)],body:=
(.s [.mv (.c (.aJ))] [] [11]
 (.k 0 4 []
 (.seq (.s [.v 0,.n,.k 0] [(3,2),(2,1),(1,0)] []
 (.o 0 ajv))
 (.s [.v 4,.p (.can BE [(.c (.aJ)),.A]),.t 0] [(9,0)] [1,2,3,4]
 (.seq (.s [.v 0,.n,.k 0] [(8,2),(7,1),(6,0)] [0]
 (.o 2 ajw))
 (.m 9 11 [6,7,8,9]
 .ret))))))}
abbrev Jm:Fn:={np:=2,nv:=4,res:=[(3,ab)],body:=
(.s [.ig (.v 0),.mv (.c (.aJ))] [(2,1)] [0,3]
 (.seq (.j [.ew (.v 2) (aa 2),.ju [.str [],.str []] [],.p (.NR ae 2 .B .A)] [] [] 7 0 (.m 1 3 [1,2]
 .ret))
 (.s [.f 2 0,.l,.C Ew [.A],.v 1,.f 2 1,.l,.C Ew [.A],.cq [.E,.D,.A] 1,.C qK [.A],.t 0] [(3,0)] [1,2]
 .ret)))}
abbrev ajx:IC:=(.Z 5 6 33 2 3 [9] (.s [.v 5,.cz (.v 7) (.v 5) 1,.d,.t 2,.t 1] [(9,1),(8,0)] []
 (.j [.v 8,.t 0,.xv 0 2,.xv 1 9,.x 2 (.cz .B .A 1),.x 3 (.ld .A ab),.x 4 (.not .A),.pick .F .A (.c (.bool ae))] [] [8] 44 0 (.s [.v 2,.v 9,.i,.st .A (.c (.bool ad)) 1] [] []
 (.g [.v 4,.v 9,.dV [.A] 1,.dH .C .A ab,.t 0] [(4,0)] [9])))))
abbrev ajy:IC:=(.seq (.w [.v 3,.v 4,.n,.L .C .A] [] [] 21 0)
 (.seq (.block 1 (.s [.v 0,.v 4,.v 3,.i,.d,.cz .E .A 1,.d,.n,.k 0] [(7,2),(6,1),(5,0)] []
 (.o 2 ajx)))
 (.U 3 [5,6,7])))
abbrev Jn:Fn:={np:=2,nv:=11,res:=[(10,ab)],body:=
(.s [.mv (.c (.aJ))] [] [10]
 (.s [.v 0,.n,.kG .A .A [.bool ae] ab,.t 0] [(2,0)] []
 (.s [.v 2,.v 1,.i,.st .A (.c (.bool ad)) 1] [] []
 (.s [.v 1,.p (.oA [.A] ab),.t 0] [(4,0)] [1]
 (.seq (.k 0 3 []
 (.o 0 ajy))
 (.m 2 10 [0,2,3,4]
 .ret))))))}
abbrev ajz:IC:=(.seq (.i [.v 15,.f 6 2,.l,.L .C .A,.t 0,.xv 0 16,.pick .B .A (.c (.bool ae))] [] [] 51 0 .skip (.exit 6))
 (.seq (.block 7 (.s [.v 0,.v 17,.v 18,.v 15,.p (.inv .D [(kM,uU),(jY,zb),(Je,zd)] [.C,.B,.A]),.t 0] [(20,0)] []
 (.s [.v 19,.t 0,.yv 0 2,.yv 1 9,.y 2 (.cz .B .A 1),.y 3 (.ld .A ab),.yv 4 20,.y 5 (.cz .B .A 1),.y 6 (.ld .A ab),.y 7 (.not .A),.pick .I (.c (.bool ad)) .A,.t 0] [(19,0)] []
 (.g [.v 2,.v 9,.i,.d,.v 20,.i,.st .A (.c (.bool ad)) 1] [] [20]))))
 (.U 15 [])))
abbrev ajA:IC:=(.Z 12 13 41 4 5 [15,16,17] (.s [.v 12,.cz (.v 14) (.v 12) 1,.d,.t 2,.t 1] [(17,1),(16,0)] []
 (.k 0 15 []
 (.o 6 ajz))))
abbrev ajB:IC:=(.Z 7 8 26 2 3 [12,13,14,18] (.m 7 10 []
 (.s [.v 0,.v 9,.v 10,.p (.inv .C [(kM,uT),(jY,za)] [.B,.A]),.t 0,.e .A 0,.e .B 1,.t 1,.t 1] [(11,1),(18,0)] [10]
 (.s [.v 3,.v 11,.i,.d,.n,.k 0] [(14,2),(13,1),(12,0)] [11]
 (.o 4 ajA)))))
abbrev ajC:IC:=(.Z 4 5 21 0 1 [7,8,9] (.m 4 9 []
 (.s [.f 6 0,.l,.k 0] [(8,1),(7,0)] []
 (.o 2 ajB))))
abbrev Jo:Fn:={np:=4,nv:=22,res:=[(21,ab)],body:=
(.s [.ig (.v 1),.b] [(6,1)] [1,21]
 (.s [.b] [(19,0)] []
 (.seq (.s [.v 2,.n,.k 0] [(5,1),(4,0)] []
 (.o 0 ajC))
 (.m 19 21 [0,2,3,4,5,6,19]
 .ret))))}
abbrev ajD:IC:=(.Z 1 2 9 0 1 [] (.s [.v 3,.v 3,.q,.h 0 0,.d,.v 0,.kG .A .A [.aJ] ab,.dV [.A] 1,.app .D .A ab,.p (.p7 .I),.h 0 0,.st .A .C 1] [] []
 (.g [.v 3,.v 3,.q,.h 0 1,.d,.v 0,.kG .A .A [.bool ae] ab,.dV [.A] 1,.app .D .A ab,.p (.p7 .I),.h 0 1,.st .A .C 1] [] [])))
abbrev Jp:Fn:={np:=1,nv:=5,res:=[(4,ab)],body:=
(.s [.mv (.c (.jj))] [] [4]
 (.s [.kG (.i 1025) (.i 1025) [.aJ] ab,.ju [.aJ,.aJ,.aJ] [(2,1,.A)],.p (.xB .A (aa 3)),.t 0] [(3,0)] []
 (.seq (.s [.v 0,.k 0] [(2,1),(1,0)] []
 (.o 0 ajD))
 (.m 3 4 [0,1,2,3]
 .ret))))}
abbrev Jq:gW:=⟨[.v 3,.n,.v 4,.n,.A .C .A,.t 0],[(5,0)],[],ab⟩
abbrev SN:gW:=⟨[.v 0,.q,.h 0 0,.d,.v 1,.i,.d,.v 2,.i,.d,.t 0],[(6,0)],[],ab⟩
abbrev SO:gW:=⟨[.v 5,.G .A (.i 1024),.t 0,.yv 0 0,.y 1 (.p7 .A),.y 2 (.eu .A 1 ab),.y 3 (.ld .A ab),.yv 4 1,.y 5 (.cz .B .A 1),.y 6 (.ld .A ab),.yv 7 2,.y 8 (.cz .B .A 1),.y 9 (.ld .A ab),.pick (.t 10) (.c (.bool ad)) .A,.t 0,.yv 0 6,.y 1 (.pI ad .A),.y 2 (.mv .A),.xv 0 6,.x 1 (.len .A),.xv 2 5,.x 3 (.bin .lss .B .A),.y 7 (.pick .E .A (.c (.bool ae))),.pick .I (.c (.bool ad)) .A],[],[],aa (51,0)⟩
abbrev Jr:gW:=⟨[.v 5,.A .A (.i 1),.kG (.i 0) .A [.int 0] ab,.v 3,.dH .B .A ab,.v 4,.dH .B .A ab,.t 0],[(7,0)],[3,4],ab⟩
abbrev SP:gW:=⟨[.v 6,.p (.pI ad .A),.t 0,.xv 0 6,.xv 1 7,.x 2 (.ml oP [.B,.A]),.x 3 (.bin .leq .A (.i 0)),.pick .E .A (.c (.bool ae))],[],[],aa (66,0)⟩
abbrev SQ:gW:=⟨[.v 0,.q,.h 0 0,.d,.v 1,.i,.d,.v 2,.v 7,.cz .C .B 1,.st .A .B 1],[],[7],ab⟩
abbrev SR:gW:=⟨[.v 6,.p (.pI ae .A),.t 0,.yv 0 6,.y 1 (.len .A),.yv 2 5,.y 3 (.bin .gtr .B .A),.pick .E (.c (.bool ad)) .A],[],[6],aa (84,0)⟩
abbrev SS:gW:=⟨[.v 0,.q,.h 0 2,.d,.v 5,.v 0,.q,.h 0 2,.d,.v 5,.i,.d,.v 1,.v 2,.ju [.int 0,.int 0] [(0,1,.B),(1,1,.A)],.dV [.A] 2,.app .E .A (aa 2),.cz (.t 13) (.t 12) 1,.st .A .B 1],[],[0,1,2,5],ab⟩
abbrev BF:Fn:={np:=5,nv:=8,res:=[],body:=
(.seq (.cM Jq)
 (.seq (.cM SN)
 (.seq (.seq (.cM SO)
 (.cond 51 .ret .skip))
 (.seq (.seq (.cM Jr) (.km 7))
 (.seq (.seq (.cM SP)
 (.cond 66 .ret .skip))
 (.seq (.cM SQ)
 (.seq (.cM SR)
 (.cond 84 (.cM SS) .skip))))))))}
abbrev ajE:IC:=(.Z 2 3 17 0 1 [5] (.s [.cz (.v 4) (.v 2) 2,.ld .A (aa 2),.p (.iA 2),.kP .A .B 2] [(5,0)] []
 (.j [.v 0,.q,.h 0 1,.d,.gy (.v 5) (.i 0) 2 ab,.l,.cz .C .A 1,.d,.gy (.v 5) (.i 1) 2 ab,.l,.cz .C .A 1,.d,.not .A] [] [] 32 0 (.s [.v 0,.q,.h 0 1,.d,.gy (.v 5) (.i 0) 2 ab,.l,.cz .C .A 1,.d,.gy (.v 5) (.i 1) 2 ab,.l,.cz .C .A 1,.st .A (.c (.bool ad)) 1] [] []
 (.g [.v 6,.ew (.v 5) (aa 2),.dV [.A] 2,.dH .C .A (aa 2),.t 0] [(6,0)] [5])))))
abbrev Js:Fn:={np:=2,nv:=8,res:=[(7,ab)],body:=
(.s [.mv (.c (.aJ))] [] [7]
 (.s [.nl (aa 2)] [(6,0)] []
 (.seq (.s [.v 0,.q,.h 0 2,.d,.v 1,.i,.d,.n,.k 0] [(4,2),(3,1),(2,0)] [1]
 (.o 0 ajE))
 (.m 6 7 [0,2,3,4,6]
 .ret))))}
abbrev SU:IC:=(.Z 4 5 19 0 1 [] (.s [.v 4,.cz (.v 6) (.v 4) 1,.d,.t 2,.t 1] [(7,1),(8,0)] []
 (.g [.v 2,.v 7,.v 8,.C pL [.A],.cz .D .C 1,.st .A .B 1] [] [7,8])))
abbrev Jt:Fn:={np:=2,nv:=10,res:=[(9,ab)],body:=
(.s [.ig (.v 1),.mv (.c (.aJ))] [(3,1)] [1,9]
 (.s [.v 0,.p (.can BG [.A]),.t 0] [(2,0)] [0]
 (.s [.v 2,.ew (.v 3) ab,.gm BH [.B,.A]] [] []
 (.s [.v 2,.p (.D4 BI [(.v 3)]),.gm Ey [.B,.A],.t 0] [(2,0)] [3]
 (.seq (.s [.v 2,.n,.k 0] [(6,2),(5,1),(4,0)] []
 (.o 0 SU))
 (.m 2 9 [2,4,5,6]
 .ret))))))}
abbrev ajF:IC:=(.Z 1 2 10 0 1 [] (.z 3 1 1 5 []
 (.g [.v 4,.v 5,.p (.Gy .A),.dV [.A] 1,.dH .D .A ab,.t 0] [(4,0)] [5])))
abbrev Ju:Fn:={np:=1,nv:=7,res:=[(6,ab)],body:=
(.s [.mv (.c (.aJ))] [] [6]
 (.s [.nl ab] [(4,0)] []
 (.seq (.s [.v 0,.p (.NH .A),.n,.k 0] [(3,2),(2,1),(1,0)] [0]
 (.o 0 ajF))
 (.m 4 6 [1,2,3,4]
 .ret))))}
abbrev SV:Fn:={np:=1,nv:=2,res:=[(1,ab)],body:=
(.s [.mv (.c (.aJ))] [] [1]
 (.seq (.j [.v 0,.p (.pI ae .A)] [] [] 4 0 (.s [.mv (.c (.aJ))] [(1,0)] [0]
 .ret))
 (.s [.dV [] 1,.v 0,.dH .B .A ab,.t 0] [(1,0)] [0]
 .ret)))}
abbrev ajG:IC:=(.seq (.i [.v 3,.v 4,.n,.L .C .A] [] [] 35 0 .skip (.exit 2))
 (.seq (.block 3 (.j [.v 1,.v 4,.v 3,.i,.d,.v 4,.v 3,.S .A (.i 1),.cz .C .A 1,.d,.p (.mX .J [.F,.A]),.not .A] [] [] 49 0 (.s [.v 0,.v 2,.v 4,.v 3,.i,.d,.cz .F .E 1,.st .A .B 1] [] []
 (.U 2 []))))
 (.U 3 [])))
abbrev ajH:IC:=(.seq (.w [.v 2,.v 0,.n,.L .C .A] [] [] 15 0)
 (.seq (.block 1 (.j [.v 1,.v 0,.v 2,.i,.d,.v 0,.v 2,.S .A (.i 1),.cz .C .A 1,.d,.p (.mX .J [.F,.A])] [] [] 28 0 (.s [.v 0,.v 2,.p (.qp .B (aa .A) ab 1),.t 0] [(4,0)] []
 (.seq (.k 1 3 []
 (.o 2 ajG))
 (.s [.v 0,.v 2,.p (.qp .B (aa .A) ab 1),.p (.xF .A [.aJ] ab)] [] [1,3,4]
 (.s [.v 0,.v 2,.p (.qp .B ab (aa .A) 1),.t 0] [(5,0)] [0,2]
 .ret))))))
 (.U 2 [])))
abbrev Jv:Fn:={np:=2,nv:=6,res:=[(5,ab)],body:=
(.s [.mv (.c (.aJ))] [] [5]
 (.seq (.j [.v 0,.n,.L .A (.i 2)] [] [] 10 0 (.m 0 5 [0,1]
 .ret))
 (.seq (.k 1 2 []
 (.o 0 ajH))
 (.m 0 5 [0,1,2]
 .ret))))}
abbrev Jw:Fn:={np:=3,nv:=4,res:=[(3,ab)],body:=
(.s [.b] [] [3]
 (.s [.ld (.v 2) ab,.v 0,.v 1,.p (.mX .C [.B,.A]),.E .A (.i 0),.t 0] [(3,0)] [0,1,2]
 .ret))}
abbrev Jx:Fn:={np:=3,nv:=12,res:=[(10,ab),(11,ab)],body:=
(.s [.ig (.v 0),.k 0,.k 0] [(3,2)] [0,10,11]
 (.s [.ew (.v 3) (aa 20),.v 1,.C ze [.B,.A],.t 0,.e .A 0,.e .B 1,.t 1,.t 1] [(4,1),(5,0)] [1]
 (.s [.eu (.v 3) 0 (aa 10),.ew .A (aa 10),.v 4,.v 2,.C uT [.C,.B,.A],.t 0,.e .A 0,.e .B 1,.t 1,.t 1] [(6,1),(8,0)] [4]
 (.s [.eu (.v 3) 10 (aa 10),.ew .A (aa 10),.v 5,.v 2,.C uT [.C,.B,.A],.t 0,.e .A 0,.e .B 1,.t 1,.t 1] [(7,1),(9,0)] [2,5]
 (.s [.v 6,.eu (.v 3) 10 (aa 10),.ew .A (aa 10),.C kq [.A],.M .D .A,.v 7,.A .B .A,.v 8,.eu (.v 3) 10 (aa 10),.eu .A 0 (aa 10),.h 0 3,.l,.M .E .A,.v 9,.A .B .A,.t 8,.t 1] [(10,1),(11,0)] [3,6,7,8,9]
 .ret)))))}
abbrev Jy:Fn:={np:=3,nv:=7,res:=[(6,ab)],body:=
(.s [.ig (.v 0),.k 0] [(3,1)] [0,6]
 (.s [.ew (.v 3) (aa 20),.v 1,.C ze [.B,.A],.t 0,.e .A 0,.e .B 1,.t 1,.t 1] [(4,1),(5,0)] [1]
 (.s [.eu (.v 3) 0 (aa 10),.ew .A (aa 10),.v 4,.v 2,.C uQ [.C,.B,.A],.eu (.v 3) 10 (aa 10),.ew .A (aa 10),.C kq [.A],.M .D .A,.eu (.v 3) 10 (aa 10),.ew .A (aa 10),.v 5,.v 2,.C uQ [.C,.B,.A],.A .F .A,.t 0] [(6,0)] [2,3,4,5]
 .ret)))}
abbrev Jz:Fn:={np:=4,nv:=8,res:=[(7,ab)],body:=
(.s [.ig (.v 0),.k 0] [(4,1)] [0,7]
 (.s [.ew (.v 4) (aa 20),.v 1,.C ze [.B,.A],.t 0,.e .A 0,.e .B 1,.t 1,.t 1] [(5,1),(6,0)] [1]
 (.s [.eu (.v 4) 0 (aa 10),.ew .A (aa 10),.v 5,.v 2,.eu (.v 4) 10 (aa 10),.eu .A 0 (aa 10),.h 0 3,.l,.bin .quo .E .A,.v 3,.C uU [.I,.H,.B,.A],.eu (.v 4) 10 (aa 10),.ew .A (aa 10),.C kq [.A],.M .D .A,.eu (.v 4) 10 (aa 10),.ew .A (aa 10),.v 6,.v 2,.eu (.v 4) 10 (aa 10),.eu .A 0 (aa 10),.h 0 3,.l,.bin .rem .E .A,.v 3,.C uU [.I,.H,.B,.A],.A (.t 11) .A,.t 0] [(7,0)] [2,3,4,5,6]
 .ret)))}
end Ab
