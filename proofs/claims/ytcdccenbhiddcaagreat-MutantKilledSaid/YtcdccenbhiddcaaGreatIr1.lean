/- The functions of the program as small texts, printed by a tool of mine. Condition: none. -/
import Derived.Test.YtcdccenbhiddcaaGreatIr0
set_option linter.all false
namespace Ab
abbrev WV:IC:=(.lex (.Z 5 6 25 2 3 [] (.m 5 7 []
 (.s [.v 7,.f 4 3,.l,.v 8,.i,.l,.v 7,.i,.l,.ko (.v 9) .I 128 none,.st .A .B 1] [] []
 (.g [.v 7,.A (.i 64) .A,.v 1,.f 4 2,.l,.v 8,.i,.l,.v 7,.i,.l,.bW .I .A 1,.d,.ko (.v 9) (.t 11) 128 none,.st .A .B 1] [] [7])))))
abbrev WW:IC:=(.lex (.Z 2 3 20 0 1 [] (.m 2 8 []
 (.s [.j8 [.int 0,.int 0,.int 0,.int 0,.int 0,.int 0,.int 0,.int 0,.int 0,.int 0,.int 0,.int 0,.int 0,.int 0,.int 0,.int 0,.int 0,.int 0,.int 0,.int 0,.int 0,.int 0,.int 0,.int 0,.int 0,.int 0,.int 0,.int 0,.int 0,.int 0,.int 0,.int 0,.int 0,.int 0,.int 0,.int 0,.int 0,.int 0,.int 0,.int 0,.int 0,.int 0,.int 0,.int 0,.int 0,.int 0,.int 0,.int 0,.int 0,.int 0,.int 0,.int 0,.int 0,.int 0,.int 0,.int 0,.int 0,.int 0,.int 0,.int 0,.int 0,.int 0,.int 0,.int 0,.int 0,.int 0,.int 0,.int 0,.int 0,.int 0,.int 0,.int 0,.int 0,.int 0,.int 0,.int 0,.int 0,.int 0,.int 0,.int 0,.int 0,.int 0,.int 0,.int 0,.int 0,.int 0,.int 0,.int 0,.int 0,.int 0,.int 0,.int 0,.int 0,.int 0,.int 0,.int 0,.int 0,.int 0,.int 0,.int 0,.int 0,.int 0,.int 0,.int 0,.int 0,.int 0,.int 0,.int 0,.int 0,.int 0,.int 0,.int 0,.int 0,.int 0,.int 0,.int 0,.int 0,.int 0,.int 0,.int 0,.int 0,.int 0,.int 0,.int 0,.int 0,.int 0,.int 0,.int 0] (some 128)] [(9,0)] []
 (.seq (.s [.f 4 0,.l,.k 0] [(6,1),(5,0)] []
 (.o 2 WV))
 (.s [.v 10,.ld (.v 9) (some 128),.p (.tO .B 130 .A (.int 0) true),.t 0,.e .A 0,.e .B 1,.t 1,.t 1] [(12,1),(11,0)] [5,6]
 (.seq (.j [.v 11,.not .A] [] [11] 59 0 (.s [.v 10,.p (.tk .A),.t 0] [(12,0)] []
 (.g [.v 10,.ld (.v 9) (some 128),.v 12,.p (.qH .C 130 .B .A)] [] [9])))
 (.g [.v 13,.v 8,.v 12,.bW .C .B 1,.st .A .B 1] [] [8,9,12]))))))))
abbrev z193:Fn:={np:=2,nv:=16,res:=[(14,none),(15,none)],body:=
(.s [.cz (.v 0),.mv (.c (.ag)),.k 0] [(4,2)] [0,14,15]
 (.s [.p (.vG),.t 0] [(10,0)] []
 (.s [.v 1,.n,.kf .A .A [.int 0] none,.t 0] [(13,0)] []
 (.seq (.s [.v 1,.n,.k 0] [(3,1),(2,0)] []
 (.o 0 WW))
 (.s [.v 13,.v 10,.p (.tk .A),.t 2,.t 1] [(14,1),(15,0)] [1,2,3,4,10,13]
 .ret)))))}
abbrev Aw:Fn:={np:=3,nv:=6,res:=[(4,none),(5,none)],body:=
(.s [.cz (.v 0),.k 0,.k 0] [(3,2)] [0,4,5]
 (.s [.nV (.v 3) 0 (some 4),.h 0 2,.l,.v 1,.i,.l,.v 2,.i,.l,.nV (.v 3) 0 (some 4),.h 0 3,.l,.v 1,.i,.l,.v 2,.i,.l,.t 9,.t 1] [(4,1),(5,0)] [1,2,3]
 .ret))}
end Ab
