/- Each small text is the program's function. Condition: none. -/
import Derived.Test.YtcdccenbhiddcaaGreatSuiOk
import Derived.Test.YtcdccenbhiddcaaGreatAbSort
import Derived.Test.YtcdccenbhiddcaaGreatAbSortI
import Derived.Test.YtcdccenbhiddcaaGreatAbGrow
import Derived.Test.YtcdccenbhiddcaaGreatProg
import Derived.KernelRfl
import Derived.Test.YtcdccenbhiddcaaGreatAbCloneS
import Derived.Test.YtcdccenbhiddcaaGreatIr
set_option linter.all false
namespace Go.Proofs.Tryz
open Go.Shelf Go.Proofs
def lK:Ren:=⟨fun|4=>94|n=>n,fun|22=>34|25=>3|3=>3|4=>4|9=>9|20=>20|0=>0|n=>n,fun|n=>n⟩
def G5:Lays8.n4 prog lK:={
 mixed:=by kernel_rfl
 f4:=⟨f94.name,by decide,func94.trans (congrArg some (by kernel_rfl))⟩
 t0:=underlying0
 a0:=isAgg0
 z0:=sizeOf0
 v0:=zeroValue0
 t3:=underlying3
 a3:=isAgg3
 z3:=sizeOf3
 v3:=zeroValue3
 t4:=underlying4
 a4:=isAgg4
 z4:=sizeOf4
 v4:=zeroValue4
 t9:=underlying9
 a9:=isAgg9
 z9:=sizeOf9
 v9:=zeroValue9
 t20:=underlying20
 a20:=isAgg20
 z20:=sizeOf20
 v20:=zeroValue20
 t22:=underlying34
 a22:=isAgg34
 z22:=sizeOf34
 v22:=zeroValue34}
def lL:Ren:=⟨fun|6=>71|15=>58|14=>95|28=>89|29=>90|20=>106|21=>107|22=>108|23=>109|24=>110|25=>111|26=>112|27=>113|46=>116|47=>100|48=>101|49=>117|50=>118|57=>119|n=>n,fun|22=>22|24=>34|25=>75|3=>3|39=>88|0=>0|53=>116|55=>118|4=>4|46=>108|45=>107|50=>113|5=>5|9=>9|66=>135|70=>139|76=>149|77=>147|n=>n,fun|n=>n⟩
def G6:SlLaysF.n6 prog lL:={
 mixed:=by kernel_rfl
 f6:=⟨f71.name,by decide,func71.trans (congrArg some (by kernel_rfl))⟩
 f14:=⟨f95.name,by decide,func95.trans (congrArg some (by kernel_rfl))⟩
 f15:=func58.trans (congrArg some (by kernel_rfl))
 f20:=⟨f106.name,by decide,func106.trans (congrArg some (by kernel_rfl))⟩
 f21:=⟨f107.name,by decide,func107.trans (congrArg some (by kernel_rfl))⟩
 f22:=⟨f108.name,by decide,func108.trans (congrArg some (by kernel_rfl))⟩
 f23:=⟨f109.name,by decide,func109.trans (congrArg some (by kernel_rfl))⟩
 f24:=⟨f110.name,by decide,func110.trans (congrArg some (by kernel_rfl))⟩
 f25:=⟨f111.name,by decide,func111.trans (congrArg some (by kernel_rfl))⟩
 f26:=⟨f112.name,by decide,func112.trans (congrArg some (by kernel_rfl))⟩
 f27:=⟨f113.name,by decide,func113.trans (congrArg some (by kernel_rfl))⟩
 f28:=func89.trans (congrArg some (by kernel_rfl))
 f29:=func90.trans (congrArg some (by kernel_rfl))
 f46:=⟨f116.name,by decide,func116.trans (congrArg some (by kernel_rfl))⟩
 f47:=func100.trans (congrArg some (by kernel_rfl))
 f48:=func101.trans (congrArg some (by kernel_rfl))
 f49:=⟨f117.name,by decide,func117.trans (congrArg some (by kernel_rfl))⟩
 f50:=⟨f118.name,by decide,func118.trans (congrArg some (by kernel_rfl))⟩
 f57:=⟨f119.name,by decide,func119.trans (congrArg some (by kernel_rfl))⟩
 t0:=underlying0
 a0:=isAgg0
 z0:=sizeOf0
 v0:=zeroValue0
 t3:=underlying3
 a3:=isAgg3
 z3:=sizeOf3
 v3:=zeroValue3
 t4:=underlying4
 a4:=isAgg4
 z4:=sizeOf4
 v4:=zeroValue4
 t5:=underlying5
 a5:=isAgg5
 z5:=sizeOf5
 v5:=zeroValue5
 t9:=underlying9
 a9:=isAgg9
 z9:=sizeOf9
 v9:=zeroValue9
 t22:=underlying22
 a22:=isAgg22
 z22:=sizeOf22
 v22:=zeroValue22
 a24:=isAgg34
 z24:=sizeOf34
 t25:=underlying75
 a25:=isAgg75
 z25:=sizeOf75
 v25:=zeroValue75
 t39:=underlying88
 a39:=isAgg88
 z39:=sizeOf88
 v39:=zeroValue88
 t45:=underlying107
 a45:=isAgg107
 z45:=sizeOf107
 v45:=zeroValue107
 t46:=underlying108
 a46:=isAgg108
 z46:=sizeOf108
 v46:=zeroValue108
 t50:=underlying113
 a50:=isAgg113
 z50:=sizeOf113
 v50:=zeroValue113
 t53:=underlying116
 a53:=isAgg116
 z53:=sizeOf116
 v53:=zeroValue116
 t55:=underlying118
 a55:=isAgg118
 z55:=sizeOf118
 v55:=zeroValue118
 t66:=underlying135
 a66:=isAgg135
 z66:=sizeOf135
 v66:=zeroValue135
 t70:=underlying139
 a70:=isAgg139
 z70:=sizeOf139
 v70:=zeroValue139
 t76:=underlying149
 a76:=isAgg149
 z76:=sizeOf149
 v76:=zeroValue149
 t77:=underlying147
 a77:=isAgg147
 z77:=sizeOf147
 v77:=zeroValue147}
def kA:Ren:=⟨fun|189=>30|125=>58|257=>57|128=>89|129=>90|294=>80|295=>81|296=>82|297=>83|298=>84|299=>85|216=>86|300=>87|301=>88|328=>99|329=>100|330=>101|331=>102|332=>103|215=>104|343=>115|n=>n,fun|28=>34|3=>3|46=>88|0=>0|51=>116|53=>118|4=>4|183=>108|182=>107|131=>113|5=>5|9=>9|218=>135|222=>139|228=>149|229=>147|n=>n,fun|n=>n⟩
def Ap:Lays.n189 prog kA:={
 mixed:=by kernel_rfl
 f125:=func58.trans (congrArg some (by kernel_rfl))
 f128:=func89.trans (congrArg some (by kernel_rfl))
 f129:=func90.trans (congrArg some (by kernel_rfl))
 f189:=func30.trans (congrArg some (by kernel_rfl))
 f215:=func104.trans (congrArg some (by kernel_rfl))
 f216:=func86.trans (congrArg some (by kernel_rfl))
 f257:=func57.trans (congrArg some (by kernel_rfl))
 f294:=func80.trans (congrArg some (by kernel_rfl))
 f295:=func81.trans (congrArg some (by kernel_rfl))
 f296:=func82.trans (congrArg some (by kernel_rfl))
 f297:=func83.trans (congrArg some (by kernel_rfl))
 f298:=func84.trans (congrArg some (by kernel_rfl))
 f299:=func85.trans (congrArg some (by kernel_rfl))
 f300:=func87.trans (congrArg some (by kernel_rfl))
 f301:=func88.trans (congrArg some (by kernel_rfl))
 f328:=func99.trans (congrArg some (by kernel_rfl))
 f329:=func100.trans (congrArg some (by kernel_rfl))
 f330:=func101.trans (congrArg some (by kernel_rfl))
 f331:=func102.trans (congrArg some (by kernel_rfl))
 f332:=func103.trans (congrArg some (by kernel_rfl))
 f343:=func115.trans (congrArg some (by kernel_rfl))
 t0:=underlying0
 a0:=isAgg0
 z0:=sizeOf0
 v0:=zeroValue0
 t3:=underlying3
 a3:=isAgg3
 z3:=sizeOf3
 v3:=zeroValue3
 t4:=underlying4
 a4:=isAgg4
 z4:=sizeOf4
 v4:=zeroValue4
 t5:=underlying5
 a5:=isAgg5
 z5:=sizeOf5
 v5:=zeroValue5
 t9:=underlying9
 a9:=isAgg9
 z9:=sizeOf9
 v9:=zeroValue9
 t28:=underlying34
 a28:=isAgg34
 z28:=sizeOf34
 v28:=zeroValue34
 t46:=underlying88
 a46:=isAgg88
 z46:=sizeOf88
 v46:=zeroValue88
 t51:=underlying116
 a51:=isAgg116
 z51:=sizeOf116
 v51:=zeroValue116
 t53:=underlying118
 a53:=isAgg118
 z53:=sizeOf118
 v53:=zeroValue118
 t131:=underlying113
 a131:=isAgg113
 z131:=sizeOf113
 v131:=zeroValue113
 t182:=underlying107
 a182:=isAgg107
 z182:=sizeOf107
 v182:=zeroValue107
 t183:=underlying108
 a183:=isAgg108
 z183:=sizeOf108
 v183:=zeroValue108
 t218:=underlying135
 a218:=isAgg135
 z218:=sizeOf135
 v218:=zeroValue135
 t222:=underlying139
 a222:=isAgg139
 z222:=sizeOf139
 v222:=zeroValue139
 t228:=underlying149
 a228:=isAgg149
 z228:=sizeOf149
 v228:=zeroValue149
 t229:=underlying147
 a229:=isAgg147
 z229:=sizeOf147
 v229:=zeroValue147}
end Go.Proofs.Tryz
namespace Ab
open Go Go.Proofs
def VE:kY Tryz.prog 52 G3 (G7 52)=true:=by kernel_rfl
def VF:kY Tryz.prog 70 G4 (G7 70)=true:=by kernel_rfl
def okG:∀f fn,G f=some fn->∃sl,kY Tryz.prog f fn sl=true:=by
 intro f fn h;refine⟨G7 f,?_⟩;unfold G at h;split at h
 all_goals first
  |(cases h;kernel_rfl)
  |cases h
def mixed:Tryz.prog.follows .mixedOrders=true:=by kernel_rfl
def G8:dc Tryz.prog 7 de:=VG mixed
def Aq:dc Tryz.prog 30 gd:=Nn (ρ:=Tryz.kA) Tryz.Ap rfl (by kernel_rfl)
def Ar:dc Tryz.prog 52 db:=Uh (t:=4) (sl:=G7 52) mixed VE
def As:dc Tryz.prog 70 dP:=Uf (t:=4) (sl:=G7 70) mixed VF
def Au:dc Tryz.prog 71 iB:=Up (ρ:=Tryz.lL) Tryz.G6 rfl (by kernel_rfl)
def Av:dc Tryz.prog 94 jK:=MD (ρ:=Tryz.lK) Tryz.G5 rfl (by kernel_rfl) (by kernel_rfl)
def okQ:∀f p,Q f=some p->dc Tryz.prog f p:=by
 intro f p h;unfold Q at h;split at h
 .cases h;exact G8
 .cases h;exact Aq
 .cases h;exact Ar
 .cases h;exact As
 .cases h;exact Au
 .cases h;exact Av
 .cases h
def VH:bn Tryz.prog L:=by
 intro f args σ r σ' h;obtain⟨N,hN⟩:=nh h;exact(ua mixed okG okQ N).1 f args σ r σ' hN
end Ab
