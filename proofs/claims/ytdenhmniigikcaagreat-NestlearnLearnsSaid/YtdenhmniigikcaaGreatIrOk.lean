/- Each small text is the program's function. Condition: none. -/
import Derived.Test.YtdenhmniigikcaaGreatAbSort
import Derived.Test.YtdenhmniigikcaaGreatAbSortS
import Derived.Test.YtdenhmniigikcaaGreatAbSortP
import Derived.Test.YtdenhmniigikcaaGreatAbSortI
import Derived.Test.YtdenhmniigikcaaGreatAbGrow
import Derived.Test.YtdenhmniigikcaaGreatAbGrowS
import Derived.Test.YtdenhmniigikcaaGreatProg
import Derived.KernelRfl
import Derived.Test.YtdenhmniigikcaaGreatAbCloneS
import Derived.Test.YtdenhmniigikcaaGreatIr
set_option linter.all false
namespace Go.Proofs.Tryz
open Go.Shelf Go.Proofs
def su:Ren:=⟨fun|4=>156|n=>n,fun|22=>39|25=>3|3=>3|4=>4|9=>9|20=>20|0=>0|n=>n,fun|n=>n⟩
def Tc:Lays8.n4 prog su:={
 mixed:=by kernel_rfl
 f4:=⟨f156.name,by decide,func156.trans (congrArg some (by kernel_rfl))⟩
 t0:=underlying0
 a0:=isAgg0
 z0:=sizeOf0
 v0:=zeroValue0
 t3:=underlying3
 a3:=isAgg3
 z3:=sizeOf3
 v3:=zeroValue3
 t4:=underlying4
 a4:=isAgg4
 z4:=sizeOf4
 v4:=zeroValue4
 t9:=underlying9
 a9:=isAgg9
 z9:=sizeOf9
 v9:=zeroValue9
 t20:=underlying20
 a20:=isAgg20
 z20:=sizeOf20
 v20:=zeroValue20
 t22:=underlying39
 a22:=isAgg39
 z22:=sizeOf39
 v22:=zeroValue39}
def qL:Ren:=⟨fun|4=>183|n=>n,fun|22=>23|25=>39|3=>3|4=>4|9=>9|20=>20|0=>0|n=>n,fun|n=>n⟩
def Ld:Lays8.n4 prog qL:={
 mixed:=by kernel_rfl
 f4:=⟨f183.name,by decide,func183.trans (congrArg some (by kernel_rfl))⟩
 t0:=underlying0
 a0:=isAgg0
 z0:=sizeOf0
 v0:=zeroValue0
 t3:=underlying3
 a3:=isAgg3
 z3:=sizeOf3
 v3:=zeroValue3
 t4:=underlying4
 a4:=isAgg4
 z4:=sizeOf4
 v4:=zeroValue4
 t9:=underlying9
 a9:=isAgg9
 z9:=sizeOf9
 v9:=zeroValue9
 t20:=underlying20
 a20:=isAgg20
 z20:=sizeOf20
 v20:=zeroValue20
 t22:=underlying23
 a22:=isAgg23
 z22:=sizeOf23
 v22:=zeroValue23}
def sv:Ren:=⟨fun|6=>190|15=>82|14=>194|28=>136|29=>137|20=>195|21=>196|22=>197|23=>198|24=>199|25=>200|26=>201|27=>202|46=>203|47=>158|48=>159|49=>204|50=>205|57=>206|n=>n,fun|22=>23|24=>39|25=>60|3=>3|39=>138|0=>0|53=>191|55=>193|4=>4|46=>185|45=>184|50=>105|5=>5|9=>9|66=>223|70=>227|76=>244|77=>111|n=>n,fun|n=>n⟩
def Td:SlLaysF.n6 prog sv:={
 mixed:=by kernel_rfl
 f6:=⟨f190.name,by decide,func190.trans (congrArg some (by kernel_rfl))⟩
 f14:=⟨f194.name,by decide,func194.trans (congrArg some (by kernel_rfl))⟩
 f15:=func82.trans (congrArg some (by kernel_rfl))
 f20:=⟨f195.name,by decide,func195.trans (congrArg some (by kernel_rfl))⟩
 f21:=⟨f196.name,by decide,func196.trans (congrArg some (by kernel_rfl))⟩
 f22:=⟨f197.name,by decide,func197.trans (congrArg some (by kernel_rfl))⟩
 f23:=⟨f198.name,by decide,func198.trans (congrArg some (by kernel_rfl))⟩
 f24:=⟨f199.name,by decide,func199.trans (congrArg some (by kernel_rfl))⟩
 f25:=⟨f200.name,by decide,func200.trans (congrArg some (by kernel_rfl))⟩
 f26:=⟨f201.name,by decide,func201.trans (congrArg some (by kernel_rfl))⟩
 f27:=⟨f202.name,by decide,func202.trans (congrArg some (by kernel_rfl))⟩
 f28:=func136.trans (congrArg some (by kernel_rfl))
 f29:=func137.trans (congrArg some (by kernel_rfl))
 f46:=⟨f203.name,by decide,func203.trans (congrArg some (by kernel_rfl))⟩
 f47:=func158.trans (congrArg some (by kernel_rfl))
 f48:=func159.trans (congrArg some (by kernel_rfl))
 f49:=⟨f204.name,by decide,func204.trans (congrArg some (by kernel_rfl))⟩
 f50:=⟨f205.name,by decide,func205.trans (congrArg some (by kernel_rfl))⟩
 f57:=⟨f206.name,by decide,func206.trans (congrArg some (by kernel_rfl))⟩
 t0:=underlying0
 a0:=isAgg0
 z0:=sizeOf0
 v0:=zeroValue0
 t3:=underlying3
 a3:=isAgg3
 z3:=sizeOf3
 v3:=zeroValue3
 t4:=underlying4
 a4:=isAgg4
 z4:=sizeOf4
 v4:=zeroValue4
 t5:=underlying5
 a5:=isAgg5
 z5:=sizeOf5
 v5:=zeroValue5
 t9:=underlying9
 a9:=isAgg9
 z9:=sizeOf9
 v9:=zeroValue9
 t22:=underlying23
 a22:=isAgg23
 z22:=sizeOf23
 v22:=zeroValue23
 a24:=isAgg39
 z24:=sizeOf39
 t25:=underlying60
 a25:=isAgg60
 z25:=sizeOf60
 v25:=zeroValue60
 t39:=underlying138
 a39:=isAgg138
 z39:=sizeOf138
 v39:=zeroValue138
 t45:=underlying184
 a45:=isAgg184
 z45:=sizeOf184
 v45:=zeroValue184
 t46:=underlying185
 a46:=isAgg185
 z46:=sizeOf185
 v46:=zeroValue185
 t50:=underlying105
 a50:=isAgg105
 z50:=sizeOf105
 v50:=zeroValue105
 t53:=underlying191
 a53:=isAgg191
 z53:=sizeOf191
 v53:=zeroValue191
 t55:=underlying193
 a55:=isAgg193
 z55:=sizeOf193
 v55:=zeroValue193
 t66:=underlying223
 a66:=isAgg223
 z66:=sizeOf223
 v66:=zeroValue223
 t70:=underlying227
 a70:=isAgg227
 z70:=sizeOf227
 v70:=zeroValue227
 t76:=underlying244
 a76:=isAgg244
 z76:=sizeOf244
 v76:=zeroValue244
 t77:=underlying111
 a77:=isAgg111
 z77:=sizeOf111
 v77:=zeroValue111}
def qM:Ren:=⟨fun|189=>121|125=>82|257=>154|128=>136|129=>137|294=>172|295=>173|296=>174|297=>175|298=>176|299=>177|216=>178|300=>179|301=>180|328=>186|329=>158|330=>159|331=>187|332=>188|215=>127|343=>193|n=>n,fun|28=>39|3=>3|46=>138|0=>0|51=>191|53=>193|4=>4|183=>185|182=>184|131=>105|5=>5|9=>9|218=>223|222=>227|228=>244|229=>111|n=>n,fun|n=>n⟩
def Le:Lays.n189 prog qM:={
 mixed:=by kernel_rfl
 f125:=func82.trans (congrArg some (by kernel_rfl))
 f128:=func136.trans (congrArg some (by kernel_rfl))
 f129:=func137.trans (congrArg some (by kernel_rfl))
 f189:=func121.trans (congrArg some (by kernel_rfl))
 f215:=func127.trans (congrArg some (by kernel_rfl))
 f216:=func178.trans (congrArg some (by kernel_rfl))
 f257:=func154.trans (congrArg some (by kernel_rfl))
 f294:=func172.trans (congrArg some (by kernel_rfl))
 f295:=func173.trans (congrArg some (by kernel_rfl))
 f296:=func174.trans (congrArg some (by kernel_rfl))
 f297:=func175.trans (congrArg some (by kernel_rfl))
 f298:=func176.trans (congrArg some (by kernel_rfl))
 f299:=func177.trans (congrArg some (by kernel_rfl))
 f300:=func179.trans (congrArg some (by kernel_rfl))
 f301:=func180.trans (congrArg some (by kernel_rfl))
 f328:=func186.trans (congrArg some (by kernel_rfl))
 f329:=func158.trans (congrArg some (by kernel_rfl))
 f330:=func159.trans (congrArg some (by kernel_rfl))
 f331:=func187.trans (congrArg some (by kernel_rfl))
 f332:=func188.trans (congrArg some (by kernel_rfl))
 f343:=func193.trans (congrArg some (by kernel_rfl))
 t0:=underlying0
 a0:=isAgg0
 z0:=sizeOf0
 v0:=zeroValue0
 t3:=underlying3
 a3:=isAgg3
 z3:=sizeOf3
 v3:=zeroValue3
 t4:=underlying4
 a4:=isAgg4
 z4:=sizeOf4
 v4:=zeroValue4
 t5:=underlying5
 a5:=isAgg5
 z5:=sizeOf5
 v5:=zeroValue5
 t9:=underlying9
 a9:=isAgg9
 z9:=sizeOf9
 v9:=zeroValue9
 t28:=underlying39
 a28:=isAgg39
 z28:=sizeOf39
 v28:=zeroValue39
 t46:=underlying138
 a46:=isAgg138
 z46:=sizeOf138
 v46:=zeroValue138
 t51:=underlying191
 a51:=isAgg191
 z51:=sizeOf191
 v51:=zeroValue191
 t53:=underlying193
 a53:=isAgg193
 z53:=sizeOf193
 v53:=zeroValue193
 t131:=underlying105
 a131:=isAgg105
 z131:=sizeOf105
 v131:=zeroValue105
 t182:=underlying184
 a182:=isAgg184
 z182:=sizeOf184
 v182:=zeroValue184
 t183:=underlying185
 a183:=isAgg185
 z183:=sizeOf185
 v183:=zeroValue185
 t218:=underlying223
 a218:=isAgg223
 z218:=sizeOf223
 v218:=zeroValue223
 t222:=underlying227
 a222:=isAgg227
 z222:=sizeOf227
 v222:=zeroValue227
 t228:=underlying244
 a228:=isAgg244
 z228:=sizeOf244
 v228:=zeroValue244
 t229:=underlying111
 a229:=isAgg111
 z229:=sizeOf111
 v229:=zeroValue111}
def nQ:Ren:=⟨fun|6=>32|15=>82|14=>81|28=>136|29=>137|20=>128|21=>129|22=>130|23=>131|24=>132|25=>133|26=>134|27=>135|46=>157|47=>158|48=>159|49=>160|50=>161|57=>181|n=>n,fun|22=>56|24=>58|25=>64|3=>3|39=>138|0=>0|53=>191|55=>193|4=>4|46=>185|45=>184|50=>105|5=>5|9=>9|66=>223|70=>227|76=>244|77=>111|n=>n,fun|n=>n⟩
def BT:SlLaysF0.n6 prog nQ:={
 mixed:=by kernel_rfl
 f6:=⟨f32.name,by decide,func32.trans (congrArg some (by kernel_rfl))⟩
 f14:=⟨f81.name,by decide,func81.trans (congrArg some (by kernel_rfl))⟩
 f15:=func82.trans (congrArg some (by kernel_rfl))
 f20:=⟨f128.name,by decide,func128.trans (congrArg some (by kernel_rfl))⟩
 f21:=⟨f129.name,by decide,func129.trans (congrArg some (by kernel_rfl))⟩
 f22:=⟨f130.name,by decide,func130.trans (congrArg some (by kernel_rfl))⟩
 f23:=⟨f131.name,by decide,func131.trans (congrArg some (by kernel_rfl))⟩
 f24:=⟨f132.name,by decide,func132.trans (congrArg some (by kernel_rfl))⟩
 f25:=⟨f133.name,by decide,func133.trans (congrArg some (by kernel_rfl))⟩
 f26:=⟨f134.name,by decide,func134.trans (congrArg some (by kernel_rfl))⟩
 f27:=⟨f135.name,by decide,func135.trans (congrArg some (by kernel_rfl))⟩
 f28:=func136.trans (congrArg some (by kernel_rfl))
 f29:=func137.trans (congrArg some (by kernel_rfl))
 f46:=⟨f157.name,by decide,func157.trans (congrArg some (by kernel_rfl))⟩
 f47:=func158.trans (congrArg some (by kernel_rfl))
 f48:=func159.trans (congrArg some (by kernel_rfl))
 f49:=⟨f160.name,by decide,func160.trans (congrArg some (by kernel_rfl))⟩
 f50:=⟨f161.name,by decide,func161.trans (congrArg some (by kernel_rfl))⟩
 f57:=⟨f181.name,by decide,func181.trans (congrArg some (by kernel_rfl))⟩
 t0:=underlying0
 a0:=isAgg0
 z0:=sizeOf0
 v0:=zeroValue0
 t3:=underlying3
 a3:=isAgg3
 z3:=sizeOf3
 v3:=zeroValue3
 t4:=underlying4
 a4:=isAgg4
 z4:=sizeOf4
 v4:=zeroValue4
 t5:=underlying5
 a5:=isAgg5
 z5:=sizeOf5
 v5:=zeroValue5
 t9:=underlying9
 a9:=isAgg9
 z9:=sizeOf9
 v9:=zeroValue9
 t22:=underlying56
 a22:=isAgg56
 z22:=sizeOf56
 v22:=zeroValue56
 t25:=underlying64
 a25:=isAgg64
 z25:=sizeOf64
 v25:=zeroValue64
 t39:=underlying138
 a39:=isAgg138
 z39:=sizeOf138
 v39:=zeroValue138
 t45:=underlying184
 a45:=isAgg184
 z45:=sizeOf184
 v45:=zeroValue184
 t46:=underlying185
 a46:=isAgg185
 z46:=sizeOf185
 v46:=zeroValue185
 t50:=underlying105
 a50:=isAgg105
 z50:=sizeOf105
 v50:=zeroValue105
 t53:=underlying191
 a53:=isAgg191
 z53:=sizeOf191
 v53:=zeroValue191
 t55:=underlying193
 a55:=isAgg193
 z55:=sizeOf193
 v55:=zeroValue193
 t66:=underlying223
 a66:=isAgg223
 z66:=sizeOf223
 v66:=zeroValue223
 t70:=underlying227
 a70:=isAgg227
 z70:=sizeOf227
 v70:=zeroValue227
 t76:=underlying244
 a76:=isAgg244
 z76:=sizeOf244
 v76:=zeroValue244
 t77:=underlying111
 a77:=isAgg111
 z77:=sizeOf111
 v77:=zeroValue111}
end Go.Proofs.Tryz
namespace Ab
open Go Go.Proofs
def alg:rK Tryz.prog 70 SX (SY 70)=true:=by kernel_rfl
def Te:rK Tryz.prog 189 SV (SY 189)=true:=by kernel_rfl
def okG:∀f fn,G f=some fn->∃sl,rK Tryz.prog f fn sl=true:=by
 intro f fn h;refine⟨SY f,?_⟩;unfold G at h;split at h
 all_goals first
  |(cases h;kernel_rfl)
  |cases h
def mixed:Tryz.prog.follows .mixedOrders=true:=by kernel_rfl
def Lf:fH Tryz.prog 32 (ki 3):=ai1 (ρ:=Tryz.nQ) Tryz.BT rfl (by kernel_rfl) (by kernel_rfl)
def Lh:fH Tryz.prog 70 gw:=aiK (t:=4) (sl:=SY 70) mixed alg
def EW:fH Tryz.prog 121 lu:=acm (ρ:=Tryz.qM) Tryz.Le rfl (by kernel_rfl)
def EX:fH Tryz.prog 156 o9:=abH (ρ:=Tryz.su) Tryz.Tc rfl (by kernel_rfl) (by kernel_rfl)
def EY:fH Tryz.prog 183 ll:=abI (ρ:=Tryz.qL) Tryz.Ld rfl (by kernel_rfl) (by kernel_rfl)
def EZ:fH Tryz.prog 189 iI:=aiI (t:=4) (sl:=SY 189) mixed Te
def E0:fH Tryz.prog 190 nq:=aiQ (ρ:=Tryz.sv) Tryz.Td rfl (by kernel_rfl)
def okQ:∀f p,Q f=some p->fH Tryz.prog f p:=by
 intro f p h;unfold Q at h;split at h
 .cases h;exact Lf
 .cases h;exact Lh
 .cases h;exact EW
 .cases h;exact EX
 .cases h;exact EY
 .cases h;exact EZ
 .cases h;exact E0
 .cases h
def alh:cR Tryz.prog L:=by
 intro f args σ r dC h;obtain⟨N,hN⟩:=wF h;exact(Eb mixed okG okQ N).1 f args σ r dC hN
end Ab
