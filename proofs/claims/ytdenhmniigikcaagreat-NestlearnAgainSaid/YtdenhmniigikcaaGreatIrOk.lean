/- Each small text is the program's function. Condition: none. -/
import Derived.Test.YtdenhmniigikcaaGreatAbSort
import Derived.Test.YtdenhmniigikcaaGreatAbSortS
import Derived.Test.YtdenhmniigikcaaGreatAbSortP
import Derived.Test.YtdenhmniigikcaaGreatAbSortI
import Derived.Test.YtdenhmniigikcaaGreatAbGrow
import Derived.Test.YtdenhmniigikcaaGreatAbGrowS
import Derived.Test.YtdenhmniigikcaaGreatProg
import Derived.KernelRfl
import Derived.Test.YtdenhmniigikcaaGreatAbCloneS
import Derived.Test.YtdenhmniigikcaaGreatIr
set_option linter.all false
namespace Go.Proofs
open Go.Shelf
def Tryz.qI:Go.Shelf.Ren:=⟨fun|4=>156|n=>n,fun|22=>39|25=>3|3=>3|4=>4|9=>9|20=>20|0=>0|n=>n,fun|n=>n⟩
theorem Tryz.Qp:Go.Proofs.Lays8.n4 Tryz.prog Tryz.qI:={
 mixed:=by kernel_rfl
 f4:=⟨Tryz.f156.name,by decide,Tryz.func156.trans (congrArg some (by kernel_rfl))⟩
 t0:=Tryz.underlying0
 a0:=Tryz.isAgg0
 z0:=Tryz.sizeOf0
 v0:=Tryz.zeroValue0
 t3:=Tryz.underlying3
 a3:=Tryz.isAgg3
 z3:=Tryz.sizeOf3
 v3:=Tryz.zeroValue3
 t4:=Tryz.underlying4
 a4:=Tryz.isAgg4
 z4:=Tryz.sizeOf4
 v4:=Tryz.zeroValue4
 t9:=Tryz.underlying9
 a9:=Tryz.isAgg9
 z9:=Tryz.sizeOf9
 v9:=Tryz.zeroValue9
 t20:=Tryz.underlying20
 a20:=Tryz.isAgg20
 z20:=Tryz.sizeOf20
 v20:=Tryz.zeroValue20
 t22:=Tryz.underlying39
 a22:=Tryz.isAgg39
 z22:=Tryz.sizeOf39
 v22:=Tryz.zeroValue39}
def Tryz.pa:Go.Shelf.Ren:=⟨fun|4=>183|n=>n,fun|22=>23|25=>39|3=>3|4=>4|9=>9|20=>20|0=>0|n=>n,fun|n=>n⟩
theorem Tryz.IT:Go.Proofs.Lays8.n4 Tryz.prog Tryz.pa:={
 mixed:=by kernel_rfl
 f4:=⟨Tryz.f183.name,by decide,Tryz.func183.trans (congrArg some (by kernel_rfl))⟩
 t0:=Tryz.underlying0
 a0:=Tryz.isAgg0
 z0:=Tryz.sizeOf0
 v0:=Tryz.zeroValue0
 t3:=Tryz.underlying3
 a3:=Tryz.isAgg3
 z3:=Tryz.sizeOf3
 v3:=Tryz.zeroValue3
 t4:=Tryz.underlying4
 a4:=Tryz.isAgg4
 z4:=Tryz.sizeOf4
 v4:=Tryz.zeroValue4
 t9:=Tryz.underlying9
 a9:=Tryz.isAgg9
 z9:=Tryz.sizeOf9
 v9:=Tryz.zeroValue9
 t20:=Tryz.underlying20
 a20:=Tryz.isAgg20
 z20:=Tryz.sizeOf20
 v20:=Tryz.zeroValue20
 t22:=Tryz.underlying23
 a22:=Tryz.isAgg23
 z22:=Tryz.sizeOf23
 v22:=Tryz.zeroValue23}
def Tryz.qJ:Go.Shelf.Ren:=⟨fun|6=>190|15=>82|14=>194|28=>136|29=>137|20=>195|21=>196|22=>197|23=>198|24=>199|25=>200|26=>201|27=>202|46=>203|47=>158|48=>159|49=>204|50=>205|57=>206|n=>n,fun|22=>23|24=>39|25=>60|3=>3|39=>138|0=>0|53=>191|55=>193|4=>4|46=>185|45=>184|50=>105|5=>5|9=>9|66=>223|70=>227|76=>244|77=>111|n=>n,fun|n=>n⟩
theorem Tryz.Qq:Go.Proofs.SlLaysF.n6 Tryz.prog Tryz.qJ:={
 mixed:=by kernel_rfl
 f6:=⟨Tryz.f190.name,by decide,Tryz.func190.trans (congrArg some (by kernel_rfl))⟩
 f14:=⟨Tryz.f194.name,by decide,Tryz.func194.trans (congrArg some (by kernel_rfl))⟩
 f15:=Tryz.func82.trans (congrArg some (by kernel_rfl))
 f20:=⟨Tryz.f195.name,by decide,Tryz.func195.trans (congrArg some (by kernel_rfl))⟩
 f21:=⟨Tryz.f196.name,by decide,Tryz.func196.trans (congrArg some (by kernel_rfl))⟩
 f22:=⟨Tryz.f197.name,by decide,Tryz.func197.trans (congrArg some (by kernel_rfl))⟩
 f23:=⟨Tryz.f198.name,by decide,Tryz.func198.trans (congrArg some (by kernel_rfl))⟩
 f24:=⟨Tryz.f199.name,by decide,Tryz.func199.trans (congrArg some (by kernel_rfl))⟩
 f25:=⟨Tryz.f200.name,by decide,Tryz.func200.trans (congrArg some (by kernel_rfl))⟩
 f26:=⟨Tryz.f201.name,by decide,Tryz.func201.trans (congrArg some (by kernel_rfl))⟩
 f27:=⟨Tryz.f202.name,by decide,Tryz.func202.trans (congrArg some (by kernel_rfl))⟩
 f28:=Tryz.func136.trans (congrArg some (by kernel_rfl))
 f29:=Tryz.func137.trans (congrArg some (by kernel_rfl))
 f46:=⟨Tryz.f203.name,by decide,Tryz.func203.trans (congrArg some (by kernel_rfl))⟩
 f47:=Tryz.func158.trans (congrArg some (by kernel_rfl))
 f48:=Tryz.func159.trans (congrArg some (by kernel_rfl))
 f49:=⟨Tryz.f204.name,by decide,Tryz.func204.trans (congrArg some (by kernel_rfl))⟩
 f50:=⟨Tryz.f205.name,by decide,Tryz.func205.trans (congrArg some (by kernel_rfl))⟩
 f57:=⟨Tryz.f206.name,by decide,Tryz.func206.trans (congrArg some (by kernel_rfl))⟩
 t0:=Tryz.underlying0
 a0:=Tryz.isAgg0
 z0:=Tryz.sizeOf0
 v0:=Tryz.zeroValue0
 t3:=Tryz.underlying3
 a3:=Tryz.isAgg3
 z3:=Tryz.sizeOf3
 v3:=Tryz.zeroValue3
 t4:=Tryz.underlying4
 a4:=Tryz.isAgg4
 z4:=Tryz.sizeOf4
 v4:=Tryz.zeroValue4
 t5:=Tryz.underlying5
 a5:=Tryz.isAgg5
 z5:=Tryz.sizeOf5
 v5:=Tryz.zeroValue5
 t9:=Tryz.underlying9
 a9:=Tryz.isAgg9
 z9:=Tryz.sizeOf9
 v9:=Tryz.zeroValue9
 t22:=Tryz.underlying23
 a22:=Tryz.isAgg23
 z22:=Tryz.sizeOf23
 v22:=Tryz.zeroValue23
 a24:=Tryz.isAgg39
 z24:=Tryz.sizeOf39
 t25:=Tryz.underlying60
 a25:=Tryz.isAgg60
 z25:=Tryz.sizeOf60
 v25:=Tryz.zeroValue60
 t39:=Tryz.underlying138
 a39:=Tryz.isAgg138
 z39:=Tryz.sizeOf138
 v39:=Tryz.zeroValue138
 t45:=Tryz.underlying184
 a45:=Tryz.isAgg184
 z45:=Tryz.sizeOf184
 v45:=Tryz.zeroValue184
 t46:=Tryz.underlying185
 a46:=Tryz.isAgg185
 z46:=Tryz.sizeOf185
 v46:=Tryz.zeroValue185
 t50:=Tryz.underlying105
 a50:=Tryz.isAgg105
 z50:=Tryz.sizeOf105
 v50:=Tryz.zeroValue105
 t53:=Tryz.underlying191
 a53:=Tryz.isAgg191
 z53:=Tryz.sizeOf191
 v53:=Tryz.zeroValue191
 t55:=Tryz.underlying193
 a55:=Tryz.isAgg193
 z55:=Tryz.sizeOf193
 v55:=Tryz.zeroValue193
 t66:=Tryz.underlying223
 a66:=Tryz.isAgg223
 z66:=Tryz.sizeOf223
 v66:=Tryz.zeroValue223
 t70:=Tryz.underlying227
 a70:=Tryz.isAgg227
 z70:=Tryz.sizeOf227
 v70:=Tryz.zeroValue227
 t76:=Tryz.underlying244
 a76:=Tryz.isAgg244
 z76:=Tryz.sizeOf244
 v76:=Tryz.zeroValue244
 t77:=Tryz.underlying111
 a77:=Tryz.isAgg111
 z77:=Tryz.sizeOf111
 v77:=Tryz.zeroValue111}
def Tryz.pb:Go.Shelf.Ren:=⟨fun|189=>121|125=>82|257=>154|128=>136|129=>137|294=>172|295=>173|296=>174|297=>175|298=>176|299=>177|216=>178|300=>179|301=>180|328=>186|329=>158|330=>159|331=>187|332=>188|215=>127|343=>193|n=>n,fun|28=>39|3=>3|46=>138|0=>0|51=>191|53=>193|4=>4|183=>185|182=>184|131=>105|5=>5|9=>9|218=>223|222=>227|228=>244|229=>111|n=>n,fun|n=>n⟩
theorem Tryz.IU:Go.Proofs.Lays.n189 Tryz.prog Tryz.pb:={
 mixed:=by kernel_rfl
 f125:=Tryz.func82.trans (congrArg some (by kernel_rfl))
 f128:=Tryz.func136.trans (congrArg some (by kernel_rfl))
 f129:=Tryz.func137.trans (congrArg some (by kernel_rfl))
 f189:=Tryz.func121.trans (congrArg some (by kernel_rfl))
 f215:=Tryz.func127.trans (congrArg some (by kernel_rfl))
 f216:=Tryz.func178.trans (congrArg some (by kernel_rfl))
 f257:=Tryz.func154.trans (congrArg some (by kernel_rfl))
 f294:=Tryz.func172.trans (congrArg some (by kernel_rfl))
 f295:=Tryz.func173.trans (congrArg some (by kernel_rfl))
 f296:=Tryz.func174.trans (congrArg some (by kernel_rfl))
 f297:=Tryz.func175.trans (congrArg some (by kernel_rfl))
 f298:=Tryz.func176.trans (congrArg some (by kernel_rfl))
 f299:=Tryz.func177.trans (congrArg some (by kernel_rfl))
 f300:=Tryz.func179.trans (congrArg some (by kernel_rfl))
 f301:=Tryz.func180.trans (congrArg some (by kernel_rfl))
 f328:=Tryz.func186.trans (congrArg some (by kernel_rfl))
 f329:=Tryz.func158.trans (congrArg some (by kernel_rfl))
 f330:=Tryz.func159.trans (congrArg some (by kernel_rfl))
 f331:=Tryz.func187.trans (congrArg some (by kernel_rfl))
 f332:=Tryz.func188.trans (congrArg some (by kernel_rfl))
 f343:=Tryz.func193.trans (congrArg some (by kernel_rfl))
 t0:=Tryz.underlying0
 a0:=Tryz.isAgg0
 z0:=Tryz.sizeOf0
 v0:=Tryz.zeroValue0
 t3:=Tryz.underlying3
 a3:=Tryz.isAgg3
 z3:=Tryz.sizeOf3
 v3:=Tryz.zeroValue3
 t4:=Tryz.underlying4
 a4:=Tryz.isAgg4
 z4:=Tryz.sizeOf4
 v4:=Tryz.zeroValue4
 t5:=Tryz.underlying5
 a5:=Tryz.isAgg5
 z5:=Tryz.sizeOf5
 v5:=Tryz.zeroValue5
 t9:=Tryz.underlying9
 a9:=Tryz.isAgg9
 z9:=Tryz.sizeOf9
 v9:=Tryz.zeroValue9
 t28:=Tryz.underlying39
 a28:=Tryz.isAgg39
 z28:=Tryz.sizeOf39
 v28:=Tryz.zeroValue39
 t46:=Tryz.underlying138
 a46:=Tryz.isAgg138
 z46:=Tryz.sizeOf138
 v46:=Tryz.zeroValue138
 t51:=Tryz.underlying191
 a51:=Tryz.isAgg191
 z51:=Tryz.sizeOf191
 v51:=Tryz.zeroValue191
 t53:=Tryz.underlying193
 a53:=Tryz.isAgg193
 z53:=Tryz.sizeOf193
 v53:=Tryz.zeroValue193
 t131:=Tryz.underlying105
 a131:=Tryz.isAgg105
 z131:=Tryz.sizeOf105
 v131:=Tryz.zeroValue105
 t182:=Tryz.underlying184
 a182:=Tryz.isAgg184
 z182:=Tryz.sizeOf184
 v182:=Tryz.zeroValue184
 t183:=Tryz.underlying185
 a183:=Tryz.isAgg185
 z183:=Tryz.sizeOf185
 v183:=Tryz.zeroValue185
 t218:=Tryz.underlying223
 a218:=Tryz.isAgg223
 z218:=Tryz.sizeOf223
 v218:=Tryz.zeroValue223
 t222:=Tryz.underlying227
 a222:=Tryz.isAgg227
 z222:=Tryz.sizeOf227
 v222:=Tryz.zeroValue227
 t228:=Tryz.underlying244
 a228:=Tryz.isAgg244
 z228:=Tryz.sizeOf244
 v228:=Tryz.zeroValue244
 t229:=Tryz.underlying111
 a229:=Tryz.isAgg111
 z229:=Tryz.sizeOf111
 v229:=Tryz.zeroValue111}
def Tryz.l6:Go.Shelf.Ren:=⟨fun|6=>32|15=>82|14=>81|28=>136|29=>137|20=>128|21=>129|22=>130|23=>131|24=>132|25=>133|26=>134|27=>135|46=>157|47=>158|48=>159|49=>160|50=>161|57=>181|n=>n,fun|22=>56|24=>58|25=>64|3=>3|39=>138|0=>0|53=>191|55=>193|4=>4|46=>185|45=>184|50=>105|5=>5|9=>9|66=>223|70=>227|76=>244|77=>111|n=>n,fun|n=>n⟩
theorem Tryz.zw:Go.Proofs.SlLaysF0.n6 Tryz.prog Tryz.l6:={
 mixed:=by kernel_rfl
 f6:=⟨Tryz.f32.name,by decide,Tryz.func32.trans (congrArg some (by kernel_rfl))⟩
 f14:=⟨Tryz.f81.name,by decide,Tryz.func81.trans (congrArg some (by kernel_rfl))⟩
 f15:=Tryz.func82.trans (congrArg some (by kernel_rfl))
 f20:=⟨Tryz.f128.name,by decide,Tryz.func128.trans (congrArg some (by kernel_rfl))⟩
 f21:=⟨Tryz.f129.name,by decide,Tryz.func129.trans (congrArg some (by kernel_rfl))⟩
 f22:=⟨Tryz.f130.name,by decide,Tryz.func130.trans (congrArg some (by kernel_rfl))⟩
 f23:=⟨Tryz.f131.name,by decide,Tryz.func131.trans (congrArg some (by kernel_rfl))⟩
 f24:=⟨Tryz.f132.name,by decide,Tryz.func132.trans (congrArg some (by kernel_rfl))⟩
 f25:=⟨Tryz.f133.name,by decide,Tryz.func133.trans (congrArg some (by kernel_rfl))⟩
 f26:=⟨Tryz.f134.name,by decide,Tryz.func134.trans (congrArg some (by kernel_rfl))⟩
 f27:=⟨Tryz.f135.name,by decide,Tryz.func135.trans (congrArg some (by kernel_rfl))⟩
 f28:=Tryz.func136.trans (congrArg some (by kernel_rfl))
 f29:=Tryz.func137.trans (congrArg some (by kernel_rfl))
 f46:=⟨Tryz.f157.name,by decide,Tryz.func157.trans (congrArg some (by kernel_rfl))⟩
 f47:=Tryz.func158.trans (congrArg some (by kernel_rfl))
 f48:=Tryz.func159.trans (congrArg some (by kernel_rfl))
 f49:=⟨Tryz.f160.name,by decide,Tryz.func160.trans (congrArg some (by kernel_rfl))⟩
 f50:=⟨Tryz.f161.name,by decide,Tryz.func161.trans (congrArg some (by kernel_rfl))⟩
 f57:=⟨Tryz.f181.name,by decide,Tryz.func181.trans (congrArg some (by kernel_rfl))⟩
 t0:=Tryz.underlying0
 a0:=Tryz.isAgg0
 z0:=Tryz.sizeOf0
 v0:=Tryz.zeroValue0
 t3:=Tryz.underlying3
 a3:=Tryz.isAgg3
 z3:=Tryz.sizeOf3
 v3:=Tryz.zeroValue3
 t4:=Tryz.underlying4
 a4:=Tryz.isAgg4
 z4:=Tryz.sizeOf4
 v4:=Tryz.zeroValue4
 t5:=Tryz.underlying5
 a5:=Tryz.isAgg5
 z5:=Tryz.sizeOf5
 v5:=Tryz.zeroValue5
 t9:=Tryz.underlying9
 a9:=Tryz.isAgg9
 z9:=Tryz.sizeOf9
 v9:=Tryz.zeroValue9
 t22:=Tryz.underlying56
 a22:=Tryz.isAgg56
 z22:=Tryz.sizeOf56
 v22:=Tryz.zeroValue56
 t25:=Tryz.underlying64
 a25:=Tryz.isAgg64
 z25:=Tryz.sizeOf64
 v25:=Tryz.zeroValue64
 t39:=Tryz.underlying138
 a39:=Tryz.isAgg138
 z39:=Tryz.sizeOf138
 v39:=Tryz.zeroValue138
 t45:=Tryz.underlying184
 a45:=Tryz.isAgg184
 z45:=Tryz.sizeOf184
 v45:=Tryz.zeroValue184
 t46:=Tryz.underlying185
 a46:=Tryz.isAgg185
 z46:=Tryz.sizeOf185
 v46:=Tryz.zeroValue185
 t50:=Tryz.underlying105
 a50:=Tryz.isAgg105
 z50:=Tryz.sizeOf105
 v50:=Tryz.zeroValue105
 t53:=Tryz.underlying191
 a53:=Tryz.isAgg191
 z53:=Tryz.sizeOf191
 v53:=Tryz.zeroValue191
 t55:=Tryz.underlying193
 a55:=Tryz.isAgg193
 z55:=Tryz.sizeOf193
 v55:=Tryz.zeroValue193
 t66:=Tryz.underlying223
 a66:=Tryz.isAgg223
 z66:=Tryz.sizeOf223
 v66:=Tryz.zeroValue223
 t70:=Tryz.underlying227
 a70:=Tryz.isAgg227
 z70:=Tryz.sizeOf227
 v70:=Tryz.zeroValue227
 t76:=Tryz.underlying244
 a76:=Tryz.isAgg244
 z76:=Tryz.sizeOf244
 v76:=Tryz.zeroValue244
 t77:=Tryz.underlying111
 a77:=Tryz.isAgg111
 z77:=Tryz.sizeOf111
 v77:=Tryz.zeroValue111}
end Go.Proofs
namespace Ab
open Go Go.Proofs
theorem ok7:aT Tryz.prog 7 CL (cS 7)=true:=by kernel_rfl
theorem ok9:aT Tryz.prog 9 CM (cS 9)=true:=by kernel_rfl
theorem aiG:aT Tryz.prog 10 CN (cS 10)=true:=by kernel_rfl
theorem aiH:aT Tryz.prog 11 rG (cS 11)=true:=by kernel_rfl
theorem aiI:aT Tryz.prog 13 CO (cS 13)=true:=by kernel_rfl
theorem aiJ:aT Tryz.prog 14 CP (cS 14)=true:=by kernel_rfl
theorem aiK:aT Tryz.prog 20 CQ (cS 20)=true:=by kernel_rfl
theorem aiL:aT Tryz.prog 21 CS (cS 21)=true:=by kernel_rfl
theorem aiM:aT Tryz.prog 22 CT (cS 22)=true:=by kernel_rfl
theorem aiN:aT Tryz.prog 23 CU (cS 23)=true:=by kernel_rfl
theorem aiO:aT Tryz.prog 24 CV (cS 24)=true:=by kernel_rfl
theorem aiP:aT Tryz.prog 25 CW (cS 25)=true:=by kernel_rfl
theorem aiQ:aT Tryz.prog 26 CX (cS 26)=true:=by kernel_rfl
theorem aiR:aT Tryz.prog 27 CY (cS 27)=true:=by kernel_rfl
theorem aiS:aT Tryz.prog 28 CZ (cS 28)=true:=by kernel_rfl
theorem aiT:aT Tryz.prog 29 C3 (cS 29)=true:=by kernel_rfl
theorem aiU:aT Tryz.prog 30 C4 (cS 30)=true:=by kernel_rfl
theorem aiV:aT Tryz.prog 31 C5 (cS 31)=true:=by kernel_rfl
theorem aiW:aT Tryz.prog 33 C6 (cS 33)=true:=by kernel_rfl
theorem aiX:aT Tryz.prog 34 C7 (cS 34)=true:=by kernel_rfl
theorem aiY:aT Tryz.prog 41 C8 (cS 41)=true:=by kernel_rfl
theorem aiZ:aT Tryz.prog 42 C9 (cS 42)=true:=by kernel_rfl
theorem ai0:aT Tryz.prog 43 Da (cS 43)=true:=by kernel_rfl
theorem ai1:aT Tryz.prog 44 Db (cS 44)=true:=by kernel_rfl
theorem ai2:aT Tryz.prog 58 Dc (cS 58)=true:=by kernel_rfl
theorem ai3:aT Tryz.prog 59 Dd (cS 59)=true:=by kernel_rfl
theorem ai4:aT Tryz.prog 60 De (cS 60)=true:=by kernel_rfl
theorem ai5:aT Tryz.prog 61 Df (cS 61)=true:=by kernel_rfl
theorem ai6:aT Tryz.prog 62 Dg (cS 62)=true:=by kernel_rfl
theorem ai7:aT Tryz.prog 63 Dh (cS 63)=true:=by kernel_rfl
theorem ai8:aT Tryz.prog 64 Di (cS 64)=true:=by kernel_rfl
theorem ai9:aT Tryz.prog 65 Dj (cS 65)=true:=by kernel_rfl
theorem aja:aT Tryz.prog 66 Dk (cS 66)=true:=by kernel_rfl
theorem ajb:aT Tryz.prog 67 Dl (cS 67)=true:=by kernel_rfl
theorem ajc:aT Tryz.prog 68 Dn (cS 68)=true:=by kernel_rfl
theorem ajd:aT Tryz.prog 69 Dp (cS 69)=true:=by kernel_rfl
theorem Qr:aT Tryz.prog 70 Qc (cS 70)=true:=by kernel_rfl
theorem aje:aT Tryz.prog 71 Dq (cS 71)=true:=by kernel_rfl
theorem ajf:aT Tryz.prog 72 Dr (cS 72)=true:=by kernel_rfl
theorem ajg:aT Tryz.prog 73 Ds (cS 73)=true:=by kernel_rfl
theorem ajh:aT Tryz.prog 74 rH (cS 74)=true:=by kernel_rfl
theorem aji:aT Tryz.prog 75 Dt (cS 75)=true:=by kernel_rfl
theorem ajj:aT Tryz.prog 76 Du (cS 76)=true:=by kernel_rfl
theorem ajk:aT Tryz.prog 77 Dw (cS 77)=true:=by kernel_rfl
theorem ajl:aT Tryz.prog 78 Dx (cS 78)=true:=by kernel_rfl
theorem ajm:aT Tryz.prog 79 Dy (cS 79)=true:=by kernel_rfl
theorem ajn:aT Tryz.prog 80 Dz (cS 80)=true:=by kernel_rfl
theorem ajo:aT Tryz.prog 83 DA (cS 83)=true:=by kernel_rfl
theorem ajp:aT Tryz.prog 95 DB (cS 95)=true:=by kernel_rfl
theorem ajq:aT Tryz.prog 96 DC (cS 96)=true:=by kernel_rfl
theorem ajr:aT Tryz.prog 97 DD (cS 97)=true:=by kernel_rfl
theorem ajs:aT Tryz.prog 98 DE (cS 98)=true:=by kernel_rfl
theorem ajt:aT Tryz.prog 99 DF (cS 99)=true:=by kernel_rfl
theorem Qs:aT Tryz.prog 100 DG (cS 100)=true:=by kernel_rfl
theorem Qt:aT Tryz.prog 101 DH (cS 101)=true:=by kernel_rfl
theorem Qu:aT Tryz.prog 104 DI (cS 104)=true:=by kernel_rfl
theorem Qv:aT Tryz.prog 105 DJ (cS 105)=true:=by kernel_rfl
theorem Qw:aT Tryz.prog 117 DK (cS 117)=true:=by kernel_rfl
theorem Qx:aT Tryz.prog 118 DL (cS 118)=true:=by kernel_rfl
theorem Qy:aT Tryz.prog 119 DM (cS 119)=true:=by kernel_rfl
theorem Qz:aT Tryz.prog 120 DN (cS 120)=true:=by kernel_rfl
theorem QA:aT Tryz.prog 122 DO (cS 122)=true:=by kernel_rfl
theorem QB:aT Tryz.prog 123 DP (cS 123)=true:=by kernel_rfl
theorem QC:aT Tryz.prog 124 DQ (cS 124)=true:=by kernel_rfl
theorem QD:aT Tryz.prog 125 DR (cS 125)=true:=by kernel_rfl
theorem QE:aT Tryz.prog 126 DS (cS 126)=true:=by kernel_rfl
theorem QF:aT Tryz.prog 127 DU (cS 127)=true:=by kernel_rfl
theorem QG:aT Tryz.prog 141 DV (cS 141)=true:=by kernel_rfl
theorem QH:aT Tryz.prog 142 DW (cS 142)=true:=by kernel_rfl
theorem QI:aT Tryz.prog 143 DX (cS 143)=true:=by kernel_rfl
theorem QJ:aT Tryz.prog 144 Cb (cS 144)=true:=by kernel_rfl
theorem QK:aT Tryz.prog 145 Cc (cS 145)=true:=by kernel_rfl
theorem QL:aT Tryz.prog 146 Cd (cS 146)=true:=by kernel_rfl
theorem QM:aT Tryz.prog 147 Cf (cS 147)=true:=by kernel_rfl
theorem QN:aT Tryz.prog 148 Ci (cS 148)=true:=by kernel_rfl
theorem QO:aT Tryz.prog 149 Ck (cS 149)=true:=by kernel_rfl
theorem QP:aT Tryz.prog 153 Cn (cS 153)=true:=by kernel_rfl
theorem QQ:aT Tryz.prog 155 Co (cS 155)=true:=by kernel_rfl
theorem QR:aT Tryz.prog 162 Cr (cS 162)=true:=by kernel_rfl
theorem QS:aT Tryz.prog 163 Ct (cS 163)=true:=by kernel_rfl
theorem QT:aT Tryz.prog 164 Cu (cS 164)=true:=by kernel_rfl
theorem QU:aT Tryz.prog 165 Cv (cS 165)=true:=by kernel_rfl
theorem QV:aT Tryz.prog 166 Cx (cS 166)=true:=by kernel_rfl
theorem QW:aT Tryz.prog 167 Cy (cS 167)=true:=by kernel_rfl
theorem QX:aT Tryz.prog 168 Cz (cS 168)=true:=by kernel_rfl
theorem QY:aT Tryz.prog 169 CA (cS 169)=true:=by kernel_rfl
theorem QZ:aT Tryz.prog 170 CB (cS 170)=true:=by kernel_rfl
theorem Q0:aT Tryz.prog 182 CC (cS 182)=true:=by kernel_rfl
theorem Q1:aT Tryz.prog 184 CF (cS 184)=true:=by kernel_rfl
theorem Gb:aT Tryz.prog 189 Qb (cS 189)=true:=by kernel_rfl
theorem Q2:aT Tryz.prog 191 CG (cS 191)=true:=by kernel_rfl
theorem Q3:aT Tryz.prog 192 CH (cS 192)=true:=by kernel_rfl
theorem Q4:aT Tryz.prog 222 CI (cS 222)=true:=by kernel_rfl
theorem Q5:aT Tryz.prog 223 CJ (cS 223)=true:=by kernel_rfl
theorem Q6:aT Tryz.prog 224 CK (cS 224)=true:=by kernel_rfl
theorem okG:∀f fn,G f=some fn->∃sl,aT Tryz.prog f fn sl=true:=by
 intro f fn h;unfold G at h;split at h
 ·cases h;exact⟨_,ok7⟩
 ·cases h;exact⟨_,ok9⟩
 ·cases h;exact⟨_,aiG⟩
 ·cases h;exact⟨_,aiH⟩
 ·cases h;exact⟨_,aiI⟩
 ·cases h;exact⟨_,aiJ⟩
 ·cases h;exact⟨_,aiK⟩
 ·cases h;exact⟨_,aiL⟩
 ·cases h;exact⟨_,aiM⟩
 ·cases h;exact⟨_,aiN⟩
 ·cases h;exact⟨_,aiO⟩
 ·cases h;exact⟨_,aiP⟩
 ·cases h;exact⟨_,aiQ⟩
 ·cases h;exact⟨_,aiR⟩
 ·cases h;exact⟨_,aiS⟩
 ·cases h;exact⟨_,aiT⟩
 ·cases h;exact⟨_,aiU⟩
 ·cases h;exact⟨_,aiV⟩
 ·cases h;exact⟨_,aiW⟩
 ·cases h;exact⟨_,aiX⟩
 ·cases h;exact⟨_,aiY⟩
 ·cases h;exact⟨_,aiZ⟩
 ·cases h;exact⟨_,ai0⟩
 ·cases h;exact⟨_,ai1⟩
 ·cases h;exact⟨_,ai2⟩
 ·cases h;exact⟨_,ai3⟩
 ·cases h;exact⟨_,ai4⟩
 ·cases h;exact⟨_,ai5⟩
 ·cases h;exact⟨_,ai6⟩
 ·cases h;exact⟨_,ai7⟩
 ·cases h;exact⟨_,ai8⟩
 ·cases h;exact⟨_,ai9⟩
 ·cases h;exact⟨_,aja⟩
 ·cases h;exact⟨_,ajb⟩
 ·cases h;exact⟨_,ajc⟩
 ·cases h;exact⟨_,ajd⟩
 ·cases h;exact⟨_,Qr⟩
 ·cases h;exact⟨_,aje⟩
 ·cases h;exact⟨_,ajf⟩
 ·cases h;exact⟨_,ajg⟩
 ·cases h;exact⟨_,ajh⟩
 ·cases h;exact⟨_,aji⟩
 ·cases h;exact⟨_,ajj⟩
 ·cases h;exact⟨_,ajk⟩
 ·cases h;exact⟨_,ajl⟩
 ·cases h;exact⟨_,ajm⟩
 ·cases h;exact⟨_,ajn⟩
 ·cases h;exact⟨_,ajo⟩
 ·cases h;exact⟨_,ajp⟩
 ·cases h;exact⟨_,ajq⟩
 ·cases h;exact⟨_,ajr⟩
 ·cases h;exact⟨_,ajs⟩
 ·cases h;exact⟨_,ajt⟩
 ·cases h;exact⟨_,Qs⟩
 ·cases h;exact⟨_,Qt⟩
 ·cases h;exact⟨_,Qu⟩
 ·cases h;exact⟨_,Qv⟩
 ·cases h;exact⟨_,Qw⟩
 ·cases h;exact⟨_,Qx⟩
 ·cases h;exact⟨_,Qy⟩
 ·cases h;exact⟨_,Qz⟩
 ·cases h;exact⟨_,QA⟩
 ·cases h;exact⟨_,QB⟩
 ·cases h;exact⟨_,QC⟩
 ·cases h;exact⟨_,QD⟩
 ·cases h;exact⟨_,QE⟩
 ·cases h;exact⟨_,QF⟩
 ·cases h;exact⟨_,QG⟩
 ·cases h;exact⟨_,QH⟩
 ·cases h;exact⟨_,QI⟩
 ·cases h;exact⟨_,QJ⟩
 ·cases h;exact⟨_,QK⟩
 ·cases h;exact⟨_,QL⟩
 ·cases h;exact⟨_,QM⟩
 ·cases h;exact⟨_,QN⟩
 ·cases h;exact⟨_,QO⟩
 ·cases h;exact⟨_,QP⟩
 ·cases h;exact⟨_,QQ⟩
 ·cases h;exact⟨_,QR⟩
 ·cases h;exact⟨_,QS⟩
 ·cases h;exact⟨_,QT⟩
 ·cases h;exact⟨_,QU⟩
 ·cases h;exact⟨_,QV⟩
 ·cases h;exact⟨_,QW⟩
 ·cases h;exact⟨_,QX⟩
 ·cases h;exact⟨_,QY⟩
 ·cases h;exact⟨_,QZ⟩
 ·cases h;exact⟨_,Q0⟩
 ·cases h;exact⟨_,Q1⟩
 ·cases h;exact⟨_,Gb⟩
 ·cases h;exact⟨_,Q2⟩
 ·cases h;exact⟨_,Q3⟩
 ·cases h;exact⟨_,Q4⟩
 ·cases h;exact⟨_,Q5⟩
 ·cases h;exact⟨_,Q6⟩
 ·cases h
theorem mixed:Tryz.prog.follows .mixedOrders=true:=by kernel_rfl
theorem IV:eR Tryz.prog 32 (jm 3):=agM (ρ:=Tryz.l6) Tryz.zw rfl (by kernel_rfl) (by kernel_rfl)
theorem IW:eR Tryz.prog 70 fZ:=agu (t:=4) (sl:=cS 70) mixed Qr
theorem Ek:eR Tryz.prog 121 kf:=Z1 (ρ:=Tryz.pb) Tryz.IU rfl (by kernel_rfl)
theorem El:eR Tryz.prog 156 na:=Y8 (ρ:=Tryz.qI) Tryz.Qp rfl (by kernel_rfl) (by kernel_rfl)
theorem Em:eR Tryz.prog 183 j8:=Zc (ρ:=Tryz.pa) Tryz.IT rfl (by kernel_rfl) (by kernel_rfl)
theorem En:eR Tryz.prog 189 gE:=ags (t:=4) (sl:=cS 189) mixed Gb
theorem Eo:eR Tryz.prog 190 lL:=agA (ρ:=Tryz.qJ) Tryz.Qq rfl (by kernel_rfl)
theorem okQ:∀f p,Q f=some p->eR Tryz.prog f p:=by
 intro f p h;unfold Q at h;split at h
 ·cases h;exact IV
 ·cases h;exact IW
 ·cases h;exact Ek
 ·cases h;exact El
 ·cases h;exact Em
 ·cases h;exact En
 ·cases h;exact Eo
 ·cases h
theorem aju:cx Tryz.prog L:=by
 intro f args σ r bp h;obtain⟨N,hN⟩:=uA h;exact(BP mixed okG okQ N).1 f args σ r bp hN
end Ab
