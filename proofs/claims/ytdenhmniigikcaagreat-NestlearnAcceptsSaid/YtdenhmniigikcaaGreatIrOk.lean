/- Each small text is the program's function. Condition: none. -/
import Derived.Test.YtdenhmniigikcaaGreatAbSort
import Derived.Test.YtdenhmniigikcaaGreatAbSortS
import Derived.Test.YtdenhmniigikcaaGreatAbSortP
import Derived.Test.YtdenhmniigikcaaGreatAbSortI
import Derived.Test.YtdenhmniigikcaaGreatAbGrow
import Derived.Test.YtdenhmniigikcaaGreatAbGrowS
import Derived.Test.YtdenhmniigikcaaGreatProg
import Derived.KernelRfl
import Derived.Test.YtdenhmniigikcaaGreatAbCloneS
import Derived.Test.YtdenhmniigikcaaGreatIr
set_option linter.all false
namespace Go.Proofs
open Go.Shelf
def Tryz.qM:Go.Shelf.Ren:=⟨fun|4=>156|n=>n,fun|22=>39|25=>3|3=>3|4=>4|9=>9|20=>20|0=>0|n=>n,fun|n=>n⟩
theorem Tryz.Q2:Go.Proofs.Lays8.n4 Tryz.prog Tryz.qM:={
 mixed:=by kernel_rfl
 f4:=⟨Tryz.f156.name,by decide,Tryz.func156.trans (congrArg some (by kernel_rfl))⟩
 t0:=Tryz.underlying0
 a0:=Tryz.isAgg0
 z0:=Tryz.sizeOf0
 v0:=Tryz.zeroValue0
 t3:=Tryz.underlying3
 a3:=Tryz.isAgg3
 z3:=Tryz.sizeOf3
 v3:=Tryz.zeroValue3
 t4:=Tryz.underlying4
 a4:=Tryz.isAgg4
 z4:=Tryz.sizeOf4
 v4:=Tryz.zeroValue4
 t9:=Tryz.underlying9
 a9:=Tryz.isAgg9
 z9:=Tryz.sizeOf9
 v9:=Tryz.zeroValue9
 t20:=Tryz.underlying20
 a20:=Tryz.isAgg20
 z20:=Tryz.sizeOf20
 v20:=Tryz.zeroValue20
 t22:=Tryz.underlying39
 a22:=Tryz.isAgg39
 z22:=Tryz.sizeOf39
 v22:=Tryz.zeroValue39}
def Tryz.pw:Go.Shelf.Ren:=⟨fun|4=>183|n=>n,fun|22=>23|25=>39|3=>3|4=>4|9=>9|20=>20|0=>0|n=>n,fun|n=>n⟩
theorem Tryz.Jw:Go.Proofs.Lays8.n4 Tryz.prog Tryz.pw:={
 mixed:=by kernel_rfl
 f4:=⟨Tryz.f183.name,by decide,Tryz.func183.trans (congrArg some (by kernel_rfl))⟩
 t0:=Tryz.underlying0
 a0:=Tryz.isAgg0
 z0:=Tryz.sizeOf0
 v0:=Tryz.zeroValue0
 t3:=Tryz.underlying3
 a3:=Tryz.isAgg3
 z3:=Tryz.sizeOf3
 v3:=Tryz.zeroValue3
 t4:=Tryz.underlying4
 a4:=Tryz.isAgg4
 z4:=Tryz.sizeOf4
 v4:=Tryz.zeroValue4
 t9:=Tryz.underlying9
 a9:=Tryz.isAgg9
 z9:=Tryz.sizeOf9
 v9:=Tryz.zeroValue9
 t20:=Tryz.underlying20
 a20:=Tryz.isAgg20
 z20:=Tryz.sizeOf20
 v20:=Tryz.zeroValue20
 t22:=Tryz.underlying23
 a22:=Tryz.isAgg23
 z22:=Tryz.sizeOf23
 v22:=Tryz.zeroValue23}
def Tryz.qN:Go.Shelf.Ren:=⟨fun|6=>190|15=>82|14=>194|28=>136|29=>137|20=>195|21=>196|22=>197|23=>198|24=>199|25=>200|26=>201|27=>202|46=>203|47=>158|48=>159|49=>204|50=>205|57=>206|n=>n,fun|22=>23|24=>39|25=>60|3=>3|39=>138|0=>0|53=>191|55=>193|4=>4|46=>185|45=>184|50=>105|5=>5|9=>9|66=>223|70=>227|76=>244|77=>111|n=>n,fun|n=>n⟩
theorem Tryz.Q3:Go.Proofs.SlLaysF.n6 Tryz.prog Tryz.qN:={
 mixed:=by kernel_rfl
 f6:=⟨Tryz.f190.name,by decide,Tryz.func190.trans (congrArg some (by kernel_rfl))⟩
 f14:=⟨Tryz.f194.name,by decide,Tryz.func194.trans (congrArg some (by kernel_rfl))⟩
 f15:=Tryz.func82.trans (congrArg some (by kernel_rfl))
 f20:=⟨Tryz.f195.name,by decide,Tryz.func195.trans (congrArg some (by kernel_rfl))⟩
 f21:=⟨Tryz.f196.name,by decide,Tryz.func196.trans (congrArg some (by kernel_rfl))⟩
 f22:=⟨Tryz.f197.name,by decide,Tryz.func197.trans (congrArg some (by kernel_rfl))⟩
 f23:=⟨Tryz.f198.name,by decide,Tryz.func198.trans (congrArg some (by kernel_rfl))⟩
 f24:=⟨Tryz.f199.name,by decide,Tryz.func199.trans (congrArg some (by kernel_rfl))⟩
 f25:=⟨Tryz.f200.name,by decide,Tryz.func200.trans (congrArg some (by kernel_rfl))⟩
 f26:=⟨Tryz.f201.name,by decide,Tryz.func201.trans (congrArg some (by kernel_rfl))⟩
 f27:=⟨Tryz.f202.name,by decide,Tryz.func202.trans (congrArg some (by kernel_rfl))⟩
 f28:=Tryz.func136.trans (congrArg some (by kernel_rfl))
 f29:=Tryz.func137.trans (congrArg some (by kernel_rfl))
 f46:=⟨Tryz.f203.name,by decide,Tryz.func203.trans (congrArg some (by kernel_rfl))⟩
 f47:=Tryz.func158.trans (congrArg some (by kernel_rfl))
 f48:=Tryz.func159.trans (congrArg some (by kernel_rfl))
 f49:=⟨Tryz.f204.name,by decide,Tryz.func204.trans (congrArg some (by kernel_rfl))⟩
 f50:=⟨Tryz.f205.name,by decide,Tryz.func205.trans (congrArg some (by kernel_rfl))⟩
 f57:=⟨Tryz.f206.name,by decide,Tryz.func206.trans (congrArg some (by kernel_rfl))⟩
 t0:=Tryz.underlying0
 a0:=Tryz.isAgg0
 z0:=Tryz.sizeOf0
 v0:=Tryz.zeroValue0
 t3:=Tryz.underlying3
 a3:=Tryz.isAgg3
 z3:=Tryz.sizeOf3
 v3:=Tryz.zeroValue3
 t4:=Tryz.underlying4
 a4:=Tryz.isAgg4
 z4:=Tryz.sizeOf4
 v4:=Tryz.zeroValue4
 t5:=Tryz.underlying5
 a5:=Tryz.isAgg5
 z5:=Tryz.sizeOf5
 v5:=Tryz.zeroValue5
 t9:=Tryz.underlying9
 a9:=Tryz.isAgg9
 z9:=Tryz.sizeOf9
 v9:=Tryz.zeroValue9
 t22:=Tryz.underlying23
 a22:=Tryz.isAgg23
 z22:=Tryz.sizeOf23
 v22:=Tryz.zeroValue23
 a24:=Tryz.isAgg39
 z24:=Tryz.sizeOf39
 t25:=Tryz.underlying60
 a25:=Tryz.isAgg60
 z25:=Tryz.sizeOf60
 v25:=Tryz.zeroValue60
 t39:=Tryz.underlying138
 a39:=Tryz.isAgg138
 z39:=Tryz.sizeOf138
 v39:=Tryz.zeroValue138
 t45:=Tryz.underlying184
 a45:=Tryz.isAgg184
 z45:=Tryz.sizeOf184
 v45:=Tryz.zeroValue184
 t46:=Tryz.underlying185
 a46:=Tryz.isAgg185
 z46:=Tryz.sizeOf185
 v46:=Tryz.zeroValue185
 t50:=Tryz.underlying105
 a50:=Tryz.isAgg105
 z50:=Tryz.sizeOf105
 v50:=Tryz.zeroValue105
 t53:=Tryz.underlying191
 a53:=Tryz.isAgg191
 z53:=Tryz.sizeOf191
 v53:=Tryz.zeroValue191
 t55:=Tryz.underlying193
 a55:=Tryz.isAgg193
 z55:=Tryz.sizeOf193
 v55:=Tryz.zeroValue193
 t66:=Tryz.underlying223
 a66:=Tryz.isAgg223
 z66:=Tryz.sizeOf223
 v66:=Tryz.zeroValue223
 t70:=Tryz.underlying227
 a70:=Tryz.isAgg227
 z70:=Tryz.sizeOf227
 v70:=Tryz.zeroValue227
 t76:=Tryz.underlying244
 a76:=Tryz.isAgg244
 z76:=Tryz.sizeOf244
 v76:=Tryz.zeroValue244
 t77:=Tryz.underlying111
 a77:=Tryz.isAgg111
 z77:=Tryz.sizeOf111
 v77:=Tryz.zeroValue111}
def Tryz.px:Go.Shelf.Ren:=⟨fun|189=>121|125=>82|257=>154|128=>136|129=>137|294=>172|295=>173|296=>174|297=>175|298=>176|299=>177|216=>178|300=>179|301=>180|328=>186|329=>158|330=>159|331=>187|332=>188|215=>127|343=>193|n=>n,fun|28=>39|3=>3|46=>138|0=>0|51=>191|53=>193|4=>4|183=>185|182=>184|131=>105|5=>5|9=>9|218=>223|222=>227|228=>244|229=>111|n=>n,fun|n=>n⟩
theorem Tryz.Jx:Go.Proofs.Lays.n189 Tryz.prog Tryz.px:={
 mixed:=by kernel_rfl
 f125:=Tryz.func82.trans (congrArg some (by kernel_rfl))
 f128:=Tryz.func136.trans (congrArg some (by kernel_rfl))
 f129:=Tryz.func137.trans (congrArg some (by kernel_rfl))
 f189:=Tryz.func121.trans (congrArg some (by kernel_rfl))
 f215:=Tryz.func127.trans (congrArg some (by kernel_rfl))
 f216:=Tryz.func178.trans (congrArg some (by kernel_rfl))
 f257:=Tryz.func154.trans (congrArg some (by kernel_rfl))
 f294:=Tryz.func172.trans (congrArg some (by kernel_rfl))
 f295:=Tryz.func173.trans (congrArg some (by kernel_rfl))
 f296:=Tryz.func174.trans (congrArg some (by kernel_rfl))
 f297:=Tryz.func175.trans (congrArg some (by kernel_rfl))
 f298:=Tryz.func176.trans (congrArg some (by kernel_rfl))
 f299:=Tryz.func177.trans (congrArg some (by kernel_rfl))
 f300:=Tryz.func179.trans (congrArg some (by kernel_rfl))
 f301:=Tryz.func180.trans (congrArg some (by kernel_rfl))
 f328:=Tryz.func186.trans (congrArg some (by kernel_rfl))
 f329:=Tryz.func158.trans (congrArg some (by kernel_rfl))
 f330:=Tryz.func159.trans (congrArg some (by kernel_rfl))
 f331:=Tryz.func187.trans (congrArg some (by kernel_rfl))
 f332:=Tryz.func188.trans (congrArg some (by kernel_rfl))
 f343:=Tryz.func193.trans (congrArg some (by kernel_rfl))
 t0:=Tryz.underlying0
 a0:=Tryz.isAgg0
 z0:=Tryz.sizeOf0
 v0:=Tryz.zeroValue0
 t3:=Tryz.underlying3
 a3:=Tryz.isAgg3
 z3:=Tryz.sizeOf3
 v3:=Tryz.zeroValue3
 t4:=Tryz.underlying4
 a4:=Tryz.isAgg4
 z4:=Tryz.sizeOf4
 v4:=Tryz.zeroValue4
 t5:=Tryz.underlying5
 a5:=Tryz.isAgg5
 z5:=Tryz.sizeOf5
 v5:=Tryz.zeroValue5
 t9:=Tryz.underlying9
 a9:=Tryz.isAgg9
 z9:=Tryz.sizeOf9
 v9:=Tryz.zeroValue9
 t28:=Tryz.underlying39
 a28:=Tryz.isAgg39
 z28:=Tryz.sizeOf39
 v28:=Tryz.zeroValue39
 t46:=Tryz.underlying138
 a46:=Tryz.isAgg138
 z46:=Tryz.sizeOf138
 v46:=Tryz.zeroValue138
 t51:=Tryz.underlying191
 a51:=Tryz.isAgg191
 z51:=Tryz.sizeOf191
 v51:=Tryz.zeroValue191
 t53:=Tryz.underlying193
 a53:=Tryz.isAgg193
 z53:=Tryz.sizeOf193
 v53:=Tryz.zeroValue193
 t131:=Tryz.underlying105
 a131:=Tryz.isAgg105
 z131:=Tryz.sizeOf105
 v131:=Tryz.zeroValue105
 t182:=Tryz.underlying184
 a182:=Tryz.isAgg184
 z182:=Tryz.sizeOf184
 v182:=Tryz.zeroValue184
 t183:=Tryz.underlying185
 a183:=Tryz.isAgg185
 z183:=Tryz.sizeOf185
 v183:=Tryz.zeroValue185
 t218:=Tryz.underlying223
 a218:=Tryz.isAgg223
 z218:=Tryz.sizeOf223
 v218:=Tryz.zeroValue223
 t222:=Tryz.underlying227
 a222:=Tryz.isAgg227
 z222:=Tryz.sizeOf227
 v222:=Tryz.zeroValue227
 t228:=Tryz.underlying244
 a228:=Tryz.isAgg244
 z228:=Tryz.sizeOf244
 v228:=Tryz.zeroValue244
 t229:=Tryz.underlying111
 a229:=Tryz.isAgg111
 z229:=Tryz.sizeOf111
 v229:=Tryz.zeroValue111}
def Tryz.l9:Go.Shelf.Ren:=⟨fun|6=>32|15=>82|14=>81|28=>136|29=>137|20=>128|21=>129|22=>130|23=>131|24=>132|25=>133|26=>134|27=>135|46=>157|47=>158|48=>159|49=>160|50=>161|57=>181|n=>n,fun|22=>56|24=>58|25=>64|3=>3|39=>138|0=>0|53=>191|55=>193|4=>4|46=>185|45=>184|50=>105|5=>5|9=>9|66=>223|70=>227|76=>244|77=>111|n=>n,fun|n=>n⟩
theorem Tryz.zI:Go.Proofs.SlLaysF0.n6 Tryz.prog Tryz.l9:={
 mixed:=by kernel_rfl
 f6:=⟨Tryz.f32.name,by decide,Tryz.func32.trans (congrArg some (by kernel_rfl))⟩
 f14:=⟨Tryz.f81.name,by decide,Tryz.func81.trans (congrArg some (by kernel_rfl))⟩
 f15:=Tryz.func82.trans (congrArg some (by kernel_rfl))
 f20:=⟨Tryz.f128.name,by decide,Tryz.func128.trans (congrArg some (by kernel_rfl))⟩
 f21:=⟨Tryz.f129.name,by decide,Tryz.func129.trans (congrArg some (by kernel_rfl))⟩
 f22:=⟨Tryz.f130.name,by decide,Tryz.func130.trans (congrArg some (by kernel_rfl))⟩
 f23:=⟨Tryz.f131.name,by decide,Tryz.func131.trans (congrArg some (by kernel_rfl))⟩
 f24:=⟨Tryz.f132.name,by decide,Tryz.func132.trans (congrArg some (by kernel_rfl))⟩
 f25:=⟨Tryz.f133.name,by decide,Tryz.func133.trans (congrArg some (by kernel_rfl))⟩
 f26:=⟨Tryz.f134.name,by decide,Tryz.func134.trans (congrArg some (by kernel_rfl))⟩
 f27:=⟨Tryz.f135.name,by decide,Tryz.func135.trans (congrArg some (by kernel_rfl))⟩
 f28:=Tryz.func136.trans (congrArg some (by kernel_rfl))
 f29:=Tryz.func137.trans (congrArg some (by kernel_rfl))
 f46:=⟨Tryz.f157.name,by decide,Tryz.func157.trans (congrArg some (by kernel_rfl))⟩
 f47:=Tryz.func158.trans (congrArg some (by kernel_rfl))
 f48:=Tryz.func159.trans (congrArg some (by kernel_rfl))
 f49:=⟨Tryz.f160.name,by decide,Tryz.func160.trans (congrArg some (by kernel_rfl))⟩
 f50:=⟨Tryz.f161.name,by decide,Tryz.func161.trans (congrArg some (by kernel_rfl))⟩
 f57:=⟨Tryz.f181.name,by decide,Tryz.func181.trans (congrArg some (by kernel_rfl))⟩
 t0:=Tryz.underlying0
 a0:=Tryz.isAgg0
 z0:=Tryz.sizeOf0
 v0:=Tryz.zeroValue0
 t3:=Tryz.underlying3
 a3:=Tryz.isAgg3
 z3:=Tryz.sizeOf3
 v3:=Tryz.zeroValue3
 t4:=Tryz.underlying4
 a4:=Tryz.isAgg4
 z4:=Tryz.sizeOf4
 v4:=Tryz.zeroValue4
 t5:=Tryz.underlying5
 a5:=Tryz.isAgg5
 z5:=Tryz.sizeOf5
 v5:=Tryz.zeroValue5
 t9:=Tryz.underlying9
 a9:=Tryz.isAgg9
 z9:=Tryz.sizeOf9
 v9:=Tryz.zeroValue9
 t22:=Tryz.underlying56
 a22:=Tryz.isAgg56
 z22:=Tryz.sizeOf56
 v22:=Tryz.zeroValue56
 t25:=Tryz.underlying64
 a25:=Tryz.isAgg64
 z25:=Tryz.sizeOf64
 v25:=Tryz.zeroValue64
 t39:=Tryz.underlying138
 a39:=Tryz.isAgg138
 z39:=Tryz.sizeOf138
 v39:=Tryz.zeroValue138
 t45:=Tryz.underlying184
 a45:=Tryz.isAgg184
 z45:=Tryz.sizeOf184
 v45:=Tryz.zeroValue184
 t46:=Tryz.underlying185
 a46:=Tryz.isAgg185
 z46:=Tryz.sizeOf185
 v46:=Tryz.zeroValue185
 t50:=Tryz.underlying105
 a50:=Tryz.isAgg105
 z50:=Tryz.sizeOf105
 v50:=Tryz.zeroValue105
 t53:=Tryz.underlying191
 a53:=Tryz.isAgg191
 z53:=Tryz.sizeOf191
 v53:=Tryz.zeroValue191
 t55:=Tryz.underlying193
 a55:=Tryz.isAgg193
 z55:=Tryz.sizeOf193
 v55:=Tryz.zeroValue193
 t66:=Tryz.underlying223
 a66:=Tryz.isAgg223
 z66:=Tryz.sizeOf223
 v66:=Tryz.zeroValue223
 t70:=Tryz.underlying227
 a70:=Tryz.isAgg227
 z70:=Tryz.sizeOf227
 v70:=Tryz.zeroValue227
 t76:=Tryz.underlying244
 a76:=Tryz.isAgg244
 z76:=Tryz.sizeOf244
 v76:=Tryz.zeroValue244
 t77:=Tryz.underlying111
 a77:=Tryz.isAgg111
 z77:=Tryz.sizeOf111
 v77:=Tryz.zeroValue111}
end Go.Proofs
namespace Ab
open Go Go.Proofs
theorem ok5:aN Tryz.prog 5 Dk (cE 5)=true:=by kernel_rfl
theorem ok9:aN Tryz.prog 9 Dl (cE 9)=true:=by kernel_rfl
theorem ajE:aN Tryz.prog 10 Dn (cE 10)=true:=by kernel_rfl
theorem ajF:aN Tryz.prog 11 rK (cE 11)=true:=by kernel_rfl
theorem ajG:aN Tryz.prog 13 Dp (cE 13)=true:=by kernel_rfl
theorem ajH:aN Tryz.prog 14 Dq (cE 14)=true:=by kernel_rfl
theorem ajI:aN Tryz.prog 16 Dr (cE 16)=true:=by kernel_rfl
theorem ajJ:aN Tryz.prog 17 Ds (cE 17)=true:=by kernel_rfl
theorem ajK:aN Tryz.prog 18 Dt (cE 18)=true:=by kernel_rfl
theorem ajL:aN Tryz.prog 20 Du (cE 20)=true:=by kernel_rfl
theorem ajM:aN Tryz.prog 21 Dw (cE 21)=true:=by kernel_rfl
theorem ajN:aN Tryz.prog 22 Dx (cE 22)=true:=by kernel_rfl
theorem ajO:aN Tryz.prog 23 Dy (cE 23)=true:=by kernel_rfl
theorem ajP:aN Tryz.prog 24 Dz (cE 24)=true:=by kernel_rfl
theorem ajQ:aN Tryz.prog 25 DA (cE 25)=true:=by kernel_rfl
theorem ajR:aN Tryz.prog 26 DB (cE 26)=true:=by kernel_rfl
theorem ajS:aN Tryz.prog 27 DC (cE 27)=true:=by kernel_rfl
theorem ajT:aN Tryz.prog 28 DD (cE 28)=true:=by kernel_rfl
theorem ajU:aN Tryz.prog 29 DE (cE 29)=true:=by kernel_rfl
theorem ajV:aN Tryz.prog 30 DF (cE 30)=true:=by kernel_rfl
theorem ajW:aN Tryz.prog 31 DG (cE 31)=true:=by kernel_rfl
theorem ajX:aN Tryz.prog 33 DH (cE 33)=true:=by kernel_rfl
theorem ajY:aN Tryz.prog 34 DI (cE 34)=true:=by kernel_rfl
theorem ajZ:aN Tryz.prog 41 DJ (cE 41)=true:=by kernel_rfl
theorem aj0:aN Tryz.prog 42 DK (cE 42)=true:=by kernel_rfl
theorem aj1:aN Tryz.prog 43 DL (cE 43)=true:=by kernel_rfl
theorem aj2:aN Tryz.prog 44 DM (cE 44)=true:=by kernel_rfl
theorem aj3:aN Tryz.prog 49 DN (cE 49)=true:=by kernel_rfl
theorem aj4:aN Tryz.prog 50 DO (cE 50)=true:=by kernel_rfl
theorem aj5:aN Tryz.prog 51 DP (cE 51)=true:=by kernel_rfl
theorem aj6:aN Tryz.prog 52 DQ (cE 52)=true:=by kernel_rfl
theorem aj7:aN Tryz.prog 53 DR (cE 53)=true:=by kernel_rfl
theorem aj8:aN Tryz.prog 54 DS (cE 54)=true:=by kernel_rfl
theorem aj9:aN Tryz.prog 55 DU (cE 55)=true:=by kernel_rfl
theorem aka:aN Tryz.prog 58 DV (cE 58)=true:=by kernel_rfl
theorem akb:aN Tryz.prog 59 DW (cE 59)=true:=by kernel_rfl
theorem akc:aN Tryz.prog 60 DX (cE 60)=true:=by kernel_rfl
theorem akd:aN Tryz.prog 61 DY (cE 61)=true:=by kernel_rfl
theorem ake:aN Tryz.prog 62 DZ (cE 62)=true:=by kernel_rfl
theorem akf:aN Tryz.prog 63 D0 (cE 63)=true:=by kernel_rfl
theorem akg:aN Tryz.prog 64 D5 (cE 64)=true:=by kernel_rfl
theorem akh:aN Tryz.prog 65 D6 (cE 65)=true:=by kernel_rfl
theorem aki:aN Tryz.prog 66 D7 (cE 66)=true:=by kernel_rfl
theorem akj:aN Tryz.prog 67 D8 (cE 67)=true:=by kernel_rfl
theorem akk:aN Tryz.prog 68 D9 (cE 68)=true:=by kernel_rfl
theorem akl:aN Tryz.prog 69 Ea (cE 69)=true:=by kernel_rfl
theorem Q4:aN Tryz.prog 70 QS (cE 70)=true:=by kernel_rfl
theorem akm:aN Tryz.prog 71 Eb (cE 71)=true:=by kernel_rfl
theorem akn:aN Tryz.prog 72 Ec (cE 72)=true:=by kernel_rfl
theorem ako:aN Tryz.prog 73 Ed (cE 73)=true:=by kernel_rfl
theorem akp:aN Tryz.prog 74 rL (cE 74)=true:=by kernel_rfl
theorem akq:aN Tryz.prog 75 Ee (cE 75)=true:=by kernel_rfl
theorem akr:aN Tryz.prog 76 Ef (cE 76)=true:=by kernel_rfl
theorem aks:aN Tryz.prog 77 Eg (cE 77)=true:=by kernel_rfl
theorem akt:aN Tryz.prog 78 Eh (cE 78)=true:=by kernel_rfl
theorem aku:aN Tryz.prog 79 Ei (cE 79)=true:=by kernel_rfl
theorem akv:aN Tryz.prog 80 Ej (cE 80)=true:=by kernel_rfl
theorem akw:aN Tryz.prog 83 Ek (cE 83)=true:=by kernel_rfl
theorem akx:aN Tryz.prog 95 El (cE 95)=true:=by kernel_rfl
theorem aky:aN Tryz.prog 96 Em (cE 96)=true:=by kernel_rfl
theorem akz:aN Tryz.prog 97 En (cE 97)=true:=by kernel_rfl
theorem akA:aN Tryz.prog 98 Eo (cE 98)=true:=by kernel_rfl
theorem akB:aN Tryz.prog 99 Ep (cE 99)=true:=by kernel_rfl
theorem Q5:aN Tryz.prog 100 Co (cE 100)=true:=by kernel_rfl
theorem Q6:aN Tryz.prog 101 Cp (cE 101)=true:=by kernel_rfl
theorem Q7:aN Tryz.prog 104 Cq (cE 104)=true:=by kernel_rfl
theorem Q8:aN Tryz.prog 105 Cr (cE 105)=true:=by kernel_rfl
theorem Q9:aN Tryz.prog 111 Cs (cE 111)=true:=by kernel_rfl
theorem Ra:aN Tryz.prog 112 Ct (cE 112)=true:=by kernel_rfl
theorem Rb:aN Tryz.prog 117 Cu (cE 117)=true:=by kernel_rfl
theorem Rc:aN Tryz.prog 118 Cv (cE 118)=true:=by kernel_rfl
theorem Re:aN Tryz.prog 119 Cw (cE 119)=true:=by kernel_rfl
theorem Rg:aN Tryz.prog 120 Cx (cE 120)=true:=by kernel_rfl
theorem Rh:aN Tryz.prog 122 Cy (cE 122)=true:=by kernel_rfl
theorem Ri:aN Tryz.prog 123 Cz (cE 123)=true:=by kernel_rfl
theorem Rj:aN Tryz.prog 124 CA (cE 124)=true:=by kernel_rfl
theorem Rk:aN Tryz.prog 125 CC (cE 125)=true:=by kernel_rfl
theorem Rl:aN Tryz.prog 126 CD (cE 126)=true:=by kernel_rfl
theorem Rm:aN Tryz.prog 127 CF (cE 127)=true:=by kernel_rfl
theorem Rn:aN Tryz.prog 141 CG (cE 141)=true:=by kernel_rfl
theorem Ro:aN Tryz.prog 142 CI (cE 142)=true:=by kernel_rfl
theorem Rp:aN Tryz.prog 143 CK (cE 143)=true:=by kernel_rfl
theorem Rq:aN Tryz.prog 144 CL (cE 144)=true:=by kernel_rfl
theorem Rr:aN Tryz.prog 145 CM (cE 145)=true:=by kernel_rfl
theorem Rs:aN Tryz.prog 146 CN (cE 146)=true:=by kernel_rfl
theorem Rt:aN Tryz.prog 147 CP (cE 147)=true:=by kernel_rfl
theorem Ru:aN Tryz.prog 148 CS (cE 148)=true:=by kernel_rfl
theorem Rv:aN Tryz.prog 149 CU (cE 149)=true:=by kernel_rfl
theorem Rw:aN Tryz.prog 153 CV (cE 153)=true:=by kernel_rfl
theorem Rx:aN Tryz.prog 155 CW (cE 155)=true:=by kernel_rfl
theorem Ry:aN Tryz.prog 162 CZ (cE 162)=true:=by kernel_rfl
theorem Rz:aN Tryz.prog 163 C3 (cE 163)=true:=by kernel_rfl
theorem RA:aN Tryz.prog 164 C4 (cE 164)=true:=by kernel_rfl
theorem RB:aN Tryz.prog 165 C5 (cE 165)=true:=by kernel_rfl
theorem RD:aN Tryz.prog 166 C7 (cE 166)=true:=by kernel_rfl
theorem RE:aN Tryz.prog 167 C8 (cE 167)=true:=by kernel_rfl
theorem RF:aN Tryz.prog 168 C9 (cE 168)=true:=by kernel_rfl
theorem RH:aN Tryz.prog 169 Da (cE 169)=true:=by kernel_rfl
theorem RI:aN Tryz.prog 170 Db (cE 170)=true:=by kernel_rfl
theorem RJ:aN Tryz.prog 182 Dc (cE 182)=true:=by kernel_rfl
theorem RK:aN Tryz.prog 184 De (cE 184)=true:=by kernel_rfl
theorem GI:aN Tryz.prog 189 QR (cE 189)=true:=by kernel_rfl
theorem RL:aN Tryz.prog 191 Df (cE 191)=true:=by kernel_rfl
theorem RM:aN Tryz.prog 192 Dg (cE 192)=true:=by kernel_rfl
theorem RN:aN Tryz.prog 222 Dh (cE 222)=true:=by kernel_rfl
theorem RO:aN Tryz.prog 223 Di (cE 223)=true:=by kernel_rfl
theorem RP:aN Tryz.prog 224 Dj (cE 224)=true:=by kernel_rfl
theorem okG:∀f fn,G f=some fn->∃sl,aN Tryz.prog f fn sl=true:=by
 intro f fn h;unfold G at h;split at h
 ·cases h;exact⟨_,ok5⟩
 ·cases h;exact⟨_,ok9⟩
 ·cases h;exact⟨_,ajE⟩
 ·cases h;exact⟨_,ajF⟩
 ·cases h;exact⟨_,ajG⟩
 ·cases h;exact⟨_,ajH⟩
 ·cases h;exact⟨_,ajI⟩
 ·cases h;exact⟨_,ajJ⟩
 ·cases h;exact⟨_,ajK⟩
 ·cases h;exact⟨_,ajL⟩
 ·cases h;exact⟨_,ajM⟩
 ·cases h;exact⟨_,ajN⟩
 ·cases h;exact⟨_,ajO⟩
 ·cases h;exact⟨_,ajP⟩
 ·cases h;exact⟨_,ajQ⟩
 ·cases h;exact⟨_,ajR⟩
 ·cases h;exact⟨_,ajS⟩
 ·cases h;exact⟨_,ajT⟩
 ·cases h;exact⟨_,ajU⟩
 ·cases h;exact⟨_,ajV⟩
 ·cases h;exact⟨_,ajW⟩
 ·cases h;exact⟨_,ajX⟩
 ·cases h;exact⟨_,ajY⟩
 ·cases h;exact⟨_,ajZ⟩
 ·cases h;exact⟨_,aj0⟩
 ·cases h;exact⟨_,aj1⟩
 ·cases h;exact⟨_,aj2⟩
 ·cases h;exact⟨_,aj3⟩
 ·cases h;exact⟨_,aj4⟩
 ·cases h;exact⟨_,aj5⟩
 ·cases h;exact⟨_,aj6⟩
 ·cases h;exact⟨_,aj7⟩
 ·cases h;exact⟨_,aj8⟩
 ·cases h;exact⟨_,aj9⟩
 ·cases h;exact⟨_,aka⟩
 ·cases h;exact⟨_,akb⟩
 ·cases h;exact⟨_,akc⟩
 ·cases h;exact⟨_,akd⟩
 ·cases h;exact⟨_,ake⟩
 ·cases h;exact⟨_,akf⟩
 ·cases h;exact⟨_,akg⟩
 ·cases h;exact⟨_,akh⟩
 ·cases h;exact⟨_,aki⟩
 ·cases h;exact⟨_,akj⟩
 ·cases h;exact⟨_,akk⟩
 ·cases h;exact⟨_,akl⟩
 ·cases h;exact⟨_,Q4⟩
 ·cases h;exact⟨_,akm⟩
 ·cases h;exact⟨_,akn⟩
 ·cases h;exact⟨_,ako⟩
 ·cases h;exact⟨_,akp⟩
 ·cases h;exact⟨_,akq⟩
 ·cases h;exact⟨_,akr⟩
 ·cases h;exact⟨_,aks⟩
 ·cases h;exact⟨_,akt⟩
 ·cases h;exact⟨_,aku⟩
 ·cases h;exact⟨_,akv⟩
 ·cases h;exact⟨_,akw⟩
 ·cases h;exact⟨_,akx⟩
 ·cases h;exact⟨_,aky⟩
 ·cases h;exact⟨_,akz⟩
 ·cases h;exact⟨_,akA⟩
 ·cases h;exact⟨_,akB⟩
 ·cases h;exact⟨_,Q5⟩
 ·cases h;exact⟨_,Q6⟩
 ·cases h;exact⟨_,Q7⟩
 ·cases h;exact⟨_,Q8⟩
 ·cases h;exact⟨_,Q9⟩
 ·cases h;exact⟨_,Ra⟩
 ·cases h;exact⟨_,Rb⟩
 ·cases h;exact⟨_,Rc⟩
 ·cases h;exact⟨_,Re⟩
 ·cases h;exact⟨_,Rg⟩
 ·cases h;exact⟨_,Rh⟩
 ·cases h;exact⟨_,Ri⟩
 ·cases h;exact⟨_,Rj⟩
 ·cases h;exact⟨_,Rk⟩
 ·cases h;exact⟨_,Rl⟩
 ·cases h;exact⟨_,Rm⟩
 ·cases h;exact⟨_,Rn⟩
 ·cases h;exact⟨_,Ro⟩
 ·cases h;exact⟨_,Rp⟩
 ·cases h;exact⟨_,Rq⟩
 ·cases h;exact⟨_,Rr⟩
 ·cases h;exact⟨_,Rs⟩
 ·cases h;exact⟨_,Rt⟩
 ·cases h;exact⟨_,Ru⟩
 ·cases h;exact⟨_,Rv⟩
 ·cases h;exact⟨_,Rw⟩
 ·cases h;exact⟨_,Rx⟩
 ·cases h;exact⟨_,Ry⟩
 ·cases h;exact⟨_,Rz⟩
 ·cases h;exact⟨_,RA⟩
 ·cases h;exact⟨_,RB⟩
 ·cases h;exact⟨_,RD⟩
 ·cases h;exact⟨_,RE⟩
 ·cases h;exact⟨_,RF⟩
 ·cases h;exact⟨_,RH⟩
 ·cases h;exact⟨_,RI⟩
 ·cases h;exact⟨_,RJ⟩
 ·cases h;exact⟨_,RK⟩
 ·cases h;exact⟨_,GI⟩
 ·cases h;exact⟨_,RL⟩
 ·cases h;exact⟨_,RM⟩
 ·cases h;exact⟨_,RN⟩
 ·cases h;exact⟨_,RO⟩
 ·cases h;exact⟨_,RP⟩
 ·cases h
theorem mixed:Tryz.prog.follows .mixedOrders=true:=by kernel_rfl
theorem Jy:eT Tryz.prog 32 (jr 3):=ahk (ρ:=Tryz.l9) Tryz.zI rfl (by kernel_rfl) (by kernel_rfl)
theorem Jz:eT Tryz.prog 70 gg:=ag2 (t:=4) (sl:=cE 70) mixed Q4
theorem EL:eT Tryz.prog 121 kh:=aaz (ρ:=Tryz.px) Tryz.Jx rfl (by kernel_rfl)
theorem EM:eT Tryz.prog 156 nj:=ZN (ρ:=Tryz.qM) Tryz.Q2 rfl (by kernel_rfl) (by kernel_rfl)
theorem EN:eT Tryz.prog 183 ke:=ZQ (ρ:=Tryz.pw) Tryz.Jw rfl (by kernel_rfl) (by kernel_rfl)
theorem EO:eT Tryz.prog 189 gI:=ag0 (t:=4) (sl:=cE 189) mixed GI
theorem EP:eT Tryz.prog 190 lO:=ag8 (ρ:=Tryz.qN) Tryz.Q3 rfl (by kernel_rfl)
theorem okQ:∀f p,Q f=some p->eT Tryz.prog f p:=by
 intro f p h;unfold Q at h;split at h
 ·cases h;exact Jy
 ·cases h;exact Jz
 ·cases h;exact EL
 ·cases h;exact EM
 ·cases h;exact EN
 ·cases h;exact EO
 ·cases h;exact EP
 ·cases h
theorem akC:cz Tryz.prog L:=by
 intro f args σ r bp h;obtain⟨N,hN⟩:=uE h;exact(BZ mixed okG okQ N).1 f args σ r bp hN
end Ab
