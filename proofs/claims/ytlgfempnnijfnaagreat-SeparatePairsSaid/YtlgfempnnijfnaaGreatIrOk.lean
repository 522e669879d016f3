/- Each small text is the program's function. Condition: none. -/
import Derived.Test.YtlgfempnnijfnaaGreatAbSort
import Derived.Test.YtlgfempnnijfnaaGreatAbSortI
import Derived.Test.YtlgfempnnijfnaaGreatAbGrow
import Derived.Test.YtlgfempnnijfnaaGreatAbGrowS
import Derived.Test.YtlgfempnnijfnaaGreatProg
import Derived.KernelRfl
import Derived.Test.YtlgfempnnijfnaaGreatAbCloneS
import Derived.Test.YtlgfempnnijfnaaGreatIr
set_option linter.all false
namespace Go.Proofs
open Go.Shelf
def Tryz.growL_ren : Go.Shelf.Ren := ⟨fun | 4 => 96 | n => n, fun | 22 => 44 | 25 => 3 | 3 => 3 | 4 => 4 | 9 => 9 | 20 => 20 | 0 => 0 | n => n, fun | n => n⟩
theorem Tryz.growL : Go.Proofs.Lays8.n4 Tryz.prog Tryz.growL_ren := {
  mixed := by kernel_rfl
  f4 := ⟨Tryz.f96.name, by decide, Tryz.func96.trans (congrArg some (by kernel_rfl))⟩
  t0 := Tryz.underlying0
  a0 := Tryz.isAgg0
  z0 := Tryz.sizeOf0
  v0 := Tryz.zeroValue0
  t3 := Tryz.underlying3
  a3 := Tryz.isAgg3
  z3 := Tryz.sizeOf3
  v3 := Tryz.zeroValue3
  t4 := Tryz.underlying4
  a4 := Tryz.isAgg4
  z4 := Tryz.sizeOf4
  v4 := Tryz.zeroValue4
  t9 := Tryz.underlying9
  a9 := Tryz.isAgg9
  z9 := Tryz.sizeOf9
  v9 := Tryz.zeroValue9
  t20 := Tryz.underlying20
  a20 := Tryz.isAgg20
  z20 := Tryz.sizeOf20
  v20 := Tryz.zeroValue20
  t22 := Tryz.underlying44
  a22 := Tryz.isAgg44
  z22 := Tryz.sizeOf44
  v22 := Tryz.zeroValue44 }
def Tryz.growSL_ren : Go.Shelf.Ren := ⟨fun | 4 => 59 | n => n, fun | 22 => 22 | 25 => 44 | 3 => 3 | 4 => 4 | 9 => 9 | 20 => 20 | 0 => 0 | n => n, fun | n => n⟩
theorem Tryz.growSL : Go.Proofs.Lays8.n4 Tryz.prog Tryz.growSL_ren := {
  mixed := by kernel_rfl
  f4 := ⟨Tryz.f59.name, by decide, Tryz.func59.trans (congrArg some (by kernel_rfl))⟩
  t0 := Tryz.underlying0
  a0 := Tryz.isAgg0
  z0 := Tryz.sizeOf0
  v0 := Tryz.zeroValue0
  t3 := Tryz.underlying3
  a3 := Tryz.isAgg3
  z3 := Tryz.sizeOf3
  v3 := Tryz.zeroValue3
  t4 := Tryz.underlying4
  a4 := Tryz.isAgg4
  z4 := Tryz.sizeOf4
  v4 := Tryz.zeroValue4
  t9 := Tryz.underlying9
  a9 := Tryz.isAgg9
  z9 := Tryz.sizeOf9
  v9 := Tryz.zeroValue9
  t20 := Tryz.underlying20
  a20 := Tryz.isAgg20
  z20 := Tryz.sizeOf20
  v20 := Tryz.zeroValue20
  t22 := Tryz.underlying22
  a22 := Tryz.isAgg22
  z22 := Tryz.sizeOf22
  v22 := Tryz.zeroValue22 }
def Tryz.sortL_ren : Go.Shelf.Ren := ⟨fun | 6 => 52 | 15 => 74 | 14 => 73 | 28 => 94 | 29 => 95 | 20 => 86 | 21 => 87 | 22 => 88 | 23 => 89 | 24 => 90 | 25 => 91 | 26 => 92 | 27 => 93 | 46 => 103 | 47 => 104 | 48 => 105 | 49 => 106 | 50 => 107 | 57 => 119 | n => n, fun | 22 => 22 | 24 => 44 | 25 => 56 | 3 => 3 | 39 => 106 | 0 => 0 | 53 => 124 | 55 => 126 | 4 => 4 | 46 => 117 | 45 => 116 | 50 => 121 | 5 => 5 | 9 => 9 | 66 => 131 | 70 => 135 | 76 => 143 | 77 => 144 | n => n, fun | n => n⟩
theorem Tryz.sortL : Go.Proofs.SlLaysF.n6 Tryz.prog Tryz.sortL_ren := {
  mixed := by kernel_rfl
  f6 := ⟨Tryz.f52.name, by decide, Tryz.func52.trans (congrArg some (by kernel_rfl))⟩
  f14 := ⟨Tryz.f73.name, by decide, Tryz.func73.trans (congrArg some (by kernel_rfl))⟩
  f15 := Tryz.func74.trans (congrArg some (by kernel_rfl))
  f20 := ⟨Tryz.f86.name, by decide, Tryz.func86.trans (congrArg some (by kernel_rfl))⟩
  f21 := ⟨Tryz.f87.name, by decide, Tryz.func87.trans (congrArg some (by kernel_rfl))⟩
  f22 := ⟨Tryz.f88.name, by decide, Tryz.func88.trans (congrArg some (by kernel_rfl))⟩
  f23 := ⟨Tryz.f89.name, by decide, Tryz.func89.trans (congrArg some (by kernel_rfl))⟩
  f24 := ⟨Tryz.f90.name, by decide, Tryz.func90.trans (congrArg some (by kernel_rfl))⟩
  f25 := ⟨Tryz.f91.name, by decide, Tryz.func91.trans (congrArg some (by kernel_rfl))⟩
  f26 := ⟨Tryz.f92.name, by decide, Tryz.func92.trans (congrArg some (by kernel_rfl))⟩
  f27 := ⟨Tryz.f93.name, by decide, Tryz.func93.trans (congrArg some (by kernel_rfl))⟩
  f28 := Tryz.func94.trans (congrArg some (by kernel_rfl))
  f29 := Tryz.func95.trans (congrArg some (by kernel_rfl))
  f46 := ⟨Tryz.f103.name, by decide, Tryz.func103.trans (congrArg some (by kernel_rfl))⟩
  f47 := Tryz.func104.trans (congrArg some (by kernel_rfl))
  f48 := Tryz.func105.trans (congrArg some (by kernel_rfl))
  f49 := ⟨Tryz.f106.name, by decide, Tryz.func106.trans (congrArg some (by kernel_rfl))⟩
  f50 := ⟨Tryz.f107.name, by decide, Tryz.func107.trans (congrArg some (by kernel_rfl))⟩
  f57 := ⟨Tryz.f119.name, by decide, Tryz.func119.trans (congrArg some (by kernel_rfl))⟩
  t0 := Tryz.underlying0
  a0 := Tryz.isAgg0
  z0 := Tryz.sizeOf0
  v0 := Tryz.zeroValue0
  t3 := Tryz.underlying3
  a3 := Tryz.isAgg3
  z3 := Tryz.sizeOf3
  v3 := Tryz.zeroValue3
  t4 := Tryz.underlying4
  a4 := Tryz.isAgg4
  z4 := Tryz.sizeOf4
  v4 := Tryz.zeroValue4
  t5 := Tryz.underlying5
  a5 := Tryz.isAgg5
  z5 := Tryz.sizeOf5
  v5 := Tryz.zeroValue5
  t9 := Tryz.underlying9
  a9 := Tryz.isAgg9
  z9 := Tryz.sizeOf9
  v9 := Tryz.zeroValue9
  t22 := Tryz.underlying22
  a22 := Tryz.isAgg22
  z22 := Tryz.sizeOf22
  v22 := Tryz.zeroValue22
  a24 := Tryz.isAgg44
  z24 := Tryz.sizeOf44
  t25 := Tryz.underlying56
  a25 := Tryz.isAgg56
  z25 := Tryz.sizeOf56
  v25 := Tryz.zeroValue56
  t39 := Tryz.underlying106
  a39 := Tryz.isAgg106
  z39 := Tryz.sizeOf106
  v39 := Tryz.zeroValue106
  t45 := Tryz.underlying116
  a45 := Tryz.isAgg116
  z45 := Tryz.sizeOf116
  v45 := Tryz.zeroValue116
  t46 := Tryz.underlying117
  a46 := Tryz.isAgg117
  z46 := Tryz.sizeOf117
  v46 := Tryz.zeroValue117
  t50 := Tryz.underlying121
  a50 := Tryz.isAgg121
  z50 := Tryz.sizeOf121
  v50 := Tryz.zeroValue121
  t53 := Tryz.underlying124
  a53 := Tryz.isAgg124
  z53 := Tryz.sizeOf124
  v53 := Tryz.zeroValue124
  t55 := Tryz.underlying126
  a55 := Tryz.isAgg126
  z55 := Tryz.sizeOf126
  v55 := Tryz.zeroValue126
  t66 := Tryz.underlying131
  a66 := Tryz.isAgg131
  z66 := Tryz.sizeOf131
  v66 := Tryz.zeroValue131
  t70 := Tryz.underlying135
  a70 := Tryz.isAgg135
  z70 := Tryz.sizeOf135
  v70 := Tryz.zeroValue135
  t76 := Tryz.underlying143
  a76 := Tryz.isAgg143
  z76 := Tryz.sizeOf143
  v76 := Tryz.zeroValue143
  t77 := Tryz.underlying144
  a77 := Tryz.isAgg144
  z77 := Tryz.sizeOf144
  v77 := Tryz.zeroValue144 }
def Tryz.sortIL_ren : Go.Shelf.Ren := ⟨fun | 189 => 77 | 125 => 74 | 257 => 97 | 128 => 94 | 129 => 95 | 294 => 108 | 295 => 109 | 296 => 110 | 297 => 111 | 298 => 112 | 299 => 113 | 216 => 114 | 300 => 115 | 301 => 116 | 328 => 120 | 329 => 104 | 330 => 105 | 331 => 121 | 332 => 122 | 215 => 75 | 343 => 124 | n => n, fun | 28 => 44 | 3 => 3 | 46 => 106 | 0 => 0 | 51 => 124 | 53 => 126 | 4 => 4 | 183 => 117 | 182 => 116 | 131 => 121 | 5 => 5 | 9 => 9 | 218 => 131 | 222 => 135 | 228 => 143 | 229 => 144 | n => n, fun | n => n⟩
theorem Tryz.sortIL : Go.Proofs.Lays.n189 Tryz.prog Tryz.sortIL_ren := {
  mixed := by kernel_rfl
  f125 := Tryz.func74.trans (congrArg some (by kernel_rfl))
  f128 := Tryz.func94.trans (congrArg some (by kernel_rfl))
  f129 := Tryz.func95.trans (congrArg some (by kernel_rfl))
  f189 := Tryz.func77.trans (congrArg some (by kernel_rfl))
  f215 := Tryz.func75.trans (congrArg some (by kernel_rfl))
  f216 := Tryz.func114.trans (congrArg some (by kernel_rfl))
  f257 := Tryz.func97.trans (congrArg some (by kernel_rfl))
  f294 := Tryz.func108.trans (congrArg some (by kernel_rfl))
  f295 := Tryz.func109.trans (congrArg some (by kernel_rfl))
  f296 := Tryz.func110.trans (congrArg some (by kernel_rfl))
  f297 := Tryz.func111.trans (congrArg some (by kernel_rfl))
  f298 := Tryz.func112.trans (congrArg some (by kernel_rfl))
  f299 := Tryz.func113.trans (congrArg some (by kernel_rfl))
  f300 := Tryz.func115.trans (congrArg some (by kernel_rfl))
  f301 := Tryz.func116.trans (congrArg some (by kernel_rfl))
  f328 := Tryz.func120.trans (congrArg some (by kernel_rfl))
  f329 := Tryz.func104.trans (congrArg some (by kernel_rfl))
  f330 := Tryz.func105.trans (congrArg some (by kernel_rfl))
  f331 := Tryz.func121.trans (congrArg some (by kernel_rfl))
  f332 := Tryz.func122.trans (congrArg some (by kernel_rfl))
  f343 := Tryz.func124.trans (congrArg some (by kernel_rfl))
  t0 := Tryz.underlying0
  a0 := Tryz.isAgg0
  z0 := Tryz.sizeOf0
  v0 := Tryz.zeroValue0
  t3 := Tryz.underlying3
  a3 := Tryz.isAgg3
  z3 := Tryz.sizeOf3
  v3 := Tryz.zeroValue3
  t4 := Tryz.underlying4
  a4 := Tryz.isAgg4
  z4 := Tryz.sizeOf4
  v4 := Tryz.zeroValue4
  t5 := Tryz.underlying5
  a5 := Tryz.isAgg5
  z5 := Tryz.sizeOf5
  v5 := Tryz.zeroValue5
  t9 := Tryz.underlying9
  a9 := Tryz.isAgg9
  z9 := Tryz.sizeOf9
  v9 := Tryz.zeroValue9
  t28 := Tryz.underlying44
  a28 := Tryz.isAgg44
  z28 := Tryz.sizeOf44
  v28 := Tryz.zeroValue44
  t46 := Tryz.underlying106
  a46 := Tryz.isAgg106
  z46 := Tryz.sizeOf106
  v46 := Tryz.zeroValue106
  t51 := Tryz.underlying124
  a51 := Tryz.isAgg124
  z51 := Tryz.sizeOf124
  v51 := Tryz.zeroValue124
  t53 := Tryz.underlying126
  a53 := Tryz.isAgg126
  z53 := Tryz.sizeOf126
  v53 := Tryz.zeroValue126
  t131 := Tryz.underlying121
  a131 := Tryz.isAgg121
  z131 := Tryz.sizeOf121
  v131 := Tryz.zeroValue121
  t182 := Tryz.underlying116
  a182 := Tryz.isAgg116
  z182 := Tryz.sizeOf116
  v182 := Tryz.zeroValue116
  t183 := Tryz.underlying117
  a183 := Tryz.isAgg117
  z183 := Tryz.sizeOf117
  v183 := Tryz.zeroValue117
  t218 := Tryz.underlying131
  a218 := Tryz.isAgg131
  z218 := Tryz.sizeOf131
  v218 := Tryz.zeroValue131
  t222 := Tryz.underlying135
  a222 := Tryz.isAgg135
  z222 := Tryz.sizeOf135
  v222 := Tryz.zeroValue135
  t228 := Tryz.underlying143
  a228 := Tryz.isAgg143
  z228 := Tryz.sizeOf143
  v228 := Tryz.zeroValue143
  t229 := Tryz.underlying144
  a229 := Tryz.isAgg144
  z229 := Tryz.sizeOf144
  v229 := Tryz.zeroValue144 }
end Go.Proofs
namespace Ab
open Go Go.Proofs
theorem ok3 : okFn Tryz.prog 3 zs3u (sls 3) = true := by kernel_rfl
theorem ok4 : okFn Tryz.prog 4 zK7S (sls 4) = true := by kernel_rfl
theorem ok5 : okFn Tryz.prog 5 z77f (sls 5) = true := by kernel_rfl
theorem ok6 : okFn Tryz.prog 6 zEnd (sls 6) = true := by kernel_rfl
theorem ok7 : okFn Tryz.prog 7 zzhG (sls 7) = true := by kernel_rfl
theorem ok8 : okFn Tryz.prog 8 zmFI (sls 8) = true := by kernel_rfl
theorem ok9 : okFn Tryz.prog 9 zGqQ (sls 9) = true := by kernel_rfl
theorem ok10 : okFn Tryz.prog 10 z2Lw (sls 10) = true := by kernel_rfl
theorem ok11 : okFn Tryz.prog 11 zJWy (sls 11) = true := by kernel_rfl
theorem ok12 : okFn Tryz.prog 12 zSzJ (sls 12) = true := by kernel_rfl
theorem ok13 : okFn Tryz.prog 13 z0Uh (sls 13) = true := by kernel_rfl
theorem ok14 : okFn Tryz.prog 14 z72L (sls 14) = true := by kernel_rfl
theorem ok15 : okFn Tryz.prog 15 z3yZ (sls 15) = true := by kernel_rfl
theorem ok16 : okFn Tryz.prog 16 zP2L (sls 16) = true := by kernel_rfl
theorem ok17 : okFn Tryz.prog 17 zTSK (sls 17) = true := by kernel_rfl
theorem ok18 : okFn Tryz.prog 18 zmZK (sls 18) = true := by kernel_rfl
theorem ok19 : okFn Tryz.prog 19 zhlY (sls 19) = true := by kernel_rfl
theorem ok20 : okFn Tryz.prog 20 zOIT (sls 20) = true := by kernel_rfl
theorem ok21 : okFn Tryz.prog 21 zOnu (sls 21) = true := by kernel_rfl
theorem ok22 : okFn Tryz.prog 22 zIGF (sls 22) = true := by kernel_rfl
theorem ok23 : okFn Tryz.prog 23 zOlb (sls 23) = true := by kernel_rfl
theorem ok24 : okFn Tryz.prog 24 zVGF (sls 24) = true := by kernel_rfl
theorem ok25 : okFn Tryz.prog 25 zhZc (sls 25) = true := by kernel_rfl
theorem ok26 : okFn Tryz.prog 26 zec5 (sls 26) = true := by kernel_rfl
theorem ok27 : okFn Tryz.prog 27 zr8U (sls 27) = true := by kernel_rfl
theorem ok28 : okFn Tryz.prog 28 zmJw (sls 28) = true := by kernel_rfl
theorem ok29 : okFn Tryz.prog 29 zVOH (sls 29) = true := by kernel_rfl
theorem ok30 : okFn Tryz.prog 30 zOgc (sls 30) = true := by kernel_rfl
theorem ok31 : okFn Tryz.prog 31 zdDU (sls 31) = true := by kernel_rfl
theorem ok32 : okFn Tryz.prog 32 zqU2 (sls 32) = true := by kernel_rfl
theorem ok33 : okFn Tryz.prog 33 z9Zr (sls 33) = true := by kernel_rfl
theorem ok34 : okFn Tryz.prog 34 z6dL (sls 34) = true := by kernel_rfl
theorem ok35 : okFn Tryz.prog 35 z5us (sls 35) = true := by kernel_rfl
theorem ok36 : okFn Tryz.prog 36 znw9 (sls 36) = true := by kernel_rfl
theorem ok37 : okFn Tryz.prog 37 zeGk (sls 37) = true := by kernel_rfl
theorem ok38 : okFn Tryz.prog 38 z12j (sls 38) = true := by kernel_rfl
theorem ok39 : okFn Tryz.prog 39 z3MD (sls 39) = true := by kernel_rfl
theorem ok40 : okFn Tryz.prog 40 zP6F (sls 40) = true := by kernel_rfl
theorem ok41 : okFn Tryz.prog 41 zry3 (sls 41) = true := by kernel_rfl
theorem ok42 : okFn Tryz.prog 42 zdNW (sls 42) = true := by kernel_rfl
theorem ok43 : okFn Tryz.prog 43 zL9H (sls 43) = true := by kernel_rfl
theorem ok44 : okFn Tryz.prog 44 zW9Q (sls 44) = true := by kernel_rfl
theorem ok45 : okFn Tryz.prog 45 zR9Y (sls 45) = true := by kernel_rfl
theorem ok46 : okFn Tryz.prog 46 z8PT (sls 46) = true := by kernel_rfl
theorem ok47 : okFn Tryz.prog 47 zwnq (sls 47) = true := by kernel_rfl
theorem ok48 : okFn Tryz.prog 48 zwWD (sls 48) = true := by kernel_rfl
theorem ok49 : okFn Tryz.prog 49 zVqq (sls 49) = true := by kernel_rfl
theorem ok50 : okFn Tryz.prog 50 zqiS (sls 50) = true := by kernel_rfl
theorem ok51 : okFn Tryz.prog 51 zNcg (sls 51) = true := by kernel_rfl
theorem ok53 : okFn Tryz.prog 53 z9et (sls 53) = true := by kernel_rfl
theorem ok54 : okFn Tryz.prog 54 zGVN (sls 54) = true := by kernel_rfl
theorem ok55 : okFn Tryz.prog 55 zhOv (sls 55) = true := by kernel_rfl
theorem ok56 : okFn Tryz.prog 56 zcfm (sls 56) = true := by kernel_rfl
theorem ok57 : okFn Tryz.prog 57 zT7H (sls 57) = true := by kernel_rfl
theorem ok58 : okFn Tryz.prog 58 zKR3 (sls 58) = true := by kernel_rfl
theorem ok60 : okFn Tryz.prog 60 zmdt (sls 60) = true := by kernel_rfl
theorem ok61 : okFn Tryz.prog 61 z7X7 (sls 61) = true := by kernel_rfl
theorem ok62 : okFn Tryz.prog 62 zb4p (sls 62) = true := by kernel_rfl
theorem ok63 : okFn Tryz.prog 63 zR6C (sls 63) = true := by kernel_rfl
theorem ok64 : okFn Tryz.prog 64 z6OA (sls 64) = true := by kernel_rfl
theorem ok65 : okFn Tryz.prog 65 z5ha (sls 65) = true := by kernel_rfl
theorem ok66 : okFn Tryz.prog 66 ztnr (sls 66) = true := by kernel_rfl
theorem ok67 : okFn Tryz.prog 67 zAhe (sls 67) = true := by kernel_rfl
theorem ok68 : okFn Tryz.prog 68 zeRp (sls 68) = true := by kernel_rfl
theorem ok69 : okFn Tryz.prog 69 zdcT (sls 69) = true := by kernel_rfl
theorem ok70 : okFn Tryz.prog 70 zGc0 (sls 70) = true := by kernel_rfl
theorem ok71 : okFn Tryz.prog 71 zNJn (sls 71) = true := by kernel_rfl
theorem ok72 : okFn Tryz.prog 72 zR3L (sls 72) = true := by kernel_rfl
theorem ok75 : okFn Tryz.prog 75 z0c3 (sls 75) = true := by kernel_rfl
theorem ok76 : okFn Tryz.prog 76 zz0J (sls 76) = true := by kernel_rfl
theorem ok78 : okFn Tryz.prog 78 zBYm (sls 78) = true := by kernel_rfl
theorem ok79 : okFn Tryz.prog 79 zdAB (sls 79) = true := by kernel_rfl
theorem ok80 : okFn Tryz.prog 80 zIHf (sls 80) = true := by kernel_rfl
theorem ok81 : okFn Tryz.prog 81 zkXA (sls 81) = true := by kernel_rfl
theorem ok82 : okFn Tryz.prog 82 zQPy (sls 82) = true := by kernel_rfl
theorem ok83 : okFn Tryz.prog 83 zeGn (sls 83) = true := by kernel_rfl
theorem ok84 : okFn Tryz.prog 84 z4A4 (sls 84) = true := by kernel_rfl
theorem ok85 : okFn Tryz.prog 85 zuGu (sls 85) = true := by kernel_rfl
theorem ok98 : okFn Tryz.prog 98 zhmb (sls 98) = true := by kernel_rfl
theorem ok99 : okFn Tryz.prog 99 zvhx (sls 99) = true := by kernel_rfl
theorem ok100 : okFn Tryz.prog 100 zY1V (sls 100) = true := by kernel_rfl
theorem ok101 : okFn Tryz.prog 101 zGS2 (sls 101) = true := by kernel_rfl
theorem ok102 : okFn Tryz.prog 102 z7sm (sls 102) = true := by kernel_rfl
theorem ok117 : okFn Tryz.prog 117 zHcf (sls 117) = true := by kernel_rfl
theorem ok118 : okFn Tryz.prog 118 zhzJ (sls 118) = true := by kernel_rfl
theorem ok123 : okFn Tryz.prog 123 z193 (sls 123) = true := by kernel_rfl
theorem okG : ∀ f fn, G f = some fn → ∃ sl, okFn Tryz.prog f fn sl = true := by
  intro f fn h
  unfold G at h
  split at h
  · cases h; exact ⟨_, ok3⟩
  · cases h; exact ⟨_, ok4⟩
  · cases h; exact ⟨_, ok5⟩
  · cases h; exact ⟨_, ok6⟩
  · cases h; exact ⟨_, ok7⟩
  · cases h; exact ⟨_, ok8⟩
  · cases h; exact ⟨_, ok9⟩
  · cases h; exact ⟨_, ok10⟩
  · cases h; exact ⟨_, ok11⟩
  · cases h; exact ⟨_, ok12⟩
  · cases h; exact ⟨_, ok13⟩
  · cases h; exact ⟨_, ok14⟩
  · cases h; exact ⟨_, ok15⟩
  · cases h; exact ⟨_, ok16⟩
  · cases h; exact ⟨_, ok17⟩
  · cases h; exact ⟨_, ok18⟩
  · cases h; exact ⟨_, ok19⟩
  · cases h; exact ⟨_, ok20⟩
  · cases h; exact ⟨_, ok21⟩
  · cases h; exact ⟨_, ok22⟩
  · cases h; exact ⟨_, ok23⟩
  · cases h; exact ⟨_, ok24⟩
  · cases h; exact ⟨_, ok25⟩
  · cases h; exact ⟨_, ok26⟩
  · cases h; exact ⟨_, ok27⟩
  · cases h; exact ⟨_, ok28⟩
  · cases h; exact ⟨_, ok29⟩
  · cases h; exact ⟨_, ok30⟩
  · cases h; exact ⟨_, ok31⟩
  · cases h; exact ⟨_, ok32⟩
  · cases h; exact ⟨_, ok33⟩
  · cases h; exact ⟨_, ok34⟩
  · cases h; exact ⟨_, ok35⟩
  · cases h; exact ⟨_, ok36⟩
  · cases h; exact ⟨_, ok37⟩
  · cases h; exact ⟨_, ok38⟩
  · cases h; exact ⟨_, ok39⟩
  · cases h; exact ⟨_, ok40⟩
  · cases h; exact ⟨_, ok41⟩
  · cases h; exact ⟨_, ok42⟩
  · cases h; exact ⟨_, ok43⟩
  · cases h; exact ⟨_, ok44⟩
  · cases h; exact ⟨_, ok45⟩
  · cases h; exact ⟨_, ok46⟩
  · cases h; exact ⟨_, ok47⟩
  · cases h; exact ⟨_, ok48⟩
  · cases h; exact ⟨_, ok49⟩
  · cases h; exact ⟨_, ok50⟩
  · cases h; exact ⟨_, ok51⟩
  · cases h; exact ⟨_, ok53⟩
  · cases h; exact ⟨_, ok54⟩
  · cases h; exact ⟨_, ok55⟩
  · cases h; exact ⟨_, ok56⟩
  · cases h; exact ⟨_, ok57⟩
  · cases h; exact ⟨_, ok58⟩
  · cases h; exact ⟨_, ok60⟩
  · cases h; exact ⟨_, ok61⟩
  · cases h; exact ⟨_, ok62⟩
  · cases h; exact ⟨_, ok63⟩
  · cases h; exact ⟨_, ok64⟩
  · cases h; exact ⟨_, ok65⟩
  · cases h; exact ⟨_, ok66⟩
  · cases h; exact ⟨_, ok67⟩
  · cases h; exact ⟨_, ok68⟩
  · cases h; exact ⟨_, ok69⟩
  · cases h; exact ⟨_, ok70⟩
  · cases h; exact ⟨_, ok71⟩
  · cases h; exact ⟨_, ok72⟩
  · cases h; exact ⟨_, ok75⟩
  · cases h; exact ⟨_, ok76⟩
  · cases h; exact ⟨_, ok78⟩
  · cases h; exact ⟨_, ok79⟩
  · cases h; exact ⟨_, ok80⟩
  · cases h; exact ⟨_, ok81⟩
  · cases h; exact ⟨_, ok82⟩
  · cases h; exact ⟨_, ok83⟩
  · cases h; exact ⟨_, ok84⟩
  · cases h; exact ⟨_, ok85⟩
  · cases h; exact ⟨_, ok98⟩
  · cases h; exact ⟨_, ok99⟩
  · cases h; exact ⟨_, ok100⟩
  · cases h; exact ⟨_, ok101⟩
  · cases h; exact ⟨_, ok102⟩
  · cases h; exact ⟨_, ok117⟩
  · cases h; exact ⟨_, ok118⟩
  · cases h; exact ⟨_, ok123⟩
  · cases h
theorem mixed : Tryz.prog.follows .mixedOrders = true := by kernel_rfl
theorem prim51 : PrimOk Tryz.prog 51 pCloneS := zx1G (t := 4) (sl := sls 51) mixed ok51
theorem prim52 : PrimOk Tryz.prog 52 pSort := zL70 (ρ := Tryz.sortL_ren) Tryz.sortL rfl (by kernel_rfl)
theorem prim55 : PrimOk Tryz.prog 55 (vPrim pClone1) := zFCs (t := 4) (sl := sls 55) mixed ok55
theorem prim59 : PrimOk Tryz.prog 59 pGrowS := z2qO (ρ := Tryz.growSL_ren) Tryz.growSL rfl (by kernel_rfl) (by kernel_rfl)
theorem prim77 : PrimOk Tryz.prog 77 pSortI := zNxb (ρ := Tryz.sortIL_ren) Tryz.sortIL rfl (by kernel_rfl)
theorem prim96 : PrimOk Tryz.prog 96 pGrow := zDD3 (ρ := Tryz.growL_ren) Tryz.growL rfl (by kernel_rfl) (by kernel_rfl)
theorem okQ : ∀ f p, Q f = some p → PrimOk Tryz.prog f p := by
  intro f p h
  unfold Q at h
  split at h
  · cases h; exact prim51
  · cases h; exact prim52
  · cases h; exact prim55
  · cases h; exact prim59
  · cases h; exact prim77
  · cases h; exact prim96
  · cases h
theorem L_ok : CallOk Tryz.prog L := by
  intro f args σ r σ' h
  obtain ⟨N, hN⟩ := zlB0 h
  exact (zk5y mixed okG okQ N).1 f args σ r σ' hN
end Ab
