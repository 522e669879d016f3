/- Each small text is the program's function. Condition: none. -/
import Derived.Test.YtlgfempnnijfnaaAbSort
import Derived.Test.YtlgfempnnijfnaaAbSortI
import Derived.Test.YtlgfempnnijfnaaAbGrow
import Derived.Test.YtlgfempnnijfnaaProg
import Derived.KernelRfl
import Derived.Test.YtlgfempnnijfnaaAbCloneS
import Derived.Test.YtlgfempnnijfnaaIr
set_option linter.all false
namespace Go.Proofs
open Go.Shelf
def Try.growL_ren : Go.Shelf.Ren := ⟨fun | 4 => 87 | n => n, fun | 22 => 27 | 25 => 3 | 3 => 3 | 4 => 4 | 9 => 9 | 20 => 20 | 0 => 0 | n => n, fun | n => n⟩
theorem Try.growL : Go.Proofs.Lays8.n4 Try.prog Try.growL_ren := {
  mixed := by kernel_rfl
  f4 := ⟨Try.f87.name, by decide, Try.func87.trans (congrArg some (by kernel_rfl))⟩
  t0 := Try.underlying0
  a0 := Try.isAgg0
  z0 := Try.sizeOf0
  v0 := Try.zeroValue0
  t3 := Try.underlying3
  a3 := Try.isAgg3
  z3 := Try.sizeOf3
  v3 := Try.zeroValue3
  t4 := Try.underlying4
  a4 := Try.isAgg4
  z4 := Try.sizeOf4
  v4 := Try.zeroValue4
  t9 := Try.underlying9
  a9 := Try.isAgg9
  z9 := Try.sizeOf9
  v9 := Try.zeroValue9
  t20 := Try.underlying20
  a20 := Try.isAgg20
  z20 := Try.sizeOf20
  v20 := Try.zeroValue20
  t22 := Try.underlying27
  a22 := Try.isAgg27
  z22 := Try.sizeOf27
  v22 := Try.zeroValue27 }
def Try.sortL_ren : Go.Shelf.Ren := ⟨fun | 6 => 74 | 15 => 85 | 14 => 86 | 28 => 100 | 29 => 101 | 20 => 102 | 21 => 103 | 22 => 104 | 23 => 105 | 24 => 106 | 25 => 107 | 26 => 108 | 27 => 109 | 46 => 117 | 47 => 113 | 48 => 114 | 49 => 118 | 50 => 119 | 57 => 122 | n => n, fun | 22 => 22 | 24 => 27 | 25 => 49 | 3 => 3 | 39 => 124 | 0 => 0 | 53 => 139 | 55 => 141 | 4 => 4 | 46 => 131 | 45 => 130 | 50 => 136 | 5 => 5 | 9 => 9 | 66 => 148 | 70 => 152 | 76 => 157 | 77 => 116 | n => n, fun | n => n⟩
theorem Try.sortL : Go.Proofs.SlLaysF.n6 Try.prog Try.sortL_ren := {
  mixed := by kernel_rfl
  f6 := ⟨Try.f74.name, by decide, Try.func74.trans (congrArg some (by kernel_rfl))⟩
  f14 := ⟨Try.f86.name, by decide, Try.func86.trans (congrArg some (by kernel_rfl))⟩
  f15 := Try.func85.trans (congrArg some (by kernel_rfl))
  f20 := ⟨Try.f102.name, by decide, Try.func102.trans (congrArg some (by kernel_rfl))⟩
  f21 := ⟨Try.f103.name, by decide, Try.func103.trans (congrArg some (by kernel_rfl))⟩
  f22 := ⟨Try.f104.name, by decide, Try.func104.trans (congrArg some (by kernel_rfl))⟩
  f23 := ⟨Try.f105.name, by decide, Try.func105.trans (congrArg some (by kernel_rfl))⟩
  f24 := ⟨Try.f106.name, by decide, Try.func106.trans (congrArg some (by kernel_rfl))⟩
  f25 := ⟨Try.f107.name, by decide, Try.func107.trans (congrArg some (by kernel_rfl))⟩
  f26 := ⟨Try.f108.name, by decide, Try.func108.trans (congrArg some (by kernel_rfl))⟩
  f27 := ⟨Try.f109.name, by decide, Try.func109.trans (congrArg some (by kernel_rfl))⟩
  f28 := Try.func100.trans (congrArg some (by kernel_rfl))
  f29 := Try.func101.trans (congrArg some (by kernel_rfl))
  f46 := ⟨Try.f117.name, by decide, Try.func117.trans (congrArg some (by kernel_rfl))⟩
  f47 := Try.func113.trans (congrArg some (by kernel_rfl))
  f48 := Try.func114.trans (congrArg some (by kernel_rfl))
  f49 := ⟨Try.f118.name, by decide, Try.func118.trans (congrArg some (by kernel_rfl))⟩
  f50 := ⟨Try.f119.name, by decide, Try.func119.trans (congrArg some (by kernel_rfl))⟩
  f57 := ⟨Try.f122.name, by decide, Try.func122.trans (congrArg some (by kernel_rfl))⟩
  t0 := Try.underlying0
  a0 := Try.isAgg0
  z0 := Try.sizeOf0
  v0 := Try.zeroValue0
  t3 := Try.underlying3
  a3 := Try.isAgg3
  z3 := Try.sizeOf3
  v3 := Try.zeroValue3
  t4 := Try.underlying4
  a4 := Try.isAgg4
  z4 := Try.sizeOf4
  v4 := Try.zeroValue4
  t5 := Try.underlying5
  a5 := Try.isAgg5
  z5 := Try.sizeOf5
  v5 := Try.zeroValue5
  t9 := Try.underlying9
  a9 := Try.isAgg9
  z9 := Try.sizeOf9
  v9 := Try.zeroValue9
  t22 := Try.underlying22
  a22 := Try.isAgg22
  z22 := Try.sizeOf22
  v22 := Try.zeroValue22
  a24 := Try.isAgg27
  z24 := Try.sizeOf27
  t25 := Try.underlying49
  a25 := Try.isAgg49
  z25 := Try.sizeOf49
  v25 := Try.zeroValue49
  t39 := Try.underlying124
  a39 := Try.isAgg124
  z39 := Try.sizeOf124
  v39 := Try.zeroValue124
  t45 := Try.underlying130
  a45 := Try.isAgg130
  z45 := Try.sizeOf130
  v45 := Try.zeroValue130
  t46 := Try.underlying131
  a46 := Try.isAgg131
  z46 := Try.sizeOf131
  v46 := Try.zeroValue131
  t50 := Try.underlying136
  a50 := Try.isAgg136
  z50 := Try.sizeOf136
  v50 := Try.zeroValue136
  t53 := Try.underlying139
  a53 := Try.isAgg139
  z53 := Try.sizeOf139
  v53 := Try.zeroValue139
  t55 := Try.underlying141
  a55 := Try.isAgg141
  z55 := Try.sizeOf141
  v55 := Try.zeroValue141
  t66 := Try.underlying148
  a66 := Try.isAgg148
  z66 := Try.sizeOf148
  v66 := Try.zeroValue148
  t70 := Try.underlying152
  a70 := Try.isAgg152
  z70 := Try.sizeOf152
  v70 := Try.zeroValue152
  t76 := Try.underlying157
  a76 := Try.isAgg157
  z76 := Try.sizeOf157
  v76 := Try.zeroValue157
  t77 := Try.underlying116
  a77 := Try.isAgg116
  z77 := Try.sizeOf116
  v77 := Try.zeroValue116 }
def Try.sortIL_ren : Go.Shelf.Ren := ⟨fun | 189 => 70 | 125 => 85 | 257 => 84 | 128 => 100 | 129 => 101 | 294 => 91 | 295 => 92 | 296 => 93 | 297 => 94 | 298 => 95 | 299 => 96 | 216 => 97 | 300 => 98 | 301 => 99 | 328 => 112 | 329 => 113 | 330 => 114 | 331 => 115 | 332 => 116 | 215 => 66 | 343 => 121 | n => n, fun | 28 => 27 | 3 => 3 | 46 => 124 | 0 => 0 | 51 => 139 | 53 => 141 | 4 => 4 | 183 => 131 | 182 => 130 | 131 => 136 | 5 => 5 | 9 => 9 | 218 => 148 | 222 => 152 | 228 => 157 | 229 => 116 | n => n, fun | n => n⟩
theorem Try.sortIL : Go.Proofs.Lays.n189 Try.prog Try.sortIL_ren := {
  mixed := by kernel_rfl
  f125 := Try.func85.trans (congrArg some (by kernel_rfl))
  f128 := Try.func100.trans (congrArg some (by kernel_rfl))
  f129 := Try.func101.trans (congrArg some (by kernel_rfl))
  f189 := Try.func70.trans (congrArg some (by kernel_rfl))
  f215 := Try.func66.trans (congrArg some (by kernel_rfl))
  f216 := Try.func97.trans (congrArg some (by kernel_rfl))
  f257 := Try.func84.trans (congrArg some (by kernel_rfl))
  f294 := Try.func91.trans (congrArg some (by kernel_rfl))
  f295 := Try.func92.trans (congrArg some (by kernel_rfl))
  f296 := Try.func93.trans (congrArg some (by kernel_rfl))
  f297 := Try.func94.trans (congrArg some (by kernel_rfl))
  f298 := Try.func95.trans (congrArg some (by kernel_rfl))
  f299 := Try.func96.trans (congrArg some (by kernel_rfl))
  f300 := Try.func98.trans (congrArg some (by kernel_rfl))
  f301 := Try.func99.trans (congrArg some (by kernel_rfl))
  f328 := Try.func112.trans (congrArg some (by kernel_rfl))
  f329 := Try.func113.trans (congrArg some (by kernel_rfl))
  f330 := Try.func114.trans (congrArg some (by kernel_rfl))
  f331 := Try.func115.trans (congrArg some (by kernel_rfl))
  f332 := Try.func116.trans (congrArg some (by kernel_rfl))
  f343 := Try.func121.trans (congrArg some (by kernel_rfl))
  t0 := Try.underlying0
  a0 := Try.isAgg0
  z0 := Try.sizeOf0
  v0 := Try.zeroValue0
  t3 := Try.underlying3
  a3 := Try.isAgg3
  z3 := Try.sizeOf3
  v3 := Try.zeroValue3
  t4 := Try.underlying4
  a4 := Try.isAgg4
  z4 := Try.sizeOf4
  v4 := Try.zeroValue4
  t5 := Try.underlying5
  a5 := Try.isAgg5
  z5 := Try.sizeOf5
  v5 := Try.zeroValue5
  t9 := Try.underlying9
  a9 := Try.isAgg9
  z9 := Try.sizeOf9
  v9 := Try.zeroValue9
  t28 := Try.underlying27
  a28 := Try.isAgg27
  z28 := Try.sizeOf27
  v28 := Try.zeroValue27
  t46 := Try.underlying124
  a46 := Try.isAgg124
  z46 := Try.sizeOf124
  v46 := Try.zeroValue124
  t51 := Try.underlying139
  a51 := Try.isAgg139
  z51 := Try.sizeOf139
  v51 := Try.zeroValue139
  t53 := Try.underlying141
  a53 := Try.isAgg141
  z53 := Try.sizeOf141
  v53 := Try.zeroValue141
  t131 := Try.underlying136
  a131 := Try.isAgg136
  z131 := Try.sizeOf136
  v131 := Try.zeroValue136
  t182 := Try.underlying130
  a182 := Try.isAgg130
  z182 := Try.sizeOf130
  v182 := Try.zeroValue130
  t183 := Try.underlying131
  a183 := Try.isAgg131
  z183 := Try.sizeOf131
  v183 := Try.zeroValue131
  t218 := Try.underlying148
  a218 := Try.isAgg148
  z218 := Try.sizeOf148
  v218 := Try.zeroValue148
  t222 := Try.underlying152
  a222 := Try.isAgg152
  z222 := Try.sizeOf152
  v222 := Try.zeroValue152
  t228 := Try.underlying157
  a228 := Try.isAgg157
  z228 := Try.sizeOf157
  v228 := Try.zeroValue157
  t229 := Try.underlying116
  a229 := Try.isAgg116
  z229 := Try.sizeOf116
  v229 := Try.zeroValue116 }
end Go.Proofs
namespace Ab
open Go Go.Proofs
theorem ok3 : okFn Try.prog 3 zPK4 (sls 3) = true := by kernel_rfl
theorem ok4 : okFn Try.prog 4 zZCP (sls 4) = true := by kernel_rfl
theorem ok5 : okFn Try.prog 5 zqPD (sls 5) = true := by kernel_rfl
theorem ok6 : okFn Try.prog 6 zNcG (sls 6) = true := by kernel_rfl
theorem ok7 : okFn Try.prog 7 z77f (sls 7) = true := by kernel_rfl
theorem ok8 : okFn Try.prog 8 zEnd (sls 8) = true := by kernel_rfl
theorem ok9 : okFn Try.prog 9 z72L (sls 9) = true := by kernel_rfl
theorem ok10 : okFn Try.prog 10 z48K (sls 10) = true := by kernel_rfl
theorem ok11 : okFn Try.prog 11 zOIT (sls 11) = true := by kernel_rfl
theorem ok12 : okFn Try.prog 12 zF6s (sls 12) = true := by kernel_rfl
theorem ok13 : okFn Try.prog 13 zOnu (sls 13) = true := by kernel_rfl
theorem ok14 : okFn Try.prog 14 zr8U (sls 14) = true := by kernel_rfl
theorem ok15 : okFn Try.prog 15 zGqQ (sls 15) = true := by kernel_rfl
theorem ok16 : okFn Try.prog 16 zTSK (sls 16) = true := by kernel_rfl
theorem ok17 : okFn Try.prog 17 zmZK (sls 17) = true := by kernel_rfl
theorem ok18 : okFn Try.prog 18 z0Uh (sls 18) = true := by kernel_rfl
theorem ok19 : okFn Try.prog 19 zOgc (sls 19) = true := by kernel_rfl
theorem ok20 : okFn Try.prog 20 z0uO (sls 20) = true := by kernel_rfl
theorem ok21 : okFn Try.prog 21 zqU2 (sls 21) = true := by kernel_rfl
theorem ok22 : okFn Try.prog 22 zhlY (sls 22) = true := by kernel_rfl
theorem ok23 : okFn Try.prog 23 zzhG (sls 23) = true := by kernel_rfl
theorem ok24 : okFn Try.prog 24 zJWy (sls 24) = true := by kernel_rfl
theorem ok25 : okFn Try.prog 25 zSzJ (sls 25) = true := by kernel_rfl
theorem ok26 : okFn Try.prog 26 zVOH (sls 26) = true := by kernel_rfl
theorem ok27 : okFn Try.prog 27 zOlb (sls 27) = true := by kernel_rfl
theorem ok28 : okFn Try.prog 28 zvhx (sls 28) = true := by kernel_rfl
theorem ok29 : okFn Try.prog 29 zVGF (sls 29) = true := by kernel_rfl
theorem ok30 : okFn Try.prog 30 zIGF (sls 30) = true := by kernel_rfl
theorem ok31 : okFn Try.prog 31 z12j (sls 31) = true := by kernel_rfl
theorem ok32 : okFn Try.prog 32 zVZn (sls 32) = true := by kernel_rfl
theorem ok33 : okFn Try.prog 33 zwyE (sls 33) = true := by kernel_rfl
theorem ok34 : okFn Try.prog 34 zgi2 (sls 34) = true := by kernel_rfl
theorem ok35 : okFn Try.prog 35 z8PT (sls 35) = true := by kernel_rfl
theorem ok36 : okFn Try.prog 36 z3yZ (sls 36) = true := by kernel_rfl
theorem ok37 : okFn Try.prog 37 z6dL (sls 37) = true := by kernel_rfl
theorem ok38 : okFn Try.prog 38 z5us (sls 38) = true := by kernel_rfl
theorem ok39 : okFn Try.prog 39 znw9 (sls 39) = true := by kernel_rfl
theorem ok40 : okFn Try.prog 40 zeGk (sls 40) = true := by kernel_rfl
theorem ok41 : okFn Try.prog 41 zmJw (sls 41) = true := by kernel_rfl
theorem ok42 : okFn Try.prog 42 zwWD (sls 42) = true := by kernel_rfl
theorem ok43 : okFn Try.prog 43 zVqq (sls 43) = true := by kernel_rfl
theorem ok44 : okFn Try.prog 44 zqiS (sls 44) = true := by kernel_rfl
theorem ok45 : okFn Try.prog 45 z5Ub (sls 45) = true := by kernel_rfl
theorem ok46 : okFn Try.prog 46 zcfm (sls 46) = true := by kernel_rfl
theorem ok47 : okFn Try.prog 47 zT7H (sls 47) = true := by kernel_rfl
theorem ok48 : okFn Try.prog 48 zKR3 (sls 48) = true := by kernel_rfl
theorem ok49 : okFn Try.prog 49 zP6F (sls 49) = true := by kernel_rfl
theorem ok50 : okFn Try.prog 50 zry3 (sls 50) = true := by kernel_rfl
theorem ok51 : okFn Try.prog 51 zdNW (sls 51) = true := by kernel_rfl
theorem ok52 : okFn Try.prog 52 zhzJ (sls 52) = true := by kernel_rfl
theorem ok53 : okFn Try.prog 53 zL9H (sls 53) = true := by kernel_rfl
theorem ok54 : okFn Try.prog 54 z3MD (sls 54) = true := by kernel_rfl
theorem ok55 : okFn Try.prog 55 zb4p (sls 55) = true := by kernel_rfl
theorem ok56 : okFn Try.prog 56 zR6C (sls 56) = true := by kernel_rfl
theorem ok57 : okFn Try.prog 57 z6OA (sls 57) = true := by kernel_rfl
theorem ok58 : okFn Try.prog 58 zeRp (sls 58) = true := by kernel_rfl
theorem ok59 : okFn Try.prog 59 zdDU (sls 59) = true := by kernel_rfl
theorem ok60 : okFn Try.prog 60 zmdt (sls 60) = true := by kernel_rfl
theorem ok61 : okFn Try.prog 61 z7X7 (sls 61) = true := by kernel_rfl
theorem ok62 : okFn Try.prog 62 zwnq (sls 62) = true := by kernel_rfl
theorem ok63 : okFn Try.prog 63 zR3L (sls 63) = true := by kernel_rfl
theorem ok64 : okFn Try.prog 64 zUa5 (sls 64) = true := by kernel_rfl
theorem ok65 : okFn Try.prog 65 zKI7 (sls 65) = true := by kernel_rfl
theorem ok66 : okFn Try.prog 66 z0c3 (sls 66) = true := by kernel_rfl
theorem ok67 : okFn Try.prog 67 zAhe (sls 67) = true := by kernel_rfl
theorem ok68 : okFn Try.prog 68 z5ha (sls 68) = true := by kernel_rfl
theorem ok69 : okFn Try.prog 69 ztnr (sls 69) = true := by kernel_rfl
theorem ok71 : okFn Try.prog 71 zBYm (sls 71) = true := by kernel_rfl
theorem ok72 : okFn Try.prog 72 zdAB (sls 72) = true := by kernel_rfl
theorem ok73 : okFn Try.prog 73 zNcg (sls 73) = true := by kernel_rfl
theorem ok75 : okFn Try.prog 75 z9et (sls 75) = true := by kernel_rfl
theorem ok76 : okFn Try.prog 76 zGVN (sls 76) = true := by kernel_rfl
theorem ok77 : okFn Try.prog 77 zhOv (sls 77) = true := by kernel_rfl
theorem ok78 : okFn Try.prog 78 zz0J (sls 78) = true := by kernel_rfl
theorem ok79 : okFn Try.prog 79 zNJn (sls 79) = true := by kernel_rfl
theorem ok80 : okFn Try.prog 80 zfzG (sls 80) = true := by kernel_rfl
theorem ok81 : okFn Try.prog 81 zQPy (sls 81) = true := by kernel_rfl
theorem ok82 : okFn Try.prog 82 zIHf (sls 82) = true := by kernel_rfl
theorem ok83 : okFn Try.prog 83 zkXA (sls 83) = true := by kernel_rfl
theorem ok88 : okFn Try.prog 88 zuGu (sls 88) = true := by kernel_rfl
theorem ok89 : okFn Try.prog 89 zY1V (sls 89) = true := by kernel_rfl
theorem ok90 : okFn Try.prog 90 zhmb (sls 90) = true := by kernel_rfl
theorem ok110 : okFn Try.prog 110 z7sm (sls 110) = true := by kernel_rfl
theorem ok111 : okFn Try.prog 111 zHcf (sls 111) = true := by kernel_rfl
theorem ok120 : okFn Try.prog 120 z193 (sls 120) = true := by kernel_rfl
theorem okG : ∀ f fn, G f = some fn → ∃ sl, okFn Try.prog f fn sl = true := by
  intro f fn h
  unfold G at h
  split at h
  · cases h; exact ⟨_, ok3⟩
  · cases h; exact ⟨_, ok4⟩
  · cases h; exact ⟨_, ok5⟩
  · cases h; exact ⟨_, ok6⟩
  · cases h; exact ⟨_, ok7⟩
  · cases h; exact ⟨_, ok8⟩
  · cases h; exact ⟨_, ok9⟩
  · cases h; exact ⟨_, ok10⟩
  · cases h; exact ⟨_, ok11⟩
  · cases h; exact ⟨_, ok12⟩
  · cases h; exact ⟨_, ok13⟩
  · cases h; exact ⟨_, ok14⟩
  · cases h; exact ⟨_, ok15⟩
  · cases h; exact ⟨_, ok16⟩
  · cases h; exact ⟨_, ok17⟩
  · cases h; exact ⟨_, ok18⟩
  · cases h; exact ⟨_, ok19⟩
  · cases h; exact ⟨_, ok20⟩
  · cases h; exact ⟨_, ok21⟩
  · cases h; exact ⟨_, ok22⟩
  · cases h; exact ⟨_, ok23⟩
  · cases h; exact ⟨_, ok24⟩
  · cases h; exact ⟨_, ok25⟩
  · cases h; exact ⟨_, ok26⟩
  · cases h; exact ⟨_, ok27⟩
  · cases h; exact ⟨_, ok28⟩
  · cases h; exact ⟨_, ok29⟩
  · cases h; exact ⟨_, ok30⟩
  · cases h; exact ⟨_, ok31⟩
  · cases h; exact ⟨_, ok32⟩
  · cases h; exact ⟨_, ok33⟩
  · cases h; exact ⟨_, ok34⟩
  · cases h; exact ⟨_, ok35⟩
  · cases h; exact ⟨_, ok36⟩
  · cases h; exact ⟨_, ok37⟩
  · cases h; exact ⟨_, ok38⟩
  · cases h; exact ⟨_, ok39⟩
  · cases h; exact ⟨_, ok40⟩
  · cases h; exact ⟨_, ok41⟩
  · cases h; exact ⟨_, ok42⟩
  · cases h; exact ⟨_, ok43⟩
  · cases h; exact ⟨_, ok44⟩
  · cases h; exact ⟨_, ok45⟩
  · cases h; exact ⟨_, ok46⟩
  · cases h; exact ⟨_, ok47⟩
  · cases h; exact ⟨_, ok48⟩
  · cases h; exact ⟨_, ok49⟩
  · cases h; exact ⟨_, ok50⟩
  · cases h; exact ⟨_, ok51⟩
  · cases h; exact ⟨_, ok52⟩
  · cases h; exact ⟨_, ok53⟩
  · cases h; exact ⟨_, ok54⟩
  · cases h; exact ⟨_, ok55⟩
  · cases h; exact ⟨_, ok56⟩
  · cases h; exact ⟨_, ok57⟩
  · cases h; exact ⟨_, ok58⟩
  · cases h; exact ⟨_, ok59⟩
  · cases h; exact ⟨_, ok60⟩
  · cases h; exact ⟨_, ok61⟩
  · cases h; exact ⟨_, ok62⟩
  · cases h; exact ⟨_, ok63⟩
  · cases h; exact ⟨_, ok64⟩
  · cases h; exact ⟨_, ok65⟩
  · cases h; exact ⟨_, ok66⟩
  · cases h; exact ⟨_, ok67⟩
  · cases h; exact ⟨_, ok68⟩
  · cases h; exact ⟨_, ok69⟩
  · cases h; exact ⟨_, ok71⟩
  · cases h; exact ⟨_, ok72⟩
  · cases h; exact ⟨_, ok73⟩
  · cases h; exact ⟨_, ok75⟩
  · cases h; exact ⟨_, ok76⟩
  · cases h; exact ⟨_, ok77⟩
  · cases h; exact ⟨_, ok78⟩
  · cases h; exact ⟨_, ok79⟩
  · cases h; exact ⟨_, ok80⟩
  · cases h; exact ⟨_, ok81⟩
  · cases h; exact ⟨_, ok82⟩
  · cases h; exact ⟨_, ok83⟩
  · cases h; exact ⟨_, ok88⟩
  · cases h; exact ⟨_, ok89⟩
  · cases h; exact ⟨_, ok90⟩
  · cases h; exact ⟨_, ok110⟩
  · cases h; exact ⟨_, ok111⟩
  · cases h; exact ⟨_, ok120⟩
  · cases h
theorem mixed : Try.prog.follows .mixedOrders = true := by kernel_rfl
theorem prim70 : PrimOk Try.prog 70 pSortI := zNxb (ρ := Try.sortIL_ren) Try.sortIL rfl (by kernel_rfl)
theorem prim73 : PrimOk Try.prog 73 pCloneS := zx1G (t := 4) (sl := sls 73) mixed ok73
theorem prim74 : PrimOk Try.prog 74 pSort := zL70 (ρ := Try.sortL_ren) Try.sortL rfl (by kernel_rfl)
theorem prim77 : PrimOk Try.prog 77 (vPrim pClone1) := zFCs (t := 4) (sl := sls 77) mixed ok77
theorem prim87 : PrimOk Try.prog 87 pGrow := zDD3 (ρ := Try.growL_ren) Try.growL rfl (by kernel_rfl) (by kernel_rfl)
theorem okQ : ∀ f p, Q f = some p → PrimOk Try.prog f p := by
  intro f p h
  unfold Q at h
  split at h
  · cases h; exact prim70
  · cases h; exact prim73
  · cases h; exact prim74
  · cases h; exact prim77
  · cases h; exact prim87
  · cases h
theorem L_ok : CallOk Try.prog L := by
  intro f args σ r σ' h
  obtain ⟨N, hN⟩ := zlB0 h
  exact (zk5y mixed okG okQ N).1 f args σ r σ' hN
end Ab
