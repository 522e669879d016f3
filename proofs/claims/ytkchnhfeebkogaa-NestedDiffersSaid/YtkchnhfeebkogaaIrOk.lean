/- Each small text is the program's function. Condition: none. -/
import Derived.Test.YtkchnhfeebkogaaProg
import Derived.KernelRfl
import Derived.Test.YtkchnhfeebkogaaAbCloneS
import Derived.Test.YtkchnhfeebkogaaIr
set_option linter.all false
namespace Ab
open Go Go.Proofs
theorem ok3 : okFn Try.prog 3 zTys (sls 3) = true := by kernel_rfl
theorem ok4 : okFn Try.prog 4 zY0Q (sls 4) = true := by kernel_rfl
theorem ok5 : okFn Try.prog 5 zL9V (sls 5) = true := by kernel_rfl
theorem ok6 : okFn Try.prog 6 zyy1 (sls 6) = true := by kernel_rfl
theorem ok7 : okFn Try.prog 7 zYVP (sls 7) = true := by kernel_rfl
theorem ok8 : okFn Try.prog 8 zVsD (sls 8) = true := by kernel_rfl
theorem ok9 : okFn Try.prog 9 zlRj (sls 9) = true := by kernel_rfl
theorem ok10 : okFn Try.prog 10 zxLy (sls 10) = true := by kernel_rfl
theorem ok11 : okFn Try.prog 11 zImi (sls 11) = true := by kernel_rfl
theorem ok12 : okFn Try.prog 12 zzBs (sls 12) = true := by kernel_rfl
theorem ok13 : okFn Try.prog 13 zQ56 (sls 13) = true := by kernel_rfl
theorem ok14 : okFn Try.prog 14 z1LK (sls 14) = true := by kernel_rfl
theorem ok15 : okFn Try.prog 15 zSZ1 (sls 15) = true := by kernel_rfl
theorem ok16 : okFn Try.prog 16 zf1k (sls 16) = true := by kernel_rfl
theorem ok17 : okFn Try.prog 17 zeGn (sls 17) = true := by kernel_rfl
theorem ok18 : okFn Try.prog 18 zpuZ (sls 18) = true := by kernel_rfl
theorem ok19 : okFn Try.prog 19 zrMM (sls 19) = true := by kernel_rfl
theorem ok20 : okFn Try.prog 20 zIsK (sls 20) = true := by kernel_rfl
theorem ok21 : okFn Try.prog 21 zjdN (sls 21) = true := by kernel_rfl
theorem ok22 : okFn Try.prog 22 zldz (sls 22) = true := by kernel_rfl
theorem ok23 : okFn Try.prog 23 zDNi (sls 23) = true := by kernel_rfl
theorem ok24 : okFn Try.prog 24 zl16 (sls 24) = true := by kernel_rfl
theorem ok25 : okFn Try.prog 25 ziNB (sls 25) = true := by kernel_rfl
theorem ok26 : okFn Try.prog 26 zZeW (sls 26) = true := by kernel_rfl
theorem ok27 : okFn Try.prog 27 zxFr (sls 27) = true := by kernel_rfl
theorem ok28 : okFn Try.prog 28 zEK5 (sls 28) = true := by kernel_rfl
theorem ok29 : okFn Try.prog 29 zWkD (sls 29) = true := by kernel_rfl
theorem ok30 : okFn Try.prog 30 zvhx (sls 30) = true := by kernel_rfl
theorem ok31 : okFn Try.prog 31 zGkm (sls 31) = true := by kernel_rfl
theorem ok32 : okFn Try.prog 32 zruB (sls 32) = true := by kernel_rfl
theorem ok33 : okFn Try.prog 33 zOgc (sls 33) = true := by kernel_rfl
theorem ok34 : okFn Try.prog 34 zWmP (sls 34) = true := by kernel_rfl
theorem ok35 : okFn Try.prog 35 zlvA (sls 35) = true := by kernel_rfl
theorem ok36 : okFn Try.prog 36 z0C4 (sls 36) = true := by kernel_rfl
theorem ok37 : okFn Try.prog 37 zrm0 (sls 37) = true := by kernel_rfl
theorem ok38 : okFn Try.prog 38 z8Ri (sls 38) = true := by kernel_rfl
theorem ok39 : okFn Try.prog 39 zSeE (sls 39) = true := by kernel_rfl
theorem ok40 : okFn Try.prog 40 zFZL (sls 40) = true := by kernel_rfl
theorem ok41 : okFn Try.prog 41 zGS2 (sls 41) = true := by kernel_rfl
theorem ok42 : okFn Try.prog 42 zgy1 (sls 42) = true := by kernel_rfl
theorem ok43 : okFn Try.prog 43 zl93 (sls 43) = true := by kernel_rfl
theorem ok44 : okFn Try.prog 44 zY0C (sls 44) = true := by kernel_rfl
theorem ok45 : okFn Try.prog 45 zWc7 (sls 45) = true := by kernel_rfl
theorem ok46 : okFn Try.prog 46 zMAU (sls 46) = true := by kernel_rfl
theorem ok47 : okFn Try.prog 47 zT6q (sls 47) = true := by kernel_rfl
theorem ok48 : okFn Try.prog 48 zqU2 (sls 48) = true := by kernel_rfl
theorem ok49 : okFn Try.prog 49 zhOv (sls 49) = true := by kernel_rfl
theorem ok50 : okFn Try.prog 50 zvW7 (sls 50) = true := by kernel_rfl
theorem ok51 : okFn Try.prog 51 z4sU (sls 51) = true := by kernel_rfl
theorem ok52 : okFn Try.prog 52 zk1D (sls 52) = true := by kernel_rfl
theorem ok53 : okFn Try.prog 53 zsZ9 (sls 53) = true := by kernel_rfl
theorem ok54 : okFn Try.prog 54 z8XZ (sls 54) = true := by kernel_rfl
theorem ok55 : okFn Try.prog 55 zIYP (sls 55) = true := by kernel_rfl
theorem ok56 : okFn Try.prog 56 zuEc (sls 56) = true := by kernel_rfl
theorem ok57 : okFn Try.prog 57 zhzJ (sls 57) = true := by kernel_rfl
theorem ok58 : okFn Try.prog 58 zwWD (sls 58) = true := by kernel_rfl
theorem ok59 : okFn Try.prog 59 zVqq (sls 59) = true := by kernel_rfl
theorem ok60 : okFn Try.prog 60 zqiS (sls 60) = true := by kernel_rfl
theorem ok61 : okFn Try.prog 61 z4A4 (sls 61) = true := by kernel_rfl
theorem ok62 : okFn Try.prog 62 zmvx (sls 62) = true := by kernel_rfl
theorem ok63 : okFn Try.prog 63 z2Ec (sls 63) = true := by kernel_rfl
theorem ok64 : okFn Try.prog 64 zkh5 (sls 64) = true := by kernel_rfl
theorem ok65 : okFn Try.prog 65 zkbR (sls 65) = true := by kernel_rfl
theorem ok66 : okFn Try.prog 66 zG2w (sls 66) = true := by kernel_rfl
theorem ok67 : okFn Try.prog 67 zwxN (sls 67) = true := by kernel_rfl
theorem ok68 : okFn Try.prog 68 zcfm (sls 68) = true := by kernel_rfl
theorem ok69 : okFn Try.prog 69 zT7H (sls 69) = true := by kernel_rfl
theorem ok70 : okFn Try.prog 70 zKR3 (sls 70) = true := by kernel_rfl
theorem ok71 : okFn Try.prog 71 z4kj (sls 71) = true := by kernel_rfl
theorem ok72 : okFn Try.prog 72 zSqi (sls 72) = true := by kernel_rfl
theorem ok73 : okFn Try.prog 73 zGc0 (sls 73) = true := by kernel_rfl
theorem ok74 : okFn Try.prog 74 zSCi (sls 74) = true := by kernel_rfl
theorem ok75 : okFn Try.prog 75 zR3L (sls 75) = true := by kernel_rfl
theorem ok76 : okFn Try.prog 76 z0c3 (sls 76) = true := by kernel_rfl
theorem ok92 : okFn Try.prog 92 z5No (sls 92) = true := by kernel_rfl
theorem ok93 : okFn Try.prog 93 z6Fs (sls 93) = true := by kernel_rfl
theorem ok94 : okFn Try.prog 94 zRtP (sls 94) = true := by kernel_rfl
theorem okG : ∀ f fn, G f = some fn → ∃ sl, okFn Try.prog f fn sl = true := by
  intro f fn h
  unfold G at h
  split at h
  · cases h; exact ⟨_, ok3⟩
  · cases h; exact ⟨_, ok4⟩
  · cases h; exact ⟨_, ok5⟩
  · cases h; exact ⟨_, ok6⟩
  · cases h; exact ⟨_, ok7⟩
  · cases h; exact ⟨_, ok8⟩
  · cases h; exact ⟨_, ok9⟩
  · cases h; exact ⟨_, ok10⟩
  · cases h; exact ⟨_, ok11⟩
  · cases h; exact ⟨_, ok12⟩
  · cases h; exact ⟨_, ok13⟩
  · cases h; exact ⟨_, ok14⟩
  · cases h; exact ⟨_, ok15⟩
  · cases h; exact ⟨_, ok16⟩
  · cases h; exact ⟨_, ok17⟩
  · cases h; exact ⟨_, ok18⟩
  · cases h; exact ⟨_, ok19⟩
  · cases h; exact ⟨_, ok20⟩
  · cases h; exact ⟨_, ok21⟩
  · cases h; exact ⟨_, ok22⟩
  · cases h; exact ⟨_, ok23⟩
  · cases h; exact ⟨_, ok24⟩
  · cases h; exact ⟨_, ok25⟩
  · cases h; exact ⟨_, ok26⟩
  · cases h; exact ⟨_, ok27⟩
  · cases h; exact ⟨_, ok28⟩
  · cases h; exact ⟨_, ok29⟩
  · cases h; exact ⟨_, ok30⟩
  · cases h; exact ⟨_, ok31⟩
  · cases h; exact ⟨_, ok32⟩
  · cases h; exact ⟨_, ok33⟩
  · cases h; exact ⟨_, ok34⟩
  · cases h; exact ⟨_, ok35⟩
  · cases h; exact ⟨_, ok36⟩
  · cases h; exact ⟨_, ok37⟩
  · cases h; exact ⟨_, ok38⟩
  · cases h; exact ⟨_, ok39⟩
  · cases h; exact ⟨_, ok40⟩
  · cases h; exact ⟨_, ok41⟩
  · cases h; exact ⟨_, ok42⟩
  · cases h; exact ⟨_, ok43⟩
  · cases h; exact ⟨_, ok44⟩
  · cases h; exact ⟨_, ok45⟩
  · cases h; exact ⟨_, ok46⟩
  · cases h; exact ⟨_, ok47⟩
  · cases h; exact ⟨_, ok48⟩
  · cases h; exact ⟨_, ok49⟩
  · cases h; exact ⟨_, ok50⟩
  · cases h; exact ⟨_, ok51⟩
  · cases h; exact ⟨_, ok52⟩
  · cases h; exact ⟨_, ok53⟩
  · cases h; exact ⟨_, ok54⟩
  · cases h; exact ⟨_, ok55⟩
  · cases h; exact ⟨_, ok56⟩
  · cases h; exact ⟨_, ok57⟩
  · cases h; exact ⟨_, ok58⟩
  · cases h; exact ⟨_, ok59⟩
  · cases h; exact ⟨_, ok60⟩
  · cases h; exact ⟨_, ok61⟩
  · cases h; exact ⟨_, ok62⟩
  · cases h; exact ⟨_, ok63⟩
  · cases h; exact ⟨_, ok64⟩
  · cases h; exact ⟨_, ok65⟩
  · cases h; exact ⟨_, ok66⟩
  · cases h; exact ⟨_, ok67⟩
  · cases h; exact ⟨_, ok68⟩
  · cases h; exact ⟨_, ok69⟩
  · cases h; exact ⟨_, ok70⟩
  · cases h; exact ⟨_, ok71⟩
  · cases h; exact ⟨_, ok72⟩
  · cases h; exact ⟨_, ok73⟩
  · cases h; exact ⟨_, ok74⟩
  · cases h; exact ⟨_, ok75⟩
  · cases h; exact ⟨_, ok76⟩
  · cases h; exact ⟨_, ok92⟩
  · cases h; exact ⟨_, ok93⟩
  · cases h; exact ⟨_, ok94⟩
  · cases h
theorem mixed : Try.prog.follows .mixedOrders = true := by kernel_rfl
theorem prim49 : PrimOk Try.prog 49 (vPrim pClone1) := zFCs (t := 4) (sl := sls 49) mixed ok49
theorem okQ : ∀ f p, Q f = some p → PrimOk Try.prog f p := by
  intro f p h
  unfold Q at h
  split at h
  · cases h; exact prim49
  · cases h
theorem L_ok : CallOk Try.prog L := by
  intro f args σ r σ' h
  obtain ⟨N, hN⟩ := zlB0 h
  exact (zk5y mixed okG okQ N).1 f args σ r σ' hN
end Ab
