/- The functions of the program as small texts, printed by a tool of mine: what is run. Condition: none. -/
import Derived.Test.YtlgfempnnijfnaaGreatIr1
set_option linter.all false
namespace Ab
def G : Nat → Option Fn := fun f => match f with
  | 3 => some zs3u
  | 4 => some zK7S
  | 5 => some z77f
  | 6 => some zEnd
  | 7 => some zzhG
  | 8 => some zmFI
  | 9 => some zGqQ
  | 10 => some z2Lw
  | 11 => some zJWy
  | 12 => some zSzJ
  | 13 => some z0Uh
  | 14 => some z72L
  | 15 => some z3yZ
  | 16 => some zP2L
  | 17 => some zTSK
  | 18 => some zmZK
  | 19 => some zhlY
  | 20 => some zOIT
  | 21 => some zOnu
  | 22 => some zIGF
  | 23 => some zOlb
  | 24 => some zVGF
  | 25 => some zhZc
  | 26 => some zec5
  | 27 => some zr8U
  | 28 => some zmJw
  | 29 => some zVOH
  | 30 => some zOgc
  | 31 => some zdDU
  | 32 => some zqU2
  | 33 => some z9Zr
  | 34 => some z6dL
  | 35 => some z5us
  | 36 => some znw9
  | 37 => some zeGk
  | 38 => some z12j
  | 39 => some z3MD
  | 40 => some zP6F
  | 41 => some zry3
  | 42 => some zdNW
  | 43 => some zL9H
  | 44 => some zW9Q
  | 45 => some zR9Y
  | 46 => some z8PT
  | 47 => some zwnq
  | 48 => some zwWD
  | 49 => some zVqq
  | 50 => some zqiS
  | 51 => some zNcg
  | 53 => some z9et
  | 54 => some zGVN
  | 55 => some zhOv
  | 56 => some zcfm
  | 57 => some zT7H
  | 58 => some zKR3
  | 60 => some zmdt
  | 61 => some z7X7
  | 62 => some zb4p
  | 63 => some zR6C
  | 64 => some z6OA
  | 65 => some z5ha
  | 66 => some ztnr
  | 67 => some zAhe
  | 68 => some zeRp
  | 69 => some zdcT
  | 70 => some zGc0
  | 71 => some zNJn
  | 72 => some zR3L
  | 75 => some z0c3
  | 76 => some zz0J
  | 78 => some zBYm
  | 79 => some zdAB
  | 80 => some zIHf
  | 81 => some zkXA
  | 82 => some zQPy
  | 83 => some zeGn
  | 84 => some z4A4
  | 85 => some zuGu
  | 98 => some zhmb
  | 99 => some zvhx
  | 100 => some zY1V
  | 101 => some zGS2
  | 102 => some z7sm
  | 117 => some zHcf
  | 118 => some zhzJ
  | 123 => some z193
  | _ => none
def sls : Nat → List Nat := fun f => match f with
  | 3 => [0, 1, 3, 5, 4, 6, 7, 9, 8, 10, 2]
  | 4 => [0, 1, 3, 4, 6, 8, 7, 5, 9, 93, 92, 10, 97, 96, 11, 14, 13, 12, 2]
  | 5 => [0, 1, 2]
  | 6 => [1, 2, 3, 5, 8, 11, 14, 16, 18, 4, 7, 6, 10, 9, 13, 15, 17, 0]
  | 7 => [0, 1, 4, 19, 18, 6, 7, 5, 10, 8, 2, 3]
  | 8 => [0, 1, 4, 6, 7, 5, 8, 2, 3]
  | 9 => [0, 1, 4, 26, 25, 6, 7, 10, 5, 8, 75, 74, 73, 11, 13, 2, 3]
  | 10 => [0, 1, 4, 6, 8, 7, 9, 5, 2, 3]
  | 11 => [0, 1, 5, 6, 4]
  | 12 => [0, 1, 13, 12, 5, 4]
  | 13 => [0, 1, 3, 2]
  | 14 => [0, 1, 2, 6, 19, 18, 17, 8, 9, 34, 33, 10, 11, 4, 5]
  | 15 => [0, 2]
  | 16 => [0, 2]
  | 17 => [0, 1, 2, 3, 9, 10, 11, 6, 7, 8]
  | 18 => [0, 1, 3, 4]
  | 19 => [0, 1, 23, 22, 3, 37, 36, 4, 2]
  | 20 => [0, 1, 2, 3, 9, 39, 38, 11, 10, 6, 7, 8]
  | 21 => [0, 1, 5, 4]
  | 22 => [0, 1, 3, 2]
  | 23 => [0, 1, 2, 3, 4, 6, 7, 8]
  | 24 => [0, 1, 2, 3, 9, 4, 8]
  | 25 => [0, 1, 2, 3, 9, 10, 11, 6, 7, 8]
  | 26 => [0, 4, 3, 2]
  | 27 => [0, 1, 3, 4, 2]
  | 28 => [0, 1, 4, 3, 2]
  | 29 => [0, 1, 3, 43, 42, 4, 68, 67, 5, 6, 7, 2]
  | 30 => [0, 1, 3, 4]
  | 31 => [0, 1, 5, 3, 18, 17, 16, 6, 7, 4]
  | 32 => [0, 1, 4]
  | 33 => [0, 11, 10, 9, 3, 5, 27, 26, 25, 6, 8, 2]
  | 34 => [0, 1, 2, 3, 8, 21, 20, 9, 4, 5, 11, 10, 56, 55, 12, 13, 14, 6, 7]
  | 35 => [0, 1, 4]
  | 36 => [0, 1, 3]
  | 37 => [0, 1, 13, 12, 5, 4]
  | 38 => [0, 1, 2, 4, 11, 10, 3, 36, 35, 12, 13, 9, 6, 7, 8]
  | 39 => [0, 1, 4, 3, 2]
  | 40 => [0, 1, 9, 8, 7, 6, 4]
  | 41 => [0, 1, 2, 3, 5]
  | 42 => [0, 1, 2, 15, 14, 13, 7, 3, 9, 6]
  | 43 => [0, 1, 2, 3, 4, 8]
  | 44 => [0, 1, 2, 3, 11, 10, 12, 4, 5, 13, 17, 16, 14, 15, 8, 9]
  | 45 => [0, 1, 5, 6, 4]
  | 46 => [0, 1, 2, 5, 4]
  | 47 => [0, 1, 5, 2, 8, 7, 4, 10, 6, 13, 14, 11, 12, 9, 3]
  | 48 => [0, 2]
  | 49 => [0, 1, 4]
  | 50 => [0, 1, 3]
  | 51 => [0, 2]
  | 53 => [0, 1, 5, 7, 6, 4]
  | 54 => [0, 1, 2, 5]
  | 55 => [0, 2]
  | 56 => [0, 8, 7, 6, 5, 3, 2]
  | 57 => [0, 1, 5, 6, 4]
  | 58 => [0, 1, 11, 10, 9, 5, 6, 7, 8, 4]
  | 60 => [0, 2]
  | 61 => [0, 1, 8, 7, 5, 4]
  | 62 => [0, 1, 13, 12, 11, 3, 5, 2]
  | 63 => [0, 1, 2, 4, 3, 29, 28, 27, 9, 7, 6]
  | 64 => [0, 1, 4]
  | 65 => [0, 1, 3, 5, 4, 37, 36, 35, 7, 2]
  | 66 => [0, 1, 5, 2, 4, 6, 36, 35, 34, 9, 7, 8, 52, 51, 50, 10, 12, 3]
  | 67 => [0, 1, 2, 3, 7, 6]
  | 68 => [0, 1, 5, 4]
  | 69 => [0, 1, 5, 6, 7, 4]
  | 70 => [0, 1, 4]
  | 71 => [0, 1, 2, 3]
  | 72 => [0, 1, 8, 7, 5, 4]
  | 75 => [0, 2]
  | 76 => [0, 11, 10, 9, 3, 5, 27, 26, 25, 6, 8, 2]
  | 78 => [0, 3, 5, 4, 2]
  | 79 => [0, 1, 8, 7, 5, 4]
  | 80 => [0, 1, 4, 2, 5, 29, 28, 27, 6, 8, 7, 44, 43, 42, 11, 57, 56, 55, 12, 13, 14, 9, 3]
  | 81 => [0, 1, 2, 3]
  | 82 => [0, 1, 2, 3, 9, 10, 11, 12, 6, 7, 8]
  | 83 => [0, 1, 4]
  | 84 => [0, 1, 5, 4]
  | 85 => [0, 1, 2, 6, 8, 7, 4, 5]
  | 98 => [0, 1, 2, 6, 7, 4, 5]
  | 99 => [0, 1, 5, 4]
  | 100 => [0, 1, 2, 9, 8, 3, 6, 7]
  | 101 => [0, 1, 5, 4, 20]
  | 102 => [0, 1, 7, 9, 11, 2, 10, 5, 8, 6, 4]
  | 117 => [0, 1, 2, 21, 20, 6, 10, 7, 8, 9, 4, 5]
  | 118 => [0, 2]
  | 123 => [0, 1, 19, 18, 2, 24, 23, 10, 8, 9, 6, 12, 11, 7, 4, 5]
  | _ => []
def Q : Prims := fun f => match f with
  | 51 => some pCloneS
  | 52 => some pSort
  | 55 => some (vPrim pClone1)
  | 59 => some pGrowS
  | 77 => some pSortI
  | 96 => some pGrow
  | _ => none
theorem z1GZ : PrimsMono Q := by
  intro f p h
  unfold Q at h
  split at h
  · cases h; exact zygH
  · cases h; exact zesw
  · cases h; exact fun _ _ _ _ _ _ h => h
  · cases h; exact zr1Z
  · cases h; exact ztmm
  · cases h; exact zGIi
  · cases h
noncomputable def L : CE := lim G Q
theorem lim_L {f m k : Nat} (fn : Fn) {b : IC} {args : List AV} {σ : List Blk} {K : AV → List Blk → Prop} (hq : Q f = none) (hg : G f = some fn) (hb : fn.body = b) (hm : fn.np = m) (hk : fn.nv - fn.np = k) (hl : args.length = m) (h : WK L b (args ++ List.replicate k .und) none σ (EndsK fn K)) : LX L f args σ K := by subst hb; subst hm; subst hk; exact zc3F z1GZ fn hq hg hl h
theorem zDcd {args : List AV} {σ : List Blk} {K : AV → List Blk → Prop} (hl : args.length = 1) (h : WK L zs3u.body (args ++ List.replicate 10 .und) none σ (EndsK zs3u K)) : LX L zg9T args σ K := lim_L (f := zg9T) (m := 1) (k := 10) zs3u rfl rfl rfl rfl rfl hl h
theorem znCp {args : List AV} {σ : List Blk} {K : AV → List Blk → Prop} (hl : args.length = 1) (h : WK L zK7S.body (args ++ List.replicate 18 .und) none σ (EndsK zK7S K)) : LX L zP59 args σ K := lim_L (f := zP59) (m := 1) (k := 18) zK7S rfl rfl rfl rfl rfl hl h
theorem z2MR {args : List AV} {σ : List Blk} {K : AV → List Blk → Prop} (hl : args.length = 1) (h : WK L z77f.body (args ++ List.replicate 2 .und) none σ (EndsK z77f K)) : LX L zjm7 args σ K := lim_L (f := zjm7) (m := 1) (k := 2) z77f rfl rfl rfl rfl rfl hl h
theorem zdkX {args : List AV} {σ : List Blk} {K : AV → List Blk → Prop} (hl : args.length = 0) (h : WK L zEnd.body (args ++ List.replicate 18 .und) none σ (EndsK zEnd K)) : LX L zXAh args σ K := lim_L (f := zXAh) (m := 0) (k := 18) zEnd rfl rfl rfl rfl rfl hl h
theorem zm5m {args : List AV} {σ : List Blk} {K : AV → List Blk → Prop} (hl : args.length = 1) (h : WK L zzhG.body (args ++ List.replicate 11 .und) none σ (EndsK zzhG K)) : LX L zxGI args σ K := lim_L (f := zxGI) (m := 1) (k := 11) zzhG rfl rfl rfl rfl rfl hl h
theorem zzSb {args : List AV} {σ : List Blk} {K : AV → List Blk → Prop} (hl : args.length = 1) (h : WK L zmFI.body (args ++ List.replicate 8 .und) none σ (EndsK zmFI K)) : LX L zuMA args σ K := lim_L (f := zuMA) (m := 1) (k := 8) zmFI rfl rfl rfl rfl rfl hl h
theorem z8NF {args : List AV} {σ : List Blk} {K : AV → List Blk → Prop} (hl : args.length = 1) (h : WK L zGqQ.body (args ++ List.replicate 16 .und) none σ (EndsK zGqQ K)) : LX L zEdJ args σ K := lim_L (f := zEdJ) (m := 1) (k := 16) zGqQ rfl rfl rfl rfl rfl hl h
theorem zNKA {args : List AV} {σ : List Blk} {K : AV → List Blk → Prop} (hl : args.length = 1) (h : WK L z2Lw.body (args ++ List.replicate 9 .und) none σ (EndsK z2Lw K)) : LX L zg5p args σ K := lim_L (f := zg5p) (m := 1) (k := 9) z2Lw rfl rfl rfl rfl rfl hl h
theorem z0Ug {args : List AV} {σ : List Blk} {K : AV → List Blk → Prop} (hl : args.length = 2) (h : WK L zJWy.body (args ++ List.replicate 3 .und) none σ (EndsK zJWy K)) : LX L z2f9 args σ K := lim_L (f := z2f9) (m := 2) (k := 3) zJWy rfl rfl rfl rfl rfl hl h
theorem z2p2 {args : List AV} {σ : List Blk} {K : AV → List Blk → Prop} (hl : args.length = 2) (h : WK L zSzJ.body (args ++ List.replicate 4 .und) none σ (EndsK zSzJ K)) : LX L z7eN args σ K := lim_L (f := z7eN) (m := 2) (k := 4) zSzJ rfl rfl rfl rfl rfl hl h
theorem zzQ3 {args : List AV} {σ : List Blk} {K : AV → List Blk → Prop} (hl : args.length = 1) (h : WK L z0Uh.body (args ++ List.replicate 3 .und) none σ (EndsK z0Uh K)) : LX L zWBS args σ K := lim_L (f := zWBS) (m := 1) (k := 3) z0Uh rfl rfl rfl rfl rfl hl h
theorem zlLk {args : List AV} {σ : List Blk} {K : AV → List Blk → Prop} (hl : args.length = 2) (h : WK L z72L.body (args ++ List.replicate 13 .und) none σ (EndsK z72L K)) : LX L zn2q args σ K := lim_L (f := zn2q) (m := 2) (k := 13) z72L rfl rfl rfl rfl rfl hl h
theorem zwoP {args : List AV} {σ : List Blk} {K : AV → List Blk → Prop} (hl : args.length = 1) (h : WK L z3yZ.body (args ++ List.replicate 1 .und) none σ (EndsK z3yZ K)) : LX L ze0X args σ K := lim_L (f := ze0X) (m := 1) (k := 1) z3yZ rfl rfl rfl rfl rfl hl h
theorem zlN3 {args : List AV} {σ : List Blk} {K : AV → List Blk → Prop} (hl : args.length = 1) (h : WK L zP2L.body (args ++ List.replicate 1 .und) none σ (EndsK zP2L K)) : LX L zA3e args σ K := lim_L (f := zA3e) (m := 1) (k := 1) zP2L rfl rfl rfl rfl rfl hl h
theorem zUuU {args : List AV} {σ : List Blk} {K : AV → List Blk → Prop} (hl : args.length = 3) (h : WK L zTSK.body (args ++ List.replicate 7 .und) none σ (EndsK zTSK K)) : LX L zbRp args σ K := lim_L (f := zbRp) (m := 3) (k := 7) zTSK rfl rfl rfl rfl rfl hl h
theorem zDTj {args : List AV} {σ : List Blk} {K : AV → List Blk → Prop} (hl : args.length = 2) (h : WK L zmZK.body (args ++ List.replicate 2 .und) none σ (EndsK zmZK K)) : LX L zCZ1 args σ K := lim_L (f := zCZ1) (m := 2) (k := 2) zmZK rfl rfl rfl rfl rfl hl h
theorem zmfd {args : List AV} {σ : List Blk} {K : AV → List Blk → Prop} (hl : args.length = 1) (h : WK L zhlY.body (args ++ List.replicate 8 .und) none σ (EndsK zhlY K)) : LX L zBoU args σ K := lim_L (f := zBoU) (m := 1) (k := 8) zhlY rfl rfl rfl rfl rfl hl h
theorem zY44 {args : List AV} {σ : List Blk} {K : AV → List Blk → Prop} (hl : args.length = 3) (h : WK L zOIT.body (args ++ List.replicate 9 .und) none σ (EndsK zOIT K)) : LX L zvA6 args σ K := lim_L (f := zvA6) (m := 3) (k := 9) zOIT rfl rfl rfl rfl rfl hl h
theorem zWmd {args : List AV} {σ : List Blk} {K : AV → List Blk → Prop} (hl : args.length = 2) (h : WK L zOnu.body (args ++ List.replicate 2 .und) none σ (EndsK zOnu K)) : LX L zyDr args σ K := lim_L (f := zyDr) (m := 2) (k := 2) zOnu rfl rfl rfl rfl rfl hl h
theorem zbTq {args : List AV} {σ : List Blk} {K : AV → List Blk → Prop} (hl : args.length = 1) (h : WK L zIGF.body (args ++ List.replicate 3 .und) none σ (EndsK zIGF K)) : LX L zSMD args σ K := lim_L (f := zSMD) (m := 1) (k := 3) zIGF rfl rfl rfl rfl rfl hl h
theorem zTKn {args : List AV} {σ : List Blk} {K : AV → List Blk → Prop} (hl : args.length = 4) (h : WK L zOlb.body (args ++ List.replicate 4 .und) none σ (EndsK zOlb K)) : LX L z5pz args σ K := lim_L (f := z5pz) (m := 4) (k := 4) zOlb rfl rfl rfl rfl rfl hl h
theorem zz61 {args : List AV} {σ : List Blk} {K : AV → List Blk → Prop} (hl : args.length = 4) (h : WK L zVGF.body (args ++ List.replicate 3 .und) none σ (EndsK zVGF K)) : LX L zel3 args σ K := lim_L (f := zel3) (m := 4) (k := 3) zVGF rfl rfl rfl rfl rfl hl h
theorem zLHJ {args : List AV} {σ : List Blk} {K : AV → List Blk → Prop} (hl : args.length = 3) (h : WK L zhZc.body (args ++ List.replicate 7 .und) none σ (EndsK zhZc K)) : LX L zAOG args σ K := lim_L (f := zAOG) (m := 3) (k := 7) zhZc rfl rfl rfl rfl rfl hl h
theorem zTRa {args : List AV} {σ : List Blk} {K : AV → List Blk → Prop} (hl : args.length = 1) (h : WK L zec5.body (args ++ List.replicate 3 .und) none σ (EndsK zec5 K)) : LX L zJzg args σ K := lim_L (f := zJzg) (m := 1) (k := 3) zec5 rfl rfl rfl rfl rfl hl h
theorem zryx {args : List AV} {σ : List Blk} {K : AV → List Blk → Prop} (hl : args.length = 1) (h : WK L zr8U.body (args ++ List.replicate 4 .und) none σ (EndsK zr8U K)) : LX L z2Nz args σ K := lim_L (f := z2Nz) (m := 1) (k := 4) zr8U rfl rfl rfl rfl rfl hl h
theorem zYvQ {args : List AV} {σ : List Blk} {K : AV → List Blk → Prop} (hl : args.length = 1) (h : WK L zmJw.body (args ++ List.replicate 4 .und) none σ (EndsK zmJw K)) : LX L zpHJ args σ K := lim_L (f := zpHJ) (m := 1) (k := 4) zmJw rfl rfl rfl rfl rfl hl h
theorem zsJI {args : List AV} {σ : List Blk} {K : AV → List Blk → Prop} (hl : args.length = 1) (h : WK L zVOH.body (args ++ List.replicate 11 .und) none σ (EndsK zVOH K)) : LX L zLwh args σ K := lim_L (f := zLwh) (m := 1) (k := 11) zVOH rfl rfl rfl rfl rfl hl h
theorem zrla {args : List AV} {σ : List Blk} {K : AV → List Blk → Prop} (hl : args.length = 2) (h : WK L zOgc.body (args ++ List.replicate 2 .und) none σ (EndsK zOgc K)) : LX L zxtP args σ K := lim_L (f := zxtP) (m := 2) (k := 2) zOgc rfl rfl rfl rfl rfl hl h
theorem zgTS {args : List AV} {σ : List Blk} {K : AV → List Blk → Prop} (hl : args.length = 2) (h : WK L zdDU.body (args ++ List.replicate 8 .und) none σ (EndsK zdDU K)) : LX L zePV args σ K := lim_L (f := zePV) (m := 2) (k := 8) zdDU rfl rfl rfl rfl rfl hl h
theorem zHXr {args : List AV} {σ : List Blk} {K : AV → List Blk → Prop} (hl : args.length = 2) (h : WK L zqU2.body (args ++ List.replicate 1 .und) none σ (EndsK zqU2 K)) : LX L zGKM args σ K := lim_L (f := zGKM) (m := 2) (k := 1) zqU2 rfl rfl rfl rfl rfl hl h
theorem zCj2 {args : List AV} {σ : List Blk} {K : AV → List Blk → Prop} (hl : args.length = 1) (h : WK L z9Zr.body (args ++ List.replicate 11 .und) none σ (EndsK z9Zr K)) : LX L zNW4 args σ K := lim_L (f := zNW4) (m := 1) (k := 11) z9Zr rfl rfl rfl rfl rfl hl h
theorem zFe0 {args : List AV} {σ : List Blk} {K : AV → List Blk → Prop} (hl : args.length = 3) (h : WK L z6dL.body (args ++ List.replicate 16 .und) none σ (EndsK z6dL K)) : LX L zgfl args σ K := lim_L (f := zgfl) (m := 3) (k := 16) z6dL rfl rfl rfl rfl rfl hl h
theorem zwYd {args : List AV} {σ : List Blk} {K : AV → List Blk → Prop} (hl : args.length = 2) (h : WK L z5us.body (args ++ List.replicate 1 .und) none σ (EndsK z5us K)) : LX L zIRT args σ K := lim_L (f := zIRT) (m := 2) (k := 1) z5us rfl rfl rfl rfl rfl hl h
theorem zVeB {args : List AV} {σ : List Blk} {K : AV → List Blk → Prop} (hl : args.length = 2) (h : WK L znw9.body (args ++ List.replicate 1 .und) none σ (EndsK znw9 K)) : LX L z60t args σ K := lim_L (f := z60t) (m := 2) (k := 1) znw9 rfl rfl rfl rfl rfl hl h
theorem z5jk {args : List AV} {σ : List Blk} {K : AV → List Blk → Prop} (hl : args.length = 2) (h : WK L zeGk.body (args ++ List.replicate 4 .und) none σ (EndsK zeGk K)) : LX L zhAi args σ K := lim_L (f := zhAi) (m := 2) (k := 4) zeGk rfl rfl rfl rfl rfl hl h
theorem zqZK {args : List AV} {σ : List Blk} {K : AV → List Blk → Prop} (hl : args.length = 3) (h : WK L z12j.body (args ++ List.replicate 12 .und) none σ (EndsK z12j K)) : LX L z2bL args σ K := lim_L (f := z2bL) (m := 3) (k := 12) z12j rfl rfl rfl rfl rfl hl h
theorem zCc5 {args : List AV} {σ : List Blk} {K : AV → List Blk → Prop} (hl : args.length = 1) (h : WK L z3MD.body (args ++ List.replicate 4 .und) none σ (EndsK z3MD K)) : LX L zJZP args σ K := lim_L (f := zJZP) (m := 1) (k := 4) z3MD rfl rfl rfl rfl rfl hl h
theorem zILN {args : List AV} {σ : List Blk} {K : AV → List Blk → Prop} (hl : args.length = 2) (h : WK L zP6F.body (args ++ List.replicate 5 .und) none σ (EndsK zP6F K)) : LX L zGnf args σ K := lim_L (f := zGnf) (m := 2) (k := 5) zP6F rfl rfl rfl rfl rfl hl h
theorem zdZN {args : List AV} {σ : List Blk} {K : AV → List Blk → Prop} (hl : args.length = 4) (h : WK L zry3.body (args ++ List.replicate 1 .und) none σ (EndsK zry3 K)) : LX L zYpD args σ K := lim_L (f := zYpD) (m := 4) (k := 1) zry3 rfl rfl rfl rfl rfl hl h
theorem zDQF {args : List AV} {σ : List Blk} {K : AV → List Blk → Prop} (hl : args.length = 3) (h : WK L zdNW.body (args ++ List.replicate 7 .und) none σ (EndsK zdNW K)) : LX L zvbW args σ K := lim_L (f := zvbW) (m := 3) (k := 7) zdNW rfl rfl rfl rfl rfl hl h
theorem zicv {args : List AV} {σ : List Blk} {K : AV → List Blk → Prop} (hl : args.length = 4) (h : WK L zL9H.body (args ++ List.replicate 2 .und) none σ (EndsK zL9H K)) : LX L zHta args σ K := lim_L (f := zHta) (m := 4) (k := 2) zL9H rfl rfl rfl rfl rfl hl h
theorem zzRm {args : List AV} {σ : List Blk} {K : AV → List Blk → Prop} (hl : args.length = 4) (h : WK L zW9Q.body (args ++ List.replicate 12 .und) none σ (EndsK zW9Q K)) : LX L zgNs args σ K := lim_L (f := zgNs) (m := 4) (k := 12) zW9Q rfl rfl rfl rfl rfl hl h
theorem z4KL {args : List AV} {σ : List Blk} {K : AV → List Blk → Prop} (hl : args.length = 2) (h : WK L zR9Y.body (args ++ List.replicate 3 .und) none σ (EndsK zR9Y K)) : LX L zn9E args σ K := lim_L (f := zn9E) (m := 2) (k := 3) zR9Y rfl rfl rfl rfl rfl hl h
theorem zIgT {args : List AV} {σ : List Blk} {K : AV → List Blk → Prop} (hl : args.length = 2) (h : WK L z8PT.body (args ++ List.replicate 3 .und) none σ (EndsK z8PT K)) : LX L zyip args σ K := lim_L (f := zyip) (m := 2) (k := 3) z8PT rfl rfl rfl rfl rfl hl h
theorem zUFH {args : List AV} {σ : List Blk} {K : AV → List Blk → Prop} (hl : args.length = 1) (h : WK L zwnq.body (args ++ List.replicate 14 .und) none σ (EndsK zwnq K)) : LX L z610 args σ K := lim_L (f := z610) (m := 1) (k := 14) zwnq rfl rfl rfl rfl rfl hl h
theorem zrni {args : List AV} {σ : List Blk} {K : AV → List Blk → Prop} (hl : args.length = 1) (h : WK L zwWD.body (args ++ List.replicate 1 .und) none σ (EndsK zwWD K)) : LX L zLRb args σ K := lim_L (f := zLRb) (m := 1) (k := 1) zwWD rfl rfl rfl rfl rfl hl h
theorem zfQo {args : List AV} {σ : List Blk} {K : AV → List Blk → Prop} (hl : args.length = 2) (h : WK L zVqq.body (args ++ List.replicate 1 .und) none σ (EndsK zVqq K)) : LX L zc7Y args σ K := lim_L (f := zc7Y) (m := 2) (k := 1) zVqq rfl rfl rfl rfl rfl hl h
theorem zAj1 {args : List AV} {σ : List Blk} {K : AV → List Blk → Prop} (hl : args.length = 2) (h : WK L zqiS.body (args ++ List.replicate 1 .und) none σ (EndsK zqiS K)) : LX L zVYD args σ K := lim_L (f := zVYD) (m := 2) (k := 1) zqiS rfl rfl rfl rfl rfl hl h
theorem z1qS {N : Nat} {args : List AV} {σ : List Blk} {x : AV × List Blk} (h : pCloneS (cN G Q N) args σ = some x) : L zDOo args σ = some x := zRTz z1GZ (f := zDOo) rfl h
theorem zaIf {N : Nat} {args : List AV} {σ : List Blk} {x : AV × List Blk} (h : pSort (cN G Q N) args σ = some x) : L zuPb args σ = some x := zRTz z1GZ (f := zuPb) rfl h
theorem zuR7 {args : List AV} {σ : List Blk} {K : AV → List Blk → Prop} (hl : args.length = 2) (h : WK L z9et.body (args ++ List.replicate 4 .und) none σ (EndsK z9et K)) : LX L zcfo args σ K := lim_L (f := zcfo) (m := 2) (k := 4) z9et rfl rfl rfl rfl rfl hl h
theorem zw0l {args : List AV} {σ : List Blk} {K : AV → List Blk → Prop} (hl : args.length = 3) (h : WK L zGVN.body (args ++ List.replicate 1 .und) none σ (EndsK zGVN K)) : LX L zgJR args σ K := lim_L (f := zgJR) (m := 3) (k := 1) zGVN rfl rfl rfl rfl rfl hl h
theorem zHFW {args : List AV} {v : AV} (h : pClone1 (cN G Q 0) args = some v) : L zUHS args [] = some (v, []) := zRTz z1GZ (N := 0) (f := zUHS) rfl (by simp only [vPrim, h, Option.map_some])
theorem zB37 {args : List AV} {σ : List Blk} {K : AV → List Blk → Prop} (hl : args.length = 1) (h : WK L zcfm.body (args ++ List.replicate 6 .und) none σ (EndsK zcfm K)) : LX L zVj2 args σ K := lim_L (f := zVj2) (m := 1) (k := 6) zcfm rfl rfl rfl rfl rfl hl h
theorem zWPT {args : List AV} {σ : List Blk} {K : AV → List Blk → Prop} (hl : args.length = 2) (h : WK L zT7H.body (args ++ List.replicate 3 .und) none σ (EndsK zT7H K)) : LX L zb3m args σ K := lim_L (f := zb3m) (m := 2) (k := 3) zT7H rfl rfl rfl rfl rfl hl h
theorem zT2p {args : List AV} {σ : List Blk} {K : AV → List Blk → Prop} (hl : args.length = 2) (h : WK L zKR3.body (args ++ List.replicate 8 .und) none σ (EndsK zKR3 K)) : LX L z5pu args σ K := lim_L (f := z5pu) (m := 2) (k := 8) zKR3 rfl rfl rfl rfl rfl hl h
theorem zvmz {N : Nat} {args : List AV} {σ : List Blk} {x : AV × List Blk} (h : pGrowS (cN G Q N) args σ = some x) : L zHcv args σ = some x := zRTz z1GZ (f := zHcv) rfl h
theorem z1V4 {args : List AV} {σ : List Blk} {K : AV → List Blk → Prop} (hl : args.length = 1) (h : WK L zmdt.body (args ++ List.replicate 1 .und) none σ (EndsK zmdt K)) : LX L zOq9 args σ K := lim_L (f := zOq9) (m := 1) (k := 1) zmdt rfl rfl rfl rfl rfl hl h
theorem znz5 {args : List AV} {σ : List Blk} {K : AV → List Blk → Prop} (hl : args.length = 2) (h : WK L z7X7.body (args ++ List.replicate 4 .und) none σ (EndsK z7X7 K)) : LX L z35E args σ K := lim_L (f := z35E) (m := 2) (k := 4) z7X7 rfl rfl rfl rfl rfl hl h
theorem zh8Q {args : List AV} {σ : List Blk} {K : AV → List Blk → Prop} (hl : args.length = 1) (h : WK L zb4p.body (args ++ List.replicate 7 .und) none σ (EndsK zb4p K)) : LX L zooT args σ K := lim_L (f := zooT) (m := 1) (k := 7) zb4p rfl rfl rfl rfl rfl hl h
theorem zSS1 {args : List AV} {σ : List Blk} {K : AV → List Blk → Prop} (hl : args.length = 3) (h : WK L zR6C.body (args ++ List.replicate 8 .und) none σ (EndsK zR6C K)) : LX L zH8N args σ K := lim_L (f := zH8N) (m := 3) (k := 8) zR6C rfl rfl rfl rfl rfl hl h
theorem z9RN {args : List AV} {σ : List Blk} {K : AV → List Blk → Prop} (hl : args.length = 2) (h : WK L z6OA.body (args ++ List.replicate 1 .und) none σ (EndsK z6OA K)) : LX L z99Y args σ K := lim_L (f := z99Y) (m := 2) (k := 1) z6OA rfl rfl rfl rfl rfl hl h
theorem zZwU {args : List AV} {σ : List Blk} {K : AV → List Blk → Prop} (hl : args.length = 1) (h : WK L z5ha.body (args ++ List.replicate 9 .und) none σ (EndsK z5ha K)) : LX L z68i args σ K := lim_L (f := z68i) (m := 1) (k := 9) z5ha rfl rfl rfl rfl rfl hl h
theorem zgn9 {args : List AV} {σ : List Blk} {K : AV → List Blk → Prop} (hl : args.length = 1) (h : WK L ztnr.body (args ++ List.replicate 17 .und) none σ (EndsK ztnr K)) : LX L zZIi args σ K := lim_L (f := zZIi) (m := 1) (k := 17) ztnr rfl rfl rfl rfl rfl hl h
theorem z7uW {args : List AV} {σ : List Blk} {K : AV → List Blk → Prop} (hl : args.length = 3) (h : WK L zAhe.body (args ++ List.replicate 3 .und) none σ (EndsK zAhe K)) : LX L zQBQ args σ K := lim_L (f := zQBQ) (m := 3) (k := 3) zAhe rfl rfl rfl rfl rfl hl h
theorem zw18 {args : List AV} {σ : List Blk} {K : AV → List Blk → Prop} (hl : args.length = 2) (h : WK L zeRp.body (args ++ List.replicate 2 .und) none σ (EndsK zeRp K)) : LX L zioN args σ K := lim_L (f := zioN) (m := 2) (k := 2) zeRp rfl rfl rfl rfl rfl hl h
theorem zYsz {args : List AV} {σ : List Blk} {K : AV → List Blk → Prop} (hl : args.length = 2) (h : WK L zdcT.body (args ++ List.replicate 4 .und) none σ (EndsK zdcT K)) : LX L zt89 args σ K := lim_L (f := zt89) (m := 2) (k := 4) zdcT rfl rfl rfl rfl rfl hl h
theorem zTPf {args : List AV} {σ : List Blk} {K : AV → List Blk → Prop} (hl : args.length = 2) (h : WK L zGc0.body (args ++ List.replicate 1 .und) none σ (EndsK zGc0 K)) : LX L zA97 args σ K := lim_L (f := zA97) (m := 2) (k := 1) zGc0 rfl rfl rfl rfl rfl hl h
theorem zfnL {args : List AV} {σ : List Blk} {K : AV → List Blk → Prop} (hl : args.length = 1) (h : WK L zNJn.body (args ++ List.replicate 3 .und) none σ (EndsK zNJn K)) : LX L z2RE args σ K := lim_L (f := z2RE) (m := 1) (k := 3) zNJn rfl rfl rfl rfl rfl hl h
theorem zfZ8 {args : List AV} {σ : List Blk} {K : AV → List Blk → Prop} (hl : args.length = 2) (h : WK L zR3L.body (args ++ List.replicate 4 .und) none σ (EndsK zR3L K)) : LX L z2JZ args σ K := lim_L (f := z2JZ) (m := 2) (k := 4) zR3L rfl rfl rfl rfl rfl hl h
theorem zXA2 {args : List AV} {σ : List Blk} {K : AV → List Blk → Prop} (hl : args.length = 1) (h : WK L z0c3.body (args ++ List.replicate 1 .und) none σ (EndsK z0c3 K)) : LX L zPpc args σ K := lim_L (f := zPpc) (m := 1) (k := 1) z0c3 rfl rfl rfl rfl rfl hl h
theorem zA3Q {args : List AV} {σ : List Blk} {K : AV → List Blk → Prop} (hl : args.length = 1) (h : WK L zz0J.body (args ++ List.replicate 11 .und) none σ (EndsK zz0J K)) : LX L zxg8 args σ K := lim_L (f := zxg8) (m := 1) (k := 11) zz0J rfl rfl rfl rfl rfl hl h
theorem zE0x {N : Nat} {args : List AV} {σ : List Blk} {x : AV × List Blk} (h : pSortI (cN G Q N) args σ = some x) : L zTrs args σ = some x := zRTz z1GZ (f := zTrs) rfl h
theorem zcvF {args : List AV} {σ : List Blk} {K : AV → List Blk → Prop} (hl : args.length = 1) (h : WK L zBYm.body (args ++ List.replicate 4 .und) none σ (EndsK zBYm K)) : LX L zMnE args σ K := lim_L (f := zMnE) (m := 1) (k := 4) zBYm rfl rfl rfl rfl rfl hl h
theorem zbc1 {args : List AV} {σ : List Blk} {K : AV → List Blk → Prop} (hl : args.length = 2) (h : WK L zdAB.body (args ++ List.replicate 4 .und) none σ (EndsK zdAB K)) : LX L zZZJ args σ K := lim_L (f := zZZJ) (m := 2) (k := 4) zdAB rfl rfl rfl rfl rfl hl h
theorem zr8h {args : List AV} {σ : List Blk} {K : AV → List Blk → Prop} (hl : args.length = 1) (h : WK L zIHf.body (args ++ List.replicate 22 .und) none σ (EndsK zIHf K)) : LX L zAqS args σ K := lim_L (f := zAqS) (m := 1) (k := 22) zIHf rfl rfl rfl rfl rfl hl h
theorem zf9S {args : List AV} {σ : List Blk} {K : AV → List Blk → Prop} (hl : args.length = 1) (h : WK L zkXA.body (args ++ List.replicate 3 .und) none σ (EndsK zkXA K)) : LX L zmq6 args σ K := lim_L (f := zmq6) (m := 1) (k := 3) zkXA rfl rfl rfl rfl rfl hl h
theorem z0Pb {args : List AV} {σ : List Blk} {K : AV → List Blk → Prop} (hl : args.length = 3) (h : WK L zQPy.body (args ++ List.replicate 8 .und) none σ (EndsK zQPy K)) : LX L zMrO args σ K := lim_L (f := zMrO) (m := 3) (k := 8) zQPy rfl rfl rfl rfl rfl hl h
theorem zuY7 {args : List AV} {σ : List Blk} {K : AV → List Blk → Prop} (hl : args.length = 2) (h : WK L zeGn.body (args ++ List.replicate 1 .und) none σ (EndsK zeGn K)) : LX L zIk1 args σ K := lim_L (f := zIk1) (m := 2) (k := 1) zeGn rfl rfl rfl rfl rfl hl h
theorem zJfH {args : List AV} {σ : List Blk} {K : AV → List Blk → Prop} (hl : args.length = 2) (h : WK L z4A4.body (args ++ List.replicate 2 .und) none σ (EndsK z4A4 K)) : LX L zy97 args σ K := lim_L (f := zy97) (m := 2) (k := 2) z4A4 rfl rfl rfl rfl rfl hl h
theorem zhG2 {args : List AV} {σ : List Blk} {K : AV → List Blk → Prop} (hl : args.length = 2) (h : WK L zuGu.body (args ++ List.replicate 6 .und) none σ (EndsK zuGu K)) : LX L zeFR args σ K := lim_L (f := zeFR) (m := 2) (k := 6) zuGu rfl rfl rfl rfl rfl hl h
theorem z4dP {N : Nat} {args : List AV} {σ : List Blk} {x : AV × List Blk} (h : pGrow (cN G Q N) args σ = some x) : L zpmf args σ = some x := zRTz z1GZ (f := zpmf) rfl h
theorem z6IH {args : List AV} {σ : List Blk} {K : AV → List Blk → Prop} (hl : args.length = 2) (h : WK L zhmb.body (args ++ List.replicate 5 .und) none σ (EndsK zhmb K)) : LX L zLOr args σ K := lim_L (f := zLOr) (m := 2) (k := 5) zhmb rfl rfl rfl rfl rfl hl h
theorem zTYE {args : List AV} {σ : List Blk} {K : AV → List Blk → Prop} (hl : args.length = 2) (h : WK L zvhx.body (args ++ List.replicate 2 .und) none σ (EndsK zvhx K)) : LX L z0Tq args σ K := lim_L (f := z0Tq) (m := 2) (k := 2) zvhx rfl rfl rfl rfl rfl hl h
theorem zd0d {args : List AV} {σ : List Blk} {K : AV → List Blk → Prop} (hl : args.length = 3) (h : WK L zY1V.body (args ++ List.replicate 5 .und) none σ (EndsK zY1V K)) : LX L zzjE args σ K := lim_L (f := zzjE) (m := 3) (k := 5) zY1V rfl rfl rfl rfl rfl hl h
theorem ztvg {args : List AV} {σ : List Blk} {K : AV → List Blk → Prop} (hl : args.length = 2) (h : WK L zGS2.body (args ++ List.replicate 3 .und) none σ (EndsK zGS2 K)) : LX L zr8d args σ K := lim_L (f := zr8d) (m := 2) (k := 3) zGS2 rfl rfl rfl rfl rfl hl h
theorem zWSZ {args : List AV} {σ : List Blk} {K : AV → List Blk → Prop} (hl : args.length = 2) (h : WK L z7sm.body (args ++ List.replicate 9 .und) none σ (EndsK z7sm K)) : LX L zZCE args σ K := lim_L (f := zZCE) (m := 2) (k := 9) z7sm rfl rfl rfl rfl rfl hl h
theorem zbSV {args : List AV} {σ : List Blk} {K : AV → List Blk → Prop} (hl : args.length = 2) (h : WK L zHcf.body (args ++ List.replicate 10 .und) none σ (EndsK zHcf K)) : LX L z8xK args σ K := lim_L (f := z8xK) (m := 2) (k := 10) zHcf rfl rfl rfl rfl rfl hl h
theorem z5EM {args : List AV} {σ : List Blk} {K : AV → List Blk → Prop} (hl : args.length = 1) (h : WK L zhzJ.body (args ++ List.replicate 1 .und) none σ (EndsK zhzJ K)) : LX L zlVo args σ K := lim_L (f := zlVo) (m := 1) (k := 1) zhzJ rfl rfl rfl rfl rfl hl h
theorem z6bA {args : List AV} {σ : List Blk} {K : AV → List Blk → Prop} (hl : args.length = 2) (h : WK L z193.body (args ++ List.replicate 14 .und) none σ (EndsK z193 K)) : LX L zgwP args σ K := lim_L (f := zgwP) (m := 2) (k := 14) z193 rfl rfl rfl rfl rfl hl h
end Ab
