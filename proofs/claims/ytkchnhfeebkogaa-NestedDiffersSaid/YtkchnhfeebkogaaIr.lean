/- The functions of the program as small texts, printed by a tool of mine: what is run. Condition: none. -/
import Derived.Test.YtkchnhfeebkogaaIr1
set_option linter.all false
namespace Ab
def G : Nat → Option Fn := fun f => match f with
  | 3 => some zTys
  | 4 => some zY0Q
  | 5 => some zL9V
  | 6 => some zyy1
  | 7 => some zYVP
  | 8 => some zVsD
  | 9 => some zlRj
  | 10 => some zxLy
  | 11 => some zImi
  | 12 => some zzBs
  | 13 => some zQ56
  | 14 => some z1LK
  | 15 => some zSZ1
  | 16 => some zf1k
  | 17 => some zeGn
  | 18 => some zpuZ
  | 19 => some zrMM
  | 20 => some zIsK
  | 21 => some zjdN
  | 22 => some zldz
  | 23 => some zDNi
  | 24 => some zl16
  | 25 => some ziNB
  | 26 => some zZeW
  | 27 => some zxFr
  | 28 => some zEK5
  | 29 => some zWkD
  | 30 => some zvhx
  | 31 => some zGkm
  | 32 => some zruB
  | 33 => some zOgc
  | 34 => some zWmP
  | 35 => some zlvA
  | 36 => some z0C4
  | 37 => some zrm0
  | 38 => some z8Ri
  | 39 => some zSeE
  | 40 => some zFZL
  | 41 => some zGS2
  | 42 => some zgy1
  | 43 => some zl93
  | 44 => some zY0C
  | 45 => some zWc7
  | 46 => some zMAU
  | 47 => some zT6q
  | 48 => some zqU2
  | 49 => some zhOv
  | 50 => some zvW7
  | 51 => some z4sU
  | 52 => some zk1D
  | 53 => some zsZ9
  | 54 => some z8XZ
  | 55 => some zIYP
  | 56 => some zuEc
  | 57 => some zhzJ
  | 58 => some zwWD
  | 59 => some zVqq
  | 60 => some zqiS
  | 61 => some z4A4
  | 62 => some zmvx
  | 63 => some z2Ec
  | 64 => some zkh5
  | 65 => some zkbR
  | 66 => some zG2w
  | 67 => some zwxN
  | 68 => some zcfm
  | 69 => some zT7H
  | 70 => some zKR3
  | 71 => some z4kj
  | 72 => some zSqi
  | 73 => some zGc0
  | 74 => some zSCi
  | 75 => some zR3L
  | 76 => some z0c3
  | 92 => some z5No
  | 93 => some z6Fs
  | 94 => some zRtP
  | _ => none
def sls : Nat → List Nat := fun f => match f with
  | 3 => [0, 1, 3, 6, 4, 7, 5, 8, 2]
  | 4 => [0, 1, 2, 3, 5, 8, 6, 9, 7, 10, 4]
  | 5 => [0, 1, 2, 7, 5, 6, 9, 8, 4]
  | 6 => [0, 1, 2, 3, 4, 9, 7, 8, 11, 13, 10, 12, 6]
  | 7 => [0, 1, 2]
  | 8 => [12, 2, 4, 6, 8, 11, 15, 1, 3, 5, 10, 14, 9, 7, 13, 0]
  | 9 => [0, 1, 5, 2, 3, 4]
  | 10 => [0, 1, 5, 2, 3, 4]
  | 11 => [0, 1, 5, 4]
  | 12 => [0, 1, 2, 7, 3, 8, 9, 10, 69, 68, 11, 12, 13, 4, 5, 6]
  | 13 => [0, 1, 2, 7, 3, 8, 4, 5, 6]
  | 14 => [0, 1, 2, 6, 7, 4]
  | 15 => [0, 1, 2, 8, 9, 3, 7, 6]
  | 16 => [0, 1, 2, 6, 7, 8, 9, 45, 44, 43, 14, 11, 12, 16, 10, 15, 4, 5]
  | 17 => [0, 1, 4]
  | 18 => [0]
  | 19 => [0, 1, 4, 2, 3]
  | 20 => [0, 1, 5, 4]
  | 21 => [0, 1, 2, 6, 4]
  | 22 => [0, 1, 3, 81, 80, 4, 5, 2]
  | 23 => [0, 1, 2, 3, 5, 28, 27, 26, 11, 13, 12, 49, 14, 15, 56, 55, 54, 19, 17, 20, 16, 8, 9, 10]
  | 24 => [0, 1, 3, 4, 5, 2]
  | 25 => [0, 1, 9, 8, 6, 5, 7, 2, 3, 4]
  | 26 => [0, 1, 2]
  | 27 => [0, 1, 2, 4, 5]
  | 28 => [0, 1, 2]
  | 29 => [0, 1, 3, 2, 5, 7, 8, 12, 9, 10, 13, 11, 6, 4]
  | 30 => [0, 1, 5, 4]
  | 31 => [0, 1, 2]
  | 32 => [0, 1, 10, 2, 9, 7, 8, 4, 5, 6]
  | 33 => [0, 1, 3, 4]
  | 34 => [0, 1, 2]
  | 35 => [0, 1, 13, 12, 11, 10, 2, 6, 7, 8, 4, 5]
  | 36 => [0, 1, 2, 3, 6, 7]
  | 37 => [0, 1]
  | 38 => [0, 1, 2, 3, 6]
  | 39 => [0, 1, 2, 3, 4, 8]
  | 40 => [0, 3, 2]
  | 41 => [0, 1, 5, 4, 20]
  | 42 => [0, 1, 5, 15, 14, 6, 3, 26, 25, 7, 8, 45, 44, 9, 4]
  | 43 => [0, 1, 5, 4]
  | 44 => [0, 1, 3, 4]
  | 45 => [0, 1, 2, 5, 85, 84, 83, 7, 4]
  | 46 => [0, 1, 3, 26, 25, 5, 6, 38, 37, 7, 59, 58, 8, 9, 10, 4]
  | 47 => [0, 1, 24, 23, 22, 6, 40, 39, 38, 8, 7, 9, 93, 92, 91, 11, 117, 116, 13, 12, 167, 166, 165, 176, 175, 15, 16, 4]
  | 48 => [0, 1, 4]
  | 49 => [0, 2]
  | 50 => [0, 1, 2]
  | 51 => [0, 1, 2, 5, 6, 7, 8, 4]
  | 52 => [0, 4, 1, 3, 5, 6, 7, 8, 2]
  | 53 => [0, 4, 1, 3, 5, 6, 7, 2]
  | 54 => [0, 1, 2, 4]
  | 55 => [0, 4, 3, 2]
  | 56 => [0, 1, 2, 3, 10, 4, 11, 5, 13, 12, 9, 8]
  | 57 => [0, 2]
  | 58 => [0, 2]
  | 59 => [0, 1, 4]
  | 60 => [0, 1, 3]
  | 61 => [0, 1, 5, 4]
  | 62 => [0, 1, 5, 7, 6, 32, 31, 30, 9, 8, 4]
  | 63 => [0, 1, 2, 3, 20, 19, 5, 25, 24, 10, 11, 12, 40, 39, 38, 16, 15, 14, 13, 9, 17, 8]
  | 64 => [0, 1, 3]
  | 65 => [0, 8, 7, 3, 2]
  | 66 => [0, 1, 2, 3, 4, 10, 11, 12]
  | 67 => [0, 1, 16, 15, 14, 7, 5, 4]
  | 68 => [0, 8, 7, 6, 5, 3, 2]
  | 69 => [0, 1, 5, 6, 4]
  | 70 => [0, 1, 11, 10, 9, 5, 6, 7, 8, 4]
  | 71 => [0, 1, 2, 4]
  | 72 => [0, 1, 2, 3, 10, 4, 11, 9, 12, 13, 15, 14, 16, 8]
  | 73 => [0, 1, 4]
  | 74 => [0, 1, 2, 3, 9, 4, 10, 11, 12, 8]
  | 75 => [0, 1, 8, 7, 5, 4]
  | 76 => [0, 2]
  | 92 => [0, 1, 2, 3, 8, 9, 10, 12, 11, 13, 6, 7]
  | 93 => [0, 1, 2, 3, 7, 8, 6]
  | 94 => [0, 1, 2, 3, 4, 9, 10, 8]
  | _ => []
def Q : Prims := fun f => match f with
  | 49 => some (vPrim pClone1)
  | _ => none
theorem z1GZ : PrimsMono Q := by
  intro f p h
  unfold Q at h
  split at h
  · cases h; exact fun _ _ _ _ _ _ h => h
  · cases h
noncomputable def L : CE := lim G Q
theorem lim_L {f m k : Nat} (fn : Fn) {b : IC} {args : List AV} {σ : List Blk} {K : AV → List Blk → Prop} (hq : Q f = none) (hg : G f = some fn) (hb : fn.body = b) (hm : fn.np = m) (hk : fn.nv - fn.np = k) (hl : args.length = m) (h : WK L b (args ++ List.replicate k .und) none σ (EndsK fn K)) : LX L f args σ K := by subst hb; subst hm; subst hk; exact zc3F z1GZ fn hq hg hl h
theorem zZdv {args : List AV} {σ : List Blk} {K : AV → List Blk → Prop} (hl : args.length = 1) (h : WK L zTys.body (args ++ List.replicate 8 .und) none σ (EndsK zTys K)) : LX L za6K args σ K := lim_L (f := za6K) (m := 1) (k := 8) zTys rfl rfl rfl rfl rfl hl h
theorem zd22 {args : List AV} {σ : List Blk} {K : AV → List Blk → Prop} (hl : args.length = 2) (h : WK L zY0Q.body (args ++ List.replicate 9 .und) none σ (EndsK zY0Q K)) : LX L zjvU args σ K := lim_L (f := zjvU) (m := 2) (k := 9) zY0Q rfl rfl rfl rfl rfl hl h
theorem zjno {args : List AV} {σ : List Blk} {K : AV → List Blk → Prop} (hl : args.length = 2) (h : WK L zL9V.body (args ++ List.replicate 7 .und) none σ (EndsK zL9V K)) : LX L zyDa args σ K := lim_L (f := zyDa) (m := 2) (k := 7) zL9V rfl rfl rfl rfl rfl hl h
theorem zstr {args : List AV} {σ : List Blk} {K : AV → List Blk → Prop} (hl : args.length = 3) (h : WK L zyy1.body (args ++ List.replicate 10 .und) none σ (EndsK zyy1 K)) : LX L z1FP args σ K := lim_L (f := z1FP) (m := 3) (k := 10) zyy1 rfl rfl rfl rfl rfl hl h
theorem zQPZ {args : List AV} {σ : List Blk} {K : AV → List Blk → Prop} (hl : args.length = 1) (h : WK L zYVP.body (args ++ List.replicate 2 .und) none σ (EndsK zYVP K)) : LX L zHyK args σ K := lim_L (f := zHyK) (m := 1) (k := 2) zYVP rfl rfl rfl rfl rfl hl h
theorem z3TG {args : List AV} {σ : List Blk} {K : AV → List Blk → Prop} (hl : args.length = 0) (h : WK L zVsD.body (args ++ List.replicate 16 .und) none σ (EndsK zVsD K)) : LX L zfV6 args σ K := lim_L (f := zfV6) (m := 0) (k := 16) zVsD rfl rfl rfl rfl rfl hl h
theorem zhhG {args : List AV} {σ : List Blk} {K : AV → List Blk → Prop} (hl : args.length = 1) (h : WK L zlRj.body (args ++ List.replicate 5 .und) none σ (EndsK zlRj K)) : LX L zZ8T args σ K := lim_L (f := zZ8T) (m := 1) (k := 5) zlRj rfl rfl rfl rfl rfl hl h
theorem zwv3 {args : List AV} {σ : List Blk} {K : AV → List Blk → Prop} (hl : args.length = 1) (h : WK L zxLy.body (args ++ List.replicate 5 .und) none σ (EndsK zxLy K)) : LX L z19o args σ K := lim_L (f := z19o) (m := 1) (k := 5) zxLy rfl rfl rfl rfl rfl hl h
theorem zWJI {args : List AV} {σ : List Blk} {K : AV → List Blk → Prop} (hl : args.length = 2) (h : WK L zImi.body (args ++ List.replicate 2 .und) none σ (EndsK zImi K)) : LX L z1aV args σ K := lim_L (f := z1aV) (m := 2) (k := 2) zImi rfl rfl rfl rfl rfl hl h
theorem zJMk {args : List AV} {σ : List Blk} {K : AV → List Blk → Prop} (hl : args.length = 2) (h : WK L zzBs.body (args ++ List.replicate 14 .und) none σ (EndsK zzBs K)) : LX L znwB args σ K := lim_L (f := znwB) (m := 2) (k := 14) zzBs rfl rfl rfl rfl rfl hl h
theorem zxtW {args : List AV} {σ : List Blk} {K : AV → List Blk → Prop} (hl : args.length = 2) (h : WK L zQ56.body (args ++ List.replicate 7 .und) none σ (EndsK zQ56 K)) : LX L zRFR args σ K := lim_L (f := zRFR) (m := 2) (k := 7) zQ56 rfl rfl rfl rfl rfl hl h
theorem zddp {args : List AV} {σ : List Blk} {K : AV → List Blk → Prop} (hl : args.length = 2) (h : WK L z1LK.body (args ++ List.replicate 4 .und) none σ (EndsK z1LK K)) : LX L zYu2 args σ K := lim_L (f := zYu2) (m := 2) (k := 4) z1LK rfl rfl rfl rfl rfl hl h
theorem zq2I {args : List AV} {σ : List Blk} {K : AV → List Blk → Prop} (hl : args.length = 3) (h : WK L zSZ1.body (args ++ List.replicate 5 .und) none σ (EndsK zSZ1 K)) : LX L zb98 args σ K := lim_L (f := zb98) (m := 3) (k := 5) zSZ1 rfl rfl rfl rfl rfl hl h
theorem znNM {args : List AV} {σ : List Blk} {K : AV → List Blk → Prop} (hl : args.length = 2) (h : WK L zf1k.body (args ++ List.replicate 16 .und) none σ (EndsK zf1k K)) : LX L zWb8 args σ K := lim_L (f := zWb8) (m := 2) (k := 16) zf1k rfl rfl rfl rfl rfl hl h
theorem zuY7 {args : List AV} {σ : List Blk} {K : AV → List Blk → Prop} (hl : args.length = 2) (h : WK L zeGn.body (args ++ List.replicate 1 .und) none σ (EndsK zeGn K)) : LX L zIk1 args σ K := lim_L (f := zIk1) (m := 2) (k := 1) zeGn rfl rfl rfl rfl rfl hl h
theorem z0bC {args : List AV} {σ : List Blk} {K : AV → List Blk → Prop} (hl : args.length = 0) (h : WK L zpuZ.body (args ++ List.replicate 1 .und) none σ (EndsK zpuZ K)) : LX L z9Gn args σ K := lim_L (f := z9Gn) (m := 0) (k := 1) zpuZ rfl rfl rfl rfl rfl hl h
theorem z1tO {args : List AV} {σ : List Blk} {K : AV → List Blk → Prop} (hl : args.length = 1) (h : WK L zrMM.body (args ++ List.replicate 4 .und) none σ (EndsK zrMM K)) : LX L ziIl args σ K := lim_L (f := ziIl) (m := 1) (k := 4) zrMM rfl rfl rfl rfl rfl hl h
theorem zaeJ {args : List AV} {σ : List Blk} {K : AV → List Blk → Prop} (hl : args.length = 2) (h : WK L zIsK.body (args ++ List.replicate 2 .und) none σ (EndsK zIsK K)) : LX L zO8E args σ K := lim_L (f := zO8E) (m := 2) (k := 2) zIsK rfl rfl rfl rfl rfl hl h
theorem zncs {args : List AV} {σ : List Blk} {K : AV → List Blk → Prop} (hl : args.length = 2) (h : WK L zjdN.body (args ++ List.replicate 3 .und) none σ (EndsK zjdN K)) : LX L zXJR args σ K := lim_L (f := zXJR) (m := 2) (k := 3) zjdN rfl rfl rfl rfl rfl hl h
theorem z3bh {args : List AV} {σ : List Blk} {K : AV → List Blk → Prop} (hl : args.length = 1) (h : WK L zldz.body (args ++ List.replicate 7 .und) none σ (EndsK zldz K)) : LX L zwyK args σ K := lim_L (f := zwyK) (m := 1) (k := 7) zldz rfl rfl rfl rfl rfl hl h
theorem zaFY {args : List AV} {σ : List Blk} {K : AV → List Blk → Prop} (hl : args.length = 4) (h : WK L zDNi.body (args ++ List.replicate 20 .und) none σ (EndsK zDNi K)) : LX L zDXm args σ K := lim_L (f := zDXm) (m := 4) (k := 20) zDNi rfl rfl rfl rfl rfl hl h
theorem zoi9 {args : List AV} {σ : List Blk} {K : AV → List Blk → Prop} (hl : args.length = 1) (h : WK L zl16.body (args ++ List.replicate 5 .und) none σ (EndsK zl16 K)) : LX L zvYE args σ K := lim_L (f := zvYE) (m := 1) (k := 5) zl16 rfl rfl rfl rfl rfl hl h
theorem zpC7 {args : List AV} {σ : List Blk} {K : AV → List Blk → Prop} (hl : args.length = 1) (h : WK L ziNB.body (args ++ List.replicate 9 .und) none σ (EndsK ziNB K)) : LX L z1qE args σ K := lim_L (f := z1qE) (m := 1) (k := 9) ziNB rfl rfl rfl rfl rfl hl h
theorem z5d0 {args : List AV} {σ : List Blk} {K : AV → List Blk → Prop} (hl : args.length = 1) (h : WK L zZeW.body (args ++ List.replicate 2 .und) none σ (EndsK zZeW K)) : LX L zmNm args σ K := lim_L (f := zmNm) (m := 1) (k := 2) zZeW rfl rfl rfl rfl rfl hl h
theorem zBQG {args : List AV} {σ : List Blk} {K : AV → List Blk → Prop} (hl : args.length = 2) (h : WK L zxFr.body (args ++ List.replicate 3 .und) none σ (EndsK zxFr K)) : LX L z6RY args σ K := lim_L (f := z6RY) (m := 2) (k := 3) zxFr rfl rfl rfl rfl rfl hl h
theorem zY6J {args : List AV} {σ : List Blk} {K : AV → List Blk → Prop} (hl : args.length = 1) (h : WK L zEK5.body (args ++ List.replicate 2 .und) none σ (EndsK zEK5 K)) : LX L zFCU args σ K := lim_L (f := zFCU) (m := 1) (k := 2) zEK5 rfl rfl rfl rfl rfl hl h
theorem z17d {args : List AV} {σ : List Blk} {K : AV → List Blk → Prop} (hl : args.length = 2) (h : WK L zWkD.body (args ++ List.replicate 12 .und) none σ (EndsK zWkD K)) : LX L zNb4 args σ K := lim_L (f := zNb4) (m := 2) (k := 12) zWkD rfl rfl rfl rfl rfl hl h
theorem zTYE {args : List AV} {σ : List Blk} {K : AV → List Blk → Prop} (hl : args.length = 2) (h : WK L zvhx.body (args ++ List.replicate 2 .und) none σ (EndsK zvhx K)) : LX L z0Tq args σ K := lim_L (f := z0Tq) (m := 2) (k := 2) zvhx rfl rfl rfl rfl rfl hl h
theorem z9nN {args : List AV} {σ : List Blk} {K : AV → List Blk → Prop} (hl : args.length = 1) (h : WK L zGkm.body (args ++ List.replicate 2 .und) none σ (EndsK zGkm K)) : LX L zVDQ args σ K := lim_L (f := zVDQ) (m := 1) (k := 2) zGkm rfl rfl rfl rfl rfl hl h
theorem zXoc {args : List AV} {σ : List Blk} {K : AV → List Blk → Prop} (hl : args.length = 2) (h : WK L zruB.body (args ++ List.replicate 8 .und) none σ (EndsK zruB K)) : LX L zaUI args σ K := lim_L (f := zaUI) (m := 2) (k := 8) zruB rfl rfl rfl rfl rfl hl h
theorem zrla {args : List AV} {σ : List Blk} {K : AV → List Blk → Prop} (hl : args.length = 2) (h : WK L zOgc.body (args ++ List.replicate 2 .und) none σ (EndsK zOgc K)) : LX L zxtP args σ K := lim_L (f := zxtP) (m := 2) (k := 2) zOgc rfl rfl rfl rfl rfl hl h
theorem zQII {args : List AV} {σ : List Blk} {K : AV → List Blk → Prop} (hl : args.length = 1) (h : WK L zWmP.body (args ++ List.replicate 2 .und) none σ (EndsK zWmP K)) : LX L z92w args σ K := lim_L (f := z92w) (m := 1) (k := 2) zWmP rfl rfl rfl rfl rfl hl h
theorem z0BX {args : List AV} {σ : List Blk} {K : AV → List Blk → Prop} (hl : args.length = 2) (h : WK L zlvA.body (args ++ List.replicate 10 .und) none σ (EndsK zlvA K)) : LX L zA6r args σ K := lim_L (f := zA6r) (m := 2) (k := 10) zlvA rfl rfl rfl rfl rfl hl h
theorem zADD {args : List AV} {σ : List Blk} {K : AV → List Blk → Prop} (hl : args.length = 3) (h : WK L z0C4.body (args ++ List.replicate 3 .und) none σ (EndsK z0C4 K)) : LX L zfSc args σ K := lim_L (f := zfSc) (m := 3) (k := 3) z0C4 rfl rfl rfl rfl rfl hl h
theorem zZHe {args : List AV} {σ : List Blk} {K : AV → List Blk → Prop} (hl : args.length = 2) (h : WK L zrm0.body (args ++ List.replicate 0 .und) none σ (EndsK zrm0 K)) : LX L zd1z args σ K := lim_L (f := zd1z) (m := 2) (k := 0) zrm0 rfl rfl rfl rfl rfl hl h
theorem zmkb {args : List AV} {σ : List Blk} {K : AV → List Blk → Prop} (hl : args.length = 3) (h : WK L z8Ri.body (args ++ List.replicate 2 .und) none σ (EndsK z8Ri K)) : LX L zhMi args σ K := lim_L (f := zhMi) (m := 3) (k := 2) z8Ri rfl rfl rfl rfl rfl hl h
theorem zMJ2 {args : List AV} {σ : List Blk} {K : AV → List Blk → Prop} (hl : args.length = 4) (h : WK L zSeE.body (args ++ List.replicate 2 .und) none σ (EndsK zSeE K)) : LX L zNTN args σ K := lim_L (f := zNTN) (m := 4) (k := 2) zSeE rfl rfl rfl rfl rfl hl h
theorem zpCW {args : List AV} {σ : List Blk} {K : AV → List Blk → Prop} (hl : args.length = 1) (h : WK L zFZL.body (args ++ List.replicate 2 .und) none σ (EndsK zFZL K)) : LX L zC7Z args σ K := lim_L (f := zC7Z) (m := 1) (k := 2) zFZL rfl rfl rfl rfl rfl hl h
theorem ztvg {args : List AV} {σ : List Blk} {K : AV → List Blk → Prop} (hl : args.length = 2) (h : WK L zGS2.body (args ++ List.replicate 3 .und) none σ (EndsK zGS2 K)) : LX L zr8d args σ K := lim_L (f := zr8d) (m := 2) (k := 3) zGS2 rfl rfl rfl rfl rfl hl h
theorem zOoS {args : List AV} {σ : List Blk} {K : AV → List Blk → Prop} (hl : args.length = 2) (h : WK L zgy1.body (args ++ List.replicate 13 .und) none σ (EndsK zgy1 K)) : LX L zWyS args σ K := lim_L (f := zWyS) (m := 2) (k := 13) zgy1 rfl rfl rfl rfl rfl hl h
theorem zxFM {args : List AV} {σ : List Blk} {K : AV → List Blk → Prop} (hl : args.length = 2) (h : WK L zl93.body (args ++ List.replicate 2 .und) none σ (EndsK zl93 K)) : LX L zadN args σ K := lim_L (f := zadN) (m := 2) (k := 2) zl93 rfl rfl rfl rfl rfl hl h
theorem zsRO {args : List AV} {σ : List Blk} {K : AV → List Blk → Prop} (hl : args.length = 2) (h : WK L zY0C.body (args ++ List.replicate 2 .und) none σ (EndsK zY0C K)) : LX L zTfU args σ K := lim_L (f := zTfU) (m := 2) (k := 2) zY0C rfl rfl rfl rfl rfl hl h
theorem zbNP {args : List AV} {σ : List Blk} {K : AV → List Blk → Prop} (hl : args.length = 2) (h : WK L zWc7.body (args ++ List.replicate 7 .und) none σ (EndsK zWc7 K)) : LX L ze0B args σ K := lim_L (f := ze0B) (m := 2) (k := 7) zWc7 rfl rfl rfl rfl rfl hl h
theorem ztgG {args : List AV} {σ : List Blk} {K : AV → List Blk → Prop} (hl : args.length = 2) (h : WK L zMAU.body (args ++ List.replicate 14 .und) none σ (EndsK zMAU K)) : LX L zNv5 args σ K := lim_L (f := zNv5) (m := 2) (k := 14) zMAU rfl rfl rfl rfl rfl hl h
theorem z3dw {args : List AV} {σ : List Blk} {K : AV → List Blk → Prop} (hl : args.length = 2) (h : WK L zT6q.body (args ++ List.replicate 26 .und) none σ (EndsK zT6q K)) : LX L zkQN args σ K := lim_L (f := zkQN) (m := 2) (k := 26) zT6q rfl rfl rfl rfl rfl hl h
theorem zHXr {args : List AV} {σ : List Blk} {K : AV → List Blk → Prop} (hl : args.length = 2) (h : WK L zqU2.body (args ++ List.replicate 1 .und) none σ (EndsK zqU2 K)) : LX L zGKM args σ K := lim_L (f := zGKM) (m := 2) (k := 1) zqU2 rfl rfl rfl rfl rfl hl h
theorem zHFW {args : List AV} {v : AV} (h : pClone1 (cN G Q 0) args = some v) : L zUHS args [] = some (v, []) := zRTz z1GZ (N := 0) (f := zUHS) rfl (by simp only [vPrim, h, Option.map_some])
theorem zxnm {args : List AV} {σ : List Blk} {K : AV → List Blk → Prop} (hl : args.length = 1) (h : WK L zvW7.body (args ++ List.replicate 2 .und) none σ (EndsK zvW7 K)) : LX L z5HB args σ K := lim_L (f := z5HB) (m := 1) (k := 2) zvW7 rfl rfl rfl rfl rfl hl h
theorem zKmR {args : List AV} {σ : List Blk} {K : AV → List Blk → Prop} (hl : args.length = 2) (h : WK L z4sU.body (args ++ List.replicate 6 .und) none σ (EndsK z4sU K)) : LX L z7L0 args σ K := lim_L (f := z7L0) (m := 2) (k := 6) z4sU rfl rfl rfl rfl rfl hl h
theorem z01U {args : List AV} {σ : List Blk} {K : AV → List Blk → Prop} (hl : args.length = 1) (h : WK L zk1D.body (args ++ List.replicate 8 .und) none σ (EndsK zk1D K)) : LX L ztWO args σ K := lim_L (f := ztWO) (m := 1) (k := 8) zk1D rfl rfl rfl rfl rfl hl h
theorem zhzU {args : List AV} {σ : List Blk} {K : AV → List Blk → Prop} (hl : args.length = 1) (h : WK L zsZ9.body (args ++ List.replicate 7 .und) none σ (EndsK zsZ9 K)) : LX L zU2R args σ K := lim_L (f := zU2R) (m := 1) (k := 7) zsZ9 rfl rfl rfl rfl rfl hl h
theorem z2S8 {args : List AV} {σ : List Blk} {K : AV → List Blk → Prop} (hl : args.length = 2) (h : WK L z8XZ.body (args ++ List.replicate 2 .und) none σ (EndsK z8XZ K)) : LX L zZwr args σ K := lim_L (f := zZwr) (m := 2) (k := 2) z8XZ rfl rfl rfl rfl rfl hl h
theorem zdcc {args : List AV} {σ : List Blk} {K : AV → List Blk → Prop} (hl : args.length = 1) (h : WK L zIYP.body (args ++ List.replicate 3 .und) none σ (EndsK zIYP K)) : LX L z4HM args σ K := lim_L (f := z4HM) (m := 1) (k := 3) zIYP rfl rfl rfl rfl rfl hl h
theorem zO3d {args : List AV} {σ : List Blk} {K : AV → List Blk → Prop} (hl : args.length = 4) (h : WK L zuEc.body (args ++ List.replicate 8 .und) none σ (EndsK zuEc K)) : LX L zR5N args σ K := lim_L (f := zR5N) (m := 4) (k := 8) zuEc rfl rfl rfl rfl rfl hl h
theorem z5EM {args : List AV} {σ : List Blk} {K : AV → List Blk → Prop} (hl : args.length = 1) (h : WK L zhzJ.body (args ++ List.replicate 1 .und) none σ (EndsK zhzJ K)) : LX L zlVo args σ K := lim_L (f := zlVo) (m := 1) (k := 1) zhzJ rfl rfl rfl rfl rfl hl h
theorem zrni {args : List AV} {σ : List Blk} {K : AV → List Blk → Prop} (hl : args.length = 1) (h : WK L zwWD.body (args ++ List.replicate 1 .und) none σ (EndsK zwWD K)) : LX L zLRb args σ K := lim_L (f := zLRb) (m := 1) (k := 1) zwWD rfl rfl rfl rfl rfl hl h
theorem zfQo {args : List AV} {σ : List Blk} {K : AV → List Blk → Prop} (hl : args.length = 2) (h : WK L zVqq.body (args ++ List.replicate 1 .und) none σ (EndsK zVqq K)) : LX L zc7Y args σ K := lim_L (f := zc7Y) (m := 2) (k := 1) zVqq rfl rfl rfl rfl rfl hl h
theorem zAj1 {args : List AV} {σ : List Blk} {K : AV → List Blk → Prop} (hl : args.length = 2) (h : WK L zqiS.body (args ++ List.replicate 1 .und) none σ (EndsK zqiS K)) : LX L zVYD args σ K := lim_L (f := zVYD) (m := 2) (k := 1) zqiS rfl rfl rfl rfl rfl hl h
theorem zJfH {args : List AV} {σ : List Blk} {K : AV → List Blk → Prop} (hl : args.length = 2) (h : WK L z4A4.body (args ++ List.replicate 2 .und) none σ (EndsK z4A4 K)) : LX L zy97 args σ K := lim_L (f := zy97) (m := 2) (k := 2) z4A4 rfl rfl rfl rfl rfl hl h
theorem zbK1 {args : List AV} {σ : List Blk} {K : AV → List Blk → Prop} (hl : args.length = 2) (h : WK L zmvx.body (args ++ List.replicate 9 .und) none σ (EndsK zmvx K)) : LX L zSOc args σ K := lim_L (f := zSOc) (m := 2) (k := 9) zmvx rfl rfl rfl rfl rfl hl h
theorem z5KG {args : List AV} {σ : List Blk} {K : AV → List Blk → Prop} (hl : args.length = 4) (h : WK L z2Ec.body (args ++ List.replicate 18 .und) none σ (EndsK z2Ec K)) : LX L z7G9 args σ K := lim_L (f := z7G9) (m := 4) (k := 18) z2Ec rfl rfl rfl rfl rfl hl h
theorem z5Hk {args : List AV} {σ : List Blk} {K : AV → List Blk → Prop} (hl : args.length = 2) (h : WK L zkh5.body (args ++ List.replicate 1 .und) none σ (EndsK zkh5 K)) : LX L zhiY args σ K := lim_L (f := zhiY) (m := 2) (k := 1) zkh5 rfl rfl rfl rfl rfl hl h
theorem zQae {args : List AV} {σ : List Blk} {K : AV → List Blk → Prop} (hl : args.length = 1) (h : WK L zkbR.body (args ++ List.replicate 4 .und) none σ (EndsK zkbR K)) : LX L zlGq args σ K := lim_L (f := zlGq) (m := 1) (k := 4) zkbR rfl rfl rfl rfl rfl hl h
theorem zb0b {args : List AV} {σ : List Blk} {K : AV → List Blk → Prop} (hl : args.length = 5) (h : WK L zG2w.body (args ++ List.replicate 3 .und) none σ (EndsK zG2w K)) : LX L zDj1 args σ K := lim_L (f := zDj1) (m := 5) (k := 3) zG2w rfl rfl rfl rfl rfl hl h
theorem zLCf {args : List AV} {σ : List Blk} {K : AV → List Blk → Prop} (hl : args.length = 2) (h : WK L zwxN.body (args ++ List.replicate 6 .und) none σ (EndsK zwxN K)) : LX L zSWF args σ K := lim_L (f := zSWF) (m := 2) (k := 6) zwxN rfl rfl rfl rfl rfl hl h
theorem zB37 {args : List AV} {σ : List Blk} {K : AV → List Blk → Prop} (hl : args.length = 1) (h : WK L zcfm.body (args ++ List.replicate 6 .und) none σ (EndsK zcfm K)) : LX L zVj2 args σ K := lim_L (f := zVj2) (m := 1) (k := 6) zcfm rfl rfl rfl rfl rfl hl h
theorem zWPT {args : List AV} {σ : List Blk} {K : AV → List Blk → Prop} (hl : args.length = 2) (h : WK L zT7H.body (args ++ List.replicate 3 .und) none σ (EndsK zT7H K)) : LX L zb3m args σ K := lim_L (f := zb3m) (m := 2) (k := 3) zT7H rfl rfl rfl rfl rfl hl h
theorem zT2p {args : List AV} {σ : List Blk} {K : AV → List Blk → Prop} (hl : args.length = 2) (h : WK L zKR3.body (args ++ List.replicate 8 .und) none σ (EndsK zKR3 K)) : LX L z5pu args σ K := lim_L (f := z5pu) (m := 2) (k := 8) zKR3 rfl rfl rfl rfl rfl hl h
theorem zvs0 {args : List AV} {σ : List Blk} {K : AV → List Blk → Prop} (hl : args.length = 2) (h : WK L z4kj.body (args ++ List.replicate 2 .und) none σ (EndsK z4kj K)) : LX L zhAU args σ K := lim_L (f := zhAU) (m := 2) (k := 2) z4kj rfl rfl rfl rfl rfl hl h
theorem z7Pv {args : List AV} {σ : List Blk} {K : AV → List Blk → Prop} (hl : args.length = 4) (h : WK L zSqi.body (args ++ List.replicate 10 .und) none σ (EndsK zSqi K)) : LX L zJ5j args σ K := lim_L (f := zJ5j) (m := 4) (k := 10) zSqi rfl rfl rfl rfl rfl hl h
theorem zTPf {args : List AV} {σ : List Blk} {K : AV → List Blk → Prop} (hl : args.length = 2) (h : WK L zGc0.body (args ++ List.replicate 1 .und) none σ (EndsK zGc0 K)) : LX L zA97 args σ K := lim_L (f := zA97) (m := 2) (k := 1) zGc0 rfl rfl rfl rfl rfl hl h
theorem z3HA {args : List AV} {σ : List Blk} {K : AV → List Blk → Prop} (hl : args.length = 4) (h : WK L zSCi.body (args ++ List.replicate 6 .und) none σ (EndsK zSCi K)) : LX L zCCG args σ K := lim_L (f := zCCG) (m := 4) (k := 6) zSCi rfl rfl rfl rfl rfl hl h
theorem zfZ8 {args : List AV} {σ : List Blk} {K : AV → List Blk → Prop} (hl : args.length = 2) (h : WK L zR3L.body (args ++ List.replicate 4 .und) none σ (EndsK zR3L K)) : LX L z2JZ args σ K := lim_L (f := z2JZ) (m := 2) (k := 4) zR3L rfl rfl rfl rfl rfl hl h
theorem zXA2 {args : List AV} {σ : List Blk} {K : AV → List Blk → Prop} (hl : args.length = 1) (h : WK L z0c3.body (args ++ List.replicate 1 .und) none σ (EndsK z0c3 K)) : LX L zPpc args σ K := lim_L (f := zPpc) (m := 1) (k := 1) z0c3 rfl rfl rfl rfl rfl hl h
theorem zovR {args : List AV} {σ : List Blk} {K : AV → List Blk → Prop} (hl : args.length = 3) (h : WK L z5No.body (args ++ List.replicate 9 .und) none σ (EndsK z5No K)) : LX L zZvM args σ K := lim_L (f := zZvM) (m := 3) (k := 9) z5No rfl rfl rfl rfl rfl hl h
theorem z276 {args : List AV} {σ : List Blk} {K : AV → List Blk → Prop} (hl : args.length = 3) (h : WK L z6Fs.body (args ++ List.replicate 4 .und) none σ (EndsK z6Fs K)) : LX L zdOj args σ K := lim_L (f := zdOj) (m := 3) (k := 4) z6Fs rfl rfl rfl rfl rfl hl h
theorem zlgd {args : List AV} {σ : List Blk} {K : AV → List Blk → Prop} (hl : args.length = 4) (h : WK L zRtP.body (args ++ List.replicate 4 .und) none σ (EndsK zRtP K)) : LX L zWl5 args σ K := lim_L (f := zWl5) (m := 4) (k := 4) zRtP rfl rfl rfl rfl rfl hl h
end Ab
