/-
  Each of these functions is what the translation's text means. Printed by a program.
-/
import Derived.Test.YtmgigdklcaepdaaGreatDoorUb
import Derived.Test.YtmgigdklcaepdaaGreatDoorGa
import Derived.Test.YtmgigdklcaepdaaGreatDoorGb
set_option linter.unusedVariables false
set_option linter.unusedSimpArgs false
namespace Go.Proofs.YtmgigdklcaepdaaGreatDoor.Ax
set_option linter.unusedVariables false
set_option maxRecDepth 100000
theorem e5 : F5 = denF tabT G [0, 2, 3, 4, 5] 1 Go.Proofs.Tryz.f5 := by kernel_rfl
theorem k5 : FnOk Go.Proofs.Tryz.prog [] 5 F5 := denF_ok (G_ok []) tabT_ok mixedT e5 Go.Proofs.Tryz.func5 (by kernel_rfl)
theorem e10 : F10 = denF tabT G [0, 1, 2, 3, 4] 1 Go.Proofs.Tryz.f10 := by kernel_rfl
theorem k10 : FnOk Go.Proofs.Tryz.prog [] 10 F10 := denF_ok (G_ok []) tabT_ok mixedT e10 Go.Proofs.Tryz.func10 (by kernel_rfl)
theorem e14 : F14 = denF tabT G [0, 1, 2, 3] 0 Go.Proofs.Tryz.f14 := by kernel_rfl
theorem k14 : FnOk Go.Proofs.Tryz.prog [] 14 F14 := denF_ok (G_ok []) tabT_ok mixedT e14 Go.Proofs.Tryz.func14 (by kernel_rfl)
theorem e18 : F18 = denF tabT G [0, 2] 1 Go.Proofs.Tryz.f18 := by kernel_rfl
theorem k18 : FnOk Go.Proofs.Tryz.prog [] 18 F18 := denF_ok (G_ok []) tabT_ok mixedT e18 Go.Proofs.Tryz.func18 (by kernel_rfl)
theorem e25 : F25 = denF tabT G [0, 1, 4] 2 Go.Proofs.Tryz.f25 := by kernel_rfl
theorem k25 : FnOk Go.Proofs.Tryz.prog [] 25 F25 := denF_ok (G_ok []) tabT_ok mixedT e25 Go.Proofs.Tryz.func25 (by kernel_rfl)
theorem e29 : F29 = denF tabT G [0, 2, 3, 4, 5, 6, 7, 8, 45, 71, 72] 1 Go.Proofs.Tryz.f29 := by kernel_rfl
theorem k29 : FnOk Go.Proofs.Tryz.prog [] 29 F29 := denF_ok (G_ok []) tabT_ok mixedT e29 Go.Proofs.Tryz.func29 (by kernel_rfl)
theorem e33 : F33 = denF tabT G [0, 1, 2, 3, 4, 5] 3 Go.Proofs.Tryz.f33 := by kernel_rfl
theorem k33 : FnOk Go.Proofs.Tryz.prog [] 33 F33 := denF_ok (G_ok []) tabT_ok mixedT e33 Go.Proofs.Tryz.func33 (by kernel_rfl)
theorem e37 : F37 = denF tabT G [0, 2, 3, 4, 5, 6, 7, 9, 39, 40, 41] 1 Go.Proofs.Tryz.f37 := by kernel_rfl
theorem k37 : FnOk Go.Proofs.Tryz.prog [] 37 F37 := denF_ok (G_ok []) tabT_ok mixedT e37 Go.Proofs.Tryz.func37 (by kernel_rfl)
theorem e41 : F41 = denF tabT G [0, 2, 4, 5, 7, 41, 42, 43] 1 Go.Proofs.Tryz.f41 := by kernel_rfl
theorem k41 : FnOk Go.Proofs.Tryz.prog [] 41 F41 := denF_ok (G_ok []) tabT_ok mixedT e41 Go.Proofs.Tryz.func41 (by kernel_rfl)
theorem e47 : F47 = denF tabT G [0, 1, 4, 5, 6, 8, 40, 41, 42] 2 Go.Proofs.Tryz.f47 := by kernel_rfl
theorem k47 : FnOk Go.Proofs.Tryz.prog [] 47 F47 := denF_ok (G_ok []) tabT_ok mixedT e47 Go.Proofs.Tryz.func47 (by kernel_rfl)
theorem e52 : F52 = denF tabT G [0, 2] 1 Go.Proofs.Tryz.f52 := by kernel_rfl
theorem k52 : FnOk Go.Proofs.Tryz.prog [] 52 F52 := denF_ok (G_ok []) tabT_ok mixedT e52 Go.Proofs.Tryz.func52 (by kernel_rfl)
theorem e59 : F59 = denF tabT G [0, 2, 3, 4, 5, 7, 8, 10, 11, 12, 14, 15, 18, 29, 30, 31, 48, 49, 50, 65, 66, 67, 89, 90, 91] 1 Go.Proofs.Tryz.f59 := by kernel_rfl
theorem k59 : FnOk Go.Proofs.Tryz.prog [] 59 F59 := denF_ok (G_ok []) tabT_ok mixedT e59 Go.Proofs.Tryz.func59 (by kernel_rfl)
theorem e65 : F65 = denF tabT G [0, 2] 1 Go.Proofs.Tryz.f65 := by kernel_rfl
theorem k65 : FnOk Go.Proofs.Tryz.prog [] 65 F65 := denF_ok (G_ok []) tabT_ok mixedT e65 Go.Proofs.Tryz.func65 (by kernel_rfl)
theorem e69 : F69 = denF tabT G [0, 1, 2, 4, 6, 7, 8] 1 Go.Proofs.Tryz.f69 := by kernel_rfl
theorem k69 : FnOk Go.Proofs.Tryz.prog [] 69 F69 := denF_ok (G_ok []) tabT_ok mixedT e69 Go.Proofs.Tryz.func69 (by kernel_rfl)
theorem e74 : F74 = denF tabT G [0, 1, 4, 5, 6, 7, 10, 11, 12] 2 Go.Proofs.Tryz.f74 := by kernel_rfl
theorem k74 : FnOk Go.Proofs.Tryz.prog [] 74 F74 := denF_ok (G_ok []) tabT_ok mixedT e74 Go.Proofs.Tryz.func74 (by kernel_rfl)
theorem e78 : F78 = denF tabT G [0, 2] 1 Go.Proofs.Tryz.f78 := by kernel_rfl
theorem k78 : FnOk Go.Proofs.Tryz.prog [] 78 F78 := denF_ok (G_ok []) tabT_ok mixedT e78 Go.Proofs.Tryz.func78 (by kernel_rfl)
theorem e82 : F82 = denF tabT G [0, 1, 2, 4, 26, 41, 54, 55, 56] 1 Go.Proofs.Tryz.f82 := by kernel_rfl
theorem k82 : FnOk Go.Proofs.Tryz.prog [] 82 F82 := denF_ok (G_ok []) tabT_ok mixedT e82 Go.Proofs.Tryz.func82 (by kernel_rfl)
theorem e86 : F86 = denF tabT G [0, 2, 3, 4, 6, 8, 10, 18, 19, 20, 33, 48, 80, 81, 82, 94, 95, 96, 106] 1 Go.Proofs.Tryz.f86 := by kernel_rfl
theorem k86 : FnOk Go.Proofs.Tryz.prog [] 86 F86 := denF_ok (G_ok []) tabT_ok mixedT e86 Go.Proofs.Tryz.func86 (by kernel_rfl)
theorem e90 : F90 = denF tabT G [0, 2] 1 Go.Proofs.Tryz.f90 := by kernel_rfl
theorem k90 : FnOk Go.Proofs.Tryz.prog [] 90 F90 := denF_ok (G_ok []) tabT_ok mixedT e90 Go.Proofs.Tryz.func90 (by kernel_rfl)
theorem e94 : F94 = denF tabT G [0, 1, 2] 1 Go.Proofs.Tryz.f94 := by kernel_rfl
theorem k94 : FnOk Go.Proofs.Tryz.prog [] 94 F94 := denF_ok (G_ok []) tabT_ok mixedT e94 Go.Proofs.Tryz.func94 (by kernel_rfl)
theorem e98 : F98 = denF tabT G [0, 1, 5, 13, 14, 15] 2 Go.Proofs.Tryz.f98 := by kernel_rfl
theorem k98 : FnOk Go.Proofs.Tryz.prog [] 98 F98 := denF_ok (G_ok []) tabT_ok mixedT e98 Go.Proofs.Tryz.func98 (by kernel_rfl)
theorem e103 : F103 = denF tabT G [0, 1, 2] 1 Go.Proofs.Tryz.f103 := by kernel_rfl
theorem k103 : FnOk Go.Proofs.Tryz.prog [] 103 F103 := denF_ok (G_ok []) tabT_ok mixedT e103 Go.Proofs.Tryz.func103 (by kernel_rfl)
theorem e107 : F107 = denF tabT G [0, 1, 2, 3] 1 Go.Proofs.Tryz.f107 := by kernel_rfl
theorem k107 : FnOk Go.Proofs.Tryz.prog [] 107 F107 := denF_ok (G_ok []) tabT_ok mixedT e107 Go.Proofs.Tryz.func107 (by kernel_rfl)
theorem e114 : F114 = denF tabT G [0, 1, 4] 2 Go.Proofs.Tryz.f114 := by kernel_rfl
theorem k114 : FnOk Go.Proofs.Tryz.prog [] 114 F114 := denF_ok (G_ok []) tabT_ok mixedT e114 Go.Proofs.Tryz.func114 (by kernel_rfl)
theorem e125 : F125 = denF tabT G [0, 2] 1 Go.Proofs.Tryz.f125 := by kernel_rfl
theorem k125 : FnOk Go.Proofs.Tryz.prog [] 125 F125 := denF_ok (G_ok []) tabT_ok mixedT e125 Go.Proofs.Tryz.func125 (by kernel_rfl)
theorem e130 : F130 = denF tabT G [0, 1, 2] 1 Go.Proofs.Tryz.f130 := by kernel_rfl
theorem k130 : FnOk Go.Proofs.Tryz.prog [] 130 F130 := denF_ok (G_ok []) tabT_ok mixedT e130 Go.Proofs.Tryz.func130 (by kernel_rfl)
theorem e134 : F134 = denF tabT G [0, 1, 4, 5, 7, 8] 2 Go.Proofs.Tryz.f134 := by kernel_rfl
theorem k134 : FnOk Go.Proofs.Tryz.prog [] 134 F134 := denF_ok (G_ok []) tabT_ok mixedT e134 Go.Proofs.Tryz.func134 (by kernel_rfl)
theorem e142 : F142 = denF tabT G [0, 1, 2] 1 Go.Proofs.Tryz.f142 := by kernel_rfl
theorem k142 : FnOk Go.Proofs.Tryz.prog [] 142 F142 := denF_ok (G_ok []) tabT_ok mixedT e142 Go.Proofs.Tryz.func142 (by kernel_rfl)
theorem e146 : F146 = denF tabT G [0, 1, 4, 5, 6, 7, 8, 9, 10, 15, 16, 90, 91] 2 Go.Proofs.Tryz.f146 := by kernel_rfl
theorem k146 : FnOk Go.Proofs.Tryz.prog [] 146 F146 := denF_ok (G_ok []) tabT_ok mixedT e146 Go.Proofs.Tryz.func146 (by kernel_rfl)
theorem e152 : F152 = denF tabT G [0, 2, 3, 4, 5, 6, 7, 8, 9, 10] 1 Go.Proofs.Tryz.f152 := by kernel_rfl
theorem k152 : FnOk Go.Proofs.Tryz.prog [] 152 F152 := denF_ok (G_ok []) tabT_ok mixedT e152 Go.Proofs.Tryz.func152 (by kernel_rfl)
theorem e157 : F157 = denF tabT G [0, 2] 1 Go.Proofs.Tryz.f157 := by kernel_rfl
theorem k157 : FnOk Go.Proofs.Tryz.prog [] 157 F157 := denF_ok (G_ok []) tabT_ok mixedT e157 Go.Proofs.Tryz.func157 (by kernel_rfl)
theorem e163 : F163 = denF tabT G [0, 1, 3, 4, 5] 2 Go.Proofs.Tryz.f163 := by kernel_rfl
theorem k163 : FnOk Go.Proofs.Tryz.prog [] 163 F163 := denF_ok (G_ok []) tabT_ok mixedT e163 Go.Proofs.Tryz.func163 (by kernel_rfl)
theorem e182 : F182 = denF tabT G [0, 1, 4, 5, 7, 8] 2 Go.Proofs.Tryz.f182 := by kernel_rfl
theorem k182 : FnOk Go.Proofs.Tryz.prog [] 182 F182 := denF_ok (G_ok []) tabT_ok mixedT e182 Go.Proofs.Tryz.func182 (by kernel_rfl)
theorem e192 : F192 = denF tabT G [0, 2, 3, 5, 8, 9, 10] 1 Go.Proofs.Tryz.f192 := by kernel_rfl
theorem k192 : FnOk Go.Proofs.Tryz.prog [] 192 F192 := denF_ok (G_ok []) tabT_ok mixedT e192 Go.Proofs.Tryz.func192 (by kernel_rfl)
theorem e200 : F200 = denF tabT G [0, 1, 2, 3, 4] 2 Go.Proofs.Tryz.f200 := by kernel_rfl
theorem k200 : FnOk Go.Proofs.Tryz.prog [] 200 F200 := denF_ok (G_ok []) tabT_ok mixedT e200 Go.Proofs.Tryz.func200 (by kernel_rfl)
theorem e213 : F213 = denF tabT G [0, 1, 4] 2 Go.Proofs.Tryz.f213 := by kernel_rfl
theorem k213 : FnOk Go.Proofs.Tryz.prog [] 213 F213 := denF_ok (G_ok []) tabT_ok mixedT e213 Go.Proofs.Tryz.func213 (by kernel_rfl)
theorem e251 : F251 = denF tabT G [0, 1, 2, 3, 4] 2 Go.Proofs.Tryz.f251 := by kernel_rfl
theorem k251 : FnOk Go.Proofs.Tryz.prog [] 251 F251 := denF_ok (G_ok []) tabT_ok mixedT e251 Go.Proofs.Tryz.func251 (by kernel_rfl)
theorem e263 : F263 = denF tabT G [0, 2, 3, 4, 5, 6, 7, 9, 10, 11, 13, 22, 34, 35, 36, 70, 71, 72] 1 Go.Proofs.Tryz.f263 := by kernel_rfl
theorem k263 : FnOk Go.Proofs.Tryz.prog [] 263 F263 := denF_ok (G_ok []) tabT_ok mixedT e263 Go.Proofs.Tryz.func263 (by kernel_rfl)
theorem e284 : F284 = denF tabT G [0, 1, 3] 2 Go.Proofs.Tryz.f284 := by kernel_rfl
theorem k284 : FnOk Go.Proofs.Tryz.prog [] 284 F284 := denF_ok (G_ok []) tabT_ok mixedT e284 Go.Proofs.Tryz.func284 (by kernel_rfl)
theorem e304 : F304 = denF tabT G [0, 1, 2, 3, 4, 5] 2 Go.Proofs.Tryz.f304 := by kernel_rfl
theorem k304 : FnOk Go.Proofs.Tryz.prog [] 304 F304 := denF_ok (G_ok []) tabT_ok mixedT e304 Go.Proofs.Tryz.func304 (by kernel_rfl)
theorem e331 : F331 = denF tabT G [0, 1, 4] 2 Go.Proofs.Tryz.f331 := by kernel_rfl
theorem k331 : FnOk Go.Proofs.Tryz.prog [] 331 F331 := denF_ok (G_ok []) tabT_ok mixedT e331 Go.Proofs.Tryz.func331 (by kernel_rfl)
theorem e371 : F371 = denF tabT G [0, 1, 2, 3, 4, 6, 7, 8, 73, 74, 91, 92] 3 Go.Proofs.Tryz.f371 := by kernel_rfl
theorem k371 : FnOk Go.Proofs.Tryz.prog [] 371 F371 := denF_ok (G_ok []) tabT_ok mixedT e371 Go.Proofs.Tryz.func371 (by kernel_rfl)
theorem e462 : F462 = denF tabT G [0, 2] 1 Go.Proofs.Tryz.f462 := by kernel_rfl
theorem k462 : FnOk Go.Proofs.Tryz.prog [] 462 F462 := denF_ok (G_ok []) tabT_ok mixedT e462 Go.Proofs.Tryz.func462 (by kernel_rfl)
end Go.Proofs.YtmgigdklcaepdaaGreatDoor.Ax
