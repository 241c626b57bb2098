/-
  Each of these functions is what the translation's text means. Printed by a program.
-/
import Derived.Test.YtmgigdklcaepdaaGreatDoorUb
import Derived.Test.YtmgigdklcaepdaaGreatDoorGa
import Derived.Test.YtmgigdklcaepdaaGreatDoorGb
set_option linter.unusedVariables false
set_option linter.unusedSimpArgs false
namespace Go.Proofs.YtmgigdklcaepdaaGreatDoor.Ax
set_option linter.unusedVariables false
set_option maxRecDepth 100000
theorem e4 : F4 = denF tabT G [0, 1] 0 Go.Proofs.Tryz.f4 := by kernel_rfl
theorem k4 : FnOk Go.Proofs.Tryz.prog [] 4 F4 := denF_ok (G_ok []) tabT_ok mixedT e4 Go.Proofs.Tryz.func4 (by kernel_rfl)
theorem e9 : F9 = denF tabT G [0, 1, 4, 5, 6, 7, 9, 31, 90, 91, 92] 2 Go.Proofs.Tryz.f9 := by kernel_rfl
theorem k9 : FnOk Go.Proofs.Tryz.prog [] 9 F9 := denF_ok (G_ok []) tabT_ok mixedT e9 Go.Proofs.Tryz.func9 (by kernel_rfl)
theorem e13 : F13 = denF tabT G [0, 2, 3, 4, 23, 24] 1 Go.Proofs.Tryz.f13 := by kernel_rfl
theorem k13 : FnOk Go.Proofs.Tryz.prog [] 13 F13 := denF_ok (G_ok []) tabT_ok mixedT e13 Go.Proofs.Tryz.func13 (by kernel_rfl)
theorem e17 : F17 = denF tabT G [0, 1, 4] 2 Go.Proofs.Tryz.f17 := by kernel_rfl
theorem k17 : FnOk Go.Proofs.Tryz.prog [] 17 F17 := denF_ok (G_ok []) tabT_ok mixedT e17 Go.Proofs.Tryz.func17 (by kernel_rfl)
theorem e24 : F24 = denF tabT G [0] 0 Go.Proofs.Tryz.f24 := by kernel_rfl
theorem k24 : FnOk Go.Proofs.Tryz.prog [] 24 F24 := denF_ok (G_ok []) tabT_ok mixedT e24 Go.Proofs.Tryz.func24 (by kernel_rfl)
theorem e28 : F28 = denF tabT G [0] 1 Go.Proofs.Tryz.f28 := by kernel_rfl
theorem k28 : FnOk Go.Proofs.Tryz.prog [] 28 F28 := denF_ok (G_ok []) tabT_ok mixedT e28 Go.Proofs.Tryz.func28 (by kernel_rfl)
theorem e32 : F32 = denF tabT G [0, 2] 1 Go.Proofs.Tryz.f32 := by kernel_rfl
theorem k32 : FnOk Go.Proofs.Tryz.prog [] 32 F32 := denF_ok (G_ok []) tabT_ok mixedT e32 Go.Proofs.Tryz.func32 (by kernel_rfl)
theorem e36 : F36 = denF tabT G [0] 0 Go.Proofs.Tryz.f36 := by kernel_rfl
theorem k36 : FnOk Go.Proofs.Tryz.prog [] 36 F36 := denF_ok (G_ok []) tabT_ok mixedT e36 Go.Proofs.Tryz.func36 (by kernel_rfl)
theorem e40 : F40 = denF tabT G [0, 1, 4] 2 Go.Proofs.Tryz.f40 := by kernel_rfl
theorem k40 : FnOk Go.Proofs.Tryz.prog [] 40 F40 := denF_ok (G_ok []) tabT_ok mixedT e40 Go.Proofs.Tryz.func40 (by kernel_rfl)
theorem e44 : F44 = denF tabT G [0, 1, 4, 5, 6, 7, 8, 10] 2 Go.Proofs.Tryz.f44 := by kernel_rfl
theorem k44 : FnOk Go.Proofs.Tryz.prog [] 44 F44 := denF_ok (G_ok []) tabT_ok mixedT e44 Go.Proofs.Tryz.func44 (by kernel_rfl)
theorem e50 : F50 = denF tabT G [0, 1, 4, 5, 6, 19] 2 Go.Proofs.Tryz.f50 := by kernel_rfl
theorem k50 : FnOk Go.Proofs.Tryz.prog [] 50 F50 := denF_ok (G_ok []) tabT_ok mixedT e50 Go.Proofs.Tryz.func50 (by kernel_rfl)
theorem e57 : F57 = denF tabT G [0, 1, 4, 5, 7, 8, 9, 10] 2 Go.Proofs.Tryz.f57 := by kernel_rfl
theorem k57 : FnOk Go.Proofs.Tryz.prog [] 57 F57 := denF_ok (G_ok []) tabT_ok mixedT e57 Go.Proofs.Tryz.func57 (by kernel_rfl)
theorem e64 : F64 = denF tabT G [0, 2] 1 Go.Proofs.Tryz.f64 := by kernel_rfl
theorem k64 : FnOk Go.Proofs.Tryz.prog [] 64 F64 := denF_ok (G_ok []) tabT_ok mixedT e64 Go.Proofs.Tryz.func64 (by kernel_rfl)
theorem e68 : F68 = denF tabT G [0, 1, 2] 1 Go.Proofs.Tryz.f68 := by kernel_rfl
theorem k68 : FnOk Go.Proofs.Tryz.prog [] 68 F68 := denF_ok (G_ok []) tabT_ok mixedT e68 Go.Proofs.Tryz.func68 (by kernel_rfl)
theorem e73 : F73 = denF tabT G [0, 1, 4, 5, 6, 41] 2 Go.Proofs.Tryz.f73 := by kernel_rfl
theorem k73 : FnOk Go.Proofs.Tryz.prog [] 73 F73 := denF_ok (G_ok []) tabT_ok mixedT e73 Go.Proofs.Tryz.func73 (by kernel_rfl)
theorem e77 : F77 = denF tabT G [0, 2, 3, 4, 5, 10, 11] 1 Go.Proofs.Tryz.f77 := by kernel_rfl
theorem k77 : FnOk Go.Proofs.Tryz.prog [] 77 F77 := denF_ok (G_ok []) tabT_ok mixedT e77 Go.Proofs.Tryz.func77 (by kernel_rfl)
theorem e81 : F81 = denF tabT G [0, 2] 1 Go.Proofs.Tryz.f81 := by kernel_rfl
theorem k81 : FnOk Go.Proofs.Tryz.prog [] 81 F81 := denF_ok (G_ok []) tabT_ok mixedT e81 Go.Proofs.Tryz.func81 (by kernel_rfl)
theorem e85 : F85 = denF tabT G [0, 1, 2, 6, 7, 8, 9] 3 Go.Proofs.Tryz.f85 := by kernel_rfl
theorem k85 : FnOk Go.Proofs.Tryz.prog [] 85 F85 := denF_ok (G_ok []) tabT_ok mixedT e85 Go.Proofs.Tryz.func85 (by kernel_rfl)
theorem e89 : F89 = denF tabT G [0, 2, 3, 4, 6, 8, 10, 11, 12, 13, 31, 32, 33] 1 Go.Proofs.Tryz.f89 := by kernel_rfl
theorem k89 : FnOk Go.Proofs.Tryz.prog [] 89 F89 := denF_ok (G_ok []) tabT_ok mixedT e89 Go.Proofs.Tryz.func89 (by kernel_rfl)
theorem e93 : F93 = denF tabT G [0] 1 Go.Proofs.Tryz.f93 := by kernel_rfl
theorem k93 : FnOk Go.Proofs.Tryz.prog [] 93 F93 := denF_ok (G_ok []) tabT_ok mixedT e93 Go.Proofs.Tryz.func93 (by kernel_rfl)
theorem e97 : F97 = denF tabT G [0, 2] 1 Go.Proofs.Tryz.f97 := by kernel_rfl
theorem k97 : FnOk Go.Proofs.Tryz.prog [] 97 F97 := denF_ok (G_ok []) tabT_ok mixedT e97 Go.Proofs.Tryz.func97 (by kernel_rfl)
theorem e102 : F102 = denF tabT G [0, 2] 1 Go.Proofs.Tryz.f102 := by kernel_rfl
theorem k102 : FnOk Go.Proofs.Tryz.prog [] 102 F102 := denF_ok (G_ok []) tabT_ok mixedT e102 Go.Proofs.Tryz.func102 (by kernel_rfl)
theorem e106 : F106 = denF tabT G [0, 1, 3, 4, 5] 2 Go.Proofs.Tryz.f106 := by kernel_rfl
theorem k106 : FnOk Go.Proofs.Tryz.prog [] 106 F106 := denF_ok (G_ok []) tabT_ok mixedT e106 Go.Proofs.Tryz.func106 (by kernel_rfl)
theorem e113 : F113 = denF tabT G [0, 2] 1 Go.Proofs.Tryz.f113 := by kernel_rfl
theorem k113 : FnOk Go.Proofs.Tryz.prog [] 113 F113 := denF_ok (G_ok []) tabT_ok mixedT e113 Go.Proofs.Tryz.func113 (by kernel_rfl)
theorem e120 : F120 = denF tabT G [0, 1, 4, 5] 2 Go.Proofs.Tryz.f120 := by kernel_rfl
theorem k120 : FnOk Go.Proofs.Tryz.prog [] 120 F120 := denF_ok (G_ok []) tabT_ok mixedT e120 Go.Proofs.Tryz.func120 (by kernel_rfl)
theorem e128 : F128 = denF tabT G [0, 1, 5, 7, 12, 13, 14, 29, 30, 31] 2 Go.Proofs.Tryz.f128 := by kernel_rfl
theorem k128 : FnOk Go.Proofs.Tryz.prog [] 128 F128 := denF_ok (G_ok []) tabT_ok mixedT e128 Go.Proofs.Tryz.func128 (by kernel_rfl)
theorem e133 : F133 = denF tabT G [0, 2, 3] 1 Go.Proofs.Tryz.f133 := by kernel_rfl
theorem k133 : FnOk Go.Proofs.Tryz.prog [] 133 F133 := denF_ok (G_ok []) tabT_ok mixedT e133 Go.Proofs.Tryz.func133 (by kernel_rfl)
theorem e141 : F141 = denF tabT G [0, 2, 3, 11, 23, 42, 43, 64] 1 Go.Proofs.Tryz.f141 := by kernel_rfl
theorem k141 : FnOk Go.Proofs.Tryz.prog [] 141 F141 := denF_ok (G_ok []) tabT_ok mixedT e141 Go.Proofs.Tryz.func141 (by kernel_rfl)
theorem e145 : F145 = denF tabT G [0, 2, 3, 4, 6, 7, 12, 13, 51, 52, 53] 1 Go.Proofs.Tryz.f145 := by kernel_rfl
theorem k145 : FnOk Go.Proofs.Tryz.prog [] 145 F145 := denF_ok (G_ok []) tabT_ok mixedT e145 Go.Proofs.Tryz.func145 (by kernel_rfl)
theorem e151 : F151 = denF tabT G [0, 1, 4, 5, 6, 7] 2 Go.Proofs.Tryz.f151 := by kernel_rfl
theorem k151 : FnOk Go.Proofs.Tryz.prog [] 151 F151 := denF_ok (G_ok []) tabT_ok mixedT e151 Go.Proofs.Tryz.func151 (by kernel_rfl)
theorem e156 : F156 = denF tabT G [0, 2, 3, 5, 6, 7, 8] 1 Go.Proofs.Tryz.f156 := by kernel_rfl
theorem k156 : FnOk Go.Proofs.Tryz.prog [] 156 F156 := denF_ok (G_ok []) tabT_ok mixedT e156 Go.Proofs.Tryz.func156 (by kernel_rfl)
theorem e162 : F162 = denF tabT G [0, 2] 1 Go.Proofs.Tryz.f162 := by kernel_rfl
theorem k162 : FnOk Go.Proofs.Tryz.prog [] 162 F162 := denF_ok (G_ok []) tabT_ok mixedT e162 Go.Proofs.Tryz.func162 (by kernel_rfl)
theorem e181 : F181 = denF tabT G [0, 2, 3, 4, 6] 1 Go.Proofs.Tryz.f181 := by kernel_rfl
theorem k181 : FnOk Go.Proofs.Tryz.prog [] 181 F181 := denF_ok (G_ok []) tabT_ok mixedT e181 Go.Proofs.Tryz.func181 (by kernel_rfl)
theorem e186 : F186 = denF tabT G [0, 1, 4, 5] 2 Go.Proofs.Tryz.f186 := by kernel_rfl
theorem k186 : FnOk Go.Proofs.Tryz.prog [] 186 F186 := denF_ok (G_ok []) tabT_ok mixedT e186 Go.Proofs.Tryz.func186 (by kernel_rfl)
theorem e199 : F199 = denF tabT G [0, 2, 3, 5, 6] 1 Go.Proofs.Tryz.f199 := by kernel_rfl
theorem k199 : FnOk Go.Proofs.Tryz.prog [] 199 F199 := denF_ok (G_ok []) tabT_ok mixedT e199 Go.Proofs.Tryz.func199 (by kernel_rfl)
theorem e207 : F207 = denF tabT G [0, 1, 3] 2 Go.Proofs.Tryz.f207 := by kernel_rfl
theorem k207 : FnOk Go.Proofs.Tryz.prog [] 207 F207 := denF_ok (G_ok []) tabT_ok mixedT e207 Go.Proofs.Tryz.func207 (by kernel_rfl)
theorem e246 : F246 = denF tabT G [0, 1, 4] 2 Go.Proofs.Tryz.f246 := by kernel_rfl
theorem k246 : FnOk Go.Proofs.Tryz.prog [] 246 F246 := denF_ok (G_ok []) tabT_ok mixedT e246 Go.Proofs.Tryz.func246 (by kernel_rfl)
theorem e260 : F260 = denF tabT G [0, 1, 2, 6, 7, 8, 9] 3 Go.Proofs.Tryz.f260 := by kernel_rfl
theorem k260 : FnOk Go.Proofs.Tryz.prog [] 260 F260 := denF_ok (G_ok []) tabT_ok mixedT e260 Go.Proofs.Tryz.func260 (by kernel_rfl)
theorem e273 : F273 = denF tabT G [0, 1, 4, 5, 6] 2 Go.Proofs.Tryz.f273 := by kernel_rfl
theorem k273 : FnOk Go.Proofs.Tryz.prog [] 273 F273 := denF_ok (G_ok []) tabT_ok mixedT e273 Go.Proofs.Tryz.func273 (by kernel_rfl)
theorem e302 : F302 = denF tabT G [0, 1, 2, 3, 4, 10, 11, 12, 13, 14, 15, 16, 17, 18, 19, 20] 5 Go.Proofs.Tryz.f302 := by kernel_rfl
theorem k302 : FnOk Go.Proofs.Tryz.prog [] 302 F302 := denF_ok (G_ok []) tabT_ok mixedT e302 Go.Proofs.Tryz.func302 (by kernel_rfl)
theorem e321 : F321 = denF tabT G [0, 2, 3] 1 Go.Proofs.Tryz.f321 := by kernel_rfl
theorem k321 : FnOk Go.Proofs.Tryz.prog [] 321 F321 := denF_ok (G_ok []) tabT_ok mixedT e321 Go.Proofs.Tryz.func321 (by kernel_rfl)
theorem e363 : F363 = denF tabT G [0, 1, 2, 3, 8, 9] 4 Go.Proofs.Tryz.f363 := by kernel_rfl
theorem k363 : FnOk Go.Proofs.Tryz.prog [] 363 F363 := denF_ok (G_ok []) tabT_ok mixedT e363 Go.Proofs.Tryz.func363 (by kernel_rfl)
theorem e434 : F434 = denF tabT G [0, 1, 4] 2 Go.Proofs.Tryz.f434 := by kernel_rfl
theorem k434 : FnOk Go.Proofs.Tryz.prog [] 434 F434 := denF_ok (G_ok []) tabT_ok mixedT e434 Go.Proofs.Tryz.func434 (by kernel_rfl)
end Go.Proofs.YtmgigdklcaepdaaGreatDoor.Ax
