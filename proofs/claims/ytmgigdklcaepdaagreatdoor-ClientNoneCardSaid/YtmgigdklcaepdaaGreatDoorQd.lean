/-
  Each of these functions is what the translation's text means. Printed by a program.
-/
import Derived.Test.YtmgigdklcaepdaaGreatDoorTa
import Derived.Test.YtmgigdklcaepdaaGreatDoorFa
import Derived.Test.YtmgigdklcaepdaaGreatDoorFb
set_option linter.unusedVariables false
set_option linter.unusedSimpArgs false
namespace Go.Proofs.YtmgigdklcaepdaaGreatDoor.Ax
set_option linter.unusedVariables false
set_option maxRecDepth 100000
theorem e7 : F7 = denF tabT G [0, 2] 1 Go.Proofs.Tryz.f7 := by kernel_rfl
theorem k7 : FnOk Go.Proofs.Tryz.prog [] 7 F7 := denF_ok (G_ok []) tabT_ok mixedT e7 Go.Proofs.Tryz.func7 (by kernel_rfl)
theorem e11 : F11 = denF tabT G [0, 2] 1 Go.Proofs.Tryz.f11 := by kernel_rfl
theorem k11 : FnOk Go.Proofs.Tryz.prog [] 11 F11 := denF_ok (G_ok []) tabT_ok mixedT e11 Go.Proofs.Tryz.func11 (by kernel_rfl)
theorem e21 : F21 = denF tabT G [0, 1, 2, 4, 6, 7, 8] 3 Go.Proofs.Tryz.f21 := by kernel_rfl
theorem k21 : FnOk Go.Proofs.Tryz.prog [] 21 F21 := denF_ok (G_ok []) tabT_ok mixedT e21 Go.Proofs.Tryz.func21 (by kernel_rfl)
theorem e25 : F25 = denF tabT G [0, 1, 4] 2 Go.Proofs.Tryz.f25 := by kernel_rfl
theorem k25 : FnOk Go.Proofs.Tryz.prog [] 25 F25 := denF_ok (G_ok []) tabT_ok mixedT e25 Go.Proofs.Tryz.func25 (by kernel_rfl)
theorem e29 : F29 = denF tabT G [0, 2, 3, 4, 5, 6, 7, 8, 45, 71, 72] 1 Go.Proofs.Tryz.f29 := by kernel_rfl
theorem k29 : FnOk Go.Proofs.Tryz.prog [] 29 F29 := denF_ok (G_ok []) tabT_ok mixedT e29 Go.Proofs.Tryz.func29 (by kernel_rfl)
theorem e34 : F34 = denF tabT G [0, 1, 2, 3, 4, 5, 8, 30, 52, 53, 54] 1 Go.Proofs.Tryz.f34 := by kernel_rfl
theorem k34 : FnOk Go.Proofs.Tryz.prog [] 34 F34 := denF_ok (G_ok []) tabT_ok mixedT e34 Go.Proofs.Tryz.func34 (by kernel_rfl)
theorem e55 : F55 = denF tabT G [0] 0 Go.Proofs.Tryz.f55 := by kernel_rfl
theorem k55 : FnOk Go.Proofs.Tryz.prog [] 55 F55 := denF_ok (G_ok []) tabT_ok mixedT e55 Go.Proofs.Tryz.func55 (by kernel_rfl)
theorem e59 : F59 = denF tabT G [0, 2, 3, 4, 5, 7, 8, 10, 11, 12, 14, 15, 18, 29, 30, 31, 48, 49, 50, 65, 66, 67, 89, 90, 91] 1 Go.Proofs.Tryz.f59 := by kernel_rfl
theorem k59 : FnOk Go.Proofs.Tryz.prog [] 59 F59 := denF_ok (G_ok []) tabT_ok mixedT e59 Go.Proofs.Tryz.func59 (by kernel_rfl)
theorem e63 : F63 = denF tabT G [0] 1 Go.Proofs.Tryz.f63 := by kernel_rfl
theorem k63 : FnOk Go.Proofs.Tryz.prog [] 63 F63 := denF_ok (G_ok []) tabT_ok mixedT e63 Go.Proofs.Tryz.func63 (by kernel_rfl)
theorem e67 : F67 = denF tabT G [0, 1, 4] 2 Go.Proofs.Tryz.f67 := by kernel_rfl
theorem k67 : FnOk Go.Proofs.Tryz.prog [] 67 F67 := denF_ok (G_ok []) tabT_ok mixedT e67 Go.Proofs.Tryz.func67 (by kernel_rfl)
theorem e71 : F71 = denF tabT G [0, 1, 2, 3, 6, 8] 3 Go.Proofs.Tryz.f71 := by kernel_rfl
theorem k71 : FnOk Go.Proofs.Tryz.prog [] 71 F71 := denF_ok (G_ok []) tabT_ok mixedT e71 Go.Proofs.Tryz.func71 (by kernel_rfl)
theorem e75 : F75 = denF tabT G [0, 2, 3, 5, 6, 7, 8, 16] 1 Go.Proofs.Tryz.f75 := by kernel_rfl
theorem k75 : FnOk Go.Proofs.Tryz.prog [] 75 F75 := denF_ok (G_ok []) tabT_ok mixedT e75 Go.Proofs.Tryz.func75 (by kernel_rfl)
theorem e82 : F82 = denF tabT G [0, 1, 2, 4, 26, 41, 54, 55, 56] 1 Go.Proofs.Tryz.f82 := by kernel_rfl
theorem k82 : FnOk Go.Proofs.Tryz.prog [] 82 F82 := denF_ok (G_ok []) tabT_ok mixedT e82 Go.Proofs.Tryz.func82 (by kernel_rfl)
theorem e87 : F87 = denF tabT G [0, 1, 4] 2 Go.Proofs.Tryz.f87 := by kernel_rfl
theorem k87 : FnOk Go.Proofs.Tryz.prog [] 87 F87 := denF_ok (G_ok []) tabT_ok mixedT e87 Go.Proofs.Tryz.func87 (by kernel_rfl)
theorem e113 : F113 = denF tabT G [0, 2] 1 Go.Proofs.Tryz.f113 := by kernel_rfl
theorem k113 : FnOk Go.Proofs.Tryz.prog [] 113 F113 := denF_ok (G_ok []) tabT_ok mixedT e113 Go.Proofs.Tryz.func113 (by kernel_rfl)
theorem e120 : F120 = denF tabT G [0, 1, 4, 5] 2 Go.Proofs.Tryz.f120 := by kernel_rfl
theorem k120 : FnOk Go.Proofs.Tryz.prog [] 120 F120 := denF_ok (G_ok []) tabT_ok mixedT e120 Go.Proofs.Tryz.func120 (by kernel_rfl)
theorem e125 : F125 = denF tabT G [0, 2] 1 Go.Proofs.Tryz.f125 := by kernel_rfl
theorem k125 : FnOk Go.Proofs.Tryz.prog [] 125 F125 := denF_ok (G_ok []) tabT_ok mixedT e125 Go.Proofs.Tryz.func125 (by kernel_rfl)
theorem e130 : F130 = denF tabT G [0, 1, 2] 1 Go.Proofs.Tryz.f130 := by kernel_rfl
theorem k130 : FnOk Go.Proofs.Tryz.prog [] 130 F130 := denF_ok (G_ok []) tabT_ok mixedT e130 Go.Proofs.Tryz.func130 (by kernel_rfl)
theorem e134 : F134 = denF tabT G [0, 1, 4, 5, 7, 8] 2 Go.Proofs.Tryz.f134 := by kernel_rfl
theorem k134 : FnOk Go.Proofs.Tryz.prog [] 134 F134 := denF_ok (G_ok []) tabT_ok mixedT e134 Go.Proofs.Tryz.func134 (by kernel_rfl)
theorem e143 : F143 = denF tabT G [0, 2] 1 Go.Proofs.Tryz.f143 := by kernel_rfl
theorem k143 : FnOk Go.Proofs.Tryz.prog [] 143 F143 := denF_ok (G_ok []) tabT_ok mixedT e143 Go.Proofs.Tryz.func143 (by kernel_rfl)
theorem e147 : F147 = denF tabT G [0, 1, 4] 2 Go.Proofs.Tryz.f147 := by kernel_rfl
theorem k147 : FnOk Go.Proofs.Tryz.prog [] 147 F147 := denF_ok (G_ok []) tabT_ok mixedT e147 Go.Proofs.Tryz.func147 (by kernel_rfl)
theorem e181 : F181 = denF tabT G [0, 2, 3, 4, 6] 1 Go.Proofs.Tryz.f181 := by kernel_rfl
theorem k181 : FnOk Go.Proofs.Tryz.prog [] 181 F181 := denF_ok (G_ok []) tabT_ok mixedT e181 Go.Proofs.Tryz.func181 (by kernel_rfl)
theorem e185 : F185 = denF tabT G [0, 1, 2] 1 Go.Proofs.Tryz.f185 := by kernel_rfl
theorem k185 : FnOk Go.Proofs.Tryz.prog [] 185 F185 := denF_ok (G_ok []) tabT_ok mixedT e185 Go.Proofs.Tryz.func185 (by kernel_rfl)
theorem e193 : F193 = denF tabT G [0, 2] 1 Go.Proofs.Tryz.f193 := by kernel_rfl
theorem k193 : FnOk Go.Proofs.Tryz.prog [] 193 F193 := denF_ok (G_ok []) tabT_ok mixedT e193 Go.Proofs.Tryz.func193 (by kernel_rfl)
theorem e200 : F200 = denF tabT G [0, 1, 2, 3, 4] 2 Go.Proofs.Tryz.f200 := by kernel_rfl
theorem k200 : FnOk Go.Proofs.Tryz.prog [] 200 F200 := denF_ok (G_ok []) tabT_ok mixedT e200 Go.Proofs.Tryz.func200 (by kernel_rfl)
theorem e210 : F210 = denF tabT G [0, 2] 1 Go.Proofs.Tryz.f210 := by kernel_rfl
theorem k210 : FnOk Go.Proofs.Tryz.prog [] 210 F210 := denF_ok (G_ok []) tabT_ok mixedT e210 Go.Proofs.Tryz.func210 (by kernel_rfl)
theorem e251 : F251 = denF tabT G [0, 1, 2, 3, 4] 2 Go.Proofs.Tryz.f251 := by kernel_rfl
theorem k251 : FnOk Go.Proofs.Tryz.prog [] 251 F251 := denF_ok (G_ok []) tabT_ok mixedT e251 Go.Proofs.Tryz.func251 (by kernel_rfl)
theorem e258 : F258 = denF tabT G [0, 1, 4, 5, 6] 2 Go.Proofs.Tryz.f258 := by kernel_rfl
theorem k258 : FnOk Go.Proofs.Tryz.prog [] 258 F258 := denF_ok (G_ok []) tabT_ok mixedT e258 Go.Proofs.Tryz.func258 (by kernel_rfl)
theorem e262 : F262 = denF tabT G [0, 1, 4, 5, 6] 2 Go.Proofs.Tryz.f262 := by kernel_rfl
theorem k262 : FnOk Go.Proofs.Tryz.prog [] 262 F262 := denF_ok (G_ok []) tabT_ok mixedT e262 Go.Proofs.Tryz.func262 (by kernel_rfl)
theorem e273 : F273 = denF tabT G [0, 1, 4, 5, 6] 2 Go.Proofs.Tryz.f273 := by kernel_rfl
theorem k273 : FnOk Go.Proofs.Tryz.prog [] 273 F273 := denF_ok (G_ok []) tabT_ok mixedT e273 Go.Proofs.Tryz.func273 (by kernel_rfl)
theorem e304 : F304 = denF tabT G [0, 1, 2, 3, 4, 5] 2 Go.Proofs.Tryz.f304 := by kernel_rfl
theorem k304 : FnOk Go.Proofs.Tryz.prog [] 304 F304 := denF_ok (G_ok []) tabT_ok mixedT e304 Go.Proofs.Tryz.func304 (by kernel_rfl)
theorem e315 : F315 = denF tabT G [0, 1, 4, 5, 6, 7, 8, 9] 2 Go.Proofs.Tryz.f315 := by kernel_rfl
theorem k315 : FnOk Go.Proofs.Tryz.prog [] 315 F315 := denF_ok (G_ok []) tabT_ok mixedT e315 Go.Proofs.Tryz.func315 (by kernel_rfl)
theorem e362 : F362 = denF tabT G [0, 2] 1 Go.Proofs.Tryz.f362 := by kernel_rfl
theorem k362 : FnOk Go.Proofs.Tryz.prog [] 362 F362 := denF_ok (G_ok []) tabT_ok mixedT e362 Go.Proofs.Tryz.func362 (by kernel_rfl)
theorem e390 : F390 = denF tabT G [0, 1, 4, 5, 6, 7, 8, 9, 10, 11, 12, 13] 2 Go.Proofs.Tryz.f390 := by kernel_rfl
theorem k390 : FnOk Go.Proofs.Tryz.prog [] 390 F390 := denF_ok (G_ok []) tabT_ok mixedT e390 Go.Proofs.Tryz.func390 (by kernel_rfl)
theorem k472 : FnOk Go.Proofs.Tryz.prog [] 472 F472 := indexByte_ok Go.Proofs.Tryz.func472 (by kernel_rfl) (by kernel_rfl) (by kernel_rfl) (by kernel_rfl)
end Go.Proofs.YtmgigdklcaepdaaGreatDoor.Ax
