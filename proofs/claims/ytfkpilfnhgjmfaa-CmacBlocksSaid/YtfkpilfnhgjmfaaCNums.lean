/-
  cmac: the statements' own example.
-/
import Derived.Test.YtfkpilfnhgjmfaaCPure
import Derived.Test.YtfkpilfnhgjmfaaNums
namespace Go.Proofs.Ytfkpilfnhgjmfaa
open Go.RowKit
def wM1 : List Int := [107, 193, 190, 226, 46, 64, 159, 150]
def wM2 : List Int := [233, 61, 126, 17, 115, 147, 23, 42]
def wM : List Int := [107, 193, 190, 226, 46, 64, 159, 150, 233, 61, 126, 17, 115, 147, 23, 42]
def wZ : List Int := [0, 0, 0, 0, 0, 0, 0, 0, 0, 0, 0, 0, 0, 0, 0, 0]
def wX1 : List Int := [119, 221, 172, 48, 106, 226, 102, 204, 249, 11, 193, 30, 228, 109, 81, 59]
def wX2 : List Int := [144, 47, 104, 250, 27, 49, 172, 240, 149, 184, 158, 158, 1, 165, 191, 244]
theorem cZ_0 : stepL wK wZ 0 = [43, 126, 21, 22, 40, 174, 210, 166, 171, 247, 21, 136, 9, 207, 79, 60] := by
  kernel_rfl
theorem cZ_1 : stepL wK wZ 1 = [220, 216, 127, 111, 155, 96, 170, 143, 31, 1, 15, 4, 87, 144, 162, 211] := by
  show roundL (stepL wK wZ 0) (kS wK 1) false = _
  rw [cZ_0, wK1]
  kernel_rfl
theorem cZ_2 : stepL wK wZ 2 = [158, 3, 133, 9, 68, 156, 70, 114, 195, 43, 10, 117, 56, 221, 130, 160] := by
  show roundL (stepL wK wZ 1) (kS wK 2) false = _
  rw [cZ_1, wK2]
  kernel_rfl
theorem cZ_3 : stepL wK wZ 3 = [213, 101, 103, 2, 107, 192, 49, 243, 205, 118, 100, 224, 41, 248, 252, 50] := by
  show roundL (stepL wK wZ 2) (kS wK 3) false = _
  rw [cZ_2, wK3]
  kernel_rfl
theorem cZ_4 : stepL wK wZ 4 = [92, 206, 255, 251, 217, 225, 254, 152, 156, 215, 223, 57, 123, 135, 232, 167] := by
  show roundL (stepL wK wZ 3) (kS wK 4) false = _
  rw [cZ_3, wK4]
  kernel_rfl
theorem cZ_5 : stepL wK wZ 5 = [145, 149, 183, 248, 144, 19, 154, 83, 4, 126, 151, 72, 124, 17, 228, 203] := by
  show roundL (stepL wK wZ 4) (kS wK 5) false = _
  rw [cZ_4, wK5]
  kernel_rfl
theorem cZ_6 : stepL wK wZ 6 = [100, 111, 117, 41, 247, 108, 188, 69, 253, 25, 147, 166, 126, 197, 52, 251] := by
  show roundL (stepL wK wZ 5) (kS wK 6) false = _
  rw [cZ_5, wK6]
  kernel_rfl
theorem cZ_7 : stepL wK wZ 7 = [235, 199, 86, 89, 85, 9, 177, 214, 46, 119, 46, 169, 17, 149, 33, 196] := by
  show roundL (stepL wK wZ 6) (kS wK 7) false = _
  rw [cZ_6, wK7]
  kernel_rfl
theorem cZ_8 : stepL wK wZ 8 = [13, 118, 221, 9, 100, 87, 20, 72, 106, 112, 150, 95, 42, 8, 136, 1] := by
  show roundL (stepL wK wZ 7) (kS wK 8) false = _
  rw [cZ_7, wK8]
  kernel_rfl
theorem cZ_9 : stepL wK wZ 9 = [24, 193, 85, 162, 169, 77, 94, 115, 239, 185, 116, 18, 251, 19, 120, 29] := by
  show roundL (stepL wK wZ 8) (kS wK 9) false = _
  rw [cZ_8, wK9]
  kernel_rfl
theorem cZ_10 : stepL wK wZ 10 = [125, 247, 107, 12, 26, 184, 153, 179, 62, 66, 240, 71, 185, 27, 84, 111] := by
  show roundL (stepL wK wZ 9) (kS wK 10) true = _
  rw [cZ_9, wK10]
  kernel_rfl
theorem cX1_0 : stepL wK wX1 0 = [92, 163, 185, 38, 66, 76, 180, 106, 82, 252, 212, 150, 237, 162, 30, 7] := by
  kernel_rfl
theorem cX1_1 : stepL wK wX1 1 = [194, 255, 89, 57, 158, 98, 86, 242, 57, 47, 169, 81, 131, 49, 131, 70] := by
  show roundL (stepL wK wX1 0) (kS wK 1) false = _
  rw [cX1_0, wK1]
  kernel_rfl
theorem cX1_2 : stepL wK wX1 2 = [212, 156, 73, 80, 173, 138, 82, 131, 109, 125, 88, 73, 234, 128, 29, 78] := by
  show roundL (stepL wK wX1 1) (kS wK 2) false = _
  rw [cX1_1, wK2]
  kernel_rfl
theorem cX1_3 : stepL wK wX1 3 = [106, 165, 212, 239, 155, 194, 50, 103, 253, 63, 214, 53, 58, 97, 156, 1] := by
  show roundL (stepL wK wX1 2) (kS wK 3) false = _
  rw [cX1_2, wK3]
  kernel_rfl
theorem cX1_4 : stepL wK wX1 4 = [14, 113, 241, 108, 30, 10, 231, 77, 249, 189, 154, 113, 127, 116, 204, 137] := by
  show roundL (stepL wK wX1 3) (kS wK 4) false = _
  rw [cX1_3, wK4]
  kernel_rfl
theorem cX1_5 : stepL wK wX1 5 = [47, 192, 147, 148, 13, 136, 243, 128, 12, 79, 212, 226, 103, 114, 169, 187] := by
  show roundL (stepL wK wX1 4) (kS wK 5) false = _
  rw [cX1_4, wK5]
  kernel_rfl
theorem cX1_6 : stepL wK wX1 6 = [178, 60, 199, 6, 194, 131, 182, 140, 237, 53, 215, 69, 155, 101, 5, 245] := by
  show roundL (stepL wK wX1 5) (kS wK 6) false = _
  rw [cX1_5, wK6]
  kernel_rfl
theorem cX1_7 : stepL wK wX1 7 = [231, 84, 1, 98, 176, 159, 29, 191, 91, 92, 108, 14, 96, 195, 13, 10] := by
  show roundL (stepL wK wX1 6) (kS wK 7) false = _
  rw [cX1_6, wK7]
  kernel_rfl
theorem cX1_8 : stepL wK wX1 8 = [152, 124, 53, 195, 195, 54, 71, 50, 69, 194, 2, 105, 171, 65, 108, 141] := by
  show roundL (stepL wK wX1 7) (kS wK 8) false = _
  rw [cX1_7, wK8]
  kernel_rfl
theorem cX1_9 : stepL wK wX1 9 = [5, 255, 44, 241, 84, 64, 5, 122, 223, 32, 150, 160, 250, 28, 57, 145] := by
  show roundL (stepL wK wX1 8) (kS wK 9) false = _
  rw [cX1_8, wK9]
  kernel_rfl
theorem cX1_10 : stepL wK wX1 10 = [187, 29, 105, 41, 233, 89, 55, 40, 127, 163, 125, 18, 155, 117, 103, 70] := by
  show roundL (stepL wK wX1 9) (kS wK 10) true = _
  rw [cX1_9, wK10]
  kernel_rfl
theorem cX2_0 : stepL wK wX2 0 = [187, 81, 125, 236, 51, 159, 126, 86, 62, 79, 139, 22, 8, 106, 240, 200] := by
  kernel_rfl
theorem cX2_1 : stepL wK wX2 1 = [204, 18, 150, 31, 192, 197, 33, 96, 20, 190, 164, 112, 150, 172, 163, 249] := by
  show roundL (stepL wK wX2 0) (kS wK 1) false = _
  rw [cX2_0, wK1]
  kernel_rfl
theorem cX2_2 : stepL wK wX2 2 = [69, 156, 90, 233, 54, 181, 226, 169, 94, 141, 187, 213, 164, 13, 189, 66] := by
  show roundL (stepL wK wX2 1) (kS wK 2) false = _
  rw [cX2_1, wK2]
  kernel_rfl
theorem cX2_3 : stepL wK wX2 3 = [67, 86, 71, 168, 206, 57, 112, 42, 161, 196, 248, 120, 29, 36, 49, 160] := by
  show roundL (stepL wK wX2 2) (kS wK 3) false = _
  rw [cX2_2, wK3]
  kernel_rfl
theorem cX2_4 : stepL wK wX2 4 = [76, 89, 20, 231, 132, 113, 4, 189, 205, 49, 78, 42, 173, 153, 197, 116] := by
  show roundL (stepL wK wX2 3) (kS wK 4) false = _
  rw [cX2_3, wK4]
  kernel_rfl
theorem cX2_5 : stepL wK wX2 5 = [197, 70, 191, 48, 162, 44, 245, 52, 2, 231, 138, 128, 113, 9, 128, 240] := by
  show roundL (stepL wK wX2 4) (kS wK 5) false = _
  rw [cX2_4, wK5]
  kernel_rfl
theorem cX2_6 : stepL wK wX2 6 = [91, 194, 7, 135, 11, 74, 29, 226, 38, 140, 200, 225, 82, 235, 241, 62] := by
  show roundL (stepL wK wX2 5) (kS wK 6) false = _
  rw [cX2_5, wK6]
  kernel_rfl
theorem cX2_7 : stepL wK wX2 7 = [7, 75, 30, 4, 19, 83, 230, 101, 12, 84, 115, 183, 125, 227, 185, 37] := by
  show roundL (stepL wK wX2 6) (kS wK 7) false = _
  rw [cX2_6, wK7]
  kernel_rfl
theorem cX2_8 : stepL wK wX2 8 = [231, 99, 31, 105, 139, 184, 70, 220, 218, 44, 41, 128, 115, 47, 130, 65] := by
  show roundL (stepL wK wX2 7) (kS wK 8) false = _
  rw [cX2_7, wK8]
  kernel_rfl
theorem cX2_9 : stepL wK wX2 9 = [13, 76, 81, 128, 26, 233, 166, 237, 255, 113, 97, 122, 211, 29, 140, 196] := by
  show roundL (stepL wK wX2 8) (kS wK 9) false = _
  rw [cX2_8, wK9]
  kernel_rfl
theorem cX2_10 : stepL wK wX2 10 = [7, 10, 22, 180, 107, 77, 65, 68, 247, 155, 221, 157, 208, 74, 40, 124] := by
  show roundL (stepL wK wX2 9) (kS wK 10) true = _
  rw [cX2_9, wK10]
  kernel_rfl
theorem wk1 : k1L wK = [251, 238, 214, 24, 53, 113, 51, 102, 124, 133, 224, 143, 114, 54, 168, 222] := by
  show dblL (stepL wK wZ 10) = _
  rw [cZ_10]
  kernel_rfl
theorem wk2 : k2L wK = [247, 221, 172, 48, 106, 226, 102, 204, 249, 11, 193, 30, 228, 109, 81, 59] := by
  show dblL (k1L wK) = _
  rw [wk1]
  kernel_rfl
theorem tag_none : tagL wK [] = [187, 29, 105, 41, 233, 89, 55, 40, 127, 163, 125, 18, 155, 117, 103, 70] := by
  show stepL wK (xorL wZ (xorL ((tab 16 (el [])).set 0 128) (k2L wK))) 10 = _
  rw [wk2, show xorL wZ (xorL ((tab 16 (el [])).set 0 128) [247, 221, 172, 48, 106, 226, 102, 204, 249, 11, 193, 30, 228, 109, 81, 59]) = wX1 from by kernel_rfl, cX1_10]
theorem tag_some : tagL wK wM = [7, 10, 22, 180, 107, 77, 65, 68, 247, 155, 221, 157, 208, 74, 40, 124] := by
  show stepL wK (xorL wZ (xorL (tab 16 (el wM)) (k1L wK))) 10 = _
  rw [wk1, show xorL wZ (xorL (tab 16 (el wM)) [251, 238, 214, 24, 53, 113, 51, 102, 124, 133, 224, 143, 114, 54, 168, 222]) = wX2 from by kernel_rfl, cX2_10]
end Go.Proofs.Ytfkpilfnhgjmfaa
