/-
  The chapter's rows: the statements' own example.
-/
import Derived.Test.YtfkpilfnhgjmfaaMake
namespace Go.Proofs.Ytfkpilfnhgjmfaa
open Go.RowKit
def wK : List Int := [43, 126, 21, 22, 40, 174, 210, 166, 171, 247, 21, 136, 9, 207, 79, 60]
def wB : List Int := [50, 67, 246, 168, 136, 90, 48, 141, 49, 49, 152, 162, 224, 55, 7, 52]
theorem wP0 : pw 0 = 1 := by kernel_rfl
theorem wP1 : pw 1 = 2 := by kernel_rfl
theorem wP2 : pw 2 = 4 := by kernel_rfl
theorem wP3 : pw 3 = 8 := by kernel_rfl
theorem wP4 : pw 4 = 16 := by kernel_rfl
theorem wP5 : pw 5 = 32 := by kernel_rfl
theorem wP6 : pw 6 = 64 := by kernel_rfl
theorem wP7 : pw 7 = 128 := by kernel_rfl
theorem wP8 : pw 8 = 27 := by kernel_rfl
theorem wP9 : pw 9 = 54 := by kernel_rfl
theorem wK0 : kS wK 0 = [43, 126, 21, 22, 40, 174, 210, 166, 171, 247, 21, 136, 9, 207, 79, 60] := rfl
theorem wK1 : kS wK 1 = [160, 250, 254, 23, 136, 84, 44, 177, 35, 163, 57, 57, 42, 108, 118, 5] := by
  show nextK (pw 0) (kS wK 0) = _
  rw [wP0, wK0]
  kernel_rfl
theorem wK2 : kS wK 2 = [242, 194, 149, 242, 122, 150, 185, 67, 89, 53, 128, 122, 115, 89, 246, 127] := by
  show nextK (pw 1) (kS wK 1) = _
  rw [wP1, wK1]
  kernel_rfl
theorem wK3 : kS wK 3 = [61, 128, 71, 125, 71, 22, 254, 62, 30, 35, 126, 68, 109, 122, 136, 59] := by
  show nextK (pw 2) (kS wK 2) = _
  rw [wP2, wK2]
  kernel_rfl
theorem wK4 : kS wK 4 = [239, 68, 165, 65, 168, 82, 91, 127, 182, 113, 37, 59, 219, 11, 173, 0] := by
  show nextK (pw 3) (kS wK 3) = _
  rw [wP3, wK3]
  kernel_rfl
theorem wK5 : kS wK 5 = [212, 209, 198, 248, 124, 131, 157, 135, 202, 242, 184, 188, 17, 249, 21, 188] := by
  show nextK (pw 4) (kS wK 4) = _
  rw [wP4, wK4]
  kernel_rfl
theorem wK6 : kS wK 6 = [109, 136, 163, 122, 17, 11, 62, 253, 219, 249, 134, 65, 202, 0, 147, 253] := by
  show nextK (pw 5) (kS wK 5) = _
  rw [wP5, wK5]
  kernel_rfl
theorem wK7 : kS wK 7 = [78, 84, 247, 14, 95, 95, 201, 243, 132, 166, 79, 178, 78, 166, 220, 79] := by
  show nextK (pw 6) (kS wK 6) = _
  rw [wP6, wK6]
  kernel_rfl
theorem wK8 : kS wK 8 = [234, 210, 115, 33, 181, 141, 186, 210, 49, 43, 245, 96, 127, 141, 41, 47] := by
  show nextK (pw 7) (kS wK 7) = _
  rw [wP7, wK7]
  kernel_rfl
theorem wK9 : kS wK 9 = [172, 119, 102, 243, 25, 250, 220, 33, 40, 209, 41, 65, 87, 92, 0, 110] := by
  show nextK (pw 8) (kS wK 8) = _
  rw [wP8, wK8]
  kernel_rfl
theorem wK10 : kS wK 10 = [208, 20, 249, 168, 201, 238, 37, 137, 225, 63, 12, 200, 182, 99, 12, 166] := by
  show nextK (pw 9) (kS wK 9) = _
  rw [wP9, wK9]
  kernel_rfl
theorem wS0 : stepL wK wB 0 = [25, 61, 227, 190, 160, 244, 226, 43, 154, 198, 141, 42, 233, 248, 72, 8] := by kernel_rfl
theorem wS1 : stepL wK wB 1 = [164, 156, 127, 242, 104, 159, 53, 43, 107, 91, 234, 67, 2, 106, 80, 73] := by
  show roundL (stepL wK wB 0) (kS wK 1) false = _
  rw [wS0, wK1]
  kernel_rfl
theorem wS2 : stepL wK wB 2 = [170, 143, 95, 3, 97, 221, 227, 239, 130, 210, 74, 210, 104, 50, 70, 154] := by
  show roundL (stepL wK wB 1) (kS wK 2) false = _
  rw [wS1, wK2]
  kernel_rfl
theorem wS3 : stepL wK wB 3 = [72, 108, 78, 238, 103, 29, 157, 13, 77, 227, 177, 56, 214, 95, 88, 231] := by
  show roundL (stepL wK wB 2) (kS wK 3) false = _
  rw [wS2, wK3]
  kernel_rfl
theorem wS4 : stepL wK wB 4 = [224, 146, 127, 232, 200, 99, 99, 192, 217, 177, 53, 80, 133, 184, 190, 1] := by
  show roundL (stepL wK wB 3) (kS wK 4) false = _
  rw [wS3, wK4]
  kernel_rfl
theorem wS5 : stepL wK wB 5 = [241, 0, 111, 85, 193, 146, 76, 239, 124, 200, 139, 50, 93, 181, 213, 12] := by
  show roundL (stepL wK wB 4) (kS wK 5) false = _
  rw [wS4, wK5]
  kernel_rfl
theorem wS6 : stepL wK wB 6 = [38, 14, 46, 23, 61, 65, 183, 125, 232, 100, 114, 169, 253, 210, 139, 37] := by
  show roundL (stepL wK wB 5) (kS wK 6) false = _
  rw [wS5, wK6]
  kernel_rfl
theorem wS7 : stepL wK wB 7 = [90, 65, 66, 177, 25, 73, 220, 31, 163, 224, 25, 101, 122, 140, 4, 12] := by
  show roundL (stepL wK wB 6) (kS wK 7) false = _
  rw [wS6, wK7]
  kernel_rfl
theorem wS8 : stepL wK wB 8 = [234, 131, 92, 240, 4, 69, 51, 45, 101, 93, 152, 173, 133, 150, 176, 197] := by
  show roundL (stepL wK wB 7) (kS wK 8) false = _
  rw [wS7, wK8]
  kernel_rfl
theorem wS9 : stepL wK wB 9 = [235, 64, 242, 30, 89, 46, 56, 132, 139, 161, 19, 231, 27, 195, 66, 210] := by
  show roundL (stepL wK wB 8) (kS wK 9) false = _
  rw [wS8, wK9]
  kernel_rfl
theorem wS10 : stepL wK wB 10 = [57, 37, 132, 29, 2, 220, 9, 251, 220, 17, 133, 151, 25, 106, 11, 50] := by
  show roundL (stepL wK wB 9) (kS wK 10) true = _
  rw [wS9, wK10]
  kernel_rfl
end Go.Proofs.Ytfkpilfnhgjmfaa
