/-
  Plain: rings, and when all is back: tides of seven places that begin with 0, 1 are tried by the kernel. No statement of the seat is proved here.
-/
import Derived.Test.YtgogknjedpmcgaaWashP2
namespace Go.Am.Wash
theorem m7_01 : allP 7 chkM 5 [0, 1] = true := by kernel_rfl
theorem m7_02 : allP 7 chkM 5 [0, 2] = true := by kernel_rfl
theorem m7_03 : allP 7 chkM 5 [0, 3] = true := by kernel_rfl
theorem m7_04 : allP 7 chkM 5 [0, 4] = true := by kernel_rfl
theorem m7_05 : allP 7 chkM 5 [0, 5] = true := by kernel_rfl
theorem m7_06 : allP 7 chkM 5 [0, 6] = true := by kernel_rfl
theorem m7_0 : allP 7 chkM 6 [0] = true := allP_one 7 chkM 5 [0] fun y hy hb => match y, hy, hb with
  | 0, _, hb => absurd (by simp) hb
  | 1, _, _ => m7_01
  | 2, _, _ => m7_02
  | 3, _, _ => m7_03
  | 4, _, _ => m7_04
  | 5, _, _ => m7_05
  | 6, _, _ => m7_06
theorem m7_10 : allP 7 chkM 5 [1, 0] = true := by kernel_rfl
theorem m7_12 : allP 7 chkM 5 [1, 2] = true := by kernel_rfl
theorem m7_13 : allP 7 chkM 5 [1, 3] = true := by kernel_rfl
theorem m7_14 : allP 7 chkM 5 [1, 4] = true := by kernel_rfl
theorem m7_15 : allP 7 chkM 5 [1, 5] = true := by kernel_rfl
theorem m7_16 : allP 7 chkM 5 [1, 6] = true := by kernel_rfl
theorem m7_1 : allP 7 chkM 6 [1] = true := allP_one 7 chkM 5 [1] fun y hy hb => match y, hy, hb with
  | 0, _, _ => m7_10
  | 1, _, hb => absurd (by simp) hb
  | 2, _, _ => m7_12
  | 3, _, _ => m7_13
  | 4, _, _ => m7_14
  | 5, _, _ => m7_15
  | 6, _, _ => m7_16
end Go.Am.Wash

