/-
  Plain: rings, and when all is back: tides of seven places that begin with 2, 3 are tried by the kernel. No statement of the seat is proved here.
-/
import Derived.Test.YtgogknjedpmcgaaWashP2
namespace Go.Am.Wash
theorem m7_20 : allP 7 chkM 5 [2, 0] = true := by kernel_rfl
theorem m7_21 : allP 7 chkM 5 [2, 1] = true := by kernel_rfl
theorem m7_23 : allP 7 chkM 5 [2, 3] = true := by kernel_rfl
theorem m7_24 : allP 7 chkM 5 [2, 4] = true := by kernel_rfl
theorem m7_25 : allP 7 chkM 5 [2, 5] = true := by kernel_rfl
theorem m7_26 : allP 7 chkM 5 [2, 6] = true := by kernel_rfl
theorem m7_2 : allP 7 chkM 6 [2] = true := allP_one 7 chkM 5 [2] fun y hy hb => match y, hy, hb with
  | 0, _, _ => m7_20
  | 1, _, _ => m7_21
  | 2, _, hb => absurd (by simp) hb
  | 3, _, _ => m7_23
  | 4, _, _ => m7_24
  | 5, _, _ => m7_25
  | 6, _, _ => m7_26
theorem m7_30 : allP 7 chkM 5 [3, 0] = true := by kernel_rfl
theorem m7_31 : allP 7 chkM 5 [3, 1] = true := by kernel_rfl
theorem m7_32 : allP 7 chkM 5 [3, 2] = true := by kernel_rfl
theorem m7_34 : allP 7 chkM 5 [3, 4] = true := by kernel_rfl
theorem m7_35 : allP 7 chkM 5 [3, 5] = true := by kernel_rfl
theorem m7_36 : allP 7 chkM 5 [3, 6] = true := by kernel_rfl
theorem m7_3 : allP 7 chkM 6 [3] = true := allP_one 7 chkM 5 [3] fun y hy hb => match y, hy, hb with
  | 0, _, _ => m7_30
  | 1, _, _ => m7_31
  | 2, _, _ => m7_32
  | 3, _, hb => absurd (by simp) hb
  | 4, _, _ => m7_34
  | 5, _, _ => m7_35
  | 6, _, _ => m7_36
end Go.Am.Wash

