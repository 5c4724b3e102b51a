/-
  Plain: rings, and when all is back: tides of seven places that begin with 4, 5, 6 are tried by the kernel. No statement of the seat is proved here.
-/
import Derived.Test.YtgogknjedpmcgaaWashP2
namespace Go.Am.Wash
theorem m7_40 : allP 7 chkM 5 [4, 0] = true := by kernel_rfl
theorem m7_41 : allP 7 chkM 5 [4, 1] = true := by kernel_rfl
theorem m7_42 : allP 7 chkM 5 [4, 2] = true := by kernel_rfl
theorem m7_43 : allP 7 chkM 5 [4, 3] = true := by kernel_rfl
theorem m7_45 : allP 7 chkM 5 [4, 5] = true := by kernel_rfl
theorem m7_46 : allP 7 chkM 5 [4, 6] = true := by kernel_rfl
theorem m7_4 : allP 7 chkM 6 [4] = true := allP_one 7 chkM 5 [4] fun y hy hb => match y, hy, hb with
  | 0, _, _ => m7_40
  | 1, _, _ => m7_41
  | 2, _, _ => m7_42
  | 3, _, _ => m7_43
  | 4, _, hb => absurd (by simp) hb
  | 5, _, _ => m7_45
  | 6, _, _ => m7_46
theorem m7_50 : allP 7 chkM 5 [5, 0] = true := by kernel_rfl
theorem m7_51 : allP 7 chkM 5 [5, 1] = true := by kernel_rfl
theorem m7_52 : allP 7 chkM 5 [5, 2] = true := by kernel_rfl
theorem m7_53 : allP 7 chkM 5 [5, 3] = true := by kernel_rfl
theorem m7_54 : allP 7 chkM 5 [5, 4] = true := by kernel_rfl
theorem m7_56 : allP 7 chkM 5 [5, 6] = true := by kernel_rfl
theorem m7_5 : allP 7 chkM 6 [5] = true := allP_one 7 chkM 5 [5] fun y hy hb => match y, hy, hb with
  | 0, _, _ => m7_50
  | 1, _, _ => m7_51
  | 2, _, _ => m7_52
  | 3, _, _ => m7_53
  | 4, _, _ => m7_54
  | 5, _, hb => absurd (by simp) hb
  | 6, _, _ => m7_56
theorem m7_60 : allP 7 chkM 5 [6, 0] = true := by kernel_rfl
theorem m7_61 : allP 7 chkM 5 [6, 1] = true := by kernel_rfl
theorem m7_62 : allP 7 chkM 5 [6, 2] = true := by kernel_rfl
theorem m7_63 : allP 7 chkM 5 [6, 3] = true := by kernel_rfl
theorem m7_64 : allP 7 chkM 5 [6, 4] = true := by kernel_rfl
theorem m7_65 : allP 7 chkM 5 [6, 5] = true := by kernel_rfl
theorem m7_6 : allP 7 chkM 6 [6] = true := allP_one 7 chkM 5 [6] fun y hy hb => match y, hy, hb with
  | 0, _, _ => m7_60
  | 1, _, _ => m7_61
  | 2, _, _ => m7_62
  | 3, _, _ => m7_63
  | 4, _, _ => m7_64
  | 5, _, _ => m7_65
  | 6, _, hb => absurd (by simp) hb
end Go.Am.Wash

