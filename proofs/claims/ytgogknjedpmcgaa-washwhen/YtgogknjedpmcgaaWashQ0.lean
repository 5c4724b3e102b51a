import Derived.Test.YtgogknjedpmcgaaWashP2
/-
  Plain: rings, and when all is back: tides of seven places that begin with 0, 1 are tried by the kernel. No statement of the seat is proved here.
-/
namespace Go.Am.Wash
theorem m7_01 : allP 7 chkM 5 [0, 1] = true := by kernel_rfl
theorem m7_02 : allP 7 chkM 5 [0, 2] = true := by kernel_rfl
theorem m7_03 : allP 7 chkM 5 [0, 3] = true := by kernel_rfl
theorem m7_04 : allP 7 chkM 5 [0, 4] = true := by kernel_rfl
theorem m7_05 : allP 7 chkM 5 [0, 5] = true := by kernel_rfl
theorem m7_06 : allP 7 chkM 5 [0, 6] = true := by kernel_rfl
theorem m7_0 : allP 7 chkM 6 [0] = true := allP_one 7 chkM 5 [0] fun y hy hb => match y, hy, hb with
  | 0, _, hb => absurd (by simp) hb
  | 1, _, _ => m7_01
  | 2, _, _ => m7_02
  | 3, _, _ => m7_03
  | 4, _, _ => m7_04
  | 5, _, _ => m7_05
  | 6, _, _ => m7_06
theorem m7_10 : allP 7 chkM 5 [1, 0] = true := by kernel_rfl
theorem m7_12 : allP 7 chkM 5 [1, 2] = true := by kernel_rfl
theorem m7_13 : allP 7 chkM 5 [1, 3] = true := by kernel_rfl
theorem m7_14 : allP 7 chkM 5 [1, 4] = true := by kernel_rfl
theorem m7_15 : allP 7 chkM 5 [1, 5] = true := by kernel_rfl
theorem m7_16 : allP 7 chkM 5 [1, 6] = true := by kernel_rfl
theorem m7_1 : allP 7 chkM 6 [1] = true := allP_one 7 chkM 5 [1] fun y hy hb => match y, hy, hb with
  | 0, _, _ => m7_10
  | 1, _, hb => absurd (by simp) hb
  | 2, _, _ => m7_12
  | 3, _, _ => m7_13
  | 4, _, _ => m7_14
  | 5, _, _ => m7_15
  | 6, _, _ => m7_16
end Go.Am.Wash

/-
  Plain: rings, and when all is back: tides of seven places that begin with 2, 3 are tried by the kernel. No statement of the seat is proved here.
-/
namespace Go.Am.Wash
theorem m7_20 : allP 7 chkM 5 [2, 0] = true := by kernel_rfl
theorem m7_21 : allP 7 chkM 5 [2, 1] = true := by kernel_rfl
theorem m7_23 : allP 7 chkM 5 [2, 3] = true := by kernel_rfl
theorem m7_24 : allP 7 chkM 5 [2, 4] = true := by kernel_rfl
theorem m7_25 : allP 7 chkM 5 [2, 5] = true := by kernel_rfl
theorem m7_26 : allP 7 chkM 5 [2, 6] = true := by kernel_rfl
theorem m7_2 : allP 7 chkM 6 [2] = true := allP_one 7 chkM 5 [2] fun y hy hb => match y, hy, hb with
  | 0, _, _ => m7_20
  | 1, _, _ => m7_21
  | 2, _, hb => absurd (by simp) hb
  | 3, _, _ => m7_23
  | 4, _, _ => m7_24
  | 5, _, _ => m7_25
  | 6, _, _ => m7_26
theorem m7_30 : allP 7 chkM 5 [3, 0] = true := by kernel_rfl
theorem m7_31 : allP 7 chkM 5 [3, 1] = true := by kernel_rfl
theorem m7_32 : allP 7 chkM 5 [3, 2] = true := by kernel_rfl
theorem m7_34 : allP 7 chkM 5 [3, 4] = true := by kernel_rfl
theorem m7_35 : allP 7 chkM 5 [3, 5] = true := by kernel_rfl
theorem m7_36 : allP 7 chkM 5 [3, 6] = true := by kernel_rfl
theorem m7_3 : allP 7 chkM 6 [3] = true := allP_one 7 chkM 5 [3] fun y hy hb => match y, hy, hb with
  | 0, _, _ => m7_30
  | 1, _, _ => m7_31
  | 2, _, _ => m7_32
  | 3, _, hb => absurd (by simp) hb
  | 4, _, _ => m7_34
  | 5, _, _ => m7_35
  | 6, _, _ => m7_36
end Go.Am.Wash

/-
  Plain: rings, and when all is back: tides of seven places that begin with 4, 5, 6 are tried by the kernel. No statement of the seat is proved here.
-/
namespace Go.Am.Wash
theorem m7_40 : allP 7 chkM 5 [4, 0] = true := by kernel_rfl
theorem m7_41 : allP 7 chkM 5 [4, 1] = true := by kernel_rfl
theorem m7_42 : allP 7 chkM 5 [4, 2] = true := by kernel_rfl
theorem m7_43 : allP 7 chkM 5 [4, 3] = true := by kernel_rfl
theorem m7_45 : allP 7 chkM 5 [4, 5] = true := by kernel_rfl
theorem m7_46 : allP 7 chkM 5 [4, 6] = true := by kernel_rfl
theorem m7_4 : allP 7 chkM 6 [4] = true := allP_one 7 chkM 5 [4] fun y hy hb => match y, hy, hb with
  | 0, _, _ => m7_40
  | 1, _, _ => m7_41
  | 2, _, _ => m7_42
  | 3, _, _ => m7_43
  | 4, _, hb => absurd (by simp) hb
  | 5, _, _ => m7_45
  | 6, _, _ => m7_46
theorem m7_50 : allP 7 chkM 5 [5, 0] = true := by kernel_rfl
theorem m7_51 : allP 7 chkM 5 [5, 1] = true := by kernel_rfl
theorem m7_52 : allP 7 chkM 5 [5, 2] = true := by kernel_rfl
theorem m7_53 : allP 7 chkM 5 [5, 3] = true := by kernel_rfl
theorem m7_54 : allP 7 chkM 5 [5, 4] = true := by kernel_rfl
theorem m7_56 : allP 7 chkM 5 [5, 6] = true := by kernel_rfl
theorem m7_5 : allP 7 chkM 6 [5] = true := allP_one 7 chkM 5 [5] fun y hy hb => match y, hy, hb with
  | 0, _, _ => m7_50
  | 1, _, _ => m7_51
  | 2, _, _ => m7_52
  | 3, _, _ => m7_53
  | 4, _, _ => m7_54
  | 5, _, hb => absurd (by simp) hb
  | 6, _, _ => m7_56
theorem m7_60 : allP 7 chkM 5 [6, 0] = true := by kernel_rfl
theorem m7_61 : allP 7 chkM 5 [6, 1] = true := by kernel_rfl
theorem m7_62 : allP 7 chkM 5 [6, 2] = true := by kernel_rfl
theorem m7_63 : allP 7 chkM 5 [6, 3] = true := by kernel_rfl
theorem m7_64 : allP 7 chkM 5 [6, 4] = true := by kernel_rfl
theorem m7_65 : allP 7 chkM 5 [6, 5] = true := by kernel_rfl
theorem m7_6 : allP 7 chkM 6 [6] = true := allP_one 7 chkM 5 [6] fun y hy hb => match y, hy, hb with
  | 0, _, _ => m7_60
  | 1, _, _ => m7_61
  | 2, _, _ => m7_62
  | 3, _, _ => m7_63
  | 4, _, _ => m7_64
  | 5, _, _ => m7_65
  | 6, _, hb => absurd (by simp) hb
end Go.Am.Wash

/-
  Plain: all tides of at most seven places were tried. No statement of the seat is proved here.
-/
namespace Go.Am.Wash
theorem m7 : allP 7 chkM 7 [] = true := allP_one 7 chkM 6 [] fun y hy _ => match y, hy with
  | 0, _ => m7_0 | 1, _ => m7_1 | 2, _ => m7_2 | 3, _ => m7_3 | 4, _ => m7_4 | 5, _ => m7_5 | 6, _ => m7_6
theorem chk_all {t : List Nat} (h : Tide t.length t) (h1 : 1 ≤ t.length) (h7 : t.length ≤ 7) : chkM t = true := by
  have hm : allP t.length chkM t.length [] = true := by
    match hn : t.length, h1, h7 with
    | 1, _, _ => exact m1
    | 2, _, _ => exact m2
    | 3, _, _ => exact m3
    | 4, _, _ => exact m4
    | 5, _, _ => exact m5
    | 6, _, _ => exact m6
    | 7, _, _ => exact m7
  exact tide_all hm h
end Go.Am.Wash


