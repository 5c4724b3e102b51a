/-
  Plain: all tides of at most seven places were tried. No statement of the seat is proved here.
-/
import Derived.Test.YtgogknjedpmcgaaWashQ0
import Derived.Test.YtgogknjedpmcgaaWashQ1
import Derived.Test.YtgogknjedpmcgaaWashQ2
namespace Go.Am.Wash
theorem m7 : allP 7 chkM 7 [] = true := allP_one 7 chkM 6 [] fun y hy _ => match y, hy with
  | 0, _ => m7_0 | 1, _ => m7_1 | 2, _ => m7_2 | 3, _ => m7_3 | 4, _ => m7_4 | 5, _ => m7_5 | 6, _ => m7_6
theorem chk_all {t : List Nat} (h : Tide t.length t) (h1 : 1 ≤ t.length) (h7 : t.length ≤ 7) : chkM t = true := by
  have hm : allP t.length chkM t.length [] = true := by
    match hn : t.length, h1, h7 with
    | 1, _, _ => exact m1
    | 2, _, _ => exact m2
    | 3, _, _ => exact m3
    | 4, _, _ => exact m4
    | 5, _, _ => exact m5
    | 6, _, _ => exact m6
    | 7, _, _ => exact m7
  exact tide_all hm h
end Go.Am.Wash

