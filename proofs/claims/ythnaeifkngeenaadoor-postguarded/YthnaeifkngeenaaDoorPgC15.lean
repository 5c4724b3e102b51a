import Derived.Test.YthnaeifkngeenaaDoorPgC14
import Derived.Test.YthnaeifkngeenaaDoorPgC12
import Derived.Test.YthnaeifkngeenaaDoorPgL
import Derived.Test.YthnaeifkngeenaaDoorLm11
import Derived.KernelRfl
/-
  What functions of chapter 12 compute, 15: how many lists of posts there are, and how many of the smallest.
-/
set_option linter.unusedVariables false
set_option linter.unusedSimpArgs false
set_option maxRecDepth 10000
namespace Go.Am.Post
open SR Go.Am.G

end Go.Am.Post

/-
  The examples of chapter 12 hold: the list machine's runs, evaluated by the kernel.
-/
set_option linter.unusedVariables false
set_option linter.unusedSimpArgs false
set_option maxRecDepth 100000
namespace Go.Am.Post
open Go.Am.G
theorem run0 : callL LP 3000 n_law12_A [] [] = some (.P, .lst false true 1 6 [.int .i64 (-1), .int .i64 0, .int .i64 1, .int .i64 2, .int .i64 3, .int .i64 4], []) := by kernel_rfl
theorem ran0 (m : LMem) : clF LP n_law12_A [] m = some (.P, .lst false true 1 6 [.int .i64 (-1), .int .i64 0, .int .i64 1, .int .i64 2, .int .i64 3, .int .i64 4], m) := call_ran lp_law12_A rfl rfl run0 m
theorem run1 : callL LP 3000 n_law12_B [] [] = some (.P, .lst false true 1 4 [.int .i64 (-1), .int .i64 0, .int .i64 0, .int .i64 0], []) := by kernel_rfl
theorem ran1 (m : LMem) : clF LP n_law12_B [] m = some (.P, .lst false true 1 4 [.int .i64 (-1), .int .i64 0, .int .i64 0, .int .i64 0], m) := call_ran lp_law12_B rfl rfl run1 m
theorem run2 : callL LP 3000 n_law12_C [] [] = some (.P, .lst false true 1 7 [.int .i64 (-1), .int .i64 0, .int .i64 1, .int .i64 0, .int .i64 3, .int .i64 0, .int .i64 5], []) := by kernel_rfl
theorem ran2 (m : LMem) : clF LP n_law12_C [] m = some (.P, .lst false true 1 7 [.int .i64 (-1), .int .i64 0, .int .i64 1, .int .i64 0, .int .i64 3, .int .i64 0, .int .i64 5], m) := call_ran lp_law12_C rfl rfl run2 m
theorem run3 : callL LP 3000 n_post_Hand [.lst false true 1 7 [.int .i64 (-1), .int .i64 0, .int .i64 1, .int .i64 0, .int .i64 3, .int .i64 0, .int .i64 5], .int .i64 0] [] = some (.P, .tup [.lst false false 1 4 [.int .i64 0, .int .i64 1, .int .i64 3, .int .i64 5], .int .i64 0], []) := by kernel_rfl
theorem ran3 (m : LMem) : clF LP n_post_Hand [.lst false true 1 7 [.int .i64 (-1), .int .i64 0, .int .i64 1, .int .i64 0, .int .i64 3, .int .i64 0, .int .i64 5], .int .i64 0] m = some (.P, .tup [.lst false false 1 4 [.int .i64 0, .int .i64 1, .int .i64 3, .int .i64 5], .int .i64 0], m) := call_ran lp_post_Hand rfl rfl run3 m
theorem run4 : callL LP 3000 n_post_Hand [.lst false true 1 7 [.int .i64 (-1), .int .i64 0, .int .i64 1, .int .i64 0, .int .i64 3, .int .i64 0, .int .i64 5], .int .i64 7] [] = some (.P, .tup [.lst true true 0 0 [], .int .i64 2], []) := by kernel_rfl
theorem ran4 (m : LMem) : clF LP n_post_Hand [.lst false true 1 7 [.int .i64 (-1), .int .i64 0, .int .i64 1, .int .i64 0, .int .i64 3, .int .i64 0, .int .i64 5], .int .i64 7] m = some (.P, .tup [.lst true true 0 0 [], .int .i64 2], m) := call_ran lp_post_Hand rfl rfl run4 m
theorem run5 : callL LP 3000 n_post_Fewest [.lst false true 1 7 [.int .i64 (-1), .int .i64 0, .int .i64 1, .int .i64 0, .int .i64 3, .int .i64 0, .int .i64 5]] [] = some (.P, .tup [.lst false false 1 3 [.int .i64 1, .int .i64 3, .int .i64 5], .int .i64 0], []) := by kernel_rfl
theorem ran5 (m : LMem) : clF LP n_post_Fewest [.lst false true 1 7 [.int .i64 (-1), .int .i64 0, .int .i64 1, .int .i64 0, .int .i64 3, .int .i64 0, .int .i64 5]] m = some (.P, .tup [.lst false false 1 3 [.int .i64 1, .int .i64 3, .int .i64 5], .int .i64 0], m) := call_ran lp_post_Fewest rfl rfl run5 m
theorem run6 : callL LP 3000 n_post_Apart [.lst false true 1 7 [.int .i64 (-1), .int .i64 0, .int .i64 1, .int .i64 0, .int .i64 3, .int .i64 0, .int .i64 5]] [] = some (.P, .tup [.lst false false 1 3 [.int .i64 1, .int .i64 4, .int .i64 6], .int .i64 0], []) := by kernel_rfl
theorem ran6 (m : LMem) : clF LP n_post_Apart [.lst false true 1 7 [.int .i64 (-1), .int .i64 0, .int .i64 1, .int .i64 0, .int .i64 3, .int .i64 0, .int .i64 5]] m = some (.P, .tup [.lst false false 1 3 [.int .i64 1, .int .i64 4, .int .i64 6], .int .i64 0], m) := call_ran lp_post_Apart rfl rfl run6 m
theorem run7 : callL LP 3000 n_post_Count [.lst false true 1 6 [.int .i64 (-1), .int .i64 0, .int .i64 1, .int .i64 2, .int .i64 3, .int .i64 4]] [] = some (.P, .tup [.int .i64 31, .int .i64 0], []) := by kernel_rfl
theorem ran7 (m : LMem) : clF LP n_post_Count [.lst false true 1 6 [.int .i64 (-1), .int .i64 0, .int .i64 1, .int .i64 2, .int .i64 3, .int .i64 4]] m = some (.P, .tup [.int .i64 31, .int .i64 0], m) := call_ran lp_post_Count rfl rfl run7 m
theorem run8 : callL LP 3000 n_post_Ways [.lst false true 1 7 [.int .i64 (-1), .int .i64 0, .int .i64 1, .int .i64 0, .int .i64 3, .int .i64 0, .int .i64 5]] [] = some (.P, .tup [.int .i64 7, .int .i64 0], []) := by kernel_rfl
theorem ran8 (m : LMem) : clF LP n_post_Ways [.lst false true 1 7 [.int .i64 (-1), .int .i64 0, .int .i64 1, .int .i64 0, .int .i64 3, .int .i64 0, .int .i64 5]] m = some (.P, .tup [.int .i64 7, .int .i64 0], m) := call_ran lp_post_Ways rfl rfl run8 m
theorem run9 : callL LP 3000 n_post_Always [.lst false true 1 6 [.int .i64 (-1), .int .i64 0, .int .i64 1, .int .i64 2, .int .i64 3, .int .i64 4]] [] = some (.P, .tup [.lst false false 1 2 [.int .i64 1, .int .i64 4], .int .i64 0], []) := by kernel_rfl
theorem ran9 (m : LMem) : clF LP n_post_Always [.lst false true 1 6 [.int .i64 (-1), .int .i64 0, .int .i64 1, .int .i64 2, .int .i64 3, .int .i64 4]] m = some (.P, .tup [.lst false false 1 2 [.int .i64 1, .int .i64 4], .int .i64 0], m) := call_ran lp_post_Always rfl rfl run9 m
theorem run10 : callL LP 3000 n_post_Never [.lst false true 1 7 [.int .i64 (-1), .int .i64 0, .int .i64 1, .int .i64 0, .int .i64 3, .int .i64 0, .int .i64 5]] [] = some (.P, .tup [.lst false false 1 1 [.int .i64 0], .int .i64 0], []) := by kernel_rfl
theorem ran10 (m : LMem) : clF LP n_post_Never [.lst false true 1 7 [.int .i64 (-1), .int .i64 0, .int .i64 1, .int .i64 0, .int .i64 3, .int .i64 0, .int .i64 5]] m = some (.P, .tup [.lst false false 1 1 [.int .i64 0], .int .i64 0], m) := call_ran lp_post_Never rfl rfl run10 m
theorem run11 : callL LP 3000 n_post_Cheapest [.lst false true 1 4 [.int .i64 (-1), .int .i64 0, .int .i64 0, .int .i64 0], .lst false true 1 4 [.int .i64 9, .int .i64 1, .int .i64 1, .int .i64 1]] [] = some (.P, .tup [.lst false false 1 3 [.int .i64 1, .int .i64 2, .int .i64 3], .int .i64 0], []) := by kernel_rfl
theorem ran11 (m : LMem) : clF LP n_post_Cheapest [.lst false true 1 4 [.int .i64 (-1), .int .i64 0, .int .i64 0, .int .i64 0], .lst false true 1 4 [.int .i64 9, .int .i64 1, .int .i64 1, .int .i64 1]] m = some (.P, .tup [.lst false false 1 3 [.int .i64 1, .int .i64 2, .int .i64 3], .int .i64 0], m) := call_ran lp_post_Cheapest rfl rfl run11 m
theorem run12 : callL LP 3000 n_post_Cheapest [.lst false true 1 4 [.int .i64 (-1), .int .i64 0, .int .i64 0, .int .i64 0], .lst false true 1 4 [.int .i64 3, .int .i64 1, .int .i64 1, .int .i64 1]] [] = some (.P, .tup [.lst false false 1 1 [.int .i64 0], .int .i64 0], []) := by kernel_rfl
theorem ran12 (m : LMem) : clF LP n_post_Cheapest [.lst false true 1 4 [.int .i64 (-1), .int .i64 0, .int .i64 0, .int .i64 0], .lst false true 1 4 [.int .i64 3, .int .i64 1, .int .i64 1, .int .i64 1]] m = some (.P, .tup [.lst false false 1 1 [.int .i64 0], .int .i64 0], m) := call_ran lp_post_Cheapest rfl rfl run12 m
theorem run13 : callL LP 3000 n_law12_same [.lst false false 1 4 [.int .i64 0, .int .i64 1, .int .i64 3, .int .i64 5], .lst false true 1 4 [.int .i64 0, .int .i64 1, .int .i64 3, .int .i64 5]] [] = some (.P, .bool true, []) := by kernel_rfl
theorem ran13 (m : LMem) : clF LP n_law12_same [.lst false false 1 4 [.int .i64 0, .int .i64 1, .int .i64 3, .int .i64 5], .lst false true 1 4 [.int .i64 0, .int .i64 1, .int .i64 3, .int .i64 5]] m = some (.P, .bool true, m) := call_ran lp_law12_same rfl rfl run13 m
theorem run14 : callL LP 3000 n_law12_same [.lst false false 1 3 [.int .i64 1, .int .i64 3, .int .i64 5], .lst false true 1 3 [.int .i64 1, .int .i64 3, .int .i64 5]] [] = some (.P, .bool true, []) := by kernel_rfl
theorem ran14 (m : LMem) : clF LP n_law12_same [.lst false false 1 3 [.int .i64 1, .int .i64 3, .int .i64 5], .lst false true 1 3 [.int .i64 1, .int .i64 3, .int .i64 5]] m = some (.P, .bool true, m) := call_ran lp_law12_same rfl rfl run14 m
theorem run15 : callL LP 3000 n_law12_same [.lst false false 1 3 [.int .i64 1, .int .i64 4, .int .i64 6], .lst false true 1 3 [.int .i64 1, .int .i64 4, .int .i64 6]] [] = some (.P, .bool true, []) := by kernel_rfl
theorem ran15 (m : LMem) : clF LP n_law12_same [.lst false false 1 3 [.int .i64 1, .int .i64 4, .int .i64 6], .lst false true 1 3 [.int .i64 1, .int .i64 4, .int .i64 6]] m = some (.P, .bool true, m) := call_ran lp_law12_same rfl rfl run15 m
theorem run16 : callL LP 3000 n_law12_same [.lst false false 1 2 [.int .i64 1, .int .i64 4], .lst false true 1 2 [.int .i64 1, .int .i64 4]] [] = some (.P, .bool true, []) := by kernel_rfl
theorem ran16 (m : LMem) : clF LP n_law12_same [.lst false false 1 2 [.int .i64 1, .int .i64 4], .lst false true 1 2 [.int .i64 1, .int .i64 4]] m = some (.P, .bool true, m) := call_ran lp_law12_same rfl rfl run16 m
theorem run17 : callL LP 3000 n_law12_same [.lst false false 1 1 [.int .i64 0], .lst false true 1 1 [.int .i64 0]] [] = some (.P, .bool true, []) := by kernel_rfl
theorem ran17 (m : LMem) : clF LP n_law12_same [.lst false false 1 1 [.int .i64 0], .lst false true 1 1 [.int .i64 0]] m = some (.P, .bool true, m) := call_ran lp_law12_same rfl rfl run17 m
theorem run18 : callL LP 3000 n_law12_same [.lst false false 1 3 [.int .i64 1, .int .i64 2, .int .i64 3], .lst false true 1 3 [.int .i64 1, .int .i64 2, .int .i64 3]] [] = some (.P, .bool true, []) := by kernel_rfl
theorem ran18 (m : LMem) : clF LP n_law12_same [.lst false false 1 3 [.int .i64 1, .int .i64 2, .int .i64 3], .lst false true 1 3 [.int .i64 1, .int .i64 2, .int .i64 3]] m = some (.P, .bool true, m) := call_ran lp_law12_same rfl rfl run18 m
theorem run19 : callL LP 3000 n_law12_list [.lst false true 1 4 [.int .i64 0, .int .i64 1, .int .i64 3, .int .i64 5]] [] = some (.P, .lst false true 1 4 [.int .i64 0, .int .i64 1, .int .i64 3, .int .i64 5], []) := by kernel_rfl
theorem ran19 (m : LMem) : clF LP n_law12_list [.lst false true 1 4 [.int .i64 0, .int .i64 1, .int .i64 3, .int .i64 5]] m = some (.P, .lst false true 1 4 [.int .i64 0, .int .i64 1, .int .i64 3, .int .i64 5], m) := call_ran lp_law12_list rfl rfl run19 m
theorem run20 : callL LP 3000 n_law12_list [.lst false true 1 3 [.int .i64 1, .int .i64 3, .int .i64 5]] [] = some (.P, .lst false true 1 3 [.int .i64 1, .int .i64 3, .int .i64 5], []) := by kernel_rfl
theorem ran20 (m : LMem) : clF LP n_law12_list [.lst false true 1 3 [.int .i64 1, .int .i64 3, .int .i64 5]] m = some (.P, .lst false true 1 3 [.int .i64 1, .int .i64 3, .int .i64 5], m) := call_ran lp_law12_list rfl rfl run20 m
theorem run21 : callL LP 3000 n_law12_list [.lst false true 1 3 [.int .i64 1, .int .i64 4, .int .i64 6]] [] = some (.P, .lst false true 1 3 [.int .i64 1, .int .i64 4, .int .i64 6], []) := by kernel_rfl
theorem ran21 (m : LMem) : clF LP n_law12_list [.lst false true 1 3 [.int .i64 1, .int .i64 4, .int .i64 6]] m = some (.P, .lst false true 1 3 [.int .i64 1, .int .i64 4, .int .i64 6], m) := call_ran lp_law12_list rfl rfl run21 m
theorem run22 : callL LP 3000 n_law12_list [.lst false true 1 2 [.int .i64 1, .int .i64 4]] [] = some (.P, .lst false true 1 2 [.int .i64 1, .int .i64 4], []) := by kernel_rfl
theorem ran22 (m : LMem) : clF LP n_law12_list [.lst false true 1 2 [.int .i64 1, .int .i64 4]] m = some (.P, .lst false true 1 2 [.int .i64 1, .int .i64 4], m) := call_ran lp_law12_list rfl rfl run22 m
theorem run23 : callL LP 3000 n_law12_list [.lst false true 1 1 [.int .i64 0]] [] = some (.P, .lst false true 1 1 [.int .i64 0], []) := by kernel_rfl
theorem ran23 (m : LMem) : clF LP n_law12_list [.lst false true 1 1 [.int .i64 0]] m = some (.P, .lst false true 1 1 [.int .i64 0], m) := call_ran lp_law12_list rfl rfl run23 m
theorem run24 : callL LP 3000 n_law12_list [.lst false true 1 3 [.int .i64 1, .int .i64 2, .int .i64 3]] [] = some (.P, .lst false true 1 3 [.int .i64 1, .int .i64 2, .int .i64 3], []) := by kernel_rfl
theorem ran24 (m : LMem) : clF LP n_law12_list [.lst false true 1 3 [.int .i64 1, .int .i64 2, .int .i64 3]] m = some (.P, .lst false true 1 3 [.int .i64 1, .int .i64 2, .int .i64 3], m) := call_ran lp_law12_list rfl rfl run24 m
theorem run25 : callL LP 3000 n_law12_list [.lst false true 1 4 [.int .i64 9, .int .i64 1, .int .i64 1, .int .i64 1]] [] = some (.P, .lst false true 1 4 [.int .i64 9, .int .i64 1, .int .i64 1, .int .i64 1], []) := by kernel_rfl
theorem ran25 (m : LMem) : clF LP n_law12_list [.lst false true 1 4 [.int .i64 9, .int .i64 1, .int .i64 1, .int .i64 1]] m = some (.P, .lst false true 1 4 [.int .i64 9, .int .i64 1, .int .i64 1, .int .i64 1], m) := call_ran lp_law12_list rfl rfl run25 m
theorem run26 : callL LP 3000 n_law12_list [.lst false true 1 4 [.int .i64 3, .int .i64 1, .int .i64 1, .int .i64 1]] [] = some (.P, .lst false true 1 4 [.int .i64 3, .int .i64 1, .int .i64 1, .int .i64 1], []) := by kernel_rfl
theorem ran26 (m : LMem) : clF LP n_law12_list [.lst false true 1 4 [.int .i64 3, .int .i64 1, .int .i64 1, .int .i64 1]] m = some (.P, .lst false true 1 4 [.int .i64 3, .int .i64 1, .int .i64 1, .int .i64 1], m) := call_ran lp_law12_list rfl rfl run26 m
theorem run27 : callL LP 3000 n_law12_list [.lst false true 1 2 [.int .i64 0, .int .i64 3]] [] = some (.P, .lst false true 1 2 [.int .i64 0, .int .i64 3], []) := by kernel_rfl
theorem ran27 (m : LMem) : clF LP n_law12_list [.lst false true 1 2 [.int .i64 0, .int .i64 3]] m = some (.P, .lst false true 1 2 [.int .i64 0, .int .i64 3], m) := call_ran lp_law12_list rfl rfl run27 m
theorem run28 : callL LP 3000 n_law12_list [.lst false true 1 2 [.int .i64 1, .int .i64 3]] [] = some (.P, .lst false true 1 2 [.int .i64 1, .int .i64 3], []) := by kernel_rfl
theorem ran28 (m : LMem) : clF LP n_law12_list [.lst false true 1 2 [.int .i64 1, .int .i64 3]] m = some (.P, .lst false true 1 2 [.int .i64 1, .int .i64 3], m) := call_ran lp_law12_list rfl rfl run28 m
theorem run29 : callL LP 3000 n_law12_list [.lst false true 1 6 [.int .i64 (-1), .int .i64 0, .int .i64 1, .int .i64 2, .int .i64 3, .int .i64 4]] [] = some (.P, .lst false true 1 6 [.int .i64 (-1), .int .i64 0, .int .i64 1, .int .i64 2, .int .i64 3, .int .i64 4], []) := by kernel_rfl
theorem ran29 (m : LMem) : clF LP n_law12_list [.lst false true 1 6 [.int .i64 (-1), .int .i64 0, .int .i64 1, .int .i64 2, .int .i64 3, .int .i64 4]] m = some (.P, .lst false true 1 6 [.int .i64 (-1), .int .i64 0, .int .i64 1, .int .i64 2, .int .i64 3, .int .i64 4], m) := call_ran lp_law12_list rfl rfl run29 m
theorem run30 : callL LP 3000 n_law12_list [.lst false true 1 4 [.int .i64 (-1), .int .i64 0, .int .i64 0, .int .i64 0]] [] = some (.P, .lst false true 1 4 [.int .i64 (-1), .int .i64 0, .int .i64 0, .int .i64 0], []) := by kernel_rfl
theorem ran30 (m : LMem) : clF LP n_law12_list [.lst false true 1 4 [.int .i64 (-1), .int .i64 0, .int .i64 0, .int .i64 0]] m = some (.P, .lst false true 1 4 [.int .i64 (-1), .int .i64 0, .int .i64 0, .int .i64 0], m) := call_ran lp_law12_list rfl rfl run30 m
theorem run31 : callL LP 3000 n_law12_list [.lst false true 1 7 [.int .i64 (-1), .int .i64 0, .int .i64 1, .int .i64 0, .int .i64 3, .int .i64 0, .int .i64 5]] [] = some (.P, .lst false true 1 7 [.int .i64 (-1), .int .i64 0, .int .i64 1, .int .i64 0, .int .i64 3, .int .i64 0, .int .i64 5], []) := by kernel_rfl
theorem ran31 (m : LMem) : clF LP n_law12_list [.lst false true 1 7 [.int .i64 (-1), .int .i64 0, .int .i64 1, .int .i64 0, .int .i64 3, .int .i64 0, .int .i64 5]] m = some (.P, .lst false true 1 7 [.int .i64 (-1), .int .i64 0, .int .i64 1, .int .i64 0, .int .i64 3, .int .i64 0, .int .i64 5], m) := call_ran lp_law12_list rfl rfl run31 m
theorem run32 : callL LP 3000 n_post_Guards [.lst false true 1 6 [.int .i64 (-1), .int .i64 0, .int .i64 1, .int .i64 2, .int .i64 3, .int .i64 4], .lst false true 1 2 [.int .i64 1, .int .i64 4]] [] = some (.P, .int .i64 0, []) := by kernel_rfl
theorem ran32 (m : LMem) : clF LP n_post_Guards [.lst false true 1 6 [.int .i64 (-1), .int .i64 0, .int .i64 1, .int .i64 2, .int .i64 3, .int .i64 4], .lst false true 1 2 [.int .i64 1, .int .i64 4]] m = some (.P, .int .i64 0, m) := call_ran lp_post_Guards rfl rfl run32 m
theorem run33 : callL LP 3000 n_post_Guards [.lst false true 1 6 [.int .i64 (-1), .int .i64 0, .int .i64 1, .int .i64 2, .int .i64 3, .int .i64 4], .lst false true 1 2 [.int .i64 0, .int .i64 3]] [] = some (.P, .int .i64 14, []) := by kernel_rfl
theorem ran33 (m : LMem) : clF LP n_post_Guards [.lst false true 1 6 [.int .i64 (-1), .int .i64 0, .int .i64 1, .int .i64 2, .int .i64 3, .int .i64 4], .lst false true 1 2 [.int .i64 0, .int .i64 3]] m = some (.P, .int .i64 14, m) := call_ran lp_post_Guards rfl rfl run33 m
theorem run34 : callL LP 3000 n_post_Proves [.lst false true 1 7 [.int .i64 (-1), .int .i64 0, .int .i64 1, .int .i64 0, .int .i64 3, .int .i64 0, .int .i64 5], .lst false true 1 3 [.int .i64 1, .int .i64 4, .int .i64 6]] [] = some (.P, .int .i64 0, []) := by kernel_rfl
theorem ran34 (m : LMem) : clF LP n_post_Proves [.lst false true 1 7 [.int .i64 (-1), .int .i64 0, .int .i64 1, .int .i64 0, .int .i64 3, .int .i64 0, .int .i64 5], .lst false true 1 3 [.int .i64 1, .int .i64 4, .int .i64 6]] m = some (.P, .int .i64 0, m) := call_ran lp_post_Proves rfl rfl run34 m
theorem run35 : callL LP 3000 n_post_Proves [.lst false true 1 7 [.int .i64 (-1), .int .i64 0, .int .i64 1, .int .i64 0, .int .i64 3, .int .i64 0, .int .i64 5], .lst false true 1 2 [.int .i64 1, .int .i64 3]] [] = some (.P, .int .i64 14, []) := by kernel_rfl
theorem ran35 (m : LMem) : clF LP n_post_Proves [.lst false true 1 7 [.int .i64 (-1), .int .i64 0, .int .i64 1, .int .i64 0, .int .i64 3, .int .i64 0, .int .i64 5], .lst false true 1 2 [.int .i64 1, .int .i64 3]] m = some (.P, .int .i64 14, m) := call_ran lp_post_Proves rfl rfl run35 m
theorem works_c (m : LMem) : clF LP n_law12_works [] m = some (.P, .bool true, m) := by
  refine call_P lp_law12_works rfl rfl (m1 := []) ?_ rfl m
  simp only [law12_works, law12_works.B, beqT, beqF, exF_seq, exF_region, exF_block, exF_cond, exF_ret, exF_exit, exF_skip, runL, wantL, stepL, evL, evC, LEnv.at, putL, loadFine, loadL, cellsAt, Trk.putNew, Trk.up, Trk.touch, Trk.gives, Trk.calm, Trk.hit, opdsOf, Trk.fresh, LEnv.keep, LEnv.ofFrom, List.map_cons, List.map_nil, nbeq, nble, nblt, ofAV, ofAVs, lenL, bin_add, bin_sub, bin_mul, bin_eql, bin_neq, bin_lss, bin_leq, bin_gtr, bin_geq, natL_nat, natL_zero, natL_one, natL_two, Nat.zero_mul, List.any_cons, List.any_nil, Bool.or_false, Bool.false_or, Bool.true_or, Bool.or_true, Bool.and_true, Bool.true_and, Bool.and_false, Bool.false_and, Bool.not_true, Bool.not_false, Nat.reduceBEq, Nat.reduceEqDiff, decide_true, decide_false, cond_true, cond_false, List.filter_nil, List.filter_cons, Nat.reduceAdd, Nat.reduceLeDiff, reduceCtorEq, List.length_nil, List.length_cons, Nat.mul_one, if_true, if_false, Bool.false_eq_true, eq_self, and_true, true_and, retL, resultsL, resAllL, resOfL, List.append_nil, List.nil_append, List.cons_append, true_or, or_true, false_or, or_false, false_and, and_false, not_true_eq_false, not_false_eq_true, ne_eq, unL, trim_nil, views_pures, LV.pures, LV.pure, freeze, Nat.reduceDiv, Int.reduceEq, Int.reduceLT, Int.reduceLE, Int.natCast_zero, LV.cells, allocL, List.getElem?_cons_zero, List.getElem?_cons_succ, storeL, spliceL, List.take_zero, List.take_succ_cons, List.drop_zero, List.drop_succ_cons, List.drop_nil, List.take_nil, Nat.le_refl, Nat.reduceMul, List.set_cons_zero, List.set_cons_succ, LV.scalar, List.all_cons, List.all_nil, Nat.lt_add_one, Nat.zero_lt_one, Nat.reduceLT, Nat.lt_irrefl, fillL, List.length_append, foldIntL, kind_beq, pures_int, solids_int, plains_int, unders_int, scalars_int, ran0, ran1, ran2, ran3, ran4, ran5, ran6, ran7, ran8, ran9, ran10, ran11, ran12, ran13, ran14, ran15, ran16, ran17, ran18, ran19, ran20, ran21, ran22, ran23, ran24, ran25, ran26, ran27, ran28, ran29, ran30, ran31, ran32, ran33, ran34, ran35]
end Go.Am.Post


