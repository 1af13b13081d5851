/- Known runs of functions within lives: what they tell and leave, from the states they are called at. No condition. -/
import Derived.Test.YtdgplkcobpikiaaGreatMemB
import Derived.KernelRfl
set_option linter.unusedSimpArgs false
set_option linter.unusedVariables false
set_option maxRecDepth 100000
namespace Go.Proofs.YtdgplkcobpikiaaGreat.councilNobody
open Go Go.RowKit Go.Proofs.YtdgplkcobpikiaaGreat.Bm
def m2_0 : Mem := ⟨[.int .u64 (7)], [], 781, .slice 786 0 3 3 1 true, [(786, .cells [.int .i64 (0), .int .i64 (1), .int .i64 (2)] true)], 787, []⟩
theorem c2_0 : memOK L2 100000 88 m2_0 = true := by kernel_rfl
def m2_1 : Mem := ⟨[.int .u64 (7)], [], 1157, .slice 1162 0 3 3 1 true, [(1162, .cells [.int .i64 (0), .int .i64 (1), .int .i64 (2)] true)], 1163, []⟩
theorem c2_1 : memOK L2 100000 88 m2_1 = true := by kernel_rfl
def m2_2 : Mem := ⟨[.int .u64 (7)], [], 1736, .slice 1741 0 3 3 1 true, [(1741, .cells [.int .i64 (0), .int .i64 (1), .int .i64 (2)] true)], 1742, []⟩
theorem c2_2 : memOK L2 100000 88 m2_2 = true := by kernel_rfl
def m2_3 : Mem := ⟨[.int .u64 (7)], [], 1754, .slice 1759 0 3 3 1 true, [(1759, .cells [.int .i64 (0), .int .i64 (1), .int .i64 (2)] true)], 1760, []⟩
theorem c2_3 : memOK L2 100000 88 m2_3 = true := by kernel_rfl
def m2_4 : Mem := ⟨[.int .u64 (7)], [], 2479, .slice 2484 0 3 3 1 true, [(2484, .cells [.int .i64 (0), .int .i64 (1), .int .i64 (2)] true)], 2485, []⟩
theorem c2_4 : memOK L2 100000 88 m2_4 = true := by kernel_rfl
def m2_5 : Mem := ⟨[.int .u64 (7)], [], 2502, .slice 2507 0 3 3 1 true, [(2507, .cells [.int .i64 (0), .int .i64 (1), .int .i64 (2)] true)], 2508, []⟩
theorem c2_5 : memOK L2 100000 88 m2_5 = true := by kernel_rfl
def m2_6 : Mem := ⟨[.int .u64 (7)], [], 2981, .slice 2986 0 3 3 1 true, [(2986, .cells [.int .i64 (0), .int .i64 (1), .int .i64 (2)] true)], 2987, []⟩
theorem c2_6 : memOK L2 100000 88 m2_6 = true := by kernel_rfl
def m2_7 : Mem := ⟨[.int .u64 (7)], [], 3002, .slice 3007 0 3 3 1 true, [(3007, .cells [.int .i64 (0), .int .i64 (1), .int .i64 (2)] true)], 3008, []⟩
theorem c2_7 : memOK L2 100000 88 m2_7 = true := by kernel_rfl
def m2_8 : Mem := ⟨[.int .u64 (7)], [], 3173, .slice 3178 0 3 3 1 true, [(3178, .cells [.int .i64 (0), .int .i64 (1), .int .i64 (2)] true)], 3179, []⟩
theorem c2_8 : memOK L2 100000 88 m2_8 = true := by kernel_rfl
def m2_9 : Mem := ⟨[.int .u64 (7)], [], 3197, .slice 3202 0 3 3 1 true, [(3202, .cells [.int .i64 (0), .int .i64 (1), .int .i64 (2)] true)], 3203, []⟩
theorem c2_9 : memOK L2 100000 88 m2_9 = true := by kernel_rfl
def m2_10 : Mem := ⟨[.int .u64 (7)], [], 4074, .slice 4079 0 3 3 1 true, [(4079, .cells [.int .i64 (0), .int .i64 (1), .int .i64 (2)] true)], 4080, []⟩
theorem c2_10 : memOK L2 100000 88 m2_10 = true := by kernel_rfl
def m2_11 : Mem := ⟨[.int .u64 (7)], [], 4101, .slice 4106 0 3 3 1 true, [(4106, .cells [.int .i64 (0), .int .i64 (1), .int .i64 (2)] true)], 4107, []⟩
theorem c2_11 : memOK L2 100000 88 m2_11 = true := by kernel_rfl
def m2_12 : Mem := ⟨[.int .u64 (7)], [], 4318, .slice 4323 0 3 3 1 true, [(4323, .cells [.int .i64 (0), .int .i64 (1), .int .i64 (2)] true)], 4324, []⟩
theorem c2_12 : memOK L2 100000 88 m2_12 = true := by kernel_rfl
def m2_13 : Mem := ⟨[.int .u64 (7)], [], 4343, .slice 4348 0 3 3 1 true, [(4348, .cells [.int .i64 (0), .int .i64 (1), .int .i64 (2)] true)], 4349, []⟩
theorem c2_13 : memOK L2 100000 88 m2_13 = true := by kernel_rfl
noncomputable def L3 : Env := addF L2 88 ⟨memRun [m2_0, m2_1, m2_2, m2_3, m2_4, m2_5, m2_6, m2_7, m2_8, m2_9, m2_10, m2_11, m2_12, m2_13]⟩
theorem q3 : Bm.Good Tryz.prog L3 := q2.addM (m := 100000) (es := [m2_0, m2_1, m2_2, m2_3, m2_4, m2_5, m2_6, m2_7, m2_8, m2_9, m2_10, m2_11, m2_12, m2_13]) ⟨c2_0, c2_1, c2_2, c2_3, c2_4, c2_5, c2_6, c2_7, c2_8, c2_9, c2_10, c2_11, c2_12, c2_13, trivial⟩
end Go.Proofs.YtdgplkcobpikiaaGreat.councilNobody
