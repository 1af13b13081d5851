/- A node that no call made is down for good: for every input the law returns true, and the input reads as it did. No condition. -/
import Derived.Test.YtjibcbgnhddfnaaGreatRows
import Derived.Test.YtjibcbgnhddfnaaGreatBmVo
import Derived.Test.YtjibcbgnhddfnaaGreatLi
import Derived.Test.YtjibcbgnhddfnaaGreatMem
import Derived.KernelRfl
set_option linter.unusedSimpArgs false
set_option linter.unusedVariables false
set_option maxRecDepth 20000
namespace Go.Proofs.YtjibcbgnhddfnaaGreat.raftNobody
open Go Go.ChangeShapes Go.WideShapes Go.ChangeAt Go.RowKit Go.Proofs.YtjibcbgnhddfnaaGreat.Bm
def mn : Mem := ⟨[.nilPtr, .int .i64 0, .int .i64 900], [], 38, .tuple [.nilPtr, .int .i64 1], [], 38, []⟩
def mo2 : Mem := ⟨[.ptr 39 0, .int .i64 0, .int .i64 900], [(38, .map [] 0), (39, .cells [.int .i64 1800, .map 38, .nilSlice, .bool false, .int .i64 0, .int .i64 0] true)], 46, .tuple [.ptr 46 0, .int .i64 0],
  [(39, .cells [.int .i64 1800, .map 56, .nilSlice, .bool false, .int .i64 0, .int .i64 0] true), (46, .cells [.ptr 39 0, .int .i64 0, .int .i64 900, .int .i64 (-1), .int .u64 0, .int .u64 1, .nilSlice] true), (56, .map [] 0)], 61, [38]⟩
noncomputable def E2 : Env := addF (addF EL 5 livesI) 56 ⟨memRun [mn, mo2]⟩
set_option maxRecDepth 100000 in
noncomputable def kl (x0 : Int) (x1 : Int) (x2 : Int) (x3 : Int) (x4 : Int) (x5 : Int) (x6 : Int) (x7 : Int) (x8 : Int) (x9 : Int) (x10 : Bool) (x11 : Int) (x12 : List Nat) (nlx13 : Bool) (x13 : Nat) (fx13 : Nat → Nat → AV) (x14 : List Nat) (nlx15 : Bool) (x15 : Nat) (fx15 : Nat → Nat → AV) (x16 : Int) (x17 : Int) (π : Plan) : Option Bool := lawT (E2) (5000) (4) ([.agg [.int .i64 x0, .int .i64 x1, .int .i64 x2, .int .i64 x3, .int .i64 x4, .int .u64 x5, .int .u64 x6, .int .u64 x7, .int .u64 x8, .int .u64 x9, .bool x10, .int .u64 x11, .str x12, .osl nlx13 0 0 x13 x13 3 true, .str x14, .osl nlx15 1 0 x15 x15 1 true], .int .i64 x16, .int .u64 x17]) ([some (.tarr shI x13 fx13 false), some (.tarr shK x15 fx15 false)]) π
def kl_p : Plan := (.reck 1 (.fork (.must true (.must true (.must true (.must true (.must false (.fork (.must true (.must true (.must true (.must false (.fork (.must true (.must true (.must true (.must false (.fork .stop (.must true (.must true (.reck 2 (.must true (.fork (.must true (.must true (.must true (.must true (.reck 1 (.must true (.fork (.reck 372 (.fork (.must true (.must true (.fork (.reck 10 (.must true (.must true (.must true (.must true .stop))))) (.reck 11 (.fork (.reck 3 (.fork (.must true (.must false (.fork (.must true (.must false (.reck 221 (.must true (.fork (.fork (.fork (.fork (.fork (.fork (.fork (.reck 22 (.must true (.reck 3 (.must true (.reck 4 (.must true (.must true (.must true (.must false (.reck 11 (.must true (.reck 3 (.fork (.must true (.must true (.reck 38 (.fork (.must true (.fork (.must true (.must true (.must false (.must true .stop)))) (.must false (.must true (.must true (.must true .stop)))))) (.must false (.must false (.must false .stop))))))) (.must false (.must false .stop))))))))))))))) .stop) .stop) .stop) .stop) .stop) .stop) .stop))))) (.must false (.must true (.reck 1 (.must true (.must true (.must true (.must false (.reck 11 (.must true (.reck 3 (.fork (.must true (.must true (.reck 38 (.fork (.must true (.fork (.must true (.must true (.must false (.must true .stop)))) (.must false (.must true (.must true (.must true .stop)))))) (.must false (.must false (.must false .stop))))))) (.must false (.must false .stop)))))))))))))))) (.must false (.must true (.reck 4 (.must true (.must true (.must true (.must false (.reck 11 (.must true (.reck 3 (.fork (.must true (.must true (.reck 38 (.fork (.must true (.fork (.must true (.must true (.must false (.must true .stop)))) (.must false (.must true (.must true (.must true .stop)))))) (.must false (.must false (.must false .stop))))))) (.must false (.must false .stop))))))))))))))) .stop))))) (.must false (.must false (.reck 11 (.must false (.must false (.must false .stop)))))))) .stop))))))) .stop)))))))))) (.must false (.must false (.must false (.must true .stop))))))))) (.must false (.must false (.must false (.must true .stop)))))))))) (.must false (.must false (.must false (.must false (.must true .stop)))))))
theorem kl_is (x0 : Int) (x1 : Int) (x2 : Int) (x3 : Int) (x4 : Int) (x5 : Int) (x6 : Int) (x7 : Int) (x8 : Int) (x9 : Int) (x10 : Bool) (x11 : Int) (x12 : List Nat) (nlx13 : Bool) (x13 : Nat) (fx13 : Nat → Nat → AV) (x14 : List Nat) (nlx15 : Bool) (x15 : Nat) (fx15 : Nat → Nat → AV) (x16 : Int) (x17 : Int) : kl x0 x1 x2 x3 x4 x5 x6 x7 x8 x9 x10 x11 x12 nlx13 x13 fx13 x14 nlx15 x15 fx15 x16 x17 kl_p = (cond (decide ((↑x13 : Int) > 20) == false)
  (cond (decide ((↑x13 : Int) > 20) == false) (cond (decide ((↑x13 : Int) > 20) == false) (cond (decide ((↑x13 : Int) > 20) == false) (cond (decide ((↑x13 : Int) > 20) == false) (cond (decide ((↑x13 : Int) > 20)) none (cond (decide ((↑(List.length x12) : Int) > 20000) == false)
  (cond (decide ((↑(List.length x12) : Int) > 20000) == false) (cond (decide ((↑(List.length x12) : Int) > 20000) == false) (cond (decide ((↑(List.length x12) : Int) > 20000) == false) (cond (decide ((↑(List.length x12) : Int) > 20000)) none (cond (decide ((↑(List.length x14) : Int) > 1000) == false)
  (cond (decide ((↑(List.length x14) : Int) > 1000) == false) (cond (decide ((↑(List.length x14) : Int) > 1000) == false) (cond (decide ((↑(List.length x14) : Int) > 1000) == false) (cond (decide ((↑(List.length x14) : Int) > 1000)) none (cond (decide ((↑x15 : Int) > 200))
  (some (true))
  (cond (decide (x13 = x13)) (cond (decide (x13 = x13)) (cond (decide (x13 = x13)) (cond (Nat.ble x13 1000000)
  (cond (decide (nlx13 = nlx13)) (cond (decide (x13 = x13)) (cond (decide (x13 = x13)) (cond (decide (x15 = x15)) (cond (decide (x15 = x15)) (cond ((okL fx13 (x13)))
  (cond ((x17 != 0) == true)
  (cond ((x17 != 0) == true) (cond (x17 != 0) (cond (!decide (x17 ≤ 127))
  (cond ((x17 != 0) == true) (cond ((x17 != 0) == true) (cond (x17 != 0) (cond (!decide (x17 ≤ 127)) (some (true)) none) none) none) none)
  (cond (decide (0 ≤ IntKind.wrap IntKind.u8 (Int.fdiv x17 (2 ^ min (Int.toNat (IntKind.wrap IntKind.i64 (8 * 0))) (IntKind.bits IntKind.u64)))) && decide (IntKind.wrap IntKind.u8 (Int.fdiv x17 (2 ^ min (Int.toNat (IntKind.wrap IntKind.i64 (8 * 0))) (IntKind.bits IntKind.u64))) < 256))
  (cond (decide (x16 < 0) == false)
  (cond (decide (x16 < 0) == false) (cond (decide (x16 < 0)) none (cond (decide (x16 ≥ 7) == false)
  (cond (decide (x16 ≥ 7) == false) (cond (decide (x16 ≥ 7)) none (cond (decide (0 ≤ IntKind.wrap IntKind.u8 (Int.fdiv x17 (2 ^ min (Int.toNat (IntKind.wrap IntKind.i64 (8 * 0))) (IntKind.bits IntKind.u64)))) && decide (IntKind.wrap IntKind.u8 (Int.fdiv x17 (2 ^ min (Int.toNat (IntKind.wrap IntKind.i64 (8 * 0))) (IntKind.bits IntKind.u64))) < 256)) (cond (decide (0 ≤ IntKind.wrap IntKind.u8 (Int.fdiv x17 (2 ^ min (Int.toNat (IntKind.wrap IntKind.i64 (8 * IntKind.wrap IntKind.i64 (0 + 1)))) (IntKind.bits IntKind.u64)))) && decide (IntKind.wrap IntKind.u8 (Int.fdiv x17 (2 ^ min (Int.toNat (IntKind.wrap IntKind.i64 (8 * IntKind.wrap IntKind.i64 (0 + 1)))) (IntKind.bits IntKind.u64))) < 256))
  (cond (decide (0 ≤ IntKind.wrap IntKind.u8 (Int.fdiv x17 (2 ^ min (Int.toNat (IntKind.wrap IntKind.i64 (8 * IntKind.wrap IntKind.i64 (IntKind.wrap IntKind.i64 (0 + 1) + 1)))) (IntKind.bits IntKind.u64)))) && decide (IntKind.wrap IntKind.u8 (Int.fdiv x17 (2 ^ min (Int.toNat (IntKind.wrap IntKind.i64 (8 * IntKind.wrap IntKind.i64 (IntKind.wrap IntKind.i64 (0 + 1) + 1)))) (IntKind.bits IntKind.u64))) < 256))
  (cond (decide (0 ≤ IntKind.wrap IntKind.u8 (Int.fdiv x17 (2 ^ min (Int.toNat (IntKind.wrap IntKind.i64 (8 * IntKind.wrap IntKind.i64 (IntKind.wrap IntKind.i64 (IntKind.wrap IntKind.i64 (0 + 1) + 1) + 1)))) (IntKind.bits IntKind.u64)))) && decide (IntKind.wrap IntKind.u8 (Int.fdiv x17 (2 ^ min (Int.toNat (IntKind.wrap IntKind.i64 (8 * IntKind.wrap IntKind.i64 (IntKind.wrap IntKind.i64 (IntKind.wrap IntKind.i64 (0 + 1) + 1) + 1)))) (IntKind.bits IntKind.u64))) < 256))
  (cond (decide (0 ≤ IntKind.wrap IntKind.u8 (Int.fdiv x17 (2 ^ min (Int.toNat (IntKind.wrap IntKind.i64 (8 * IntKind.wrap IntKind.i64 (IntKind.wrap IntKind.i64 (IntKind.wrap IntKind.i64 (IntKind.wrap IntKind.i64 (0 + 1) + 1) + 1) + 1)))) (IntKind.bits IntKind.u64)))) && decide (IntKind.wrap IntKind.u8 (Int.fdiv x17 (2 ^ min (Int.toNat (IntKind.wrap IntKind.i64 (8 * IntKind.wrap IntKind.i64 (IntKind.wrap IntKind.i64 (IntKind.wrap IntKind.i64 (IntKind.wrap IntKind.i64 (0 + 1) + 1) + 1) + 1)))) (IntKind.bits IntKind.u64))) < 256))
  (cond (decide (0 ≤ IntKind.wrap IntKind.u8 (Int.fdiv x17 (2 ^ min (Int.toNat (IntKind.wrap IntKind.i64 (8 * IntKind.wrap IntKind.i64 (IntKind.wrap IntKind.i64 (IntKind.wrap IntKind.i64 (IntKind.wrap IntKind.i64 (IntKind.wrap IntKind.i64 (0 + 1) + 1) + 1) + 1) + 1)))) (IntKind.bits IntKind.u64)))) && decide (IntKind.wrap IntKind.u8 (Int.fdiv x17 (2 ^ min (Int.toNat (IntKind.wrap IntKind.i64 (8 * IntKind.wrap IntKind.i64 (IntKind.wrap IntKind.i64 (IntKind.wrap IntKind.i64 (IntKind.wrap IntKind.i64 (IntKind.wrap IntKind.i64 (0 + 1) + 1) + 1) + 1) + 1)))) (IntKind.bits IntKind.u64))) < 256))
  (cond (decide (0 ≤ IntKind.wrap IntKind.u8 (Int.fdiv x17 (2 ^ min (Int.toNat (IntKind.wrap IntKind.i64 (8 * IntKind.wrap IntKind.i64 (IntKind.wrap IntKind.i64 (IntKind.wrap IntKind.i64 (IntKind.wrap IntKind.i64 (IntKind.wrap IntKind.i64 (IntKind.wrap IntKind.i64 (0 + 1) + 1) + 1) + 1) + 1) + 1)))) (IntKind.bits IntKind.u64)))) && decide (IntKind.wrap IntKind.u8 (Int.fdiv x17 (2 ^ min (Int.toNat (IntKind.wrap IntKind.i64 (8 * IntKind.wrap IntKind.i64 (IntKind.wrap IntKind.i64 (IntKind.wrap IntKind.i64 (IntKind.wrap IntKind.i64 (IntKind.wrap IntKind.i64 (IntKind.wrap IntKind.i64 (0 + 1) + 1) + 1) + 1) + 1) + 1)))) (IntKind.bits IntKind.u64))) < 256))
  (cond (decide (0 ≤ IntKind.wrap IntKind.u8 (Int.fdiv x17 (2 ^ min (Int.toNat (IntKind.wrap IntKind.i64 (8 * IntKind.wrap IntKind.i64 (IntKind.wrap IntKind.i64 (IntKind.wrap IntKind.i64 (IntKind.wrap IntKind.i64 (IntKind.wrap IntKind.i64 (IntKind.wrap IntKind.i64 (IntKind.wrap IntKind.i64 (0 + 1) + 1) + 1) + 1) + 1) + 1) + 1)))) (IntKind.bits IntKind.u64)))) && decide (IntKind.wrap IntKind.u8 (Int.fdiv x17 (2 ^ min (Int.toNat (IntKind.wrap IntKind.i64 (8 * IntKind.wrap IntKind.i64 (IntKind.wrap IntKind.i64 (IntKind.wrap IntKind.i64 (IntKind.wrap IntKind.i64 (IntKind.wrap IntKind.i64 (IntKind.wrap IntKind.i64 (IntKind.wrap IntKind.i64 (0 + 1) + 1) + 1) + 1) + 1) + 1) + 1)))) (IntKind.bits IntKind.u64))) < 256))
  (cond (decide (x17 = x17)) (cond (decide (x17 = x17)) (cond ((x17 != 0) == true) (cond ((x17 != 0) == true) (cond (x17 != 0) (cond (!decide (x17 ≤ 127)) none (cond (decide (0 ≤ IntKind.wrap IntKind.u8 (Int.fdiv x17 (2 ^ min (Int.toNat (IntKind.wrap IntKind.i64 (8 * 0))) (IntKind.bits IntKind.u64)))) && decide (IntKind.wrap IntKind.u8 (Int.fdiv x17 (2 ^ min (Int.toNat (IntKind.wrap IntKind.i64 (8 * 0))) (IntKind.bits IntKind.u64))) < 256)) (cond (decide (x16 ≥ 0) == true)
  (cond (decide (x16 ≥ 0) == true) (cond (decide (x16 ≥ 0)) (cond (((!false) == decide (x16 < 7)) == true)
  (cond (((!false) == decide (x16 < 7)) == true) (cond (decide (x16 < 7) == false)
  (cond (decide (x16 < 7) == false) (cond (((!false) == decide (x16 < 7)) == true) (cond (decide (x16 < 7)) none (cond ((!false) == decide (x16 < 7)) (some (false)) none)) none) none)
  (cond (decide (x16 < 7) == false) none (cond (((!false) == decide (x16 < 7)) == true) (cond (decide (x16 < 7)) (cond ((!false) == decide (x16 < 7)) (some (true)) none) none) none))) none)
  (cond (((!false) == decide (x16 < 7)) == true) none (cond (((!false) == decide (x16 < 7)) == true) none (cond ((!false) == decide (x16 < 7)) none (some (false)))))) none) none)
  (cond (decide (x16 ≥ 0) == true) none (cond (decide (x16 ≥ 0)) none (some (false))))) none)) none) none) none) none) none)
  none)
  none)
  none)
  none)
  none)
  none)
  none) none)) none)
  (cond (decide (x16 ≥ 7) == false) none (cond (decide (x16 ≥ 7)) (cond ((x17 != 0) == true) (cond ((x17 != 0) == true) (cond (x17 != 0) (cond (!decide (x17 ≤ 127)) none (cond (decide (0 ≤ IntKind.wrap IntKind.u8 (Int.fdiv x17 (2 ^ min (Int.toNat (IntKind.wrap IntKind.i64 (8 * 0))) (IntKind.bits IntKind.u64)))) && decide (IntKind.wrap IntKind.u8 (Int.fdiv x17 (2 ^ min (Int.toNat (IntKind.wrap IntKind.i64 (8 * 0))) (IntKind.bits IntKind.u64))) < 256)) (cond (decide (x16 ≥ 0) == true)
  (cond (decide (x16 ≥ 0) == true) (cond (decide (x16 ≥ 0)) (cond (((!true) == decide (x16 < 7)) == true)
  (cond (((!true) == decide (x16 < 7)) == true) (cond (decide (x16 < 7) == false)
  (cond (decide (x16 < 7) == false) (cond (((!true) == decide (x16 < 7)) == true) (cond (decide (x16 < 7)) none (cond ((!true) == decide (x16 < 7)) (some (true)) none)) none) none)
  (cond (decide (x16 < 7) == false) none (cond (((!true) == decide (x16 < 7)) == true) (cond (decide (x16 < 7)) (cond ((!true) == decide (x16 < 7)) (some (true)) none) none) none))) none)
  (cond (((!true) == decide (x16 < 7)) == true) none (cond (((!true) == decide (x16 < 7)) == true) none (cond ((!true) == decide (x16 < 7)) none (some (false)))))) none) none)
  (cond (decide (x16 ≥ 0) == true) none (cond (decide (x16 ≥ 0)) none (some (true))))) none)) none) none) none) none)))) none)
  (cond (decide (x16 < 0) == false) none (cond (decide (x16 < 0)) (cond ((x17 != 0) == true) (cond ((x17 != 0) == true) (cond (x17 != 0) (cond (!decide (x17 ≤ 127)) none (cond (decide (0 ≤ IntKind.wrap IntKind.u8 (Int.fdiv x17 (2 ^ min (Int.toNat (IntKind.wrap IntKind.i64 (8 * 0))) (IntKind.bits IntKind.u64)))) && decide (IntKind.wrap IntKind.u8 (Int.fdiv x17 (2 ^ min (Int.toNat (IntKind.wrap IntKind.i64 (8 * 0))) (IntKind.bits IntKind.u64))) < 256)) (cond (decide (x16 ≥ 0) == true)
  (cond (decide (x16 ≥ 0) == true) (cond (decide (x16 ≥ 0)) (cond (((!true) == decide (x16 < 7)) == true)
  (cond (((!true) == decide (x16 < 7)) == true) (cond (decide (x16 < 7) == false)
  (cond (decide (x16 < 7) == false) (cond (((!true) == decide (x16 < 7)) == true) (cond (decide (x16 < 7)) none (cond ((!true) == decide (x16 < 7)) (some (true)) none)) none) none)
  (cond (decide (x16 < 7) == false) none (cond (((!true) == decide (x16 < 7)) == true) (cond (decide (x16 < 7)) (cond ((!true) == decide (x16 < 7)) (some (true)) none) none) none))) none)
  (cond (((!true) == decide (x16 < 7)) == true) none (cond (((!true) == decide (x16 < 7)) == true) none (cond ((!true) == decide (x16 < 7)) none (some (false)))))) none) none)
  (cond (decide (x16 ≥ 0) == true) none (cond (decide (x16 ≥ 0)) none (some (true))))) none)) none) none) none) none)))
  none)) none) none)
  (cond ((x17 != 0) == true) none (cond (x17 != 0) none (cond ((x17 != 0) == true) none (cond ((x17 != 0) == true) none (cond (x17 != 0) none (some (true))))))))
  (some (true))) none) none) none) none) none)
  none) none) none) none))) none) none) none)
  (cond (decide ((↑(List.length x14) : Int) > 1000) == false) none (cond (decide ((↑(List.length x14) : Int) > 1000) == false) none (cond (decide ((↑(List.length x14) : Int) > 1000) == false) none (cond (decide ((↑(List.length x14) : Int) > 1000)) (some (true)) none)))))) none) none) none)
  (cond (decide ((↑(List.length x12) : Int) > 20000) == false) none (cond (decide ((↑(List.length x12) : Int) > 20000) == false) none (cond (decide ((↑(List.length x12) : Int) > 20000) == false) none (cond (decide ((↑(List.length x12) : Int) > 20000)) (some (true)) none)))))) none) none) none) none)
  (cond (decide ((↑x13 : Int) > 20) == false) none (cond (decide ((↑x13 : Int) > 20) == false) none (cond (decide ((↑x13 : Int) > 20) == false) none (cond (decide ((↑x13 : Int) > 20) == false) none (cond (decide ((↑x13 : Int) > 20)) (some (true)) none)))))) := by kernel_rfl
theorem u8d (z : Int) : (decide (0 ≤ IntKind.wrap .u8 z) && decide (IntKind.wrap .u8 z < 256)) = true := by
  rw [wrap_u8, Bool.and_eq_true, decide_eq_true_eq, decide_eq_true_eq]
  omega
theorem kl_true (x0 : Int) (x1 : Int) (x2 : Int) (x3 : Int) (x4 : Int) (x5 : Int) (x6 : Int) (x7 : Int) (x8 : Int) (x9 : Int) (x10 : Bool) (x11 : Int) (x12 : List Nat) (nlx13 : Bool) (x13 : Nat) (fx13 : Nat → Nat → AV) (x14 : List Nat) (nlx15 : Bool) (x15 : Nat) (fx15 : Nat → Nat → AV) (x16 : Int) (x17 : Int) : kl x0 x1 x2 x3 x4 x5 x6 x7 x8 x9 x10 x11 x12 nlx13 x13 fx13 x14 nlx15 x15 fx15 x16 x17 kl_p = some true := by
  rw [kl_is]
  simp only [u8d, cond_true, eq_self, decide_true, beq_self_eq_true]
  clear fx15
  by_cases a1 : (x13 : Int) > 20
  · simp [a1]
  · have a2 : Nat.ble x13 1000000 = true := Nat.ble_eq_true_of_le (by omega)
    rw [decide_eq_false a1, a2]
    simp only [beq_self_eq_true, cond_true, cond_false]
    by_cases b1 : (x12.length : Int) > 20000
    · simp [b1]
    · rw [decide_eq_false b1]
      simp only [beq_self_eq_true, cond_true, cond_false]
      by_cases c1 : (x14.length : Int) > 1000
      · simp [c1]
      · rw [decide_eq_false c1]
        simp only [beq_self_eq_true, cond_true, cond_false]
        by_cases d1 : (x15 : Int) > 200
        · simp [d1]
        · rw [decide_eq_false d1]
          simp only [cond_false]
          cases okL fx13 x13 with
          | false => rfl
          | true =>
            simp only [cond_true]
            cases hb : (x17 != 0) with
            | false => simp only [beq_self_eq_true, cond_true, cond_false, Bool.false_eq_true, beq_iff_eq, decide_false, show (false == true) = false from rfl]
            | true =>
              simp only [beq_self_eq_true, cond_true, cond_false]
              by_cases f1 : x17 ≤ 127
              · simp only [decide_eq_true f1, Bool.not_true, cond_false]
                by_cases g1 : x16 < 0
                · simp [g1, show ¬ x16 ≥ 0 by omega, show ¬ x16 ≥ 7 by omega]
                · by_cases g2 : x16 ≥ 7
                  · simp [g1, g2, show x16 ≥ 0 by omega, show ¬ x16 < 7 by omega]
                  · simp [g1, g2, show x16 ≥ 0 by omega, show x16 < 7 by omega]
              · simp [f1]
theorem mns : AllM raftOpen.E3 100000 56 [mn, mo2] := ⟨by kernel_rfl, by kernel_rfl, trivial⟩
set_option maxRecDepth 100000 in
theorem g2 : Bm.Good Tryz.prog E2 := (gL.addF (livesS_ok (m := 100000) q5 (by kernel_rfl))).addM2 raftOpen.g3 mns

theorem own : ownKnob Tryz.prog.godebug = none := by kernel_rfl
theorem laidOut : laidOutB Tryz.prog = true := by kernel_rfl
theorem readable : ((Tryz.f4.params.toList).all fun t => Tryz.prog.readableRec t && Nat.blt t Tryz.prog.types.size) = true := by kernel_rfl
theorem fits : argsIs Tryz.prog [.st [.one (.int .i64), .one (.int .i64), .one (.int .i64), .one (.int .i64), .one (.int .i64), .one (.int .u64), .one (.int .u64), .one (.int .u64), .one (.int .u64), .one (.int .u64), .one .bool, .one (.int .u64), .one .str, .sl shI, .one .str, .sl shK], .one (.one (.int .i64)), .one (.one (.int .u64))] Tryz.f4.params.toList = true := by kernel_rfl
set_option maxRecDepth 100000 in
theorem walk {H : Type} {enc : TypeId × Value → H} (W : World) (args : Array Value) (base : Nat) (ds : List (DataW H)) (p : List MemPlace) (hA : DataW.TrodAll enc Tryz.prog W 0 (fun _ => true) true Tryz.f4.params.toList args.toList ds p)
    (hval : ∀ (j : Nat) t v, Tryz.f4.params[j]? = some t → args[j]? = some v → Value.okWide Tryz.prog W .any base t v) : Calls Tryz.prog 4 args W fun e W' => e = .returned (.bool true) ∧ Below W.heap.size W W' := by
    obtain ⟨xs, os1, φ', hI, _, h3, h4⟩ := args_ok (base := base) (P := Tryz.prog) (fun _ => rfl) fits hA (fun j t v h1 h2 => hval j t v (by rw [← Array.getElem?_toList]; exact h1) (by rw [← Array.getElem?_toList]; exact h2)) (RO.nil W)
    obtain ⟨_, _, _, _, rfl, rfl, ⟨_, rfl, hs0⟩, hI⟩ := hI
    obtain ⟨_, _, _, _, rfl, rfl, ⟨⟨x0, rfl, y0⟩, rfl⟩, hs0⟩ := hs0
    obtain ⟨_, _, _, _, rfl, rfl, ⟨⟨x1, rfl, y1⟩, rfl⟩, hs0⟩ := hs0
    obtain ⟨_, _, _, _, rfl, rfl, ⟨⟨x2, rfl, y2⟩, rfl⟩, hs0⟩ := hs0
    obtain ⟨_, _, _, _, rfl, rfl, ⟨⟨x3, rfl, y3⟩, rfl⟩, hs0⟩ := hs0
    obtain ⟨_, _, _, _, rfl, rfl, ⟨⟨x4, rfl, y4⟩, rfl⟩, hs0⟩ := hs0
    obtain ⟨_, _, _, _, rfl, rfl, ⟨⟨x5, rfl, y5⟩, rfl⟩, hs0⟩ := hs0
    obtain ⟨_, _, _, _, rfl, rfl, ⟨⟨x6, rfl, y6⟩, rfl⟩, hs0⟩ := hs0
    obtain ⟨_, _, _, _, rfl, rfl, ⟨⟨x7, rfl, y7⟩, rfl⟩, hs0⟩ := hs0
    obtain ⟨_, _, _, _, rfl, rfl, ⟨⟨x8, rfl, y8⟩, rfl⟩, hs0⟩ := hs0
    obtain ⟨_, _, _, _, rfl, rfl, ⟨⟨x9, rfl, y9⟩, rfl⟩, hs0⟩ := hs0
    obtain ⟨_, _, _, _, rfl, rfl, ⟨⟨x10, rfl⟩, rfl⟩, hs0⟩ := hs0
    obtain ⟨_, _, _, _, rfl, rfl, ⟨⟨x11, rfl, y11⟩, rfl⟩, hs0⟩ := hs0
    obtain ⟨_, _, _, _, rfl, rfl, ⟨⟨x12, rfl, y12⟩, rfl⟩, hs0⟩ := hs0
    obtain ⟨_, _, _, _, rfl, rfl, ⟨nlx13, x13, fx13, rfl, rfl, hnx13, hlx13, y13⟩, hs0⟩ := hs0
    obtain ⟨_, _, _, _, rfl, rfl, ⟨⟨x14, rfl, y14⟩, rfl⟩, hs0⟩ := hs0
    obtain ⟨_, _, _, _, rfl, rfl, ⟨nlx15, x15, fx15, rfl, rfl, hnx15, hlx15, y15⟩, hs0⟩ := hs0
    obtain ⟨rfl, rfl⟩ := hs0
    obtain ⟨_, _, _, _, rfl, rfl, ⟨⟨x16, rfl, y16⟩, rfl⟩, hI⟩ := hI
    obtain ⟨_, _, _, _, rfl, rfl, ⟨⟨x17, rfl, y17⟩, rfl⟩, hI⟩ := hI
    obtain ⟨rfl, rfl⟩ := hI
    have hl := kl_true x0 x1 x2 x3 x4 x5 x6 x7 x8 x9 x10 x11 x12 nlx13 x13 fx13 x14 nlx15 x15 fx15 x16 x17
    have := law_T g2 h4.rel h3 hl
    simpa using this
set_option maxRecDepth 100000 in
theorem lifted (os : Os) (started : os.Started) (H : Type) (enc : TypeId × Value → H) :
    ReturnsInHanded {} Tryz.checked os 4 .any (Rows.raftNobodySpec.pre6 enc Tryz.prog Tryz.f4 Rows.raftNobodyRow.domain false) (Rows.raftNobodySpec.post enc Tryz.prog Tryz.f4 false true false false) := by
  refine returnsInHanded_of_change_sized (C := Tryz.checked) own started (by kernel_rfl) Tryz.func4
    (ChangeSpec.witness6 (enc := enc) (C := Tryz.checked) false ⟨#[], #[.agg #[.int .i64 0, .int .i64 0, .int .i64 0, .int .i64 0, .int .i64 0, .int .u64 0, .int .u64 0, .int .u64 0, .int .u64 0, .int .u64 0, .bool false, .int .u64 0, .string ⟨#[]⟩, .slice none 0 0, .string ⟨#[]⟩, .slice none 0 0], .int .i64 0, .int .u64 0], []⟩ 8 (by kernel_rfl) (by kernel_rfl) (by kernel_rfl) (by kernel_rfl)) ?_
  intro W base args ds gs before hval0 hW hcnd hsz0 _
  have hW' := hW
  obtain ⟨p, q, hA0, hV, rfl, hfz, hnd⟩ := hW
  have hA : DataW.TrodAll enc Tryz.prog W 0 (fun _ => true) true Tryz.f4.params.toList args.toList ds p := hA0
  obtain ⟨rfl, rfl⟩ := trodVars_none hV
  obtain ⟨d1, d2, d3, rfl⟩ : ∃ d1 d2 d3, ds = [d1, d2, d3] := by
    have hA := hA
    obtain ⟨_, _, d1, ds1, _, _, _, rfl, _, _, hA⟩ := trodAll_cons hA
    obtain ⟨_, _, d2, ds2, _, _, _, rfl, _, _, hA⟩ := trodAll_cons hA
    obtain ⟨_, _, d3, ds3, _, _, _, rfl, _, _, hA⟩ := trodAll_cons hA
    obtain ⟨_, rfl, _⟩ := trodAll_nil hA
    exact ⟨d1, d2, d3, rfl⟩
  refine (walk W args base _ p hA hval0).mono fun e W' ⟨he, bel⟩ => ?_
  subst he
  exact ⟨_, rfl, _, _, _, [], _, [], hW', trodAll_mk1 (shut_bool Tryz.underlying4 _), trods_below (ts := []) laidOut bel readable hA, rfl, bel.frame _, fun h => by cases h⟩
theorem over : Rows.raftNobodyRow.holds Tryz.pinned (OpenSpec.ofChange Rows.raftNobodySpec) :=
  OpenClaim.holds_of_wide 4 Tryz.f4 rfl rfl rfl rfl rfl rfl rfl ⟨rfl, rfl, rfl, rfl, rfl⟩ rfl rfl rfl rfl rfl (by kernel_rfl) Tryz.func4 (by kernel_rfl)
    (of_decide_eq_true (by kernel_rfl)) (by unfold Func.isWrapper; first | (rw [if_pos (by decide +kernel)]; kernel_rfl) | (rw [if_neg (by decide +kernel)]; exact ⟨rfl, rfl⟩))
    (fun os started H enc _ => lifted os started H enc)
theorem proved : Rows.RaftNobodySaid := over
#print axioms proved
end Go.Proofs.YtjibcbgnhddfnaaGreat.raftNobody
