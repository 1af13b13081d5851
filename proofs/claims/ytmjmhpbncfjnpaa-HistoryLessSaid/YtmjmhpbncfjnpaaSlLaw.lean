/- What can be so can be so without any read that is left out, and with a write more that was not answered, or never was: for every input the law returns true, and the input reads as it did. No condition. -/
import Derived.Test.YtmjmhpbncfjnpaaSlB
import Derived.Test.YtmjmhpbncfjnpaaRows
import Derived.KernelRfl
set_option linter.unusedSimpArgs false
set_option linter.unusedVariables false
set_option maxRecDepth 20000
namespace Go.Proofs.Ytmjmhpbncfjnpaa.historyLess
open Go Go.ChangeShapes Go.WideShapes Go.ChangeAt Go.RowKit Go.Proofs.Ytmjmhpbncfjnpaa.Bm Go.Proofs.Ytmjmhpbncfjnpaa.history
noncomputable def EL : Env := addF ED 8 livesI
noncomputable def kA (n i : Nat) (fx0 : Nat → Nat → AV) (x1 : Int) (x3 : Int) (x4 : Bool) (x5 x6 : Int) (x7 : List Nat) (x8 x9 : Int) (x10 : Bool) (π : Plan) : Option Bool := lawT (EL) (3000) (4) ([.osl false 0 0 n n 8 true, .int .u32 x1, .int .i64 (i : Nat), .agg [.int .u64 x3, .bool x4, .int .u32 x5, .int .u32 x6, .str x7, .int .i64 x8, .int .i64 x9, .bool x10]]) ([some (.tarr shO n fx0 false)]) π
def kA_p : Plan := (.must true (.reck 1 (.must true (.must true (.must true (.must true (.must true (.must false (.must true (.must true (.must false (.reck 5 (.must true (.must true (.must true (.must true (.reck 1 (.must true (.must true (.must true (.must false (.must false (.reck 1 (.must true (.reck 2 (.must true (.must true (.must true (.must true (.must true (.reck 1 (.must true (.must true (.must true (.must true (.must true (.reck 1 (.must true (.must true (.must true (.must true (.must true (.must true (.reck 1 (.must true (.must true (.must true (.reck 1 (.must true (.reck 3 (.must true (.must true (.reck 1 (.must true (.must true (.fork (.must true (.must true (.reck 3 (.fork (.must true (.must true (.fork .stop (.reck 1 (.must false (.must true (.must true (.must false (.must true (.must true (.must true (.must true (.must true (.must true (.must true (.must true (.reck 1 (.must true (.must true (.must true (.must true (.must true (.must true (.must true (.reck 1 (.must true (.must true (.reck 1 (.must true (.fork (.fork (.must true (.must true (.must true (.reck 1 (.must true (.must true (.must false (.fork (.fork .stop .stop) (.fork .stop .stop))))))))) (.must false (.must false (.must true .stop)))) .stop)))))))))))))))))))))))))))))) .stop)))) (.must false (.must false (.must false (.must false (.reck 2 (.must false (.must true (.must true (.must false (.must true (.must true (.must true (.must true (.must true (.must true (.must true (.must true (.reck 1 (.must true (.must true (.must true (.must true (.must true (.must true (.must true (.reck 1 (.must true (.must true (.reck 1 (.must true (.fork (.fork (.must true (.must true (.must true (.reck 1 (.must true (.must true (.must false (.fork (.fork .stop .stop) (.fork .stop .stop))))))))) (.must false (.must false (.must true .stop)))) .stop)))))))))))))))))))))))))))))))))))))))))))))))))))))))))))))))))))))))))))))))))))))))
theorem kA_is (n : Nat) (i : Nat) (fx0 : Nat → Nat → AV) (x1 : Int) (x3 : Int) (x4 : Bool) (x5 : Int) (x6 : Int) (x7 : List Nat) (x8 : Int) (x9 : Int) (x10 : Bool) : kA n i fx0 x1 x3 x4 x5 x6 x7 x8 x9 x10 kA_p = (cond (decide (n = n)) (cond (decide (n = n)) (cond (okNV n) (cond ((!(okLV fx0 n && decide ((↑n : Int) ≤ 20))) == false) (cond ((!(okLV fx0 n && decide ((↑n : Int) ≤ 20))) == false) (cond ((!(okLV fx0 n && decide ((↑n : Int) ≤ 20))) == false) (cond (!(okLV fx0 n && decide ((↑n : Int) ≤ 20))) none (cond (decide ((↑n : Int) > 8) == false) (cond (decide ((↑n : Int) > 8) == false) (cond (decide ((↑n : Int) > 8)) none (cond (decide ((↑i : Int) ≥ (↑n : Int)) == false) (cond (decide ((↑i : Int) ≥ (↑n : Int)) == false) (cond (decide ((↑i : Int) ≥ (↑n : Int)) == false) (cond (decide (n = n)) (cond (decide (n = n)) (cond ((rngV fx0 (n))) (cond (decide ((↑i : Int) ≥ (↑n : Int)) == false) (cond (decide ((↑i : Int) ≥ (↑n : Int))) none (cond (!checkV x1 fx0 n) none (cond (Nat.ble (Int.toNat (↑i : Int)) n) (cond (Nat.ble ((0) + (Int.toNat (↑i : Int) - 0)) (0)) (cond (Nat.ble (0 + 0 + (Int.toNat (↑i : Int) - 0)) n) (cond (Nat.ble (Int.toNat (IntKind.wrap IntKind.i64 ((↑i : Int) + 1))) n) (cond (Nat.ble n n) (cond (decide (0 ≤ IntKind.wrap IntKind.i64 ((↑i : Int) + 1))) (cond (Nat.ble ((0) + (n - Int.toNat (IntKind.wrap IntKind.i64 ((↑i : Int) + 1)))) (0)) (cond (Nat.ble (0 + Int.toNat (IntKind.wrap IntKind.i64 ((↑i : Int) + 1)) + (n - Int.toNat (IntKind.wrap IntKind.i64 ((↑i : Int) + 1)))) n) (cond (Nat.ble (Int.toNat (IntKind.wrap IntKind.i64 ((↑i : Int) + 1))) n) (cond (Nat.ble n n) (cond (decide (0 ≤ IntKind.wrap IntKind.i64 ((↑i : Int) + 1))) (cond (Nat.beq (0 + Int.toNat (IntKind.wrap IntKind.i64 ((↑i : Int) + 1))) (0 + Int.toNat (IntKind.wrap IntKind.i64 ((↑i : Int) + 1)))) (cond (Nat.beq (n - Int.toNat (IntKind.wrap IntKind.i64 ((↑i : Int) + 1))) (n - Int.toNat (IntKind.wrap IntKind.i64 ((↑i : Int) + 1)))) (cond (Nat.beq (n - Int.toNat (IntKind.wrap IntKind.i64 ((↑i : Int) + 1))) (n - Int.toNat (IntKind.wrap IntKind.i64 ((↑i : Int) + 1)))) (cond (Nat.ble (Int.toNat (IntKind.wrap IntKind.i64 ((↑i : Int) + 1))) n) (cond (Nat.ble n n) (cond (decide (0 ≤ IntKind.wrap IntKind.i64 ((↑i : Int) + 1))) (cond (Nat.beq (0 + Int.toNat (IntKind.wrap IntKind.i64 ((↑i : Int) + 1))) (0 + Int.toNat (IntKind.wrap IntKind.i64 ((↑i : Int) + 1)))) (cond (Nat.beq (n - Int.toNat (IntKind.wrap IntKind.i64 ((↑i : Int) + 1))) (n - Int.toNat (IntKind.wrap IntKind.i64 ((↑i : Int) + 1)))) (cond (Nat.beq (n - Int.toNat (IntKind.wrap IntKind.i64 ((↑i : Int) + 1))) (n - Int.toNat (IntKind.wrap IntKind.i64 ((↑i : Int) + 1)))) (cond (Nat.ble (Int.toNat (↑i : Int)) n) (cond (Nat.beq (Int.toNat (↑i : Int) - 0) (Int.toNat (↑i : Int) - 0)) (cond (Nat.beq (n - 0) (n - 0)) (cond (decide ((↑i : Int) < (↑n : Int))) (cond (Nat.blt (0 + Int.toNat (↑i : Int)) n) (cond ((!AV.toB (fx0 (0 + Int.toNat (↑i : Int)) (1))) == true)
  (cond ((!AV.toB (fx0 (0 + Int.toNat (↑i : Int)) (1))) == true) (cond ((!AV.toB (fx0 (0 + Int.toNat (↑i : Int)) (1))) == true) (cond ((rngV (rowsOf (8) [] (0)) (0)))
  (cond ((!AV.toB (fx0 (0 + Int.toNat (↑i : Int)) (1))) == true) (cond (!AV.toB (fx0 (0 + Int.toNat (↑i : Int)) (1))) (cond (!checkV x1 (rowsOf (List.length shO) (rep 0 [AV.int IntKind.u64 (Int.ofNat 0), AV.bool false, AV.int IntKind.u32 (Int.ofNat 0), AV.int IntKind.u32 (Int.ofNat 0), AV.str [], AV.int IntKind.i64 (Int.ofNat 0), AV.int IntKind.i64 (Int.ofNat 0), AV.bool false]) (Nat.div (List.length (rep 0 [AV.int IntKind.u64 (Int.ofNat 0), AV.bool false, AV.int IntKind.u32 (Int.ofNat 0), AV.int IntKind.u32 (Int.ofNat 0), AV.str [], AV.int IntKind.i64 (Int.ofNat 0), AV.int IntKind.i64 (Int.ofNat 0), AV.bool false])) (List.length shO))) 0)
  (some (false))
  (cond (Nat.ble ((0) + (n)) (0)) none (cond (growB (64) (0 + n)) (cond (Nat.ble (0 + n) n) (cond (Nat.ble ((0 + n) + (1)) (0 + n)) none (cond (growB (64) (0 + n + 1)) (cond (Nat.ble (0 + (0 + n)) (0 + n)) (cond (decide (x3 = x3)) (cond (x4 == x4) (cond (decide (x5 = x5)) (cond (decide (x6 = x6)) (cond (x7 == x7) (cond (decide (x8 = x8)) (cond (x10 == x10) (cond (decide (x3 = x3)) (cond (x4 == x4) (cond (decide (x5 = x5)) (cond (decide (x6 = x6)) (cond (x7 == x7) (cond (decide (x8 = x8)) (cond (x10 == x10) (cond (decide (0 + n + 1 = 0 + n + 1)) (cond (decide (0 + n + 1 = 0 + n + 1)) (cond ((rngV (fjoin (fun p_ q_ => fx0 (0 + (0 + p_ - 0)) q_) (0 + n) (rowsOf (8) [(AV.int IntKind.u64 (x3)), (AV.bool (x4)), (AV.int IntKind.u32 (x5)), (AV.int IntKind.u32 (x6)), (AV.str (x7)), (AV.int IntKind.i64 (x8)), (AV.int IntKind.i64 (0)), (AV.bool (x10))] (1))) (0 + n + 1)))
  (cond ((!gV x1 (fjoin (fun i j => fx0 (0 + (0 + i - 0)) j) (0 + n) (rowsOf 8 (List.take (1 * 8) (List.drop 0 [AV.int IntKind.u64 x3, AV.bool x4, AV.int IntKind.u32 x5, AV.int IntKind.u32 x6, AV.str x7, AV.int IntKind.i64 x8, AV.int IntKind.i64 0, AV.bool x10])) 1)) (0 + n + 1)) == false)
  (cond ((!gV x1 (fjoin (fun i j => fx0 (0 + (0 + i - 0)) j) (0 + n) (rowsOf 8 (List.take (1 * 8) (List.drop 0 [AV.int IntKind.u64 x3, AV.bool x4, AV.int IntKind.u32 x5, AV.int IntKind.u32 x6, AV.str x7, AV.int IntKind.i64 x8, AV.int IntKind.i64 0, AV.bool x10])) 1)) (0 + n + 1)) == false) (cond ((!gV x1 (fjoin (fun i j => fx0 (0 + (0 + i - 0)) j) (0 + n) (rowsOf 8 (List.take (1 * 8) (List.drop 0 [AV.int IntKind.u64 x3, AV.bool x4, AV.int IntKind.u32 x5, AV.int IntKind.u32 x6, AV.str x7, AV.int IntKind.i64 x8, AV.int IntKind.i64 0, AV.bool x10])) 1)) (0 + n + 1)) == false) (cond (decide (0 + n + 1 = 0 + n + 1)) (cond (decide (0 + n + 1 = 0 + n + 1)) (cond ((rngV (fjoin (fun p_ q_ => fx0 (0 + (0 + p_ - 0)) q_) (0 + n) (rowsOf (8) [(AV.int IntKind.u64 (x3)), (AV.bool (x4)), (AV.int IntKind.u32 (x5)), (AV.int IntKind.u32 (x6)), (AV.str (x7)), (AV.int IntKind.i64 (x8)), (AV.int IntKind.i64 (0)), (AV.bool (x10))] (1))) (0 + n + 1))) (cond (!gV x1 (fjoin (fun i j => fx0 (0 + (0 + i - 0)) j) (0 + n) (rowsOf 8 (List.take (1 * 8) (List.drop 0 [AV.int IntKind.u64 x3, AV.bool x4, AV.int IntKind.u32 x5, AV.int IntKind.u32 x6, AV.str x7, AV.int IntKind.i64 x8, AV.int IntKind.i64 0, AV.bool x10])) 1)) (0 + n + 1)) none (cond (checkV x1 (fjoin (fun i j => fx0 (0 + (0 + i - 0)) j) (0 + n) (rowsOf 8 (List.take (1 * 8) (List.drop 0 [AV.int IntKind.u64 x3, AV.bool x4, AV.int IntKind.u32 x5, AV.int IntKind.u32 x6, AV.str x7, AV.int IntKind.i64 x8, AV.int IntKind.i64 0, AV.bool x10])) 1)) (0 + n + 1) == true)
  (cond ((checkV (x1) (fjoin (fun p_ q_ => fx0 (0 + (0 + p_ - 0)) q_) (0 + n) (rowsOf (8) [(AV.int IntKind.u64 (x3)), (AV.bool (x4)), (AV.int IntKind.u32 (x5)), (AV.int IntKind.u32 (x6)), (AV.str (x7)), (AV.int IntKind.i64 (x8)), (AV.int IntKind.i64 (0)), (AV.bool (x10))] (1))) (0 + n + 1)))
  (some (true))
  (some (false)))
  (cond ((checkV (x1) (fjoin (fun p_ q_ => fx0 (0 + (0 + p_ - 0)) q_) (0 + n) (rowsOf (8) [(AV.int IntKind.u64 (x3)), (AV.bool (x4)), (AV.int IntKind.u32 (x5)), (AV.int IntKind.u32 (x6)), (AV.str (x7)), (AV.int IntKind.i64 (x8)), (AV.int IntKind.i64 (0)), (AV.bool (x10))] (1))) (0 + n + 1)))
  none
  (some (false))))) none) none) none) none) none)
  (cond ((!gV x1 (fjoin (fun i j => fx0 (0 + (0 + i - 0)) j) (0 + n) (rowsOf 8 (List.take (1 * 8) (List.drop 0 [AV.int IntKind.u64 x3, AV.bool x4, AV.int IntKind.u32 x5, AV.int IntKind.u32 x6, AV.str x7, AV.int IntKind.i64 x8, AV.int IntKind.i64 0, AV.bool x10])) 1)) (0 + n + 1)) == false) none (cond ((!gV x1 (fjoin (fun i j => fx0 (0 + (0 + i - 0)) j) (0 + n) (rowsOf 8 (List.take (1 * 8) (List.drop 0 [AV.int IntKind.u64 x3, AV.bool x4, AV.int IntKind.u32 x5, AV.int IntKind.u32 x6, AV.str x7, AV.int IntKind.i64 x8, AV.int IntKind.i64 0, AV.bool x10])) 1)) (0 + n + 1)) == false) none (cond (!gV x1 (fjoin (fun i j => fx0 (0 + (0 + i - 0)) j) (0 + n) (rowsOf 8 (List.take (1 * 8) (List.drop 0 [AV.int IntKind.u64 x3, AV.bool x4, AV.int IntKind.u32 x5, AV.int IntKind.u32 x6, AV.str x7, AV.int IntKind.i64 x8, AV.int IntKind.i64 0, AV.bool x10])) 1)) (0 + n + 1)) (some (true)) none))))
  none) none) none) none) none) none) none) none) none) none) none) none) none) none) none) none) none) none) none)) none) none))) none) none)
  none) none) none)
  (cond ((!AV.toB (fx0 (0 + Int.toNat (↑i : Int)) (1))) == true) none (cond ((!AV.toB (fx0 (0 + Int.toNat (↑i : Int)) (1))) == true) none (cond ((!AV.toB (fx0 (0 + Int.toNat (↑i : Int)) (1))) == true) none (cond (!AV.toB (fx0 (0 + Int.toNat (↑i : Int)) (1))) none (cond (Nat.ble ((0) + (n)) (0)) none (cond (growB (64) (0 + n)) (cond (Nat.ble (0 + n) n) (cond (Nat.ble ((0 + n) + (1)) (0 + n)) none (cond (growB (64) (0 + n + 1)) (cond (Nat.ble (0 + (0 + n)) (0 + n)) (cond (decide (x3 = x3)) (cond (x4 == x4) (cond (decide (x5 = x5)) (cond (decide (x6 = x6)) (cond (x7 == x7) (cond (decide (x8 = x8)) (cond (x10 == x10) (cond (decide (x3 = x3)) (cond (x4 == x4) (cond (decide (x5 = x5)) (cond (decide (x6 = x6)) (cond (x7 == x7) (cond (decide (x8 = x8)) (cond (x10 == x10) (cond (decide (0 + n + 1 = 0 + n + 1)) (cond (decide (0 + n + 1 = 0 + n + 1)) (cond ((rngV (fjoin (fun p_ q_ => fx0 (0 + (0 + p_ - 0)) q_) (0 + n) (rowsOf (8) [(AV.int IntKind.u64 (x3)), (AV.bool (x4)), (AV.int IntKind.u32 (x5)), (AV.int IntKind.u32 (x6)), (AV.str (x7)), (AV.int IntKind.i64 (x8)), (AV.int IntKind.i64 (0)), (AV.bool (x10))] (1))) (0 + n + 1)))
  (cond ((!gV x1 (fjoin (fun i j => fx0 (0 + (0 + i - 0)) j) (0 + n) (rowsOf 8 (List.take (1 * 8) (List.drop 0 [AV.int IntKind.u64 x3, AV.bool x4, AV.int IntKind.u32 x5, AV.int IntKind.u32 x6, AV.str x7, AV.int IntKind.i64 x8, AV.int IntKind.i64 0, AV.bool x10])) 1)) (0 + n + 1)) == false)
  (cond ((!gV x1 (fjoin (fun i j => fx0 (0 + (0 + i - 0)) j) (0 + n) (rowsOf 8 (List.take (1 * 8) (List.drop 0 [AV.int IntKind.u64 x3, AV.bool x4, AV.int IntKind.u32 x5, AV.int IntKind.u32 x6, AV.str x7, AV.int IntKind.i64 x8, AV.int IntKind.i64 0, AV.bool x10])) 1)) (0 + n + 1)) == false) (cond ((!gV x1 (fjoin (fun i j => fx0 (0 + (0 + i - 0)) j) (0 + n) (rowsOf 8 (List.take (1 * 8) (List.drop 0 [AV.int IntKind.u64 x3, AV.bool x4, AV.int IntKind.u32 x5, AV.int IntKind.u32 x6, AV.str x7, AV.int IntKind.i64 x8, AV.int IntKind.i64 0, AV.bool x10])) 1)) (0 + n + 1)) == false) (cond (decide (0 + n + 1 = 0 + n + 1)) (cond (decide (0 + n + 1 = 0 + n + 1)) (cond ((rngV (fjoin (fun p_ q_ => fx0 (0 + (0 + p_ - 0)) q_) (0 + n) (rowsOf (8) [(AV.int IntKind.u64 (x3)), (AV.bool (x4)), (AV.int IntKind.u32 (x5)), (AV.int IntKind.u32 (x6)), (AV.str (x7)), (AV.int IntKind.i64 (x8)), (AV.int IntKind.i64 (0)), (AV.bool (x10))] (1))) (0 + n + 1))) (cond (!gV x1 (fjoin (fun i j => fx0 (0 + (0 + i - 0)) j) (0 + n) (rowsOf 8 (List.take (1 * 8) (List.drop 0 [AV.int IntKind.u64 x3, AV.bool x4, AV.int IntKind.u32 x5, AV.int IntKind.u32 x6, AV.str x7, AV.int IntKind.i64 x8, AV.int IntKind.i64 0, AV.bool x10])) 1)) (0 + n + 1)) none (cond (checkV x1 (fjoin (fun i j => fx0 (0 + (0 + i - 0)) j) (0 + n) (rowsOf 8 (List.take (1 * 8) (List.drop 0 [AV.int IntKind.u64 x3, AV.bool x4, AV.int IntKind.u32 x5, AV.int IntKind.u32 x6, AV.str x7, AV.int IntKind.i64 x8, AV.int IntKind.i64 0, AV.bool x10])) 1)) (0 + n + 1) == true)
  (cond ((checkV (x1) (fjoin (fun p_ q_ => fx0 (0 + (0 + p_ - 0)) q_) (0 + n) (rowsOf (8) [(AV.int IntKind.u64 (x3)), (AV.bool (x4)), (AV.int IntKind.u32 (x5)), (AV.int IntKind.u32 (x6)), (AV.str (x7)), (AV.int IntKind.i64 (x8)), (AV.int IntKind.i64 (0)), (AV.bool (x10))] (1))) (0 + n + 1)))
  (some (true))
  (some (false)))
  (cond ((checkV (x1) (fjoin (fun p_ q_ => fx0 (0 + (0 + p_ - 0)) q_) (0 + n) (rowsOf (8) [(AV.int IntKind.u64 (x3)), (AV.bool (x4)), (AV.int IntKind.u32 (x5)), (AV.int IntKind.u32 (x6)), (AV.str (x7)), (AV.int IntKind.i64 (x8)), (AV.int IntKind.i64 (0)), (AV.bool (x10))] (1))) (0 + n + 1)))
  none
  (some (false))))) none) none) none) none) none)
  (cond ((!gV x1 (fjoin (fun i j => fx0 (0 + (0 + i - 0)) j) (0 + n) (rowsOf 8 (List.take (1 * 8) (List.drop 0 [AV.int IntKind.u64 x3, AV.bool x4, AV.int IntKind.u32 x5, AV.int IntKind.u32 x6, AV.str x7, AV.int IntKind.i64 x8, AV.int IntKind.i64 0, AV.bool x10])) 1)) (0 + n + 1)) == false) none (cond ((!gV x1 (fjoin (fun i j => fx0 (0 + (0 + i - 0)) j) (0 + n) (rowsOf 8 (List.take (1 * 8) (List.drop 0 [AV.int IntKind.u64 x3, AV.bool x4, AV.int IntKind.u32 x5, AV.int IntKind.u32 x6, AV.str x7, AV.int IntKind.i64 x8, AV.int IntKind.i64 0, AV.bool x10])) 1)) (0 + n + 1)) == false) none (cond (!gV x1 (fjoin (fun i j => fx0 (0 + (0 + i - 0)) j) (0 + n) (rowsOf 8 (List.take (1 * 8) (List.drop 0 [AV.int IntKind.u64 x3, AV.bool x4, AV.int IntKind.u32 x5, AV.int IntKind.u32 x6, AV.str x7, AV.int IntKind.i64 x8, AV.int IntKind.i64 0, AV.bool x10])) 1)) (0 + n + 1)) (some (true)) none))))
  none) none) none) none) none) none) none) none) none) none) none) none) none) none) none) none) none) none) none)) none) none))))))) none) none) none) none) none) none) none) none) none) none) none) none) none) none) none) none) none) none) none) none) none) none) none) none) none))) none) none) none) none) none) none) none)) none) none)) none) none) none) none) none) none) := by kernel_rfl
theorem kA_eq (n : Nat) (i : Nat) (fx0 : Nat → Nat → AV) (x1 : Int) (x3 : Int) (x4 : Bool) (x5 : Int) (x6 : Int) (x7 : List Nat) (x8 : Int) (x9 : Int) (x10 : Bool) (hy0 : (okNV n) = true) (hy1 : (okLV fx0 n && decide ((↑n : Int) ≤ 20)) = true) (hy2 : (decide ((↑n : Int) > 8)) = false) (hy3 : (decide ((↑i : Int) ≥ (↑n : Int))) = false) (hy4 : (rngV fx0 n) = true) (hy5 : (checkV x1 fx0 n) = true) (hy6 : (rngV fx0 (n)) = true) (hy7 : (Nat.ble (Int.toNat (↑i : Int)) n) = true) (hy8 : (Nat.ble (Int.toNat (IntKind.wrap IntKind.i64 ((↑i : Int) + 1))) n) = true) (hy9 : (decide (0 ≤ IntKind.wrap IntKind.i64 ((↑i : Int) + 1))) = true) (hy10 : (Nat.ble (0 + Int.toNat (IntKind.wrap IntKind.i64 ((↑i : Int) + 1)) + (n - Int.toNat (IntKind.wrap IntKind.i64 ((↑i : Int) + 1)))) n) = true) (hy11 : (decide ((↑i : Int) < (↑n : Int))) = true) (hy12 : (Nat.blt (0 + Int.toNat (↑i : Int)) n) = true) (hy13 : (Nat.ble ((0) + (n)) (0)) = false) (hy14 : (growB (64) (0 + n)) = true) (hy15 : (Nat.ble (0 + n) n) = true) (hy16 : (growB (64) (0 + n + 1)) = true) (hy17 : (Nat.ble (0 + (0 + n)) (0 + n)) = true) (hy18 : (Nat.ble (0 + 0 + (Int.toNat (↑i : Int) - 0)) n) = true) (hy19 : (Nat.ble ((0) + (Int.toNat (↑i : Int) - 0)) (0)) = true) (hy20 : (Nat.ble ((0) + (n - Int.toNat (IntKind.wrap IntKind.i64 ((↑i : Int) + 1)))) (0)) = true) : kA n i fx0 x1 x3 x4 x5 x6 x7 x8 x9 x10 kA_p = (cond (AV.toB (fx0 (0 + Int.toNat (↑i : Int)) (1)))
  (cond (Nat.ble ((0 + n) + (1)) (0 + n)) none (cond (rngV (fjoin (fun p_ q_ => fx0 (0 + (0 + p_ - 0)) q_) (0 + n) (rowsOf (8) [(AV.int IntKind.u64 (x3)), (AV.bool (x4)), (AV.int IntKind.u32 (x5)), (AV.int IntKind.u32 (x6)), (AV.str (x7)), (AV.int IntKind.i64 (x8)), (AV.int IntKind.i64 (0)), (AV.bool (x10))] (1))) (0 + n + 1))
  (cond (gV x1 (fjoin (fun i j => fx0 (0 + (0 + i - 0)) j) (0 + n) (rowsOf 8 (List.take (1 * 8) (List.drop 0 [AV.int IntKind.u64 x3, AV.bool x4, AV.int IntKind.u32 x5, AV.int IntKind.u32 x6, AV.str x7, AV.int IntKind.i64 x8, AV.int IntKind.i64 0, AV.bool x10])) 1)) (0 + n + 1))
  (cond (checkV x1 (fjoin (fun i j => fx0 (0 + (0 + i - 0)) j) (0 + n) (rowsOf 8 (List.take (1 * 8) (List.drop 0 [AV.int IntKind.u64 x3, AV.bool x4, AV.int IntKind.u32 x5, AV.int IntKind.u32 x6, AV.str x7, AV.int IntKind.i64 x8, AV.int IntKind.i64 0, AV.bool x10])) 1)) (0 + n + 1))
  (cond (checkV (x1) (fjoin (fun p_ q_ => fx0 (0 + (0 + p_ - 0)) q_) (0 + n) (rowsOf (8) [(AV.int IntKind.u64 (x3)), (AV.bool (x4)), (AV.int IntKind.u32 (x5)), (AV.int IntKind.u32 (x6)), (AV.str (x7)), (AV.int IntKind.i64 (x8)), (AV.int IntKind.i64 (0)), (AV.bool (x10))] (1))) (0 + n + 1))
  (some (true))
  (some (false)))
  (cond (checkV (x1) (fjoin (fun p_ q_ => fx0 (0 + (0 + p_ - 0)) q_) (0 + n) (rowsOf (8) [(AV.int IntKind.u64 (x3)), (AV.bool (x4)), (AV.int IntKind.u32 (x5)), (AV.int IntKind.u32 (x6)), (AV.str (x7)), (AV.int IntKind.i64 (x8)), (AV.int IntKind.i64 (0)), (AV.bool (x10))] (1))) (0 + n + 1))
  none
  (some (false))))
  (some (true)))
  none))
  (cond (rngV (rowsOf (8) [] (0)) (0))
  (cond (checkV x1 (rowsOf (List.length shO) (rep 0 [AV.int IntKind.u64 (Int.ofNat 0), AV.bool false, AV.int IntKind.u32 (Int.ofNat 0), AV.int IntKind.u32 (Int.ofNat 0), AV.str [], AV.int IntKind.i64 (Int.ofNat 0), AV.int IntKind.i64 (Int.ofNat 0), AV.bool false]) (Nat.div (List.length (rep 0 [AV.int IntKind.u64 (Int.ofNat 0), AV.bool false, AV.int IntKind.u32 (Int.ofNat 0), AV.int IntKind.u32 (Int.ofNat 0), AV.str [], AV.int IntKind.i64 (Int.ofNat 0), AV.int IntKind.i64 (Int.ofNat 0), AV.bool false])) (List.length shO))) 0)
  (cond (Nat.ble ((0 + n) + (1)) (0 + n)) none (cond (rngV (fjoin (fun p_ q_ => fx0 (0 + (0 + p_ - 0)) q_) (0 + n) (rowsOf (8) [(AV.int IntKind.u64 (x3)), (AV.bool (x4)), (AV.int IntKind.u32 (x5)), (AV.int IntKind.u32 (x6)), (AV.str (x7)), (AV.int IntKind.i64 (x8)), (AV.int IntKind.i64 (0)), (AV.bool (x10))] (1))) (0 + n + 1))
  (cond (gV x1 (fjoin (fun i j => fx0 (0 + (0 + i - 0)) j) (0 + n) (rowsOf 8 (List.take (1 * 8) (List.drop 0 [AV.int IntKind.u64 x3, AV.bool x4, AV.int IntKind.u32 x5, AV.int IntKind.u32 x6, AV.str x7, AV.int IntKind.i64 x8, AV.int IntKind.i64 0, AV.bool x10])) 1)) (0 + n + 1))
  (cond (checkV x1 (fjoin (fun i j => fx0 (0 + (0 + i - 0)) j) (0 + n) (rowsOf 8 (List.take (1 * 8) (List.drop 0 [AV.int IntKind.u64 x3, AV.bool x4, AV.int IntKind.u32 x5, AV.int IntKind.u32 x6, AV.str x7, AV.int IntKind.i64 x8, AV.int IntKind.i64 0, AV.bool x10])) 1)) (0 + n + 1))
  (cond (checkV (x1) (fjoin (fun p_ q_ => fx0 (0 + (0 + p_ - 0)) q_) (0 + n) (rowsOf (8) [(AV.int IntKind.u64 (x3)), (AV.bool (x4)), (AV.int IntKind.u32 (x5)), (AV.int IntKind.u32 (x6)), (AV.str (x7)), (AV.int IntKind.i64 (x8)), (AV.int IntKind.i64 (0)), (AV.bool (x10))] (1))) (0 + n + 1))
  (some (true))
  (some (false)))
  (cond (checkV (x1) (fjoin (fun p_ q_ => fx0 (0 + (0 + p_ - 0)) q_) (0 + n) (rowsOf (8) [(AV.int IntKind.u64 (x3)), (AV.bool (x4)), (AV.int IntKind.u32 (x5)), (AV.int IntKind.u32 (x6)), (AV.str (x7)), (AV.int IntKind.i64 (x8)), (AV.int IntKind.i64 (0)), (AV.bool (x10))] (1))) (0 + n + 1))
  none
  (some (false))))
  (some (true)))
  none))
  (some (false)))
  none)) := by
  rw [kA_is]
  try simp only [hy0, hy1, hy2, hy3, hy4, hy5, hy6, hy7, hy8, hy9, hy10, hy11, hy12, hy13, hy14, hy15, hy16, hy17, hy18, hy19, hy20, eq_self, decide_true, beq_self_eq_true, Nat.beq_refl, ble_self, Int.le_refl, Nat.le_refl]
  cases (AV.toB (fx0 (0 + Int.toNat (↑i : Int)) (1))) with
  | true =>
    cases (rngV (fjoin (fun p_ q_ => fx0 (0 + (0 + p_ - 0)) q_) (0 + n) (rowsOf (8) [(AV.int IntKind.u64 (x3)), (AV.bool (x4)), (AV.int IntKind.u32 (x5)), (AV.int IntKind.u32 (x6)), (AV.str (x7)), (AV.int IntKind.i64 (x8)), (AV.int IntKind.i64 (0)), (AV.bool (x10))] (1))) (0 + n + 1)) with
    | true =>
      cases (gV x1 (fjoin (fun i j => fx0 (0 + (0 + i - 0)) j) (0 + n) (rowsOf 8 (List.take (1 * 8) (List.drop 0 [AV.int IntKind.u64 x3, AV.bool x4, AV.int IntKind.u32 x5, AV.int IntKind.u32 x6, AV.str x7, AV.int IntKind.i64 x8, AV.int IntKind.i64 0, AV.bool x10])) 1)) (0 + n + 1)) with
      | true =>
        cases (checkV x1 (fjoin (fun i j => fx0 (0 + (0 + i - 0)) j) (0 + n) (rowsOf 8 (List.take (1 * 8) (List.drop 0 [AV.int IntKind.u64 x3, AV.bool x4, AV.int IntKind.u32 x5, AV.int IntKind.u32 x6, AV.str x7, AV.int IntKind.i64 x8, AV.int IntKind.i64 0, AV.bool x10])) 1)) (0 + n + 1)) with
        | true =>
          cases (checkV (x1) (fjoin (fun p_ q_ => fx0 (0 + (0 + p_ - 0)) q_) (0 + n) (rowsOf (8) [(AV.int IntKind.u64 (x3)), (AV.bool (x4)), (AV.int IntKind.u32 (x5)), (AV.int IntKind.u32 (x6)), (AV.str (x7)), (AV.int IntKind.i64 (x8)), (AV.int IntKind.i64 (0)), (AV.bool (x10))] (1))) (0 + n + 1)) with
          | true =>
            rfl
          | false =>
            rfl
        | false =>
          cases (checkV (x1) (fjoin (fun p_ q_ => fx0 (0 + (0 + p_ - 0)) q_) (0 + n) (rowsOf (8) [(AV.int IntKind.u64 (x3)), (AV.bool (x4)), (AV.int IntKind.u32 (x5)), (AV.int IntKind.u32 (x6)), (AV.str (x7)), (AV.int IntKind.i64 (x8)), (AV.int IntKind.i64 (0)), (AV.bool (x10))] (1))) (0 + n + 1)) with
          | true =>
            rfl
          | false =>
            rfl
      | false =>
        rfl
    | false =>
      rfl
  | false =>
    cases (rngV (rowsOf (8) [] (0)) (0)) with
    | true =>
      cases (checkV x1 (rowsOf (List.length shO) (rep 0 [AV.int IntKind.u64 (Int.ofNat 0), AV.bool false, AV.int IntKind.u32 (Int.ofNat 0), AV.int IntKind.u32 (Int.ofNat 0), AV.str [], AV.int IntKind.i64 (Int.ofNat 0), AV.int IntKind.i64 (Int.ofNat 0), AV.bool false]) (Nat.div (List.length (rep 0 [AV.int IntKind.u64 (Int.ofNat 0), AV.bool false, AV.int IntKind.u32 (Int.ofNat 0), AV.int IntKind.u32 (Int.ofNat 0), AV.str [], AV.int IntKind.i64 (Int.ofNat 0), AV.int IntKind.i64 (Int.ofNat 0), AV.bool false])) (List.length shO))) 0) with
      | true =>
        cases (rngV (fjoin (fun p_ q_ => fx0 (0 + (0 + p_ - 0)) q_) (0 + n) (rowsOf (8) [(AV.int IntKind.u64 (x3)), (AV.bool (x4)), (AV.int IntKind.u32 (x5)), (AV.int IntKind.u32 (x6)), (AV.str (x7)), (AV.int IntKind.i64 (x8)), (AV.int IntKind.i64 (0)), (AV.bool (x10))] (1))) (0 + n + 1)) with
        | true =>
          cases (gV x1 (fjoin (fun i j => fx0 (0 + (0 + i - 0)) j) (0 + n) (rowsOf 8 (List.take (1 * 8) (List.drop 0 [AV.int IntKind.u64 x3, AV.bool x4, AV.int IntKind.u32 x5, AV.int IntKind.u32 x6, AV.str x7, AV.int IntKind.i64 x8, AV.int IntKind.i64 0, AV.bool x10])) 1)) (0 + n + 1)) with
          | true =>
            cases (checkV x1 (fjoin (fun i j => fx0 (0 + (0 + i - 0)) j) (0 + n) (rowsOf 8 (List.take (1 * 8) (List.drop 0 [AV.int IntKind.u64 x3, AV.bool x4, AV.int IntKind.u32 x5, AV.int IntKind.u32 x6, AV.str x7, AV.int IntKind.i64 x8, AV.int IntKind.i64 0, AV.bool x10])) 1)) (0 + n + 1)) with
            | true =>
              cases (checkV (x1) (fjoin (fun p_ q_ => fx0 (0 + (0 + p_ - 0)) q_) (0 + n) (rowsOf (8) [(AV.int IntKind.u64 (x3)), (AV.bool (x4)), (AV.int IntKind.u32 (x5)), (AV.int IntKind.u32 (x6)), (AV.str (x7)), (AV.int IntKind.i64 (x8)), (AV.int IntKind.i64 (0)), (AV.bool (x10))] (1))) (0 + n + 1)) with
              | true =>
                rfl
              | false =>
                rfl
            | false =>
              cases (checkV (x1) (fjoin (fun p_ q_ => fx0 (0 + (0 + p_ - 0)) q_) (0 + n) (rowsOf (8) [(AV.int IntKind.u64 (x3)), (AV.bool (x4)), (AV.int IntKind.u32 (x5)), (AV.int IntKind.u32 (x6)), (AV.str (x7)), (AV.int IntKind.i64 (x8)), (AV.int IntKind.i64 (0)), (AV.bool (x10))] (1))) (0 + n + 1)) with
              | true =>
                rfl
              | false =>
                rfl
          | false =>
            rfl
        | false =>
          rfl
      | false =>
        rfl
    | false =>
      rfl

noncomputable def kB (n i : Nat) (fx0 : Nat → Nat → AV) (x1 : Int) (x3 : Int) (x4 : Bool) (x5 x6 : Int) (x7 : List Nat) (x8 x9 : Int) (x10 : Bool) (π : Plan) : Option Bool := lawT (EL) (3000) (4) ([.osl false 0 0 n n 8 true, .int .u32 x1, .int .i64 (i : Nat), .agg [.int .u64 x3, .bool x4, .int .u32 x5, .int .u32 x6, .str x7, .int .i64 x8, .int .i64 x9, .bool x10]]) ([some (.tarr shO n fx0 false)]) π
def kB_p : Plan := (.must true (.reck 1 (.must true (.must true (.must true (.must true (.must true (.must false (.must true (.must true (.must false (.reck 5 (.must true (.must true (.must true (.must true (.reck 1 (.must true (.must true (.must true (.must false (.must false (.reck 1 (.must true (.reck 2 (.must true (.must true (.must true (.must true (.must true (.reck 1 (.must false (.fork (.must true (.must true (.must true (.must true (.reck 1 (.must true (.must true (.must true (.must true (.must true (.must true (.reck 1 (.must true (.must true (.must true (.reck 1 (.must true (.reck 3 (.must true (.must true (.reck 1 (.must true (.must true (.fork (.must true (.must true (.must true (.reck 1 (.must true (.fork (.must true (.must true (.fork .stop (.reck 1 (.must false (.must true (.must true (.must false (.must true (.must true (.must true (.must true (.must true (.must true (.must true (.must true (.reck 1 (.must true (.must true (.must true (.must true (.must true (.must true (.must true (.reck 1 (.must true (.must true (.reck 1 (.must true (.fork (.fork (.must true (.must true (.must true (.reck 1 (.must true (.must true (.must false (.fork (.fork .stop .stop) (.fork .stop .stop))))))))) (.must false (.must false (.must true .stop)))) .stop)))))))))))))))))))))))))))))) .stop)))))) (.must false (.must false (.must false (.must false (.reck 2 (.must false (.must true (.must true (.must false (.must true (.must true (.must true (.must true (.must true (.must true (.must true (.must true (.reck 1 (.must true (.must true (.must true (.must true (.must true (.must true (.must true (.reck 1 (.must true (.must true (.reck 1 (.must true (.fork (.fork (.must true (.must true (.must true (.reck 1 (.must true (.must true (.must false (.fork (.fork .stop .stop) (.fork .stop .stop))))))))) (.must false (.must false (.must true .stop)))) .stop))))))))))))))))))))))))))))))))))))))))))))))))))))))) .stop)))))))))))))))))))))))))))))))))
theorem kB_is (n : Nat) (i : Nat) (fx0 : Nat → Nat → AV) (x1 : Int) (x3 : Int) (x4 : Bool) (x5 : Int) (x6 : Int) (x7 : List Nat) (x8 : Int) (x9 : Int) (x10 : Bool) : kB n i fx0 x1 x3 x4 x5 x6 x7 x8 x9 x10 kB_p = (cond (decide (n = n)) (cond (decide (n = n)) (cond (okNV n) (cond ((!(okLV fx0 n && decide ((↑n : Int) ≤ 20))) == false) (cond ((!(okLV fx0 n && decide ((↑n : Int) ≤ 20))) == false) (cond ((!(okLV fx0 n && decide ((↑n : Int) ≤ 20))) == false) (cond (!(okLV fx0 n && decide ((↑n : Int) ≤ 20))) none (cond (decide ((↑n : Int) > 8) == false) (cond (decide ((↑n : Int) > 8) == false) (cond (decide ((↑n : Int) > 8)) none (cond (decide ((↑i : Int) ≥ (↑n : Int)) == false) (cond (decide ((↑i : Int) ≥ (↑n : Int)) == false) (cond (decide ((↑i : Int) ≥ (↑n : Int)) == false) (cond (decide (n = n)) (cond (decide (n = n)) (cond ((rngV fx0 (n))) (cond (decide ((↑i : Int) ≥ (↑n : Int)) == false) (cond (decide ((↑i : Int) ≥ (↑n : Int))) none (cond (!checkV x1 fx0 n) none (cond (Nat.ble (Int.toNat (↑i : Int)) n) (cond (Nat.ble ((0) + (Int.toNat (↑i : Int) - 0)) (0)) (cond (Nat.ble (0 + 0 + (Int.toNat (↑i : Int) - 0)) n) (cond (Nat.ble (Int.toNat (IntKind.wrap IntKind.i64 ((↑i : Int) + 1))) n) (cond (Nat.ble n n) (cond (decide (0 ≤ IntKind.wrap IntKind.i64 ((↑i : Int) + 1))) (cond (Nat.ble ((0) + (n - Int.toNat (IntKind.wrap IntKind.i64 ((↑i : Int) + 1)))) (0)) none (cond (growB (64) (0 + (n - Int.toNat (IntKind.wrap IntKind.i64 ((↑i : Int) + 1)))))
  (cond (Nat.ble (0 + Int.toNat (IntKind.wrap IntKind.i64 ((↑i : Int) + 1)) + (n - Int.toNat (IntKind.wrap IntKind.i64 ((↑i : Int) + 1)))) n) (cond (Nat.ble (Int.toNat (IntKind.wrap IntKind.i64 ((↑i : Int) + 1))) n) (cond (Nat.ble n n) (cond (decide (0 ≤ IntKind.wrap IntKind.i64 ((↑i : Int) + 1))) (cond (Nat.beq (0 + Int.toNat (IntKind.wrap IntKind.i64 ((↑i : Int) + 1))) (0 + Int.toNat (IntKind.wrap IntKind.i64 ((↑i : Int) + 1)))) (cond (Nat.beq (n - Int.toNat (IntKind.wrap IntKind.i64 ((↑i : Int) + 1))) (n - Int.toNat (IntKind.wrap IntKind.i64 ((↑i : Int) + 1)))) (cond (Nat.beq (n - Int.toNat (IntKind.wrap IntKind.i64 ((↑i : Int) + 1))) (n - Int.toNat (IntKind.wrap IntKind.i64 ((↑i : Int) + 1)))) (cond (Nat.ble (Int.toNat (IntKind.wrap IntKind.i64 ((↑i : Int) + 1))) n) (cond (Nat.ble n n) (cond (decide (0 ≤ IntKind.wrap IntKind.i64 ((↑i : Int) + 1))) (cond (Nat.beq (0 + Int.toNat (IntKind.wrap IntKind.i64 ((↑i : Int) + 1))) (0 + Int.toNat (IntKind.wrap IntKind.i64 ((↑i : Int) + 1)))) (cond (Nat.beq (n - Int.toNat (IntKind.wrap IntKind.i64 ((↑i : Int) + 1))) (n - Int.toNat (IntKind.wrap IntKind.i64 ((↑i : Int) + 1)))) (cond (Nat.beq (n - Int.toNat (IntKind.wrap IntKind.i64 ((↑i : Int) + 1))) (n - Int.toNat (IntKind.wrap IntKind.i64 ((↑i : Int) + 1)))) (cond (Nat.ble (Int.toNat (↑i : Int)) n) (cond (Nat.beq (Int.toNat (↑i : Int) - 0) (Int.toNat (↑i : Int) - 0)) (cond (Nat.beq (n - 0) (n - 0)) (cond (decide ((↑i : Int) < (↑n : Int))) (cond (Nat.blt (0 + Int.toNat (↑i : Int)) n) (cond ((!AV.toB (fx0 (0 + Int.toNat (↑i : Int)) (1))) == true)
  (cond ((!AV.toB (fx0 (0 + Int.toNat (↑i : Int)) (1))) == true) (cond ((!AV.toB (fx0 (0 + Int.toNat (↑i : Int)) (1))) == true) (cond (decide (0 + (n - Int.toNat (IntKind.wrap IntKind.i64 ((↑i : Int) + 1))) = 0 + (n - Int.toNat (IntKind.wrap IntKind.i64 ((↑i : Int) + 1))))) (cond (decide (0 + (n - Int.toNat (IntKind.wrap IntKind.i64 ((↑i : Int) + 1))) = 0 + (n - Int.toNat (IntKind.wrap IntKind.i64 ((↑i : Int) + 1))))) (cond ((rngV (fjoin (rowsOf (8) [] (0)) (0) (fun p_ q_ => fx0 (0 + Int.toNat (IntKind.wrap IntKind.i64 ((↑i : Int) + 1)) + p_) q_)) (0 + (n - Int.toNat (IntKind.wrap IntKind.i64 ((↑i : Int) + 1))))))
  (cond ((!AV.toB (fx0 (0 + Int.toNat (↑i : Int)) (1))) == true) (cond (!AV.toB (fx0 (0 + Int.toNat (↑i : Int)) (1))) (cond (!checkV x1 (fjoin (rowsOf 8 (List.take (0 * 8) (List.drop 0 (rep 0 [AV.int IntKind.u64 (Int.ofNat 0), AV.bool false, AV.int IntKind.u32 (Int.ofNat 0), AV.int IntKind.u32 (Int.ofNat 0), AV.str [], AV.int IntKind.i64 (Int.ofNat 0), AV.int IntKind.i64 (Int.ofNat 0), AV.bool false]))) 0) 0 fun i_1 j => fx0 (0 + Int.toNat (IntKind.wrap IntKind.i64 ((↑i : Int) + 1)) + i_1) j) (0 + (n - Int.toNat (IntKind.wrap IntKind.i64 ((↑i : Int) + 1)))))
  (some (false))
  (cond (Nat.ble ((0) + (n)) (0)) none (cond (growB (64) (0 + n)) (cond (Nat.ble (0 + n) n) (cond (Nat.ble ((0 + n) + (1)) (0 + n)) none (cond (growB (64) (0 + n + 1)) (cond (Nat.ble (0 + (0 + n)) (0 + n)) (cond (decide (x3 = x3)) (cond (x4 == x4) (cond (decide (x5 = x5)) (cond (decide (x6 = x6)) (cond (x7 == x7) (cond (decide (x8 = x8)) (cond (x10 == x10) (cond (decide (x3 = x3)) (cond (x4 == x4) (cond (decide (x5 = x5)) (cond (decide (x6 = x6)) (cond (x7 == x7) (cond (decide (x8 = x8)) (cond (x10 == x10) (cond (decide (0 + n + 1 = 0 + n + 1)) (cond (decide (0 + n + 1 = 0 + n + 1)) (cond ((rngV (fjoin (fun p_ q_ => fx0 (0 + (0 + p_ - 0)) q_) (0 + n) (rowsOf (8) [(AV.int IntKind.u64 (x3)), (AV.bool (x4)), (AV.int IntKind.u32 (x5)), (AV.int IntKind.u32 (x6)), (AV.str (x7)), (AV.int IntKind.i64 (x8)), (AV.int IntKind.i64 (0)), (AV.bool (x10))] (1))) (0 + n + 1)))
  (cond ((!gV x1 (fjoin (fun i j => fx0 (0 + (0 + i - 0)) j) (0 + n) (rowsOf 8 (List.take (1 * 8) (List.drop 0 [AV.int IntKind.u64 x3, AV.bool x4, AV.int IntKind.u32 x5, AV.int IntKind.u32 x6, AV.str x7, AV.int IntKind.i64 x8, AV.int IntKind.i64 0, AV.bool x10])) 1)) (0 + n + 1)) == false)
  (cond ((!gV x1 (fjoin (fun i j => fx0 (0 + (0 + i - 0)) j) (0 + n) (rowsOf 8 (List.take (1 * 8) (List.drop 0 [AV.int IntKind.u64 x3, AV.bool x4, AV.int IntKind.u32 x5, AV.int IntKind.u32 x6, AV.str x7, AV.int IntKind.i64 x8, AV.int IntKind.i64 0, AV.bool x10])) 1)) (0 + n + 1)) == false) (cond ((!gV x1 (fjoin (fun i j => fx0 (0 + (0 + i - 0)) j) (0 + n) (rowsOf 8 (List.take (1 * 8) (List.drop 0 [AV.int IntKind.u64 x3, AV.bool x4, AV.int IntKind.u32 x5, AV.int IntKind.u32 x6, AV.str x7, AV.int IntKind.i64 x8, AV.int IntKind.i64 0, AV.bool x10])) 1)) (0 + n + 1)) == false) (cond (decide (0 + n + 1 = 0 + n + 1)) (cond (decide (0 + n + 1 = 0 + n + 1)) (cond ((rngV (fjoin (fun p_ q_ => fx0 (0 + (0 + p_ - 0)) q_) (0 + n) (rowsOf (8) [(AV.int IntKind.u64 (x3)), (AV.bool (x4)), (AV.int IntKind.u32 (x5)), (AV.int IntKind.u32 (x6)), (AV.str (x7)), (AV.int IntKind.i64 (x8)), (AV.int IntKind.i64 (0)), (AV.bool (x10))] (1))) (0 + n + 1))) (cond (!gV x1 (fjoin (fun i j => fx0 (0 + (0 + i - 0)) j) (0 + n) (rowsOf 8 (List.take (1 * 8) (List.drop 0 [AV.int IntKind.u64 x3, AV.bool x4, AV.int IntKind.u32 x5, AV.int IntKind.u32 x6, AV.str x7, AV.int IntKind.i64 x8, AV.int IntKind.i64 0, AV.bool x10])) 1)) (0 + n + 1)) none (cond (checkV x1 (fjoin (fun i j => fx0 (0 + (0 + i - 0)) j) (0 + n) (rowsOf 8 (List.take (1 * 8) (List.drop 0 [AV.int IntKind.u64 x3, AV.bool x4, AV.int IntKind.u32 x5, AV.int IntKind.u32 x6, AV.str x7, AV.int IntKind.i64 x8, AV.int IntKind.i64 0, AV.bool x10])) 1)) (0 + n + 1) == true)
  (cond ((checkV (x1) (fjoin (fun p_ q_ => fx0 (0 + (0 + p_ - 0)) q_) (0 + n) (rowsOf (8) [(AV.int IntKind.u64 (x3)), (AV.bool (x4)), (AV.int IntKind.u32 (x5)), (AV.int IntKind.u32 (x6)), (AV.str (x7)), (AV.int IntKind.i64 (x8)), (AV.int IntKind.i64 (0)), (AV.bool (x10))] (1))) (0 + n + 1)))
  (some (true))
  (some (false)))
  (cond ((checkV (x1) (fjoin (fun p_ q_ => fx0 (0 + (0 + p_ - 0)) q_) (0 + n) (rowsOf (8) [(AV.int IntKind.u64 (x3)), (AV.bool (x4)), (AV.int IntKind.u32 (x5)), (AV.int IntKind.u32 (x6)), (AV.str (x7)), (AV.int IntKind.i64 (x8)), (AV.int IntKind.i64 (0)), (AV.bool (x10))] (1))) (0 + n + 1)))
  none
  (some (false))))) none) none) none) none) none)
  (cond ((!gV x1 (fjoin (fun i j => fx0 (0 + (0 + i - 0)) j) (0 + n) (rowsOf 8 (List.take (1 * 8) (List.drop 0 [AV.int IntKind.u64 x3, AV.bool x4, AV.int IntKind.u32 x5, AV.int IntKind.u32 x6, AV.str x7, AV.int IntKind.i64 x8, AV.int IntKind.i64 0, AV.bool x10])) 1)) (0 + n + 1)) == false) none (cond ((!gV x1 (fjoin (fun i j => fx0 (0 + (0 + i - 0)) j) (0 + n) (rowsOf 8 (List.take (1 * 8) (List.drop 0 [AV.int IntKind.u64 x3, AV.bool x4, AV.int IntKind.u32 x5, AV.int IntKind.u32 x6, AV.str x7, AV.int IntKind.i64 x8, AV.int IntKind.i64 0, AV.bool x10])) 1)) (0 + n + 1)) == false) none (cond (!gV x1 (fjoin (fun i j => fx0 (0 + (0 + i - 0)) j) (0 + n) (rowsOf 8 (List.take (1 * 8) (List.drop 0 [AV.int IntKind.u64 x3, AV.bool x4, AV.int IntKind.u32 x5, AV.int IntKind.u32 x6, AV.str x7, AV.int IntKind.i64 x8, AV.int IntKind.i64 0, AV.bool x10])) 1)) (0 + n + 1)) (some (true)) none))))
  none) none) none) none) none) none) none) none) none) none) none) none) none) none) none) none) none) none) none)) none) none))) none) none)
  none) none) none) none) none)
  (cond ((!AV.toB (fx0 (0 + Int.toNat (↑i : Int)) (1))) == true) none (cond ((!AV.toB (fx0 (0 + Int.toNat (↑i : Int)) (1))) == true) none (cond ((!AV.toB (fx0 (0 + Int.toNat (↑i : Int)) (1))) == true) none (cond (!AV.toB (fx0 (0 + Int.toNat (↑i : Int)) (1))) none (cond (Nat.ble ((0) + (n)) (0)) none (cond (growB (64) (0 + n)) (cond (Nat.ble (0 + n) n) (cond (Nat.ble ((0 + n) + (1)) (0 + n)) none (cond (growB (64) (0 + n + 1)) (cond (Nat.ble (0 + (0 + n)) (0 + n)) (cond (decide (x3 = x3)) (cond (x4 == x4) (cond (decide (x5 = x5)) (cond (decide (x6 = x6)) (cond (x7 == x7) (cond (decide (x8 = x8)) (cond (x10 == x10) (cond (decide (x3 = x3)) (cond (x4 == x4) (cond (decide (x5 = x5)) (cond (decide (x6 = x6)) (cond (x7 == x7) (cond (decide (x8 = x8)) (cond (x10 == x10) (cond (decide (0 + n + 1 = 0 + n + 1)) (cond (decide (0 + n + 1 = 0 + n + 1)) (cond ((rngV (fjoin (fun p_ q_ => fx0 (0 + (0 + p_ - 0)) q_) (0 + n) (rowsOf (8) [(AV.int IntKind.u64 (x3)), (AV.bool (x4)), (AV.int IntKind.u32 (x5)), (AV.int IntKind.u32 (x6)), (AV.str (x7)), (AV.int IntKind.i64 (x8)), (AV.int IntKind.i64 (0)), (AV.bool (x10))] (1))) (0 + n + 1)))
  (cond ((!gV x1 (fjoin (fun i j => fx0 (0 + (0 + i - 0)) j) (0 + n) (rowsOf 8 (List.take (1 * 8) (List.drop 0 [AV.int IntKind.u64 x3, AV.bool x4, AV.int IntKind.u32 x5, AV.int IntKind.u32 x6, AV.str x7, AV.int IntKind.i64 x8, AV.int IntKind.i64 0, AV.bool x10])) 1)) (0 + n + 1)) == false)
  (cond ((!gV x1 (fjoin (fun i j => fx0 (0 + (0 + i - 0)) j) (0 + n) (rowsOf 8 (List.take (1 * 8) (List.drop 0 [AV.int IntKind.u64 x3, AV.bool x4, AV.int IntKind.u32 x5, AV.int IntKind.u32 x6, AV.str x7, AV.int IntKind.i64 x8, AV.int IntKind.i64 0, AV.bool x10])) 1)) (0 + n + 1)) == false) (cond ((!gV x1 (fjoin (fun i j => fx0 (0 + (0 + i - 0)) j) (0 + n) (rowsOf 8 (List.take (1 * 8) (List.drop 0 [AV.int IntKind.u64 x3, AV.bool x4, AV.int IntKind.u32 x5, AV.int IntKind.u32 x6, AV.str x7, AV.int IntKind.i64 x8, AV.int IntKind.i64 0, AV.bool x10])) 1)) (0 + n + 1)) == false) (cond (decide (0 + n + 1 = 0 + n + 1)) (cond (decide (0 + n + 1 = 0 + n + 1)) (cond ((rngV (fjoin (fun p_ q_ => fx0 (0 + (0 + p_ - 0)) q_) (0 + n) (rowsOf (8) [(AV.int IntKind.u64 (x3)), (AV.bool (x4)), (AV.int IntKind.u32 (x5)), (AV.int IntKind.u32 (x6)), (AV.str (x7)), (AV.int IntKind.i64 (x8)), (AV.int IntKind.i64 (0)), (AV.bool (x10))] (1))) (0 + n + 1))) (cond (!gV x1 (fjoin (fun i j => fx0 (0 + (0 + i - 0)) j) (0 + n) (rowsOf 8 (List.take (1 * 8) (List.drop 0 [AV.int IntKind.u64 x3, AV.bool x4, AV.int IntKind.u32 x5, AV.int IntKind.u32 x6, AV.str x7, AV.int IntKind.i64 x8, AV.int IntKind.i64 0, AV.bool x10])) 1)) (0 + n + 1)) none (cond (checkV x1 (fjoin (fun i j => fx0 (0 + (0 + i - 0)) j) (0 + n) (rowsOf 8 (List.take (1 * 8) (List.drop 0 [AV.int IntKind.u64 x3, AV.bool x4, AV.int IntKind.u32 x5, AV.int IntKind.u32 x6, AV.str x7, AV.int IntKind.i64 x8, AV.int IntKind.i64 0, AV.bool x10])) 1)) (0 + n + 1) == true)
  (cond ((checkV (x1) (fjoin (fun p_ q_ => fx0 (0 + (0 + p_ - 0)) q_) (0 + n) (rowsOf (8) [(AV.int IntKind.u64 (x3)), (AV.bool (x4)), (AV.int IntKind.u32 (x5)), (AV.int IntKind.u32 (x6)), (AV.str (x7)), (AV.int IntKind.i64 (x8)), (AV.int IntKind.i64 (0)), (AV.bool (x10))] (1))) (0 + n + 1)))
  (some (true))
  (some (false)))
  (cond ((checkV (x1) (fjoin (fun p_ q_ => fx0 (0 + (0 + p_ - 0)) q_) (0 + n) (rowsOf (8) [(AV.int IntKind.u64 (x3)), (AV.bool (x4)), (AV.int IntKind.u32 (x5)), (AV.int IntKind.u32 (x6)), (AV.str (x7)), (AV.int IntKind.i64 (x8)), (AV.int IntKind.i64 (0)), (AV.bool (x10))] (1))) (0 + n + 1)))
  none
  (some (false))))) none) none) none) none) none)
  (cond ((!gV x1 (fjoin (fun i j => fx0 (0 + (0 + i - 0)) j) (0 + n) (rowsOf 8 (List.take (1 * 8) (List.drop 0 [AV.int IntKind.u64 x3, AV.bool x4, AV.int IntKind.u32 x5, AV.int IntKind.u32 x6, AV.str x7, AV.int IntKind.i64 x8, AV.int IntKind.i64 0, AV.bool x10])) 1)) (0 + n + 1)) == false) none (cond ((!gV x1 (fjoin (fun i j => fx0 (0 + (0 + i - 0)) j) (0 + n) (rowsOf 8 (List.take (1 * 8) (List.drop 0 [AV.int IntKind.u64 x3, AV.bool x4, AV.int IntKind.u32 x5, AV.int IntKind.u32 x6, AV.str x7, AV.int IntKind.i64 x8, AV.int IntKind.i64 0, AV.bool x10])) 1)) (0 + n + 1)) == false) none (cond (!gV x1 (fjoin (fun i j => fx0 (0 + (0 + i - 0)) j) (0 + n) (rowsOf 8 (List.take (1 * 8) (List.drop 0 [AV.int IntKind.u64 x3, AV.bool x4, AV.int IntKind.u32 x5, AV.int IntKind.u32 x6, AV.str x7, AV.int IntKind.i64 x8, AV.int IntKind.i64 0, AV.bool x10])) 1)) (0 + n + 1)) (some (true)) none))))
  none) none) none) none) none) none) none) none) none) none) none) none) none) none) none) none) none) none) none)) none) none))))))) none) none) none) none) none) none) none) none) none) none) none) none) none) none) none) none) none) none)
  none)) none) none) none) none) none) none))) none) none) none) none) none) none) none)) none) none)) none) none) none) none) none) none) := by kernel_rfl
theorem kB_eq (n : Nat) (i : Nat) (fx0 : Nat → Nat → AV) (x1 : Int) (x3 : Int) (x4 : Bool) (x5 : Int) (x6 : Int) (x7 : List Nat) (x8 : Int) (x9 : Int) (x10 : Bool) (hy0 : (okNV n) = true) (hy1 : (okLV fx0 n && decide ((↑n : Int) ≤ 20)) = true) (hy2 : (decide ((↑n : Int) > 8)) = false) (hy3 : (decide ((↑i : Int) ≥ (↑n : Int))) = false) (hy4 : (rngV fx0 n) = true) (hy5 : (checkV x1 fx0 n) = true) (hy6 : (rngV fx0 (n)) = true) (hy7 : (Nat.ble (Int.toNat (↑i : Int)) n) = true) (hy8 : (Nat.ble (Int.toNat (IntKind.wrap IntKind.i64 ((↑i : Int) + 1))) n) = true) (hy9 : (decide (0 ≤ IntKind.wrap IntKind.i64 ((↑i : Int) + 1))) = true) (hy10 : (Nat.ble (0 + Int.toNat (IntKind.wrap IntKind.i64 ((↑i : Int) + 1)) + (n - Int.toNat (IntKind.wrap IntKind.i64 ((↑i : Int) + 1)))) n) = true) (hy11 : (decide ((↑i : Int) < (↑n : Int))) = true) (hy12 : (Nat.blt (0 + Int.toNat (↑i : Int)) n) = true) (hy13 : (Nat.ble ((0) + (n)) (0)) = false) (hy14 : (growB (64) (0 + n)) = true) (hy15 : (Nat.ble (0 + n) n) = true) (hy16 : (growB (64) (0 + n + 1)) = true) (hy17 : (Nat.ble (0 + (0 + n)) (0 + n)) = true) (hy18 : (Nat.ble (0 + 0 + (Int.toNat (↑i : Int) - 0)) n) = true) (hy19 : (Nat.ble ((0) + (Int.toNat (↑i : Int) - 0)) (0)) = true) (hy20 : (Nat.ble ((0) + (n - Int.toNat (IntKind.wrap IntKind.i64 ((↑i : Int) + 1)))) (0)) = false) : kB n i fx0 x1 x3 x4 x5 x6 x7 x8 x9 x10 kB_p = (cond (growB (64) (0 + (n - Int.toNat (IntKind.wrap IntKind.i64 ((↑i : Int) + 1)))))
  (cond (AV.toB (fx0 (0 + Int.toNat (↑i : Int)) (1)))
  (cond (Nat.ble ((0 + n) + (1)) (0 + n)) none (cond (rngV (fjoin (fun p_ q_ => fx0 (0 + (0 + p_ - 0)) q_) (0 + n) (rowsOf (8) [(AV.int IntKind.u64 (x3)), (AV.bool (x4)), (AV.int IntKind.u32 (x5)), (AV.int IntKind.u32 (x6)), (AV.str (x7)), (AV.int IntKind.i64 (x8)), (AV.int IntKind.i64 (0)), (AV.bool (x10))] (1))) (0 + n + 1))
  (cond (gV x1 (fjoin (fun i j => fx0 (0 + (0 + i - 0)) j) (0 + n) (rowsOf 8 (List.take (1 * 8) (List.drop 0 [AV.int IntKind.u64 x3, AV.bool x4, AV.int IntKind.u32 x5, AV.int IntKind.u32 x6, AV.str x7, AV.int IntKind.i64 x8, AV.int IntKind.i64 0, AV.bool x10])) 1)) (0 + n + 1))
  (cond (checkV x1 (fjoin (fun i j => fx0 (0 + (0 + i - 0)) j) (0 + n) (rowsOf 8 (List.take (1 * 8) (List.drop 0 [AV.int IntKind.u64 x3, AV.bool x4, AV.int IntKind.u32 x5, AV.int IntKind.u32 x6, AV.str x7, AV.int IntKind.i64 x8, AV.int IntKind.i64 0, AV.bool x10])) 1)) (0 + n + 1))
  (cond (checkV (x1) (fjoin (fun p_ q_ => fx0 (0 + (0 + p_ - 0)) q_) (0 + n) (rowsOf (8) [(AV.int IntKind.u64 (x3)), (AV.bool (x4)), (AV.int IntKind.u32 (x5)), (AV.int IntKind.u32 (x6)), (AV.str (x7)), (AV.int IntKind.i64 (x8)), (AV.int IntKind.i64 (0)), (AV.bool (x10))] (1))) (0 + n + 1))
  (some (true))
  (some (false)))
  (cond (checkV (x1) (fjoin (fun p_ q_ => fx0 (0 + (0 + p_ - 0)) q_) (0 + n) (rowsOf (8) [(AV.int IntKind.u64 (x3)), (AV.bool (x4)), (AV.int IntKind.u32 (x5)), (AV.int IntKind.u32 (x6)), (AV.str (x7)), (AV.int IntKind.i64 (x8)), (AV.int IntKind.i64 (0)), (AV.bool (x10))] (1))) (0 + n + 1))
  none
  (some (false))))
  (some (true)))
  none))
  (cond (rngV (fjoin (rowsOf (8) [] (0)) (0) (fun p_ q_ => fx0 (0 + Int.toNat (IntKind.wrap IntKind.i64 ((↑i : Int) + 1)) + p_) q_)) (0 + (n - Int.toNat (IntKind.wrap IntKind.i64 ((↑i : Int) + 1)))))
  (cond (checkV x1 (fjoin (rowsOf 8 (List.take (0 * 8) (List.drop 0 (rep 0 [AV.int IntKind.u64 (Int.ofNat 0), AV.bool false, AV.int IntKind.u32 (Int.ofNat 0), AV.int IntKind.u32 (Int.ofNat 0), AV.str [], AV.int IntKind.i64 (Int.ofNat 0), AV.int IntKind.i64 (Int.ofNat 0), AV.bool false]))) 0) 0 fun i_1 j => fx0 (0 + Int.toNat (IntKind.wrap IntKind.i64 ((↑i : Int) + 1)) + i_1) j) (0 + (n - Int.toNat (IntKind.wrap IntKind.i64 ((↑i : Int) + 1)))))
  (cond (Nat.ble ((0 + n) + (1)) (0 + n)) none (cond (rngV (fjoin (fun p_ q_ => fx0 (0 + (0 + p_ - 0)) q_) (0 + n) (rowsOf (8) [(AV.int IntKind.u64 (x3)), (AV.bool (x4)), (AV.int IntKind.u32 (x5)), (AV.int IntKind.u32 (x6)), (AV.str (x7)), (AV.int IntKind.i64 (x8)), (AV.int IntKind.i64 (0)), (AV.bool (x10))] (1))) (0 + n + 1))
  (cond (gV x1 (fjoin (fun i j => fx0 (0 + (0 + i - 0)) j) (0 + n) (rowsOf 8 (List.take (1 * 8) (List.drop 0 [AV.int IntKind.u64 x3, AV.bool x4, AV.int IntKind.u32 x5, AV.int IntKind.u32 x6, AV.str x7, AV.int IntKind.i64 x8, AV.int IntKind.i64 0, AV.bool x10])) 1)) (0 + n + 1))
  (cond (checkV x1 (fjoin (fun i j => fx0 (0 + (0 + i - 0)) j) (0 + n) (rowsOf 8 (List.take (1 * 8) (List.drop 0 [AV.int IntKind.u64 x3, AV.bool x4, AV.int IntKind.u32 x5, AV.int IntKind.u32 x6, AV.str x7, AV.int IntKind.i64 x8, AV.int IntKind.i64 0, AV.bool x10])) 1)) (0 + n + 1))
  (cond (checkV (x1) (fjoin (fun p_ q_ => fx0 (0 + (0 + p_ - 0)) q_) (0 + n) (rowsOf (8) [(AV.int IntKind.u64 (x3)), (AV.bool (x4)), (AV.int IntKind.u32 (x5)), (AV.int IntKind.u32 (x6)), (AV.str (x7)), (AV.int IntKind.i64 (x8)), (AV.int IntKind.i64 (0)), (AV.bool (x10))] (1))) (0 + n + 1))
  (some (true))
  (some (false)))
  (cond (checkV (x1) (fjoin (fun p_ q_ => fx0 (0 + (0 + p_ - 0)) q_) (0 + n) (rowsOf (8) [(AV.int IntKind.u64 (x3)), (AV.bool (x4)), (AV.int IntKind.u32 (x5)), (AV.int IntKind.u32 (x6)), (AV.str (x7)), (AV.int IntKind.i64 (x8)), (AV.int IntKind.i64 (0)), (AV.bool (x10))] (1))) (0 + n + 1))
  none
  (some (false))))
  (some (true)))
  none))
  (some (false)))
  none))
  none) := by
  rw [kB_is]
  try simp only [hy0, hy1, hy2, hy3, hy4, hy5, hy6, hy7, hy8, hy9, hy10, hy11, hy12, hy13, hy14, hy15, hy16, hy17, hy18, hy19, hy20, eq_self, decide_true, beq_self_eq_true, Nat.beq_refl, ble_self, Int.le_refl, Nat.le_refl]
  cases (growB (64) (0 + (n - Int.toNat (IntKind.wrap IntKind.i64 ((↑i : Int) + 1))))) with
  | true =>
    cases (AV.toB (fx0 (0 + Int.toNat (↑i : Int)) (1))) with
    | true =>
      cases (rngV (fjoin (fun p_ q_ => fx0 (0 + (0 + p_ - 0)) q_) (0 + n) (rowsOf (8) [(AV.int IntKind.u64 (x3)), (AV.bool (x4)), (AV.int IntKind.u32 (x5)), (AV.int IntKind.u32 (x6)), (AV.str (x7)), (AV.int IntKind.i64 (x8)), (AV.int IntKind.i64 (0)), (AV.bool (x10))] (1))) (0 + n + 1)) with
      | true =>
        cases (gV x1 (fjoin (fun i j => fx0 (0 + (0 + i - 0)) j) (0 + n) (rowsOf 8 (List.take (1 * 8) (List.drop 0 [AV.int IntKind.u64 x3, AV.bool x4, AV.int IntKind.u32 x5, AV.int IntKind.u32 x6, AV.str x7, AV.int IntKind.i64 x8, AV.int IntKind.i64 0, AV.bool x10])) 1)) (0 + n + 1)) with
        | true =>
          cases (checkV x1 (fjoin (fun i j => fx0 (0 + (0 + i - 0)) j) (0 + n) (rowsOf 8 (List.take (1 * 8) (List.drop 0 [AV.int IntKind.u64 x3, AV.bool x4, AV.int IntKind.u32 x5, AV.int IntKind.u32 x6, AV.str x7, AV.int IntKind.i64 x8, AV.int IntKind.i64 0, AV.bool x10])) 1)) (0 + n + 1)) with
          | true =>
            cases (checkV (x1) (fjoin (fun p_ q_ => fx0 (0 + (0 + p_ - 0)) q_) (0 + n) (rowsOf (8) [(AV.int IntKind.u64 (x3)), (AV.bool (x4)), (AV.int IntKind.u32 (x5)), (AV.int IntKind.u32 (x6)), (AV.str (x7)), (AV.int IntKind.i64 (x8)), (AV.int IntKind.i64 (0)), (AV.bool (x10))] (1))) (0 + n + 1)) with
            | true =>
              rfl
            | false =>
              rfl
          | false =>
            cases (checkV (x1) (fjoin (fun p_ q_ => fx0 (0 + (0 + p_ - 0)) q_) (0 + n) (rowsOf (8) [(AV.int IntKind.u64 (x3)), (AV.bool (x4)), (AV.int IntKind.u32 (x5)), (AV.int IntKind.u32 (x6)), (AV.str (x7)), (AV.int IntKind.i64 (x8)), (AV.int IntKind.i64 (0)), (AV.bool (x10))] (1))) (0 + n + 1)) with
            | true =>
              rfl
            | false =>
              rfl
        | false =>
          rfl
      | false =>
        rfl
    | false =>
      cases (rngV (fjoin (rowsOf (8) [] (0)) (0) (fun p_ q_ => fx0 (0 + Int.toNat (IntKind.wrap IntKind.i64 ((↑i : Int) + 1)) + p_) q_)) (0 + (n - Int.toNat (IntKind.wrap IntKind.i64 ((↑i : Int) + 1))))) with
      | true =>
        cases (checkV x1 (fjoin (rowsOf 8 (List.take (0 * 8) (List.drop 0 (rep 0 [AV.int IntKind.u64 (Int.ofNat 0), AV.bool false, AV.int IntKind.u32 (Int.ofNat 0), AV.int IntKind.u32 (Int.ofNat 0), AV.str [], AV.int IntKind.i64 (Int.ofNat 0), AV.int IntKind.i64 (Int.ofNat 0), AV.bool false]))) 0) 0 fun i_1 j => fx0 (0 + Int.toNat (IntKind.wrap IntKind.i64 ((↑i : Int) + 1)) + i_1) j) (0 + (n - Int.toNat (IntKind.wrap IntKind.i64 ((↑i : Int) + 1))))) with
        | true =>
          cases (rngV (fjoin (fun p_ q_ => fx0 (0 + (0 + p_ - 0)) q_) (0 + n) (rowsOf (8) [(AV.int IntKind.u64 (x3)), (AV.bool (x4)), (AV.int IntKind.u32 (x5)), (AV.int IntKind.u32 (x6)), (AV.str (x7)), (AV.int IntKind.i64 (x8)), (AV.int IntKind.i64 (0)), (AV.bool (x10))] (1))) (0 + n + 1)) with
          | true =>
            cases (gV x1 (fjoin (fun i j => fx0 (0 + (0 + i - 0)) j) (0 + n) (rowsOf 8 (List.take (1 * 8) (List.drop 0 [AV.int IntKind.u64 x3, AV.bool x4, AV.int IntKind.u32 x5, AV.int IntKind.u32 x6, AV.str x7, AV.int IntKind.i64 x8, AV.int IntKind.i64 0, AV.bool x10])) 1)) (0 + n + 1)) with
            | true =>
              cases (checkV x1 (fjoin (fun i j => fx0 (0 + (0 + i - 0)) j) (0 + n) (rowsOf 8 (List.take (1 * 8) (List.drop 0 [AV.int IntKind.u64 x3, AV.bool x4, AV.int IntKind.u32 x5, AV.int IntKind.u32 x6, AV.str x7, AV.int IntKind.i64 x8, AV.int IntKind.i64 0, AV.bool x10])) 1)) (0 + n + 1)) with
              | true =>
                cases (checkV (x1) (fjoin (fun p_ q_ => fx0 (0 + (0 + p_ - 0)) q_) (0 + n) (rowsOf (8) [(AV.int IntKind.u64 (x3)), (AV.bool (x4)), (AV.int IntKind.u32 (x5)), (AV.int IntKind.u32 (x6)), (AV.str (x7)), (AV.int IntKind.i64 (x8)), (AV.int IntKind.i64 (0)), (AV.bool (x10))] (1))) (0 + n + 1)) with
                | true =>
                  rfl
                | false =>
                  rfl
              | false =>
                cases (checkV (x1) (fjoin (fun p_ q_ => fx0 (0 + (0 + p_ - 0)) q_) (0 + n) (rowsOf (8) [(AV.int IntKind.u64 (x3)), (AV.bool (x4)), (AV.int IntKind.u32 (x5)), (AV.int IntKind.u32 (x6)), (AV.str (x7)), (AV.int IntKind.i64 (x8)), (AV.int IntKind.i64 (0)), (AV.bool (x10))] (1))) (0 + n + 1)) with
                | true =>
                  rfl
                | false =>
                  rfl
            | false =>
              rfl
          | false =>
            rfl
        | false =>
          rfl
      | false =>
        rfl
  | false =>
    rfl

noncomputable def kC (n i : Nat) (fx0 : Nat → Nat → AV) (x1 : Int) (x3 : Int) (x4 : Bool) (x5 x6 : Int) (x7 : List Nat) (x8 x9 : Int) (x10 : Bool) (π : Plan) : Option Bool := lawT (EL) (3000) (4) ([.osl false 0 0 n n 8 true, .int .u32 x1, .int .i64 (i : Nat), .agg [.int .u64 x3, .bool x4, .int .u32 x5, .int .u32 x6, .str x7, .int .i64 x8, .int .i64 x9, .bool x10]]) ([some (.tarr shO n fx0 false)]) π
def kC_p : Plan := (.must true (.reck 1 (.must true (.must true (.must true (.must true (.must true (.must false (.must true (.must true (.must false (.reck 5 (.must true (.must true (.must true (.must true (.reck 1 (.must true (.must true (.must true (.must false (.must false (.reck 1 (.must true (.reck 2 (.must false (.must true (.must true (.must true (.must true (.must true (.reck 1 (.must true (.must true (.must true (.must true (.must true (.must true (.reck 1 (.must true (.must true (.must true (.must true (.must true (.must true (.reck 1 (.must true (.must true (.must true (.reck 1 (.must true (.reck 3 (.must true (.must true (.reck 1 (.must true (.must true (.fork (.must true (.must true (.must true (.reck 1 (.must true (.fork (.must true (.must true (.fork .stop (.reck 1 (.must false (.must true (.must true (.must false (.must true (.must true (.must true (.must true (.must true (.must true (.must true (.must true (.reck 1 (.must true (.must true (.must true (.must true (.must true (.must true (.must true (.reck 1 (.must true (.must true (.reck 1 (.must true (.fork (.fork (.must true (.must true (.must true (.reck 1 (.must true (.must true (.must false (.fork (.fork .stop .stop) (.fork .stop .stop))))))))) (.must false (.must false (.must true .stop)))) .stop)))))))))))))))))))))))))))))) .stop)))))) (.must false (.must false (.must false (.must false (.reck 2 (.must false (.must true (.must true (.must false (.must true (.must true (.must true (.must true (.must true (.must true (.must true (.must true (.reck 1 (.must true (.must true (.must true (.must true (.must true (.must true (.must true (.reck 1 (.must true (.must true (.reck 1 (.must true (.fork (.fork (.must true (.must true (.must true (.reck 1 (.must true (.must true (.must false (.fork (.fork .stop .stop) (.fork .stop .stop))))))))) (.must false (.must false (.must true .stop)))) .stop)))))))))))))))))))))))))))))))))))))))))))))))))))))))))))))))))))))))))))))))))))))))))
theorem kC_is (n : Nat) (i : Nat) (fx0 : Nat → Nat → AV) (x1 : Int) (x3 : Int) (x4 : Bool) (x5 : Int) (x6 : Int) (x7 : List Nat) (x8 : Int) (x9 : Int) (x10 : Bool) : kC n i fx0 x1 x3 x4 x5 x6 x7 x8 x9 x10 kC_p = (cond (decide (n = n)) (cond (decide (n = n)) (cond (okNV n) (cond ((!(okLV fx0 n && decide ((↑n : Int) ≤ 20))) == false) (cond ((!(okLV fx0 n && decide ((↑n : Int) ≤ 20))) == false) (cond ((!(okLV fx0 n && decide ((↑n : Int) ≤ 20))) == false) (cond (!(okLV fx0 n && decide ((↑n : Int) ≤ 20))) none (cond (decide ((↑n : Int) > 8) == false) (cond (decide ((↑n : Int) > 8) == false) (cond (decide ((↑n : Int) > 8)) none (cond (decide ((↑i : Int) ≥ (↑n : Int)) == false) (cond (decide ((↑i : Int) ≥ (↑n : Int)) == false) (cond (decide ((↑i : Int) ≥ (↑n : Int)) == false) (cond (decide (n = n)) (cond (decide (n = n)) (cond ((rngV fx0 (n))) (cond (decide ((↑i : Int) ≥ (↑n : Int)) == false) (cond (decide ((↑i : Int) ≥ (↑n : Int))) none (cond (!checkV x1 fx0 n) none (cond (Nat.ble (Int.toNat (↑i : Int)) n) (cond (Nat.ble ((0) + (Int.toNat (↑i : Int) - 0)) (0)) none (cond (growB (64) (0 + (Int.toNat (↑i : Int) - 0))) (cond (Nat.ble (0 + 0 + (Int.toNat (↑i : Int) - 0)) n) (cond (Nat.ble (Int.toNat (IntKind.wrap IntKind.i64 ((↑i : Int) + 1))) n) (cond (Nat.ble n n) (cond (decide (0 ≤ IntKind.wrap IntKind.i64 ((↑i : Int) + 1))) (cond (Nat.ble ((0 + (Int.toNat (↑i : Int) - 0)) + (n - Int.toNat (IntKind.wrap IntKind.i64 ((↑i : Int) + 1)))) (0 + (Int.toNat (↑i : Int) - 0))) (cond (Nat.ble (0 + (0 + (Int.toNat (↑i : Int) - 0) + (n - Int.toNat (IntKind.wrap IntKind.i64 ((↑i : Int) + 1))))) (0 + (Int.toNat (↑i : Int) - 0))) (cond (Nat.ble (0 + Int.toNat (IntKind.wrap IntKind.i64 ((↑i : Int) + 1)) + (n - Int.toNat (IntKind.wrap IntKind.i64 ((↑i : Int) + 1)))) n) (cond (Nat.ble (Int.toNat (IntKind.wrap IntKind.i64 ((↑i : Int) + 1))) n) (cond (Nat.ble n n) (cond (decide (0 ≤ IntKind.wrap IntKind.i64 ((↑i : Int) + 1))) (cond (Nat.beq (0 + Int.toNat (IntKind.wrap IntKind.i64 ((↑i : Int) + 1))) (0 + Int.toNat (IntKind.wrap IntKind.i64 ((↑i : Int) + 1)))) (cond (Nat.beq (n - Int.toNat (IntKind.wrap IntKind.i64 ((↑i : Int) + 1))) (n - Int.toNat (IntKind.wrap IntKind.i64 ((↑i : Int) + 1)))) (cond (Nat.beq (n - Int.toNat (IntKind.wrap IntKind.i64 ((↑i : Int) + 1))) (n - Int.toNat (IntKind.wrap IntKind.i64 ((↑i : Int) + 1)))) (cond (Nat.ble (Int.toNat (IntKind.wrap IntKind.i64 ((↑i : Int) + 1))) n) (cond (Nat.ble n n) (cond (decide (0 ≤ IntKind.wrap IntKind.i64 ((↑i : Int) + 1))) (cond (Nat.beq (0 + Int.toNat (IntKind.wrap IntKind.i64 ((↑i : Int) + 1))) (0 + Int.toNat (IntKind.wrap IntKind.i64 ((↑i : Int) + 1)))) (cond (Nat.beq (n - Int.toNat (IntKind.wrap IntKind.i64 ((↑i : Int) + 1))) (n - Int.toNat (IntKind.wrap IntKind.i64 ((↑i : Int) + 1)))) (cond (Nat.beq (n - Int.toNat (IntKind.wrap IntKind.i64 ((↑i : Int) + 1))) (n - Int.toNat (IntKind.wrap IntKind.i64 ((↑i : Int) + 1)))) (cond (Nat.ble (Int.toNat (↑i : Int)) n) (cond (Nat.beq (Int.toNat (↑i : Int) - 0) (Int.toNat (↑i : Int) - 0)) (cond (Nat.beq (n - 0) (n - 0)) (cond (decide ((↑i : Int) < (↑n : Int))) (cond (Nat.blt (0 + Int.toNat (↑i : Int)) n) (cond ((!AV.toB (fx0 (0 + Int.toNat (↑i : Int)) (1))) == true)
  (cond ((!AV.toB (fx0 (0 + Int.toNat (↑i : Int)) (1))) == true) (cond ((!AV.toB (fx0 (0 + Int.toNat (↑i : Int)) (1))) == true) (cond (decide (0 + (Int.toNat (↑i : Int) - 0) + (n - Int.toNat (IntKind.wrap IntKind.i64 ((↑i : Int) + 1))) = 0 + (Int.toNat (↑i : Int) - 0) + (n - Int.toNat (IntKind.wrap IntKind.i64 ((↑i : Int) + 1))))) (cond (decide (0 + (Int.toNat (↑i : Int) - 0) + (n - Int.toNat (IntKind.wrap IntKind.i64 ((↑i : Int) + 1))) = 0 + (Int.toNat (↑i : Int) - 0))) (cond ((rngV (fover (fjoin (rowsOf (8) [] (0)) (0) (fun p_ q_ => fx0 (0 + 0 + p_) q_)) (0 + (0 + (Int.toNat (↑i : Int) - 0))) (n - Int.toNat (IntKind.wrap IntKind.i64 ((↑i : Int) + 1))) (fun p_ q_ => fx0 (0 + Int.toNat (IntKind.wrap IntKind.i64 ((↑i : Int) + 1)) + p_) q_)) (0 + (Int.toNat (↑i : Int) - 0) + (n - Int.toNat (IntKind.wrap IntKind.i64 ((↑i : Int) + 1))))))
  (cond ((!AV.toB (fx0 (0 + Int.toNat (↑i : Int)) (1))) == true) (cond (!AV.toB (fx0 (0 + Int.toNat (↑i : Int)) (1))) (cond (!checkV x1 (fover (fjoin (rowsOf 8 (List.take (0 * 8) (List.drop 0 (rep 0 [AV.int IntKind.u64 (Int.ofNat 0), AV.bool false, AV.int IntKind.u32 (Int.ofNat 0), AV.int IntKind.u32 (Int.ofNat 0), AV.str [], AV.int IntKind.i64 (Int.ofNat 0), AV.int IntKind.i64 (Int.ofNat 0), AV.bool false]))) 0) 0 fun i j => fx0 (0 + 0 + i) j) (0 + (0 + (Int.toNat (↑i : Int) - 0))) (n - Int.toNat (IntKind.wrap IntKind.i64 ((↑i : Int) + 1))) fun i_1 j => fx0 (0 + Int.toNat (IntKind.wrap IntKind.i64 ((↑i : Int) + 1)) + i_1) j) (0 + (Int.toNat (↑i : Int) - 0) + (n - Int.toNat (IntKind.wrap IntKind.i64 ((↑i : Int) + 1)))))
  (some (false))
  (cond (Nat.ble ((0) + (n)) (0)) none (cond (growB (64) (0 + n)) (cond (Nat.ble (0 + n) n) (cond (Nat.ble ((0 + n) + (1)) (0 + n)) none (cond (growB (64) (0 + n + 1)) (cond (Nat.ble (0 + (0 + n)) (0 + n)) (cond (decide (x3 = x3)) (cond (x4 == x4) (cond (decide (x5 = x5)) (cond (decide (x6 = x6)) (cond (x7 == x7) (cond (decide (x8 = x8)) (cond (x10 == x10) (cond (decide (x3 = x3)) (cond (x4 == x4) (cond (decide (x5 = x5)) (cond (decide (x6 = x6)) (cond (x7 == x7) (cond (decide (x8 = x8)) (cond (x10 == x10) (cond (decide (0 + n + 1 = 0 + n + 1)) (cond (decide (0 + n + 1 = 0 + n + 1)) (cond ((rngV (fjoin (fun p_ q_ => fx0 (0 + (0 + p_ - 0)) q_) (0 + n) (rowsOf (8) [(AV.int IntKind.u64 (x3)), (AV.bool (x4)), (AV.int IntKind.u32 (x5)), (AV.int IntKind.u32 (x6)), (AV.str (x7)), (AV.int IntKind.i64 (x8)), (AV.int IntKind.i64 (0)), (AV.bool (x10))] (1))) (0 + n + 1)))
  (cond ((!gV x1 (fjoin (fun i j => fx0 (0 + (0 + i - 0)) j) (0 + n) (rowsOf 8 (List.take (1 * 8) (List.drop 0 [AV.int IntKind.u64 x3, AV.bool x4, AV.int IntKind.u32 x5, AV.int IntKind.u32 x6, AV.str x7, AV.int IntKind.i64 x8, AV.int IntKind.i64 0, AV.bool x10])) 1)) (0 + n + 1)) == false)
  (cond ((!gV x1 (fjoin (fun i j => fx0 (0 + (0 + i - 0)) j) (0 + n) (rowsOf 8 (List.take (1 * 8) (List.drop 0 [AV.int IntKind.u64 x3, AV.bool x4, AV.int IntKind.u32 x5, AV.int IntKind.u32 x6, AV.str x7, AV.int IntKind.i64 x8, AV.int IntKind.i64 0, AV.bool x10])) 1)) (0 + n + 1)) == false) (cond ((!gV x1 (fjoin (fun i j => fx0 (0 + (0 + i - 0)) j) (0 + n) (rowsOf 8 (List.take (1 * 8) (List.drop 0 [AV.int IntKind.u64 x3, AV.bool x4, AV.int IntKind.u32 x5, AV.int IntKind.u32 x6, AV.str x7, AV.int IntKind.i64 x8, AV.int IntKind.i64 0, AV.bool x10])) 1)) (0 + n + 1)) == false) (cond (decide (0 + n + 1 = 0 + n + 1)) (cond (decide (0 + n + 1 = 0 + n + 1)) (cond ((rngV (fjoin (fun p_ q_ => fx0 (0 + (0 + p_ - 0)) q_) (0 + n) (rowsOf (8) [(AV.int IntKind.u64 (x3)), (AV.bool (x4)), (AV.int IntKind.u32 (x5)), (AV.int IntKind.u32 (x6)), (AV.str (x7)), (AV.int IntKind.i64 (x8)), (AV.int IntKind.i64 (0)), (AV.bool (x10))] (1))) (0 + n + 1))) (cond (!gV x1 (fjoin (fun i j => fx0 (0 + (0 + i - 0)) j) (0 + n) (rowsOf 8 (List.take (1 * 8) (List.drop 0 [AV.int IntKind.u64 x3, AV.bool x4, AV.int IntKind.u32 x5, AV.int IntKind.u32 x6, AV.str x7, AV.int IntKind.i64 x8, AV.int IntKind.i64 0, AV.bool x10])) 1)) (0 + n + 1)) none (cond (checkV x1 (fjoin (fun i j => fx0 (0 + (0 + i - 0)) j) (0 + n) (rowsOf 8 (List.take (1 * 8) (List.drop 0 [AV.int IntKind.u64 x3, AV.bool x4, AV.int IntKind.u32 x5, AV.int IntKind.u32 x6, AV.str x7, AV.int IntKind.i64 x8, AV.int IntKind.i64 0, AV.bool x10])) 1)) (0 + n + 1) == true)
  (cond ((checkV (x1) (fjoin (fun p_ q_ => fx0 (0 + (0 + p_ - 0)) q_) (0 + n) (rowsOf (8) [(AV.int IntKind.u64 (x3)), (AV.bool (x4)), (AV.int IntKind.u32 (x5)), (AV.int IntKind.u32 (x6)), (AV.str (x7)), (AV.int IntKind.i64 (x8)), (AV.int IntKind.i64 (0)), (AV.bool (x10))] (1))) (0 + n + 1)))
  (some (true))
  (some (false)))
  (cond ((checkV (x1) (fjoin (fun p_ q_ => fx0 (0 + (0 + p_ - 0)) q_) (0 + n) (rowsOf (8) [(AV.int IntKind.u64 (x3)), (AV.bool (x4)), (AV.int IntKind.u32 (x5)), (AV.int IntKind.u32 (x6)), (AV.str (x7)), (AV.int IntKind.i64 (x8)), (AV.int IntKind.i64 (0)), (AV.bool (x10))] (1))) (0 + n + 1)))
  none
  (some (false))))) none) none) none) none) none)
  (cond ((!gV x1 (fjoin (fun i j => fx0 (0 + (0 + i - 0)) j) (0 + n) (rowsOf 8 (List.take (1 * 8) (List.drop 0 [AV.int IntKind.u64 x3, AV.bool x4, AV.int IntKind.u32 x5, AV.int IntKind.u32 x6, AV.str x7, AV.int IntKind.i64 x8, AV.int IntKind.i64 0, AV.bool x10])) 1)) (0 + n + 1)) == false) none (cond ((!gV x1 (fjoin (fun i j => fx0 (0 + (0 + i - 0)) j) (0 + n) (rowsOf 8 (List.take (1 * 8) (List.drop 0 [AV.int IntKind.u64 x3, AV.bool x4, AV.int IntKind.u32 x5, AV.int IntKind.u32 x6, AV.str x7, AV.int IntKind.i64 x8, AV.int IntKind.i64 0, AV.bool x10])) 1)) (0 + n + 1)) == false) none (cond (!gV x1 (fjoin (fun i j => fx0 (0 + (0 + i - 0)) j) (0 + n) (rowsOf 8 (List.take (1 * 8) (List.drop 0 [AV.int IntKind.u64 x3, AV.bool x4, AV.int IntKind.u32 x5, AV.int IntKind.u32 x6, AV.str x7, AV.int IntKind.i64 x8, AV.int IntKind.i64 0, AV.bool x10])) 1)) (0 + n + 1)) (some (true)) none))))
  none) none) none) none) none) none) none) none) none) none) none) none) none) none) none) none) none) none) none)) none) none))) none) none)
  none) none) none) none) none)
  (cond ((!AV.toB (fx0 (0 + Int.toNat (↑i : Int)) (1))) == true) none (cond ((!AV.toB (fx0 (0 + Int.toNat (↑i : Int)) (1))) == true) none (cond ((!AV.toB (fx0 (0 + Int.toNat (↑i : Int)) (1))) == true) none (cond (!AV.toB (fx0 (0 + Int.toNat (↑i : Int)) (1))) none (cond (Nat.ble ((0) + (n)) (0)) none (cond (growB (64) (0 + n)) (cond (Nat.ble (0 + n) n) (cond (Nat.ble ((0 + n) + (1)) (0 + n)) none (cond (growB (64) (0 + n + 1)) (cond (Nat.ble (0 + (0 + n)) (0 + n)) (cond (decide (x3 = x3)) (cond (x4 == x4) (cond (decide (x5 = x5)) (cond (decide (x6 = x6)) (cond (x7 == x7) (cond (decide (x8 = x8)) (cond (x10 == x10) (cond (decide (x3 = x3)) (cond (x4 == x4) (cond (decide (x5 = x5)) (cond (decide (x6 = x6)) (cond (x7 == x7) (cond (decide (x8 = x8)) (cond (x10 == x10) (cond (decide (0 + n + 1 = 0 + n + 1)) (cond (decide (0 + n + 1 = 0 + n + 1)) (cond ((rngV (fjoin (fun p_ q_ => fx0 (0 + (0 + p_ - 0)) q_) (0 + n) (rowsOf (8) [(AV.int IntKind.u64 (x3)), (AV.bool (x4)), (AV.int IntKind.u32 (x5)), (AV.int IntKind.u32 (x6)), (AV.str (x7)), (AV.int IntKind.i64 (x8)), (AV.int IntKind.i64 (0)), (AV.bool (x10))] (1))) (0 + n + 1)))
  (cond ((!gV x1 (fjoin (fun i j => fx0 (0 + (0 + i - 0)) j) (0 + n) (rowsOf 8 (List.take (1 * 8) (List.drop 0 [AV.int IntKind.u64 x3, AV.bool x4, AV.int IntKind.u32 x5, AV.int IntKind.u32 x6, AV.str x7, AV.int IntKind.i64 x8, AV.int IntKind.i64 0, AV.bool x10])) 1)) (0 + n + 1)) == false)
  (cond ((!gV x1 (fjoin (fun i j => fx0 (0 + (0 + i - 0)) j) (0 + n) (rowsOf 8 (List.take (1 * 8) (List.drop 0 [AV.int IntKind.u64 x3, AV.bool x4, AV.int IntKind.u32 x5, AV.int IntKind.u32 x6, AV.str x7, AV.int IntKind.i64 x8, AV.int IntKind.i64 0, AV.bool x10])) 1)) (0 + n + 1)) == false) (cond ((!gV x1 (fjoin (fun i j => fx0 (0 + (0 + i - 0)) j) (0 + n) (rowsOf 8 (List.take (1 * 8) (List.drop 0 [AV.int IntKind.u64 x3, AV.bool x4, AV.int IntKind.u32 x5, AV.int IntKind.u32 x6, AV.str x7, AV.int IntKind.i64 x8, AV.int IntKind.i64 0, AV.bool x10])) 1)) (0 + n + 1)) == false) (cond (decide (0 + n + 1 = 0 + n + 1)) (cond (decide (0 + n + 1 = 0 + n + 1)) (cond ((rngV (fjoin (fun p_ q_ => fx0 (0 + (0 + p_ - 0)) q_) (0 + n) (rowsOf (8) [(AV.int IntKind.u64 (x3)), (AV.bool (x4)), (AV.int IntKind.u32 (x5)), (AV.int IntKind.u32 (x6)), (AV.str (x7)), (AV.int IntKind.i64 (x8)), (AV.int IntKind.i64 (0)), (AV.bool (x10))] (1))) (0 + n + 1))) (cond (!gV x1 (fjoin (fun i j => fx0 (0 + (0 + i - 0)) j) (0 + n) (rowsOf 8 (List.take (1 * 8) (List.drop 0 [AV.int IntKind.u64 x3, AV.bool x4, AV.int IntKind.u32 x5, AV.int IntKind.u32 x6, AV.str x7, AV.int IntKind.i64 x8, AV.int IntKind.i64 0, AV.bool x10])) 1)) (0 + n + 1)) none (cond (checkV x1 (fjoin (fun i j => fx0 (0 + (0 + i - 0)) j) (0 + n) (rowsOf 8 (List.take (1 * 8) (List.drop 0 [AV.int IntKind.u64 x3, AV.bool x4, AV.int IntKind.u32 x5, AV.int IntKind.u32 x6, AV.str x7, AV.int IntKind.i64 x8, AV.int IntKind.i64 0, AV.bool x10])) 1)) (0 + n + 1) == true)
  (cond ((checkV (x1) (fjoin (fun p_ q_ => fx0 (0 + (0 + p_ - 0)) q_) (0 + n) (rowsOf (8) [(AV.int IntKind.u64 (x3)), (AV.bool (x4)), (AV.int IntKind.u32 (x5)), (AV.int IntKind.u32 (x6)), (AV.str (x7)), (AV.int IntKind.i64 (x8)), (AV.int IntKind.i64 (0)), (AV.bool (x10))] (1))) (0 + n + 1)))
  (some (true))
  (some (false)))
  (cond ((checkV (x1) (fjoin (fun p_ q_ => fx0 (0 + (0 + p_ - 0)) q_) (0 + n) (rowsOf (8) [(AV.int IntKind.u64 (x3)), (AV.bool (x4)), (AV.int IntKind.u32 (x5)), (AV.int IntKind.u32 (x6)), (AV.str (x7)), (AV.int IntKind.i64 (x8)), (AV.int IntKind.i64 (0)), (AV.bool (x10))] (1))) (0 + n + 1)))
  none
  (some (false))))) none) none) none) none) none)
  (cond ((!gV x1 (fjoin (fun i j => fx0 (0 + (0 + i - 0)) j) (0 + n) (rowsOf 8 (List.take (1 * 8) (List.drop 0 [AV.int IntKind.u64 x3, AV.bool x4, AV.int IntKind.u32 x5, AV.int IntKind.u32 x6, AV.str x7, AV.int IntKind.i64 x8, AV.int IntKind.i64 0, AV.bool x10])) 1)) (0 + n + 1)) == false) none (cond ((!gV x1 (fjoin (fun i j => fx0 (0 + (0 + i - 0)) j) (0 + n) (rowsOf 8 (List.take (1 * 8) (List.drop 0 [AV.int IntKind.u64 x3, AV.bool x4, AV.int IntKind.u32 x5, AV.int IntKind.u32 x6, AV.str x7, AV.int IntKind.i64 x8, AV.int IntKind.i64 0, AV.bool x10])) 1)) (0 + n + 1)) == false) none (cond (!gV x1 (fjoin (fun i j => fx0 (0 + (0 + i - 0)) j) (0 + n) (rowsOf 8 (List.take (1 * 8) (List.drop 0 [AV.int IntKind.u64 x3, AV.bool x4, AV.int IntKind.u32 x5, AV.int IntKind.u32 x6, AV.str x7, AV.int IntKind.i64 x8, AV.int IntKind.i64 0, AV.bool x10])) 1)) (0 + n + 1)) (some (true)) none))))
  none) none) none) none) none) none) none) none) none) none) none) none) none) none) none) none) none) none) none)) none) none))))))) none) none) none) none) none) none) none) none) none) none) none) none) none) none) none) none) none) none) none) none) none) none) none) none) none)) none))) none) none) none) none) none) none) none)) none) none)) none) none) none) none) none) none) := by kernel_rfl
theorem kC_eq (n : Nat) (i : Nat) (fx0 : Nat → Nat → AV) (x1 : Int) (x3 : Int) (x4 : Bool) (x5 : Int) (x6 : Int) (x7 : List Nat) (x8 : Int) (x9 : Int) (x10 : Bool) (hy0 : (okNV n) = true) (hy1 : (okLV fx0 n && decide ((↑n : Int) ≤ 20)) = true) (hy2 : (decide ((↑n : Int) > 8)) = false) (hy3 : (decide ((↑i : Int) ≥ (↑n : Int))) = false) (hy4 : (rngV fx0 n) = true) (hy5 : (checkV x1 fx0 n) = true) (hy6 : (rngV fx0 (n)) = true) (hy7 : (Nat.ble (Int.toNat (↑i : Int)) n) = true) (hy8 : (Nat.ble (Int.toNat (IntKind.wrap IntKind.i64 ((↑i : Int) + 1))) n) = true) (hy9 : (decide (0 ≤ IntKind.wrap IntKind.i64 ((↑i : Int) + 1))) = true) (hy10 : (Nat.ble (0 + Int.toNat (IntKind.wrap IntKind.i64 ((↑i : Int) + 1)) + (n - Int.toNat (IntKind.wrap IntKind.i64 ((↑i : Int) + 1)))) n) = true) (hy11 : (decide ((↑i : Int) < (↑n : Int))) = true) (hy12 : (Nat.blt (0 + Int.toNat (↑i : Int)) n) = true) (hy13 : (Nat.ble ((0) + (n)) (0)) = false) (hy14 : (growB (64) (0 + n)) = true) (hy15 : (Nat.ble (0 + n) n) = true) (hy16 : (growB (64) (0 + n + 1)) = true) (hy17 : (Nat.ble (0 + (0 + n)) (0 + n)) = true) (hy18 : (Nat.ble (0 + 0 + (Int.toNat (↑i : Int) - 0)) n) = true) (hy19 : (Nat.ble ((0) + (Int.toNat (↑i : Int) - 0)) (0)) = false) (hy20 : (growB (64) (0 + (Int.toNat (↑i : Int) - 0))) = true) (hy21 : (Nat.ble ((0 + (Int.toNat (↑i : Int) - 0)) + (n - Int.toNat (IntKind.wrap IntKind.i64 ((↑i : Int) + 1)))) (0 + (Int.toNat (↑i : Int) - 0))) = true) (hy22 : (Nat.ble (0 + (0 + (Int.toNat (↑i : Int) - 0) + (n - Int.toNat (IntKind.wrap IntKind.i64 ((↑i : Int) + 1))))) (0 + (Int.toNat (↑i : Int) - 0))) = true) (hy23 : (decide (0 + (Int.toNat (↑i : Int) - 0) + (n - Int.toNat (IntKind.wrap IntKind.i64 ((↑i : Int) + 1))) = 0 + (Int.toNat (↑i : Int) - 0))) = true) : kC n i fx0 x1 x3 x4 x5 x6 x7 x8 x9 x10 kC_p = (cond (AV.toB (fx0 (0 + Int.toNat (↑i : Int)) (1)))
  (cond (Nat.ble ((0 + n) + (1)) (0 + n)) none (cond (rngV (fjoin (fun p_ q_ => fx0 (0 + (0 + p_ - 0)) q_) (0 + n) (rowsOf (8) [(AV.int IntKind.u64 (x3)), (AV.bool (x4)), (AV.int IntKind.u32 (x5)), (AV.int IntKind.u32 (x6)), (AV.str (x7)), (AV.int IntKind.i64 (x8)), (AV.int IntKind.i64 (0)), (AV.bool (x10))] (1))) (0 + n + 1))
  (cond (gV x1 (fjoin (fun i j => fx0 (0 + (0 + i - 0)) j) (0 + n) (rowsOf 8 (List.take (1 * 8) (List.drop 0 [AV.int IntKind.u64 x3, AV.bool x4, AV.int IntKind.u32 x5, AV.int IntKind.u32 x6, AV.str x7, AV.int IntKind.i64 x8, AV.int IntKind.i64 0, AV.bool x10])) 1)) (0 + n + 1))
  (cond (checkV x1 (fjoin (fun i j => fx0 (0 + (0 + i - 0)) j) (0 + n) (rowsOf 8 (List.take (1 * 8) (List.drop 0 [AV.int IntKind.u64 x3, AV.bool x4, AV.int IntKind.u32 x5, AV.int IntKind.u32 x6, AV.str x7, AV.int IntKind.i64 x8, AV.int IntKind.i64 0, AV.bool x10])) 1)) (0 + n + 1))
  (cond (checkV (x1) (fjoin (fun p_ q_ => fx0 (0 + (0 + p_ - 0)) q_) (0 + n) (rowsOf (8) [(AV.int IntKind.u64 (x3)), (AV.bool (x4)), (AV.int IntKind.u32 (x5)), (AV.int IntKind.u32 (x6)), (AV.str (x7)), (AV.int IntKind.i64 (x8)), (AV.int IntKind.i64 (0)), (AV.bool (x10))] (1))) (0 + n + 1))
  (some (true))
  (some (false)))
  (cond (checkV (x1) (fjoin (fun p_ q_ => fx0 (0 + (0 + p_ - 0)) q_) (0 + n) (rowsOf (8) [(AV.int IntKind.u64 (x3)), (AV.bool (x4)), (AV.int IntKind.u32 (x5)), (AV.int IntKind.u32 (x6)), (AV.str (x7)), (AV.int IntKind.i64 (x8)), (AV.int IntKind.i64 (0)), (AV.bool (x10))] (1))) (0 + n + 1))
  none
  (some (false))))
  (some (true)))
  none))
  (cond (rngV (fover (fjoin (rowsOf (8) [] (0)) (0) (fun p_ q_ => fx0 (0 + 0 + p_) q_)) (0 + (0 + (Int.toNat (↑i : Int) - 0))) (n - Int.toNat (IntKind.wrap IntKind.i64 ((↑i : Int) + 1))) (fun p_ q_ => fx0 (0 + Int.toNat (IntKind.wrap IntKind.i64 ((↑i : Int) + 1)) + p_) q_)) (0 + (Int.toNat (↑i : Int) - 0) + (n - Int.toNat (IntKind.wrap IntKind.i64 ((↑i : Int) + 1)))))
  (cond (checkV x1 (fover (fjoin (rowsOf 8 (List.take (0 * 8) (List.drop 0 (rep 0 [AV.int IntKind.u64 (Int.ofNat 0), AV.bool false, AV.int IntKind.u32 (Int.ofNat 0), AV.int IntKind.u32 (Int.ofNat 0), AV.str [], AV.int IntKind.i64 (Int.ofNat 0), AV.int IntKind.i64 (Int.ofNat 0), AV.bool false]))) 0) 0 fun i j => fx0 (0 + 0 + i) j) (0 + (0 + (Int.toNat (↑i : Int) - 0))) (n - Int.toNat (IntKind.wrap IntKind.i64 ((↑i : Int) + 1))) fun i_1 j => fx0 (0 + Int.toNat (IntKind.wrap IntKind.i64 ((↑i : Int) + 1)) + i_1) j) (0 + (Int.toNat (↑i : Int) - 0) + (n - Int.toNat (IntKind.wrap IntKind.i64 ((↑i : Int) + 1)))))
  (cond (Nat.ble ((0 + n) + (1)) (0 + n)) none (cond (rngV (fjoin (fun p_ q_ => fx0 (0 + (0 + p_ - 0)) q_) (0 + n) (rowsOf (8) [(AV.int IntKind.u64 (x3)), (AV.bool (x4)), (AV.int IntKind.u32 (x5)), (AV.int IntKind.u32 (x6)), (AV.str (x7)), (AV.int IntKind.i64 (x8)), (AV.int IntKind.i64 (0)), (AV.bool (x10))] (1))) (0 + n + 1))
  (cond (gV x1 (fjoin (fun i j => fx0 (0 + (0 + i - 0)) j) (0 + n) (rowsOf 8 (List.take (1 * 8) (List.drop 0 [AV.int IntKind.u64 x3, AV.bool x4, AV.int IntKind.u32 x5, AV.int IntKind.u32 x6, AV.str x7, AV.int IntKind.i64 x8, AV.int IntKind.i64 0, AV.bool x10])) 1)) (0 + n + 1))
  (cond (checkV x1 (fjoin (fun i j => fx0 (0 + (0 + i - 0)) j) (0 + n) (rowsOf 8 (List.take (1 * 8) (List.drop 0 [AV.int IntKind.u64 x3, AV.bool x4, AV.int IntKind.u32 x5, AV.int IntKind.u32 x6, AV.str x7, AV.int IntKind.i64 x8, AV.int IntKind.i64 0, AV.bool x10])) 1)) (0 + n + 1))
  (cond (checkV (x1) (fjoin (fun p_ q_ => fx0 (0 + (0 + p_ - 0)) q_) (0 + n) (rowsOf (8) [(AV.int IntKind.u64 (x3)), (AV.bool (x4)), (AV.int IntKind.u32 (x5)), (AV.int IntKind.u32 (x6)), (AV.str (x7)), (AV.int IntKind.i64 (x8)), (AV.int IntKind.i64 (0)), (AV.bool (x10))] (1))) (0 + n + 1))
  (some (true))
  (some (false)))
  (cond (checkV (x1) (fjoin (fun p_ q_ => fx0 (0 + (0 + p_ - 0)) q_) (0 + n) (rowsOf (8) [(AV.int IntKind.u64 (x3)), (AV.bool (x4)), (AV.int IntKind.u32 (x5)), (AV.int IntKind.u32 (x6)), (AV.str (x7)), (AV.int IntKind.i64 (x8)), (AV.int IntKind.i64 (0)), (AV.bool (x10))] (1))) (0 + n + 1))
  none
  (some (false))))
  (some (true)))
  none))
  (some (false)))
  none)) := by
  rw [kC_is]
  try simp only [hy0, hy1, hy2, hy3, hy4, hy5, hy6, hy7, hy8, hy9, hy10, hy11, hy12, hy13, hy14, hy15, hy16, hy17, hy18, hy19, hy20, hy21, hy22, hy23, eq_self, decide_true, beq_self_eq_true, Nat.beq_refl, ble_self, Int.le_refl, Nat.le_refl]
  cases (AV.toB (fx0 (0 + Int.toNat (↑i : Int)) (1))) with
  | true =>
    cases (rngV (fjoin (fun p_ q_ => fx0 (0 + (0 + p_ - 0)) q_) (0 + n) (rowsOf (8) [(AV.int IntKind.u64 (x3)), (AV.bool (x4)), (AV.int IntKind.u32 (x5)), (AV.int IntKind.u32 (x6)), (AV.str (x7)), (AV.int IntKind.i64 (x8)), (AV.int IntKind.i64 (0)), (AV.bool (x10))] (1))) (0 + n + 1)) with
    | true =>
      cases (gV x1 (fjoin (fun i j => fx0 (0 + (0 + i - 0)) j) (0 + n) (rowsOf 8 (List.take (1 * 8) (List.drop 0 [AV.int IntKind.u64 x3, AV.bool x4, AV.int IntKind.u32 x5, AV.int IntKind.u32 x6, AV.str x7, AV.int IntKind.i64 x8, AV.int IntKind.i64 0, AV.bool x10])) 1)) (0 + n + 1)) with
      | true =>
        cases (checkV x1 (fjoin (fun i j => fx0 (0 + (0 + i - 0)) j) (0 + n) (rowsOf 8 (List.take (1 * 8) (List.drop 0 [AV.int IntKind.u64 x3, AV.bool x4, AV.int IntKind.u32 x5, AV.int IntKind.u32 x6, AV.str x7, AV.int IntKind.i64 x8, AV.int IntKind.i64 0, AV.bool x10])) 1)) (0 + n + 1)) with
        | true =>
          cases (checkV (x1) (fjoin (fun p_ q_ => fx0 (0 + (0 + p_ - 0)) q_) (0 + n) (rowsOf (8) [(AV.int IntKind.u64 (x3)), (AV.bool (x4)), (AV.int IntKind.u32 (x5)), (AV.int IntKind.u32 (x6)), (AV.str (x7)), (AV.int IntKind.i64 (x8)), (AV.int IntKind.i64 (0)), (AV.bool (x10))] (1))) (0 + n + 1)) with
          | true =>
            rfl
          | false =>
            rfl
        | false =>
          cases (checkV (x1) (fjoin (fun p_ q_ => fx0 (0 + (0 + p_ - 0)) q_) (0 + n) (rowsOf (8) [(AV.int IntKind.u64 (x3)), (AV.bool (x4)), (AV.int IntKind.u32 (x5)), (AV.int IntKind.u32 (x6)), (AV.str (x7)), (AV.int IntKind.i64 (x8)), (AV.int IntKind.i64 (0)), (AV.bool (x10))] (1))) (0 + n + 1)) with
          | true =>
            rfl
          | false =>
            rfl
      | false =>
        rfl
    | false =>
      rfl
  | false =>
    cases (rngV (fover (fjoin (rowsOf (8) [] (0)) (0) (fun p_ q_ => fx0 (0 + 0 + p_) q_)) (0 + (0 + (Int.toNat (↑i : Int) - 0))) (n - Int.toNat (IntKind.wrap IntKind.i64 ((↑i : Int) + 1))) (fun p_ q_ => fx0 (0 + Int.toNat (IntKind.wrap IntKind.i64 ((↑i : Int) + 1)) + p_) q_)) (0 + (Int.toNat (↑i : Int) - 0) + (n - Int.toNat (IntKind.wrap IntKind.i64 ((↑i : Int) + 1))))) with
    | true =>
      cases (checkV x1 (fover (fjoin (rowsOf 8 (List.take (0 * 8) (List.drop 0 (rep 0 [AV.int IntKind.u64 (Int.ofNat 0), AV.bool false, AV.int IntKind.u32 (Int.ofNat 0), AV.int IntKind.u32 (Int.ofNat 0), AV.str [], AV.int IntKind.i64 (Int.ofNat 0), AV.int IntKind.i64 (Int.ofNat 0), AV.bool false]))) 0) 0 fun i j => fx0 (0 + 0 + i) j) (0 + (0 + (Int.toNat (↑i : Int) - 0))) (n - Int.toNat (IntKind.wrap IntKind.i64 ((↑i : Int) + 1))) fun i_1 j => fx0 (0 + Int.toNat (IntKind.wrap IntKind.i64 ((↑i : Int) + 1)) + i_1) j) (0 + (Int.toNat (↑i : Int) - 0) + (n - Int.toNat (IntKind.wrap IntKind.i64 ((↑i : Int) + 1))))) with
      | true =>
        cases (rngV (fjoin (fun p_ q_ => fx0 (0 + (0 + p_ - 0)) q_) (0 + n) (rowsOf (8) [(AV.int IntKind.u64 (x3)), (AV.bool (x4)), (AV.int IntKind.u32 (x5)), (AV.int IntKind.u32 (x6)), (AV.str (x7)), (AV.int IntKind.i64 (x8)), (AV.int IntKind.i64 (0)), (AV.bool (x10))] (1))) (0 + n + 1)) with
        | true =>
          cases (gV x1 (fjoin (fun i j => fx0 (0 + (0 + i - 0)) j) (0 + n) (rowsOf 8 (List.take (1 * 8) (List.drop 0 [AV.int IntKind.u64 x3, AV.bool x4, AV.int IntKind.u32 x5, AV.int IntKind.u32 x6, AV.str x7, AV.int IntKind.i64 x8, AV.int IntKind.i64 0, AV.bool x10])) 1)) (0 + n + 1)) with
          | true =>
            cases (checkV x1 (fjoin (fun i j => fx0 (0 + (0 + i - 0)) j) (0 + n) (rowsOf 8 (List.take (1 * 8) (List.drop 0 [AV.int IntKind.u64 x3, AV.bool x4, AV.int IntKind.u32 x5, AV.int IntKind.u32 x6, AV.str x7, AV.int IntKind.i64 x8, AV.int IntKind.i64 0, AV.bool x10])) 1)) (0 + n + 1)) with
            | true =>
              cases (checkV (x1) (fjoin (fun p_ q_ => fx0 (0 + (0 + p_ - 0)) q_) (0 + n) (rowsOf (8) [(AV.int IntKind.u64 (x3)), (AV.bool (x4)), (AV.int IntKind.u32 (x5)), (AV.int IntKind.u32 (x6)), (AV.str (x7)), (AV.int IntKind.i64 (x8)), (AV.int IntKind.i64 (0)), (AV.bool (x10))] (1))) (0 + n + 1)) with
              | true =>
                rfl
              | false =>
                rfl
            | false =>
              cases (checkV (x1) (fjoin (fun p_ q_ => fx0 (0 + (0 + p_ - 0)) q_) (0 + n) (rowsOf (8) [(AV.int IntKind.u64 (x3)), (AV.bool (x4)), (AV.int IntKind.u32 (x5)), (AV.int IntKind.u32 (x6)), (AV.str (x7)), (AV.int IntKind.i64 (x8)), (AV.int IntKind.i64 (0)), (AV.bool (x10))] (1))) (0 + n + 1)) with
              | true =>
                rfl
              | false =>
                rfl
          | false =>
            rfl
        | false =>
          rfl
      | false =>
        rfl
    | false =>
      rfl

noncomputable def kD (n i : Nat) (fx0 : Nat → Nat → AV) (x1 : Int) (x3 : Int) (x4 : Bool) (x5 x6 : Int) (x7 : List Nat) (x8 x9 : Int) (x10 : Bool) (π : Plan) : Option Bool := lawT (EL) (3000) (4) ([.osl false 0 0 n n 8 true, .int .u32 x1, .int .i64 (i : Nat), .agg [.int .u64 x3, .bool x4, .int .u32 x5, .int .u32 x6, .str x7, .int .i64 x8, .int .i64 x9, .bool x10]]) ([some (.tarr shO n fx0 false)]) π
def kD_p : Plan := (.must true (.reck 1 (.must true (.must true (.must true (.must true (.must true (.must false (.must true (.must true (.must false (.reck 5 (.must true (.must true (.must true (.must true (.reck 1 (.must true (.must true (.must true (.must false (.must false (.reck 1 (.must true (.reck 2 (.must false (.must true (.must true (.must true (.must true (.must true (.reck 1 (.must false (.must true (.must true (.must true (.must true (.must true (.must true (.reck 1 (.must true (.must true (.must true (.must true (.must true (.must true (.reck 1 (.must true (.must true (.must true (.reck 1 (.must true (.reck 3 (.must true (.must true (.reck 1 (.must true (.must true (.fork (.must true (.must true (.must true (.reck 1 (.must true (.fork (.must true (.must true (.fork .stop (.reck 1 (.must false (.must true (.must true (.must false (.must true (.must true (.must true (.must true (.must true (.must true (.must true (.must true (.reck 1 (.must true (.must true (.must true (.must true (.must true (.must true (.must true (.reck 1 (.must true (.must true (.reck 1 (.must true (.fork (.fork (.must true (.must true (.must true (.reck 1 (.must true (.must true (.must false (.fork (.fork .stop .stop) (.fork .stop .stop))))))))) (.must false (.must false (.must true .stop)))) .stop)))))))))))))))))))))))))))))) .stop)))))) (.must false (.must false (.must false (.must false (.reck 2 (.must false (.must true (.must true (.must false (.must true (.must true (.must true (.must true (.must true (.must true (.must true (.must true (.reck 1 (.must true (.must true (.must true (.must true (.must true (.must true (.must true (.reck 1 (.must true (.must true (.reck 1 (.must true (.fork (.fork (.must true (.must true (.must true (.reck 1 (.must true (.must true (.must false (.fork (.fork .stop .stop) (.fork .stop .stop))))))))) (.must false (.must false (.must true .stop)))) .stop))))))))))))))))))))))))))))))))))))))))))))))))))))))))))))))))))))))))))))))))))))))))))
theorem kD_is (n : Nat) (i : Nat) (fx0 : Nat → Nat → AV) (x1 : Int) (x3 : Int) (x4 : Bool) (x5 : Int) (x6 : Int) (x7 : List Nat) (x8 : Int) (x9 : Int) (x10 : Bool) : kD n i fx0 x1 x3 x4 x5 x6 x7 x8 x9 x10 kD_p = (cond (decide (n = n)) (cond (decide (n = n)) (cond (okNV n) (cond ((!(okLV fx0 n && decide ((↑n : Int) ≤ 20))) == false) (cond ((!(okLV fx0 n && decide ((↑n : Int) ≤ 20))) == false) (cond ((!(okLV fx0 n && decide ((↑n : Int) ≤ 20))) == false) (cond (!(okLV fx0 n && decide ((↑n : Int) ≤ 20))) none (cond (decide ((↑n : Int) > 8) == false) (cond (decide ((↑n : Int) > 8) == false) (cond (decide ((↑n : Int) > 8)) none (cond (decide ((↑i : Int) ≥ (↑n : Int)) == false) (cond (decide ((↑i : Int) ≥ (↑n : Int)) == false) (cond (decide ((↑i : Int) ≥ (↑n : Int)) == false) (cond (decide (n = n)) (cond (decide (n = n)) (cond ((rngV fx0 (n))) (cond (decide ((↑i : Int) ≥ (↑n : Int)) == false) (cond (decide ((↑i : Int) ≥ (↑n : Int))) none (cond (!checkV x1 fx0 n) none (cond (Nat.ble (Int.toNat (↑i : Int)) n) (cond (Nat.ble ((0) + (Int.toNat (↑i : Int) - 0)) (0)) none (cond (growB (64) (0 + (Int.toNat (↑i : Int) - 0))) (cond (Nat.ble (0 + 0 + (Int.toNat (↑i : Int) - 0)) n) (cond (Nat.ble (Int.toNat (IntKind.wrap IntKind.i64 ((↑i : Int) + 1))) n) (cond (Nat.ble n n) (cond (decide (0 ≤ IntKind.wrap IntKind.i64 ((↑i : Int) + 1))) (cond (Nat.ble ((0 + (Int.toNat (↑i : Int) - 0)) + (n - Int.toNat (IntKind.wrap IntKind.i64 ((↑i : Int) + 1)))) (0 + (Int.toNat (↑i : Int) - 0))) none (cond (growB (64) (0 + (Int.toNat (↑i : Int) - 0) + (n - Int.toNat (IntKind.wrap IntKind.i64 ((↑i : Int) + 1))))) (cond (Nat.ble (0 + (0 + (Int.toNat (↑i : Int) - 0))) (0 + (Int.toNat (↑i : Int) - 0))) (cond (Nat.ble (0 + Int.toNat (IntKind.wrap IntKind.i64 ((↑i : Int) + 1)) + (n - Int.toNat (IntKind.wrap IntKind.i64 ((↑i : Int) + 1)))) n) (cond (Nat.ble (Int.toNat (IntKind.wrap IntKind.i64 ((↑i : Int) + 1))) n) (cond (Nat.ble n n) (cond (decide (0 ≤ IntKind.wrap IntKind.i64 ((↑i : Int) + 1))) (cond (Nat.beq (0 + Int.toNat (IntKind.wrap IntKind.i64 ((↑i : Int) + 1))) (0 + Int.toNat (IntKind.wrap IntKind.i64 ((↑i : Int) + 1)))) (cond (Nat.beq (n - Int.toNat (IntKind.wrap IntKind.i64 ((↑i : Int) + 1))) (n - Int.toNat (IntKind.wrap IntKind.i64 ((↑i : Int) + 1)))) (cond (Nat.beq (n - Int.toNat (IntKind.wrap IntKind.i64 ((↑i : Int) + 1))) (n - Int.toNat (IntKind.wrap IntKind.i64 ((↑i : Int) + 1)))) (cond (Nat.ble (Int.toNat (IntKind.wrap IntKind.i64 ((↑i : Int) + 1))) n) (cond (Nat.ble n n) (cond (decide (0 ≤ IntKind.wrap IntKind.i64 ((↑i : Int) + 1))) (cond (Nat.beq (0 + Int.toNat (IntKind.wrap IntKind.i64 ((↑i : Int) + 1))) (0 + Int.toNat (IntKind.wrap IntKind.i64 ((↑i : Int) + 1)))) (cond (Nat.beq (n - Int.toNat (IntKind.wrap IntKind.i64 ((↑i : Int) + 1))) (n - Int.toNat (IntKind.wrap IntKind.i64 ((↑i : Int) + 1)))) (cond (Nat.beq (n - Int.toNat (IntKind.wrap IntKind.i64 ((↑i : Int) + 1))) (n - Int.toNat (IntKind.wrap IntKind.i64 ((↑i : Int) + 1)))) (cond (Nat.ble (Int.toNat (↑i : Int)) n) (cond (Nat.beq (Int.toNat (↑i : Int) - 0) (Int.toNat (↑i : Int) - 0)) (cond (Nat.beq (n - 0) (n - 0)) (cond (decide ((↑i : Int) < (↑n : Int))) (cond (Nat.blt (0 + Int.toNat (↑i : Int)) n) (cond ((!AV.toB (fx0 (0 + Int.toNat (↑i : Int)) (1))) == true)
  (cond ((!AV.toB (fx0 (0 + Int.toNat (↑i : Int)) (1))) == true) (cond ((!AV.toB (fx0 (0 + Int.toNat (↑i : Int)) (1))) == true) (cond (decide (0 + (Int.toNat (↑i : Int) - 0) + (n - Int.toNat (IntKind.wrap IntKind.i64 ((↑i : Int) + 1))) = 0 + (Int.toNat (↑i : Int) - 0) + (n - Int.toNat (IntKind.wrap IntKind.i64 ((↑i : Int) + 1))))) (cond (decide (0 + (Int.toNat (↑i : Int) - 0) + (n - Int.toNat (IntKind.wrap IntKind.i64 ((↑i : Int) + 1))) = 0 + (Int.toNat (↑i : Int) - 0) + (n - Int.toNat (IntKind.wrap IntKind.i64 ((↑i : Int) + 1))))) (cond ((rngV (fjoin (fun p_ q_ => (fjoin (rowsOf (8) [] (0)) (0) (fun p_ q_ => fx0 (0 + 0 + p_) q_)) (0 + p_) q_) (0 + (Int.toNat (↑i : Int) - 0)) (fun p_ q_ => fx0 (0 + Int.toNat (IntKind.wrap IntKind.i64 ((↑i : Int) + 1)) + p_) q_)) (0 + (Int.toNat (↑i : Int) - 0) + (n - Int.toNat (IntKind.wrap IntKind.i64 ((↑i : Int) + 1))))))
  (cond ((!AV.toB (fx0 (0 + Int.toNat (↑i : Int)) (1))) == true) (cond (!AV.toB (fx0 (0 + Int.toNat (↑i : Int)) (1))) (cond (!checkV x1 (fjoin (fun i j => fjoin (rowsOf 8 (List.take (0 * 8) (List.drop 0 (rep 0 [AV.int IntKind.u64 (Int.ofNat 0), AV.bool false, AV.int IntKind.u32 (Int.ofNat 0), AV.int IntKind.u32 (Int.ofNat 0), AV.str [], AV.int IntKind.i64 (Int.ofNat 0), AV.int IntKind.i64 (Int.ofNat 0), AV.bool false]))) 0) 0 (fun i j => fx0 (0 + 0 + i) j) (0 + i) j) (0 + (Int.toNat (↑i : Int) - 0)) fun i_1 j => fx0 (0 + Int.toNat (IntKind.wrap IntKind.i64 ((↑i : Int) + 1)) + i_1) j) (0 + (Int.toNat (↑i : Int) - 0) + (n - Int.toNat (IntKind.wrap IntKind.i64 ((↑i : Int) + 1)))))
  (some (false))
  (cond (Nat.ble ((0) + (n)) (0)) none (cond (growB (64) (0 + n)) (cond (Nat.ble (0 + n) n) (cond (Nat.ble ((0 + n) + (1)) (0 + n)) none (cond (growB (64) (0 + n + 1)) (cond (Nat.ble (0 + (0 + n)) (0 + n)) (cond (decide (x3 = x3)) (cond (x4 == x4) (cond (decide (x5 = x5)) (cond (decide (x6 = x6)) (cond (x7 == x7) (cond (decide (x8 = x8)) (cond (x10 == x10) (cond (decide (x3 = x3)) (cond (x4 == x4) (cond (decide (x5 = x5)) (cond (decide (x6 = x6)) (cond (x7 == x7) (cond (decide (x8 = x8)) (cond (x10 == x10) (cond (decide (0 + n + 1 = 0 + n + 1)) (cond (decide (0 + n + 1 = 0 + n + 1)) (cond ((rngV (fjoin (fun p_ q_ => fx0 (0 + (0 + p_ - 0)) q_) (0 + n) (rowsOf (8) [(AV.int IntKind.u64 (x3)), (AV.bool (x4)), (AV.int IntKind.u32 (x5)), (AV.int IntKind.u32 (x6)), (AV.str (x7)), (AV.int IntKind.i64 (x8)), (AV.int IntKind.i64 (0)), (AV.bool (x10))] (1))) (0 + n + 1)))
  (cond ((!gV x1 (fjoin (fun i j => fx0 (0 + (0 + i - 0)) j) (0 + n) (rowsOf 8 (List.take (1 * 8) (List.drop 0 [AV.int IntKind.u64 x3, AV.bool x4, AV.int IntKind.u32 x5, AV.int IntKind.u32 x6, AV.str x7, AV.int IntKind.i64 x8, AV.int IntKind.i64 0, AV.bool x10])) 1)) (0 + n + 1)) == false)
  (cond ((!gV x1 (fjoin (fun i j => fx0 (0 + (0 + i - 0)) j) (0 + n) (rowsOf 8 (List.take (1 * 8) (List.drop 0 [AV.int IntKind.u64 x3, AV.bool x4, AV.int IntKind.u32 x5, AV.int IntKind.u32 x6, AV.str x7, AV.int IntKind.i64 x8, AV.int IntKind.i64 0, AV.bool x10])) 1)) (0 + n + 1)) == false) (cond ((!gV x1 (fjoin (fun i j => fx0 (0 + (0 + i - 0)) j) (0 + n) (rowsOf 8 (List.take (1 * 8) (List.drop 0 [AV.int IntKind.u64 x3, AV.bool x4, AV.int IntKind.u32 x5, AV.int IntKind.u32 x6, AV.str x7, AV.int IntKind.i64 x8, AV.int IntKind.i64 0, AV.bool x10])) 1)) (0 + n + 1)) == false) (cond (decide (0 + n + 1 = 0 + n + 1)) (cond (decide (0 + n + 1 = 0 + n + 1)) (cond ((rngV (fjoin (fun p_ q_ => fx0 (0 + (0 + p_ - 0)) q_) (0 + n) (rowsOf (8) [(AV.int IntKind.u64 (x3)), (AV.bool (x4)), (AV.int IntKind.u32 (x5)), (AV.int IntKind.u32 (x6)), (AV.str (x7)), (AV.int IntKind.i64 (x8)), (AV.int IntKind.i64 (0)), (AV.bool (x10))] (1))) (0 + n + 1))) (cond (!gV x1 (fjoin (fun i j => fx0 (0 + (0 + i - 0)) j) (0 + n) (rowsOf 8 (List.take (1 * 8) (List.drop 0 [AV.int IntKind.u64 x3, AV.bool x4, AV.int IntKind.u32 x5, AV.int IntKind.u32 x6, AV.str x7, AV.int IntKind.i64 x8, AV.int IntKind.i64 0, AV.bool x10])) 1)) (0 + n + 1)) none (cond (checkV x1 (fjoin (fun i j => fx0 (0 + (0 + i - 0)) j) (0 + n) (rowsOf 8 (List.take (1 * 8) (List.drop 0 [AV.int IntKind.u64 x3, AV.bool x4, AV.int IntKind.u32 x5, AV.int IntKind.u32 x6, AV.str x7, AV.int IntKind.i64 x8, AV.int IntKind.i64 0, AV.bool x10])) 1)) (0 + n + 1) == true)
  (cond ((checkV (x1) (fjoin (fun p_ q_ => fx0 (0 + (0 + p_ - 0)) q_) (0 + n) (rowsOf (8) [(AV.int IntKind.u64 (x3)), (AV.bool (x4)), (AV.int IntKind.u32 (x5)), (AV.int IntKind.u32 (x6)), (AV.str (x7)), (AV.int IntKind.i64 (x8)), (AV.int IntKind.i64 (0)), (AV.bool (x10))] (1))) (0 + n + 1)))
  (some (true))
  (some (false)))
  (cond ((checkV (x1) (fjoin (fun p_ q_ => fx0 (0 + (0 + p_ - 0)) q_) (0 + n) (rowsOf (8) [(AV.int IntKind.u64 (x3)), (AV.bool (x4)), (AV.int IntKind.u32 (x5)), (AV.int IntKind.u32 (x6)), (AV.str (x7)), (AV.int IntKind.i64 (x8)), (AV.int IntKind.i64 (0)), (AV.bool (x10))] (1))) (0 + n + 1)))
  none
  (some (false))))) none) none) none) none) none)
  (cond ((!gV x1 (fjoin (fun i j => fx0 (0 + (0 + i - 0)) j) (0 + n) (rowsOf 8 (List.take (1 * 8) (List.drop 0 [AV.int IntKind.u64 x3, AV.bool x4, AV.int IntKind.u32 x5, AV.int IntKind.u32 x6, AV.str x7, AV.int IntKind.i64 x8, AV.int IntKind.i64 0, AV.bool x10])) 1)) (0 + n + 1)) == false) none (cond ((!gV x1 (fjoin (fun i j => fx0 (0 + (0 + i - 0)) j) (0 + n) (rowsOf 8 (List.take (1 * 8) (List.drop 0 [AV.int IntKind.u64 x3, AV.bool x4, AV.int IntKind.u32 x5, AV.int IntKind.u32 x6, AV.str x7, AV.int IntKind.i64 x8, AV.int IntKind.i64 0, AV.bool x10])) 1)) (0 + n + 1)) == false) none (cond (!gV x1 (fjoin (fun i j => fx0 (0 + (0 + i - 0)) j) (0 + n) (rowsOf 8 (List.take (1 * 8) (List.drop 0 [AV.int IntKind.u64 x3, AV.bool x4, AV.int IntKind.u32 x5, AV.int IntKind.u32 x6, AV.str x7, AV.int IntKind.i64 x8, AV.int IntKind.i64 0, AV.bool x10])) 1)) (0 + n + 1)) (some (true)) none))))
  none) none) none) none) none) none) none) none) none) none) none) none) none) none) none) none) none) none) none)) none) none))) none) none)
  none) none) none) none) none)
  (cond ((!AV.toB (fx0 (0 + Int.toNat (↑i : Int)) (1))) == true) none (cond ((!AV.toB (fx0 (0 + Int.toNat (↑i : Int)) (1))) == true) none (cond ((!AV.toB (fx0 (0 + Int.toNat (↑i : Int)) (1))) == true) none (cond (!AV.toB (fx0 (0 + Int.toNat (↑i : Int)) (1))) none (cond (Nat.ble ((0) + (n)) (0)) none (cond (growB (64) (0 + n)) (cond (Nat.ble (0 + n) n) (cond (Nat.ble ((0 + n) + (1)) (0 + n)) none (cond (growB (64) (0 + n + 1)) (cond (Nat.ble (0 + (0 + n)) (0 + n)) (cond (decide (x3 = x3)) (cond (x4 == x4) (cond (decide (x5 = x5)) (cond (decide (x6 = x6)) (cond (x7 == x7) (cond (decide (x8 = x8)) (cond (x10 == x10) (cond (decide (x3 = x3)) (cond (x4 == x4) (cond (decide (x5 = x5)) (cond (decide (x6 = x6)) (cond (x7 == x7) (cond (decide (x8 = x8)) (cond (x10 == x10) (cond (decide (0 + n + 1 = 0 + n + 1)) (cond (decide (0 + n + 1 = 0 + n + 1)) (cond ((rngV (fjoin (fun p_ q_ => fx0 (0 + (0 + p_ - 0)) q_) (0 + n) (rowsOf (8) [(AV.int IntKind.u64 (x3)), (AV.bool (x4)), (AV.int IntKind.u32 (x5)), (AV.int IntKind.u32 (x6)), (AV.str (x7)), (AV.int IntKind.i64 (x8)), (AV.int IntKind.i64 (0)), (AV.bool (x10))] (1))) (0 + n + 1)))
  (cond ((!gV x1 (fjoin (fun i j => fx0 (0 + (0 + i - 0)) j) (0 + n) (rowsOf 8 (List.take (1 * 8) (List.drop 0 [AV.int IntKind.u64 x3, AV.bool x4, AV.int IntKind.u32 x5, AV.int IntKind.u32 x6, AV.str x7, AV.int IntKind.i64 x8, AV.int IntKind.i64 0, AV.bool x10])) 1)) (0 + n + 1)) == false)
  (cond ((!gV x1 (fjoin (fun i j => fx0 (0 + (0 + i - 0)) j) (0 + n) (rowsOf 8 (List.take (1 * 8) (List.drop 0 [AV.int IntKind.u64 x3, AV.bool x4, AV.int IntKind.u32 x5, AV.int IntKind.u32 x6, AV.str x7, AV.int IntKind.i64 x8, AV.int IntKind.i64 0, AV.bool x10])) 1)) (0 + n + 1)) == false) (cond ((!gV x1 (fjoin (fun i j => fx0 (0 + (0 + i - 0)) j) (0 + n) (rowsOf 8 (List.take (1 * 8) (List.drop 0 [AV.int IntKind.u64 x3, AV.bool x4, AV.int IntKind.u32 x5, AV.int IntKind.u32 x6, AV.str x7, AV.int IntKind.i64 x8, AV.int IntKind.i64 0, AV.bool x10])) 1)) (0 + n + 1)) == false) (cond (decide (0 + n + 1 = 0 + n + 1)) (cond (decide (0 + n + 1 = 0 + n + 1)) (cond ((rngV (fjoin (fun p_ q_ => fx0 (0 + (0 + p_ - 0)) q_) (0 + n) (rowsOf (8) [(AV.int IntKind.u64 (x3)), (AV.bool (x4)), (AV.int IntKind.u32 (x5)), (AV.int IntKind.u32 (x6)), (AV.str (x7)), (AV.int IntKind.i64 (x8)), (AV.int IntKind.i64 (0)), (AV.bool (x10))] (1))) (0 + n + 1))) (cond (!gV x1 (fjoin (fun i j => fx0 (0 + (0 + i - 0)) j) (0 + n) (rowsOf 8 (List.take (1 * 8) (List.drop 0 [AV.int IntKind.u64 x3, AV.bool x4, AV.int IntKind.u32 x5, AV.int IntKind.u32 x6, AV.str x7, AV.int IntKind.i64 x8, AV.int IntKind.i64 0, AV.bool x10])) 1)) (0 + n + 1)) none (cond (checkV x1 (fjoin (fun i j => fx0 (0 + (0 + i - 0)) j) (0 + n) (rowsOf 8 (List.take (1 * 8) (List.drop 0 [AV.int IntKind.u64 x3, AV.bool x4, AV.int IntKind.u32 x5, AV.int IntKind.u32 x6, AV.str x7, AV.int IntKind.i64 x8, AV.int IntKind.i64 0, AV.bool x10])) 1)) (0 + n + 1) == true)
  (cond ((checkV (x1) (fjoin (fun p_ q_ => fx0 (0 + (0 + p_ - 0)) q_) (0 + n) (rowsOf (8) [(AV.int IntKind.u64 (x3)), (AV.bool (x4)), (AV.int IntKind.u32 (x5)), (AV.int IntKind.u32 (x6)), (AV.str (x7)), (AV.int IntKind.i64 (x8)), (AV.int IntKind.i64 (0)), (AV.bool (x10))] (1))) (0 + n + 1)))
  (some (true))
  (some (false)))
  (cond ((checkV (x1) (fjoin (fun p_ q_ => fx0 (0 + (0 + p_ - 0)) q_) (0 + n) (rowsOf (8) [(AV.int IntKind.u64 (x3)), (AV.bool (x4)), (AV.int IntKind.u32 (x5)), (AV.int IntKind.u32 (x6)), (AV.str (x7)), (AV.int IntKind.i64 (x8)), (AV.int IntKind.i64 (0)), (AV.bool (x10))] (1))) (0 + n + 1)))
  none
  (some (false))))) none) none) none) none) none)
  (cond ((!gV x1 (fjoin (fun i j => fx0 (0 + (0 + i - 0)) j) (0 + n) (rowsOf 8 (List.take (1 * 8) (List.drop 0 [AV.int IntKind.u64 x3, AV.bool x4, AV.int IntKind.u32 x5, AV.int IntKind.u32 x6, AV.str x7, AV.int IntKind.i64 x8, AV.int IntKind.i64 0, AV.bool x10])) 1)) (0 + n + 1)) == false) none (cond ((!gV x1 (fjoin (fun i j => fx0 (0 + (0 + i - 0)) j) (0 + n) (rowsOf 8 (List.take (1 * 8) (List.drop 0 [AV.int IntKind.u64 x3, AV.bool x4, AV.int IntKind.u32 x5, AV.int IntKind.u32 x6, AV.str x7, AV.int IntKind.i64 x8, AV.int IntKind.i64 0, AV.bool x10])) 1)) (0 + n + 1)) == false) none (cond (!gV x1 (fjoin (fun i j => fx0 (0 + (0 + i - 0)) j) (0 + n) (rowsOf 8 (List.take (1 * 8) (List.drop 0 [AV.int IntKind.u64 x3, AV.bool x4, AV.int IntKind.u32 x5, AV.int IntKind.u32 x6, AV.str x7, AV.int IntKind.i64 x8, AV.int IntKind.i64 0, AV.bool x10])) 1)) (0 + n + 1)) (some (true)) none))))
  none) none) none) none) none) none) none) none) none) none) none) none) none) none) none) none) none) none) none)) none) none))))))) none) none) none) none) none) none) none) none) none) none) none) none) none) none) none) none) none) none) none) none)) none) none) none) none) none)) none))) none) none) none) none) none) none) none)) none) none)) none) none) none) none) none) none) := by kernel_rfl
theorem kD_eq (n : Nat) (i : Nat) (fx0 : Nat → Nat → AV) (x1 : Int) (x3 : Int) (x4 : Bool) (x5 : Int) (x6 : Int) (x7 : List Nat) (x8 : Int) (x9 : Int) (x10 : Bool) (hy0 : (okNV n) = true) (hy1 : (okLV fx0 n && decide ((↑n : Int) ≤ 20)) = true) (hy2 : (decide ((↑n : Int) > 8)) = false) (hy3 : (decide ((↑i : Int) ≥ (↑n : Int))) = false) (hy4 : (rngV fx0 n) = true) (hy5 : (checkV x1 fx0 n) = true) (hy6 : (rngV fx0 (n)) = true) (hy7 : (Nat.ble (Int.toNat (↑i : Int)) n) = true) (hy8 : (Nat.ble (Int.toNat (IntKind.wrap IntKind.i64 ((↑i : Int) + 1))) n) = true) (hy9 : (decide (0 ≤ IntKind.wrap IntKind.i64 ((↑i : Int) + 1))) = true) (hy10 : (Nat.ble (0 + Int.toNat (IntKind.wrap IntKind.i64 ((↑i : Int) + 1)) + (n - Int.toNat (IntKind.wrap IntKind.i64 ((↑i : Int) + 1)))) n) = true) (hy11 : (decide ((↑i : Int) < (↑n : Int))) = true) (hy12 : (Nat.blt (0 + Int.toNat (↑i : Int)) n) = true) (hy13 : (Nat.ble ((0) + (n)) (0)) = false) (hy14 : (growB (64) (0 + n)) = true) (hy15 : (Nat.ble (0 + n) n) = true) (hy16 : (growB (64) (0 + n + 1)) = true) (hy17 : (Nat.ble (0 + (0 + n)) (0 + n)) = true) (hy18 : (Nat.ble (0 + 0 + (Int.toNat (↑i : Int) - 0)) n) = true) (hy19 : (Nat.ble ((0) + (Int.toNat (↑i : Int) - 0)) (0)) = false) (hy20 : (growB (64) (0 + (Int.toNat (↑i : Int) - 0))) = true) (hy21 : (Nat.ble ((0 + (Int.toNat (↑i : Int) - 0)) + (n - Int.toNat (IntKind.wrap IntKind.i64 ((↑i : Int) + 1)))) (0 + (Int.toNat (↑i : Int) - 0))) = false) (hy22 : (growB (64) (0 + (Int.toNat (↑i : Int) - 0) + (n - Int.toNat (IntKind.wrap IntKind.i64 ((↑i : Int) + 1))))) = true) (hy23 : (Nat.ble (0 + (0 + (Int.toNat (↑i : Int) - 0))) (0 + (Int.toNat (↑i : Int) - 0))) = true) : kD n i fx0 x1 x3 x4 x5 x6 x7 x8 x9 x10 kD_p = (cond (AV.toB (fx0 (0 + Int.toNat (↑i : Int)) (1)))
  (cond (Nat.ble ((0 + n) + (1)) (0 + n)) none (cond (rngV (fjoin (fun p_ q_ => fx0 (0 + (0 + p_ - 0)) q_) (0 + n) (rowsOf (8) [(AV.int IntKind.u64 (x3)), (AV.bool (x4)), (AV.int IntKind.u32 (x5)), (AV.int IntKind.u32 (x6)), (AV.str (x7)), (AV.int IntKind.i64 (x8)), (AV.int IntKind.i64 (0)), (AV.bool (x10))] (1))) (0 + n + 1))
  (cond (gV x1 (fjoin (fun i j => fx0 (0 + (0 + i - 0)) j) (0 + n) (rowsOf 8 (List.take (1 * 8) (List.drop 0 [AV.int IntKind.u64 x3, AV.bool x4, AV.int IntKind.u32 x5, AV.int IntKind.u32 x6, AV.str x7, AV.int IntKind.i64 x8, AV.int IntKind.i64 0, AV.bool x10])) 1)) (0 + n + 1))
  (cond (checkV x1 (fjoin (fun i j => fx0 (0 + (0 + i - 0)) j) (0 + n) (rowsOf 8 (List.take (1 * 8) (List.drop 0 [AV.int IntKind.u64 x3, AV.bool x4, AV.int IntKind.u32 x5, AV.int IntKind.u32 x6, AV.str x7, AV.int IntKind.i64 x8, AV.int IntKind.i64 0, AV.bool x10])) 1)) (0 + n + 1))
  (cond (checkV (x1) (fjoin (fun p_ q_ => fx0 (0 + (0 + p_ - 0)) q_) (0 + n) (rowsOf (8) [(AV.int IntKind.u64 (x3)), (AV.bool (x4)), (AV.int IntKind.u32 (x5)), (AV.int IntKind.u32 (x6)), (AV.str (x7)), (AV.int IntKind.i64 (x8)), (AV.int IntKind.i64 (0)), (AV.bool (x10))] (1))) (0 + n + 1))
  (some (true))
  (some (false)))
  (cond (checkV (x1) (fjoin (fun p_ q_ => fx0 (0 + (0 + p_ - 0)) q_) (0 + n) (rowsOf (8) [(AV.int IntKind.u64 (x3)), (AV.bool (x4)), (AV.int IntKind.u32 (x5)), (AV.int IntKind.u32 (x6)), (AV.str (x7)), (AV.int IntKind.i64 (x8)), (AV.int IntKind.i64 (0)), (AV.bool (x10))] (1))) (0 + n + 1))
  none
  (some (false))))
  (some (true)))
  none))
  (cond (rngV (fjoin (fun p_ q_ => (fjoin (rowsOf (8) [] (0)) (0) (fun p_ q_ => fx0 (0 + 0 + p_) q_)) (0 + p_) q_) (0 + (Int.toNat (↑i : Int) - 0)) (fun p_ q_ => fx0 (0 + Int.toNat (IntKind.wrap IntKind.i64 ((↑i : Int) + 1)) + p_) q_)) (0 + (Int.toNat (↑i : Int) - 0) + (n - Int.toNat (IntKind.wrap IntKind.i64 ((↑i : Int) + 1)))))
  (cond (checkV x1 (fjoin (fun i j => fjoin (rowsOf 8 (List.take (0 * 8) (List.drop 0 (rep 0 [AV.int IntKind.u64 (Int.ofNat 0), AV.bool false, AV.int IntKind.u32 (Int.ofNat 0), AV.int IntKind.u32 (Int.ofNat 0), AV.str [], AV.int IntKind.i64 (Int.ofNat 0), AV.int IntKind.i64 (Int.ofNat 0), AV.bool false]))) 0) 0 (fun i j => fx0 (0 + 0 + i) j) (0 + i) j) (0 + (Int.toNat (↑i : Int) - 0)) fun i_1 j => fx0 (0 + Int.toNat (IntKind.wrap IntKind.i64 ((↑i : Int) + 1)) + i_1) j) (0 + (Int.toNat (↑i : Int) - 0) + (n - Int.toNat (IntKind.wrap IntKind.i64 ((↑i : Int) + 1)))))
  (cond (Nat.ble ((0 + n) + (1)) (0 + n)) none (cond (rngV (fjoin (fun p_ q_ => fx0 (0 + (0 + p_ - 0)) q_) (0 + n) (rowsOf (8) [(AV.int IntKind.u64 (x3)), (AV.bool (x4)), (AV.int IntKind.u32 (x5)), (AV.int IntKind.u32 (x6)), (AV.str (x7)), (AV.int IntKind.i64 (x8)), (AV.int IntKind.i64 (0)), (AV.bool (x10))] (1))) (0 + n + 1))
  (cond (gV x1 (fjoin (fun i j => fx0 (0 + (0 + i - 0)) j) (0 + n) (rowsOf 8 (List.take (1 * 8) (List.drop 0 [AV.int IntKind.u64 x3, AV.bool x4, AV.int IntKind.u32 x5, AV.int IntKind.u32 x6, AV.str x7, AV.int IntKind.i64 x8, AV.int IntKind.i64 0, AV.bool x10])) 1)) (0 + n + 1))
  (cond (checkV x1 (fjoin (fun i j => fx0 (0 + (0 + i - 0)) j) (0 + n) (rowsOf 8 (List.take (1 * 8) (List.drop 0 [AV.int IntKind.u64 x3, AV.bool x4, AV.int IntKind.u32 x5, AV.int IntKind.u32 x6, AV.str x7, AV.int IntKind.i64 x8, AV.int IntKind.i64 0, AV.bool x10])) 1)) (0 + n + 1))
  (cond (checkV (x1) (fjoin (fun p_ q_ => fx0 (0 + (0 + p_ - 0)) q_) (0 + n) (rowsOf (8) [(AV.int IntKind.u64 (x3)), (AV.bool (x4)), (AV.int IntKind.u32 (x5)), (AV.int IntKind.u32 (x6)), (AV.str (x7)), (AV.int IntKind.i64 (x8)), (AV.int IntKind.i64 (0)), (AV.bool (x10))] (1))) (0 + n + 1))
  (some (true))
  (some (false)))
  (cond (checkV (x1) (fjoin (fun p_ q_ => fx0 (0 + (0 + p_ - 0)) q_) (0 + n) (rowsOf (8) [(AV.int IntKind.u64 (x3)), (AV.bool (x4)), (AV.int IntKind.u32 (x5)), (AV.int IntKind.u32 (x6)), (AV.str (x7)), (AV.int IntKind.i64 (x8)), (AV.int IntKind.i64 (0)), (AV.bool (x10))] (1))) (0 + n + 1))
  none
  (some (false))))
  (some (true)))
  none))
  (some (false)))
  none)) := by
  rw [kD_is]
  try simp only [hy0, hy1, hy2, hy3, hy4, hy5, hy6, hy7, hy8, hy9, hy10, hy11, hy12, hy13, hy14, hy15, hy16, hy17, hy18, hy19, hy20, hy21, hy22, hy23, eq_self, decide_true, beq_self_eq_true, Nat.beq_refl, ble_self, Int.le_refl, Nat.le_refl]
  cases (AV.toB (fx0 (0 + Int.toNat (↑i : Int)) (1))) with
  | true =>
    cases (rngV (fjoin (fun p_ q_ => fx0 (0 + (0 + p_ - 0)) q_) (0 + n) (rowsOf (8) [(AV.int IntKind.u64 (x3)), (AV.bool (x4)), (AV.int IntKind.u32 (x5)), (AV.int IntKind.u32 (x6)), (AV.str (x7)), (AV.int IntKind.i64 (x8)), (AV.int IntKind.i64 (0)), (AV.bool (x10))] (1))) (0 + n + 1)) with
    | true =>
      cases (gV x1 (fjoin (fun i j => fx0 (0 + (0 + i - 0)) j) (0 + n) (rowsOf 8 (List.take (1 * 8) (List.drop 0 [AV.int IntKind.u64 x3, AV.bool x4, AV.int IntKind.u32 x5, AV.int IntKind.u32 x6, AV.str x7, AV.int IntKind.i64 x8, AV.int IntKind.i64 0, AV.bool x10])) 1)) (0 + n + 1)) with
      | true =>
        cases (checkV x1 (fjoin (fun i j => fx0 (0 + (0 + i - 0)) j) (0 + n) (rowsOf 8 (List.take (1 * 8) (List.drop 0 [AV.int IntKind.u64 x3, AV.bool x4, AV.int IntKind.u32 x5, AV.int IntKind.u32 x6, AV.str x7, AV.int IntKind.i64 x8, AV.int IntKind.i64 0, AV.bool x10])) 1)) (0 + n + 1)) with
        | true =>
          cases (checkV (x1) (fjoin (fun p_ q_ => fx0 (0 + (0 + p_ - 0)) q_) (0 + n) (rowsOf (8) [(AV.int IntKind.u64 (x3)), (AV.bool (x4)), (AV.int IntKind.u32 (x5)), (AV.int IntKind.u32 (x6)), (AV.str (x7)), (AV.int IntKind.i64 (x8)), (AV.int IntKind.i64 (0)), (AV.bool (x10))] (1))) (0 + n + 1)) with
          | true =>
            rfl
          | false =>
            rfl
        | false =>
          cases (checkV (x1) (fjoin (fun p_ q_ => fx0 (0 + (0 + p_ - 0)) q_) (0 + n) (rowsOf (8) [(AV.int IntKind.u64 (x3)), (AV.bool (x4)), (AV.int IntKind.u32 (x5)), (AV.int IntKind.u32 (x6)), (AV.str (x7)), (AV.int IntKind.i64 (x8)), (AV.int IntKind.i64 (0)), (AV.bool (x10))] (1))) (0 + n + 1)) with
          | true =>
            rfl
          | false =>
            rfl
      | false =>
        rfl
    | false =>
      rfl
  | false =>
    cases (rngV (fjoin (fun p_ q_ => (fjoin (rowsOf (8) [] (0)) (0) (fun p_ q_ => fx0 (0 + 0 + p_) q_)) (0 + p_) q_) (0 + (Int.toNat (↑i : Int) - 0)) (fun p_ q_ => fx0 (0 + Int.toNat (IntKind.wrap IntKind.i64 ((↑i : Int) + 1)) + p_) q_)) (0 + (Int.toNat (↑i : Int) - 0) + (n - Int.toNat (IntKind.wrap IntKind.i64 ((↑i : Int) + 1))))) with
    | true =>
      cases (checkV x1 (fjoin (fun i j => fjoin (rowsOf 8 (List.take (0 * 8) (List.drop 0 (rep 0 [AV.int IntKind.u64 (Int.ofNat 0), AV.bool false, AV.int IntKind.u32 (Int.ofNat 0), AV.int IntKind.u32 (Int.ofNat 0), AV.str [], AV.int IntKind.i64 (Int.ofNat 0), AV.int IntKind.i64 (Int.ofNat 0), AV.bool false]))) 0) 0 (fun i j => fx0 (0 + 0 + i) j) (0 + i) j) (0 + (Int.toNat (↑i : Int) - 0)) fun i_1 j => fx0 (0 + Int.toNat (IntKind.wrap IntKind.i64 ((↑i : Int) + 1)) + i_1) j) (0 + (Int.toNat (↑i : Int) - 0) + (n - Int.toNat (IntKind.wrap IntKind.i64 ((↑i : Int) + 1))))) with
      | true =>
        cases (rngV (fjoin (fun p_ q_ => fx0 (0 + (0 + p_ - 0)) q_) (0 + n) (rowsOf (8) [(AV.int IntKind.u64 (x3)), (AV.bool (x4)), (AV.int IntKind.u32 (x5)), (AV.int IntKind.u32 (x6)), (AV.str (x7)), (AV.int IntKind.i64 (x8)), (AV.int IntKind.i64 (0)), (AV.bool (x10))] (1))) (0 + n + 1)) with
        | true =>
          cases (gV x1 (fjoin (fun i j => fx0 (0 + (0 + i - 0)) j) (0 + n) (rowsOf 8 (List.take (1 * 8) (List.drop 0 [AV.int IntKind.u64 x3, AV.bool x4, AV.int IntKind.u32 x5, AV.int IntKind.u32 x6, AV.str x7, AV.int IntKind.i64 x8, AV.int IntKind.i64 0, AV.bool x10])) 1)) (0 + n + 1)) with
          | true =>
            cases (checkV x1 (fjoin (fun i j => fx0 (0 + (0 + i - 0)) j) (0 + n) (rowsOf 8 (List.take (1 * 8) (List.drop 0 [AV.int IntKind.u64 x3, AV.bool x4, AV.int IntKind.u32 x5, AV.int IntKind.u32 x6, AV.str x7, AV.int IntKind.i64 x8, AV.int IntKind.i64 0, AV.bool x10])) 1)) (0 + n + 1)) with
            | true =>
              cases (checkV (x1) (fjoin (fun p_ q_ => fx0 (0 + (0 + p_ - 0)) q_) (0 + n) (rowsOf (8) [(AV.int IntKind.u64 (x3)), (AV.bool (x4)), (AV.int IntKind.u32 (x5)), (AV.int IntKind.u32 (x6)), (AV.str (x7)), (AV.int IntKind.i64 (x8)), (AV.int IntKind.i64 (0)), (AV.bool (x10))] (1))) (0 + n + 1)) with
              | true =>
                rfl
              | false =>
                rfl
            | false =>
              cases (checkV (x1) (fjoin (fun p_ q_ => fx0 (0 + (0 + p_ - 0)) q_) (0 + n) (rowsOf (8) [(AV.int IntKind.u64 (x3)), (AV.bool (x4)), (AV.int IntKind.u32 (x5)), (AV.int IntKind.u32 (x6)), (AV.str (x7)), (AV.int IntKind.i64 (x8)), (AV.int IntKind.i64 (0)), (AV.bool (x10))] (1))) (0 + n + 1)) with
              | true =>
                rfl
              | false =>
                rfl
          | false =>
            rfl
        | false =>
          rfl
      | false =>
        rfl
    | false =>
      rfl

noncomputable def ke (nlx0 : Bool) (x0 : Nat) (fx0 : Nat → Nat → AV) (x1 : Int) (x2 : Int) (x3 : Int) (x4 : Bool) (x5 x6 : Int) (x7 : List Nat) (x8 x9 : Int) (x10 : Bool) (π : Plan) : Option Bool := lawT (EL) (3000) (4) ([.osl nlx0 0 0 x0 x0 8 true, .int .u32 x1, .int .i64 x2, .agg [.int .u64 x3, .bool x4, .int .u32 x5, .int .u32 x6, .str x7, .int .i64 x8, .int .i64 x9, .bool x10]]) ([some (.tarr shO x0 fx0 false)]) π
def ke_p : Plan := (.must true (.reck 1 (.must true (.must true (.must true (.must true (.must true (.must false (.must true (.must true (.must false (.must true (.must true (.must true (.must true (.must false (.must true (.must true (.must true (.must true (.reck 1 (.must true (.must true (.must true (.must false (.must true .stop))))))))))))))))))))))))))
theorem ke_is (nlx0 : Bool) (x0 : Nat) (fx0 : Nat → Nat → AV) (x1 : Int) (x2 : Int) (x3 : Int) (x4 : Bool) (x5 : Int) (x6 : Int) (x7 : List Nat) (x8 : Int) (x9 : Int) (x10 : Bool) : ke nlx0 x0 fx0 x1 x2 x3 x4 x5 x6 x7 x8 x9 x10 ke_p = (cond (decide (x0 = x0)) (cond (decide (x0 = x0)) (cond (okNV x0) (cond ((!(okLV fx0 x0 && decide ((↑x0 : Int) ≤ 20))) == false) (cond ((!(okLV fx0 x0 && decide ((↑x0 : Int) ≤ 20))) == false) (cond ((!(okLV fx0 x0 && decide ((↑x0 : Int) ≤ 20))) == false) (cond (!(okLV fx0 x0 && decide ((↑x0 : Int) ≤ 20))) none (cond (decide ((↑x0 : Int) > 8) == false) (cond (decide ((↑x0 : Int) > 8) == false) (cond (decide ((↑x0 : Int) > 8)) none (cond (decide (x2 < 0) == false) (cond (decide (x2 < 0) == false) (cond (decide (x2 < 0) == false) (cond (decide (x2 < 0) == false) (cond (decide (x2 < 0)) none (cond (decide (x2 ≥ (↑x0 : Int)) == false) (cond (decide (x2 ≥ (↑x0 : Int)) == false) (cond (decide (x2 ≥ (↑x0 : Int)) == false) (cond (decide (x0 = x0)) (cond (decide (x0 = x0)) (cond ((rngV fx0 (x0))) (cond (decide (x2 ≥ (↑x0 : Int)) == false) (cond (decide (x2 ≥ (↑x0 : Int))) none (cond (!checkV x1 fx0 x0) (some (true)) none)) none) none) none) none) none) none) none)) none) none) none) none)) none) none)) none) none) none) none) none) none) := by kernel_rfl
theorem ke_eq (nlx0 : Bool) (x0 : Nat) (fx0 : Nat → Nat → AV) (x1 : Int) (x2 : Int) (x3 : Int) (x4 : Bool) (x5 : Int) (x6 : Int) (x7 : List Nat) (x8 : Int) (x9 : Int) (x10 : Bool) (hy0 : (okNV x0) = true) (hy1 : (okLV fx0 x0 && decide ((↑x0 : Int) ≤ 20)) = true) (hy2 : (decide ((↑x0 : Int) > 8)) = false) (hy3 : (decide (x2 < 0)) = false) (hy4 : (decide (x2 ≥ (↑x0 : Int))) = false) (hy5 : (rngV fx0 (x0)) = true) (hy6 : (checkV x1 fx0 x0) = false) : ke nlx0 x0 fx0 x1 x2 x3 x4 x5 x6 x7 x8 x9 x10 ke_p = (some (true)) := by
  rw [ke_is]
  try simp only [hy0, hy1, hy2, hy3, hy4, hy5, hy6, eq_self, decide_true, beq_self_eq_true, Nat.beq_refl, ble_self, Int.le_refl, Nat.le_refl]
  rfl

noncomputable def kf (nlx0 : Bool) (x0 : Nat) (fx0 : Nat → Nat → AV) (x1 : Int) (x2 : Int) (x3 : Int) (x4 : Bool) (x5 x6 : Int) (x7 : List Nat) (x8 x9 : Int) (x10 : Bool) (π : Plan) : Option Bool := lawT (EL) (3000) (4) ([.osl nlx0 0 0 x0 x0 8 true, .int .u32 x1, .int .i64 x2, .agg [.int .u64 x3, .bool x4, .int .u32 x5, .int .u32 x6, .str x7, .int .i64 x8, .int .i64 x9, .bool x10]]) ([some (.tarr shO x0 fx0 false)]) π
def kf_p : Plan := (.must true (.reck 1 (.must true (.must true (.must false (.must false (.must false (.must true .stop))))))))
theorem kf_is (nlx0 : Bool) (x0 : Nat) (fx0 : Nat → Nat → AV) (x1 : Int) (x2 : Int) (x3 : Int) (x4 : Bool) (x5 : Int) (x6 : Int) (x7 : List Nat) (x8 : Int) (x9 : Int) (x10 : Bool) : kf nlx0 x0 fx0 x1 x2 x3 x4 x5 x6 x7 x8 x9 x10 kf_p = (cond (decide (x0 = x0)) (cond (decide (x0 = x0)) (cond (okNV x0) (cond ((!(okLV fx0 x0 && decide ((↑x0 : Int) ≤ 20))) == false) none (cond ((!(okLV fx0 x0 && decide ((↑x0 : Int) ≤ 20))) == false) none (cond ((!(okLV fx0 x0 && decide ((↑x0 : Int) ≤ 20))) == false) none (cond (!(okLV fx0 x0 && decide ((↑x0 : Int) ≤ 20))) (some (true)) none)))) none) none) none) := by kernel_rfl
theorem kf_eq (nlx0 : Bool) (x0 : Nat) (fx0 : Nat → Nat → AV) (x1 : Int) (x2 : Int) (x3 : Int) (x4 : Bool) (x5 : Int) (x6 : Int) (x7 : List Nat) (x8 : Int) (x9 : Int) (x10 : Bool) (hy0 : (okNV x0) = true) (hy1 : (okLV fx0 x0 && decide ((↑x0 : Int) ≤ 20)) = false) : kf nlx0 x0 fx0 x1 x2 x3 x4 x5 x6 x7 x8 x9 x10 kf_p = (some (true)) := by
  rw [kf_is]
  try simp only [hy0, hy1, eq_self, decide_true, beq_self_eq_true, Nat.beq_refl, ble_self, Int.le_refl, Nat.le_refl]
  rfl

noncomputable def kg (nlx0 : Bool) (x0 : Nat) (fx0 : Nat → Nat → AV) (x1 : Int) (x2 : Int) (x3 : Int) (x4 : Bool) (x5 x6 : Int) (x7 : List Nat) (x8 x9 : Int) (x10 : Bool) (π : Plan) : Option Bool := lawT (EL) (3000) (4) ([.osl nlx0 0 0 x0 x0 8 true, .int .u32 x1, .int .i64 x2, .agg [.int .u64 x3, .bool x4, .int .u32 x5, .int .u32 x6, .str x7, .int .i64 x8, .int .i64 x9, .bool x10]]) ([some (.tarr shO x0 fx0 false)]) π
def kg_p : Plan := (.must true (.reck 1 (.must true (.must true (.must true (.must true (.must true (.must false (.must false (.must false (.must true .stop)))))))))))
theorem kg_is (nlx0 : Bool) (x0 : Nat) (fx0 : Nat → Nat → AV) (x1 : Int) (x2 : Int) (x3 : Int) (x4 : Bool) (x5 : Int) (x6 : Int) (x7 : List Nat) (x8 : Int) (x9 : Int) (x10 : Bool) : kg nlx0 x0 fx0 x1 x2 x3 x4 x5 x6 x7 x8 x9 x10 kg_p = (cond (decide (x0 = x0)) (cond (decide (x0 = x0)) (cond (okNV x0) (cond ((!(okLV fx0 x0 && decide ((↑x0 : Int) ≤ 20))) == false) (cond ((!(okLV fx0 x0 && decide ((↑x0 : Int) ≤ 20))) == false) (cond ((!(okLV fx0 x0 && decide ((↑x0 : Int) ≤ 20))) == false) (cond (!(okLV fx0 x0 && decide ((↑x0 : Int) ≤ 20))) none (cond (decide ((↑x0 : Int) > 8) == false) none (cond (decide ((↑x0 : Int) > 8) == false) none (cond (decide ((↑x0 : Int) > 8)) (some (true)) none)))) none) none) none) none) none) none) := by kernel_rfl
theorem kg_eq (nlx0 : Bool) (x0 : Nat) (fx0 : Nat → Nat → AV) (x1 : Int) (x2 : Int) (x3 : Int) (x4 : Bool) (x5 : Int) (x6 : Int) (x7 : List Nat) (x8 : Int) (x9 : Int) (x10 : Bool) (hy0 : (okNV x0) = true) (hy1 : (okLV fx0 x0 && decide ((↑x0 : Int) ≤ 20)) = true) (hy2 : (decide ((↑x0 : Int) > 8)) = true) : kg nlx0 x0 fx0 x1 x2 x3 x4 x5 x6 x7 x8 x9 x10 kg_p = (some (true)) := by
  rw [kg_is]
  try simp only [hy0, hy1, hy2, eq_self, decide_true, beq_self_eq_true, Nat.beq_refl, ble_self, Int.le_refl, Nat.le_refl]
  rfl

noncomputable def kh (nlx0 : Bool) (x0 : Nat) (fx0 : Nat → Nat → AV) (x1 : Int) (x2 : Int) (x3 : Int) (x4 : Bool) (x5 x6 : Int) (x7 : List Nat) (x8 x9 : Int) (x10 : Bool) (π : Plan) : Option Bool := lawT (EL) (3000) (4) ([.osl nlx0 0 0 x0 x0 8 true, .int .u32 x1, .int .i64 x2, .agg [.int .u64 x3, .bool x4, .int .u32 x5, .int .u32 x6, .str x7, .int .i64 x8, .int .i64 x9, .bool x10]]) ([some (.tarr shO x0 fx0 false)]) π
def kh_p : Plan := (.must true (.reck 1 (.must true (.must true (.must true (.must true (.must true (.must false (.must true (.must true (.must false (.must false (.must false (.must false (.must false (.must true .stop))))))))))))))))
theorem kh_is (nlx0 : Bool) (x0 : Nat) (fx0 : Nat → Nat → AV) (x1 : Int) (x2 : Int) (x3 : Int) (x4 : Bool) (x5 : Int) (x6 : Int) (x7 : List Nat) (x8 : Int) (x9 : Int) (x10 : Bool) : kh nlx0 x0 fx0 x1 x2 x3 x4 x5 x6 x7 x8 x9 x10 kh_p = (cond (decide (x0 = x0)) (cond (decide (x0 = x0)) (cond (okNV x0) (cond ((!(okLV fx0 x0 && decide ((↑x0 : Int) ≤ 20))) == false) (cond ((!(okLV fx0 x0 && decide ((↑x0 : Int) ≤ 20))) == false) (cond ((!(okLV fx0 x0 && decide ((↑x0 : Int) ≤ 20))) == false) (cond (!(okLV fx0 x0 && decide ((↑x0 : Int) ≤ 20))) none (cond (decide ((↑x0 : Int) > 8) == false) (cond (decide ((↑x0 : Int) > 8) == false) (cond (decide ((↑x0 : Int) > 8)) none (cond (decide (x2 < 0) == false) none (cond (decide (x2 < 0) == false) none (cond (decide (x2 < 0) == false) none (cond (decide (x2 < 0) == false) none (cond (decide (x2 < 0)) (some (true)) none)))))) none) none)) none) none) none) none) none) none) := by kernel_rfl
theorem kh_eq (nlx0 : Bool) (x0 : Nat) (fx0 : Nat → Nat → AV) (x1 : Int) (x2 : Int) (x3 : Int) (x4 : Bool) (x5 : Int) (x6 : Int) (x7 : List Nat) (x8 : Int) (x9 : Int) (x10 : Bool) (hy0 : (okNV x0) = true) (hy1 : (okLV fx0 x0 && decide ((↑x0 : Int) ≤ 20)) = true) (hy2 : (decide ((↑x0 : Int) > 8)) = false) (hy3 : (decide (x2 < 0)) = true) : kh nlx0 x0 fx0 x1 x2 x3 x4 x5 x6 x7 x8 x9 x10 kh_p = (some (true)) := by
  rw [kh_is]
  try simp only [hy0, hy1, hy2, hy3, eq_self, decide_true, beq_self_eq_true, Nat.beq_refl, ble_self, Int.le_refl, Nat.le_refl]
  rfl

noncomputable def ki (nlx0 : Bool) (x0 : Nat) (fx0 : Nat → Nat → AV) (x1 : Int) (x2 : Int) (x3 : Int) (x4 : Bool) (x5 x6 : Int) (x7 : List Nat) (x8 x9 : Int) (x10 : Bool) (π : Plan) : Option Bool := lawT (EL) (3000) (4) ([.osl nlx0 0 0 x0 x0 8 true, .int .u32 x1, .int .i64 x2, .agg [.int .u64 x3, .bool x4, .int .u32 x5, .int .u32 x6, .str x7, .int .i64 x8, .int .i64 x9, .bool x10]]) ([some (.tarr shO x0 fx0 false)]) π
def ki_p : Plan := (.must true (.reck 1 (.must true (.must true (.must true (.must true (.must true (.must false (.must true (.must true (.must false (.must true (.must true (.must true (.must true (.must false (.must false (.must false (.must false (.must false (.must true .stop)))))))))))))))))))))
theorem ki_is (nlx0 : Bool) (x0 : Nat) (fx0 : Nat → Nat → AV) (x1 : Int) (x2 : Int) (x3 : Int) (x4 : Bool) (x5 : Int) (x6 : Int) (x7 : List Nat) (x8 : Int) (x9 : Int) (x10 : Bool) : ki nlx0 x0 fx0 x1 x2 x3 x4 x5 x6 x7 x8 x9 x10 ki_p = (cond (decide (x0 = x0)) (cond (decide (x0 = x0)) (cond (okNV x0) (cond ((!(okLV fx0 x0 && decide ((↑x0 : Int) ≤ 20))) == false) (cond ((!(okLV fx0 x0 && decide ((↑x0 : Int) ≤ 20))) == false) (cond ((!(okLV fx0 x0 && decide ((↑x0 : Int) ≤ 20))) == false) (cond (!(okLV fx0 x0 && decide ((↑x0 : Int) ≤ 20))) none (cond (decide ((↑x0 : Int) > 8) == false) (cond (decide ((↑x0 : Int) > 8) == false) (cond (decide ((↑x0 : Int) > 8)) none (cond (decide (x2 < 0) == false) (cond (decide (x2 < 0) == false) (cond (decide (x2 < 0) == false) (cond (decide (x2 < 0) == false) (cond (decide (x2 < 0)) none (cond (decide (x2 ≥ (↑x0 : Int)) == false) none (cond (decide (x2 ≥ (↑x0 : Int)) == false) none (cond (decide (x2 ≥ (↑x0 : Int)) == false) none (cond (decide (x2 ≥ (↑x0 : Int)) == false) none (cond (decide (x2 ≥ (↑x0 : Int))) (some (true)) none)))))) none) none) none) none)) none) none)) none) none) none) none) none) none) := by kernel_rfl
theorem ki_eq (nlx0 : Bool) (x0 : Nat) (fx0 : Nat → Nat → AV) (x1 : Int) (x2 : Int) (x3 : Int) (x4 : Bool) (x5 : Int) (x6 : Int) (x7 : List Nat) (x8 : Int) (x9 : Int) (x10 : Bool) (hy0 : (okNV x0) = true) (hy1 : (okLV fx0 x0 && decide ((↑x0 : Int) ≤ 20)) = true) (hy2 : (decide ((↑x0 : Int) > 8)) = false) (hy3 : (decide (x2 < 0)) = false) (hy4 : (decide (x2 ≥ (↑x0 : Int))) = true) : ki nlx0 x0 fx0 x1 x2 x3 x4 x5 x6 x7 x8 x9 x10 ki_p = (some (true)) := by
  rw [ki_is]
  try simp only [hy0, hy1, hy2, hy3, hy4, eq_self, decide_true, beq_self_eq_true, Nat.beq_refl, ble_self, Int.le_refl, Nat.le_refl]
  rfl

theorem ix0 (i : Nat) : 0 + Int.toNat (i : Int) = i := by rw [Nat.zero_add]; rfl
theorem rng_wo {f : Nat → Nat → AV} {n i : Nat} (hi : i < n) (h : rngV f n = true) : rngV (woA f i) (n - 1) = true := by
  rw [rngV_eq] at h ⊢
  refine okFrom_iff.2 fun k hk => ?_
  have hsk : skipN i k < n := by unfold skipN; split <;> omega
  have := okFrom_iff.1 h (skipN i k) hsk
  rw [Nat.zero_add] at this ⊢
  exact this
theorem caseA (n i : Nat) (fx0 : Nat → Nat → AV) (x1 x3 : Int) (x4 : Bool) (x5 x6 : Int) (x7 : List Nat) (x8 x9 : Int) (x10 : Bool) (hi : i < n) (hz : i = 0 ∧ n = 1) (hn : n ≤ 8) (hok : okNV n = true) (hlt : (okLV fx0 n && decide ((n : Int) ≤ 20)) = true) (hr : rngV fx0 n = true) (hc : checkV x1 fx0 n = true)
    (hW : rngV (finO (rdO fx0 n ++ [⟨x3, x4, x5, x6, x7, x8, 0, x10⟩])) (n + 1) = true) : kA n i fx0 x1 x3 x4 x5 x6 x7 x8 x9 x10 kA_p = some true := by
  have hw : IntKind.wrap IntKind.i64 ((i : Int) + 1) = ((i + 1 : Nat) : Int) := wrap_i64s (by omega)
  have hI1 : Int.toNat (IntKind.wrap IntKind.i64 ((i : Int) + 1)) = i + 1 := by rw [hw, Int.toNat_natCast]
  have hc' : checkF x1 fx0 n = true := by rw [← checkV_eq]; exact hc
  have e := kA_eq n i fx0 x1 x3 x4 x5 x6 x7 x8 x9 x10 hok hlt (decide_eq_false (by omega)) (decide_eq_false (by omega)) hr hc hr (ble_t (show i ≤ n by omega)) (by rw [hI1]; exact ble_t (by omega)) (decide_eq_true (by rw [hw]; omega)) (by rw [hI1]; exact ble_t (by omega)) (lt1 hi) (by rw [ix0]; exact blt_t hi) (ble_f (by omega)) (grow64 (by omega)) (ble_t (by omega)) (grow64 (by omega)) (ble_t (by omega)) (ble_t (show 0 + 0 + (i - 0) ≤ n by omega)) (ble_t (show 0 + (i - 0) ≤ 0 by omega)) (by rw [hI1]; exact ble_t (by omega))
  have R1 : rngV (fjoin (fun p_ q_ => fx0 (0 + (0 + p_ - 0)) q_) (0 + n) (rowsOf 8 [.int .u64 x3, .bool x4, .int .u32 x5, .int .u32 x6, .str x7, .int .i64 x8, .int .i64 0, .bool x10] 1)) (0 + n + 1) = true := by
    rw [show 0 + n + 1 = n + 1 by omega, ← hW]; exact rng_c withA
  have G0 : gV x1 (fjoin (fun p_ q_ => fx0 (0 + (0 + p_ - 0)) q_) (0 + n) (rowsOf 8 (List.take (1 * 8) (List.drop 0 [.int .u64 x3, .bool x4, .int .u32 x5, .int .u32 x6, .str x7, .int .i64 x8, .int .i64 0, .bool x10])) 1)) (0 + n + 1) = gF x1 (finO (rdO fx0 n ++ [⟨x3, x4, x5, x6, x7, x8, 0, x10⟩])) (n + 1) := by
    rw [gV_eq, show 0 + n + 1 = n + 1 by omega]; exact good_c withA
  have C0 : checkV x1 (fjoin (fun p_ q_ => fx0 (0 + (0 + p_ - 0)) q_) (0 + n) (rowsOf 8 [.int .u64 x3, .bool x4, .int .u32 x5, .int .u32 x6, .str x7, .int .i64 x8, .int .i64 0, .bool x10] 1)) (0 + n + 1) = checkF x1 (finO (rdO fx0 n ++ [⟨x3, x4, x5, x6, x7, x8, 0, x10⟩])) (n + 1) := by
    rw [checkV_eq, show 0 + n + 1 = n + 1 by omega]; exact check_c withA
  have C1 : checkV x1 (fjoin (fun p_ q_ => fx0 (0 + (0 + p_ - 0)) q_) (0 + n) (rowsOf 8 (List.take (1 * 8) (List.drop 0 [.int .u64 x3, .bool x4, .int .u32 x5, .int .u32 x6, .str x7, .int .i64 x8, .int .i64 0, .bool x10])) 1)) (0 + n + 1) = checkF x1 (finO (rdO fx0 n ++ [⟨x3, x4, x5, x6, x7, x8, 0, x10⟩])) (n + 1) := C0
  have hb : Nat.ble (0 + n + 1) (0 + n) = false := ble_f (by omega)
  have end_ : ∀ b : Bool, b = gF x1 (finO (rdO fx0 n ++ [⟨x3, x4, x5, x6, x7, x8, 0, x10⟩])) (n + 1) → b = true → checkF x1 (finO (rdO fx0 n ++ [⟨x3, x4, x5, x6, x7, x8, 0, x10⟩])) (n + 1) = true := fun b h1 h2 => with_ok rfl hc' (h1.symm.trans h2)
  rw [ix0, R1, G0, C0, C1, hb] at e
  have fin : (cond (gF x1 (finO (rdO fx0 n ++ [⟨x3, x4, x5, x6, x7, x8, 0, x10⟩])) (n + 1)) (cond (checkF x1 (finO (rdO fx0 n ++ [⟨x3, x4, x5, x6, x7, x8, 0, x10⟩])) (n + 1)) (cond (checkF x1 (finO (rdO fx0 n ++ [⟨x3, x4, x5, x6, x7, x8, 0, x10⟩])) (n + 1)) (some true) (some false)) (cond (checkF x1 (finO (rdO fx0 n ++ [⟨x3, x4, x5, x6, x7, x8, 0, x10⟩])) (n + 1)) none (some false))) (some true)) = some true := by
    cases hg : gF x1 (finO (rdO fx0 n ++ [⟨x3, x4, x5, x6, x7, x8, 0, x10⟩])) (n + 1) with
    | false => rfl
    | true => rw [with_ok rfl hc' hg]; rfl
  cases hwr : (fx0 i 1).toB with
  | true =>
    rw [hwr] at e
    exact e.trans fin
  | false =>
    have hm : 0 = n - 1 := by omega
    have ho : ∀ j, j < 0 → opAt (rowsOf 8 [] 0) j = opAt (woA fx0 i) j := fun j hj => absurd hj (by omega)
    have R2 : rngV (rowsOf 8 [] 0) 0 = true := by
      rw [rng_c ho, hm]; exact rng_wo hi hr
    have C2 : checkV x1 (rowsOf (List.length shO) (rep 0 [AV.int IntKind.u64 (Int.ofNat 0), AV.bool false, AV.int IntKind.u32 (Int.ofNat 0), AV.int IntKind.u32 (Int.ofNat 0), AV.str [], AV.int IntKind.i64 (Int.ofNat 0), AV.int IntKind.i64 (Int.ofNat 0), AV.bool false]) (Nat.div (List.length (rep 0 [AV.int IntKind.u64 (Int.ofNat 0), AV.bool false, AV.int IntKind.u32 (Int.ofNat 0), AV.int IntKind.u32 (Int.ofNat 0), AV.str [], AV.int IntKind.i64 (Int.ofNat 0), AV.int IntKind.i64 (Int.ofNat 0), AV.bool false])) (List.length shO))) 0 = true := by
      rw [checkV_eq]
      refine (check_c (g' := woA fx0 i) ho).trans ?_
      rw [hm]; exact without_ok hi hwr hc'
    rw [hwr, R2, C2] at e
    exact e.trans fin
theorem caseB (n i : Nat) (fx0 : Nat → Nat → AV) (x1 x3 : Int) (x4 : Bool) (x5 x6 : Int) (x7 : List Nat) (x8 x9 : Int) (x10 : Bool) (hi : i < n) (hz : i = 0 ∧ 1 < n) (hn : n ≤ 8) (hok : okNV n = true) (hlt : (okLV fx0 n && decide ((n : Int) ≤ 20)) = true) (hr : rngV fx0 n = true) (hc : checkV x1 fx0 n = true)
    (hW : rngV (finO (rdO fx0 n ++ [⟨x3, x4, x5, x6, x7, x8, 0, x10⟩])) (n + 1) = true) : kB n i fx0 x1 x3 x4 x5 x6 x7 x8 x9 x10 kB_p = some true := by
  have hw : IntKind.wrap IntKind.i64 ((i : Int) + 1) = ((i + 1 : Nat) : Int) := wrap_i64s (by omega)
  have hI1 : Int.toNat (IntKind.wrap IntKind.i64 ((i : Int) + 1)) = i + 1 := by rw [hw, Int.toNat_natCast]
  have hc' : checkF x1 fx0 n = true := by rw [← checkV_eq]; exact hc
  have e := kB_eq n i fx0 x1 x3 x4 x5 x6 x7 x8 x9 x10 hok hlt (decide_eq_false (by omega)) (decide_eq_false (by omega)) hr hc hr (ble_t (show i ≤ n by omega)) (by rw [hI1]; exact ble_t (by omega)) (decide_eq_true (by rw [hw]; omega)) (by rw [hI1]; exact ble_t (by omega)) (lt1 hi) (by rw [ix0]; exact blt_t hi) (ble_f (by omega)) (grow64 (by omega)) (ble_t (by omega)) (grow64 (by omega)) (ble_t (by omega)) (ble_t (show 0 + 0 + (i - 0) ≤ n by omega)) (ble_t (show 0 + (i - 0) ≤ 0 by omega)) (by rw [hI1]; exact ble_f (by omega))
  have R1 : rngV (fjoin (fun p_ q_ => fx0 (0 + (0 + p_ - 0)) q_) (0 + n) (rowsOf 8 [.int .u64 x3, .bool x4, .int .u32 x5, .int .u32 x6, .str x7, .int .i64 x8, .int .i64 0, .bool x10] 1)) (0 + n + 1) = true := by
    rw [show 0 + n + 1 = n + 1 by omega, ← hW]; exact rng_c withA
  have G0 : gV x1 (fjoin (fun p_ q_ => fx0 (0 + (0 + p_ - 0)) q_) (0 + n) (rowsOf 8 (List.take (1 * 8) (List.drop 0 [.int .u64 x3, .bool x4, .int .u32 x5, .int .u32 x6, .str x7, .int .i64 x8, .int .i64 0, .bool x10])) 1)) (0 + n + 1) = gF x1 (finO (rdO fx0 n ++ [⟨x3, x4, x5, x6, x7, x8, 0, x10⟩])) (n + 1) := by
    rw [gV_eq, show 0 + n + 1 = n + 1 by omega]; exact good_c withA
  have C0 : checkV x1 (fjoin (fun p_ q_ => fx0 (0 + (0 + p_ - 0)) q_) (0 + n) (rowsOf 8 [.int .u64 x3, .bool x4, .int .u32 x5, .int .u32 x6, .str x7, .int .i64 x8, .int .i64 0, .bool x10] 1)) (0 + n + 1) = checkF x1 (finO (rdO fx0 n ++ [⟨x3, x4, x5, x6, x7, x8, 0, x10⟩])) (n + 1) := by
    rw [checkV_eq, show 0 + n + 1 = n + 1 by omega]; exact check_c withA
  have C1 : checkV x1 (fjoin (fun p_ q_ => fx0 (0 + (0 + p_ - 0)) q_) (0 + n) (rowsOf 8 (List.take (1 * 8) (List.drop 0 [.int .u64 x3, .bool x4, .int .u32 x5, .int .u32 x6, .str x7, .int .i64 x8, .int .i64 0, .bool x10])) 1)) (0 + n + 1) = checkF x1 (finO (rdO fx0 n ++ [⟨x3, x4, x5, x6, x7, x8, 0, x10⟩])) (n + 1) := C0
  have hb : Nat.ble (0 + n + 1) (0 + n) = false := ble_f (by omega)
  have end_ : ∀ b : Bool, b = gF x1 (finO (rdO fx0 n ++ [⟨x3, x4, x5, x6, x7, x8, 0, x10⟩])) (n + 1) → b = true → checkF x1 (finO (rdO fx0 n ++ [⟨x3, x4, x5, x6, x7, x8, 0, x10⟩])) (n + 1) = true := fun b h1 h2 => with_ok rfl hc' (h1.symm.trans h2)
  rw [grow64 (show 0 + (n - Int.toNat (IntKind.wrap IntKind.i64 ((i : Int) + 1))) ≤ 2000000 by rw [hI1]; omega)] at e
  rw [ix0, R1, G0, C0, C1, hb] at e
  have fin : (cond (gF x1 (finO (rdO fx0 n ++ [⟨x3, x4, x5, x6, x7, x8, 0, x10⟩])) (n + 1)) (cond (checkF x1 (finO (rdO fx0 n ++ [⟨x3, x4, x5, x6, x7, x8, 0, x10⟩])) (n + 1)) (cond (checkF x1 (finO (rdO fx0 n ++ [⟨x3, x4, x5, x6, x7, x8, 0, x10⟩])) (n + 1)) (some true) (some false)) (cond (checkF x1 (finO (rdO fx0 n ++ [⟨x3, x4, x5, x6, x7, x8, 0, x10⟩])) (n + 1)) none (some false))) (some true)) = some true := by
    cases hg : gF x1 (finO (rdO fx0 n ++ [⟨x3, x4, x5, x6, x7, x8, 0, x10⟩])) (n + 1) with
    | false => rfl
    | true => rw [with_ok rfl hc' hg]; rfl
  cases hwr : (fx0 i 1).toB with
  | true =>
    rw [hwr] at e
    exact e.trans fin
  | false =>
    have hm : (0 + (n - Int.toNat (IntKind.wrap IntKind.i64 ((i : Int) + 1)))) = n - 1 := by rw [hI1]; omega
    have ho : ∀ j, j < (0 + (n - Int.toNat (IntKind.wrap IntKind.i64 ((i : Int) + 1)))) → opAt (fjoin (rowsOf 8 [] 0) 0 (fun p_ q_ => fx0 (0 + Int.toNat (IntKind.wrap IntKind.i64 ((i : Int) + 1)) + p_) q_)) j = opAt (woA fx0 i) j := fun j hj => by rw [hI1]; obtain ⟨rfl, _⟩ := hz; exact woB
    have R2 : rngV (fjoin (rowsOf 8 [] 0) 0 (fun p_ q_ => fx0 (0 + Int.toNat (IntKind.wrap IntKind.i64 ((i : Int) + 1)) + p_) q_)) (0 + (n - Int.toNat (IntKind.wrap IntKind.i64 ((i : Int) + 1)))) = true := by
      rw [rng_c ho, hm]; exact rng_wo hi hr
    have C2 : checkV x1 (fjoin (rowsOf 8 (List.take (0 * 8) (List.drop 0 (rep 0 [AV.int IntKind.u64 (Int.ofNat 0), AV.bool false, AV.int IntKind.u32 (Int.ofNat 0), AV.int IntKind.u32 (Int.ofNat 0), AV.str [], AV.int IntKind.i64 (Int.ofNat 0), AV.int IntKind.i64 (Int.ofNat 0), AV.bool false]))) 0) 0 (fun p_ q_ => fx0 (0 + Int.toNat (IntKind.wrap IntKind.i64 ((i : Int) + 1)) + p_) q_)) (0 + (n - Int.toNat (IntKind.wrap IntKind.i64 ((i : Int) + 1)))) = true := by
      rw [checkV_eq]
      refine (check_c (g' := woA fx0 i) ho).trans ?_
      rw [hm]; exact without_ok hi hwr hc'
    rw [hwr, R2, C2] at e
    exact e.trans fin
theorem caseC (n i : Nat) (fx0 : Nat → Nat → AV) (x1 x3 : Int) (x4 : Bool) (x5 x6 : Int) (x7 : List Nat) (x8 x9 : Int) (x10 : Bool) (hi : i < n) (hz : 0 < i ∧ n = i + 1) (hn : n ≤ 8) (hok : okNV n = true) (hlt : (okLV fx0 n && decide ((n : Int) ≤ 20)) = true) (hr : rngV fx0 n = true) (hc : checkV x1 fx0 n = true)
    (hW : rngV (finO (rdO fx0 n ++ [⟨x3, x4, x5, x6, x7, x8, 0, x10⟩])) (n + 1) = true) : kC n i fx0 x1 x3 x4 x5 x6 x7 x8 x9 x10 kC_p = some true := by
  have hw : IntKind.wrap IntKind.i64 ((i : Int) + 1) = ((i + 1 : Nat) : Int) := wrap_i64s (by omega)
  have hI1 : Int.toNat (IntKind.wrap IntKind.i64 ((i : Int) + 1)) = i + 1 := by rw [hw, Int.toNat_natCast]
  have hc' : checkF x1 fx0 n = true := by rw [← checkV_eq]; exact hc
  have e := kC_eq n i fx0 x1 x3 x4 x5 x6 x7 x8 x9 x10 hok hlt (decide_eq_false (by omega)) (decide_eq_false (by omega)) hr hc hr (ble_t (show i ≤ n by omega)) (by rw [hI1]; exact ble_t (by omega)) (decide_eq_true (by rw [hw]; omega)) (by rw [hI1]; exact ble_t (by omega)) (lt1 hi) (by rw [ix0]; exact blt_t hi) (ble_f (by omega)) (grow64 (by omega)) (ble_t (by omega)) (grow64 (by omega)) (ble_t (by omega)) (ble_t (show 0 + 0 + (i - 0) ≤ n by omega)) (ble_f (show ¬ 0 + (i - 0) ≤ 0 by omega)) (grow64 (show 0 + (i - 0) ≤ 2000000 by omega)) (by rw [hI1]; exact ble_t (show 0 + (i - 0) + (n - (i + 1)) ≤ 0 + (i - 0) by omega)) (by rw [hI1]; exact ble_t (show 0 + (0 + (i - 0) + (n - (i + 1))) ≤ 0 + (i - 0) by omega)) (by rw [hI1]; exact decide_eq_true (show 0 + (i - 0) + (n - (i + 1)) = 0 + (i - 0) by omega))
  have R1 : rngV (fjoin (fun p_ q_ => fx0 (0 + (0 + p_ - 0)) q_) (0 + n) (rowsOf 8 [.int .u64 x3, .bool x4, .int .u32 x5, .int .u32 x6, .str x7, .int .i64 x8, .int .i64 0, .bool x10] 1)) (0 + n + 1) = true := by
    rw [show 0 + n + 1 = n + 1 by omega, ← hW]; exact rng_c withA
  have G0 : gV x1 (fjoin (fun p_ q_ => fx0 (0 + (0 + p_ - 0)) q_) (0 + n) (rowsOf 8 (List.take (1 * 8) (List.drop 0 [.int .u64 x3, .bool x4, .int .u32 x5, .int .u32 x6, .str x7, .int .i64 x8, .int .i64 0, .bool x10])) 1)) (0 + n + 1) = gF x1 (finO (rdO fx0 n ++ [⟨x3, x4, x5, x6, x7, x8, 0, x10⟩])) (n + 1) := by
    rw [gV_eq, show 0 + n + 1 = n + 1 by omega]; exact good_c withA
  have C0 : checkV x1 (fjoin (fun p_ q_ => fx0 (0 + (0 + p_ - 0)) q_) (0 + n) (rowsOf 8 [.int .u64 x3, .bool x4, .int .u32 x5, .int .u32 x6, .str x7, .int .i64 x8, .int .i64 0, .bool x10] 1)) (0 + n + 1) = checkF x1 (finO (rdO fx0 n ++ [⟨x3, x4, x5, x6, x7, x8, 0, x10⟩])) (n + 1) := by
    rw [checkV_eq, show 0 + n + 1 = n + 1 by omega]; exact check_c withA
  have C1 : checkV x1 (fjoin (fun p_ q_ => fx0 (0 + (0 + p_ - 0)) q_) (0 + n) (rowsOf 8 (List.take (1 * 8) (List.drop 0 [.int .u64 x3, .bool x4, .int .u32 x5, .int .u32 x6, .str x7, .int .i64 x8, .int .i64 0, .bool x10])) 1)) (0 + n + 1) = checkF x1 (finO (rdO fx0 n ++ [⟨x3, x4, x5, x6, x7, x8, 0, x10⟩])) (n + 1) := C0
  have hb : Nat.ble (0 + n + 1) (0 + n) = false := ble_f (by omega)
  have end_ : ∀ b : Bool, b = gF x1 (finO (rdO fx0 n ++ [⟨x3, x4, x5, x6, x7, x8, 0, x10⟩])) (n + 1) → b = true → checkF x1 (finO (rdO fx0 n ++ [⟨x3, x4, x5, x6, x7, x8, 0, x10⟩])) (n + 1) = true := fun b h1 h2 => with_ok rfl hc' (h1.symm.trans h2)
  rw [ix0, R1, G0, C0, C1, hb] at e
  have fin : (cond (gF x1 (finO (rdO fx0 n ++ [⟨x3, x4, x5, x6, x7, x8, 0, x10⟩])) (n + 1)) (cond (checkF x1 (finO (rdO fx0 n ++ [⟨x3, x4, x5, x6, x7, x8, 0, x10⟩])) (n + 1)) (cond (checkF x1 (finO (rdO fx0 n ++ [⟨x3, x4, x5, x6, x7, x8, 0, x10⟩])) (n + 1)) (some true) (some false)) (cond (checkF x1 (finO (rdO fx0 n ++ [⟨x3, x4, x5, x6, x7, x8, 0, x10⟩])) (n + 1)) none (some false))) (some true)) = some true := by
    cases hg : gF x1 (finO (rdO fx0 n ++ [⟨x3, x4, x5, x6, x7, x8, 0, x10⟩])) (n + 1) with
    | false => rfl
    | true => rw [with_ok rfl hc' hg]; rfl
  cases hwr : (fx0 i 1).toB with
  | true =>
    rw [hwr] at e
    exact e.trans fin
  | false =>
    have hm : (0 + (Int.toNat (i : Int) - 0) + (n - Int.toNat (IntKind.wrap IntKind.i64 ((i : Int) + 1)))) = n - 1 := by rw [hI1, Int.toNat_natCast]; omega
    have ho : ∀ j, j < (0 + (Int.toNat (i : Int) - 0) + (n - Int.toNat (IntKind.wrap IntKind.i64 ((i : Int) + 1)))) → opAt (fover (fjoin (rowsOf 8 [] 0) 0 (fun p_ q_ => fx0 (0 + 0 + p_) q_)) (0 + (0 + (Int.toNat (i : Int) - 0))) (n - Int.toNat (IntKind.wrap IntKind.i64 ((i : Int) + 1))) (fun p_ q_ => fx0 (0 + Int.toNat (IntKind.wrap IntKind.i64 ((i : Int) + 1)) + p_) q_)) j = opAt (woA fx0 i) j := fun j hj => by rw [hI1, show n - (i + 1) = 0 by omega]; exact woC (by omega)
    have R2 : rngV (fover (fjoin (rowsOf 8 [] 0) 0 (fun p_ q_ => fx0 (0 + 0 + p_) q_)) (0 + (0 + (Int.toNat (i : Int) - 0))) (n - Int.toNat (IntKind.wrap IntKind.i64 ((i : Int) + 1))) (fun p_ q_ => fx0 (0 + Int.toNat (IntKind.wrap IntKind.i64 ((i : Int) + 1)) + p_) q_)) (0 + (Int.toNat (i : Int) - 0) + (n - Int.toNat (IntKind.wrap IntKind.i64 ((i : Int) + 1)))) = true := by
      rw [rng_c ho, hm]; exact rng_wo hi hr
    have C2 : checkV x1 (fover (fjoin (rowsOf 8 (List.take (0 * 8) (List.drop 0 (rep 0 [AV.int IntKind.u64 (Int.ofNat 0), AV.bool false, AV.int IntKind.u32 (Int.ofNat 0), AV.int IntKind.u32 (Int.ofNat 0), AV.str [], AV.int IntKind.i64 (Int.ofNat 0), AV.int IntKind.i64 (Int.ofNat 0), AV.bool false]))) 0) 0 (fun p_ q_ => fx0 (0 + 0 + p_) q_)) (0 + (0 + (Int.toNat (i : Int) - 0))) (n - Int.toNat (IntKind.wrap IntKind.i64 ((i : Int) + 1))) (fun p_ q_ => fx0 (0 + Int.toNat (IntKind.wrap IntKind.i64 ((i : Int) + 1)) + p_) q_)) (0 + (Int.toNat (i : Int) - 0) + (n - Int.toNat (IntKind.wrap IntKind.i64 ((i : Int) + 1)))) = true := by
      rw [checkV_eq]
      refine (check_c (g' := woA fx0 i) ho).trans ?_
      rw [hm]; exact without_ok hi hwr hc'
    rw [hwr, R2, C2] at e
    exact e.trans fin
theorem caseD (n i : Nat) (fx0 : Nat → Nat → AV) (x1 x3 : Int) (x4 : Bool) (x5 x6 : Int) (x7 : List Nat) (x8 x9 : Int) (x10 : Bool) (hi : i < n) (hz : 0 < i ∧ i + 1 < n) (hn : n ≤ 8) (hok : okNV n = true) (hlt : (okLV fx0 n && decide ((n : Int) ≤ 20)) = true) (hr : rngV fx0 n = true) (hc : checkV x1 fx0 n = true)
    (hW : rngV (finO (rdO fx0 n ++ [⟨x3, x4, x5, x6, x7, x8, 0, x10⟩])) (n + 1) = true) : kD n i fx0 x1 x3 x4 x5 x6 x7 x8 x9 x10 kD_p = some true := by
  have hw : IntKind.wrap IntKind.i64 ((i : Int) + 1) = ((i + 1 : Nat) : Int) := wrap_i64s (by omega)
  have hI1 : Int.toNat (IntKind.wrap IntKind.i64 ((i : Int) + 1)) = i + 1 := by rw [hw, Int.toNat_natCast]
  have hc' : checkF x1 fx0 n = true := by rw [← checkV_eq]; exact hc
  have e := kD_eq n i fx0 x1 x3 x4 x5 x6 x7 x8 x9 x10 hok hlt (decide_eq_false (by omega)) (decide_eq_false (by omega)) hr hc hr (ble_t (show i ≤ n by omega)) (by rw [hI1]; exact ble_t (by omega)) (decide_eq_true (by rw [hw]; omega)) (by rw [hI1]; exact ble_t (by omega)) (lt1 hi) (by rw [ix0]; exact blt_t hi) (ble_f (by omega)) (grow64 (by omega)) (ble_t (by omega)) (grow64 (by omega)) (ble_t (by omega)) (ble_t (show 0 + 0 + (i - 0) ≤ n by omega)) (ble_f (show ¬ 0 + (i - 0) ≤ 0 by omega)) (grow64 (show 0 + (i - 0) ≤ 2000000 by omega)) (by rw [hI1]; exact ble_f (show ¬ 0 + (i - 0) + (n - (i + 1)) ≤ 0 + (i - 0) by omega)) (by rw [hI1]; exact grow64 (show 0 + (i - 0) + (n - (i + 1)) ≤ 2000000 by omega)) (ble_t (show 0 + (0 + (i - 0)) ≤ 0 + (i - 0) by omega))
  have R1 : rngV (fjoin (fun p_ q_ => fx0 (0 + (0 + p_ - 0)) q_) (0 + n) (rowsOf 8 [.int .u64 x3, .bool x4, .int .u32 x5, .int .u32 x6, .str x7, .int .i64 x8, .int .i64 0, .bool x10] 1)) (0 + n + 1) = true := by
    rw [show 0 + n + 1 = n + 1 by omega, ← hW]; exact rng_c withA
  have G0 : gV x1 (fjoin (fun p_ q_ => fx0 (0 + (0 + p_ - 0)) q_) (0 + n) (rowsOf 8 (List.take (1 * 8) (List.drop 0 [.int .u64 x3, .bool x4, .int .u32 x5, .int .u32 x6, .str x7, .int .i64 x8, .int .i64 0, .bool x10])) 1)) (0 + n + 1) = gF x1 (finO (rdO fx0 n ++ [⟨x3, x4, x5, x6, x7, x8, 0, x10⟩])) (n + 1) := by
    rw [gV_eq, show 0 + n + 1 = n + 1 by omega]; exact good_c withA
  have C0 : checkV x1 (fjoin (fun p_ q_ => fx0 (0 + (0 + p_ - 0)) q_) (0 + n) (rowsOf 8 [.int .u64 x3, .bool x4, .int .u32 x5, .int .u32 x6, .str x7, .int .i64 x8, .int .i64 0, .bool x10] 1)) (0 + n + 1) = checkF x1 (finO (rdO fx0 n ++ [⟨x3, x4, x5, x6, x7, x8, 0, x10⟩])) (n + 1) := by
    rw [checkV_eq, show 0 + n + 1 = n + 1 by omega]; exact check_c withA
  have C1 : checkV x1 (fjoin (fun p_ q_ => fx0 (0 + (0 + p_ - 0)) q_) (0 + n) (rowsOf 8 (List.take (1 * 8) (List.drop 0 [.int .u64 x3, .bool x4, .int .u32 x5, .int .u32 x6, .str x7, .int .i64 x8, .int .i64 0, .bool x10])) 1)) (0 + n + 1) = checkF x1 (finO (rdO fx0 n ++ [⟨x3, x4, x5, x6, x7, x8, 0, x10⟩])) (n + 1) := C0
  have hb : Nat.ble (0 + n + 1) (0 + n) = false := ble_f (by omega)
  have end_ : ∀ b : Bool, b = gF x1 (finO (rdO fx0 n ++ [⟨x3, x4, x5, x6, x7, x8, 0, x10⟩])) (n + 1) → b = true → checkF x1 (finO (rdO fx0 n ++ [⟨x3, x4, x5, x6, x7, x8, 0, x10⟩])) (n + 1) = true := fun b h1 h2 => with_ok rfl hc' (h1.symm.trans h2)
  rw [ix0, R1, G0, C0, C1, hb] at e
  have fin : (cond (gF x1 (finO (rdO fx0 n ++ [⟨x3, x4, x5, x6, x7, x8, 0, x10⟩])) (n + 1)) (cond (checkF x1 (finO (rdO fx0 n ++ [⟨x3, x4, x5, x6, x7, x8, 0, x10⟩])) (n + 1)) (cond (checkF x1 (finO (rdO fx0 n ++ [⟨x3, x4, x5, x6, x7, x8, 0, x10⟩])) (n + 1)) (some true) (some false)) (cond (checkF x1 (finO (rdO fx0 n ++ [⟨x3, x4, x5, x6, x7, x8, 0, x10⟩])) (n + 1)) none (some false))) (some true)) = some true := by
    cases hg : gF x1 (finO (rdO fx0 n ++ [⟨x3, x4, x5, x6, x7, x8, 0, x10⟩])) (n + 1) with
    | false => rfl
    | true => rw [with_ok rfl hc' hg]; rfl
  cases hwr : (fx0 i 1).toB with
  | true =>
    rw [hwr] at e
    exact e.trans fin
  | false =>
    have hm : (0 + (Int.toNat (i : Int) - 0) + (n - Int.toNat (IntKind.wrap IntKind.i64 ((i : Int) + 1)))) = n - 1 := by rw [hI1, Int.toNat_natCast]; omega
    have ho : ∀ j, j < (0 + (Int.toNat (i : Int) - 0) + (n - Int.toNat (IntKind.wrap IntKind.i64 ((i : Int) + 1)))) → opAt (fjoin (fun p_ q_ => fjoin (rowsOf 8 [] 0) 0 (fun p_ q_ => fx0 (0 + 0 + p_) q_) (0 + p_) q_) (0 + (Int.toNat (i : Int) - 0)) (fun p_ q_ => fx0 (0 + Int.toNat (IntKind.wrap IntKind.i64 ((i : Int) + 1)) + p_) q_)) j = opAt (woA fx0 i) j := fun j hj => by rw [hI1]; exact woD
    have R2 : rngV (fjoin (fun p_ q_ => fjoin (rowsOf 8 [] 0) 0 (fun p_ q_ => fx0 (0 + 0 + p_) q_) (0 + p_) q_) (0 + (Int.toNat (i : Int) - 0)) (fun p_ q_ => fx0 (0 + Int.toNat (IntKind.wrap IntKind.i64 ((i : Int) + 1)) + p_) q_)) (0 + (Int.toNat (i : Int) - 0) + (n - Int.toNat (IntKind.wrap IntKind.i64 ((i : Int) + 1)))) = true := by
      rw [rng_c ho, hm]; exact rng_wo hi hr
    have C2 : checkV x1 (fjoin (fun p_ q_ => fjoin (rowsOf 8 (List.take (0 * 8) (List.drop 0 (rep 0 [AV.int IntKind.u64 (Int.ofNat 0), AV.bool false, AV.int IntKind.u32 (Int.ofNat 0), AV.int IntKind.u32 (Int.ofNat 0), AV.str [], AV.int IntKind.i64 (Int.ofNat 0), AV.int IntKind.i64 (Int.ofNat 0), AV.bool false]))) 0) 0 (fun p_ q_ => fx0 (0 + 0 + p_) q_) (0 + p_) q_) (0 + (Int.toNat (i : Int) - 0)) (fun p_ q_ => fx0 (0 + Int.toNat (IntKind.wrap IntKind.i64 ((i : Int) + 1)) + p_) q_)) (0 + (Int.toNat (i : Int) - 0) + (n - Int.toNat (IntKind.wrap IntKind.i64 ((i : Int) + 1)))) = true := by
      rw [checkV_eq]
      refine (check_c (g' := woA fx0 i) ho).trans ?_
      rw [hm]; exact without_ok hi hwr hc'
    rw [hwr, R2, C2] at e
    exact e.trans fin
theorem less_true (nlx0 : Bool) (x0 : Nat) (fx0 : Nat → Nat → AV) (x1 x2 x3 : Int) (x4 : Bool) (x5 x6 : Int) (x7 : List Nat) (x8 x9 : Int) (x10 : Bool) (hz : nlx0 = true → x0 = 0) (hl : x0 ≤ 9223372036854775807) (y : ∀ i, i < x0 → ∀ (j : Nat) s, shO[j]? = some s → Rng s (fx0 i j))
    (y5 : IntKind.min .u32 ≤ x5 ∧ x5 ≤ IntKind.max .u32) (y6 : IntKind.min .u32 ≤ x6 ∧ x6 ≤ IntKind.max .u32) :
    ∃ π, lawT EL 3000 4 [.osl nlx0 0 0 x0 x0 8 true, .int .u32 x1, .int .i64 x2, .agg [.int .u64 x3, .bool x4, .int .u32 x5, .int .u32 x6, .str x7, .int .i64 x8, .int .i64 x9, .bool x10]] [some (.tarr shO x0 fx0 false)] π = some true := by
  have hok : okNV x0 = true := by rw [okNV_eq]; exact decide_eq_true hl
  have hr : rngV fx0 x0 = true := by
    rw [rngV_eq]
    refine okFrom_iff.2 fun i hi => ?_
    rw [Nat.zero_add]
    have h2 := y i hi 2 _ rfl
    have h3 := y i hi 3 _ rfl
    show (decide (0 ≤ (fx0 i 2).toI) && decide ((fx0 i 2).toI < 4294967296) && decide (0 ≤ (fx0 i 3).toI) && decide ((fx0 i 3).toI < 4294967296)) = true
    rw [decide_eq_true (show 0 ≤ (fx0 i 2).toI from h2.1), decide_eq_true (show 0 ≤ (fx0 i 3).toI from h3.1), decide_eq_true (show (fx0 i 2).toI < 4294967296 from Int.lt_of_le_of_lt h2.2 (by decide)), decide_eq_true (show (fx0 i 3).toI < 4294967296 from Int.lt_of_le_of_lt h3.2 (by decide))]
    rfl
  cases hlt : (okLV fx0 x0 && decide ((x0 : Int) ≤ 20)) with
  | false => exact ⟨kf_p, kf_eq nlx0 x0 fx0 x1 x2 x3 x4 x5 x6 x7 x8 x9 x10 hok hlt⟩
  | true =>
    cases h8 : decide ((x0 : Int) > 8) with
    | true => exact ⟨kg_p, kg_eq nlx0 x0 fx0 x1 x2 x3 x4 x5 x6 x7 x8 x9 x10 hok hlt h8⟩
    | false =>
      cases h0 : decide (x2 < 0) with
      | true => exact ⟨kh_p, kh_eq nlx0 x0 fx0 x1 x2 x3 x4 x5 x6 x7 x8 x9 x10 hok hlt h8 h0⟩
      | false =>
        cases hge : decide (x2 ≥ (x0 : Int)) with
        | true => exact ⟨ki_p, ki_eq nlx0 x0 fx0 x1 x2 x3 x4 x5 x6 x7 x8 x9 x10 hok hlt h8 h0 hge⟩
        | false =>
          cases hc : checkV x1 fx0 x0 with
          | false => exact ⟨ke_p, ke_eq nlx0 x0 fx0 x1 x2 x3 x4 x5 x6 x7 x8 x9 x10 hok hlt h8 h0 hge hr hc⟩
          | true =>
            have h8 := of_decide_eq_false h8
            have h0 := of_decide_eq_false h0
            have hge := of_decide_eq_false hge
            obtain ⟨i, rfl⟩ := Int.eq_ofNat_of_zero_le (show 0 ≤ x2 by omega)
            have hi : i < x0 := by
              have : ¬ ((i : Int) ≥ (x0 : Int)) := hge
              omega
            have hnl : nlx0 = false := by
              cases nlx0 with
              | false => rfl
              | true => have := hz rfl; omega
            subst hnl
            have hW : rngV (finO (rdO fx0 x0 ++ [⟨x3, x4, x5, x6, x7, x8, 0, x10⟩])) (x0 + 1) = true := by
              rw [rngV_eq] at hr ⊢
              refine okFrom_iff.2 fun k hk => ?_
              rw [Nat.zero_add, opAt_fin]
              by_cases hkl : k < x0
              · have := okFrom_iff.1 hr k hkl
                rw [Nat.zero_add] at this
                rw [getD_app, if_pos (by rw [rdO_len]; exact hkl), rdO_at hkl]
                exact this
              · rw [getD_app, if_neg (by rw [rdO_len]; exact hkl), rdO_len, show k - x0 = 0 by omega]
                show (decide (0 ≤ x5) && decide (x5 < 4294967296) && decide (0 ≤ x6) && decide (x6 < 4294967296)) = true
                rw [decide_eq_true (show 0 ≤ x5 from y5.1), decide_eq_true (show 0 ≤ x6 from y6.1), decide_eq_true (show x5 < 4294967296 from Int.lt_of_le_of_lt y5.2 (by decide)), decide_eq_true (show x6 < 4294967296 from Int.lt_of_le_of_lt y6.2 (by decide))]
                rfl
            have hn : x0 ≤ 8 := by omega
            by_cases hi0 : i = 0
            · by_cases hn1 : x0 = 1
              · exact ⟨kA_p, caseA x0 i fx0 x1 x3 x4 x5 x6 x7 x8 x9 x10 hi ⟨hi0, hn1⟩ hn hok hlt hr hc hW⟩
              · exact ⟨kB_p, caseB x0 i fx0 x1 x3 x4 x5 x6 x7 x8 x9 x10 hi ⟨hi0, by omega⟩ hn hok hlt hr hc hW⟩
            · by_cases hn1 : x0 = i + 1
              · exact ⟨kC_p, caseC x0 i fx0 x1 x3 x4 x5 x6 x7 x8 x9 x10 hi ⟨by omega, hn1⟩ hn hok hlt hr hc hW⟩
              · exact ⟨kD_p, caseD x0 i fx0 x1 x3 x4 x5 x6 x7 x8 x9 x10 hi ⟨by omega, by omega⟩ hn hok hlt hr hc hW⟩
theorem qEL : Bm.Good Try.prog EL := qED.addF (lives_ok (m := 20000) q1 (by kernel_rfl))

theorem own : ownKnob Try.prog.godebug = none := by kernel_rfl
theorem laidOut : laidOutB Try.prog = true := by kernel_rfl
theorem readable : ((Try.f4.params.toList).all fun t => Try.prog.readableRec t && Nat.blt t Try.prog.types.size) = true := by kernel_rfl
theorem fits : argsIs Try.prog [.one (.sl shO), .one (.one (.int .u32)), .one (.one (.int .i64)), .st [.one (.int .u64), .one .bool, .one (.int .u32), .one (.int .u32), .one .str, .one (.int .i64), .one (.int .i64), .one .bool]] Try.f4.params.toList = true := by kernel_rfl
set_option maxRecDepth 100000 in
theorem walk {H : Type} {enc : TypeId × Value → H} (W : World) (args : Array Value) (base : Nat) (ds : List (DataW H)) (p : List MemPlace) (hA : DataW.TrodAll enc Try.prog W 0 (fun _ => true) true Try.f4.params.toList args.toList ds p)
    (hval : ∀ (j : Nat) t v, Try.f4.params[j]? = some t → args[j]? = some v → Value.okWide Try.prog W .any base t v) : Calls Try.prog 4 args W fun e W' => e = .returned (.bool true) ∧ Below W.heap.size W W' := by
    obtain ⟨xs, os1, φ', hI, _, h3, h4⟩ := args_ok (base := base) (P := Try.prog) (fun _ => rfl) fits hA (fun j t v h1 h2 => hval j t v (by rw [← Array.getElem?_toList]; exact h1) (by rw [← Array.getElem?_toList]; exact h2)) (RO.nil W)
    obtain ⟨_, _, _, _, rfl, rfl, ⟨nlx0, x0, fx0, rfl, rfl, hnx0, hlx0, y0⟩, hI⟩ := hI
    obtain ⟨_, _, _, _, rfl, rfl, ⟨⟨x1, rfl, y1⟩, rfl⟩, hI⟩ := hI
    obtain ⟨_, _, _, _, rfl, rfl, ⟨⟨x2, rfl, y2⟩, rfl⟩, hI⟩ := hI
    obtain ⟨_, _, _, _, rfl, rfl, ⟨_, rfl, hs3⟩, hI⟩ := hI
    obtain ⟨_, _, _, _, rfl, rfl, ⟨⟨x3, rfl, y3⟩, rfl⟩, hs3⟩ := hs3
    obtain ⟨_, _, _, _, rfl, rfl, ⟨⟨x4, rfl⟩, rfl⟩, hs3⟩ := hs3
    obtain ⟨_, _, _, _, rfl, rfl, ⟨⟨x5, rfl, y5⟩, rfl⟩, hs3⟩ := hs3
    obtain ⟨_, _, _, _, rfl, rfl, ⟨⟨x6, rfl, y6⟩, rfl⟩, hs3⟩ := hs3
    obtain ⟨_, _, _, _, rfl, rfl, ⟨⟨x7, rfl, y7⟩, rfl⟩, hs3⟩ := hs3
    obtain ⟨_, _, _, _, rfl, rfl, ⟨⟨x8, rfl, y8⟩, rfl⟩, hs3⟩ := hs3
    obtain ⟨_, _, _, _, rfl, rfl, ⟨⟨x9, rfl, y9⟩, rfl⟩, hs3⟩ := hs3
    obtain ⟨_, _, _, _, rfl, rfl, ⟨⟨x10, rfl⟩, rfl⟩, hs3⟩ := hs3
    obtain ⟨rfl, rfl⟩ := hs3
    obtain ⟨rfl, rfl⟩ := hI
    have hl := Classical.choose_spec (less_true nlx0 x0 fx0 x1 x2 x3 x4 x5 x6 x7 x8 x9 x10 hnx0 hlx0 y0 y5 y6)
    have := law_T qEL h4.rel h3 hl
    simpa using this
set_option maxRecDepth 100000 in
theorem lifted (os : Os) (started : os.Started) (H : Type) (enc : TypeId × Value → H) :
    ReturnsInHanded {} Try.checked os 4 .any (Rows.historyLessSpec.pre6 enc Try.prog Try.f4 Rows.historyLessRow.domain false) (Rows.historyLessSpec.post enc Try.prog Try.f4 false true false false) := by
  refine returnsInHanded_of_change_sized (C := Try.checked) own started (by kernel_rfl) Try.func4
    (ChangeSpec.witness6 (enc := enc) (C := Try.checked) false ⟨#[], #[.slice none 0 0, .int .u32 0, .int .i64 0, .agg #[.int .u64 0, .bool false, .int .u32 0, .int .u32 0, .string ⟨#[]⟩, .int .i64 0, .int .i64 0, .bool false]], []⟩ 8 (by kernel_rfl) (by kernel_rfl) (by kernel_rfl) (by kernel_rfl)) ?_
  intro W base args ds gs before hval0 hW hcnd hsz0 _
  have hW' := hW
  obtain ⟨p, q, hA0, hV, rfl, hfz, hnd⟩ := hW
  have hA : DataW.TrodAll enc Try.prog W 0 (fun _ => true) true Try.f4.params.toList args.toList ds p := hA0
  obtain ⟨rfl, rfl⟩ := trodVars_none hV
  obtain ⟨d1, d2, d3, d4, rfl⟩ : ∃ d1 d2 d3 d4, ds = [d1, d2, d3, d4] := by
    have hA := hA
    obtain ⟨_, _, d1, ds1, _, _, _, rfl, _, _, hA⟩ := trodAll_cons hA
    obtain ⟨_, _, d2, ds2, _, _, _, rfl, _, _, hA⟩ := trodAll_cons hA
    obtain ⟨_, _, d3, ds3, _, _, _, rfl, _, _, hA⟩ := trodAll_cons hA
    obtain ⟨_, _, d4, ds4, _, _, _, rfl, _, _, hA⟩ := trodAll_cons hA
    obtain ⟨_, rfl, _⟩ := trodAll_nil hA
    exact ⟨d1, d2, d3, d4, rfl⟩
  refine (walk W args base _ p hA hval0).mono fun e W' ⟨he, bel⟩ => ?_
  subst he
  exact ⟨_, rfl, _, _, _, [], _, [], hW', trodAll_mk1 (shut_bool Try.underlying4 _), trods_below (ts := []) laidOut bel readable hA, rfl, bel.frame _, fun h => by cases h⟩
theorem over : Rows.historyLessRow.holds Try.pinned (OpenSpec.ofChange Rows.historyLessSpec) :=
  OpenClaim.holds_of_wide 4 Try.f4 rfl rfl rfl rfl rfl rfl rfl ⟨rfl, rfl, rfl, rfl, rfl⟩ rfl rfl rfl rfl rfl (by kernel_rfl) Try.func4 (by kernel_rfl)
    (of_decide_eq_true (by kernel_rfl)) (by unfold Func.isWrapper; first | (rw [if_pos (by decide +kernel)]; kernel_rfl) | (rw [if_neg (by decide +kernel)]; exact ⟨rfl, rfl⟩))
    (fun os started H enc _ => lifted os started H enc)
theorem proved : Rows.HistoryLessSaid := over
#print axioms proved
end Go.Proofs.Ytmjmhpbncfjnpaa.historyLess
