/- Orders of a history: what the machine reckons, more. No condition. -/
import Derived.Test.YtbcilfbdbphjgaaWvA
import Derived.KernelRfl
set_option linter.unusedSimpArgs false
set_option linter.unusedVariables false
set_option maxRecDepth 20000
namespace Go.Proofs.Ytbcilfbdbphjgaa.witnessValid
open Go Go.RowKit Go.Proofs.Ytbcilfbdbphjgaa.Bm
noncomputable def s7 (nl : Bool) (n : Nat) (f : Nat → Nat → AV) (ol : Bool) (m : Nat) (g : Nat → Nat → AV) (s : List Nat) (i : Nat) (π : Plan) : Option (Nat × CS) := stepC (EE) (400) (loopC EE 7 0) (0) (h7) ((.normal, h7) :: x7) π (c7 nl n f ol m g s i)
def s7_p : Plan := (.fork (.reck 1 (.must true (.fork (.fork (.fork (.fork (.fork (.reck 1 (.fork (.fork (.fork (.fork (.must true (.fork (.fork (.must true (.must true (.must true (.must true (.must true (.reck 1 (.must true (.must true (.must true .stop))))))))) .stop) .stop)) .stop) .stop) .stop) .stop)) (.fork (.fork (.fork (.fork (.must true (.must true (.must true (.must true (.must true (.must true (.fork .stop .stop))))))) .stop) .stop) .stop) .stop)) .stop) .stop) .stop) .stop))) .stop)
theorem s7_is (nl : Bool) (n : Nat) (f : Nat → Nat → AV) (ol : Bool) (m : Nat) (g : Nat → Nat → AV) (s : List Nat) (i : Nat) : s7 nl n f ol m g s i s7_p = (cond (decide ((↑i : Int) < (↑m : Int)))
  (cond (decide ((↑i : Int) < (↑m : Int))) (cond (Nat.blt (0 + Int.toNat (↑i : Int)) m)
  (cond (decide (0 ≤ AV.toI (g (0 + Int.toNat (↑i : Int)) 0)))
  (cond (decide (AV.toI (g (0 + Int.toNat (↑i : Int)) 0) < (↑n : Int)))
  (cond (Nat.blt (0 + Int.toNat (AV.toI (g (0 + Int.toNat (↑i : Int)) 0))) n)
  (cond (AV.toB (f (0 + Int.toNat (AV.toI (g (0 + Int.toNat (↑i : Int)) 0))) (1)))
  (cond (Nat.ble (Int.toNat (IntKind.wrap IntKind.i64 (8 * IntKind.wrap IntKind.i64 (AV.toI (f (0 + Int.toNat (AV.toI (g (0 + Int.toNat (↑i : Int)) 0))) (2)))))) (List.length s))
  (cond (decide (0 ≤ IntKind.wrap IntKind.i64 (8 * IntKind.wrap IntKind.i64 (AV.toI (f (0 + Int.toNat (AV.toI (g (0 + Int.toNat (↑i : Int)) 0))) (2))))))
  (cond (Nat.ble (List.length (List.take (Int.toNat (IntKind.wrap IntKind.i64 (8 * IntKind.wrap IntKind.i64 (AV.toI (f (0 + Int.toNat (AV.toI (g (0 + Int.toNat (↑i : Int)) 0))) (2))))) - 0) (List.drop 0 s)) + List.length (AV.toS (f (0 + Int.toNat (AV.toI (g (0 + Int.toNat (↑i : Int)) 0))) (4)))) 140737488355328)
  (cond (Nat.ble (Int.toNat (IntKind.wrap IntKind.i64 (IntKind.wrap IntKind.i64 (8 * IntKind.wrap IntKind.i64 (AV.toI (f (0 + Int.toNat (AV.toI (g (0 + Int.toNat (↑i : Int)) 0))) (2)))) + IntKind.wrap IntKind.i64 (8 * IntKind.wrap IntKind.i64 (AV.toI (f (0 + Int.toNat (AV.toI (g (0 + Int.toNat (↑i : Int)) 0))) (3))))))) (List.length s))
  (cond (Nat.ble (List.length s) (List.length s)) (cond (decide (0 ≤ IntKind.wrap IntKind.i64 (IntKind.wrap IntKind.i64 (8 * IntKind.wrap IntKind.i64 (AV.toI (f (0 + Int.toNat (AV.toI (g (0 + Int.toNat (↑i : Int)) 0))) (2)))) + IntKind.wrap IntKind.i64 (8 * IntKind.wrap IntKind.i64 (AV.toI (f (0 + Int.toNat (AV.toI (g (0 + Int.toNat (↑i : Int)) 0))) (3)))))))
  (cond (Nat.ble (List.length (List.take (Int.toNat (IntKind.wrap IntKind.i64 (8 * IntKind.wrap IntKind.i64 (AV.toI (f (0 + Int.toNat (AV.toI (g (0 + Int.toNat (↑i : Int)) 0))) (2))))) - 0) (List.drop 0 s) ++ AV.toS (f (0 + Int.toNat (AV.toI (g (0 + Int.toNat (↑i : Int)) 0))) (4))) + List.length (List.take (List.length s - Int.toNat (IntKind.wrap IntKind.i64 (IntKind.wrap IntKind.i64 (8 * IntKind.wrap IntKind.i64 (AV.toI (f (0 + Int.toNat (AV.toI (g (0 + Int.toNat (↑i : Int)) 0))) (2)))) + IntKind.wrap IntKind.i64 (8 * IntKind.wrap IntKind.i64 (AV.toI (f (0 + Int.toNat (AV.toI (g (0 + Int.toNat (↑i : Int)) 0))) (3))))))) (List.drop (Int.toNat (IntKind.wrap IntKind.i64 (IntKind.wrap IntKind.i64 (8 * IntKind.wrap IntKind.i64 (AV.toI (f (0 + Int.toNat (AV.toI (g (0 + Int.toNat (↑i : Int)) 0))) (2)))) + IntKind.wrap IntKind.i64 (8 * IntKind.wrap IntKind.i64 (AV.toI (f (0 + Int.toNat (AV.toI (g (0 + Int.toNat (↑i : Int)) 0))) (3))))))) s))) 140737488355328)
  (cond (Nat.ble (Int.toNat (IntKind.wrap IntKind.i64 (IntKind.wrap IntKind.i64 (8 * IntKind.wrap IntKind.i64 (AV.toI (f (0 + Int.toNat (AV.toI (g (0 + Int.toNat (↑i : Int)) 0))) (2)))) + IntKind.wrap IntKind.i64 (8 * IntKind.wrap IntKind.i64 (AV.toI (f (0 + Int.toNat (AV.toI (g (0 + Int.toNat (↑i : Int)) 0))) (3))))))) (List.length s)) (cond (Nat.ble (List.length s) (List.length s)) (cond (decide (0 ≤ IntKind.wrap IntKind.i64 (IntKind.wrap IntKind.i64 (8 * IntKind.wrap IntKind.i64 (AV.toI (f (0 + Int.toNat (AV.toI (g (0 + Int.toNat (↑i : Int)) 0))) (2)))) + IntKind.wrap IntKind.i64 (8 * IntKind.wrap IntKind.i64 (AV.toI (f (0 + Int.toNat (AV.toI (g (0 + Int.toNat (↑i : Int)) 0))) (3))))))) (cond (List.take (List.length s - Int.toNat (IntKind.wrap IntKind.i64 (IntKind.wrap IntKind.i64 (8 * IntKind.wrap IntKind.i64 (AV.toI (f (0 + Int.toNat (AV.toI (g (0 + Int.toNat (↑i : Int)) 0))) (2)))) + IntKind.wrap IntKind.i64 (8 * IntKind.wrap IntKind.i64 (AV.toI (f (0 + Int.toNat (AV.toI (g (0 + Int.toNat (↑i : Int)) 0))) (3))))))) (List.drop (Int.toNat (IntKind.wrap IntKind.i64 (IntKind.wrap IntKind.i64 (8 * IntKind.wrap IntKind.i64 (AV.toI (f (0 + Int.toNat (AV.toI (g (0 + Int.toNat (↑i : Int)) 0))) (2)))) + IntKind.wrap IntKind.i64 (8 * IntKind.wrap IntKind.i64 (AV.toI (f (0 + Int.toNat (AV.toI (g (0 + Int.toNat (↑i : Int)) 0))) (3))))))) s) == List.take (List.length s - Int.toNat (IntKind.wrap IntKind.i64 (IntKind.wrap IntKind.i64 (8 * IntKind.wrap IntKind.i64 (AV.toI (f (0 + Int.toNat (AV.toI (g (0 + Int.toNat (↑i : Int)) 0))) (2)))) + IntKind.wrap IntKind.i64 (8 * IntKind.wrap IntKind.i64 (AV.toI (f (0 + Int.toNat (AV.toI (g (0 + Int.toNat (↑i : Int)) 0))) (3))))))) (List.drop (Int.toNat (IntKind.wrap IntKind.i64 (IntKind.wrap IntKind.i64 (8 * IntKind.wrap IntKind.i64 (AV.toI (f (0 + Int.toNat (AV.toI (g (0 + Int.toNat (↑i : Int)) 0))) (2)))) + IntKind.wrap IntKind.i64 (8 * IntKind.wrap IntKind.i64 (AV.toI (f (0 + Int.toNat (AV.toI (g (0 + Int.toNat (↑i : Int)) 0))) (3))))))) s)) (cond (AV.toS (f (0 + Int.toNat (AV.toI (g (0 + Int.toNat (↑i : Int)) 0))) (4)) == AV.toS (f (0 + Int.toNat (AV.toI (g (0 + Int.toNat (↑i : Int)) 0))) (4))) (cond (Nat.ble (Int.toNat (IntKind.wrap IntKind.i64 (8 * IntKind.wrap IntKind.i64 (AV.toI (f (0 + Int.toNat (AV.toI (g (0 + Int.toNat (↑i : Int)) 0))) (2)))))) (List.length s)) (cond (decide (0 ≤ IntKind.wrap IntKind.i64 (8 * IntKind.wrap IntKind.i64 (AV.toI (f (0 + Int.toNat (AV.toI (g (0 + Int.toNat (↑i : Int)) 0))) (2)))))) (cond (List.take (Int.toNat (IntKind.wrap IntKind.i64 (8 * IntKind.wrap IntKind.i64 (AV.toI (f (0 + Int.toNat (AV.toI (g (0 + Int.toNat (↑i : Int)) 0))) (2))))) - 0) (List.drop 0 s) == List.take (Int.toNat (IntKind.wrap IntKind.i64 (8 * IntKind.wrap IntKind.i64 (AV.toI (f (0 + Int.toNat (AV.toI (g (0 + Int.toNat (↑i : Int)) 0))) (2))))) - 0) (List.drop 0 s)) (some (0, (CS.mk [(AV.osl (nl) (0) (0) (n) (n) (8) (true)), (AV.osl (ol) (1) (0) (m) (m) (1) (true)), (AV.str (List.take (Int.toNat (IntKind.wrap IntKind.i64 (8 * IntKind.wrap IntKind.i64 (AV.toI (f (0 + Int.toNat (AV.toI (g (0 + Int.toNat (↑i : Int)) 0))) (2))))) - 0) (List.drop 0 s) ++ AV.toS (f (0 + Int.toNat (AV.toI (g (0 + Int.toNat (↑i : Int)) 0))) (4)) ++ List.take (List.length s - Int.toNat (IntKind.wrap IntKind.i64 (IntKind.wrap IntKind.i64 (8 * IntKind.wrap IntKind.i64 (AV.toI (f (0 + Int.toNat (AV.toI (g (0 + Int.toNat (↑i : Int)) 0))) (2)))) + IntKind.wrap IntKind.i64 (8 * IntKind.wrap IntKind.i64 (AV.toI (f (0 + Int.toNat (AV.toI (g (0 + Int.toNat (↑i : Int)) 0))) (3))))))) (List.drop (Int.toNat (IntKind.wrap IntKind.i64 (IntKind.wrap IntKind.i64 (8 * IntKind.wrap IntKind.i64 (AV.toI (f (0 + Int.toNat (AV.toI (g (0 + Int.toNat (↑i : Int)) 0))) (2)))) + IntKind.wrap IntKind.i64 (8 * IntKind.wrap IntKind.i64 (AV.toI (f (0 + Int.toNat (AV.toI (g (0 + Int.toNat (↑i : Int)) 0))) (3))))))) s))), (AV.int IntKind.i64 (IntKind.wrap IntKind.i64 ((↑i : Int) + 1)))] [some (AObj.tarr [Sh.int IntKind.u64, Sh.bool, Sh.int IntKind.u32, Sh.int IntKind.u32, Sh.str, Sh.int IntKind.i64, Sh.int IntKind.i64, Sh.bool] (n) f false), some (AObj.tarr [Sh.int IntKind.i64] (m) g false)]))) none) none) none) none) none) none) none) none)
  none)
  none) none)
  none)
  none)
  none)
  none)
  (cond (Nat.ble (Int.toNat (IntKind.wrap IntKind.i64 (8 * IntKind.wrap IntKind.i64 (AV.toI (f (0 + Int.toNat (AV.toI (g (0 + Int.toNat (↑i : Int)) 0))) (2)))))) (Int.toNat (IntKind.wrap IntKind.i64 (IntKind.wrap IntKind.i64 (8 * IntKind.wrap IntKind.i64 (AV.toI (f (0 + Int.toNat (AV.toI (g (0 + Int.toNat (↑i : Int)) 0))) (2)))) + IntKind.wrap IntKind.i64 (8 * IntKind.wrap IntKind.i64 (AV.toI (f (0 + Int.toNat (AV.toI (g (0 + Int.toNat (↑i : Int)) 0))) (3))))))))
  (cond (Nat.ble (Int.toNat (IntKind.wrap IntKind.i64 (IntKind.wrap IntKind.i64 (8 * IntKind.wrap IntKind.i64 (AV.toI (f (0 + Int.toNat (AV.toI (g (0 + Int.toNat (↑i : Int)) 0))) (2)))) + IntKind.wrap IntKind.i64 (8 * IntKind.wrap IntKind.i64 (AV.toI (f (0 + Int.toNat (AV.toI (g (0 + Int.toNat (↑i : Int)) 0))) (3))))))) (List.length s))
  (cond (decide (0 ≤ IntKind.wrap IntKind.i64 (8 * IntKind.wrap IntKind.i64 (AV.toI (f (0 + Int.toNat (AV.toI (g (0 + Int.toNat (↑i : Int)) 0))) (2))))))
  (cond (decide (0 ≤ IntKind.wrap IntKind.i64 (IntKind.wrap IntKind.i64 (8 * IntKind.wrap IntKind.i64 (AV.toI (f (0 + Int.toNat (AV.toI (g (0 + Int.toNat (↑i : Int)) 0))) (2)))) + IntKind.wrap IntKind.i64 (8 * IntKind.wrap IntKind.i64 (AV.toI (f (0 + Int.toNat (AV.toI (g (0 + Int.toNat (↑i : Int)) 0))) (3)))))))
  (cond (AV.toS (f (0 + Int.toNat (AV.toI (g (0 + Int.toNat (↑i : Int)) 0))) (4)) == AV.toS (f (0 + Int.toNat (AV.toI (g (0 + Int.toNat (↑i : Int)) 0))) (4))) (cond (Nat.ble (Int.toNat (IntKind.wrap IntKind.i64 (8 * IntKind.wrap IntKind.i64 (AV.toI (f (0 + Int.toNat (AV.toI (g (0 + Int.toNat (↑i : Int)) 0))) (2)))))) (Int.toNat (IntKind.wrap IntKind.i64 (IntKind.wrap IntKind.i64 (8 * IntKind.wrap IntKind.i64 (AV.toI (f (0 + Int.toNat (AV.toI (g (0 + Int.toNat (↑i : Int)) 0))) (2)))) + IntKind.wrap IntKind.i64 (8 * IntKind.wrap IntKind.i64 (AV.toI (f (0 + Int.toNat (AV.toI (g (0 + Int.toNat (↑i : Int)) 0))) (3)))))))) (cond (Nat.ble (Int.toNat (IntKind.wrap IntKind.i64 (IntKind.wrap IntKind.i64 (8 * IntKind.wrap IntKind.i64 (AV.toI (f (0 + Int.toNat (AV.toI (g (0 + Int.toNat (↑i : Int)) 0))) (2)))) + IntKind.wrap IntKind.i64 (8 * IntKind.wrap IntKind.i64 (AV.toI (f (0 + Int.toNat (AV.toI (g (0 + Int.toNat (↑i : Int)) 0))) (3))))))) (List.length s)) (cond (decide (0 ≤ IntKind.wrap IntKind.i64 (8 * IntKind.wrap IntKind.i64 (AV.toI (f (0 + Int.toNat (AV.toI (g (0 + Int.toNat (↑i : Int)) 0))) (2)))))) (cond (decide (0 ≤ IntKind.wrap IntKind.i64 (IntKind.wrap IntKind.i64 (8 * IntKind.wrap IntKind.i64 (AV.toI (f (0 + Int.toNat (AV.toI (g (0 + Int.toNat (↑i : Int)) 0))) (2)))) + IntKind.wrap IntKind.i64 (8 * IntKind.wrap IntKind.i64 (AV.toI (f (0 + Int.toNat (AV.toI (g (0 + Int.toNat (↑i : Int)) 0))) (3))))))) (cond (List.take (Int.toNat (IntKind.wrap IntKind.i64 (IntKind.wrap IntKind.i64 (8 * IntKind.wrap IntKind.i64 (AV.toI (f (0 + Int.toNat (AV.toI (g (0 + Int.toNat (↑i : Int)) 0))) (2)))) + IntKind.wrap IntKind.i64 (8 * IntKind.wrap IntKind.i64 (AV.toI (f (0 + Int.toNat (AV.toI (g (0 + Int.toNat (↑i : Int)) 0))) (3)))))) - Int.toNat (IntKind.wrap IntKind.i64 (8 * IntKind.wrap IntKind.i64 (AV.toI (f (0 + Int.toNat (AV.toI (g (0 + Int.toNat (↑i : Int)) 0))) (2)))))) (List.drop (Int.toNat (IntKind.wrap IntKind.i64 (8 * IntKind.wrap IntKind.i64 (AV.toI (f (0 + Int.toNat (AV.toI (g (0 + Int.toNat (↑i : Int)) 0))) (2)))))) s) == List.take (Int.toNat (IntKind.wrap IntKind.i64 (IntKind.wrap IntKind.i64 (8 * IntKind.wrap IntKind.i64 (AV.toI (f (0 + Int.toNat (AV.toI (g (0 + Int.toNat (↑i : Int)) 0))) (2)))) + IntKind.wrap IntKind.i64 (8 * IntKind.wrap IntKind.i64 (AV.toI (f (0 + Int.toNat (AV.toI (g (0 + Int.toNat (↑i : Int)) 0))) (3)))))) - Int.toNat (IntKind.wrap IntKind.i64 (8 * IntKind.wrap IntKind.i64 (AV.toI (f (0 + Int.toNat (AV.toI (g (0 + Int.toNat (↑i : Int)) 0))) (2)))))) (List.drop (Int.toNat (IntKind.wrap IntKind.i64 (8 * IntKind.wrap IntKind.i64 (AV.toI (f (0 + Int.toNat (AV.toI (g (0 + Int.toNat (↑i : Int)) 0))) (2)))))) s)) (cond (!List.take (Int.toNat (IntKind.wrap IntKind.i64 (IntKind.wrap IntKind.i64 (8 * IntKind.wrap IntKind.i64 (AV.toI (f (0 + Int.toNat (AV.toI (g (0 + Int.toNat (↑i : Int)) 0))) (2)))) + IntKind.wrap IntKind.i64 (8 * IntKind.wrap IntKind.i64 (AV.toI (f (0 + Int.toNat (AV.toI (g (0 + Int.toNat (↑i : Int)) 0))) (3)))))) - Int.toNat (IntKind.wrap IntKind.i64 (8 * IntKind.wrap IntKind.i64 (AV.toI (f (0 + Int.toNat (AV.toI (g (0 + Int.toNat (↑i : Int)) 0))) (2)))))) (List.drop (Int.toNat (IntKind.wrap IntKind.i64 (8 * IntKind.wrap IntKind.i64 (AV.toI (f (0 + Int.toNat (AV.toI (g (0 + Int.toNat (↑i : Int)) 0))) (2)))))) s) == AV.toS (f (0 + Int.toNat (AV.toI (g (0 + Int.toNat (↑i : Int)) 0))) (4)))
  (some (2, (CS.mk [(AV.str (bytesOf { data := #[] })), (AV.bool (false))] [])))
  (some (0, (CS.mk [(AV.osl (nl) (0) (0) (n) (n) (8) (true)), (AV.osl (ol) (1) (0) (m) (m) (1) (true)), (AV.str (s)), (AV.int IntKind.i64 (IntKind.wrap IntKind.i64 ((↑i : Int) + 1)))] [some (AObj.tarr [Sh.int IntKind.u64, Sh.bool, Sh.int IntKind.u32, Sh.int IntKind.u32, Sh.str, Sh.int IntKind.i64, Sh.int IntKind.i64, Sh.bool] (n) f false), some (AObj.tarr [Sh.int IntKind.i64] (m) g false)])))) none) none) none) none) none) none)
  none)
  none)
  none)
  none))
  none)
  none)
  none)
  none) none)
  (some (1, (CS.mk [(AV.str (s))] [])))) := by kernel_rfl
theorem s7_eq (nl : Bool) (n : Nat) (f : Nat → Nat → AV) (ol : Bool) (m : Nat) (g : Nat → Nat → AV) (s : List Nat) (i : Nat) : s7 nl n f ol m g s i s7_p = (cond (decide ((↑i : Int) < (↑m : Int)))
  (cond (Nat.blt (0 + Int.toNat (↑i : Int)) m)
  (cond (decide (0 ≤ AV.toI (g (0 + Int.toNat (↑i : Int)) 0)))
  (cond (decide (AV.toI (g (0 + Int.toNat (↑i : Int)) 0) < (↑n : Int)))
  (cond (Nat.blt (0 + Int.toNat (AV.toI (g (0 + Int.toNat (↑i : Int)) 0))) n)
  (cond (AV.toB (f (0 + Int.toNat (AV.toI (g (0 + Int.toNat (↑i : Int)) 0))) (1)))
  (cond (Nat.ble (Int.toNat (IntKind.wrap IntKind.i64 (8 * IntKind.wrap IntKind.i64 (AV.toI (f (0 + Int.toNat (AV.toI (g (0 + Int.toNat (↑i : Int)) 0))) (2)))))) (List.length s))
  (cond (decide (0 ≤ IntKind.wrap IntKind.i64 (8 * IntKind.wrap IntKind.i64 (AV.toI (f (0 + Int.toNat (AV.toI (g (0 + Int.toNat (↑i : Int)) 0))) (2))))))
  (cond (Nat.ble (List.length (List.take (Int.toNat (IntKind.wrap IntKind.i64 (8 * IntKind.wrap IntKind.i64 (AV.toI (f (0 + Int.toNat (AV.toI (g (0 + Int.toNat (↑i : Int)) 0))) (2))))) - 0) (List.drop 0 s)) + List.length (AV.toS (f (0 + Int.toNat (AV.toI (g (0 + Int.toNat (↑i : Int)) 0))) (4)))) 140737488355328)
  (cond (Nat.ble (Int.toNat (IntKind.wrap IntKind.i64 (IntKind.wrap IntKind.i64 (8 * IntKind.wrap IntKind.i64 (AV.toI (f (0 + Int.toNat (AV.toI (g (0 + Int.toNat (↑i : Int)) 0))) (2)))) + IntKind.wrap IntKind.i64 (8 * IntKind.wrap IntKind.i64 (AV.toI (f (0 + Int.toNat (AV.toI (g (0 + Int.toNat (↑i : Int)) 0))) (3))))))) (List.length s))
  (cond (decide (0 ≤ IntKind.wrap IntKind.i64 (IntKind.wrap IntKind.i64 (8 * IntKind.wrap IntKind.i64 (AV.toI (f (0 + Int.toNat (AV.toI (g (0 + Int.toNat (↑i : Int)) 0))) (2)))) + IntKind.wrap IntKind.i64 (8 * IntKind.wrap IntKind.i64 (AV.toI (f (0 + Int.toNat (AV.toI (g (0 + Int.toNat (↑i : Int)) 0))) (3)))))))
  (cond (Nat.ble (List.length (List.take (Int.toNat (IntKind.wrap IntKind.i64 (8 * IntKind.wrap IntKind.i64 (AV.toI (f (0 + Int.toNat (AV.toI (g (0 + Int.toNat (↑i : Int)) 0))) (2))))) - 0) (List.drop 0 s) ++ AV.toS (f (0 + Int.toNat (AV.toI (g (0 + Int.toNat (↑i : Int)) 0))) (4))) + List.length (List.take (List.length s - Int.toNat (IntKind.wrap IntKind.i64 (IntKind.wrap IntKind.i64 (8 * IntKind.wrap IntKind.i64 (AV.toI (f (0 + Int.toNat (AV.toI (g (0 + Int.toNat (↑i : Int)) 0))) (2)))) + IntKind.wrap IntKind.i64 (8 * IntKind.wrap IntKind.i64 (AV.toI (f (0 + Int.toNat (AV.toI (g (0 + Int.toNat (↑i : Int)) 0))) (3))))))) (List.drop (Int.toNat (IntKind.wrap IntKind.i64 (IntKind.wrap IntKind.i64 (8 * IntKind.wrap IntKind.i64 (AV.toI (f (0 + Int.toNat (AV.toI (g (0 + Int.toNat (↑i : Int)) 0))) (2)))) + IntKind.wrap IntKind.i64 (8 * IntKind.wrap IntKind.i64 (AV.toI (f (0 + Int.toNat (AV.toI (g (0 + Int.toNat (↑i : Int)) 0))) (3))))))) s))) 140737488355328)
  (some (0, (CS.mk [(AV.osl (nl) (0) (0) (n) (n) (8) (true)), (AV.osl (ol) (1) (0) (m) (m) (1) (true)), (AV.str (List.take (Int.toNat (IntKind.wrap IntKind.i64 (8 * IntKind.wrap IntKind.i64 (AV.toI (f (0 + Int.toNat (AV.toI (g (0 + Int.toNat (↑i : Int)) 0))) (2))))) - 0) (List.drop 0 s) ++ AV.toS (f (0 + Int.toNat (AV.toI (g (0 + Int.toNat (↑i : Int)) 0))) (4)) ++ List.take (List.length s - Int.toNat (IntKind.wrap IntKind.i64 (IntKind.wrap IntKind.i64 (8 * IntKind.wrap IntKind.i64 (AV.toI (f (0 + Int.toNat (AV.toI (g (0 + Int.toNat (↑i : Int)) 0))) (2)))) + IntKind.wrap IntKind.i64 (8 * IntKind.wrap IntKind.i64 (AV.toI (f (0 + Int.toNat (AV.toI (g (0 + Int.toNat (↑i : Int)) 0))) (3))))))) (List.drop (Int.toNat (IntKind.wrap IntKind.i64 (IntKind.wrap IntKind.i64 (8 * IntKind.wrap IntKind.i64 (AV.toI (f (0 + Int.toNat (AV.toI (g (0 + Int.toNat (↑i : Int)) 0))) (2)))) + IntKind.wrap IntKind.i64 (8 * IntKind.wrap IntKind.i64 (AV.toI (f (0 + Int.toNat (AV.toI (g (0 + Int.toNat (↑i : Int)) 0))) (3))))))) s))), (AV.int IntKind.i64 (IntKind.wrap IntKind.i64 ((↑i : Int) + 1)))] [some (AObj.tarr [Sh.int IntKind.u64, Sh.bool, Sh.int IntKind.u32, Sh.int IntKind.u32, Sh.str, Sh.int IntKind.i64, Sh.int IntKind.i64, Sh.bool] (n) f false), some (AObj.tarr [Sh.int IntKind.i64] (m) g false)])))
  none)
  none)
  none)
  none)
  none)
  none)
  (cond (Nat.ble (Int.toNat (IntKind.wrap IntKind.i64 (8 * IntKind.wrap IntKind.i64 (AV.toI (f (0 + Int.toNat (AV.toI (g (0 + Int.toNat (↑i : Int)) 0))) (2)))))) (Int.toNat (IntKind.wrap IntKind.i64 (IntKind.wrap IntKind.i64 (8 * IntKind.wrap IntKind.i64 (AV.toI (f (0 + Int.toNat (AV.toI (g (0 + Int.toNat (↑i : Int)) 0))) (2)))) + IntKind.wrap IntKind.i64 (8 * IntKind.wrap IntKind.i64 (AV.toI (f (0 + Int.toNat (AV.toI (g (0 + Int.toNat (↑i : Int)) 0))) (3))))))))
  (cond (Nat.ble (Int.toNat (IntKind.wrap IntKind.i64 (IntKind.wrap IntKind.i64 (8 * IntKind.wrap IntKind.i64 (AV.toI (f (0 + Int.toNat (AV.toI (g (0 + Int.toNat (↑i : Int)) 0))) (2)))) + IntKind.wrap IntKind.i64 (8 * IntKind.wrap IntKind.i64 (AV.toI (f (0 + Int.toNat (AV.toI (g (0 + Int.toNat (↑i : Int)) 0))) (3))))))) (List.length s))
  (cond (decide (0 ≤ IntKind.wrap IntKind.i64 (8 * IntKind.wrap IntKind.i64 (AV.toI (f (0 + Int.toNat (AV.toI (g (0 + Int.toNat (↑i : Int)) 0))) (2))))))
  (cond (decide (0 ≤ IntKind.wrap IntKind.i64 (IntKind.wrap IntKind.i64 (8 * IntKind.wrap IntKind.i64 (AV.toI (f (0 + Int.toNat (AV.toI (g (0 + Int.toNat (↑i : Int)) 0))) (2)))) + IntKind.wrap IntKind.i64 (8 * IntKind.wrap IntKind.i64 (AV.toI (f (0 + Int.toNat (AV.toI (g (0 + Int.toNat (↑i : Int)) 0))) (3)))))))
  (cond (List.take (Int.toNat (IntKind.wrap IntKind.i64 (IntKind.wrap IntKind.i64 (8 * IntKind.wrap IntKind.i64 (AV.toI (f (0 + Int.toNat (AV.toI (g (0 + Int.toNat (↑i : Int)) 0))) (2)))) + IntKind.wrap IntKind.i64 (8 * IntKind.wrap IntKind.i64 (AV.toI (f (0 + Int.toNat (AV.toI (g (0 + Int.toNat (↑i : Int)) 0))) (3)))))) - Int.toNat (IntKind.wrap IntKind.i64 (8 * IntKind.wrap IntKind.i64 (AV.toI (f (0 + Int.toNat (AV.toI (g (0 + Int.toNat (↑i : Int)) 0))) (2)))))) (List.drop (Int.toNat (IntKind.wrap IntKind.i64 (8 * IntKind.wrap IntKind.i64 (AV.toI (f (0 + Int.toNat (AV.toI (g (0 + Int.toNat (↑i : Int)) 0))) (2)))))) s) == AV.toS (f (0 + Int.toNat (AV.toI (g (0 + Int.toNat (↑i : Int)) 0))) (4)))
  (some (0, (CS.mk [(AV.osl (nl) (0) (0) (n) (n) (8) (true)), (AV.osl (ol) (1) (0) (m) (m) (1) (true)), (AV.str (s)), (AV.int IntKind.i64 (IntKind.wrap IntKind.i64 ((↑i : Int) + 1)))] [some (AObj.tarr [Sh.int IntKind.u64, Sh.bool, Sh.int IntKind.u32, Sh.int IntKind.u32, Sh.str, Sh.int IntKind.i64, Sh.int IntKind.i64, Sh.bool] (n) f false), some (AObj.tarr [Sh.int IntKind.i64] (m) g false)])))
  (some (2, (CS.mk [(AV.str (bytesOf { data := #[] })), (AV.bool (false))] []))))
  none)
  none)
  none)
  none))
  none)
  none)
  none)
  none)
  (some (1, (CS.mk [(AV.str (s))] [])))) := by
  rw [s7_is]
  try simp only [eq_self, decide_true, beq_self_eq_true, Nat.beq_refl, ble_self, Int.le_refl, Nat.le_refl]
  cases (decide ((↑i : Int) < (↑m : Int))) with
  | true =>
    cases (Nat.blt (0 + Int.toNat (↑i : Int)) m) with
    | true =>
      cases (decide (0 ≤ AV.toI (g (0 + Int.toNat (↑i : Int)) 0))) with
      | true =>
        cases (decide (AV.toI (g (0 + Int.toNat (↑i : Int)) 0) < (↑n : Int))) with
        | true =>
          cases (Nat.blt (0 + Int.toNat (AV.toI (g (0 + Int.toNat (↑i : Int)) 0))) n) with
          | true =>
            cases (AV.toB (f (0 + Int.toNat (AV.toI (g (0 + Int.toNat (↑i : Int)) 0))) (1))) with
            | true =>
              cases (Nat.ble (Int.toNat (IntKind.wrap IntKind.i64 (8 * IntKind.wrap IntKind.i64 (AV.toI (f (0 + Int.toNat (AV.toI (g (0 + Int.toNat (↑i : Int)) 0))) (2)))))) (List.length s)) with
              | true =>
                cases (decide (0 ≤ IntKind.wrap IntKind.i64 (8 * IntKind.wrap IntKind.i64 (AV.toI (f (0 + Int.toNat (AV.toI (g (0 + Int.toNat (↑i : Int)) 0))) (2)))))) with
                | true =>
                  cases (Nat.ble (List.length (List.take (Int.toNat (IntKind.wrap IntKind.i64 (8 * IntKind.wrap IntKind.i64 (AV.toI (f (0 + Int.toNat (AV.toI (g (0 + Int.toNat (↑i : Int)) 0))) (2))))) - 0) (List.drop 0 s)) + List.length (AV.toS (f (0 + Int.toNat (AV.toI (g (0 + Int.toNat (↑i : Int)) 0))) (4)))) 140737488355328) with
                  | true =>
                    cases (Nat.ble (Int.toNat (IntKind.wrap IntKind.i64 (IntKind.wrap IntKind.i64 (8 * IntKind.wrap IntKind.i64 (AV.toI (f (0 + Int.toNat (AV.toI (g (0 + Int.toNat (↑i : Int)) 0))) (2)))) + IntKind.wrap IntKind.i64 (8 * IntKind.wrap IntKind.i64 (AV.toI (f (0 + Int.toNat (AV.toI (g (0 + Int.toNat (↑i : Int)) 0))) (3))))))) (List.length s)) with
                    | true =>
                      cases (decide (0 ≤ IntKind.wrap IntKind.i64 (IntKind.wrap IntKind.i64 (8 * IntKind.wrap IntKind.i64 (AV.toI (f (0 + Int.toNat (AV.toI (g (0 + Int.toNat (↑i : Int)) 0))) (2)))) + IntKind.wrap IntKind.i64 (8 * IntKind.wrap IntKind.i64 (AV.toI (f (0 + Int.toNat (AV.toI (g (0 + Int.toNat (↑i : Int)) 0))) (3))))))) with
                      | true =>
                        cases (Nat.ble (List.length (List.take (Int.toNat (IntKind.wrap IntKind.i64 (8 * IntKind.wrap IntKind.i64 (AV.toI (f (0 + Int.toNat (AV.toI (g (0 + Int.toNat (↑i : Int)) 0))) (2))))) - 0) (List.drop 0 s) ++ AV.toS (f (0 + Int.toNat (AV.toI (g (0 + Int.toNat (↑i : Int)) 0))) (4))) + List.length (List.take (List.length s - Int.toNat (IntKind.wrap IntKind.i64 (IntKind.wrap IntKind.i64 (8 * IntKind.wrap IntKind.i64 (AV.toI (f (0 + Int.toNat (AV.toI (g (0 + Int.toNat (↑i : Int)) 0))) (2)))) + IntKind.wrap IntKind.i64 (8 * IntKind.wrap IntKind.i64 (AV.toI (f (0 + Int.toNat (AV.toI (g (0 + Int.toNat (↑i : Int)) 0))) (3))))))) (List.drop (Int.toNat (IntKind.wrap IntKind.i64 (IntKind.wrap IntKind.i64 (8 * IntKind.wrap IntKind.i64 (AV.toI (f (0 + Int.toNat (AV.toI (g (0 + Int.toNat (↑i : Int)) 0))) (2)))) + IntKind.wrap IntKind.i64 (8 * IntKind.wrap IntKind.i64 (AV.toI (f (0 + Int.toNat (AV.toI (g (0 + Int.toNat (↑i : Int)) 0))) (3))))))) s))) 140737488355328) with
                        | true =>
                          rfl
                        | false =>
                          rfl
                      | false =>
                        rfl
                    | false =>
                      rfl
                  | false =>
                    rfl
                | false =>
                  rfl
              | false =>
                rfl
            | false =>
              cases (Nat.ble (Int.toNat (IntKind.wrap IntKind.i64 (8 * IntKind.wrap IntKind.i64 (AV.toI (f (0 + Int.toNat (AV.toI (g (0 + Int.toNat (↑i : Int)) 0))) (2)))))) (Int.toNat (IntKind.wrap IntKind.i64 (IntKind.wrap IntKind.i64 (8 * IntKind.wrap IntKind.i64 (AV.toI (f (0 + Int.toNat (AV.toI (g (0 + Int.toNat (↑i : Int)) 0))) (2)))) + IntKind.wrap IntKind.i64 (8 * IntKind.wrap IntKind.i64 (AV.toI (f (0 + Int.toNat (AV.toI (g (0 + Int.toNat (↑i : Int)) 0))) (3)))))))) with
              | true =>
                cases (Nat.ble (Int.toNat (IntKind.wrap IntKind.i64 (IntKind.wrap IntKind.i64 (8 * IntKind.wrap IntKind.i64 (AV.toI (f (0 + Int.toNat (AV.toI (g (0 + Int.toNat (↑i : Int)) 0))) (2)))) + IntKind.wrap IntKind.i64 (8 * IntKind.wrap IntKind.i64 (AV.toI (f (0 + Int.toNat (AV.toI (g (0 + Int.toNat (↑i : Int)) 0))) (3))))))) (List.length s)) with
                | true =>
                  cases (decide (0 ≤ IntKind.wrap IntKind.i64 (8 * IntKind.wrap IntKind.i64 (AV.toI (f (0 + Int.toNat (AV.toI (g (0 + Int.toNat (↑i : Int)) 0))) (2)))))) with
                  | true =>
                    cases (decide (0 ≤ IntKind.wrap IntKind.i64 (IntKind.wrap IntKind.i64 (8 * IntKind.wrap IntKind.i64 (AV.toI (f (0 + Int.toNat (AV.toI (g (0 + Int.toNat (↑i : Int)) 0))) (2)))) + IntKind.wrap IntKind.i64 (8 * IntKind.wrap IntKind.i64 (AV.toI (f (0 + Int.toNat (AV.toI (g (0 + Int.toNat (↑i : Int)) 0))) (3))))))) with
                    | true =>
                      cases (List.take (Int.toNat (IntKind.wrap IntKind.i64 (IntKind.wrap IntKind.i64 (8 * IntKind.wrap IntKind.i64 (AV.toI (f (0 + Int.toNat (AV.toI (g (0 + Int.toNat (↑i : Int)) 0))) (2)))) + IntKind.wrap IntKind.i64 (8 * IntKind.wrap IntKind.i64 (AV.toI (f (0 + Int.toNat (AV.toI (g (0 + Int.toNat (↑i : Int)) 0))) (3)))))) - Int.toNat (IntKind.wrap IntKind.i64 (8 * IntKind.wrap IntKind.i64 (AV.toI (f (0 + Int.toNat (AV.toI (g (0 + Int.toNat (↑i : Int)) 0))) (2)))))) (List.drop (Int.toNat (IntKind.wrap IntKind.i64 (8 * IntKind.wrap IntKind.i64 (AV.toI (f (0 + Int.toNat (AV.toI (g (0 + Int.toNat (↑i : Int)) 0))) (2)))))) s) == AV.toS (f (0 + Int.toNat (AV.toI (g (0 + Int.toNat (↑i : Int)) 0))) (4))) with
                      | true =>
                        rfl
                      | false =>
                        rfl
                    | false =>
                      rfl
                  | false =>
                    rfl
                | false =>
                  rfl
              | false =>
                rfl
          | false =>
            rfl
        | false =>
          rfl
      | false =>
        rfl
    | false =>
      rfl
  | false =>
    rfl

noncomputable def k7 (nl : Bool) (n : Nat) (f : Nat → Nat → AV) (bl : Int) (ol : Bool) (m : Nat) (g : Nat → Nat → AV) (π : Plan) : Option CS := callC (EF) (1500) (7) (0) (.keep) ([]) π (a7 nl n f bl ol m g)
def k7_p : Plan := (.fork (.must true (.fork (.fork (.fork (.fork (.must true (.must true (.reck 2 (.must true (.reck 1 (.must true (.fork (.fork (.fork (.fork .stop .stop) .stop) .stop) .stop))))))) .stop) .stop) .stop) .stop)) .stop)
theorem k7_is (nl : Bool) (n : Nat) (f : Nat → Nat → AV) (bl : Int) (ol : Bool) (m : Nat) (g : Nat → Nat → AV) : k7 nl n f bl ol m g k7_p = (cond (decide (0 ≤ IntKind.wrap IntKind.i64 (8 * IntKind.wrap IntKind.i64 bl)))
  (cond (decide (IntKind.wrap IntKind.i64 (8 * IntKind.wrap IntKind.i64 bl) ≤ IntKind.wrap IntKind.i64 (8 * IntKind.wrap IntKind.i64 bl))) (cond (decide (IntKind.wrap IntKind.i64 (8 * IntKind.wrap IntKind.i64 bl) ≤ 281474976710656))
  (cond (Nat.ble (1 * Int.toNat (IntKind.wrap IntKind.i64 (8 * IntKind.wrap IntKind.i64 bl))) 281474976710656)
  (cond (Nat.ble (0 + Int.toNat (IntKind.wrap IntKind.i64 (8 * IntKind.wrap IntKind.i64 bl))) (Int.toNat (IntKind.wrap IntKind.i64 (8 * IntKind.wrap IntKind.i64 bl))))
  (cond (List.all (List.range (Int.toNat (IntKind.wrap IntKind.i64 (8 * IntKind.wrap IntKind.i64 bl)))) fun i => decide (0 ≤ byteAt (fun x j => getAt [AV.int IntKind.u8 (Int.ofNat 0)] j) (0 + i)) && decide (byteAt (fun x j => getAt [AV.int IntKind.u8 (Int.ofNat 0)] j) (0 + i) < 256))
  (cond (decide (n = n)) (cond (decide (m = m)) (cond (decide (n = n)) (cond (decide (m = m)) (cond (Nat.ble n 1000)
  (cond (Nat.ble m 1000)
  (cond ((okDV f (n) g (m) (List.length (List.map (fun i => Int.toNat (byteAt (fun x j => getAt [AV.int IntKind.u8 (Int.ofNat 0)] j) (0 + i))) (List.range (Int.toNat (IntKind.wrap IntKind.i64 (8 * IntKind.wrap IntKind.i64 bl))))))))
  (cond (Option.isSome (dskV f g m (List.map (fun i => Int.toNat (byteAt (fun x j => getAt [AV.int IntKind.u8 (Int.ofNat 0)] j) (0 + i))) (List.range (Int.toNat (IntKind.wrap IntKind.i64 (8 * IntKind.wrap IntKind.i64 bl)))))))
  (some (CS.mk [(AV.tuple [(AV.str (Option.getD (dskV f g m (List.map (fun i => Int.toNat (byteAt (fun x j => getAt [AV.int IntKind.u8 (Int.ofNat 0)] j) (0 + i))) (List.range (Int.toNat (IntKind.wrap IntKind.i64 (8 * IntKind.wrap IntKind.i64 bl)))))) [])), (AV.bool (true))])] []))
  (some (CS.mk [(AV.tuple [(AV.str ([])), (AV.bool (false))])] [])))
  none)
  none)
  none) none) none) none) none)
  none)
  none)
  none)
  none) none)
  none) := by kernel_rfl
theorem k7_eq (nl : Bool) (n : Nat) (f : Nat → Nat → AV) (bl : Int) (ol : Bool) (m : Nat) (g : Nat → Nat → AV) : k7 nl n f bl ol m g k7_p = (cond (decide (0 ≤ IntKind.wrap IntKind.i64 (8 * IntKind.wrap IntKind.i64 bl)))
  (cond (decide (IntKind.wrap IntKind.i64 (8 * IntKind.wrap IntKind.i64 bl) ≤ 281474976710656))
  (cond (Nat.ble (1 * Int.toNat (IntKind.wrap IntKind.i64 (8 * IntKind.wrap IntKind.i64 bl))) 281474976710656)
  (cond (Nat.ble (0 + Int.toNat (IntKind.wrap IntKind.i64 (8 * IntKind.wrap IntKind.i64 bl))) (Int.toNat (IntKind.wrap IntKind.i64 (8 * IntKind.wrap IntKind.i64 bl))))
  (cond (List.all (List.range (Int.toNat (IntKind.wrap IntKind.i64 (8 * IntKind.wrap IntKind.i64 bl)))) fun i => decide (0 ≤ byteAt (fun x j => getAt [AV.int IntKind.u8 (Int.ofNat 0)] j) (0 + i)) && decide (byteAt (fun x j => getAt [AV.int IntKind.u8 (Int.ofNat 0)] j) (0 + i) < 256))
  (cond (Nat.ble n 1000)
  (cond (Nat.ble m 1000)
  (cond (okDV f (n) g (m) (List.length (List.map (fun i => Int.toNat (byteAt (fun x j => getAt [AV.int IntKind.u8 (Int.ofNat 0)] j) (0 + i))) (List.range (Int.toNat (IntKind.wrap IntKind.i64 (8 * IntKind.wrap IntKind.i64 bl)))))))
  (cond (Option.isSome (dskV f g m (List.map (fun i => Int.toNat (byteAt (fun x j => getAt [AV.int IntKind.u8 (Int.ofNat 0)] j) (0 + i))) (List.range (Int.toNat (IntKind.wrap IntKind.i64 (8 * IntKind.wrap IntKind.i64 bl)))))))
  (some (CS.mk [(AV.tuple [(AV.str (Option.getD (dskV f g m (List.map (fun i => Int.toNat (byteAt (fun x j => getAt [AV.int IntKind.u8 (Int.ofNat 0)] j) (0 + i))) (List.range (Int.toNat (IntKind.wrap IntKind.i64 (8 * IntKind.wrap IntKind.i64 bl)))))) [])), (AV.bool (true))])] []))
  (some (CS.mk [(AV.tuple [(AV.str ([])), (AV.bool (false))])] [])))
  none)
  none)
  none)
  none)
  none)
  none)
  none)
  none) := by
  rw [k7_is]
  try simp only [eq_self, decide_true, beq_self_eq_true, Nat.beq_refl, ble_self, Int.le_refl, Nat.le_refl]
  cases (decide (0 ≤ IntKind.wrap IntKind.i64 (8 * IntKind.wrap IntKind.i64 bl))) with
  | true =>
    cases (decide (IntKind.wrap IntKind.i64 (8 * IntKind.wrap IntKind.i64 bl) ≤ 281474976710656)) with
    | true =>
      cases (Nat.ble (1 * Int.toNat (IntKind.wrap IntKind.i64 (8 * IntKind.wrap IntKind.i64 bl))) 281474976710656) with
      | true =>
        cases (Nat.ble (0 + Int.toNat (IntKind.wrap IntKind.i64 (8 * IntKind.wrap IntKind.i64 bl))) (Int.toNat (IntKind.wrap IntKind.i64 (8 * IntKind.wrap IntKind.i64 bl)))) with
        | true =>
          cases (List.all (List.range (Int.toNat (IntKind.wrap IntKind.i64 (8 * IntKind.wrap IntKind.i64 bl)))) fun i => decide (0 ≤ byteAt (fun x j => getAt [AV.int IntKind.u8 (Int.ofNat 0)] j) (0 + i)) && decide (byteAt (fun x j => getAt [AV.int IntKind.u8 (Int.ofNat 0)] j) (0 + i) < 256)) with
          | true =>
            cases (Nat.ble n 1000) with
            | true =>
              cases (Nat.ble m 1000) with
              | true =>
                cases (okDV f (n) g (m) (List.length (List.map (fun i => Int.toNat (byteAt (fun x j => getAt [AV.int IntKind.u8 (Int.ofNat 0)] j) (0 + i))) (List.range (Int.toNat (IntKind.wrap IntKind.i64 (8 * IntKind.wrap IntKind.i64 bl))))))) with
                | true =>
                  cases (Option.isSome (dskV f g m (List.map (fun i => Int.toNat (byteAt (fun x j => getAt [AV.int IntKind.u8 (Int.ofNat 0)] j) (0 + i))) (List.range (Int.toNat (IntKind.wrap IntKind.i64 (8 * IntKind.wrap IntKind.i64 bl))))))) with
                  | true =>
                    rfl
                  | false =>
                    rfl
                | false =>
                  rfl
              | false =>
                rfl
            | false =>
              rfl
          | false =>
            rfl
        | false =>
          rfl
      | false =>
        rfl
    | false =>
      rfl
  | false =>
    rfl

noncomputable def s6b (nl : Bool) (n : Nat) (f : Nat → Nat → AV) (bl : Int) (ol : Bool) (m : Nat) (g : Nat → Nat → AV) (a : Nat) (i : Nat) (π : Plan) : Option (Nat × CS) := stepC (EG) (400) (loopC EG 6 2) (0) (h6b) ((.normal, h6b) :: x6b) π (c6b nl n f bl ol m g a i)
def s6b_p : Plan := (.fork (.reck 1 (.fork (.fork (.fork (.fork (.fork (.reck 1 (.must true (.fork (.fork (.fork (.fork (.fork (.must true (.must true (.must true (.must true (.must true (.fork .stop .stop)))))) (.must false (.must false (.must false (.must false (.must false .stop)))))) .stop) .stop) .stop) .stop))) .stop) .stop) .stop) .stop) .stop)) .stop)
theorem s6b_is (nl : Bool) (n : Nat) (f : Nat → Nat → AV) (bl : Int) (ol : Bool) (m : Nat) (g : Nat → Nat → AV) (a : Nat) (i : Nat) : s6b nl n f bl ol m g a i s6b_p = (cond (decide ((↑i : Int) < (↑m : Int)))
  (cond (decide ((↑a : Int) < (↑m : Int)))
  (cond (Nat.blt (0 + Int.toNat (↑a : Int)) m)
  (cond (decide (0 ≤ AV.toI (g (0 + Int.toNat (↑a : Int)) 0)))
  (cond (decide (AV.toI (g (0 + Int.toNat (↑a : Int)) 0) < (↑n : Int)))
  (cond (Nat.blt (0 + Int.toNat (AV.toI (g (0 + Int.toNat (↑a : Int)) 0))) n)
  (cond (decide ((↑i : Int) < (↑m : Int))) (cond (Nat.blt (0 + Int.toNat (↑i : Int)) m)
  (cond (decide (0 ≤ AV.toI (g (0 + Int.toNat (↑i : Int)) 0)))
  (cond (decide (AV.toI (g (0 + Int.toNat (↑i : Int)) 0) < (↑n : Int)))
  (cond (Nat.blt (0 + Int.toNat (AV.toI (g (0 + Int.toNat (↑i : Int)) 0))) n)
  (cond ((AV.toI (f (0 + Int.toNat (AV.toI (g (0 + Int.toNat (↑i : Int)) 0))) (6)) != 0) == true)
  (cond ((AV.toI (f (0 + Int.toNat (AV.toI (g (0 + Int.toNat (↑i : Int)) 0))) (6)) != 0) == true) (cond ((AV.toI (f (0 + Int.toNat (AV.toI (g (0 + Int.toNat (↑i : Int)) 0))) (6)) != 0) == true) (cond ((AV.toI (f (0 + Int.toNat (AV.toI (g (0 + Int.toNat (↑i : Int)) 0))) (6)) != 0) == true) (cond ((AV.toI (f (0 + Int.toNat (AV.toI (g (0 + Int.toNat (↑i : Int)) 0))) (6)) != 0) == true) (cond (AV.toI (f (0 + Int.toNat (AV.toI (g (0 + Int.toNat (↑i : Int)) 0))) (6)) != 0) (cond (decide (AV.toI (f (0 + Int.toNat (AV.toI (g (0 + Int.toNat (↑i : Int)) 0))) (6)) ≤ AV.toI (f (0 + Int.toNat (AV.toI (g (0 + Int.toNat (↑a : Int)) 0))) (5))))
  (some (2, (CS.mk [(AV.bool (false))] [])))
  (some (0, (CS.mk [(AV.osl (nl) (0) (0) (n) (n) (8) (true)), (AV.int IntKind.u32 (bl)), (AV.osl (ol) (1) (0) (m) (m) (1) (true)), (AV.int IntKind.i64 ((↑a : Int))), (AV.int IntKind.i64 (IntKind.wrap IntKind.i64 ((↑i : Int) + 1)))] [some (AObj.tarr [Sh.int IntKind.u64, Sh.bool, Sh.int IntKind.u32, Sh.int IntKind.u32, Sh.str, Sh.int IntKind.i64, Sh.int IntKind.i64, Sh.bool] (n) f false), some (AObj.tarr [Sh.int IntKind.i64] (m) g false)])))) none) none) none) none) none)
  (cond ((AV.toI (f (0 + Int.toNat (AV.toI (g (0 + Int.toNat (↑i : Int)) 0))) (6)) != 0) == true) none (cond ((AV.toI (f (0 + Int.toNat (AV.toI (g (0 + Int.toNat (↑i : Int)) 0))) (6)) != 0) == true) none (cond ((AV.toI (f (0 + Int.toNat (AV.toI (g (0 + Int.toNat (↑i : Int)) 0))) (6)) != 0) == true) none (cond ((AV.toI (f (0 + Int.toNat (AV.toI (g (0 + Int.toNat (↑i : Int)) 0))) (6)) != 0) == true) none (cond (AV.toI (f (0 + Int.toNat (AV.toI (g (0 + Int.toNat (↑i : Int)) 0))) (6)) != 0) none (some (0, (CS.mk [(AV.osl (nl) (0) (0) (n) (n) (8) (true)), (AV.int IntKind.u32 (bl)), (AV.osl (ol) (1) (0) (m) (m) (1) (true)), (AV.int IntKind.i64 ((↑a : Int))), (AV.int IntKind.i64 (IntKind.wrap IntKind.i64 ((↑i : Int) + 1)))] [some (AObj.tarr [Sh.int IntKind.u64, Sh.bool, Sh.int IntKind.u32, Sh.int IntKind.u32, Sh.str, Sh.int IntKind.i64, Sh.int IntKind.i64, Sh.bool] (n) f false), some (AObj.tarr [Sh.int IntKind.i64] (m) g false)])))))))))
  none)
  none)
  none)
  none) none)
  none)
  none)
  none)
  none)
  none)
  (some (1, (CS.mk [(AV.osl (nl) (0) (0) (n) (n) (8) (true)), (AV.int IntKind.u32 (bl)), (AV.osl (ol) (1) (0) (m) (m) (1) (true)), (AV.int IntKind.i64 ((↑a : Int)))] [some (AObj.tarr [Sh.int IntKind.u64, Sh.bool, Sh.int IntKind.u32, Sh.int IntKind.u32, Sh.str, Sh.int IntKind.i64, Sh.int IntKind.i64, Sh.bool] (n) f false), some (AObj.tarr [Sh.int IntKind.i64] (m) g false)])))) := by kernel_rfl
theorem s6b_eq (nl : Bool) (n : Nat) (f : Nat → Nat → AV) (bl : Int) (ol : Bool) (m : Nat) (g : Nat → Nat → AV) (a : Nat) (i : Nat) : s6b nl n f bl ol m g a i s6b_p = (cond (decide ((↑i : Int) < (↑m : Int)))
  (cond (decide ((↑a : Int) < (↑m : Int)))
  (cond (Nat.blt (0 + Int.toNat (↑a : Int)) m)
  (cond (decide (0 ≤ AV.toI (g (0 + Int.toNat (↑a : Int)) 0)))
  (cond (decide (AV.toI (g (0 + Int.toNat (↑a : Int)) 0) < (↑n : Int)))
  (cond (Nat.blt (0 + Int.toNat (AV.toI (g (0 + Int.toNat (↑a : Int)) 0))) n)
  (cond (Nat.blt (0 + Int.toNat (↑i : Int)) m)
  (cond (decide (0 ≤ AV.toI (g (0 + Int.toNat (↑i : Int)) 0)))
  (cond (decide (AV.toI (g (0 + Int.toNat (↑i : Int)) 0) < (↑n : Int)))
  (cond (Nat.blt (0 + Int.toNat (AV.toI (g (0 + Int.toNat (↑i : Int)) 0))) n)
  (cond (AV.toI (f (0 + Int.toNat (AV.toI (g (0 + Int.toNat (↑i : Int)) 0))) (6)) != 0)
  (cond (decide (AV.toI (f (0 + Int.toNat (AV.toI (g (0 + Int.toNat (↑i : Int)) 0))) (6)) ≤ AV.toI (f (0 + Int.toNat (AV.toI (g (0 + Int.toNat (↑a : Int)) 0))) (5))))
  (some (2, (CS.mk [(AV.bool (false))] [])))
  (some (0, (CS.mk [(AV.osl (nl) (0) (0) (n) (n) (8) (true)), (AV.int IntKind.u32 (bl)), (AV.osl (ol) (1) (0) (m) (m) (1) (true)), (AV.int IntKind.i64 ((↑a : Int))), (AV.int IntKind.i64 (IntKind.wrap IntKind.i64 ((↑i : Int) + 1)))] [some (AObj.tarr [Sh.int IntKind.u64, Sh.bool, Sh.int IntKind.u32, Sh.int IntKind.u32, Sh.str, Sh.int IntKind.i64, Sh.int IntKind.i64, Sh.bool] (n) f false), some (AObj.tarr [Sh.int IntKind.i64] (m) g false)]))))
  (some (0, (CS.mk [(AV.osl (nl) (0) (0) (n) (n) (8) (true)), (AV.int IntKind.u32 (bl)), (AV.osl (ol) (1) (0) (m) (m) (1) (true)), (AV.int IntKind.i64 ((↑a : Int))), (AV.int IntKind.i64 (IntKind.wrap IntKind.i64 ((↑i : Int) + 1)))] [some (AObj.tarr [Sh.int IntKind.u64, Sh.bool, Sh.int IntKind.u32, Sh.int IntKind.u32, Sh.str, Sh.int IntKind.i64, Sh.int IntKind.i64, Sh.bool] (n) f false), some (AObj.tarr [Sh.int IntKind.i64] (m) g false)]))))
  none)
  none)
  none)
  none)
  none)
  none)
  none)
  none)
  none)
  (some (1, (CS.mk [(AV.osl (nl) (0) (0) (n) (n) (8) (true)), (AV.int IntKind.u32 (bl)), (AV.osl (ol) (1) (0) (m) (m) (1) (true)), (AV.int IntKind.i64 ((↑a : Int)))] [some (AObj.tarr [Sh.int IntKind.u64, Sh.bool, Sh.int IntKind.u32, Sh.int IntKind.u32, Sh.str, Sh.int IntKind.i64, Sh.int IntKind.i64, Sh.bool] (n) f false), some (AObj.tarr [Sh.int IntKind.i64] (m) g false)])))) := by
  rw [s6b_is]
  try simp only [eq_self, decide_true, beq_self_eq_true, Nat.beq_refl, ble_self, Int.le_refl, Nat.le_refl]
  cases (decide ((↑i : Int) < (↑m : Int))) with
  | true =>
    cases (decide ((↑a : Int) < (↑m : Int))) with
    | true =>
      cases (Nat.blt (0 + Int.toNat (↑a : Int)) m) with
      | true =>
        cases (decide (0 ≤ AV.toI (g (0 + Int.toNat (↑a : Int)) 0))) with
        | true =>
          cases (decide (AV.toI (g (0 + Int.toNat (↑a : Int)) 0) < (↑n : Int))) with
          | true =>
            cases (Nat.blt (0 + Int.toNat (AV.toI (g (0 + Int.toNat (↑a : Int)) 0))) n) with
            | true =>
              cases (Nat.blt (0 + Int.toNat (↑i : Int)) m) with
              | true =>
                cases (decide (0 ≤ AV.toI (g (0 + Int.toNat (↑i : Int)) 0))) with
                | true =>
                  cases (decide (AV.toI (g (0 + Int.toNat (↑i : Int)) 0) < (↑n : Int))) with
                  | true =>
                    cases (Nat.blt (0 + Int.toNat (AV.toI (g (0 + Int.toNat (↑i : Int)) 0))) n) with
                    | true =>
                      cases (AV.toI (f (0 + Int.toNat (AV.toI (g (0 + Int.toNat (↑i : Int)) 0))) (6)) != 0) with
                      | true =>
                        cases (decide (AV.toI (f (0 + Int.toNat (AV.toI (g (0 + Int.toNat (↑i : Int)) 0))) (6)) ≤ AV.toI (f (0 + Int.toNat (AV.toI (g (0 + Int.toNat (↑a : Int)) 0))) (5)))) with
                        | true =>
                          rfl
                        | false =>
                          rfl
                      | false =>
                        rfl
                    | false =>
                      rfl
                  | false =>
                    rfl
                | false =>
                  rfl
              | false =>
                rfl
            | false =>
              rfl
          | false =>
            rfl
        | false =>
          rfl
      | false =>
        rfl
    | false =>
      rfl
  | false =>
    rfl

noncomputable def s6a (nl : Bool) (n : Nat) (f : Nat → Nat → AV) (bl : Int) (ol : Bool) (m : Nat) (g : Nat → Nat → AV) (i : Nat) (π : Plan) : Option (Nat × CS) := stepC (EH) (400) (loopC EH 6 0) (0) (h6a) ((.normal, h6a) :: x6a) π (c6a nl n f bl ol m g i)
def s6a_p : Plan := (.fork (.must true (.must true (.fork (.reck 1 (.must true (.reck 1 (.must true (.fork (.fork (.fork (.fork (.fork .stop .stop) .stop) .stop) .stop) .stop))))) .stop))) .stop)
theorem s6a_is (nl : Bool) (n : Nat) (f : Nat → Nat → AV) (bl : Int) (ol : Bool) (m : Nat) (g : Nat → Nat → AV) (i : Nat) : s6a nl n f bl ol m g i s6a_p = (cond (decide ((↑i : Int) < (↑m : Int)))
  (cond (decide (n = n)) (cond (decide (m = m)) (cond (decide ((↑i : Int) + 1 = IntKind.wrap IntKind.i64 ((↑i : Int) + 1)))
  (cond (decide (n = n)) (cond (decide (m = m)) (cond (Nat.ble n 1000)
  (cond (Nat.ble m 1000)
  (cond ((okRV (n) g (m)))
  (cond (Nat.blt i m)
  (cond ((okIV f g (m) (i)))
  (some (0, (CS.mk [(AV.osl (nl) (0) (0) (n) (n) (8) (true)), (AV.int IntKind.u32 (bl)), (AV.osl (ol) (1) (0) (m) (m) (1) (true)), (AV.int IntKind.i64 (IntKind.wrap IntKind.i64 ((↑i : Int) + 1)))] [some (AObj.tarr [Sh.int IntKind.u64, Sh.bool, Sh.int IntKind.u32, Sh.int IntKind.u32, Sh.str, Sh.int IntKind.i64, Sh.int IntKind.i64, Sh.bool] (n) f false), some (AObj.tarr [Sh.int IntKind.i64] (m) g false)])))
  (some (2, (CS.mk [(AV.bool (false))] []))))
  none)
  none)
  none)
  none) none) none)
  none) none) none)
  (some (1, (CS.mk [(AV.osl (nl) (0) (0) (n) (n) (8) (true)), (AV.int IntKind.u32 (bl)), (AV.osl (ol) (1) (0) (m) (m) (1) (true))] [some (AObj.tarr [Sh.int IntKind.u64, Sh.bool, Sh.int IntKind.u32, Sh.int IntKind.u32, Sh.str, Sh.int IntKind.i64, Sh.int IntKind.i64, Sh.bool] (n) f false), some (AObj.tarr [Sh.int IntKind.i64] (m) g false)])))) := by kernel_rfl
theorem s6a_eq (nl : Bool) (n : Nat) (f : Nat → Nat → AV) (bl : Int) (ol : Bool) (m : Nat) (g : Nat → Nat → AV) (i : Nat) : s6a nl n f bl ol m g i s6a_p = (cond (decide ((↑i : Int) < (↑m : Int)))
  (cond (decide ((↑i : Int) + 1 = IntKind.wrap IntKind.i64 ((↑i : Int) + 1)))
  (cond (Nat.ble n 1000)
  (cond (Nat.ble m 1000)
  (cond (okRV (n) g (m))
  (cond (Nat.blt i m)
  (cond (okIV f g (m) (i))
  (some (0, (CS.mk [(AV.osl (nl) (0) (0) (n) (n) (8) (true)), (AV.int IntKind.u32 (bl)), (AV.osl (ol) (1) (0) (m) (m) (1) (true)), (AV.int IntKind.i64 (IntKind.wrap IntKind.i64 ((↑i : Int) + 1)))] [some (AObj.tarr [Sh.int IntKind.u64, Sh.bool, Sh.int IntKind.u32, Sh.int IntKind.u32, Sh.str, Sh.int IntKind.i64, Sh.int IntKind.i64, Sh.bool] (n) f false), some (AObj.tarr [Sh.int IntKind.i64] (m) g false)])))
  (some (2, (CS.mk [(AV.bool (false))] []))))
  none)
  none)
  none)
  none)
  none)
  (some (1, (CS.mk [(AV.osl (nl) (0) (0) (n) (n) (8) (true)), (AV.int IntKind.u32 (bl)), (AV.osl (ol) (1) (0) (m) (m) (1) (true))] [some (AObj.tarr [Sh.int IntKind.u64, Sh.bool, Sh.int IntKind.u32, Sh.int IntKind.u32, Sh.str, Sh.int IntKind.i64, Sh.int IntKind.i64, Sh.bool] (n) f false), some (AObj.tarr [Sh.int IntKind.i64] (m) g false)])))) := by
  rw [s6a_is]
  try simp only [eq_self, decide_true, beq_self_eq_true, Nat.beq_refl, ble_self, Int.le_refl, Nat.le_refl]
  cases (decide ((↑i : Int) < (↑m : Int))) with
  | true =>
    cases (decide ((↑i : Int) + 1 = IntKind.wrap IntKind.i64 ((↑i : Int) + 1))) with
    | true =>
      cases (Nat.ble n 1000) with
      | true =>
        cases (Nat.ble m 1000) with
        | true =>
          cases (okRV (n) g (m)) with
          | true =>
            cases (Nat.blt i m) with
            | true =>
              cases (okIV f g (m) (i)) with
              | true =>
                rfl
              | false =>
                rfl
            | false =>
              rfl
          | false =>
            rfl
        | false =>
          rfl
      | false =>
        rfl
    | false =>
      rfl
  | false =>
    rfl

noncomputable def k6 (nl : Bool) (n : Nat) (f : Nat → Nat → AV) (bl : Int) (ol : Bool) (m : Nat) (g : Nat → Nat → AV) (π : Plan) : Option CS := callC (EI) (1500) (6) (0) (.keep) ([]) π (a7 nl n f bl ol m g)
def k6_p : Plan := (.must true (.reck 1 (.must true (.fork (.fork (.must true (.must true (.must true (.must true (.reck 1 (.must true (.reck 1 (.must true (.fork (.fork (.must true (.must false (.fork .stop (.must true (.must true (.reck 2 (.must true (.reck 1 (.must true (.must true (.must true (.fork (.fork (.must true (.must true (.reck 1 (.must true (.reck 1 (.must true (.must true (.must true (.fork (.fork (.fork (.fork .stop .stop) .stop) .stop) .stop))))))))) .stop) .stop)))))))))))) .stop) .stop))))))))) (.must false (.must false (.must false (.must true .stop))))) .stop))))
theorem k6_is (nl : Bool) (n : Nat) (f : Nat → Nat → AV) (bl : Int) (ol : Bool) (m : Nat) (g : Nat → Nat → AV) : k6 nl n f bl ol m g k6_p = (cond (decide (n = n)) (cond (decide (n = n)) (cond ((rngV f (n)))
  (cond ((!gV bl f n) == false)
  (cond ((!gV bl f n) == false) (cond ((!gV bl f n) == false) (cond (decide (n = n)) (cond (decide (m = m)) (cond (decide (n = n)) (cond (decide (m = m)) (cond (Nat.ble n 1000)
  (cond (Nat.ble m 1000)
  (cond ((!gV bl f n) == false) (cond (!gV bl f n) none (cond (!(okMV f n g m && okWV f n g m))
  (some (CS.mk [(AV.bool (false))] []))
  (cond (decide (n = n)) (cond (decide (m = m)) (cond (decide (n = n)) (cond (decide (m = m)) (cond (Nat.ble n 1000) (cond (Nat.ble m 1000) (cond ((okRV (n) g (m)))
  (cond ((okJV f g (m)))
  (cond (decide (n = n)) (cond (decide (m = m)) (cond (decide (n = n)) (cond (decide (m = m)) (cond (Nat.ble n 1000) (cond (Nat.ble m 1000) (cond (!decide (bl < 1))
  (cond (!decide (bl > 64))
  (cond ((okDV f (n) g (m) (List.length (blankV bl))))
  (cond (Option.isSome (dskV f g m (blankV bl)))
  (some (CS.mk [(AV.bool (true))] []))
  (some (CS.mk [(AV.bool (false))] [])))
  none)
  none)
  none) none) none) none) none) none) none)
  (some (CS.mk [(AV.bool (false))] [])))
  none) none) none) none) none) none) none))) none)
  none)
  none) none) none) none) none) none) none)
  (cond ((!gV bl f n) == false) none (cond ((!gV bl f n) == false) none (cond ((!gV bl f n) == false) none (cond (!gV bl f n) (some (CS.mk [(AV.bool (false))] [])) none)))))
  none) none) none) := by kernel_rfl
theorem k6_eq (nl : Bool) (n : Nat) (f : Nat → Nat → AV) (bl : Int) (ol : Bool) (m : Nat) (g : Nat → Nat → AV) : k6 nl n f bl ol m g k6_p = (cond (rngV f (n))
  (cond (gV bl f n)
  (cond (Nat.ble n 1000)
  (cond (Nat.ble m 1000)
  (cond (okMV f n g m && okWV f n g m)
  (cond (okRV (n) g (m))
  (cond (okJV f g (m))
  (cond (decide (bl < 1))
  none
  (cond (decide (bl > 64))
  none
  (cond (okDV f (n) g (m) (List.length (blankV bl)))
  (cond (Option.isSome (dskV f g m (blankV bl)))
  (some (CS.mk [(AV.bool (true))] []))
  (some (CS.mk [(AV.bool (false))] [])))
  none)))
  (some (CS.mk [(AV.bool (false))] [])))
  none)
  (some (CS.mk [(AV.bool (false))] [])))
  none)
  none)
  (some (CS.mk [(AV.bool (false))] [])))
  none) := by
  rw [k6_is]
  try simp only [eq_self, decide_true, beq_self_eq_true, Nat.beq_refl, ble_self, Int.le_refl, Nat.le_refl]
  cases (rngV f (n)) with
  | true =>
    cases (gV bl f n) with
    | true =>
      cases (Nat.ble n 1000) with
      | true =>
        cases (Nat.ble m 1000) with
        | true =>
          cases (okMV f n g m && okWV f n g m) with
          | true =>
            cases (okRV (n) g (m)) with
            | true =>
              cases (okJV f g (m)) with
              | true =>
                cases (decide (bl < 1)) with
                | true =>
                  rfl
                | false =>
                  cases (decide (bl > 64)) with
                  | true =>
                    rfl
                  | false =>
                    cases (okDV f (n) g (m) (List.length (blankV bl))) with
                    | true =>
                      cases (Option.isSome (dskV f g m (blankV bl))) with
                      | true =>
                        rfl
                      | false =>
                        rfl
                    | false =>
                      rfl
              | false =>
                rfl
            | false =>
              rfl
          | false =>
            rfl
        | false =>
          rfl
      | false =>
        rfl
    | false =>
      rfl
  | false =>
    rfl

noncomputable def s8 (nl : Bool) (n : Nat) (f : Nat → Nat → AV) (s : List Nat) (lt : Int) (ol : Bool) (m : Nat) (g : Nat → Nat → AV) (i : Nat) (π : Plan) : Option (Nat × CS) := stepC (EJ) (800) (loopC EJ 8 0) (0) (h8) ((.normal, h8) :: x8) π (c8 nl n f s lt ol m g i)
def s8_p : Plan := (.fork (.reck 1 (.must true (.fork (.fork (.fork (.fork (.fork (.must true (.must true (.must true (.must true (.fork .stop (.fork (.reck 1 (.fork (.must true (.must true (.must true (.must true (.must true (.reck 2 (.must true (.reck 16 (.must true (.must true (.must true (.must true (.fork .stop (.fork .stop (.reck 1 (.fork (.fork (.fork (.fork (.must true (.fork (.fork (.must true (.must true (.must true (.must true (.must true (.must true (.reck 1 (.must true (.must true (.must true (.must true .stop))))))))))) .stop) .stop)) .stop) .stop) .stop) .stop)))))))))))))))) (.must false (.must false (.must false (.must false (.must false (.reck 2 (.must true (.reck 16 (.must true (.must true (.must true (.must true .stop)))))))))))))) (.fork (.fork (.fork (.fork (.must true (.must true (.must true (.must true (.must true (.must true (.must true (.must true (.must true (.must true (.must true (.must true (.must true (.must true (.must true (.must true (.must true (.must true (.reck 2 (.must true (.reck 16 (.fork .stop .stop)))))))))))))))))))))) .stop) .stop) .stop) .stop))))))) (.must false (.must false (.must false (.must false (.reck 1 (.fork (.reck 1 (.fork (.must true (.must true (.must true (.must true (.must true (.reck 2 (.must true (.reck 16 (.must true (.must true (.must true (.must true (.fork .stop (.fork .stop (.reck 1 (.fork (.fork (.fork (.fork (.must true (.fork (.fork (.must true (.must true (.must true (.must true (.must true (.must true (.reck 1 (.must true (.must true (.must true (.must true .stop))))))))))) .stop) .stop)) .stop) .stop) .stop) .stop)))))))))))))))) (.must false (.must false (.must false (.must false (.must false (.reck 2 (.must true (.reck 16 (.must true (.must true (.must true (.must true .stop)))))))))))))) (.fork (.fork (.fork (.fork (.must true (.must true (.must true (.must true (.must true (.must true (.must true (.must true (.must true (.must true (.must true (.must true (.must true (.must true (.must true (.must true (.must true (.must true (.reck 2 (.must true (.reck 16 (.fork .stop .stop)))))))))))))))))))))) .stop) .stop) .stop) .stop)))))))) .stop) .stop) .stop) .stop))) .stop)
theorem s8_is (nl : Bool) (n : Nat) (f : Nat → Nat → AV) (s : List Nat) (lt : Int) (ol : Bool) (m : Nat) (g : Nat → Nat → AV) (i : Nat) : s8 nl n f s lt ol m g i s8_p = (cond (decide ((↑i : Int) < (↑m : Int)))
  (cond (decide ((↑i : Int) < (↑m : Int))) (cond (Nat.blt (0 + Int.toNat (↑i : Int)) m)
  (cond (decide (0 ≤ AV.toI (g (0 + Int.toNat (↑i : Int)) 0)))
  (cond (decide (AV.toI (g (0 + Int.toNat (↑i : Int)) 0) < (↑n : Int)))
  (cond (Nat.blt (0 + Int.toNat (AV.toI (g (0 + Int.toNat (↑i : Int)) 0))) n)
  (cond ((AV.toI (f (0 + Int.toNat (AV.toI (g (0 + Int.toNat (↑i : Int)) 0))) (6)) != 0) == true)
  (cond ((AV.toI (f (0 + Int.toNat (AV.toI (g (0 + Int.toNat (↑i : Int)) 0))) (6)) != 0) == true) (cond ((AV.toI (f (0 + Int.toNat (AV.toI (g (0 + Int.toNat (↑i : Int)) 0))) (6)) != 0) == true) (cond ((AV.toI (f (0 + Int.toNat (AV.toI (g (0 + Int.toNat (↑i : Int)) 0))) (6)) != 0) == true) (cond (AV.toI (f (0 + Int.toNat (AV.toI (g (0 + Int.toNat (↑i : Int)) 0))) (6)) != 0) (cond (decide (AV.toI (f (0 + Int.toNat (AV.toI (g (0 + Int.toNat (↑i : Int)) 0))) (6)) ≤ lt))
  (some (2, (CS.mk [(AV.bool (false))] [])))
  (cond (AV.toB (f (0 + Int.toNat (AV.toI (g (0 + Int.toNat (↑i : Int)) 0))) (1)))
  (cond (decide (AV.toI (f (0 + Int.toNat (AV.toI (g (0 + Int.toNat (↑i : Int)) 0))) (3)) > 0) == true)
  (cond (decide (AV.toI (f (0 + Int.toNat (AV.toI (g (0 + Int.toNat (↑i : Int)) 0))) (3)) > 0) == true) (cond (decide (AV.toI (f (0 + Int.toNat (AV.toI (g (0 + Int.toNat (↑i : Int)) 0))) (3)) > 0) == true) (cond (decide (AV.toI (f (0 + Int.toNat (AV.toI (g (0 + Int.toNat (↑i : Int)) 0))) (3)) > 0) == true) (cond (decide (AV.toI (f (0 + Int.toNat (AV.toI (g (0 + Int.toNat (↑i : Int)) 0))) (3)) > 0) == true) (cond (decide (AV.toI (f (0 + Int.toNat (AV.toI (g (0 + Int.toNat (↑i : Int)) 0))) (3)) > 0)) (cond (s == s) (cond (decide (AV.toI (f (0 + Int.toNat (AV.toI (g (0 + Int.toNat (↑i : Int)) 0))) (2)) = AV.toI (f (0 + Int.toNat (AV.toI (g (0 + Int.toNat (↑i : Int)) 0))) (2)))) (cond (decide (AV.toI (f (0 + Int.toNat (AV.toI (g (0 + Int.toNat (↑i : Int)) 0))) (3)) = AV.toI (f (0 + Int.toNat (AV.toI (g (0 + Int.toNat (↑i : Int)) 0))) (3)))) (cond (decide (AV.toI (f (0 + Int.toNat (AV.toI (g (0 + Int.toNat (↑i : Int)) 0))) (2)) = AV.toI (f (0 + Int.toNat (AV.toI (g (0 + Int.toNat (↑i : Int)) 0))) (2)))) (cond (decide (AV.toI (f (0 + Int.toNat (AV.toI (g (0 + Int.toNat (↑i : Int)) 0))) (3)) = AV.toI (f (0 + Int.toNat (AV.toI (g (0 + Int.toNat (↑i : Int)) 0))) (3)))) (cond (!decide (IntKind.wrap IntKind.u64 (IntKind.wrap IntKind.u64 (AV.toI (f (0 + Int.toNat (AV.toI (g (0 + Int.toNat (↑i : Int)) 0))) (2))) + IntKind.wrap IntKind.u64 (AV.toI (f (0 + Int.toNat (AV.toI (g (0 + Int.toNat (↑i : Int)) 0))) (3)))) ≤ IntKind.wrap IntKind.u64 (IntKind.wrap IntKind.u32 (IntKind.wrap IntKind.i64 (Int.tdiv (↑(List.length s) : Int) 8)))))
  (some (2, (CS.mk [(AV.bool (false))] [])))
  (cond ((↑(List.length (AV.toS (f (0 + Int.toNat (AV.toI (g (0 + Int.toNat (↑i : Int)) 0))) (4)))) : Int) != IntKind.wrap IntKind.i64 (8 * IntKind.wrap IntKind.i64 (AV.toI (f (0 + Int.toNat (AV.toI (g (0 + Int.toNat (↑i : Int)) 0))) (3)))))
  (some (2, (CS.mk [(AV.bool (false))] [])))
  (cond (Nat.ble (Int.toNat (IntKind.wrap IntKind.i64 (IntKind.wrap IntKind.i64 (AV.toI (f (0 + Int.toNat (AV.toI (g (0 + Int.toNat (↑i : Int)) 0))) (2))) * 8))) (List.length s))
  (cond (decide (0 ≤ IntKind.wrap IntKind.i64 (IntKind.wrap IntKind.i64 (AV.toI (f (0 + Int.toNat (AV.toI (g (0 + Int.toNat (↑i : Int)) 0))) (2))) * 8)))
  (cond (Nat.ble (List.length (List.take (Int.toNat (IntKind.wrap IntKind.i64 (IntKind.wrap IntKind.i64 (AV.toI (f (0 + Int.toNat (AV.toI (g (0 + Int.toNat (↑i : Int)) 0))) (2))) * 8)) - 0) (List.drop 0 s)) + List.length (AV.toS (f (0 + Int.toNat (AV.toI (g (0 + Int.toNat (↑i : Int)) 0))) (4)))) 140737488355328)
  (cond (Nat.ble (Int.toNat (IntKind.wrap IntKind.i64 (IntKind.wrap IntKind.i64 (IntKind.wrap IntKind.i64 (AV.toI (f (0 + Int.toNat (AV.toI (g (0 + Int.toNat (↑i : Int)) 0))) (2))) * 8) + (↑(List.length (AV.toS (f (0 + Int.toNat (AV.toI (g (0 + Int.toNat (↑i : Int)) 0))) (4)))) : Int)))) (List.length s))
  (cond (Nat.ble (List.length s) (List.length s)) (cond (decide (0 ≤ IntKind.wrap IntKind.i64 (IntKind.wrap IntKind.i64 (IntKind.wrap IntKind.i64 (AV.toI (f (0 + Int.toNat (AV.toI (g (0 + Int.toNat (↑i : Int)) 0))) (2))) * 8) + (↑(List.length (AV.toS (f (0 + Int.toNat (AV.toI (g (0 + Int.toNat (↑i : Int)) 0))) (4)))) : Int))))
  (cond (Nat.ble (List.length (List.take (Int.toNat (IntKind.wrap IntKind.i64 (IntKind.wrap IntKind.i64 (AV.toI (f (0 + Int.toNat (AV.toI (g (0 + Int.toNat (↑i : Int)) 0))) (2))) * 8)) - 0) (List.drop 0 s) ++ AV.toS (f (0 + Int.toNat (AV.toI (g (0 + Int.toNat (↑i : Int)) 0))) (4))) + List.length (List.take (List.length s - Int.toNat (IntKind.wrap IntKind.i64 (IntKind.wrap IntKind.i64 (IntKind.wrap IntKind.i64 (AV.toI (f (0 + Int.toNat (AV.toI (g (0 + Int.toNat (↑i : Int)) 0))) (2))) * 8) + (↑(List.length (AV.toS (f (0 + Int.toNat (AV.toI (g (0 + Int.toNat (↑i : Int)) 0))) (4)))) : Int)))) (List.drop (Int.toNat (IntKind.wrap IntKind.i64 (IntKind.wrap IntKind.i64 (IntKind.wrap IntKind.i64 (AV.toI (f (0 + Int.toNat (AV.toI (g (0 + Int.toNat (↑i : Int)) 0))) (2))) * 8) + (↑(List.length (AV.toS (f (0 + Int.toNat (AV.toI (g (0 + Int.toNat (↑i : Int)) 0))) (4)))) : Int)))) s))) 140737488355328)
  (cond (Nat.ble (Int.toNat (IntKind.wrap IntKind.i64 (IntKind.wrap IntKind.i64 (IntKind.wrap IntKind.i64 (AV.toI (f (0 + Int.toNat (AV.toI (g (0 + Int.toNat (↑i : Int)) 0))) (2))) * 8) + (↑(List.length (AV.toS (f (0 + Int.toNat (AV.toI (g (0 + Int.toNat (↑i : Int)) 0))) (4)))) : Int)))) (List.length s)) (cond (Nat.ble (List.length s) (List.length s)) (cond (decide (0 ≤ IntKind.wrap IntKind.i64 (IntKind.wrap IntKind.i64 (IntKind.wrap IntKind.i64 (AV.toI (f (0 + Int.toNat (AV.toI (g (0 + Int.toNat (↑i : Int)) 0))) (2))) * 8) + (↑(List.length (AV.toS (f (0 + Int.toNat (AV.toI (g (0 + Int.toNat (↑i : Int)) 0))) (4)))) : Int)))) (cond (List.take (List.length s - Int.toNat (IntKind.wrap IntKind.i64 (IntKind.wrap IntKind.i64 (IntKind.wrap IntKind.i64 (AV.toI (f (0 + Int.toNat (AV.toI (g (0 + Int.toNat (↑i : Int)) 0))) (2))) * 8) + (↑(List.length (AV.toS (f (0 + Int.toNat (AV.toI (g (0 + Int.toNat (↑i : Int)) 0))) (4)))) : Int)))) (List.drop (Int.toNat (IntKind.wrap IntKind.i64 (IntKind.wrap IntKind.i64 (IntKind.wrap IntKind.i64 (AV.toI (f (0 + Int.toNat (AV.toI (g (0 + Int.toNat (↑i : Int)) 0))) (2))) * 8) + (↑(List.length (AV.toS (f (0 + Int.toNat (AV.toI (g (0 + Int.toNat (↑i : Int)) 0))) (4)))) : Int)))) s) == List.take (List.length s - Int.toNat (IntKind.wrap IntKind.i64 (IntKind.wrap IntKind.i64 (IntKind.wrap IntKind.i64 (AV.toI (f (0 + Int.toNat (AV.toI (g (0 + Int.toNat (↑i : Int)) 0))) (2))) * 8) + (↑(List.length (AV.toS (f (0 + Int.toNat (AV.toI (g (0 + Int.toNat (↑i : Int)) 0))) (4)))) : Int)))) (List.drop (Int.toNat (IntKind.wrap IntKind.i64 (IntKind.wrap IntKind.i64 (IntKind.wrap IntKind.i64 (AV.toI (f (0 + Int.toNat (AV.toI (g (0 + Int.toNat (↑i : Int)) 0))) (2))) * 8) + (↑(List.length (AV.toS (f (0 + Int.toNat (AV.toI (g (0 + Int.toNat (↑i : Int)) 0))) (4)))) : Int)))) s)) (cond (decide ((↑(List.length (AV.toS (f (0 + Int.toNat (AV.toI (g (0 + Int.toNat (↑i : Int)) 0))) (4)))) : Int) = (↑(List.length (AV.toS (f (0 + Int.toNat (AV.toI (g (0 + Int.toNat (↑i : Int)) 0))) (4)))) : Int))) (cond (s == s) (cond (Nat.ble (Int.toNat (IntKind.wrap IntKind.i64 (IntKind.wrap IntKind.i64 (AV.toI (f (0 + Int.toNat (AV.toI (g (0 + Int.toNat (↑i : Int)) 0))) (2))) * 8))) (List.length s)) (cond (decide (0 ≤ IntKind.wrap IntKind.i64 (IntKind.wrap IntKind.i64 (AV.toI (f (0 + Int.toNat (AV.toI (g (0 + Int.toNat (↑i : Int)) 0))) (2))) * 8))) (cond (List.take (Int.toNat (IntKind.wrap IntKind.i64 (IntKind.wrap IntKind.i64 (AV.toI (f (0 + Int.toNat (AV.toI (g (0 + Int.toNat (↑i : Int)) 0))) (2))) * 8)) - 0) (List.drop 0 s) == List.take (Int.toNat (IntKind.wrap IntKind.i64 (IntKind.wrap IntKind.i64 (AV.toI (f (0 + Int.toNat (AV.toI (g (0 + Int.toNat (↑i : Int)) 0))) (2))) * 8)) - 0) (List.drop 0 s)) (cond (s == s) (some (0, (CS.mk [(AV.osl (nl) (0) (0) (n) (n) (8) (true)), (AV.ptr (1) (0)), (AV.int IntKind.i64 (if AV.toI (f (0 + Int.toNat (AV.toI (g (0 + Int.toNat (↑i : Int)) 0))) (5)) > lt then AV.toI (f (0 + Int.toNat (AV.toI (g (0 + Int.toNat (↑i : Int)) 0))) (5)) else lt)), (AV.osl (ol) (2) (0) (m) (m) (1) (true)), (AV.int IntKind.i64 ((↑m : Int))), (AV.int IntKind.i64 (IntKind.wrap IntKind.i64 ((↑i : Int) + 1)))] [some (AObj.tarr [Sh.int IntKind.u64, Sh.bool, Sh.int IntKind.u32, Sh.int IntKind.u32, Sh.str, Sh.int IntKind.i64, Sh.int IntKind.i64, Sh.bool] (n) f false), some (AObj.cells [(AV.int IntKind.u64 (0)), (AV.int IntKind.u64 (0)), (AV.str (List.take (Int.toNat (IntKind.wrap IntKind.i64 (IntKind.wrap IntKind.i64 (AV.toI (f (0 + Int.toNat (AV.toI (g (0 + Int.toNat (↑i : Int)) 0))) (2))) * 8)) - 0) (List.drop 0 s) ++ AV.toS (f (0 + Int.toNat (AV.toI (g (0 + Int.toNat (↑i : Int)) 0))) (4)) ++ List.take (List.length s - Int.toNat (IntKind.wrap IntKind.i64 (IntKind.wrap IntKind.i64 (IntKind.wrap IntKind.i64 (AV.toI (f (0 + Int.toNat (AV.toI (g (0 + Int.toNat (↑i : Int)) 0))) (2))) * 8) + (↑(List.length (AV.toS (f (0 + Int.toNat (AV.toI (g (0 + Int.toNat (↑i : Int)) 0))) (4)))) : Int)))) (List.drop (Int.toNat (IntKind.wrap IntKind.i64 (IntKind.wrap IntKind.i64 (IntKind.wrap IntKind.i64 (AV.toI (f (0 + Int.toNat (AV.toI (g (0 + Int.toNat (↑i : Int)) 0))) (2))) * 8) + (↑(List.length (AV.toS (f (0 + Int.toNat (AV.toI (g (0 + Int.toNat (↑i : Int)) 0))) (4)))) : Int)))) s))), (AV.int IntKind.u64 (0)), (AV.int IntKind.u16 (0)), (AV.int IntKind.u64 (0)), (AV.int IntKind.u16 (0)), (AV.int IntKind.u64 (0)), (AV.int IntKind.u16 (0)), (AV.int IntKind.u64 (0)), (AV.int IntKind.u16 (0)), (AV.int IntKind.u64 (0)), (AV.int IntKind.u16 (0)), (AV.int IntKind.u64 (0)), (AV.int IntKind.u16 (0)), (AV.int IntKind.u64 (0)), (AV.int IntKind.u16 (0)), (AV.int IntKind.u64 (0)), (AV.int IntKind.u16 (0))] true), some (AObj.tarr [Sh.int IntKind.i64] (m) g false)]))) none) none) none) none) none) none) none) none) none) none)
  none)
  none) none)
  none)
  none)
  none)
  none))) none) none) none) none) none) none) none) none) none) none)
  (cond (decide (AV.toI (f (0 + Int.toNat (AV.toI (g (0 + Int.toNat (↑i : Int)) 0))) (3)) > 0) == true) none (cond (decide (AV.toI (f (0 + Int.toNat (AV.toI (g (0 + Int.toNat (↑i : Int)) 0))) (3)) > 0) == true) none (cond (decide (AV.toI (f (0 + Int.toNat (AV.toI (g (0 + Int.toNat (↑i : Int)) 0))) (3)) > 0) == true) none (cond (decide (AV.toI (f (0 + Int.toNat (AV.toI (g (0 + Int.toNat (↑i : Int)) 0))) (3)) > 0) == true) none (cond (decide (AV.toI (f (0 + Int.toNat (AV.toI (g (0 + Int.toNat (↑i : Int)) 0))) (3)) > 0)) none (cond (s == s) (cond (decide (AV.toI (f (0 + Int.toNat (AV.toI (g (0 + Int.toNat (↑i : Int)) 0))) (2)) = AV.toI (f (0 + Int.toNat (AV.toI (g (0 + Int.toNat (↑i : Int)) 0))) (2)))) (cond (decide (AV.toI (f (0 + Int.toNat (AV.toI (g (0 + Int.toNat (↑i : Int)) 0))) (3)) = AV.toI (f (0 + Int.toNat (AV.toI (g (0 + Int.toNat (↑i : Int)) 0))) (3)))) (cond (decide (AV.toI (f (0 + Int.toNat (AV.toI (g (0 + Int.toNat (↑i : Int)) 0))) (2)) = AV.toI (f (0 + Int.toNat (AV.toI (g (0 + Int.toNat (↑i : Int)) 0))) (2)))) (cond (decide (AV.toI (f (0 + Int.toNat (AV.toI (g (0 + Int.toNat (↑i : Int)) 0))) (3)) = AV.toI (f (0 + Int.toNat (AV.toI (g (0 + Int.toNat (↑i : Int)) 0))) (3)))) (some (2, (CS.mk [(AV.bool (false))] []))) none) none) none) none) none)))))))
  (cond (Nat.ble (Int.toNat (IntKind.wrap IntKind.i64 (IntKind.wrap IntKind.i64 (AV.toI (f (0 + Int.toNat (AV.toI (g (0 + Int.toNat (↑i : Int)) 0))) (2))) * 8))) (Int.toNat (IntKind.wrap IntKind.i64 (IntKind.wrap IntKind.i64 (IntKind.wrap IntKind.i64 (AV.toI (f (0 + Int.toNat (AV.toI (g (0 + Int.toNat (↑i : Int)) 0))) (2))) * 8) + (↑(List.length (AV.toS (f (0 + Int.toNat (AV.toI (g (0 + Int.toNat (↑i : Int)) 0))) (4)))) : Int)))))
  (cond (Nat.ble (Int.toNat (IntKind.wrap IntKind.i64 (IntKind.wrap IntKind.i64 (IntKind.wrap IntKind.i64 (AV.toI (f (0 + Int.toNat (AV.toI (g (0 + Int.toNat (↑i : Int)) 0))) (2))) * 8) + (↑(List.length (AV.toS (f (0 + Int.toNat (AV.toI (g (0 + Int.toNat (↑i : Int)) 0))) (4)))) : Int)))) (List.length s))
  (cond (decide (0 ≤ IntKind.wrap IntKind.i64 (IntKind.wrap IntKind.i64 (AV.toI (f (0 + Int.toNat (AV.toI (g (0 + Int.toNat (↑i : Int)) 0))) (2))) * 8)))
  (cond (decide (0 ≤ IntKind.wrap IntKind.i64 (IntKind.wrap IntKind.i64 (IntKind.wrap IntKind.i64 (AV.toI (f (0 + Int.toNat (AV.toI (g (0 + Int.toNat (↑i : Int)) 0))) (2))) * 8) + (↑(List.length (AV.toS (f (0 + Int.toNat (AV.toI (g (0 + Int.toNat (↑i : Int)) 0))) (4)))) : Int))))
  (cond (AV.toS (f (0 + Int.toNat (AV.toI (g (0 + Int.toNat (↑i : Int)) 0))) (4)) == AV.toS (f (0 + Int.toNat (AV.toI (g (0 + Int.toNat (↑i : Int)) 0))) (4))) (cond (AV.toS (f (0 + Int.toNat (AV.toI (g (0 + Int.toNat (↑i : Int)) 0))) (4)) == AV.toS (f (0 + Int.toNat (AV.toI (g (0 + Int.toNat (↑i : Int)) 0))) (4))) (cond (Nat.ble (Int.toNat (IntKind.wrap IntKind.i64 (IntKind.wrap IntKind.i64 (AV.toI (f (0 + Int.toNat (AV.toI (g (0 + Int.toNat (↑i : Int)) 0))) (2))) * 8))) (Int.toNat (IntKind.wrap IntKind.i64 (IntKind.wrap IntKind.i64 (IntKind.wrap IntKind.i64 (AV.toI (f (0 + Int.toNat (AV.toI (g (0 + Int.toNat (↑i : Int)) 0))) (2))) * 8) + (↑(List.length (AV.toS (f (0 + Int.toNat (AV.toI (g (0 + Int.toNat (↑i : Int)) 0))) (4)))) : Int))))) (cond (Nat.ble (Int.toNat (IntKind.wrap IntKind.i64 (IntKind.wrap IntKind.i64 (IntKind.wrap IntKind.i64 (AV.toI (f (0 + Int.toNat (AV.toI (g (0 + Int.toNat (↑i : Int)) 0))) (2))) * 8) + (↑(List.length (AV.toS (f (0 + Int.toNat (AV.toI (g (0 + Int.toNat (↑i : Int)) 0))) (4)))) : Int)))) (List.length s)) (cond (decide (0 ≤ IntKind.wrap IntKind.i64 (IntKind.wrap IntKind.i64 (AV.toI (f (0 + Int.toNat (AV.toI (g (0 + Int.toNat (↑i : Int)) 0))) (2))) * 8))) (cond (decide (0 ≤ IntKind.wrap IntKind.i64 (IntKind.wrap IntKind.i64 (IntKind.wrap IntKind.i64 (AV.toI (f (0 + Int.toNat (AV.toI (g (0 + Int.toNat (↑i : Int)) 0))) (2))) * 8) + (↑(List.length (AV.toS (f (0 + Int.toNat (AV.toI (g (0 + Int.toNat (↑i : Int)) 0))) (4)))) : Int)))) (cond (List.take (Int.toNat (IntKind.wrap IntKind.i64 (IntKind.wrap IntKind.i64 (IntKind.wrap IntKind.i64 (AV.toI (f (0 + Int.toNat (AV.toI (g (0 + Int.toNat (↑i : Int)) 0))) (2))) * 8) + (↑(List.length (AV.toS (f (0 + Int.toNat (AV.toI (g (0 + Int.toNat (↑i : Int)) 0))) (4)))) : Int))) - Int.toNat (IntKind.wrap IntKind.i64 (IntKind.wrap IntKind.i64 (AV.toI (f (0 + Int.toNat (AV.toI (g (0 + Int.toNat (↑i : Int)) 0))) (2))) * 8))) (List.drop (Int.toNat (IntKind.wrap IntKind.i64 (IntKind.wrap IntKind.i64 (AV.toI (f (0 + Int.toNat (AV.toI (g (0 + Int.toNat (↑i : Int)) 0))) (2))) * 8))) s) == List.take (Int.toNat (IntKind.wrap IntKind.i64 (IntKind.wrap IntKind.i64 (IntKind.wrap IntKind.i64 (AV.toI (f (0 + Int.toNat (AV.toI (g (0 + Int.toNat (↑i : Int)) 0))) (2))) * 8) + (↑(List.length (AV.toS (f (0 + Int.toNat (AV.toI (g (0 + Int.toNat (↑i : Int)) 0))) (4)))) : Int))) - Int.toNat (IntKind.wrap IntKind.i64 (IntKind.wrap IntKind.i64 (AV.toI (f (0 + Int.toNat (AV.toI (g (0 + Int.toNat (↑i : Int)) 0))) (2))) * 8))) (List.drop (Int.toNat (IntKind.wrap IntKind.i64 (IntKind.wrap IntKind.i64 (AV.toI (f (0 + Int.toNat (AV.toI (g (0 + Int.toNat (↑i : Int)) 0))) (2))) * 8))) s)) (cond (Nat.ble (Int.toNat (IntKind.wrap IntKind.i64 (IntKind.wrap IntKind.i64 (AV.toI (f (0 + Int.toNat (AV.toI (g (0 + Int.toNat (↑i : Int)) 0))) (2))) * 8))) (Int.toNat (IntKind.wrap IntKind.i64 (IntKind.wrap IntKind.i64 (IntKind.wrap IntKind.i64 (AV.toI (f (0 + Int.toNat (AV.toI (g (0 + Int.toNat (↑i : Int)) 0))) (2))) * 8) + (↑(List.length (AV.toS (f (0 + Int.toNat (AV.toI (g (0 + Int.toNat (↑i : Int)) 0))) (4)))) : Int))))) (cond (Nat.ble (Int.toNat (IntKind.wrap IntKind.i64 (IntKind.wrap IntKind.i64 (IntKind.wrap IntKind.i64 (AV.toI (f (0 + Int.toNat (AV.toI (g (0 + Int.toNat (↑i : Int)) 0))) (2))) * 8) + (↑(List.length (AV.toS (f (0 + Int.toNat (AV.toI (g (0 + Int.toNat (↑i : Int)) 0))) (4)))) : Int)))) (List.length s)) (cond (decide (0 ≤ IntKind.wrap IntKind.i64 (IntKind.wrap IntKind.i64 (AV.toI (f (0 + Int.toNat (AV.toI (g (0 + Int.toNat (↑i : Int)) 0))) (2))) * 8))) (cond (decide (0 ≤ IntKind.wrap IntKind.i64 (IntKind.wrap IntKind.i64 (IntKind.wrap IntKind.i64 (AV.toI (f (0 + Int.toNat (AV.toI (g (0 + Int.toNat (↑i : Int)) 0))) (2))) * 8) + (↑(List.length (AV.toS (f (0 + Int.toNat (AV.toI (g (0 + Int.toNat (↑i : Int)) 0))) (4)))) : Int)))) (cond (List.take (Int.toNat (IntKind.wrap IntKind.i64 (IntKind.wrap IntKind.i64 (IntKind.wrap IntKind.i64 (AV.toI (f (0 + Int.toNat (AV.toI (g (0 + Int.toNat (↑i : Int)) 0))) (2))) * 8) + (↑(List.length (AV.toS (f (0 + Int.toNat (AV.toI (g (0 + Int.toNat (↑i : Int)) 0))) (4)))) : Int))) - Int.toNat (IntKind.wrap IntKind.i64 (IntKind.wrap IntKind.i64 (AV.toI (f (0 + Int.toNat (AV.toI (g (0 + Int.toNat (↑i : Int)) 0))) (2))) * 8))) (List.drop (Int.toNat (IntKind.wrap IntKind.i64 (IntKind.wrap IntKind.i64 (AV.toI (f (0 + Int.toNat (AV.toI (g (0 + Int.toNat (↑i : Int)) 0))) (2))) * 8))) s) == List.take (Int.toNat (IntKind.wrap IntKind.i64 (IntKind.wrap IntKind.i64 (IntKind.wrap IntKind.i64 (AV.toI (f (0 + Int.toNat (AV.toI (g (0 + Int.toNat (↑i : Int)) 0))) (2))) * 8) + (↑(List.length (AV.toS (f (0 + Int.toNat (AV.toI (g (0 + Int.toNat (↑i : Int)) 0))) (4)))) : Int))) - Int.toNat (IntKind.wrap IntKind.i64 (IntKind.wrap IntKind.i64 (AV.toI (f (0 + Int.toNat (AV.toI (g (0 + Int.toNat (↑i : Int)) 0))) (2))) * 8))) (List.drop (Int.toNat (IntKind.wrap IntKind.i64 (IntKind.wrap IntKind.i64 (AV.toI (f (0 + Int.toNat (AV.toI (g (0 + Int.toNat (↑i : Int)) 0))) (2))) * 8))) s)) (cond (decide ((↑(List.length (AV.toS (f (0 + Int.toNat (AV.toI (g (0 + Int.toNat (↑i : Int)) 0))) (4)))) : Int) = (↑(List.length (AV.toS (f (0 + Int.toNat (AV.toI (g (0 + Int.toNat (↑i : Int)) 0))) (4)))) : Int))) (cond (decide ((↑(List.length (AV.toS (f (0 + Int.toNat (AV.toI (g (0 + Int.toNat (↑i : Int)) 0))) (4)))) : Int) = (↑(List.length (AV.toS (f (0 + Int.toNat (AV.toI (g (0 + Int.toNat (↑i : Int)) 0))) (4)))) : Int))) (cond (AV.toS (f (0 + Int.toNat (AV.toI (g (0 + Int.toNat (↑i : Int)) 0))) (4)) == AV.toS (f (0 + Int.toNat (AV.toI (g (0 + Int.toNat (↑i : Int)) 0))) (4))) (cond (AV.toS (f (0 + Int.toNat (AV.toI (g (0 + Int.toNat (↑i : Int)) 0))) (4)) == AV.toS (f (0 + Int.toNat (AV.toI (g (0 + Int.toNat (↑i : Int)) 0))) (4))) (cond (s == s) (cond (s == s) (cond (s == s) (cond (!List.take (Int.toNat (IntKind.wrap IntKind.i64 (IntKind.wrap IntKind.i64 (IntKind.wrap IntKind.i64 (AV.toI (f (0 + Int.toNat (AV.toI (g (0 + Int.toNat (↑i : Int)) 0))) (2))) * 8) + (↑(List.length (AV.toS (f (0 + Int.toNat (AV.toI (g (0 + Int.toNat (↑i : Int)) 0))) (4)))) : Int))) - Int.toNat (IntKind.wrap IntKind.i64 (IntKind.wrap IntKind.i64 (AV.toI (f (0 + Int.toNat (AV.toI (g (0 + Int.toNat (↑i : Int)) 0))) (2))) * 8))) (List.drop (Int.toNat (IntKind.wrap IntKind.i64 (IntKind.wrap IntKind.i64 (AV.toI (f (0 + Int.toNat (AV.toI (g (0 + Int.toNat (↑i : Int)) 0))) (2))) * 8))) s) == AV.toS (f (0 + Int.toNat (AV.toI (g (0 + Int.toNat (↑i : Int)) 0))) (4)))
  (some (2, (CS.mk [(AV.bool (false))] [])))
  (some (0, (CS.mk [(AV.osl (nl) (0) (0) (n) (n) (8) (true)), (AV.ptr (1) (0)), (AV.int IntKind.i64 (if AV.toI (f (0 + Int.toNat (AV.toI (g (0 + Int.toNat (↑i : Int)) 0))) (5)) > lt then AV.toI (f (0 + Int.toNat (AV.toI (g (0 + Int.toNat (↑i : Int)) 0))) (5)) else lt)), (AV.osl (ol) (2) (0) (m) (m) (1) (true)), (AV.int IntKind.i64 ((↑m : Int))), (AV.int IntKind.i64 (IntKind.wrap IntKind.i64 ((↑i : Int) + 1)))] [some (AObj.tarr [Sh.int IntKind.u64, Sh.bool, Sh.int IntKind.u32, Sh.int IntKind.u32, Sh.str, Sh.int IntKind.i64, Sh.int IntKind.i64, Sh.bool] (n) f false), some (AObj.cells [(AV.int IntKind.u64 (0)), (AV.int IntKind.u64 (0)), (AV.str (s)), (AV.int IntKind.u64 (0)), (AV.int IntKind.u16 (0)), (AV.int IntKind.u64 (0)), (AV.int IntKind.u16 (0)), (AV.int IntKind.u64 (0)), (AV.int IntKind.u16 (0)), (AV.int IntKind.u64 (0)), (AV.int IntKind.u16 (0)), (AV.int IntKind.u64 (0)), (AV.int IntKind.u16 (0)), (AV.int IntKind.u64 (0)), (AV.int IntKind.u16 (0)), (AV.int IntKind.u64 (0)), (AV.int IntKind.u16 (0)), (AV.int IntKind.u64 (0)), (AV.int IntKind.u16 (0))] true), some (AObj.tarr [Sh.int IntKind.i64] (m) g false)])))) none) none) none) none) none) none) none) none) none) none) none) none) none) none) none) none) none) none) none)
  none)
  none)
  none)
  none))) none) none) none) none)
  (cond ((AV.toI (f (0 + Int.toNat (AV.toI (g (0 + Int.toNat (↑i : Int)) 0))) (6)) != 0) == true) none (cond ((AV.toI (f (0 + Int.toNat (AV.toI (g (0 + Int.toNat (↑i : Int)) 0))) (6)) != 0) == true) none (cond ((AV.toI (f (0 + Int.toNat (AV.toI (g (0 + Int.toNat (↑i : Int)) 0))) (6)) != 0) == true) none (cond (AV.toI (f (0 + Int.toNat (AV.toI (g (0 + Int.toNat (↑i : Int)) 0))) (6)) != 0) none (cond (AV.toB (f (0 + Int.toNat (AV.toI (g (0 + Int.toNat (↑i : Int)) 0))) (1)))
  (cond (decide (AV.toI (f (0 + Int.toNat (AV.toI (g (0 + Int.toNat (↑i : Int)) 0))) (3)) > 0) == true)
  (cond (decide (AV.toI (f (0 + Int.toNat (AV.toI (g (0 + Int.toNat (↑i : Int)) 0))) (3)) > 0) == true) (cond (decide (AV.toI (f (0 + Int.toNat (AV.toI (g (0 + Int.toNat (↑i : Int)) 0))) (3)) > 0) == true) (cond (decide (AV.toI (f (0 + Int.toNat (AV.toI (g (0 + Int.toNat (↑i : Int)) 0))) (3)) > 0) == true) (cond (decide (AV.toI (f (0 + Int.toNat (AV.toI (g (0 + Int.toNat (↑i : Int)) 0))) (3)) > 0) == true) (cond (decide (AV.toI (f (0 + Int.toNat (AV.toI (g (0 + Int.toNat (↑i : Int)) 0))) (3)) > 0)) (cond (s == s) (cond (decide (AV.toI (f (0 + Int.toNat (AV.toI (g (0 + Int.toNat (↑i : Int)) 0))) (2)) = AV.toI (f (0 + Int.toNat (AV.toI (g (0 + Int.toNat (↑i : Int)) 0))) (2)))) (cond (decide (AV.toI (f (0 + Int.toNat (AV.toI (g (0 + Int.toNat (↑i : Int)) 0))) (3)) = AV.toI (f (0 + Int.toNat (AV.toI (g (0 + Int.toNat (↑i : Int)) 0))) (3)))) (cond (decide (AV.toI (f (0 + Int.toNat (AV.toI (g (0 + Int.toNat (↑i : Int)) 0))) (2)) = AV.toI (f (0 + Int.toNat (AV.toI (g (0 + Int.toNat (↑i : Int)) 0))) (2)))) (cond (decide (AV.toI (f (0 + Int.toNat (AV.toI (g (0 + Int.toNat (↑i : Int)) 0))) (3)) = AV.toI (f (0 + Int.toNat (AV.toI (g (0 + Int.toNat (↑i : Int)) 0))) (3)))) (cond (!decide (IntKind.wrap IntKind.u64 (IntKind.wrap IntKind.u64 (AV.toI (f (0 + Int.toNat (AV.toI (g (0 + Int.toNat (↑i : Int)) 0))) (2))) + IntKind.wrap IntKind.u64 (AV.toI (f (0 + Int.toNat (AV.toI (g (0 + Int.toNat (↑i : Int)) 0))) (3)))) ≤ IntKind.wrap IntKind.u64 (IntKind.wrap IntKind.u32 (IntKind.wrap IntKind.i64 (Int.tdiv (↑(List.length s) : Int) 8)))))
  (some (2, (CS.mk [(AV.bool (false))] [])))
  (cond ((↑(List.length (AV.toS (f (0 + Int.toNat (AV.toI (g (0 + Int.toNat (↑i : Int)) 0))) (4)))) : Int) != IntKind.wrap IntKind.i64 (8 * IntKind.wrap IntKind.i64 (AV.toI (f (0 + Int.toNat (AV.toI (g (0 + Int.toNat (↑i : Int)) 0))) (3)))))
  (some (2, (CS.mk [(AV.bool (false))] [])))
  (cond (Nat.ble (Int.toNat (IntKind.wrap IntKind.i64 (IntKind.wrap IntKind.i64 (AV.toI (f (0 + Int.toNat (AV.toI (g (0 + Int.toNat (↑i : Int)) 0))) (2))) * 8))) (List.length s))
  (cond (decide (0 ≤ IntKind.wrap IntKind.i64 (IntKind.wrap IntKind.i64 (AV.toI (f (0 + Int.toNat (AV.toI (g (0 + Int.toNat (↑i : Int)) 0))) (2))) * 8)))
  (cond (Nat.ble (List.length (List.take (Int.toNat (IntKind.wrap IntKind.i64 (IntKind.wrap IntKind.i64 (AV.toI (f (0 + Int.toNat (AV.toI (g (0 + Int.toNat (↑i : Int)) 0))) (2))) * 8)) - 0) (List.drop 0 s)) + List.length (AV.toS (f (0 + Int.toNat (AV.toI (g (0 + Int.toNat (↑i : Int)) 0))) (4)))) 140737488355328)
  (cond (Nat.ble (Int.toNat (IntKind.wrap IntKind.i64 (IntKind.wrap IntKind.i64 (IntKind.wrap IntKind.i64 (AV.toI (f (0 + Int.toNat (AV.toI (g (0 + Int.toNat (↑i : Int)) 0))) (2))) * 8) + (↑(List.length (AV.toS (f (0 + Int.toNat (AV.toI (g (0 + Int.toNat (↑i : Int)) 0))) (4)))) : Int)))) (List.length s))
  (cond (Nat.ble (List.length s) (List.length s)) (cond (decide (0 ≤ IntKind.wrap IntKind.i64 (IntKind.wrap IntKind.i64 (IntKind.wrap IntKind.i64 (AV.toI (f (0 + Int.toNat (AV.toI (g (0 + Int.toNat (↑i : Int)) 0))) (2))) * 8) + (↑(List.length (AV.toS (f (0 + Int.toNat (AV.toI (g (0 + Int.toNat (↑i : Int)) 0))) (4)))) : Int))))
  (cond (Nat.ble (List.length (List.take (Int.toNat (IntKind.wrap IntKind.i64 (IntKind.wrap IntKind.i64 (AV.toI (f (0 + Int.toNat (AV.toI (g (0 + Int.toNat (↑i : Int)) 0))) (2))) * 8)) - 0) (List.drop 0 s) ++ AV.toS (f (0 + Int.toNat (AV.toI (g (0 + Int.toNat (↑i : Int)) 0))) (4))) + List.length (List.take (List.length s - Int.toNat (IntKind.wrap IntKind.i64 (IntKind.wrap IntKind.i64 (IntKind.wrap IntKind.i64 (AV.toI (f (0 + Int.toNat (AV.toI (g (0 + Int.toNat (↑i : Int)) 0))) (2))) * 8) + (↑(List.length (AV.toS (f (0 + Int.toNat (AV.toI (g (0 + Int.toNat (↑i : Int)) 0))) (4)))) : Int)))) (List.drop (Int.toNat (IntKind.wrap IntKind.i64 (IntKind.wrap IntKind.i64 (IntKind.wrap IntKind.i64 (AV.toI (f (0 + Int.toNat (AV.toI (g (0 + Int.toNat (↑i : Int)) 0))) (2))) * 8) + (↑(List.length (AV.toS (f (0 + Int.toNat (AV.toI (g (0 + Int.toNat (↑i : Int)) 0))) (4)))) : Int)))) s))) 140737488355328)
  (cond (Nat.ble (Int.toNat (IntKind.wrap IntKind.i64 (IntKind.wrap IntKind.i64 (IntKind.wrap IntKind.i64 (AV.toI (f (0 + Int.toNat (AV.toI (g (0 + Int.toNat (↑i : Int)) 0))) (2))) * 8) + (↑(List.length (AV.toS (f (0 + Int.toNat (AV.toI (g (0 + Int.toNat (↑i : Int)) 0))) (4)))) : Int)))) (List.length s)) (cond (Nat.ble (List.length s) (List.length s)) (cond (decide (0 ≤ IntKind.wrap IntKind.i64 (IntKind.wrap IntKind.i64 (IntKind.wrap IntKind.i64 (AV.toI (f (0 + Int.toNat (AV.toI (g (0 + Int.toNat (↑i : Int)) 0))) (2))) * 8) + (↑(List.length (AV.toS (f (0 + Int.toNat (AV.toI (g (0 + Int.toNat (↑i : Int)) 0))) (4)))) : Int)))) (cond (List.take (List.length s - Int.toNat (IntKind.wrap IntKind.i64 (IntKind.wrap IntKind.i64 (IntKind.wrap IntKind.i64 (AV.toI (f (0 + Int.toNat (AV.toI (g (0 + Int.toNat (↑i : Int)) 0))) (2))) * 8) + (↑(List.length (AV.toS (f (0 + Int.toNat (AV.toI (g (0 + Int.toNat (↑i : Int)) 0))) (4)))) : Int)))) (List.drop (Int.toNat (IntKind.wrap IntKind.i64 (IntKind.wrap IntKind.i64 (IntKind.wrap IntKind.i64 (AV.toI (f (0 + Int.toNat (AV.toI (g (0 + Int.toNat (↑i : Int)) 0))) (2))) * 8) + (↑(List.length (AV.toS (f (0 + Int.toNat (AV.toI (g (0 + Int.toNat (↑i : Int)) 0))) (4)))) : Int)))) s) == List.take (List.length s - Int.toNat (IntKind.wrap IntKind.i64 (IntKind.wrap IntKind.i64 (IntKind.wrap IntKind.i64 (AV.toI (f (0 + Int.toNat (AV.toI (g (0 + Int.toNat (↑i : Int)) 0))) (2))) * 8) + (↑(List.length (AV.toS (f (0 + Int.toNat (AV.toI (g (0 + Int.toNat (↑i : Int)) 0))) (4)))) : Int)))) (List.drop (Int.toNat (IntKind.wrap IntKind.i64 (IntKind.wrap IntKind.i64 (IntKind.wrap IntKind.i64 (AV.toI (f (0 + Int.toNat (AV.toI (g (0 + Int.toNat (↑i : Int)) 0))) (2))) * 8) + (↑(List.length (AV.toS (f (0 + Int.toNat (AV.toI (g (0 + Int.toNat (↑i : Int)) 0))) (4)))) : Int)))) s)) (cond (decide ((↑(List.length (AV.toS (f (0 + Int.toNat (AV.toI (g (0 + Int.toNat (↑i : Int)) 0))) (4)))) : Int) = (↑(List.length (AV.toS (f (0 + Int.toNat (AV.toI (g (0 + Int.toNat (↑i : Int)) 0))) (4)))) : Int))) (cond (s == s) (cond (Nat.ble (Int.toNat (IntKind.wrap IntKind.i64 (IntKind.wrap IntKind.i64 (AV.toI (f (0 + Int.toNat (AV.toI (g (0 + Int.toNat (↑i : Int)) 0))) (2))) * 8))) (List.length s)) (cond (decide (0 ≤ IntKind.wrap IntKind.i64 (IntKind.wrap IntKind.i64 (AV.toI (f (0 + Int.toNat (AV.toI (g (0 + Int.toNat (↑i : Int)) 0))) (2))) * 8))) (cond (List.take (Int.toNat (IntKind.wrap IntKind.i64 (IntKind.wrap IntKind.i64 (AV.toI (f (0 + Int.toNat (AV.toI (g (0 + Int.toNat (↑i : Int)) 0))) (2))) * 8)) - 0) (List.drop 0 s) == List.take (Int.toNat (IntKind.wrap IntKind.i64 (IntKind.wrap IntKind.i64 (AV.toI (f (0 + Int.toNat (AV.toI (g (0 + Int.toNat (↑i : Int)) 0))) (2))) * 8)) - 0) (List.drop 0 s)) (cond (s == s) (some (0, (CS.mk [(AV.osl (nl) (0) (0) (n) (n) (8) (true)), (AV.ptr (1) (0)), (AV.int IntKind.i64 (if AV.toI (f (0 + Int.toNat (AV.toI (g (0 + Int.toNat (↑i : Int)) 0))) (5)) > lt then AV.toI (f (0 + Int.toNat (AV.toI (g (0 + Int.toNat (↑i : Int)) 0))) (5)) else lt)), (AV.osl (ol) (2) (0) (m) (m) (1) (true)), (AV.int IntKind.i64 ((↑m : Int))), (AV.int IntKind.i64 (IntKind.wrap IntKind.i64 ((↑i : Int) + 1)))] [some (AObj.tarr [Sh.int IntKind.u64, Sh.bool, Sh.int IntKind.u32, Sh.int IntKind.u32, Sh.str, Sh.int IntKind.i64, Sh.int IntKind.i64, Sh.bool] (n) f false), some (AObj.cells [(AV.int IntKind.u64 (0)), (AV.int IntKind.u64 (0)), (AV.str (List.take (Int.toNat (IntKind.wrap IntKind.i64 (IntKind.wrap IntKind.i64 (AV.toI (f (0 + Int.toNat (AV.toI (g (0 + Int.toNat (↑i : Int)) 0))) (2))) * 8)) - 0) (List.drop 0 s) ++ AV.toS (f (0 + Int.toNat (AV.toI (g (0 + Int.toNat (↑i : Int)) 0))) (4)) ++ List.take (List.length s - Int.toNat (IntKind.wrap IntKind.i64 (IntKind.wrap IntKind.i64 (IntKind.wrap IntKind.i64 (AV.toI (f (0 + Int.toNat (AV.toI (g (0 + Int.toNat (↑i : Int)) 0))) (2))) * 8) + (↑(List.length (AV.toS (f (0 + Int.toNat (AV.toI (g (0 + Int.toNat (↑i : Int)) 0))) (4)))) : Int)))) (List.drop (Int.toNat (IntKind.wrap IntKind.i64 (IntKind.wrap IntKind.i64 (IntKind.wrap IntKind.i64 (AV.toI (f (0 + Int.toNat (AV.toI (g (0 + Int.toNat (↑i : Int)) 0))) (2))) * 8) + (↑(List.length (AV.toS (f (0 + Int.toNat (AV.toI (g (0 + Int.toNat (↑i : Int)) 0))) (4)))) : Int)))) s))), (AV.int IntKind.u64 (0)), (AV.int IntKind.u16 (0)), (AV.int IntKind.u64 (0)), (AV.int IntKind.u16 (0)), (AV.int IntKind.u64 (0)), (AV.int IntKind.u16 (0)), (AV.int IntKind.u64 (0)), (AV.int IntKind.u16 (0)), (AV.int IntKind.u64 (0)), (AV.int IntKind.u16 (0)), (AV.int IntKind.u64 (0)), (AV.int IntKind.u16 (0)), (AV.int IntKind.u64 (0)), (AV.int IntKind.u16 (0)), (AV.int IntKind.u64 (0)), (AV.int IntKind.u16 (0))] true), some (AObj.tarr [Sh.int IntKind.i64] (m) g false)]))) none) none) none) none) none) none) none) none) none) none)
  none)
  none) none)
  none)
  none)
  none)
  none))) none) none) none) none) none) none) none) none) none) none)
  (cond (decide (AV.toI (f (0 + Int.toNat (AV.toI (g (0 + Int.toNat (↑i : Int)) 0))) (3)) > 0) == true) none (cond (decide (AV.toI (f (0 + Int.toNat (AV.toI (g (0 + Int.toNat (↑i : Int)) 0))) (3)) > 0) == true) none (cond (decide (AV.toI (f (0 + Int.toNat (AV.toI (g (0 + Int.toNat (↑i : Int)) 0))) (3)) > 0) == true) none (cond (decide (AV.toI (f (0 + Int.toNat (AV.toI (g (0 + Int.toNat (↑i : Int)) 0))) (3)) > 0) == true) none (cond (decide (AV.toI (f (0 + Int.toNat (AV.toI (g (0 + Int.toNat (↑i : Int)) 0))) (3)) > 0)) none (cond (s == s) (cond (decide (AV.toI (f (0 + Int.toNat (AV.toI (g (0 + Int.toNat (↑i : Int)) 0))) (2)) = AV.toI (f (0 + Int.toNat (AV.toI (g (0 + Int.toNat (↑i : Int)) 0))) (2)))) (cond (decide (AV.toI (f (0 + Int.toNat (AV.toI (g (0 + Int.toNat (↑i : Int)) 0))) (3)) = AV.toI (f (0 + Int.toNat (AV.toI (g (0 + Int.toNat (↑i : Int)) 0))) (3)))) (cond (decide (AV.toI (f (0 + Int.toNat (AV.toI (g (0 + Int.toNat (↑i : Int)) 0))) (2)) = AV.toI (f (0 + Int.toNat (AV.toI (g (0 + Int.toNat (↑i : Int)) 0))) (2)))) (cond (decide (AV.toI (f (0 + Int.toNat (AV.toI (g (0 + Int.toNat (↑i : Int)) 0))) (3)) = AV.toI (f (0 + Int.toNat (AV.toI (g (0 + Int.toNat (↑i : Int)) 0))) (3)))) (some (2, (CS.mk [(AV.bool (false))] []))) none) none) none) none) none)))))))
  (cond (Nat.ble (Int.toNat (IntKind.wrap IntKind.i64 (IntKind.wrap IntKind.i64 (AV.toI (f (0 + Int.toNat (AV.toI (g (0 + Int.toNat (↑i : Int)) 0))) (2))) * 8))) (Int.toNat (IntKind.wrap IntKind.i64 (IntKind.wrap IntKind.i64 (IntKind.wrap IntKind.i64 (AV.toI (f (0 + Int.toNat (AV.toI (g (0 + Int.toNat (↑i : Int)) 0))) (2))) * 8) + (↑(List.length (AV.toS (f (0 + Int.toNat (AV.toI (g (0 + Int.toNat (↑i : Int)) 0))) (4)))) : Int)))))
  (cond (Nat.ble (Int.toNat (IntKind.wrap IntKind.i64 (IntKind.wrap IntKind.i64 (IntKind.wrap IntKind.i64 (AV.toI (f (0 + Int.toNat (AV.toI (g (0 + Int.toNat (↑i : Int)) 0))) (2))) * 8) + (↑(List.length (AV.toS (f (0 + Int.toNat (AV.toI (g (0 + Int.toNat (↑i : Int)) 0))) (4)))) : Int)))) (List.length s))
  (cond (decide (0 ≤ IntKind.wrap IntKind.i64 (IntKind.wrap IntKind.i64 (AV.toI (f (0 + Int.toNat (AV.toI (g (0 + Int.toNat (↑i : Int)) 0))) (2))) * 8)))
  (cond (decide (0 ≤ IntKind.wrap IntKind.i64 (IntKind.wrap IntKind.i64 (IntKind.wrap IntKind.i64 (AV.toI (f (0 + Int.toNat (AV.toI (g (0 + Int.toNat (↑i : Int)) 0))) (2))) * 8) + (↑(List.length (AV.toS (f (0 + Int.toNat (AV.toI (g (0 + Int.toNat (↑i : Int)) 0))) (4)))) : Int))))
  (cond (AV.toS (f (0 + Int.toNat (AV.toI (g (0 + Int.toNat (↑i : Int)) 0))) (4)) == AV.toS (f (0 + Int.toNat (AV.toI (g (0 + Int.toNat (↑i : Int)) 0))) (4))) (cond (AV.toS (f (0 + Int.toNat (AV.toI (g (0 + Int.toNat (↑i : Int)) 0))) (4)) == AV.toS (f (0 + Int.toNat (AV.toI (g (0 + Int.toNat (↑i : Int)) 0))) (4))) (cond (Nat.ble (Int.toNat (IntKind.wrap IntKind.i64 (IntKind.wrap IntKind.i64 (AV.toI (f (0 + Int.toNat (AV.toI (g (0 + Int.toNat (↑i : Int)) 0))) (2))) * 8))) (Int.toNat (IntKind.wrap IntKind.i64 (IntKind.wrap IntKind.i64 (IntKind.wrap IntKind.i64 (AV.toI (f (0 + Int.toNat (AV.toI (g (0 + Int.toNat (↑i : Int)) 0))) (2))) * 8) + (↑(List.length (AV.toS (f (0 + Int.toNat (AV.toI (g (0 + Int.toNat (↑i : Int)) 0))) (4)))) : Int))))) (cond (Nat.ble (Int.toNat (IntKind.wrap IntKind.i64 (IntKind.wrap IntKind.i64 (IntKind.wrap IntKind.i64 (AV.toI (f (0 + Int.toNat (AV.toI (g (0 + Int.toNat (↑i : Int)) 0))) (2))) * 8) + (↑(List.length (AV.toS (f (0 + Int.toNat (AV.toI (g (0 + Int.toNat (↑i : Int)) 0))) (4)))) : Int)))) (List.length s)) (cond (decide (0 ≤ IntKind.wrap IntKind.i64 (IntKind.wrap IntKind.i64 (AV.toI (f (0 + Int.toNat (AV.toI (g (0 + Int.toNat (↑i : Int)) 0))) (2))) * 8))) (cond (decide (0 ≤ IntKind.wrap IntKind.i64 (IntKind.wrap IntKind.i64 (IntKind.wrap IntKind.i64 (AV.toI (f (0 + Int.toNat (AV.toI (g (0 + Int.toNat (↑i : Int)) 0))) (2))) * 8) + (↑(List.length (AV.toS (f (0 + Int.toNat (AV.toI (g (0 + Int.toNat (↑i : Int)) 0))) (4)))) : Int)))) (cond (List.take (Int.toNat (IntKind.wrap IntKind.i64 (IntKind.wrap IntKind.i64 (IntKind.wrap IntKind.i64 (AV.toI (f (0 + Int.toNat (AV.toI (g (0 + Int.toNat (↑i : Int)) 0))) (2))) * 8) + (↑(List.length (AV.toS (f (0 + Int.toNat (AV.toI (g (0 + Int.toNat (↑i : Int)) 0))) (4)))) : Int))) - Int.toNat (IntKind.wrap IntKind.i64 (IntKind.wrap IntKind.i64 (AV.toI (f (0 + Int.toNat (AV.toI (g (0 + Int.toNat (↑i : Int)) 0))) (2))) * 8))) (List.drop (Int.toNat (IntKind.wrap IntKind.i64 (IntKind.wrap IntKind.i64 (AV.toI (f (0 + Int.toNat (AV.toI (g (0 + Int.toNat (↑i : Int)) 0))) (2))) * 8))) s) == List.take (Int.toNat (IntKind.wrap IntKind.i64 (IntKind.wrap IntKind.i64 (IntKind.wrap IntKind.i64 (AV.toI (f (0 + Int.toNat (AV.toI (g (0 + Int.toNat (↑i : Int)) 0))) (2))) * 8) + (↑(List.length (AV.toS (f (0 + Int.toNat (AV.toI (g (0 + Int.toNat (↑i : Int)) 0))) (4)))) : Int))) - Int.toNat (IntKind.wrap IntKind.i64 (IntKind.wrap IntKind.i64 (AV.toI (f (0 + Int.toNat (AV.toI (g (0 + Int.toNat (↑i : Int)) 0))) (2))) * 8))) (List.drop (Int.toNat (IntKind.wrap IntKind.i64 (IntKind.wrap IntKind.i64 (AV.toI (f (0 + Int.toNat (AV.toI (g (0 + Int.toNat (↑i : Int)) 0))) (2))) * 8))) s)) (cond (Nat.ble (Int.toNat (IntKind.wrap IntKind.i64 (IntKind.wrap IntKind.i64 (AV.toI (f (0 + Int.toNat (AV.toI (g (0 + Int.toNat (↑i : Int)) 0))) (2))) * 8))) (Int.toNat (IntKind.wrap IntKind.i64 (IntKind.wrap IntKind.i64 (IntKind.wrap IntKind.i64 (AV.toI (f (0 + Int.toNat (AV.toI (g (0 + Int.toNat (↑i : Int)) 0))) (2))) * 8) + (↑(List.length (AV.toS (f (0 + Int.toNat (AV.toI (g (0 + Int.toNat (↑i : Int)) 0))) (4)))) : Int))))) (cond (Nat.ble (Int.toNat (IntKind.wrap IntKind.i64 (IntKind.wrap IntKind.i64 (IntKind.wrap IntKind.i64 (AV.toI (f (0 + Int.toNat (AV.toI (g (0 + Int.toNat (↑i : Int)) 0))) (2))) * 8) + (↑(List.length (AV.toS (f (0 + Int.toNat (AV.toI (g (0 + Int.toNat (↑i : Int)) 0))) (4)))) : Int)))) (List.length s)) (cond (decide (0 ≤ IntKind.wrap IntKind.i64 (IntKind.wrap IntKind.i64 (AV.toI (f (0 + Int.toNat (AV.toI (g (0 + Int.toNat (↑i : Int)) 0))) (2))) * 8))) (cond (decide (0 ≤ IntKind.wrap IntKind.i64 (IntKind.wrap IntKind.i64 (IntKind.wrap IntKind.i64 (AV.toI (f (0 + Int.toNat (AV.toI (g (0 + Int.toNat (↑i : Int)) 0))) (2))) * 8) + (↑(List.length (AV.toS (f (0 + Int.toNat (AV.toI (g (0 + Int.toNat (↑i : Int)) 0))) (4)))) : Int)))) (cond (List.take (Int.toNat (IntKind.wrap IntKind.i64 (IntKind.wrap IntKind.i64 (IntKind.wrap IntKind.i64 (AV.toI (f (0 + Int.toNat (AV.toI (g (0 + Int.toNat (↑i : Int)) 0))) (2))) * 8) + (↑(List.length (AV.toS (f (0 + Int.toNat (AV.toI (g (0 + Int.toNat (↑i : Int)) 0))) (4)))) : Int))) - Int.toNat (IntKind.wrap IntKind.i64 (IntKind.wrap IntKind.i64 (AV.toI (f (0 + Int.toNat (AV.toI (g (0 + Int.toNat (↑i : Int)) 0))) (2))) * 8))) (List.drop (Int.toNat (IntKind.wrap IntKind.i64 (IntKind.wrap IntKind.i64 (AV.toI (f (0 + Int.toNat (AV.toI (g (0 + Int.toNat (↑i : Int)) 0))) (2))) * 8))) s) == List.take (Int.toNat (IntKind.wrap IntKind.i64 (IntKind.wrap IntKind.i64 (IntKind.wrap IntKind.i64 (AV.toI (f (0 + Int.toNat (AV.toI (g (0 + Int.toNat (↑i : Int)) 0))) (2))) * 8) + (↑(List.length (AV.toS (f (0 + Int.toNat (AV.toI (g (0 + Int.toNat (↑i : Int)) 0))) (4)))) : Int))) - Int.toNat (IntKind.wrap IntKind.i64 (IntKind.wrap IntKind.i64 (AV.toI (f (0 + Int.toNat (AV.toI (g (0 + Int.toNat (↑i : Int)) 0))) (2))) * 8))) (List.drop (Int.toNat (IntKind.wrap IntKind.i64 (IntKind.wrap IntKind.i64 (AV.toI (f (0 + Int.toNat (AV.toI (g (0 + Int.toNat (↑i : Int)) 0))) (2))) * 8))) s)) (cond (decide ((↑(List.length (AV.toS (f (0 + Int.toNat (AV.toI (g (0 + Int.toNat (↑i : Int)) 0))) (4)))) : Int) = (↑(List.length (AV.toS (f (0 + Int.toNat (AV.toI (g (0 + Int.toNat (↑i : Int)) 0))) (4)))) : Int))) (cond (decide ((↑(List.length (AV.toS (f (0 + Int.toNat (AV.toI (g (0 + Int.toNat (↑i : Int)) 0))) (4)))) : Int) = (↑(List.length (AV.toS (f (0 + Int.toNat (AV.toI (g (0 + Int.toNat (↑i : Int)) 0))) (4)))) : Int))) (cond (AV.toS (f (0 + Int.toNat (AV.toI (g (0 + Int.toNat (↑i : Int)) 0))) (4)) == AV.toS (f (0 + Int.toNat (AV.toI (g (0 + Int.toNat (↑i : Int)) 0))) (4))) (cond (AV.toS (f (0 + Int.toNat (AV.toI (g (0 + Int.toNat (↑i : Int)) 0))) (4)) == AV.toS (f (0 + Int.toNat (AV.toI (g (0 + Int.toNat (↑i : Int)) 0))) (4))) (cond (s == s) (cond (s == s) (cond (s == s) (cond (!List.take (Int.toNat (IntKind.wrap IntKind.i64 (IntKind.wrap IntKind.i64 (IntKind.wrap IntKind.i64 (AV.toI (f (0 + Int.toNat (AV.toI (g (0 + Int.toNat (↑i : Int)) 0))) (2))) * 8) + (↑(List.length (AV.toS (f (0 + Int.toNat (AV.toI (g (0 + Int.toNat (↑i : Int)) 0))) (4)))) : Int))) - Int.toNat (IntKind.wrap IntKind.i64 (IntKind.wrap IntKind.i64 (AV.toI (f (0 + Int.toNat (AV.toI (g (0 + Int.toNat (↑i : Int)) 0))) (2))) * 8))) (List.drop (Int.toNat (IntKind.wrap IntKind.i64 (IntKind.wrap IntKind.i64 (AV.toI (f (0 + Int.toNat (AV.toI (g (0 + Int.toNat (↑i : Int)) 0))) (2))) * 8))) s) == AV.toS (f (0 + Int.toNat (AV.toI (g (0 + Int.toNat (↑i : Int)) 0))) (4)))
  (some (2, (CS.mk [(AV.bool (false))] [])))
  (some (0, (CS.mk [(AV.osl (nl) (0) (0) (n) (n) (8) (true)), (AV.ptr (1) (0)), (AV.int IntKind.i64 (if AV.toI (f (0 + Int.toNat (AV.toI (g (0 + Int.toNat (↑i : Int)) 0))) (5)) > lt then AV.toI (f (0 + Int.toNat (AV.toI (g (0 + Int.toNat (↑i : Int)) 0))) (5)) else lt)), (AV.osl (ol) (2) (0) (m) (m) (1) (true)), (AV.int IntKind.i64 ((↑m : Int))), (AV.int IntKind.i64 (IntKind.wrap IntKind.i64 ((↑i : Int) + 1)))] [some (AObj.tarr [Sh.int IntKind.u64, Sh.bool, Sh.int IntKind.u32, Sh.int IntKind.u32, Sh.str, Sh.int IntKind.i64, Sh.int IntKind.i64, Sh.bool] (n) f false), some (AObj.cells [(AV.int IntKind.u64 (0)), (AV.int IntKind.u64 (0)), (AV.str (s)), (AV.int IntKind.u64 (0)), (AV.int IntKind.u16 (0)), (AV.int IntKind.u64 (0)), (AV.int IntKind.u16 (0)), (AV.int IntKind.u64 (0)), (AV.int IntKind.u16 (0)), (AV.int IntKind.u64 (0)), (AV.int IntKind.u16 (0)), (AV.int IntKind.u64 (0)), (AV.int IntKind.u16 (0)), (AV.int IntKind.u64 (0)), (AV.int IntKind.u16 (0)), (AV.int IntKind.u64 (0)), (AV.int IntKind.u16 (0)), (AV.int IntKind.u64 (0)), (AV.int IntKind.u16 (0))] true), some (AObj.tarr [Sh.int IntKind.i64] (m) g false)])))) none) none) none) none) none) none) none) none) none) none) none) none) none) none) none) none) none) none) none)
  none)
  none)
  none)
  none)))))))
  none)
  none)
  none)
  none) none)
  (some (1, (CS.mk [] [])))) := by kernel_rfl
theorem s8_eq (nl : Bool) (n : Nat) (f : Nat → Nat → AV) (s : List Nat) (lt : Int) (ol : Bool) (m : Nat) (g : Nat → Nat → AV) (i : Nat) : s8 nl n f s lt ol m g i s8_p = (cond (decide ((↑i : Int) < (↑m : Int)))
  (cond (Nat.blt (0 + Int.toNat (↑i : Int)) m)
  (cond (decide (0 ≤ AV.toI (g (0 + Int.toNat (↑i : Int)) 0)))
  (cond (decide (AV.toI (g (0 + Int.toNat (↑i : Int)) 0) < (↑n : Int)))
  (cond (Nat.blt (0 + Int.toNat (AV.toI (g (0 + Int.toNat (↑i : Int)) 0))) n)
  (cond (AV.toI (f (0 + Int.toNat (AV.toI (g (0 + Int.toNat (↑i : Int)) 0))) (6)) != 0)
  (cond (decide (AV.toI (f (0 + Int.toNat (AV.toI (g (0 + Int.toNat (↑i : Int)) 0))) (6)) ≤ lt))
  (some (2, (CS.mk [(AV.bool (false))] [])))
  (cond (AV.toB (f (0 + Int.toNat (AV.toI (g (0 + Int.toNat (↑i : Int)) 0))) (1)))
  (cond (decide (AV.toI (f (0 + Int.toNat (AV.toI (g (0 + Int.toNat (↑i : Int)) 0))) (3)) > 0))
  (cond (decide (IntKind.wrap IntKind.u64 (IntKind.wrap IntKind.u64 (AV.toI (f (0 + Int.toNat (AV.toI (g (0 + Int.toNat (↑i : Int)) 0))) (2))) + IntKind.wrap IntKind.u64 (AV.toI (f (0 + Int.toNat (AV.toI (g (0 + Int.toNat (↑i : Int)) 0))) (3)))) ≤ IntKind.wrap IntKind.u64 (IntKind.wrap IntKind.u32 (IntKind.wrap IntKind.i64 (Int.tdiv (↑(List.length s) : Int) 8)))))
  (cond ((↑(List.length (AV.toS (f (0 + Int.toNat (AV.toI (g (0 + Int.toNat (↑i : Int)) 0))) (4)))) : Int) != IntKind.wrap IntKind.i64 (8 * IntKind.wrap IntKind.i64 (AV.toI (f (0 + Int.toNat (AV.toI (g (0 + Int.toNat (↑i : Int)) 0))) (3)))))
  (some (2, (CS.mk [(AV.bool (false))] [])))
  (cond (Nat.ble (Int.toNat (IntKind.wrap IntKind.i64 (IntKind.wrap IntKind.i64 (AV.toI (f (0 + Int.toNat (AV.toI (g (0 + Int.toNat (↑i : Int)) 0))) (2))) * 8))) (List.length s))
  (cond (decide (0 ≤ IntKind.wrap IntKind.i64 (IntKind.wrap IntKind.i64 (AV.toI (f (0 + Int.toNat (AV.toI (g (0 + Int.toNat (↑i : Int)) 0))) (2))) * 8)))
  (cond (Nat.ble (List.length (List.take (Int.toNat (IntKind.wrap IntKind.i64 (IntKind.wrap IntKind.i64 (AV.toI (f (0 + Int.toNat (AV.toI (g (0 + Int.toNat (↑i : Int)) 0))) (2))) * 8)) - 0) (List.drop 0 s)) + List.length (AV.toS (f (0 + Int.toNat (AV.toI (g (0 + Int.toNat (↑i : Int)) 0))) (4)))) 140737488355328)
  (cond (Nat.ble (Int.toNat (IntKind.wrap IntKind.i64 (IntKind.wrap IntKind.i64 (IntKind.wrap IntKind.i64 (AV.toI (f (0 + Int.toNat (AV.toI (g (0 + Int.toNat (↑i : Int)) 0))) (2))) * 8) + (↑(List.length (AV.toS (f (0 + Int.toNat (AV.toI (g (0 + Int.toNat (↑i : Int)) 0))) (4)))) : Int)))) (List.length s))
  (cond (decide (0 ≤ IntKind.wrap IntKind.i64 (IntKind.wrap IntKind.i64 (IntKind.wrap IntKind.i64 (AV.toI (f (0 + Int.toNat (AV.toI (g (0 + Int.toNat (↑i : Int)) 0))) (2))) * 8) + (↑(List.length (AV.toS (f (0 + Int.toNat (AV.toI (g (0 + Int.toNat (↑i : Int)) 0))) (4)))) : Int))))
  (cond (Nat.ble (List.length (List.take (Int.toNat (IntKind.wrap IntKind.i64 (IntKind.wrap IntKind.i64 (AV.toI (f (0 + Int.toNat (AV.toI (g (0 + Int.toNat (↑i : Int)) 0))) (2))) * 8)) - 0) (List.drop 0 s) ++ AV.toS (f (0 + Int.toNat (AV.toI (g (0 + Int.toNat (↑i : Int)) 0))) (4))) + List.length (List.take (List.length s - Int.toNat (IntKind.wrap IntKind.i64 (IntKind.wrap IntKind.i64 (IntKind.wrap IntKind.i64 (AV.toI (f (0 + Int.toNat (AV.toI (g (0 + Int.toNat (↑i : Int)) 0))) (2))) * 8) + (↑(List.length (AV.toS (f (0 + Int.toNat (AV.toI (g (0 + Int.toNat (↑i : Int)) 0))) (4)))) : Int)))) (List.drop (Int.toNat (IntKind.wrap IntKind.i64 (IntKind.wrap IntKind.i64 (IntKind.wrap IntKind.i64 (AV.toI (f (0 + Int.toNat (AV.toI (g (0 + Int.toNat (↑i : Int)) 0))) (2))) * 8) + (↑(List.length (AV.toS (f (0 + Int.toNat (AV.toI (g (0 + Int.toNat (↑i : Int)) 0))) (4)))) : Int)))) s))) 140737488355328)
  (some (0, (CS.mk [(AV.osl (nl) (0) (0) (n) (n) (8) (true)), (AV.ptr (1) (0)), (AV.int IntKind.i64 (if AV.toI (f (0 + Int.toNat (AV.toI (g (0 + Int.toNat (↑i : Int)) 0))) (5)) > lt then AV.toI (f (0 + Int.toNat (AV.toI (g (0 + Int.toNat (↑i : Int)) 0))) (5)) else lt)), (AV.osl (ol) (2) (0) (m) (m) (1) (true)), (AV.int IntKind.i64 ((↑m : Int))), (AV.int IntKind.i64 (IntKind.wrap IntKind.i64 ((↑i : Int) + 1)))] [some (AObj.tarr [Sh.int IntKind.u64, Sh.bool, Sh.int IntKind.u32, Sh.int IntKind.u32, Sh.str, Sh.int IntKind.i64, Sh.int IntKind.i64, Sh.bool] (n) f false), some (AObj.cells [(AV.int IntKind.u64 (0)), (AV.int IntKind.u64 (0)), (AV.str (List.take (Int.toNat (IntKind.wrap IntKind.i64 (IntKind.wrap IntKind.i64 (AV.toI (f (0 + Int.toNat (AV.toI (g (0 + Int.toNat (↑i : Int)) 0))) (2))) * 8)) - 0) (List.drop 0 s) ++ AV.toS (f (0 + Int.toNat (AV.toI (g (0 + Int.toNat (↑i : Int)) 0))) (4)) ++ List.take (List.length s - Int.toNat (IntKind.wrap IntKind.i64 (IntKind.wrap IntKind.i64 (IntKind.wrap IntKind.i64 (AV.toI (f (0 + Int.toNat (AV.toI (g (0 + Int.toNat (↑i : Int)) 0))) (2))) * 8) + (↑(List.length (AV.toS (f (0 + Int.toNat (AV.toI (g (0 + Int.toNat (↑i : Int)) 0))) (4)))) : Int)))) (List.drop (Int.toNat (IntKind.wrap IntKind.i64 (IntKind.wrap IntKind.i64 (IntKind.wrap IntKind.i64 (AV.toI (f (0 + Int.toNat (AV.toI (g (0 + Int.toNat (↑i : Int)) 0))) (2))) * 8) + (↑(List.length (AV.toS (f (0 + Int.toNat (AV.toI (g (0 + Int.toNat (↑i : Int)) 0))) (4)))) : Int)))) s))), (AV.int IntKind.u64 (0)), (AV.int IntKind.u16 (0)), (AV.int IntKind.u64 (0)), (AV.int IntKind.u16 (0)), (AV.int IntKind.u64 (0)), (AV.int IntKind.u16 (0)), (AV.int IntKind.u64 (0)), (AV.int IntKind.u16 (0)), (AV.int IntKind.u64 (0)), (AV.int IntKind.u16 (0)), (AV.int IntKind.u64 (0)), (AV.int IntKind.u16 (0)), (AV.int IntKind.u64 (0)), (AV.int IntKind.u16 (0)), (AV.int IntKind.u64 (0)), (AV.int IntKind.u16 (0))] true), some (AObj.tarr [Sh.int IntKind.i64] (m) g false)])))
  none)
  none)
  none)
  none)
  none)
  none))
  (some (2, (CS.mk [(AV.bool (false))] []))))
  (some (2, (CS.mk [(AV.bool (false))] []))))
  (cond (Nat.ble (Int.toNat (IntKind.wrap IntKind.i64 (IntKind.wrap IntKind.i64 (AV.toI (f (0 + Int.toNat (AV.toI (g (0 + Int.toNat (↑i : Int)) 0))) (2))) * 8))) (Int.toNat (IntKind.wrap IntKind.i64 (IntKind.wrap IntKind.i64 (IntKind.wrap IntKind.i64 (AV.toI (f (0 + Int.toNat (AV.toI (g (0 + Int.toNat (↑i : Int)) 0))) (2))) * 8) + (↑(List.length (AV.toS (f (0 + Int.toNat (AV.toI (g (0 + Int.toNat (↑i : Int)) 0))) (4)))) : Int)))))
  (cond (Nat.ble (Int.toNat (IntKind.wrap IntKind.i64 (IntKind.wrap IntKind.i64 (IntKind.wrap IntKind.i64 (AV.toI (f (0 + Int.toNat (AV.toI (g (0 + Int.toNat (↑i : Int)) 0))) (2))) * 8) + (↑(List.length (AV.toS (f (0 + Int.toNat (AV.toI (g (0 + Int.toNat (↑i : Int)) 0))) (4)))) : Int)))) (List.length s))
  (cond (decide (0 ≤ IntKind.wrap IntKind.i64 (IntKind.wrap IntKind.i64 (AV.toI (f (0 + Int.toNat (AV.toI (g (0 + Int.toNat (↑i : Int)) 0))) (2))) * 8)))
  (cond (decide (0 ≤ IntKind.wrap IntKind.i64 (IntKind.wrap IntKind.i64 (IntKind.wrap IntKind.i64 (AV.toI (f (0 + Int.toNat (AV.toI (g (0 + Int.toNat (↑i : Int)) 0))) (2))) * 8) + (↑(List.length (AV.toS (f (0 + Int.toNat (AV.toI (g (0 + Int.toNat (↑i : Int)) 0))) (4)))) : Int))))
  (cond (List.take (Int.toNat (IntKind.wrap IntKind.i64 (IntKind.wrap IntKind.i64 (IntKind.wrap IntKind.i64 (AV.toI (f (0 + Int.toNat (AV.toI (g (0 + Int.toNat (↑i : Int)) 0))) (2))) * 8) + (↑(List.length (AV.toS (f (0 + Int.toNat (AV.toI (g (0 + Int.toNat (↑i : Int)) 0))) (4)))) : Int))) - Int.toNat (IntKind.wrap IntKind.i64 (IntKind.wrap IntKind.i64 (AV.toI (f (0 + Int.toNat (AV.toI (g (0 + Int.toNat (↑i : Int)) 0))) (2))) * 8))) (List.drop (Int.toNat (IntKind.wrap IntKind.i64 (IntKind.wrap IntKind.i64 (AV.toI (f (0 + Int.toNat (AV.toI (g (0 + Int.toNat (↑i : Int)) 0))) (2))) * 8))) s) == AV.toS (f (0 + Int.toNat (AV.toI (g (0 + Int.toNat (↑i : Int)) 0))) (4)))
  (some (0, (CS.mk [(AV.osl (nl) (0) (0) (n) (n) (8) (true)), (AV.ptr (1) (0)), (AV.int IntKind.i64 (if AV.toI (f (0 + Int.toNat (AV.toI (g (0 + Int.toNat (↑i : Int)) 0))) (5)) > lt then AV.toI (f (0 + Int.toNat (AV.toI (g (0 + Int.toNat (↑i : Int)) 0))) (5)) else lt)), (AV.osl (ol) (2) (0) (m) (m) (1) (true)), (AV.int IntKind.i64 ((↑m : Int))), (AV.int IntKind.i64 (IntKind.wrap IntKind.i64 ((↑i : Int) + 1)))] [some (AObj.tarr [Sh.int IntKind.u64, Sh.bool, Sh.int IntKind.u32, Sh.int IntKind.u32, Sh.str, Sh.int IntKind.i64, Sh.int IntKind.i64, Sh.bool] (n) f false), some (AObj.cells [(AV.int IntKind.u64 (0)), (AV.int IntKind.u64 (0)), (AV.str (s)), (AV.int IntKind.u64 (0)), (AV.int IntKind.u16 (0)), (AV.int IntKind.u64 (0)), (AV.int IntKind.u16 (0)), (AV.int IntKind.u64 (0)), (AV.int IntKind.u16 (0)), (AV.int IntKind.u64 (0)), (AV.int IntKind.u16 (0)), (AV.int IntKind.u64 (0)), (AV.int IntKind.u16 (0)), (AV.int IntKind.u64 (0)), (AV.int IntKind.u16 (0)), (AV.int IntKind.u64 (0)), (AV.int IntKind.u16 (0)), (AV.int IntKind.u64 (0)), (AV.int IntKind.u16 (0))] true), some (AObj.tarr [Sh.int IntKind.i64] (m) g false)])))
  (some (2, (CS.mk [(AV.bool (false))] []))))
  none)
  none)
  none)
  none)))
  (cond (AV.toB (f (0 + Int.toNat (AV.toI (g (0 + Int.toNat (↑i : Int)) 0))) (1)))
  (cond (decide (AV.toI (f (0 + Int.toNat (AV.toI (g (0 + Int.toNat (↑i : Int)) 0))) (3)) > 0))
  (cond (decide (IntKind.wrap IntKind.u64 (IntKind.wrap IntKind.u64 (AV.toI (f (0 + Int.toNat (AV.toI (g (0 + Int.toNat (↑i : Int)) 0))) (2))) + IntKind.wrap IntKind.u64 (AV.toI (f (0 + Int.toNat (AV.toI (g (0 + Int.toNat (↑i : Int)) 0))) (3)))) ≤ IntKind.wrap IntKind.u64 (IntKind.wrap IntKind.u32 (IntKind.wrap IntKind.i64 (Int.tdiv (↑(List.length s) : Int) 8)))))
  (cond ((↑(List.length (AV.toS (f (0 + Int.toNat (AV.toI (g (0 + Int.toNat (↑i : Int)) 0))) (4)))) : Int) != IntKind.wrap IntKind.i64 (8 * IntKind.wrap IntKind.i64 (AV.toI (f (0 + Int.toNat (AV.toI (g (0 + Int.toNat (↑i : Int)) 0))) (3)))))
  (some (2, (CS.mk [(AV.bool (false))] [])))
  (cond (Nat.ble (Int.toNat (IntKind.wrap IntKind.i64 (IntKind.wrap IntKind.i64 (AV.toI (f (0 + Int.toNat (AV.toI (g (0 + Int.toNat (↑i : Int)) 0))) (2))) * 8))) (List.length s))
  (cond (decide (0 ≤ IntKind.wrap IntKind.i64 (IntKind.wrap IntKind.i64 (AV.toI (f (0 + Int.toNat (AV.toI (g (0 + Int.toNat (↑i : Int)) 0))) (2))) * 8)))
  (cond (Nat.ble (List.length (List.take (Int.toNat (IntKind.wrap IntKind.i64 (IntKind.wrap IntKind.i64 (AV.toI (f (0 + Int.toNat (AV.toI (g (0 + Int.toNat (↑i : Int)) 0))) (2))) * 8)) - 0) (List.drop 0 s)) + List.length (AV.toS (f (0 + Int.toNat (AV.toI (g (0 + Int.toNat (↑i : Int)) 0))) (4)))) 140737488355328)
  (cond (Nat.ble (Int.toNat (IntKind.wrap IntKind.i64 (IntKind.wrap IntKind.i64 (IntKind.wrap IntKind.i64 (AV.toI (f (0 + Int.toNat (AV.toI (g (0 + Int.toNat (↑i : Int)) 0))) (2))) * 8) + (↑(List.length (AV.toS (f (0 + Int.toNat (AV.toI (g (0 + Int.toNat (↑i : Int)) 0))) (4)))) : Int)))) (List.length s))
  (cond (decide (0 ≤ IntKind.wrap IntKind.i64 (IntKind.wrap IntKind.i64 (IntKind.wrap IntKind.i64 (AV.toI (f (0 + Int.toNat (AV.toI (g (0 + Int.toNat (↑i : Int)) 0))) (2))) * 8) + (↑(List.length (AV.toS (f (0 + Int.toNat (AV.toI (g (0 + Int.toNat (↑i : Int)) 0))) (4)))) : Int))))
  (cond (Nat.ble (List.length (List.take (Int.toNat (IntKind.wrap IntKind.i64 (IntKind.wrap IntKind.i64 (AV.toI (f (0 + Int.toNat (AV.toI (g (0 + Int.toNat (↑i : Int)) 0))) (2))) * 8)) - 0) (List.drop 0 s) ++ AV.toS (f (0 + Int.toNat (AV.toI (g (0 + Int.toNat (↑i : Int)) 0))) (4))) + List.length (List.take (List.length s - Int.toNat (IntKind.wrap IntKind.i64 (IntKind.wrap IntKind.i64 (IntKind.wrap IntKind.i64 (AV.toI (f (0 + Int.toNat (AV.toI (g (0 + Int.toNat (↑i : Int)) 0))) (2))) * 8) + (↑(List.length (AV.toS (f (0 + Int.toNat (AV.toI (g (0 + Int.toNat (↑i : Int)) 0))) (4)))) : Int)))) (List.drop (Int.toNat (IntKind.wrap IntKind.i64 (IntKind.wrap IntKind.i64 (IntKind.wrap IntKind.i64 (AV.toI (f (0 + Int.toNat (AV.toI (g (0 + Int.toNat (↑i : Int)) 0))) (2))) * 8) + (↑(List.length (AV.toS (f (0 + Int.toNat (AV.toI (g (0 + Int.toNat (↑i : Int)) 0))) (4)))) : Int)))) s))) 140737488355328)
  (some (0, (CS.mk [(AV.osl (nl) (0) (0) (n) (n) (8) (true)), (AV.ptr (1) (0)), (AV.int IntKind.i64 (if AV.toI (f (0 + Int.toNat (AV.toI (g (0 + Int.toNat (↑i : Int)) 0))) (5)) > lt then AV.toI (f (0 + Int.toNat (AV.toI (g (0 + Int.toNat (↑i : Int)) 0))) (5)) else lt)), (AV.osl (ol) (2) (0) (m) (m) (1) (true)), (AV.int IntKind.i64 ((↑m : Int))), (AV.int IntKind.i64 (IntKind.wrap IntKind.i64 ((↑i : Int) + 1)))] [some (AObj.tarr [Sh.int IntKind.u64, Sh.bool, Sh.int IntKind.u32, Sh.int IntKind.u32, Sh.str, Sh.int IntKind.i64, Sh.int IntKind.i64, Sh.bool] (n) f false), some (AObj.cells [(AV.int IntKind.u64 (0)), (AV.int IntKind.u64 (0)), (AV.str (List.take (Int.toNat (IntKind.wrap IntKind.i64 (IntKind.wrap IntKind.i64 (AV.toI (f (0 + Int.toNat (AV.toI (g (0 + Int.toNat (↑i : Int)) 0))) (2))) * 8)) - 0) (List.drop 0 s) ++ AV.toS (f (0 + Int.toNat (AV.toI (g (0 + Int.toNat (↑i : Int)) 0))) (4)) ++ List.take (List.length s - Int.toNat (IntKind.wrap IntKind.i64 (IntKind.wrap IntKind.i64 (IntKind.wrap IntKind.i64 (AV.toI (f (0 + Int.toNat (AV.toI (g (0 + Int.toNat (↑i : Int)) 0))) (2))) * 8) + (↑(List.length (AV.toS (f (0 + Int.toNat (AV.toI (g (0 + Int.toNat (↑i : Int)) 0))) (4)))) : Int)))) (List.drop (Int.toNat (IntKind.wrap IntKind.i64 (IntKind.wrap IntKind.i64 (IntKind.wrap IntKind.i64 (AV.toI (f (0 + Int.toNat (AV.toI (g (0 + Int.toNat (↑i : Int)) 0))) (2))) * 8) + (↑(List.length (AV.toS (f (0 + Int.toNat (AV.toI (g (0 + Int.toNat (↑i : Int)) 0))) (4)))) : Int)))) s))), (AV.int IntKind.u64 (0)), (AV.int IntKind.u16 (0)), (AV.int IntKind.u64 (0)), (AV.int IntKind.u16 (0)), (AV.int IntKind.u64 (0)), (AV.int IntKind.u16 (0)), (AV.int IntKind.u64 (0)), (AV.int IntKind.u16 (0)), (AV.int IntKind.u64 (0)), (AV.int IntKind.u16 (0)), (AV.int IntKind.u64 (0)), (AV.int IntKind.u16 (0)), (AV.int IntKind.u64 (0)), (AV.int IntKind.u16 (0)), (AV.int IntKind.u64 (0)), (AV.int IntKind.u16 (0))] true), some (AObj.tarr [Sh.int IntKind.i64] (m) g false)])))
  none)
  none)
  none)
  none)
  none)
  none))
  (some (2, (CS.mk [(AV.bool (false))] []))))
  (some (2, (CS.mk [(AV.bool (false))] []))))
  (cond (Nat.ble (Int.toNat (IntKind.wrap IntKind.i64 (IntKind.wrap IntKind.i64 (AV.toI (f (0 + Int.toNat (AV.toI (g (0 + Int.toNat (↑i : Int)) 0))) (2))) * 8))) (Int.toNat (IntKind.wrap IntKind.i64 (IntKind.wrap IntKind.i64 (IntKind.wrap IntKind.i64 (AV.toI (f (0 + Int.toNat (AV.toI (g (0 + Int.toNat (↑i : Int)) 0))) (2))) * 8) + (↑(List.length (AV.toS (f (0 + Int.toNat (AV.toI (g (0 + Int.toNat (↑i : Int)) 0))) (4)))) : Int)))))
  (cond (Nat.ble (Int.toNat (IntKind.wrap IntKind.i64 (IntKind.wrap IntKind.i64 (IntKind.wrap IntKind.i64 (AV.toI (f (0 + Int.toNat (AV.toI (g (0 + Int.toNat (↑i : Int)) 0))) (2))) * 8) + (↑(List.length (AV.toS (f (0 + Int.toNat (AV.toI (g (0 + Int.toNat (↑i : Int)) 0))) (4)))) : Int)))) (List.length s))
  (cond (decide (0 ≤ IntKind.wrap IntKind.i64 (IntKind.wrap IntKind.i64 (AV.toI (f (0 + Int.toNat (AV.toI (g (0 + Int.toNat (↑i : Int)) 0))) (2))) * 8)))
  (cond (decide (0 ≤ IntKind.wrap IntKind.i64 (IntKind.wrap IntKind.i64 (IntKind.wrap IntKind.i64 (AV.toI (f (0 + Int.toNat (AV.toI (g (0 + Int.toNat (↑i : Int)) 0))) (2))) * 8) + (↑(List.length (AV.toS (f (0 + Int.toNat (AV.toI (g (0 + Int.toNat (↑i : Int)) 0))) (4)))) : Int))))
  (cond (List.take (Int.toNat (IntKind.wrap IntKind.i64 (IntKind.wrap IntKind.i64 (IntKind.wrap IntKind.i64 (AV.toI (f (0 + Int.toNat (AV.toI (g (0 + Int.toNat (↑i : Int)) 0))) (2))) * 8) + (↑(List.length (AV.toS (f (0 + Int.toNat (AV.toI (g (0 + Int.toNat (↑i : Int)) 0))) (4)))) : Int))) - Int.toNat (IntKind.wrap IntKind.i64 (IntKind.wrap IntKind.i64 (AV.toI (f (0 + Int.toNat (AV.toI (g (0 + Int.toNat (↑i : Int)) 0))) (2))) * 8))) (List.drop (Int.toNat (IntKind.wrap IntKind.i64 (IntKind.wrap IntKind.i64 (AV.toI (f (0 + Int.toNat (AV.toI (g (0 + Int.toNat (↑i : Int)) 0))) (2))) * 8))) s) == AV.toS (f (0 + Int.toNat (AV.toI (g (0 + Int.toNat (↑i : Int)) 0))) (4)))
  (some (0, (CS.mk [(AV.osl (nl) (0) (0) (n) (n) (8) (true)), (AV.ptr (1) (0)), (AV.int IntKind.i64 (if AV.toI (f (0 + Int.toNat (AV.toI (g (0 + Int.toNat (↑i : Int)) 0))) (5)) > lt then AV.toI (f (0 + Int.toNat (AV.toI (g (0 + Int.toNat (↑i : Int)) 0))) (5)) else lt)), (AV.osl (ol) (2) (0) (m) (m) (1) (true)), (AV.int IntKind.i64 ((↑m : Int))), (AV.int IntKind.i64 (IntKind.wrap IntKind.i64 ((↑i : Int) + 1)))] [some (AObj.tarr [Sh.int IntKind.u64, Sh.bool, Sh.int IntKind.u32, Sh.int IntKind.u32, Sh.str, Sh.int IntKind.i64, Sh.int IntKind.i64, Sh.bool] (n) f false), some (AObj.cells [(AV.int IntKind.u64 (0)), (AV.int IntKind.u64 (0)), (AV.str (s)), (AV.int IntKind.u64 (0)), (AV.int IntKind.u16 (0)), (AV.int IntKind.u64 (0)), (AV.int IntKind.u16 (0)), (AV.int IntKind.u64 (0)), (AV.int IntKind.u16 (0)), (AV.int IntKind.u64 (0)), (AV.int IntKind.u16 (0)), (AV.int IntKind.u64 (0)), (AV.int IntKind.u16 (0)), (AV.int IntKind.u64 (0)), (AV.int IntKind.u16 (0)), (AV.int IntKind.u64 (0)), (AV.int IntKind.u16 (0)), (AV.int IntKind.u64 (0)), (AV.int IntKind.u16 (0))] true), some (AObj.tarr [Sh.int IntKind.i64] (m) g false)])))
  (some (2, (CS.mk [(AV.bool (false))] []))))
  none)
  none)
  none)
  none)))
  none)
  none)
  none)
  none)
  (some (1, (CS.mk [] [])))) := by
  rw [s8_is]
  try simp only [eq_self, decide_true, beq_self_eq_true, Nat.beq_refl, ble_self, Int.le_refl, Nat.le_refl]
  cases (decide ((↑i : Int) < (↑m : Int))) with
  | true =>
    cases (Nat.blt (0 + Int.toNat (↑i : Int)) m) with
    | true =>
      cases (decide (0 ≤ AV.toI (g (0 + Int.toNat (↑i : Int)) 0))) with
      | true =>
        cases (decide (AV.toI (g (0 + Int.toNat (↑i : Int)) 0) < (↑n : Int))) with
        | true =>
          cases (Nat.blt (0 + Int.toNat (AV.toI (g (0 + Int.toNat (↑i : Int)) 0))) n) with
          | true =>
            cases (AV.toI (f (0 + Int.toNat (AV.toI (g (0 + Int.toNat (↑i : Int)) 0))) (6)) != 0) with
            | true =>
              cases (decide (AV.toI (f (0 + Int.toNat (AV.toI (g (0 + Int.toNat (↑i : Int)) 0))) (6)) ≤ lt)) with
              | true =>
                rfl
              | false =>
                cases (AV.toB (f (0 + Int.toNat (AV.toI (g (0 + Int.toNat (↑i : Int)) 0))) (1))) with
                | true =>
                  cases (decide (AV.toI (f (0 + Int.toNat (AV.toI (g (0 + Int.toNat (↑i : Int)) 0))) (3)) > 0)) with
                  | true =>
                    cases (decide (IntKind.wrap IntKind.u64 (IntKind.wrap IntKind.u64 (AV.toI (f (0 + Int.toNat (AV.toI (g (0 + Int.toNat (↑i : Int)) 0))) (2))) + IntKind.wrap IntKind.u64 (AV.toI (f (0 + Int.toNat (AV.toI (g (0 + Int.toNat (↑i : Int)) 0))) (3)))) ≤ IntKind.wrap IntKind.u64 (IntKind.wrap IntKind.u32 (IntKind.wrap IntKind.i64 (Int.tdiv (↑(List.length s) : Int) 8))))) with
                    | true =>
                      cases ((↑(List.length (AV.toS (f (0 + Int.toNat (AV.toI (g (0 + Int.toNat (↑i : Int)) 0))) (4)))) : Int) != IntKind.wrap IntKind.i64 (8 * IntKind.wrap IntKind.i64 (AV.toI (f (0 + Int.toNat (AV.toI (g (0 + Int.toNat (↑i : Int)) 0))) (3))))) with
                      | true =>
                        rfl
                      | false =>
                        cases (Nat.ble (Int.toNat (IntKind.wrap IntKind.i64 (IntKind.wrap IntKind.i64 (AV.toI (f (0 + Int.toNat (AV.toI (g (0 + Int.toNat (↑i : Int)) 0))) (2))) * 8))) (List.length s)) with
                        | true =>
                          cases (decide (0 ≤ IntKind.wrap IntKind.i64 (IntKind.wrap IntKind.i64 (AV.toI (f (0 + Int.toNat (AV.toI (g (0 + Int.toNat (↑i : Int)) 0))) (2))) * 8))) with
                          | true =>
                            cases (Nat.ble (List.length (List.take (Int.toNat (IntKind.wrap IntKind.i64 (IntKind.wrap IntKind.i64 (AV.toI (f (0 + Int.toNat (AV.toI (g (0 + Int.toNat (↑i : Int)) 0))) (2))) * 8)) - 0) (List.drop 0 s)) + List.length (AV.toS (f (0 + Int.toNat (AV.toI (g (0 + Int.toNat (↑i : Int)) 0))) (4)))) 140737488355328) with
                            | true =>
                              cases (Nat.ble (Int.toNat (IntKind.wrap IntKind.i64 (IntKind.wrap IntKind.i64 (IntKind.wrap IntKind.i64 (AV.toI (f (0 + Int.toNat (AV.toI (g (0 + Int.toNat (↑i : Int)) 0))) (2))) * 8) + (↑(List.length (AV.toS (f (0 + Int.toNat (AV.toI (g (0 + Int.toNat (↑i : Int)) 0))) (4)))) : Int)))) (List.length s)) with
                              | true =>
                                cases (decide (0 ≤ IntKind.wrap IntKind.i64 (IntKind.wrap IntKind.i64 (IntKind.wrap IntKind.i64 (AV.toI (f (0 + Int.toNat (AV.toI (g (0 + Int.toNat (↑i : Int)) 0))) (2))) * 8) + (↑(List.length (AV.toS (f (0 + Int.toNat (AV.toI (g (0 + Int.toNat (↑i : Int)) 0))) (4)))) : Int)))) with
                                | true =>
                                  cases (Nat.ble (List.length (List.take (Int.toNat (IntKind.wrap IntKind.i64 (IntKind.wrap IntKind.i64 (AV.toI (f (0 + Int.toNat (AV.toI (g (0 + Int.toNat (↑i : Int)) 0))) (2))) * 8)) - 0) (List.drop 0 s) ++ AV.toS (f (0 + Int.toNat (AV.toI (g (0 + Int.toNat (↑i : Int)) 0))) (4))) + List.length (List.take (List.length s - Int.toNat (IntKind.wrap IntKind.i64 (IntKind.wrap IntKind.i64 (IntKind.wrap IntKind.i64 (AV.toI (f (0 + Int.toNat (AV.toI (g (0 + Int.toNat (↑i : Int)) 0))) (2))) * 8) + (↑(List.length (AV.toS (f (0 + Int.toNat (AV.toI (g (0 + Int.toNat (↑i : Int)) 0))) (4)))) : Int)))) (List.drop (Int.toNat (IntKind.wrap IntKind.i64 (IntKind.wrap IntKind.i64 (IntKind.wrap IntKind.i64 (AV.toI (f (0 + Int.toNat (AV.toI (g (0 + Int.toNat (↑i : Int)) 0))) (2))) * 8) + (↑(List.length (AV.toS (f (0 + Int.toNat (AV.toI (g (0 + Int.toNat (↑i : Int)) 0))) (4)))) : Int)))) s))) 140737488355328) with
                                  | true =>
                                    rfl
                                  | false =>
                                    rfl
                                | false =>
                                  rfl
                              | false =>
                                rfl
                            | false =>
                              rfl
                          | false =>
                            rfl
                        | false =>
                          rfl
                    | false =>
                      rfl
                  | false =>
                    rfl
                | false =>
                  cases (Nat.ble (Int.toNat (IntKind.wrap IntKind.i64 (IntKind.wrap IntKind.i64 (AV.toI (f (0 + Int.toNat (AV.toI (g (0 + Int.toNat (↑i : Int)) 0))) (2))) * 8))) (Int.toNat (IntKind.wrap IntKind.i64 (IntKind.wrap IntKind.i64 (IntKind.wrap IntKind.i64 (AV.toI (f (0 + Int.toNat (AV.toI (g (0 + Int.toNat (↑i : Int)) 0))) (2))) * 8) + (↑(List.length (AV.toS (f (0 + Int.toNat (AV.toI (g (0 + Int.toNat (↑i : Int)) 0))) (4)))) : Int))))) with
                  | true =>
                    cases (Nat.ble (Int.toNat (IntKind.wrap IntKind.i64 (IntKind.wrap IntKind.i64 (IntKind.wrap IntKind.i64 (AV.toI (f (0 + Int.toNat (AV.toI (g (0 + Int.toNat (↑i : Int)) 0))) (2))) * 8) + (↑(List.length (AV.toS (f (0 + Int.toNat (AV.toI (g (0 + Int.toNat (↑i : Int)) 0))) (4)))) : Int)))) (List.length s)) with
                    | true =>
                      cases (decide (0 ≤ IntKind.wrap IntKind.i64 (IntKind.wrap IntKind.i64 (AV.toI (f (0 + Int.toNat (AV.toI (g (0 + Int.toNat (↑i : Int)) 0))) (2))) * 8))) with
                      | true =>
                        cases (decide (0 ≤ IntKind.wrap IntKind.i64 (IntKind.wrap IntKind.i64 (IntKind.wrap IntKind.i64 (AV.toI (f (0 + Int.toNat (AV.toI (g (0 + Int.toNat (↑i : Int)) 0))) (2))) * 8) + (↑(List.length (AV.toS (f (0 + Int.toNat (AV.toI (g (0 + Int.toNat (↑i : Int)) 0))) (4)))) : Int)))) with
                        | true =>
                          cases (List.take (Int.toNat (IntKind.wrap IntKind.i64 (IntKind.wrap IntKind.i64 (IntKind.wrap IntKind.i64 (AV.toI (f (0 + Int.toNat (AV.toI (g (0 + Int.toNat (↑i : Int)) 0))) (2))) * 8) + (↑(List.length (AV.toS (f (0 + Int.toNat (AV.toI (g (0 + Int.toNat (↑i : Int)) 0))) (4)))) : Int))) - Int.toNat (IntKind.wrap IntKind.i64 (IntKind.wrap IntKind.i64 (AV.toI (f (0 + Int.toNat (AV.toI (g (0 + Int.toNat (↑i : Int)) 0))) (2))) * 8))) (List.drop (Int.toNat (IntKind.wrap IntKind.i64 (IntKind.wrap IntKind.i64 (AV.toI (f (0 + Int.toNat (AV.toI (g (0 + Int.toNat (↑i : Int)) 0))) (2))) * 8))) s) == AV.toS (f (0 + Int.toNat (AV.toI (g (0 + Int.toNat (↑i : Int)) 0))) (4))) with
                          | true =>
                            rfl
                          | false =>
                            rfl
                        | false =>
                          rfl
                      | false =>
                        rfl
                    | false =>
                      rfl
                  | false =>
                    rfl
            | false =>
              cases (AV.toB (f (0 + Int.toNat (AV.toI (g (0 + Int.toNat (↑i : Int)) 0))) (1))) with
              | true =>
                cases (decide (AV.toI (f (0 + Int.toNat (AV.toI (g (0 + Int.toNat (↑i : Int)) 0))) (3)) > 0)) with
                | true =>
                  cases (decide (IntKind.wrap IntKind.u64 (IntKind.wrap IntKind.u64 (AV.toI (f (0 + Int.toNat (AV.toI (g (0 + Int.toNat (↑i : Int)) 0))) (2))) + IntKind.wrap IntKind.u64 (AV.toI (f (0 + Int.toNat (AV.toI (g (0 + Int.toNat (↑i : Int)) 0))) (3)))) ≤ IntKind.wrap IntKind.u64 (IntKind.wrap IntKind.u32 (IntKind.wrap IntKind.i64 (Int.tdiv (↑(List.length s) : Int) 8))))) with
                  | true =>
                    cases ((↑(List.length (AV.toS (f (0 + Int.toNat (AV.toI (g (0 + Int.toNat (↑i : Int)) 0))) (4)))) : Int) != IntKind.wrap IntKind.i64 (8 * IntKind.wrap IntKind.i64 (AV.toI (f (0 + Int.toNat (AV.toI (g (0 + Int.toNat (↑i : Int)) 0))) (3))))) with
                    | true =>
                      rfl
                    | false =>
                      cases (Nat.ble (Int.toNat (IntKind.wrap IntKind.i64 (IntKind.wrap IntKind.i64 (AV.toI (f (0 + Int.toNat (AV.toI (g (0 + Int.toNat (↑i : Int)) 0))) (2))) * 8))) (List.length s)) with
                      | true =>
                        cases (decide (0 ≤ IntKind.wrap IntKind.i64 (IntKind.wrap IntKind.i64 (AV.toI (f (0 + Int.toNat (AV.toI (g (0 + Int.toNat (↑i : Int)) 0))) (2))) * 8))) with
                        | true =>
                          cases (Nat.ble (List.length (List.take (Int.toNat (IntKind.wrap IntKind.i64 (IntKind.wrap IntKind.i64 (AV.toI (f (0 + Int.toNat (AV.toI (g (0 + Int.toNat (↑i : Int)) 0))) (2))) * 8)) - 0) (List.drop 0 s)) + List.length (AV.toS (f (0 + Int.toNat (AV.toI (g (0 + Int.toNat (↑i : Int)) 0))) (4)))) 140737488355328) with
                          | true =>
                            cases (Nat.ble (Int.toNat (IntKind.wrap IntKind.i64 (IntKind.wrap IntKind.i64 (IntKind.wrap IntKind.i64 (AV.toI (f (0 + Int.toNat (AV.toI (g (0 + Int.toNat (↑i : Int)) 0))) (2))) * 8) + (↑(List.length (AV.toS (f (0 + Int.toNat (AV.toI (g (0 + Int.toNat (↑i : Int)) 0))) (4)))) : Int)))) (List.length s)) with
                            | true =>
                              cases (decide (0 ≤ IntKind.wrap IntKind.i64 (IntKind.wrap IntKind.i64 (IntKind.wrap IntKind.i64 (AV.toI (f (0 + Int.toNat (AV.toI (g (0 + Int.toNat (↑i : Int)) 0))) (2))) * 8) + (↑(List.length (AV.toS (f (0 + Int.toNat (AV.toI (g (0 + Int.toNat (↑i : Int)) 0))) (4)))) : Int)))) with
                              | true =>
                                cases (Nat.ble (List.length (List.take (Int.toNat (IntKind.wrap IntKind.i64 (IntKind.wrap IntKind.i64 (AV.toI (f (0 + Int.toNat (AV.toI (g (0 + Int.toNat (↑i : Int)) 0))) (2))) * 8)) - 0) (List.drop 0 s) ++ AV.toS (f (0 + Int.toNat (AV.toI (g (0 + Int.toNat (↑i : Int)) 0))) (4))) + List.length (List.take (List.length s - Int.toNat (IntKind.wrap IntKind.i64 (IntKind.wrap IntKind.i64 (IntKind.wrap IntKind.i64 (AV.toI (f (0 + Int.toNat (AV.toI (g (0 + Int.toNat (↑i : Int)) 0))) (2))) * 8) + (↑(List.length (AV.toS (f (0 + Int.toNat (AV.toI (g (0 + Int.toNat (↑i : Int)) 0))) (4)))) : Int)))) (List.drop (Int.toNat (IntKind.wrap IntKind.i64 (IntKind.wrap IntKind.i64 (IntKind.wrap IntKind.i64 (AV.toI (f (0 + Int.toNat (AV.toI (g (0 + Int.toNat (↑i : Int)) 0))) (2))) * 8) + (↑(List.length (AV.toS (f (0 + Int.toNat (AV.toI (g (0 + Int.toNat (↑i : Int)) 0))) (4)))) : Int)))) s))) 140737488355328) with
                                | true =>
                                  rfl
                                | false =>
                                  rfl
                              | false =>
                                rfl
                            | false =>
                              rfl
                          | false =>
                            rfl
                        | false =>
                          rfl
                      | false =>
                        rfl
                  | false =>
                    rfl
                | false =>
                  rfl
              | false =>
                cases (Nat.ble (Int.toNat (IntKind.wrap IntKind.i64 (IntKind.wrap IntKind.i64 (AV.toI (f (0 + Int.toNat (AV.toI (g (0 + Int.toNat (↑i : Int)) 0))) (2))) * 8))) (Int.toNat (IntKind.wrap IntKind.i64 (IntKind.wrap IntKind.i64 (IntKind.wrap IntKind.i64 (AV.toI (f (0 + Int.toNat (AV.toI (g (0 + Int.toNat (↑i : Int)) 0))) (2))) * 8) + (↑(List.length (AV.toS (f (0 + Int.toNat (AV.toI (g (0 + Int.toNat (↑i : Int)) 0))) (4)))) : Int))))) with
                | true =>
                  cases (Nat.ble (Int.toNat (IntKind.wrap IntKind.i64 (IntKind.wrap IntKind.i64 (IntKind.wrap IntKind.i64 (AV.toI (f (0 + Int.toNat (AV.toI (g (0 + Int.toNat (↑i : Int)) 0))) (2))) * 8) + (↑(List.length (AV.toS (f (0 + Int.toNat (AV.toI (g (0 + Int.toNat (↑i : Int)) 0))) (4)))) : Int)))) (List.length s)) with
                  | true =>
                    cases (decide (0 ≤ IntKind.wrap IntKind.i64 (IntKind.wrap IntKind.i64 (AV.toI (f (0 + Int.toNat (AV.toI (g (0 + Int.toNat (↑i : Int)) 0))) (2))) * 8))) with
                    | true =>
                      cases (decide (0 ≤ IntKind.wrap IntKind.i64 (IntKind.wrap IntKind.i64 (IntKind.wrap IntKind.i64 (AV.toI (f (0 + Int.toNat (AV.toI (g (0 + Int.toNat (↑i : Int)) 0))) (2))) * 8) + (↑(List.length (AV.toS (f (0 + Int.toNat (AV.toI (g (0 + Int.toNat (↑i : Int)) 0))) (4)))) : Int)))) with
                      | true =>
                        cases (List.take (Int.toNat (IntKind.wrap IntKind.i64 (IntKind.wrap IntKind.i64 (IntKind.wrap IntKind.i64 (AV.toI (f (0 + Int.toNat (AV.toI (g (0 + Int.toNat (↑i : Int)) 0))) (2))) * 8) + (↑(List.length (AV.toS (f (0 + Int.toNat (AV.toI (g (0 + Int.toNat (↑i : Int)) 0))) (4)))) : Int))) - Int.toNat (IntKind.wrap IntKind.i64 (IntKind.wrap IntKind.i64 (AV.toI (f (0 + Int.toNat (AV.toI (g (0 + Int.toNat (↑i : Int)) 0))) (2))) * 8))) (List.drop (Int.toNat (IntKind.wrap IntKind.i64 (IntKind.wrap IntKind.i64 (AV.toI (f (0 + Int.toNat (AV.toI (g (0 + Int.toNat (↑i : Int)) 0))) (2))) * 8))) s) == AV.toS (f (0 + Int.toNat (AV.toI (g (0 + Int.toNat (↑i : Int)) 0))) (4))) with
                        | true =>
                          rfl
                        | false =>
                          rfl
                      | false =>
                        rfl
                    | false =>
                      rfl
                  | false =>
                    rfl
                | false =>
                  rfl
          | false =>
            rfl
        | false =>
          rfl
      | false =>
        rfl
    | false =>
      rfl
  | false =>
    rfl

noncomputable def k8 (nl : Bool) (n : Nat) (f : Nat → Nat → AV) (bl : Int) (ol : Bool) (m : Nat) (g : Nat → Nat → AV) (π : Plan) : Option CS := callC (EK) (1500) (8) (0) (.keep) ([]) π (a7 nl n f bl ol m g)
def k8_p : Plan := (.must true (.reck 1 (.must true (.fork (.fork (.must true (.must true (.must true (.must true (.reck 1 (.must true (.reck 1 (.must true (.fork (.fork (.must true (.must false (.fork .stop (.fork (.must true (.fork (.fork (.fork (.fork (.must true (.reck 1 (.must true (.must true (.reck 2 (.must true (.reck 19 (.must true (.must true (.must true (.fork (.fork .stop .stop) .stop))))))))))) .stop) .stop) .stop) .stop)) .stop)))) .stop) .stop))))))))) (.must false (.must false (.must false (.must true .stop))))) .stop))))
theorem k8_is (nl : Bool) (n : Nat) (f : Nat → Nat → AV) (bl : Int) (ol : Bool) (m : Nat) (g : Nat → Nat → AV) : k8 nl n f bl ol m g k8_p = (cond (decide (n = n)) (cond (decide (n = n)) (cond ((rngV f (n)))
  (cond ((!gV bl f n) == false)
  (cond ((!gV bl f n) == false) (cond ((!gV bl f n) == false) (cond (decide (n = n)) (cond (decide (m = m)) (cond (decide (n = n)) (cond (decide (m = m)) (cond (Nat.ble n 1000)
  (cond (Nat.ble m 1000)
  (cond ((!gV bl f n) == false) (cond (!gV bl f n) none (cond (!(okSV f n g m && okTV f n (seenV g m)))
  (some (CS.mk [(AV.bool (false))] []))
  (cond (decide (0 ≤ IntKind.wrap IntKind.i64 (IntKind.wrap IntKind.i64 bl * 8)))
  (cond (decide (IntKind.wrap IntKind.i64 (IntKind.wrap IntKind.i64 bl * 8) ≤ IntKind.wrap IntKind.i64 (IntKind.wrap IntKind.i64 bl * 8))) (cond (decide (IntKind.wrap IntKind.i64 (IntKind.wrap IntKind.i64 bl * 8) ≤ 281474976710656))
  (cond (Nat.ble (1 * Int.toNat (IntKind.wrap IntKind.i64 (IntKind.wrap IntKind.i64 bl * 8))) 281474976710656)
  (cond (Nat.ble (0 + Int.toNat (IntKind.wrap IntKind.i64 (IntKind.wrap IntKind.i64 bl * 8))) (Int.toNat (IntKind.wrap IntKind.i64 (IntKind.wrap IntKind.i64 bl * 8))))
  (cond (List.all (List.range (Int.toNat (IntKind.wrap IntKind.i64 (IntKind.wrap IntKind.i64 bl * 8)))) fun i => decide (0 ≤ byteAt (fun x j => getAt [AV.int IntKind.u8 (Int.ofNat 0)] j) (0 + i)) && decide (byteAt (fun x j => getAt [AV.int IntKind.u8 (Int.ofNat 0)] j) (0 + i) < 256))
  (cond (decide (n = n)) (cond (decide (m = m)) (cond (decide ((↑m : Int) = (↑m : Int))) (cond (decide (n = n)) (cond (decide (m = m)) (cond (Nat.ble n 1000) (cond (Nat.ble m 1000) (cond ((okDV f (n) g (m) (List.length (List.map (fun i => Int.toNat (byteAt (fun x j => getAt [AV.int IntKind.u8 (Int.ofNat 0)] j) (0 + i))) (List.range (Int.toNat (IntKind.wrap IntKind.i64 (IntKind.wrap IntKind.i64 bl * 8))))))))
  (cond ((witV f g (m) (List.map (fun i => Int.toNat (byteAt (fun x j => getAt [AV.int IntKind.u8 (Int.ofNat 0)] j) (0 + i))) (List.range (Int.toNat (IntKind.wrap IntKind.i64 (IntKind.wrap IntKind.i64 bl * 8)))))))
  (some (CS.mk [(AV.bool (true))] []))
  (some (CS.mk [(AV.bool (false))] [])))
  none) none) none) none) none) none) none) none)
  none)
  none)
  none)
  none) none)
  none))) none)
  none)
  none) none) none) none) none) none) none)
  (cond ((!gV bl f n) == false) none (cond ((!gV bl f n) == false) none (cond ((!gV bl f n) == false) none (cond (!gV bl f n) (some (CS.mk [(AV.bool (false))] [])) none)))))
  none) none) none) := by kernel_rfl
theorem k8_eq (nl : Bool) (n : Nat) (f : Nat → Nat → AV) (bl : Int) (ol : Bool) (m : Nat) (g : Nat → Nat → AV) : k8 nl n f bl ol m g k8_p = (cond (rngV f (n))
  (cond (gV bl f n)
  (cond (Nat.ble n 1000)
  (cond (Nat.ble m 1000)
  (cond (okSV f n g m && okTV f n (seenV g m))
  (cond (decide (0 ≤ IntKind.wrap IntKind.i64 (IntKind.wrap IntKind.i64 bl * 8)))
  (cond (decide (IntKind.wrap IntKind.i64 (IntKind.wrap IntKind.i64 bl * 8) ≤ 281474976710656))
  (cond (Nat.ble (1 * Int.toNat (IntKind.wrap IntKind.i64 (IntKind.wrap IntKind.i64 bl * 8))) 281474976710656)
  (cond (Nat.ble (0 + Int.toNat (IntKind.wrap IntKind.i64 (IntKind.wrap IntKind.i64 bl * 8))) (Int.toNat (IntKind.wrap IntKind.i64 (IntKind.wrap IntKind.i64 bl * 8))))
  (cond (List.all (List.range (Int.toNat (IntKind.wrap IntKind.i64 (IntKind.wrap IntKind.i64 bl * 8)))) fun i => decide (0 ≤ byteAt (fun x j => getAt [AV.int IntKind.u8 (Int.ofNat 0)] j) (0 + i)) && decide (byteAt (fun x j => getAt [AV.int IntKind.u8 (Int.ofNat 0)] j) (0 + i) < 256))
  (cond (okDV f (n) g (m) (List.length (List.map (fun i => Int.toNat (byteAt (fun x j => getAt [AV.int IntKind.u8 (Int.ofNat 0)] j) (0 + i))) (List.range (Int.toNat (IntKind.wrap IntKind.i64 (IntKind.wrap IntKind.i64 bl * 8)))))))
  (cond (witV f g (m) (List.map (fun i => Int.toNat (byteAt (fun x j => getAt [AV.int IntKind.u8 (Int.ofNat 0)] j) (0 + i))) (List.range (Int.toNat (IntKind.wrap IntKind.i64 (IntKind.wrap IntKind.i64 bl * 8))))))
  (some (CS.mk [(AV.bool (true))] []))
  (some (CS.mk [(AV.bool (false))] [])))
  none)
  none)
  none)
  none)
  none)
  none)
  (some (CS.mk [(AV.bool (false))] [])))
  none)
  none)
  (some (CS.mk [(AV.bool (false))] [])))
  none) := by
  rw [k8_is]
  try simp only [eq_self, decide_true, beq_self_eq_true, Nat.beq_refl, ble_self, Int.le_refl, Nat.le_refl]
  cases (rngV f (n)) with
  | true =>
    cases (gV bl f n) with
    | true =>
      cases (Nat.ble n 1000) with
      | true =>
        cases (Nat.ble m 1000) with
        | true =>
          cases (okSV f n g m && okTV f n (seenV g m)) with
          | true =>
            cases (decide (0 ≤ IntKind.wrap IntKind.i64 (IntKind.wrap IntKind.i64 bl * 8))) with
            | true =>
              cases (decide (IntKind.wrap IntKind.i64 (IntKind.wrap IntKind.i64 bl * 8) ≤ 281474976710656)) with
              | true =>
                cases (Nat.ble (1 * Int.toNat (IntKind.wrap IntKind.i64 (IntKind.wrap IntKind.i64 bl * 8))) 281474976710656) with
                | true =>
                  cases (Nat.ble (0 + Int.toNat (IntKind.wrap IntKind.i64 (IntKind.wrap IntKind.i64 bl * 8))) (Int.toNat (IntKind.wrap IntKind.i64 (IntKind.wrap IntKind.i64 bl * 8)))) with
                  | true =>
                    cases (List.all (List.range (Int.toNat (IntKind.wrap IntKind.i64 (IntKind.wrap IntKind.i64 bl * 8)))) fun i => decide (0 ≤ byteAt (fun x j => getAt [AV.int IntKind.u8 (Int.ofNat 0)] j) (0 + i)) && decide (byteAt (fun x j => getAt [AV.int IntKind.u8 (Int.ofNat 0)] j) (0 + i) < 256)) with
                    | true =>
                      cases (okDV f (n) g (m) (List.length (List.map (fun i => Int.toNat (byteAt (fun x j => getAt [AV.int IntKind.u8 (Int.ofNat 0)] j) (0 + i))) (List.range (Int.toNat (IntKind.wrap IntKind.i64 (IntKind.wrap IntKind.i64 bl * 8))))))) with
                      | true =>
                        cases (witV f g (m) (List.map (fun i => Int.toNat (byteAt (fun x j => getAt [AV.int IntKind.u8 (Int.ofNat 0)] j) (0 + i))) (List.range (Int.toNat (IntKind.wrap IntKind.i64 (IntKind.wrap IntKind.i64 bl * 8)))))) with
                        | true =>
                          rfl
                        | false =>
                          rfl
                      | false =>
                        rfl
                    | false =>
                      rfl
                  | false =>
                    rfl
                | false =>
                  rfl
              | false =>
                rfl
            | false =>
              rfl
          | false =>
            rfl
        | false =>
          rfl
      | false =>
        rfl
    | false =>
      rfl
  | false =>
    rfl

noncomputable def s9 (nl : Bool) (n : Nat) (f : Nat → Nat → AV) (s : List Nat) (ol : Bool) (m : Nat) (g : Nat → Nat → AV) (i : Nat) (π : Plan) : Option (Nat × CS) := stepC (EL) (800) (loopC EL 9 0) (0) (h9) ((.normal, h9) :: x9) π (c9 nl n f s ol m g i)
def s9_p : Plan := (.fork (.reck 1 (.must true (.fork (.fork (.fork (.fork (.fork (.reck 1 (.fork (.must true (.must true (.must true (.must true (.must true (.reck 2 (.must true (.reck 16 (.must true (.must true (.must true (.must true (.fork (.must true (.must true (.must true (.must true (.must true (.must true (.must true (.must true (.must true (.reck 2 (.must true .stop))))))))))) (.fork (.must true (.must true (.must true (.must true (.must true (.must true (.must true (.must true (.must true (.reck 2 (.must true .stop))))))))))) (.reck 1 (.fork (.fork (.fork (.fork (.must true (.fork (.fork (.must true (.must true (.must true (.must true (.must true (.must true (.reck 1 (.must true (.must true (.must true (.must true (.must true (.must true (.must true (.must true (.must true (.must true (.must true (.must true (.must true (.reck 2 (.must true .stop)))))))))))))))))))))) .stop) .stop)) .stop) .stop) .stop) .stop)))))))))))))))) (.must false (.must false (.must false (.must false (.must false (.reck 2 (.must true (.reck 16 (.must true (.must true (.must true (.must true (.reck 1 (.must true (.must true (.must true (.must true (.must true (.must true (.must true (.must true (.must true (.reck 2 (.must true .stop)))))))))))))))))))))))))) (.fork (.fork (.fork (.fork (.must true (.must true (.must true (.must true (.must true (.must true (.must true (.must true (.must true (.must true (.must true (.must true (.must true (.must true (.must true (.must true (.must true (.must true (.reck 2 (.must true (.reck 16 (.must true (.must true (.must true (.must true (.must true (.must true (.must true (.must true (.must true (.reck 2 (.must true .stop)))))))))))))))))))))))))))))))) .stop) .stop) .stop) .stop)) .stop) .stop) .stop) .stop))) .stop)
theorem s9_is (nl : Bool) (n : Nat) (f : Nat → Nat → AV) (s : List Nat) (ol : Bool) (m : Nat) (g : Nat → Nat → AV) (i : Nat) : s9 nl n f s ol m g i s9_p = (cond (decide ((↑i : Int) < (↑m : Int)))
  (cond (decide ((↑i : Int) < (↑m : Int))) (cond (Nat.blt (0 + Int.toNat (↑i : Int)) m)
  (cond (decide (0 ≤ AV.toI (g (0 + Int.toNat (↑i : Int)) 0)))
  (cond (decide (AV.toI (g (0 + Int.toNat (↑i : Int)) 0) < (↑n : Int)))
  (cond (Nat.blt (0 + Int.toNat (AV.toI (g (0 + Int.toNat (↑i : Int)) 0))) n)
  (cond (AV.toB (f (0 + Int.toNat (AV.toI (g (0 + Int.toNat (↑i : Int)) 0))) (1)))
  (cond (decide (AV.toI (f (0 + Int.toNat (AV.toI (g (0 + Int.toNat (↑i : Int)) 0))) (3)) > 0) == true)
  (cond (decide (AV.toI (f (0 + Int.toNat (AV.toI (g (0 + Int.toNat (↑i : Int)) 0))) (3)) > 0) == true) (cond (decide (AV.toI (f (0 + Int.toNat (AV.toI (g (0 + Int.toNat (↑i : Int)) 0))) (3)) > 0) == true) (cond (decide (AV.toI (f (0 + Int.toNat (AV.toI (g (0 + Int.toNat (↑i : Int)) 0))) (3)) > 0) == true) (cond (decide (AV.toI (f (0 + Int.toNat (AV.toI (g (0 + Int.toNat (↑i : Int)) 0))) (3)) > 0) == true) (cond (decide (AV.toI (f (0 + Int.toNat (AV.toI (g (0 + Int.toNat (↑i : Int)) 0))) (3)) > 0)) (cond (s == s) (cond (decide (AV.toI (f (0 + Int.toNat (AV.toI (g (0 + Int.toNat (↑i : Int)) 0))) (2)) = AV.toI (f (0 + Int.toNat (AV.toI (g (0 + Int.toNat (↑i : Int)) 0))) (2)))) (cond (decide (AV.toI (f (0 + Int.toNat (AV.toI (g (0 + Int.toNat (↑i : Int)) 0))) (3)) = AV.toI (f (0 + Int.toNat (AV.toI (g (0 + Int.toNat (↑i : Int)) 0))) (3)))) (cond (decide (AV.toI (f (0 + Int.toNat (AV.toI (g (0 + Int.toNat (↑i : Int)) 0))) (2)) = AV.toI (f (0 + Int.toNat (AV.toI (g (0 + Int.toNat (↑i : Int)) 0))) (2)))) (cond (decide (AV.toI (f (0 + Int.toNat (AV.toI (g (0 + Int.toNat (↑i : Int)) 0))) (3)) = AV.toI (f (0 + Int.toNat (AV.toI (g (0 + Int.toNat (↑i : Int)) 0))) (3)))) (cond (!decide (IntKind.wrap IntKind.u64 (IntKind.wrap IntKind.u64 (AV.toI (f (0 + Int.toNat (AV.toI (g (0 + Int.toNat (↑i : Int)) 0))) (2))) + IntKind.wrap IntKind.u64 (AV.toI (f (0 + Int.toNat (AV.toI (g (0 + Int.toNat (↑i : Int)) 0))) (3)))) ≤ IntKind.wrap IntKind.u64 (IntKind.wrap IntKind.u32 (IntKind.wrap IntKind.i64 (Int.tdiv (↑(List.length s) : Int) 8)))))
  (cond (Nat.blt (0 + Int.toNat (AV.toI (g (0 + Int.toNat (↑i : Int)) 0))) n) (cond (decide (AV.toI (f (0 + Int.toNat (AV.toI (g (0 + Int.toNat (↑i : Int)) 0))) 0) = AV.toI (f (0 + Int.toNat (AV.toI (g (0 + Int.toNat (↑i : Int)) 0))) 0))) (cond (AV.toB (f (0 + Int.toNat (AV.toI (g (0 + Int.toNat (↑i : Int)) 0))) (1)) == AV.toB (f (0 + Int.toNat (AV.toI (g (0 + Int.toNat (↑i : Int)) 0))) (1))) (cond (decide (AV.toI (f (0 + Int.toNat (AV.toI (g (0 + Int.toNat (↑i : Int)) 0))) (2)) = AV.toI (f (0 + Int.toNat (AV.toI (g (0 + Int.toNat (↑i : Int)) 0))) (2)))) (cond (decide (AV.toI (f (0 + Int.toNat (AV.toI (g (0 + Int.toNat (↑i : Int)) 0))) (3)) = AV.toI (f (0 + Int.toNat (AV.toI (g (0 + Int.toNat (↑i : Int)) 0))) (3)))) (cond (AV.toS (f (0 + Int.toNat (AV.toI (g (0 + Int.toNat (↑i : Int)) 0))) (4)) == AV.toS (f (0 + Int.toNat (AV.toI (g (0 + Int.toNat (↑i : Int)) 0))) (4))) (cond (decide (AV.toI (f (0 + Int.toNat (AV.toI (g (0 + Int.toNat (↑i : Int)) 0))) (5)) = AV.toI (f (0 + Int.toNat (AV.toI (g (0 + Int.toNat (↑i : Int)) 0))) (5)))) (cond (decide (AV.toI (f (0 + Int.toNat (AV.toI (g (0 + Int.toNat (↑i : Int)) 0))) (6)) = AV.toI (f (0 + Int.toNat (AV.toI (g (0 + Int.toNat (↑i : Int)) 0))) (6)))) (cond (AV.toB (f (0 + Int.toNat (AV.toI (g (0 + Int.toNat (↑i : Int)) 0))) (7)) == AV.toB (f (0 + Int.toNat (AV.toI (g (0 + Int.toNat (↑i : Int)) 0))) (7))) (cond (s == s) (some (0, (CS.mk [(AV.osl (nl) (0) (0) (n) (n) (8) (true)), (AV.ptr (1) (0)), (AV.osl (ol) (2) (0) (m) (m) (1) (true)), (AV.int IntKind.i64 ((↑m : Int))), (AV.int IntKind.i64 (IntKind.wrap IntKind.i64 ((↑i : Int) + 1)))] [some (AObj.tarr [Sh.int IntKind.u64, Sh.bool, Sh.int IntKind.u32, Sh.int IntKind.u32, Sh.str, Sh.int IntKind.i64, Sh.int IntKind.i64, Sh.bool] (n) f false), some (AObj.cells [(AV.int IntKind.u64 (0)), (AV.int IntKind.u64 (0)), (AV.str (s)), (AV.int IntKind.u64 (0)), (AV.int IntKind.u16 (0)), (AV.int IntKind.u64 (0)), (AV.int IntKind.u16 (0)), (AV.int IntKind.u64 (0)), (AV.int IntKind.u16 (0)), (AV.int IntKind.u64 (0)), (AV.int IntKind.u16 (0)), (AV.int IntKind.u64 (0)), (AV.int IntKind.u16 (0)), (AV.int IntKind.u64 (0)), (AV.int IntKind.u16 (0)), (AV.int IntKind.u64 (0)), (AV.int IntKind.u16 (0)), (AV.int IntKind.u64 (0)), (AV.int IntKind.u16 (0))] true), some (AObj.tarr [Sh.int IntKind.i64] (m) g false)]))) none) none) none) none) none) none) none) none) none) none)
  (cond ((↑(List.length (AV.toS (f (0 + Int.toNat (AV.toI (g (0 + Int.toNat (↑i : Int)) 0))) (4)))) : Int) != IntKind.wrap IntKind.i64 (8 * IntKind.wrap IntKind.i64 (AV.toI (f (0 + Int.toNat (AV.toI (g (0 + Int.toNat (↑i : Int)) 0))) (3)))))
  (cond (Nat.blt (0 + Int.toNat (AV.toI (g (0 + Int.toNat (↑i : Int)) 0))) n) (cond (decide (AV.toI (f (0 + Int.toNat (AV.toI (g (0 + Int.toNat (↑i : Int)) 0))) 0) = AV.toI (f (0 + Int.toNat (AV.toI (g (0 + Int.toNat (↑i : Int)) 0))) 0))) (cond (AV.toB (f (0 + Int.toNat (AV.toI (g (0 + Int.toNat (↑i : Int)) 0))) (1)) == AV.toB (f (0 + Int.toNat (AV.toI (g (0 + Int.toNat (↑i : Int)) 0))) (1))) (cond (decide (AV.toI (f (0 + Int.toNat (AV.toI (g (0 + Int.toNat (↑i : Int)) 0))) (2)) = AV.toI (f (0 + Int.toNat (AV.toI (g (0 + Int.toNat (↑i : Int)) 0))) (2)))) (cond (decide (AV.toI (f (0 + Int.toNat (AV.toI (g (0 + Int.toNat (↑i : Int)) 0))) (3)) = AV.toI (f (0 + Int.toNat (AV.toI (g (0 + Int.toNat (↑i : Int)) 0))) (3)))) (cond (AV.toS (f (0 + Int.toNat (AV.toI (g (0 + Int.toNat (↑i : Int)) 0))) (4)) == AV.toS (f (0 + Int.toNat (AV.toI (g (0 + Int.toNat (↑i : Int)) 0))) (4))) (cond (decide (AV.toI (f (0 + Int.toNat (AV.toI (g (0 + Int.toNat (↑i : Int)) 0))) (5)) = AV.toI (f (0 + Int.toNat (AV.toI (g (0 + Int.toNat (↑i : Int)) 0))) (5)))) (cond (decide (AV.toI (f (0 + Int.toNat (AV.toI (g (0 + Int.toNat (↑i : Int)) 0))) (6)) = AV.toI (f (0 + Int.toNat (AV.toI (g (0 + Int.toNat (↑i : Int)) 0))) (6)))) (cond (AV.toB (f (0 + Int.toNat (AV.toI (g (0 + Int.toNat (↑i : Int)) 0))) (7)) == AV.toB (f (0 + Int.toNat (AV.toI (g (0 + Int.toNat (↑i : Int)) 0))) (7))) (cond (s == s) (some (0, (CS.mk [(AV.osl (nl) (0) (0) (n) (n) (8) (true)), (AV.ptr (1) (0)), (AV.osl (ol) (2) (0) (m) (m) (1) (true)), (AV.int IntKind.i64 ((↑m : Int))), (AV.int IntKind.i64 (IntKind.wrap IntKind.i64 ((↑i : Int) + 1)))] [some (AObj.tarr [Sh.int IntKind.u64, Sh.bool, Sh.int IntKind.u32, Sh.int IntKind.u32, Sh.str, Sh.int IntKind.i64, Sh.int IntKind.i64, Sh.bool] (n) f false), some (AObj.cells [(AV.int IntKind.u64 (0)), (AV.int IntKind.u64 (0)), (AV.str (s)), (AV.int IntKind.u64 (0)), (AV.int IntKind.u16 (0)), (AV.int IntKind.u64 (0)), (AV.int IntKind.u16 (0)), (AV.int IntKind.u64 (0)), (AV.int IntKind.u16 (0)), (AV.int IntKind.u64 (0)), (AV.int IntKind.u16 (0)), (AV.int IntKind.u64 (0)), (AV.int IntKind.u16 (0)), (AV.int IntKind.u64 (0)), (AV.int IntKind.u16 (0)), (AV.int IntKind.u64 (0)), (AV.int IntKind.u16 (0)), (AV.int IntKind.u64 (0)), (AV.int IntKind.u16 (0))] true), some (AObj.tarr [Sh.int IntKind.i64] (m) g false)]))) none) none) none) none) none) none) none) none) none) none)
  (cond (Nat.ble (Int.toNat (IntKind.wrap IntKind.i64 (IntKind.wrap IntKind.i64 (AV.toI (f (0 + Int.toNat (AV.toI (g (0 + Int.toNat (↑i : Int)) 0))) (2))) * 8))) (List.length s))
  (cond (decide (0 ≤ IntKind.wrap IntKind.i64 (IntKind.wrap IntKind.i64 (AV.toI (f (0 + Int.toNat (AV.toI (g (0 + Int.toNat (↑i : Int)) 0))) (2))) * 8)))
  (cond (Nat.ble (List.length (List.take (Int.toNat (IntKind.wrap IntKind.i64 (IntKind.wrap IntKind.i64 (AV.toI (f (0 + Int.toNat (AV.toI (g (0 + Int.toNat (↑i : Int)) 0))) (2))) * 8)) - 0) (List.drop 0 s)) + List.length (AV.toS (f (0 + Int.toNat (AV.toI (g (0 + Int.toNat (↑i : Int)) 0))) (4)))) 140737488355328)
  (cond (Nat.ble (Int.toNat (IntKind.wrap IntKind.i64 (IntKind.wrap IntKind.i64 (IntKind.wrap IntKind.i64 (AV.toI (f (0 + Int.toNat (AV.toI (g (0 + Int.toNat (↑i : Int)) 0))) (2))) * 8) + (↑(List.length (AV.toS (f (0 + Int.toNat (AV.toI (g (0 + Int.toNat (↑i : Int)) 0))) (4)))) : Int)))) (List.length s))
  (cond (Nat.ble (List.length s) (List.length s)) (cond (decide (0 ≤ IntKind.wrap IntKind.i64 (IntKind.wrap IntKind.i64 (IntKind.wrap IntKind.i64 (AV.toI (f (0 + Int.toNat (AV.toI (g (0 + Int.toNat (↑i : Int)) 0))) (2))) * 8) + (↑(List.length (AV.toS (f (0 + Int.toNat (AV.toI (g (0 + Int.toNat (↑i : Int)) 0))) (4)))) : Int))))
  (cond (Nat.ble (List.length (List.take (Int.toNat (IntKind.wrap IntKind.i64 (IntKind.wrap IntKind.i64 (AV.toI (f (0 + Int.toNat (AV.toI (g (0 + Int.toNat (↑i : Int)) 0))) (2))) * 8)) - 0) (List.drop 0 s) ++ AV.toS (f (0 + Int.toNat (AV.toI (g (0 + Int.toNat (↑i : Int)) 0))) (4))) + List.length (List.take (List.length s - Int.toNat (IntKind.wrap IntKind.i64 (IntKind.wrap IntKind.i64 (IntKind.wrap IntKind.i64 (AV.toI (f (0 + Int.toNat (AV.toI (g (0 + Int.toNat (↑i : Int)) 0))) (2))) * 8) + (↑(List.length (AV.toS (f (0 + Int.toNat (AV.toI (g (0 + Int.toNat (↑i : Int)) 0))) (4)))) : Int)))) (List.drop (Int.toNat (IntKind.wrap IntKind.i64 (IntKind.wrap IntKind.i64 (IntKind.wrap IntKind.i64 (AV.toI (f (0 + Int.toNat (AV.toI (g (0 + Int.toNat (↑i : Int)) 0))) (2))) * 8) + (↑(List.length (AV.toS (f (0 + Int.toNat (AV.toI (g (0 + Int.toNat (↑i : Int)) 0))) (4)))) : Int)))) s))) 140737488355328)
  (cond (Nat.ble (Int.toNat (IntKind.wrap IntKind.i64 (IntKind.wrap IntKind.i64 (IntKind.wrap IntKind.i64 (AV.toI (f (0 + Int.toNat (AV.toI (g (0 + Int.toNat (↑i : Int)) 0))) (2))) * 8) + (↑(List.length (AV.toS (f (0 + Int.toNat (AV.toI (g (0 + Int.toNat (↑i : Int)) 0))) (4)))) : Int)))) (List.length s)) (cond (Nat.ble (List.length s) (List.length s)) (cond (decide (0 ≤ IntKind.wrap IntKind.i64 (IntKind.wrap IntKind.i64 (IntKind.wrap IntKind.i64 (AV.toI (f (0 + Int.toNat (AV.toI (g (0 + Int.toNat (↑i : Int)) 0))) (2))) * 8) + (↑(List.length (AV.toS (f (0 + Int.toNat (AV.toI (g (0 + Int.toNat (↑i : Int)) 0))) (4)))) : Int)))) (cond (List.take (List.length s - Int.toNat (IntKind.wrap IntKind.i64 (IntKind.wrap IntKind.i64 (IntKind.wrap IntKind.i64 (AV.toI (f (0 + Int.toNat (AV.toI (g (0 + Int.toNat (↑i : Int)) 0))) (2))) * 8) + (↑(List.length (AV.toS (f (0 + Int.toNat (AV.toI (g (0 + Int.toNat (↑i : Int)) 0))) (4)))) : Int)))) (List.drop (Int.toNat (IntKind.wrap IntKind.i64 (IntKind.wrap IntKind.i64 (IntKind.wrap IntKind.i64 (AV.toI (f (0 + Int.toNat (AV.toI (g (0 + Int.toNat (↑i : Int)) 0))) (2))) * 8) + (↑(List.length (AV.toS (f (0 + Int.toNat (AV.toI (g (0 + Int.toNat (↑i : Int)) 0))) (4)))) : Int)))) s) == List.take (List.length s - Int.toNat (IntKind.wrap IntKind.i64 (IntKind.wrap IntKind.i64 (IntKind.wrap IntKind.i64 (AV.toI (f (0 + Int.toNat (AV.toI (g (0 + Int.toNat (↑i : Int)) 0))) (2))) * 8) + (↑(List.length (AV.toS (f (0 + Int.toNat (AV.toI (g (0 + Int.toNat (↑i : Int)) 0))) (4)))) : Int)))) (List.drop (Int.toNat (IntKind.wrap IntKind.i64 (IntKind.wrap IntKind.i64 (IntKind.wrap IntKind.i64 (AV.toI (f (0 + Int.toNat (AV.toI (g (0 + Int.toNat (↑i : Int)) 0))) (2))) * 8) + (↑(List.length (AV.toS (f (0 + Int.toNat (AV.toI (g (0 + Int.toNat (↑i : Int)) 0))) (4)))) : Int)))) s)) (cond (decide ((↑(List.length (AV.toS (f (0 + Int.toNat (AV.toI (g (0 + Int.toNat (↑i : Int)) 0))) (4)))) : Int) = (↑(List.length (AV.toS (f (0 + Int.toNat (AV.toI (g (0 + Int.toNat (↑i : Int)) 0))) (4)))) : Int))) (cond (s == s) (cond (Nat.ble (Int.toNat (IntKind.wrap IntKind.i64 (IntKind.wrap IntKind.i64 (AV.toI (f (0 + Int.toNat (AV.toI (g (0 + Int.toNat (↑i : Int)) 0))) (2))) * 8))) (List.length s)) (cond (decide (0 ≤ IntKind.wrap IntKind.i64 (IntKind.wrap IntKind.i64 (AV.toI (f (0 + Int.toNat (AV.toI (g (0 + Int.toNat (↑i : Int)) 0))) (2))) * 8))) (cond (List.take (Int.toNat (IntKind.wrap IntKind.i64 (IntKind.wrap IntKind.i64 (AV.toI (f (0 + Int.toNat (AV.toI (g (0 + Int.toNat (↑i : Int)) 0))) (2))) * 8)) - 0) (List.drop 0 s) == List.take (Int.toNat (IntKind.wrap IntKind.i64 (IntKind.wrap IntKind.i64 (AV.toI (f (0 + Int.toNat (AV.toI (g (0 + Int.toNat (↑i : Int)) 0))) (2))) * 8)) - 0) (List.drop 0 s)) (cond (s == s) (cond (Nat.blt (0 + Int.toNat (AV.toI (g (0 + Int.toNat (↑i : Int)) 0))) n) (cond (decide (AV.toI (f (0 + Int.toNat (AV.toI (g (0 + Int.toNat (↑i : Int)) 0))) 0) = AV.toI (f (0 + Int.toNat (AV.toI (g (0 + Int.toNat (↑i : Int)) 0))) 0))) (cond (AV.toB (f (0 + Int.toNat (AV.toI (g (0 + Int.toNat (↑i : Int)) 0))) (1)) == AV.toB (f (0 + Int.toNat (AV.toI (g (0 + Int.toNat (↑i : Int)) 0))) (1))) (cond (decide (AV.toI (f (0 + Int.toNat (AV.toI (g (0 + Int.toNat (↑i : Int)) 0))) (2)) = AV.toI (f (0 + Int.toNat (AV.toI (g (0 + Int.toNat (↑i : Int)) 0))) (2)))) (cond (decide (AV.toI (f (0 + Int.toNat (AV.toI (g (0 + Int.toNat (↑i : Int)) 0))) (3)) = AV.toI (f (0 + Int.toNat (AV.toI (g (0 + Int.toNat (↑i : Int)) 0))) (3)))) (cond (AV.toS (f (0 + Int.toNat (AV.toI (g (0 + Int.toNat (↑i : Int)) 0))) (4)) == AV.toS (f (0 + Int.toNat (AV.toI (g (0 + Int.toNat (↑i : Int)) 0))) (4))) (cond (decide (AV.toI (f (0 + Int.toNat (AV.toI (g (0 + Int.toNat (↑i : Int)) 0))) (5)) = AV.toI (f (0 + Int.toNat (AV.toI (g (0 + Int.toNat (↑i : Int)) 0))) (5)))) (cond (decide (AV.toI (f (0 + Int.toNat (AV.toI (g (0 + Int.toNat (↑i : Int)) 0))) (6)) = AV.toI (f (0 + Int.toNat (AV.toI (g (0 + Int.toNat (↑i : Int)) 0))) (6)))) (cond (AV.toB (f (0 + Int.toNat (AV.toI (g (0 + Int.toNat (↑i : Int)) 0))) (7)) == AV.toB (f (0 + Int.toNat (AV.toI (g (0 + Int.toNat (↑i : Int)) 0))) (7))) (cond (s == s) (some (0, (CS.mk [(AV.osl (nl) (0) (0) (n) (n) (8) (true)), (AV.ptr (1) (0)), (AV.osl (ol) (2) (0) (m) (m) (1) (true)), (AV.int IntKind.i64 ((↑m : Int))), (AV.int IntKind.i64 (IntKind.wrap IntKind.i64 ((↑i : Int) + 1)))] [some (AObj.tarr [Sh.int IntKind.u64, Sh.bool, Sh.int IntKind.u32, Sh.int IntKind.u32, Sh.str, Sh.int IntKind.i64, Sh.int IntKind.i64, Sh.bool] (n) f false), some (AObj.cells [(AV.int IntKind.u64 (0)), (AV.int IntKind.u64 (0)), (AV.str (List.take (Int.toNat (IntKind.wrap IntKind.i64 (IntKind.wrap IntKind.i64 (AV.toI (f (0 + Int.toNat (AV.toI (g (0 + Int.toNat (↑i : Int)) 0))) (2))) * 8)) - 0) (List.drop 0 s) ++ AV.toS (f (0 + Int.toNat (AV.toI (g (0 + Int.toNat (↑i : Int)) 0))) (4)) ++ List.take (List.length s - Int.toNat (IntKind.wrap IntKind.i64 (IntKind.wrap IntKind.i64 (IntKind.wrap IntKind.i64 (AV.toI (f (0 + Int.toNat (AV.toI (g (0 + Int.toNat (↑i : Int)) 0))) (2))) * 8) + (↑(List.length (AV.toS (f (0 + Int.toNat (AV.toI (g (0 + Int.toNat (↑i : Int)) 0))) (4)))) : Int)))) (List.drop (Int.toNat (IntKind.wrap IntKind.i64 (IntKind.wrap IntKind.i64 (IntKind.wrap IntKind.i64 (AV.toI (f (0 + Int.toNat (AV.toI (g (0 + Int.toNat (↑i : Int)) 0))) (2))) * 8) + (↑(List.length (AV.toS (f (0 + Int.toNat (AV.toI (g (0 + Int.toNat (↑i : Int)) 0))) (4)))) : Int)))) s))), (AV.int IntKind.u64 (0)), (AV.int IntKind.u16 (0)), (AV.int IntKind.u64 (0)), (AV.int IntKind.u16 (0)), (AV.int IntKind.u64 (0)), (AV.int IntKind.u16 (0)), (AV.int IntKind.u64 (0)), (AV.int IntKind.u16 (0)), (AV.int IntKind.u64 (0)), (AV.int IntKind.u16 (0)), (AV.int IntKind.u64 (0)), (AV.int IntKind.u16 (0)), (AV.int IntKind.u64 (0)), (AV.int IntKind.u16 (0)), (AV.int IntKind.u64 (0)), (AV.int IntKind.u16 (0))] true), some (AObj.tarr [Sh.int IntKind.i64] (m) g false)]))) none) none) none) none) none) none) none) none) none) none) none) none) none) none) none) none) none) none) none) none)
  none)
  none) none)
  none)
  none)
  none)
  none))) none) none) none) none) none) none) none) none) none) none)
  (cond (decide (AV.toI (f (0 + Int.toNat (AV.toI (g (0 + Int.toNat (↑i : Int)) 0))) (3)) > 0) == true) none (cond (decide (AV.toI (f (0 + Int.toNat (AV.toI (g (0 + Int.toNat (↑i : Int)) 0))) (3)) > 0) == true) none (cond (decide (AV.toI (f (0 + Int.toNat (AV.toI (g (0 + Int.toNat (↑i : Int)) 0))) (3)) > 0) == true) none (cond (decide (AV.toI (f (0 + Int.toNat (AV.toI (g (0 + Int.toNat (↑i : Int)) 0))) (3)) > 0) == true) none (cond (decide (AV.toI (f (0 + Int.toNat (AV.toI (g (0 + Int.toNat (↑i : Int)) 0))) (3)) > 0)) none (cond (s == s) (cond (decide (AV.toI (f (0 + Int.toNat (AV.toI (g (0 + Int.toNat (↑i : Int)) 0))) (2)) = AV.toI (f (0 + Int.toNat (AV.toI (g (0 + Int.toNat (↑i : Int)) 0))) (2)))) (cond (decide (AV.toI (f (0 + Int.toNat (AV.toI (g (0 + Int.toNat (↑i : Int)) 0))) (3)) = AV.toI (f (0 + Int.toNat (AV.toI (g (0 + Int.toNat (↑i : Int)) 0))) (3)))) (cond (decide (AV.toI (f (0 + Int.toNat (AV.toI (g (0 + Int.toNat (↑i : Int)) 0))) (2)) = AV.toI (f (0 + Int.toNat (AV.toI (g (0 + Int.toNat (↑i : Int)) 0))) (2)))) (cond (decide (AV.toI (f (0 + Int.toNat (AV.toI (g (0 + Int.toNat (↑i : Int)) 0))) (3)) = AV.toI (f (0 + Int.toNat (AV.toI (g (0 + Int.toNat (↑i : Int)) 0))) (3)))) (cond (Nat.blt (0 + Int.toNat (AV.toI (g (0 + Int.toNat (↑i : Int)) 0))) n) (cond (decide (AV.toI (f (0 + Int.toNat (AV.toI (g (0 + Int.toNat (↑i : Int)) 0))) 0) = AV.toI (f (0 + Int.toNat (AV.toI (g (0 + Int.toNat (↑i : Int)) 0))) 0))) (cond (AV.toB (f (0 + Int.toNat (AV.toI (g (0 + Int.toNat (↑i : Int)) 0))) (1)) == AV.toB (f (0 + Int.toNat (AV.toI (g (0 + Int.toNat (↑i : Int)) 0))) (1))) (cond (decide (AV.toI (f (0 + Int.toNat (AV.toI (g (0 + Int.toNat (↑i : Int)) 0))) (2)) = AV.toI (f (0 + Int.toNat (AV.toI (g (0 + Int.toNat (↑i : Int)) 0))) (2)))) (cond (decide (AV.toI (f (0 + Int.toNat (AV.toI (g (0 + Int.toNat (↑i : Int)) 0))) (3)) = AV.toI (f (0 + Int.toNat (AV.toI (g (0 + Int.toNat (↑i : Int)) 0))) (3)))) (cond (AV.toS (f (0 + Int.toNat (AV.toI (g (0 + Int.toNat (↑i : Int)) 0))) (4)) == AV.toS (f (0 + Int.toNat (AV.toI (g (0 + Int.toNat (↑i : Int)) 0))) (4))) (cond (decide (AV.toI (f (0 + Int.toNat (AV.toI (g (0 + Int.toNat (↑i : Int)) 0))) (5)) = AV.toI (f (0 + Int.toNat (AV.toI (g (0 + Int.toNat (↑i : Int)) 0))) (5)))) (cond (decide (AV.toI (f (0 + Int.toNat (AV.toI (g (0 + Int.toNat (↑i : Int)) 0))) (6)) = AV.toI (f (0 + Int.toNat (AV.toI (g (0 + Int.toNat (↑i : Int)) 0))) (6)))) (cond (AV.toB (f (0 + Int.toNat (AV.toI (g (0 + Int.toNat (↑i : Int)) 0))) (7)) == AV.toB (f (0 + Int.toNat (AV.toI (g (0 + Int.toNat (↑i : Int)) 0))) (7))) (cond (s == s) (some (0, (CS.mk [(AV.osl (nl) (0) (0) (n) (n) (8) (true)), (AV.ptr (1) (0)), (AV.osl (ol) (2) (0) (m) (m) (1) (true)), (AV.int IntKind.i64 ((↑m : Int))), (AV.int IntKind.i64 (IntKind.wrap IntKind.i64 ((↑i : Int) + 1)))] [some (AObj.tarr [Sh.int IntKind.u64, Sh.bool, Sh.int IntKind.u32, Sh.int IntKind.u32, Sh.str, Sh.int IntKind.i64, Sh.int IntKind.i64, Sh.bool] (n) f false), some (AObj.cells [(AV.int IntKind.u64 (0)), (AV.int IntKind.u64 (0)), (AV.str (s)), (AV.int IntKind.u64 (0)), (AV.int IntKind.u16 (0)), (AV.int IntKind.u64 (0)), (AV.int IntKind.u16 (0)), (AV.int IntKind.u64 (0)), (AV.int IntKind.u16 (0)), (AV.int IntKind.u64 (0)), (AV.int IntKind.u16 (0)), (AV.int IntKind.u64 (0)), (AV.int IntKind.u16 (0)), (AV.int IntKind.u64 (0)), (AV.int IntKind.u16 (0)), (AV.int IntKind.u64 (0)), (AV.int IntKind.u16 (0)), (AV.int IntKind.u64 (0)), (AV.int IntKind.u16 (0))] true), some (AObj.tarr [Sh.int IntKind.i64] (m) g false)]))) none) none) none) none) none) none) none) none) none) none) none) none) none) none) none)))))))
  (cond (Nat.ble (Int.toNat (IntKind.wrap IntKind.i64 (IntKind.wrap IntKind.i64 (AV.toI (f (0 + Int.toNat (AV.toI (g (0 + Int.toNat (↑i : Int)) 0))) (2))) * 8))) (Int.toNat (IntKind.wrap IntKind.i64 (IntKind.wrap IntKind.i64 (IntKind.wrap IntKind.i64 (AV.toI (f (0 + Int.toNat (AV.toI (g (0 + Int.toNat (↑i : Int)) 0))) (2))) * 8) + (↑(List.length (AV.toS (f (0 + Int.toNat (AV.toI (g (0 + Int.toNat (↑i : Int)) 0))) (4)))) : Int)))))
  (cond (Nat.ble (Int.toNat (IntKind.wrap IntKind.i64 (IntKind.wrap IntKind.i64 (IntKind.wrap IntKind.i64 (AV.toI (f (0 + Int.toNat (AV.toI (g (0 + Int.toNat (↑i : Int)) 0))) (2))) * 8) + (↑(List.length (AV.toS (f (0 + Int.toNat (AV.toI (g (0 + Int.toNat (↑i : Int)) 0))) (4)))) : Int)))) (List.length s))
  (cond (decide (0 ≤ IntKind.wrap IntKind.i64 (IntKind.wrap IntKind.i64 (AV.toI (f (0 + Int.toNat (AV.toI (g (0 + Int.toNat (↑i : Int)) 0))) (2))) * 8)))
  (cond (decide (0 ≤ IntKind.wrap IntKind.i64 (IntKind.wrap IntKind.i64 (IntKind.wrap IntKind.i64 (AV.toI (f (0 + Int.toNat (AV.toI (g (0 + Int.toNat (↑i : Int)) 0))) (2))) * 8) + (↑(List.length (AV.toS (f (0 + Int.toNat (AV.toI (g (0 + Int.toNat (↑i : Int)) 0))) (4)))) : Int))))
  (cond (AV.toS (f (0 + Int.toNat (AV.toI (g (0 + Int.toNat (↑i : Int)) 0))) (4)) == AV.toS (f (0 + Int.toNat (AV.toI (g (0 + Int.toNat (↑i : Int)) 0))) (4))) (cond (AV.toS (f (0 + Int.toNat (AV.toI (g (0 + Int.toNat (↑i : Int)) 0))) (4)) == AV.toS (f (0 + Int.toNat (AV.toI (g (0 + Int.toNat (↑i : Int)) 0))) (4))) (cond (Nat.ble (Int.toNat (IntKind.wrap IntKind.i64 (IntKind.wrap IntKind.i64 (AV.toI (f (0 + Int.toNat (AV.toI (g (0 + Int.toNat (↑i : Int)) 0))) (2))) * 8))) (Int.toNat (IntKind.wrap IntKind.i64 (IntKind.wrap IntKind.i64 (IntKind.wrap IntKind.i64 (AV.toI (f (0 + Int.toNat (AV.toI (g (0 + Int.toNat (↑i : Int)) 0))) (2))) * 8) + (↑(List.length (AV.toS (f (0 + Int.toNat (AV.toI (g (0 + Int.toNat (↑i : Int)) 0))) (4)))) : Int))))) (cond (Nat.ble (Int.toNat (IntKind.wrap IntKind.i64 (IntKind.wrap IntKind.i64 (IntKind.wrap IntKind.i64 (AV.toI (f (0 + Int.toNat (AV.toI (g (0 + Int.toNat (↑i : Int)) 0))) (2))) * 8) + (↑(List.length (AV.toS (f (0 + Int.toNat (AV.toI (g (0 + Int.toNat (↑i : Int)) 0))) (4)))) : Int)))) (List.length s)) (cond (decide (0 ≤ IntKind.wrap IntKind.i64 (IntKind.wrap IntKind.i64 (AV.toI (f (0 + Int.toNat (AV.toI (g (0 + Int.toNat (↑i : Int)) 0))) (2))) * 8))) (cond (decide (0 ≤ IntKind.wrap IntKind.i64 (IntKind.wrap IntKind.i64 (IntKind.wrap IntKind.i64 (AV.toI (f (0 + Int.toNat (AV.toI (g (0 + Int.toNat (↑i : Int)) 0))) (2))) * 8) + (↑(List.length (AV.toS (f (0 + Int.toNat (AV.toI (g (0 + Int.toNat (↑i : Int)) 0))) (4)))) : Int)))) (cond (List.take (Int.toNat (IntKind.wrap IntKind.i64 (IntKind.wrap IntKind.i64 (IntKind.wrap IntKind.i64 (AV.toI (f (0 + Int.toNat (AV.toI (g (0 + Int.toNat (↑i : Int)) 0))) (2))) * 8) + (↑(List.length (AV.toS (f (0 + Int.toNat (AV.toI (g (0 + Int.toNat (↑i : Int)) 0))) (4)))) : Int))) - Int.toNat (IntKind.wrap IntKind.i64 (IntKind.wrap IntKind.i64 (AV.toI (f (0 + Int.toNat (AV.toI (g (0 + Int.toNat (↑i : Int)) 0))) (2))) * 8))) (List.drop (Int.toNat (IntKind.wrap IntKind.i64 (IntKind.wrap IntKind.i64 (AV.toI (f (0 + Int.toNat (AV.toI (g (0 + Int.toNat (↑i : Int)) 0))) (2))) * 8))) s) == List.take (Int.toNat (IntKind.wrap IntKind.i64 (IntKind.wrap IntKind.i64 (IntKind.wrap IntKind.i64 (AV.toI (f (0 + Int.toNat (AV.toI (g (0 + Int.toNat (↑i : Int)) 0))) (2))) * 8) + (↑(List.length (AV.toS (f (0 + Int.toNat (AV.toI (g (0 + Int.toNat (↑i : Int)) 0))) (4)))) : Int))) - Int.toNat (IntKind.wrap IntKind.i64 (IntKind.wrap IntKind.i64 (AV.toI (f (0 + Int.toNat (AV.toI (g (0 + Int.toNat (↑i : Int)) 0))) (2))) * 8))) (List.drop (Int.toNat (IntKind.wrap IntKind.i64 (IntKind.wrap IntKind.i64 (AV.toI (f (0 + Int.toNat (AV.toI (g (0 + Int.toNat (↑i : Int)) 0))) (2))) * 8))) s)) (cond (Nat.ble (Int.toNat (IntKind.wrap IntKind.i64 (IntKind.wrap IntKind.i64 (AV.toI (f (0 + Int.toNat (AV.toI (g (0 + Int.toNat (↑i : Int)) 0))) (2))) * 8))) (Int.toNat (IntKind.wrap IntKind.i64 (IntKind.wrap IntKind.i64 (IntKind.wrap IntKind.i64 (AV.toI (f (0 + Int.toNat (AV.toI (g (0 + Int.toNat (↑i : Int)) 0))) (2))) * 8) + (↑(List.length (AV.toS (f (0 + Int.toNat (AV.toI (g (0 + Int.toNat (↑i : Int)) 0))) (4)))) : Int))))) (cond (Nat.ble (Int.toNat (IntKind.wrap IntKind.i64 (IntKind.wrap IntKind.i64 (IntKind.wrap IntKind.i64 (AV.toI (f (0 + Int.toNat (AV.toI (g (0 + Int.toNat (↑i : Int)) 0))) (2))) * 8) + (↑(List.length (AV.toS (f (0 + Int.toNat (AV.toI (g (0 + Int.toNat (↑i : Int)) 0))) (4)))) : Int)))) (List.length s)) (cond (decide (0 ≤ IntKind.wrap IntKind.i64 (IntKind.wrap IntKind.i64 (AV.toI (f (0 + Int.toNat (AV.toI (g (0 + Int.toNat (↑i : Int)) 0))) (2))) * 8))) (cond (decide (0 ≤ IntKind.wrap IntKind.i64 (IntKind.wrap IntKind.i64 (IntKind.wrap IntKind.i64 (AV.toI (f (0 + Int.toNat (AV.toI (g (0 + Int.toNat (↑i : Int)) 0))) (2))) * 8) + (↑(List.length (AV.toS (f (0 + Int.toNat (AV.toI (g (0 + Int.toNat (↑i : Int)) 0))) (4)))) : Int)))) (cond (List.take (Int.toNat (IntKind.wrap IntKind.i64 (IntKind.wrap IntKind.i64 (IntKind.wrap IntKind.i64 (AV.toI (f (0 + Int.toNat (AV.toI (g (0 + Int.toNat (↑i : Int)) 0))) (2))) * 8) + (↑(List.length (AV.toS (f (0 + Int.toNat (AV.toI (g (0 + Int.toNat (↑i : Int)) 0))) (4)))) : Int))) - Int.toNat (IntKind.wrap IntKind.i64 (IntKind.wrap IntKind.i64 (AV.toI (f (0 + Int.toNat (AV.toI (g (0 + Int.toNat (↑i : Int)) 0))) (2))) * 8))) (List.drop (Int.toNat (IntKind.wrap IntKind.i64 (IntKind.wrap IntKind.i64 (AV.toI (f (0 + Int.toNat (AV.toI (g (0 + Int.toNat (↑i : Int)) 0))) (2))) * 8))) s) == List.take (Int.toNat (IntKind.wrap IntKind.i64 (IntKind.wrap IntKind.i64 (IntKind.wrap IntKind.i64 (AV.toI (f (0 + Int.toNat (AV.toI (g (0 + Int.toNat (↑i : Int)) 0))) (2))) * 8) + (↑(List.length (AV.toS (f (0 + Int.toNat (AV.toI (g (0 + Int.toNat (↑i : Int)) 0))) (4)))) : Int))) - Int.toNat (IntKind.wrap IntKind.i64 (IntKind.wrap IntKind.i64 (AV.toI (f (0 + Int.toNat (AV.toI (g (0 + Int.toNat (↑i : Int)) 0))) (2))) * 8))) (List.drop (Int.toNat (IntKind.wrap IntKind.i64 (IntKind.wrap IntKind.i64 (AV.toI (f (0 + Int.toNat (AV.toI (g (0 + Int.toNat (↑i : Int)) 0))) (2))) * 8))) s)) (cond (decide ((↑(List.length (AV.toS (f (0 + Int.toNat (AV.toI (g (0 + Int.toNat (↑i : Int)) 0))) (4)))) : Int) = (↑(List.length (AV.toS (f (0 + Int.toNat (AV.toI (g (0 + Int.toNat (↑i : Int)) 0))) (4)))) : Int))) (cond (decide ((↑(List.length (AV.toS (f (0 + Int.toNat (AV.toI (g (0 + Int.toNat (↑i : Int)) 0))) (4)))) : Int) = (↑(List.length (AV.toS (f (0 + Int.toNat (AV.toI (g (0 + Int.toNat (↑i : Int)) 0))) (4)))) : Int))) (cond (AV.toS (f (0 + Int.toNat (AV.toI (g (0 + Int.toNat (↑i : Int)) 0))) (4)) == AV.toS (f (0 + Int.toNat (AV.toI (g (0 + Int.toNat (↑i : Int)) 0))) (4))) (cond (AV.toS (f (0 + Int.toNat (AV.toI (g (0 + Int.toNat (↑i : Int)) 0))) (4)) == AV.toS (f (0 + Int.toNat (AV.toI (g (0 + Int.toNat (↑i : Int)) 0))) (4))) (cond (s == s) (cond (s == s) (cond (s == s) (cond (Nat.blt (0 + Int.toNat (AV.toI (g (0 + Int.toNat (↑i : Int)) 0))) n) (cond (decide (AV.toI (f (0 + Int.toNat (AV.toI (g (0 + Int.toNat (↑i : Int)) 0))) 0) = AV.toI (f (0 + Int.toNat (AV.toI (g (0 + Int.toNat (↑i : Int)) 0))) 0))) (cond (AV.toB (f (0 + Int.toNat (AV.toI (g (0 + Int.toNat (↑i : Int)) 0))) (1)) == AV.toB (f (0 + Int.toNat (AV.toI (g (0 + Int.toNat (↑i : Int)) 0))) (1))) (cond (decide (AV.toI (f (0 + Int.toNat (AV.toI (g (0 + Int.toNat (↑i : Int)) 0))) (2)) = AV.toI (f (0 + Int.toNat (AV.toI (g (0 + Int.toNat (↑i : Int)) 0))) (2)))) (cond (decide (AV.toI (f (0 + Int.toNat (AV.toI (g (0 + Int.toNat (↑i : Int)) 0))) (3)) = AV.toI (f (0 + Int.toNat (AV.toI (g (0 + Int.toNat (↑i : Int)) 0))) (3)))) (cond (AV.toS (f (0 + Int.toNat (AV.toI (g (0 + Int.toNat (↑i : Int)) 0))) (4)) == AV.toS (f (0 + Int.toNat (AV.toI (g (0 + Int.toNat (↑i : Int)) 0))) (4))) (cond (decide (AV.toI (f (0 + Int.toNat (AV.toI (g (0 + Int.toNat (↑i : Int)) 0))) (5)) = AV.toI (f (0 + Int.toNat (AV.toI (g (0 + Int.toNat (↑i : Int)) 0))) (5)))) (cond (decide (AV.toI (f (0 + Int.toNat (AV.toI (g (0 + Int.toNat (↑i : Int)) 0))) (6)) = AV.toI (f (0 + Int.toNat (AV.toI (g (0 + Int.toNat (↑i : Int)) 0))) (6)))) (cond (AV.toB (f (0 + Int.toNat (AV.toI (g (0 + Int.toNat (↑i : Int)) 0))) (7)) == AV.toB (f (0 + Int.toNat (AV.toI (g (0 + Int.toNat (↑i : Int)) 0))) (7))) (cond (s == s) (some (0, (CS.mk [(AV.osl (nl) (0) (0) (n) (n) (8) (true)), (AV.ptr (1) (0)), (AV.osl (ol) (2) (0) (m) (m) (1) (true)), (AV.int IntKind.i64 ((↑m : Int))), (AV.int IntKind.i64 (IntKind.wrap IntKind.i64 ((↑i : Int) + 1)))] [some (AObj.tarr [Sh.int IntKind.u64, Sh.bool, Sh.int IntKind.u32, Sh.int IntKind.u32, Sh.str, Sh.int IntKind.i64, Sh.int IntKind.i64, Sh.bool] (n) f false), some (AObj.cells [(AV.int IntKind.u64 (0)), (AV.int IntKind.u64 (0)), (AV.str (s)), (AV.int IntKind.u64 (0)), (AV.int IntKind.u16 (0)), (AV.int IntKind.u64 (0)), (AV.int IntKind.u16 (0)), (AV.int IntKind.u64 (0)), (AV.int IntKind.u16 (0)), (AV.int IntKind.u64 (0)), (AV.int IntKind.u16 (0)), (AV.int IntKind.u64 (0)), (AV.int IntKind.u16 (0)), (AV.int IntKind.u64 (0)), (AV.int IntKind.u16 (0)), (AV.int IntKind.u64 (0)), (AV.int IntKind.u16 (0)), (AV.int IntKind.u64 (0)), (AV.int IntKind.u16 (0))] true), some (AObj.tarr [Sh.int IntKind.i64] (m) g false)]))) none) none) none) none) none) none) none) none) none) none) none) none) none) none) none) none) none) none) none) none) none) none) none) none) none) none) none) none) none)
  none)
  none)
  none)
  none))
  none)
  none)
  none)
  none) none)
  (some (1, (CS.mk [(AV.ptr (0) (0))] [some (AObj.cells [(AV.int IntKind.u64 (0)), (AV.int IntKind.u64 (0)), (AV.str (s)), (AV.int IntKind.u64 (0)), (AV.int IntKind.u16 (0)), (AV.int IntKind.u64 (0)), (AV.int IntKind.u16 (0)), (AV.int IntKind.u64 (0)), (AV.int IntKind.u16 (0)), (AV.int IntKind.u64 (0)), (AV.int IntKind.u16 (0)), (AV.int IntKind.u64 (0)), (AV.int IntKind.u16 (0)), (AV.int IntKind.u64 (0)), (AV.int IntKind.u16 (0)), (AV.int IntKind.u64 (0)), (AV.int IntKind.u16 (0)), (AV.int IntKind.u64 (0)), (AV.int IntKind.u16 (0))] true)])))) := by kernel_rfl
theorem s9_eq (nl : Bool) (n : Nat) (f : Nat → Nat → AV) (s : List Nat) (ol : Bool) (m : Nat) (g : Nat → Nat → AV) (i : Nat) : s9 nl n f s ol m g i s9_p = (cond (decide ((↑i : Int) < (↑m : Int)))
  (cond (Nat.blt (0 + Int.toNat (↑i : Int)) m)
  (cond (decide (0 ≤ AV.toI (g (0 + Int.toNat (↑i : Int)) 0)))
  (cond (decide (AV.toI (g (0 + Int.toNat (↑i : Int)) 0) < (↑n : Int)))
  (cond (Nat.blt (0 + Int.toNat (AV.toI (g (0 + Int.toNat (↑i : Int)) 0))) n)
  (cond (AV.toB (f (0 + Int.toNat (AV.toI (g (0 + Int.toNat (↑i : Int)) 0))) (1)))
  (cond (decide (AV.toI (f (0 + Int.toNat (AV.toI (g (0 + Int.toNat (↑i : Int)) 0))) (3)) > 0))
  (cond (decide (IntKind.wrap IntKind.u64 (IntKind.wrap IntKind.u64 (AV.toI (f (0 + Int.toNat (AV.toI (g (0 + Int.toNat (↑i : Int)) 0))) (2))) + IntKind.wrap IntKind.u64 (AV.toI (f (0 + Int.toNat (AV.toI (g (0 + Int.toNat (↑i : Int)) 0))) (3)))) ≤ IntKind.wrap IntKind.u64 (IntKind.wrap IntKind.u32 (IntKind.wrap IntKind.i64 (Int.tdiv (↑(List.length s) : Int) 8)))))
  (cond ((↑(List.length (AV.toS (f (0 + Int.toNat (AV.toI (g (0 + Int.toNat (↑i : Int)) 0))) (4)))) : Int) != IntKind.wrap IntKind.i64 (8 * IntKind.wrap IntKind.i64 (AV.toI (f (0 + Int.toNat (AV.toI (g (0 + Int.toNat (↑i : Int)) 0))) (3)))))
  (some (0, (CS.mk [(AV.osl (nl) (0) (0) (n) (n) (8) (true)), (AV.ptr (1) (0)), (AV.osl (ol) (2) (0) (m) (m) (1) (true)), (AV.int IntKind.i64 ((↑m : Int))), (AV.int IntKind.i64 (IntKind.wrap IntKind.i64 ((↑i : Int) + 1)))] [some (AObj.tarr [Sh.int IntKind.u64, Sh.bool, Sh.int IntKind.u32, Sh.int IntKind.u32, Sh.str, Sh.int IntKind.i64, Sh.int IntKind.i64, Sh.bool] (n) f false), some (AObj.cells [(AV.int IntKind.u64 (0)), (AV.int IntKind.u64 (0)), (AV.str (s)), (AV.int IntKind.u64 (0)), (AV.int IntKind.u16 (0)), (AV.int IntKind.u64 (0)), (AV.int IntKind.u16 (0)), (AV.int IntKind.u64 (0)), (AV.int IntKind.u16 (0)), (AV.int IntKind.u64 (0)), (AV.int IntKind.u16 (0)), (AV.int IntKind.u64 (0)), (AV.int IntKind.u16 (0)), (AV.int IntKind.u64 (0)), (AV.int IntKind.u16 (0)), (AV.int IntKind.u64 (0)), (AV.int IntKind.u16 (0)), (AV.int IntKind.u64 (0)), (AV.int IntKind.u16 (0))] true), some (AObj.tarr [Sh.int IntKind.i64] (m) g false)])))
  (cond (Nat.ble (Int.toNat (IntKind.wrap IntKind.i64 (IntKind.wrap IntKind.i64 (AV.toI (f (0 + Int.toNat (AV.toI (g (0 + Int.toNat (↑i : Int)) 0))) (2))) * 8))) (List.length s))
  (cond (decide (0 ≤ IntKind.wrap IntKind.i64 (IntKind.wrap IntKind.i64 (AV.toI (f (0 + Int.toNat (AV.toI (g (0 + Int.toNat (↑i : Int)) 0))) (2))) * 8)))
  (cond (Nat.ble (List.length (List.take (Int.toNat (IntKind.wrap IntKind.i64 (IntKind.wrap IntKind.i64 (AV.toI (f (0 + Int.toNat (AV.toI (g (0 + Int.toNat (↑i : Int)) 0))) (2))) * 8)) - 0) (List.drop 0 s)) + List.length (AV.toS (f (0 + Int.toNat (AV.toI (g (0 + Int.toNat (↑i : Int)) 0))) (4)))) 140737488355328)
  (cond (Nat.ble (Int.toNat (IntKind.wrap IntKind.i64 (IntKind.wrap IntKind.i64 (IntKind.wrap IntKind.i64 (AV.toI (f (0 + Int.toNat (AV.toI (g (0 + Int.toNat (↑i : Int)) 0))) (2))) * 8) + (↑(List.length (AV.toS (f (0 + Int.toNat (AV.toI (g (0 + Int.toNat (↑i : Int)) 0))) (4)))) : Int)))) (List.length s))
  (cond (decide (0 ≤ IntKind.wrap IntKind.i64 (IntKind.wrap IntKind.i64 (IntKind.wrap IntKind.i64 (AV.toI (f (0 + Int.toNat (AV.toI (g (0 + Int.toNat (↑i : Int)) 0))) (2))) * 8) + (↑(List.length (AV.toS (f (0 + Int.toNat (AV.toI (g (0 + Int.toNat (↑i : Int)) 0))) (4)))) : Int))))
  (cond (Nat.ble (List.length (List.take (Int.toNat (IntKind.wrap IntKind.i64 (IntKind.wrap IntKind.i64 (AV.toI (f (0 + Int.toNat (AV.toI (g (0 + Int.toNat (↑i : Int)) 0))) (2))) * 8)) - 0) (List.drop 0 s) ++ AV.toS (f (0 + Int.toNat (AV.toI (g (0 + Int.toNat (↑i : Int)) 0))) (4))) + List.length (List.take (List.length s - Int.toNat (IntKind.wrap IntKind.i64 (IntKind.wrap IntKind.i64 (IntKind.wrap IntKind.i64 (AV.toI (f (0 + Int.toNat (AV.toI (g (0 + Int.toNat (↑i : Int)) 0))) (2))) * 8) + (↑(List.length (AV.toS (f (0 + Int.toNat (AV.toI (g (0 + Int.toNat (↑i : Int)) 0))) (4)))) : Int)))) (List.drop (Int.toNat (IntKind.wrap IntKind.i64 (IntKind.wrap IntKind.i64 (IntKind.wrap IntKind.i64 (AV.toI (f (0 + Int.toNat (AV.toI (g (0 + Int.toNat (↑i : Int)) 0))) (2))) * 8) + (↑(List.length (AV.toS (f (0 + Int.toNat (AV.toI (g (0 + Int.toNat (↑i : Int)) 0))) (4)))) : Int)))) s))) 140737488355328)
  (some (0, (CS.mk [(AV.osl (nl) (0) (0) (n) (n) (8) (true)), (AV.ptr (1) (0)), (AV.osl (ol) (2) (0) (m) (m) (1) (true)), (AV.int IntKind.i64 ((↑m : Int))), (AV.int IntKind.i64 (IntKind.wrap IntKind.i64 ((↑i : Int) + 1)))] [some (AObj.tarr [Sh.int IntKind.u64, Sh.bool, Sh.int IntKind.u32, Sh.int IntKind.u32, Sh.str, Sh.int IntKind.i64, Sh.int IntKind.i64, Sh.bool] (n) f false), some (AObj.cells [(AV.int IntKind.u64 (0)), (AV.int IntKind.u64 (0)), (AV.str (List.take (Int.toNat (IntKind.wrap IntKind.i64 (IntKind.wrap IntKind.i64 (AV.toI (f (0 + Int.toNat (AV.toI (g (0 + Int.toNat (↑i : Int)) 0))) (2))) * 8)) - 0) (List.drop 0 s) ++ AV.toS (f (0 + Int.toNat (AV.toI (g (0 + Int.toNat (↑i : Int)) 0))) (4)) ++ List.take (List.length s - Int.toNat (IntKind.wrap IntKind.i64 (IntKind.wrap IntKind.i64 (IntKind.wrap IntKind.i64 (AV.toI (f (0 + Int.toNat (AV.toI (g (0 + Int.toNat (↑i : Int)) 0))) (2))) * 8) + (↑(List.length (AV.toS (f (0 + Int.toNat (AV.toI (g (0 + Int.toNat (↑i : Int)) 0))) (4)))) : Int)))) (List.drop (Int.toNat (IntKind.wrap IntKind.i64 (IntKind.wrap IntKind.i64 (IntKind.wrap IntKind.i64 (AV.toI (f (0 + Int.toNat (AV.toI (g (0 + Int.toNat (↑i : Int)) 0))) (2))) * 8) + (↑(List.length (AV.toS (f (0 + Int.toNat (AV.toI (g (0 + Int.toNat (↑i : Int)) 0))) (4)))) : Int)))) s))), (AV.int IntKind.u64 (0)), (AV.int IntKind.u16 (0)), (AV.int IntKind.u64 (0)), (AV.int IntKind.u16 (0)), (AV.int IntKind.u64 (0)), (AV.int IntKind.u16 (0)), (AV.int IntKind.u64 (0)), (AV.int IntKind.u16 (0)), (AV.int IntKind.u64 (0)), (AV.int IntKind.u16 (0)), (AV.int IntKind.u64 (0)), (AV.int IntKind.u16 (0)), (AV.int IntKind.u64 (0)), (AV.int IntKind.u16 (0)), (AV.int IntKind.u64 (0)), (AV.int IntKind.u16 (0))] true), some (AObj.tarr [Sh.int IntKind.i64] (m) g false)])))
  none)
  none)
  none)
  none)
  none)
  none))
  (some (0, (CS.mk [(AV.osl (nl) (0) (0) (n) (n) (8) (true)), (AV.ptr (1) (0)), (AV.osl (ol) (2) (0) (m) (m) (1) (true)), (AV.int IntKind.i64 ((↑m : Int))), (AV.int IntKind.i64 (IntKind.wrap IntKind.i64 ((↑i : Int) + 1)))] [some (AObj.tarr [Sh.int IntKind.u64, Sh.bool, Sh.int IntKind.u32, Sh.int IntKind.u32, Sh.str, Sh.int IntKind.i64, Sh.int IntKind.i64, Sh.bool] (n) f false), some (AObj.cells [(AV.int IntKind.u64 (0)), (AV.int IntKind.u64 (0)), (AV.str (s)), (AV.int IntKind.u64 (0)), (AV.int IntKind.u16 (0)), (AV.int IntKind.u64 (0)), (AV.int IntKind.u16 (0)), (AV.int IntKind.u64 (0)), (AV.int IntKind.u16 (0)), (AV.int IntKind.u64 (0)), (AV.int IntKind.u16 (0)), (AV.int IntKind.u64 (0)), (AV.int IntKind.u16 (0)), (AV.int IntKind.u64 (0)), (AV.int IntKind.u16 (0)), (AV.int IntKind.u64 (0)), (AV.int IntKind.u16 (0)), (AV.int IntKind.u64 (0)), (AV.int IntKind.u16 (0))] true), some (AObj.tarr [Sh.int IntKind.i64] (m) g false)]))))
  (some (0, (CS.mk [(AV.osl (nl) (0) (0) (n) (n) (8) (true)), (AV.ptr (1) (0)), (AV.osl (ol) (2) (0) (m) (m) (1) (true)), (AV.int IntKind.i64 ((↑m : Int))), (AV.int IntKind.i64 (IntKind.wrap IntKind.i64 ((↑i : Int) + 1)))] [some (AObj.tarr [Sh.int IntKind.u64, Sh.bool, Sh.int IntKind.u32, Sh.int IntKind.u32, Sh.str, Sh.int IntKind.i64, Sh.int IntKind.i64, Sh.bool] (n) f false), some (AObj.cells [(AV.int IntKind.u64 (0)), (AV.int IntKind.u64 (0)), (AV.str (s)), (AV.int IntKind.u64 (0)), (AV.int IntKind.u16 (0)), (AV.int IntKind.u64 (0)), (AV.int IntKind.u16 (0)), (AV.int IntKind.u64 (0)), (AV.int IntKind.u16 (0)), (AV.int IntKind.u64 (0)), (AV.int IntKind.u16 (0)), (AV.int IntKind.u64 (0)), (AV.int IntKind.u16 (0)), (AV.int IntKind.u64 (0)), (AV.int IntKind.u16 (0)), (AV.int IntKind.u64 (0)), (AV.int IntKind.u16 (0)), (AV.int IntKind.u64 (0)), (AV.int IntKind.u16 (0))] true), some (AObj.tarr [Sh.int IntKind.i64] (m) g false)]))))
  (cond (Nat.ble (Int.toNat (IntKind.wrap IntKind.i64 (IntKind.wrap IntKind.i64 (AV.toI (f (0 + Int.toNat (AV.toI (g (0 + Int.toNat (↑i : Int)) 0))) (2))) * 8))) (Int.toNat (IntKind.wrap IntKind.i64 (IntKind.wrap IntKind.i64 (IntKind.wrap IntKind.i64 (AV.toI (f (0 + Int.toNat (AV.toI (g (0 + Int.toNat (↑i : Int)) 0))) (2))) * 8) + (↑(List.length (AV.toS (f (0 + Int.toNat (AV.toI (g (0 + Int.toNat (↑i : Int)) 0))) (4)))) : Int)))))
  (cond (Nat.ble (Int.toNat (IntKind.wrap IntKind.i64 (IntKind.wrap IntKind.i64 (IntKind.wrap IntKind.i64 (AV.toI (f (0 + Int.toNat (AV.toI (g (0 + Int.toNat (↑i : Int)) 0))) (2))) * 8) + (↑(List.length (AV.toS (f (0 + Int.toNat (AV.toI (g (0 + Int.toNat (↑i : Int)) 0))) (4)))) : Int)))) (List.length s))
  (cond (decide (0 ≤ IntKind.wrap IntKind.i64 (IntKind.wrap IntKind.i64 (AV.toI (f (0 + Int.toNat (AV.toI (g (0 + Int.toNat (↑i : Int)) 0))) (2))) * 8)))
  (cond (decide (0 ≤ IntKind.wrap IntKind.i64 (IntKind.wrap IntKind.i64 (IntKind.wrap IntKind.i64 (AV.toI (f (0 + Int.toNat (AV.toI (g (0 + Int.toNat (↑i : Int)) 0))) (2))) * 8) + (↑(List.length (AV.toS (f (0 + Int.toNat (AV.toI (g (0 + Int.toNat (↑i : Int)) 0))) (4)))) : Int))))
  (some (0, (CS.mk [(AV.osl (nl) (0) (0) (n) (n) (8) (true)), (AV.ptr (1) (0)), (AV.osl (ol) (2) (0) (m) (m) (1) (true)), (AV.int IntKind.i64 ((↑m : Int))), (AV.int IntKind.i64 (IntKind.wrap IntKind.i64 ((↑i : Int) + 1)))] [some (AObj.tarr [Sh.int IntKind.u64, Sh.bool, Sh.int IntKind.u32, Sh.int IntKind.u32, Sh.str, Sh.int IntKind.i64, Sh.int IntKind.i64, Sh.bool] (n) f false), some (AObj.cells [(AV.int IntKind.u64 (0)), (AV.int IntKind.u64 (0)), (AV.str (s)), (AV.int IntKind.u64 (0)), (AV.int IntKind.u16 (0)), (AV.int IntKind.u64 (0)), (AV.int IntKind.u16 (0)), (AV.int IntKind.u64 (0)), (AV.int IntKind.u16 (0)), (AV.int IntKind.u64 (0)), (AV.int IntKind.u16 (0)), (AV.int IntKind.u64 (0)), (AV.int IntKind.u16 (0)), (AV.int IntKind.u64 (0)), (AV.int IntKind.u16 (0)), (AV.int IntKind.u64 (0)), (AV.int IntKind.u16 (0)), (AV.int IntKind.u64 (0)), (AV.int IntKind.u16 (0))] true), some (AObj.tarr [Sh.int IntKind.i64] (m) g false)])))
  none)
  none)
  none)
  none))
  none)
  none)
  none)
  none)
  (some (1, (CS.mk [(AV.ptr (0) (0))] [some (AObj.cells [(AV.int IntKind.u64 (0)), (AV.int IntKind.u64 (0)), (AV.str (s)), (AV.int IntKind.u64 (0)), (AV.int IntKind.u16 (0)), (AV.int IntKind.u64 (0)), (AV.int IntKind.u16 (0)), (AV.int IntKind.u64 (0)), (AV.int IntKind.u16 (0)), (AV.int IntKind.u64 (0)), (AV.int IntKind.u16 (0)), (AV.int IntKind.u64 (0)), (AV.int IntKind.u16 (0)), (AV.int IntKind.u64 (0)), (AV.int IntKind.u16 (0)), (AV.int IntKind.u64 (0)), (AV.int IntKind.u16 (0)), (AV.int IntKind.u64 (0)), (AV.int IntKind.u16 (0))] true)])))) := by
  rw [s9_is]
  try simp only [eq_self, decide_true, beq_self_eq_true, Nat.beq_refl, ble_self, Int.le_refl, Nat.le_refl]
  cases (decide ((↑i : Int) < (↑m : Int))) with
  | true =>
    cases (Nat.blt (0 + Int.toNat (↑i : Int)) m) with
    | true =>
      cases (decide (0 ≤ AV.toI (g (0 + Int.toNat (↑i : Int)) 0))) with
      | true =>
        cases (decide (AV.toI (g (0 + Int.toNat (↑i : Int)) 0) < (↑n : Int))) with
        | true =>
          cases (Nat.blt (0 + Int.toNat (AV.toI (g (0 + Int.toNat (↑i : Int)) 0))) n) with
          | true =>
            cases (AV.toB (f (0 + Int.toNat (AV.toI (g (0 + Int.toNat (↑i : Int)) 0))) (1))) with
            | true =>
              cases (decide (AV.toI (f (0 + Int.toNat (AV.toI (g (0 + Int.toNat (↑i : Int)) 0))) (3)) > 0)) with
              | true =>
                cases (decide (IntKind.wrap IntKind.u64 (IntKind.wrap IntKind.u64 (AV.toI (f (0 + Int.toNat (AV.toI (g (0 + Int.toNat (↑i : Int)) 0))) (2))) + IntKind.wrap IntKind.u64 (AV.toI (f (0 + Int.toNat (AV.toI (g (0 + Int.toNat (↑i : Int)) 0))) (3)))) ≤ IntKind.wrap IntKind.u64 (IntKind.wrap IntKind.u32 (IntKind.wrap IntKind.i64 (Int.tdiv (↑(List.length s) : Int) 8))))) with
                | true =>
                  cases ((↑(List.length (AV.toS (f (0 + Int.toNat (AV.toI (g (0 + Int.toNat (↑i : Int)) 0))) (4)))) : Int) != IntKind.wrap IntKind.i64 (8 * IntKind.wrap IntKind.i64 (AV.toI (f (0 + Int.toNat (AV.toI (g (0 + Int.toNat (↑i : Int)) 0))) (3))))) with
                  | true =>
                    rfl
                  | false =>
                    cases (Nat.ble (Int.toNat (IntKind.wrap IntKind.i64 (IntKind.wrap IntKind.i64 (AV.toI (f (0 + Int.toNat (AV.toI (g (0 + Int.toNat (↑i : Int)) 0))) (2))) * 8))) (List.length s)) with
                    | true =>
                      cases (decide (0 ≤ IntKind.wrap IntKind.i64 (IntKind.wrap IntKind.i64 (AV.toI (f (0 + Int.toNat (AV.toI (g (0 + Int.toNat (↑i : Int)) 0))) (2))) * 8))) with
                      | true =>
                        cases (Nat.ble (List.length (List.take (Int.toNat (IntKind.wrap IntKind.i64 (IntKind.wrap IntKind.i64 (AV.toI (f (0 + Int.toNat (AV.toI (g (0 + Int.toNat (↑i : Int)) 0))) (2))) * 8)) - 0) (List.drop 0 s)) + List.length (AV.toS (f (0 + Int.toNat (AV.toI (g (0 + Int.toNat (↑i : Int)) 0))) (4)))) 140737488355328) with
                        | true =>
                          cases (Nat.ble (Int.toNat (IntKind.wrap IntKind.i64 (IntKind.wrap IntKind.i64 (IntKind.wrap IntKind.i64 (AV.toI (f (0 + Int.toNat (AV.toI (g (0 + Int.toNat (↑i : Int)) 0))) (2))) * 8) + (↑(List.length (AV.toS (f (0 + Int.toNat (AV.toI (g (0 + Int.toNat (↑i : Int)) 0))) (4)))) : Int)))) (List.length s)) with
                          | true =>
                            cases (decide (0 ≤ IntKind.wrap IntKind.i64 (IntKind.wrap IntKind.i64 (IntKind.wrap IntKind.i64 (AV.toI (f (0 + Int.toNat (AV.toI (g (0 + Int.toNat (↑i : Int)) 0))) (2))) * 8) + (↑(List.length (AV.toS (f (0 + Int.toNat (AV.toI (g (0 + Int.toNat (↑i : Int)) 0))) (4)))) : Int)))) with
                            | true =>
                              cases (Nat.ble (List.length (List.take (Int.toNat (IntKind.wrap IntKind.i64 (IntKind.wrap IntKind.i64 (AV.toI (f (0 + Int.toNat (AV.toI (g (0 + Int.toNat (↑i : Int)) 0))) (2))) * 8)) - 0) (List.drop 0 s) ++ AV.toS (f (0 + Int.toNat (AV.toI (g (0 + Int.toNat (↑i : Int)) 0))) (4))) + List.length (List.take (List.length s - Int.toNat (IntKind.wrap IntKind.i64 (IntKind.wrap IntKind.i64 (IntKind.wrap IntKind.i64 (AV.toI (f (0 + Int.toNat (AV.toI (g (0 + Int.toNat (↑i : Int)) 0))) (2))) * 8) + (↑(List.length (AV.toS (f (0 + Int.toNat (AV.toI (g (0 + Int.toNat (↑i : Int)) 0))) (4)))) : Int)))) (List.drop (Int.toNat (IntKind.wrap IntKind.i64 (IntKind.wrap IntKind.i64 (IntKind.wrap IntKind.i64 (AV.toI (f (0 + Int.toNat (AV.toI (g (0 + Int.toNat (↑i : Int)) 0))) (2))) * 8) + (↑(List.length (AV.toS (f (0 + Int.toNat (AV.toI (g (0 + Int.toNat (↑i : Int)) 0))) (4)))) : Int)))) s))) 140737488355328) with
                              | true =>
                                rfl
                              | false =>
                                rfl
                            | false =>
                              rfl
                          | false =>
                            rfl
                        | false =>
                          rfl
                      | false =>
                        rfl
                    | false =>
                      rfl
                | false =>
                  rfl
              | false =>
                rfl
            | false =>
              cases (Nat.ble (Int.toNat (IntKind.wrap IntKind.i64 (IntKind.wrap IntKind.i64 (AV.toI (f (0 + Int.toNat (AV.toI (g (0 + Int.toNat (↑i : Int)) 0))) (2))) * 8))) (Int.toNat (IntKind.wrap IntKind.i64 (IntKind.wrap IntKind.i64 (IntKind.wrap IntKind.i64 (AV.toI (f (0 + Int.toNat (AV.toI (g (0 + Int.toNat (↑i : Int)) 0))) (2))) * 8) + (↑(List.length (AV.toS (f (0 + Int.toNat (AV.toI (g (0 + Int.toNat (↑i : Int)) 0))) (4)))) : Int))))) with
              | true =>
                cases (Nat.ble (Int.toNat (IntKind.wrap IntKind.i64 (IntKind.wrap IntKind.i64 (IntKind.wrap IntKind.i64 (AV.toI (f (0 + Int.toNat (AV.toI (g (0 + Int.toNat (↑i : Int)) 0))) (2))) * 8) + (↑(List.length (AV.toS (f (0 + Int.toNat (AV.toI (g (0 + Int.toNat (↑i : Int)) 0))) (4)))) : Int)))) (List.length s)) with
                | true =>
                  cases (decide (0 ≤ IntKind.wrap IntKind.i64 (IntKind.wrap IntKind.i64 (AV.toI (f (0 + Int.toNat (AV.toI (g (0 + Int.toNat (↑i : Int)) 0))) (2))) * 8))) with
                  | true =>
                    cases (decide (0 ≤ IntKind.wrap IntKind.i64 (IntKind.wrap IntKind.i64 (IntKind.wrap IntKind.i64 (AV.toI (f (0 + Int.toNat (AV.toI (g (0 + Int.toNat (↑i : Int)) 0))) (2))) * 8) + (↑(List.length (AV.toS (f (0 + Int.toNat (AV.toI (g (0 + Int.toNat (↑i : Int)) 0))) (4)))) : Int)))) with
                    | true =>
                      rfl
                    | false =>
                      rfl
                  | false =>
                    rfl
                | false =>
                  rfl
              | false =>
                rfl
          | false =>
            rfl
        | false =>
          rfl
      | false =>
        rfl
    | false =>
      rfl
  | false =>
    rfl

noncomputable def k9 (nl : Bool) (n : Nat) (f : Nat → Nat → AV) (bl : Int) (ol : Bool) (m : Nat) (g : Nat → Nat → AV) (π : Plan) : Option CS := callC (EM) (1500) (9) (0) (.keep) ([]) π (a7 nl n f bl ol m g)
def k9_p : Plan := (.must true (.must true (.reck 1 (.must true (.reck 1 (.must true (.fork (.fork (.fork (.fork .stop (.fork (.must true (.fork (.fork (.fork (.fork (.must true (.must true (.must true (.reck 2 (.must true (.reck 19 (.must true (.must true (.must true (.fork .stop .stop)))))))))) .stop) .stop) .stop) .stop)) .stop)) .stop) .stop) .stop)))))))
theorem k9_is (nl : Bool) (n : Nat) (f : Nat → Nat → AV) (bl : Int) (ol : Bool) (m : Nat) (g : Nat → Nat → AV) : k9 nl n f bl ol m g k9_p = (cond (decide (n = n)) (cond (decide (m = m)) (cond (decide (n = n)) (cond (decide (m = m)) (cond ((rngV f (n)))
  (cond (Nat.ble n 1000)
  (cond (Nat.ble m 1000)
  (cond (!vWV bl f n g m)
  (some (CS.mk [(AV.str (bytesOf { data := #[] }))] []))
  (cond (decide (0 ≤ IntKind.wrap IntKind.i64 (IntKind.wrap IntKind.i64 bl * 8)))
  (cond (decide (IntKind.wrap IntKind.i64 (IntKind.wrap IntKind.i64 bl * 8) ≤ IntKind.wrap IntKind.i64 (IntKind.wrap IntKind.i64 bl * 8))) (cond (decide (IntKind.wrap IntKind.i64 (IntKind.wrap IntKind.i64 bl * 8) ≤ 281474976710656))
  (cond (Nat.ble (1 * Int.toNat (IntKind.wrap IntKind.i64 (IntKind.wrap IntKind.i64 bl * 8))) 281474976710656)
  (cond (Nat.ble (0 + Int.toNat (IntKind.wrap IntKind.i64 (IntKind.wrap IntKind.i64 bl * 8))) (Int.toNat (IntKind.wrap IntKind.i64 (IntKind.wrap IntKind.i64 bl * 8))))
  (cond (List.all (List.range (Int.toNat (IntKind.wrap IntKind.i64 (IntKind.wrap IntKind.i64 bl * 8)))) fun i => decide (0 ≤ byteAt (fun x j => getAt [AV.int IntKind.u8 (Int.ofNat 0)] j) (0 + i)) && decide (byteAt (fun x j => getAt [AV.int IntKind.u8 (Int.ofNat 0)] j) (0 + i) < 256))
  (cond (decide (n = n)) (cond (decide (m = m)) (cond (decide ((↑m : Int) = (↑m : Int))) (cond (decide (n = n)) (cond (decide (m = m)) (cond (Nat.ble n 1000) (cond (Nat.ble m 1000) (cond ((okDV f (n) g (m) (List.length (List.map (fun i => Int.toNat (byteAt (fun x j => getAt [AV.int IntKind.u8 (Int.ofNat 0)] j) (0 + i))) (List.range (Int.toNat (IntKind.wrap IntKind.i64 (IntKind.wrap IntKind.i64 bl * 8))))))))
  (some (CS.mk [(AV.str ((dwV f g (m) (List.map (fun i => Int.toNat (byteAt (fun x j => getAt [AV.int IntKind.u8 (Int.ofNat 0)] j) (0 + i))) (List.range (Int.toNat (IntKind.wrap IntKind.i64 (IntKind.wrap IntKind.i64 bl * 8))))))))] []))
  none) none) none) none) none) none) none) none)
  none)
  none)
  none)
  none) none)
  none))
  none)
  none)
  none) none) none) none) none) := by kernel_rfl
theorem k9_eq (nl : Bool) (n : Nat) (f : Nat → Nat → AV) (bl : Int) (ol : Bool) (m : Nat) (g : Nat → Nat → AV) : k9 nl n f bl ol m g k9_p = (cond (rngV f (n))
  (cond (Nat.ble n 1000)
  (cond (Nat.ble m 1000)
  (cond (vWV bl f n g m)
  (cond (decide (0 ≤ IntKind.wrap IntKind.i64 (IntKind.wrap IntKind.i64 bl * 8)))
  (cond (decide (IntKind.wrap IntKind.i64 (IntKind.wrap IntKind.i64 bl * 8) ≤ 281474976710656))
  (cond (Nat.ble (1 * Int.toNat (IntKind.wrap IntKind.i64 (IntKind.wrap IntKind.i64 bl * 8))) 281474976710656)
  (cond (Nat.ble (0 + Int.toNat (IntKind.wrap IntKind.i64 (IntKind.wrap IntKind.i64 bl * 8))) (Int.toNat (IntKind.wrap IntKind.i64 (IntKind.wrap IntKind.i64 bl * 8))))
  (cond (List.all (List.range (Int.toNat (IntKind.wrap IntKind.i64 (IntKind.wrap IntKind.i64 bl * 8)))) fun i => decide (0 ≤ byteAt (fun x j => getAt [AV.int IntKind.u8 (Int.ofNat 0)] j) (0 + i)) && decide (byteAt (fun x j => getAt [AV.int IntKind.u8 (Int.ofNat 0)] j) (0 + i) < 256))
  (cond (okDV f (n) g (m) (List.length (List.map (fun i => Int.toNat (byteAt (fun x j => getAt [AV.int IntKind.u8 (Int.ofNat 0)] j) (0 + i))) (List.range (Int.toNat (IntKind.wrap IntKind.i64 (IntKind.wrap IntKind.i64 bl * 8)))))))
  (some (CS.mk [(AV.str ((dwV f g (m) (List.map (fun i => Int.toNat (byteAt (fun x j => getAt [AV.int IntKind.u8 (Int.ofNat 0)] j) (0 + i))) (List.range (Int.toNat (IntKind.wrap IntKind.i64 (IntKind.wrap IntKind.i64 bl * 8))))))))] []))
  none)
  none)
  none)
  none)
  none)
  none)
  (some (CS.mk [(AV.str (bytesOf { data := #[] }))] [])))
  none)
  none)
  none) := by
  rw [k9_is]
  try simp only [eq_self, decide_true, beq_self_eq_true, Nat.beq_refl, ble_self, Int.le_refl, Nat.le_refl]
  cases (rngV f (n)) with
  | true =>
    cases (Nat.ble n 1000) with
    | true =>
      cases (Nat.ble m 1000) with
      | true =>
        cases (vWV bl f n g m) with
        | true =>
          cases (decide (0 ≤ IntKind.wrap IntKind.i64 (IntKind.wrap IntKind.i64 bl * 8))) with
          | true =>
            cases (decide (IntKind.wrap IntKind.i64 (IntKind.wrap IntKind.i64 bl * 8) ≤ 281474976710656)) with
            | true =>
              cases (Nat.ble (1 * Int.toNat (IntKind.wrap IntKind.i64 (IntKind.wrap IntKind.i64 bl * 8))) 281474976710656) with
              | true =>
                cases (Nat.ble (0 + Int.toNat (IntKind.wrap IntKind.i64 (IntKind.wrap IntKind.i64 bl * 8))) (Int.toNat (IntKind.wrap IntKind.i64 (IntKind.wrap IntKind.i64 bl * 8)))) with
                | true =>
                  cases (List.all (List.range (Int.toNat (IntKind.wrap IntKind.i64 (IntKind.wrap IntKind.i64 bl * 8)))) fun i => decide (0 ≤ byteAt (fun x j => getAt [AV.int IntKind.u8 (Int.ofNat 0)] j) (0 + i)) && decide (byteAt (fun x j => getAt [AV.int IntKind.u8 (Int.ofNat 0)] j) (0 + i) < 256)) with
                  | true =>
                    cases (okDV f (n) g (m) (List.length (List.map (fun i => Int.toNat (byteAt (fun x j => getAt [AV.int IntKind.u8 (Int.ofNat 0)] j) (0 + i))) (List.range (Int.toNat (IntKind.wrap IntKind.i64 (IntKind.wrap IntKind.i64 bl * 8))))))) with
                    | true =>
                      rfl
                    | false =>
                      rfl
                  | false =>
                    rfl
                | false =>
                  rfl
              | false =>
                rfl
            | false =>
              rfl
          | false =>
            rfl
        | false =>
          rfl
      | false =>
        rfl
    | false =>
      rfl
  | false =>
    rfl

end Go.Proofs.Ytbcilfbdbphjgaa.witnessValid
