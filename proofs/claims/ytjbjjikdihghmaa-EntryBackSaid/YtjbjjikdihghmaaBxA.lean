/- Bytes, written and read: what the machine reckons. -/
import Derived.Test.YtjbjjikdihghmaaRows
import Derived.Test.YtjbjjikdihghmaaBmVk
import Derived.KernelRfl
set_option linter.unusedSimpArgs false
set_option linter.unusedVariables false
set_option maxRecDepth 20000
namespace Go.Proofs.Ytjbjjikdihghmaa.entry
open Go Go.RowKit Go.Proofs.Ytjbjjikdihghmaa.Bm
noncomputable def E0 : Env := mkEnv Try.prog 94 67
noncomputable def E1 : Env := { E0 with tyd := fun t => Nat.beq t 57 || Nat.beq t 5, bits := bitsR }
abbrev shB : List Sh := [.int .u8]
abbrev shU : List Sh := [.int .u64]
/-- A number's byte. -/
def byt (x : Int) (i : Nat) : Int := (x / 256 ^ i) % 256
/-- Its bytes; those of all numbers of an array. -/
def oneB (x : Int) (a _ : Nat) : AV := .int .u8 (byt x a)
def allB (w : Nat) (g : Nat → Nat → AV) (a _ : Nat) : AV := .int .u8 (byt (g (a / w) 0).toI (a % w))
theorem u64E : ∃ q : Int → Bool, q = fun x => decide (0 ≤ x) && decide (x < 18446744073709551616) := ⟨_, rfl⟩
/-- Is a number in range (not unfolded by the kernel). -/
noncomputable def u64B : Int → Bool := Classical.choose u64E
theorem u64B_eq (x : Int) : u64B x = (decide (0 ≤ x) && decide (x < 18446744073709551616)) := by
  rw [show u64B = _ from Classical.choose_spec u64E]
/-- Are all of them in range. -/
noncomputable def allU (g : Nat → Nat → AV) (m : Nat) : Bool := okFrom (fun i => u64B (g i 0).toI) 0 m
def h21b : Pat := ⟨42, [(1, .keep), (7, .asl shB), (9, .keep), (21, .asl shU), (22, .keep), (23, .keep), (27, .keep), (28, .keep)], []⟩
def x21b : List (Ex × Pat) := [(.exit 2, ⟨42, [(1, .keep), (7, .asl shB), (21, .asl shU), (22, .keep), (23, .keep)], []⟩)]
def h21a : Pat := ⟨42, [(1, .keep), (7, .asl shB), (21, .asl shU), (22, .keep), (23, .keep)], []⟩
def x21a : List (Ex × Pat) := [(.exit 0, ⟨42, [(7, .asl shB)], []⟩)]
def c21b (w : Int) (n : Nat) (f : Nat → Nat → AV) (x : Int) (m : Nat) (g : Nat → Nat → AV) (j : Int) (i : Nat) : CS :=
  ⟨[.int .i64 w, .osl false 0 0 n n 1 true, .int .u64 x, .osl false 1 0 m m 1 true, .int .i64 (m : Nat), .int .i64 j, .int .i64 w, .int .i64 (i : Nat)], [some (.tarr shB n f true), some (.tarr shU m g true)]⟩
def c21a (w : Int) (n : Nat) (f : Nat → Nat → AV) (m : Nat) (g : Nat → Nat → AV) (j : Nat) : CS :=
  ⟨[.int .i64 w, .osl false 0 0 n n 1 true, .osl false 1 0 m m 1 true, .int .i64 (m : Nat), .int .i64 (j : Nat)], [some (.tarr shB n f true), some (.tarr shU m g true)]⟩
def a21 (nl : Bool) (n : Nat) (f : Nat → Nat → AV) (w : Int) (m : Nat) (g : Nat → Nat → AV) : CS :=
  ⟨[.osl nl 0 0 n n 1 true, .int .i64 w, .osl false 1 0 m m 1 true], [some (.tarr shB n f true), some (.tarr shU m g true)]⟩
def a27 (nl : Bool) (n : Nat) (f : Nat → Nat → AV) (w : Int) (x : Int) : CS :=
  ⟨[.osl nl 0 0 n n 1 true, .int .i64 w, .int .u64 x], [some (.tarr shB n f true)]⟩
noncomputable def r21bB  (w : Int) (n : Nat) (f : Nat → Nat → AV) (x : Int) (m : Nat) (g : Nat → Nat → AV) (j : Int) : T (Nat × CS) :=
  chkT [!(decide (w < 1)), !(decide (w > 8)), Nat.ble (n + 8) 1000000] (.ret (1, ⟨[.int .i64 w, .osl false 0 0 (n + w.toNat) (n + w.toNat) 1 true, .osl false 1 0 m m 1 true, .int .i64 (m : Nat), .int .i64 j], [some (.tarr shB (n + w.toNat) (fjoin f n (oneB x)) true), some (.tarr shU m g true)]⟩))
noncomputable def r21b  (c : CS) : T (Nat × CS) := match c with
  | ⟨[.int .i64 w, .osl z_1 0 0 n z_2 1 true, .int .u64 x, .osl z_3 1 0 m z_4 1 true, .int .i64 z_5, .int .i64 j, .int .i64 z_6, .int .i64 z_7], [some (.tarr sh_8 z_9 f true), some (.tarr sh_10 z_11 g true)]⟩ => chkT [decide (false = z_1), decide (n = z_2), decide (false = z_3), decide (m = z_4), decide ((m : Nat) = z_5), decide (w = z_6), decide (0 = z_7), shBeq sh_8 shB, decide (n = z_9), shBeq sh_10 shU, decide (m = z_11)] (r21bB  w n f x m g j)
  | _ => .fail
noncomputable def r21aB  (w : Int) (n : Nat) (f : Nat → Nat → AV) (m : Nat) (g : Nat → Nat → AV) : T (Nat × CS) :=
  chkT [!(decide (w < 1)), !(decide (w > 8)), Nat.ble (n + 8 * m) 1000000] (.ret (1, ⟨[.osl false 0 0 (n + w.toNat * m) (n + w.toNat * m) 1 true], [some (.tarr shB (n + w.toNat * m) (fjoin f n (allB w.toNat g)) true)]⟩))
noncomputable def r21a  (c : CS) : T (Nat × CS) := match c with
  | ⟨[.int .i64 w, .osl z_1 0 0 n z_2 1 true, .osl z_3 1 0 m z_4 1 true, .int .i64 z_5, .int .i64 z_6], [some (.tarr sh_7 z_8 f true), some (.tarr sh_9 z_10 g true)]⟩ => chkT [decide (false = z_1), decide (n = z_2), decide (false = z_3), decide (m = z_4), decide ((m : Nat) = z_5), decide (0 = z_6), shBeq sh_7 shB, decide (n = z_8), shBeq sh_9 shU, decide (m = z_10)] (r21aB  w n f m g)
  | _ => .fail
noncomputable def f21B  (nl : Bool) (n : Nat) (f : Nat → Nat → AV) (w : Int) (m : Nat) (g : Nat → Nat → AV) : T (CS) :=
  chkT [!(decide (w < 1)), !(decide (w > 8)), cond nl (Nat.beq n 0) true, Nat.ble (n + 8 * m) 1000000] (.ret ⟨[.osl false 0 0 (n + w.toNat * m) (n + w.toNat * m) 1 true], [some (.tarr shB (n + w.toNat * m) (fjoin f n (allB w.toNat g)) true)]⟩)
noncomputable def f21  (c : CS) : T (CS) := match c with
  | ⟨[.osl nl 0 0 n z_1 1 true, .int .i64 w, .osl z_2 1 0 m z_3 1 true], [some (.tarr sh_4 z_5 f true), some (.tarr sh_6 z_7 g true)]⟩ => chkT [decide (n = z_1), decide (false = z_2), decide (m = z_3), shBeq sh_4 shB, decide (n = z_5), shBeq sh_6 shU, decide (m = z_7)] (f21B  nl n f w m g)
  | _ => .fail
noncomputable def E2 : Env := addL E1 21 2 1000000 h21b x21b 0 r21b
noncomputable def E3 : Env := addL E2 21 0 1000001 h21a x21a 0 r21a
noncomputable def E4 : Env := E3
noncomputable def E5 : Env := addF E4 21 ⟨fiRun [.asl shB, .keep, .asl shU] [] 0 f21⟩
noncomputable def E6 : Env := E5
noncomputable def E7 : Env := E6
noncomputable def s21b (w : Int) (n : Nat) (f : Nat → Nat → AV) (x : Int) (m : Nat) (g : Nat → Nat → AV) (j : Int) (i : Nat) (π : Plan) : Option (Nat × CS) := stepC (E1) (300) (loopC E1 21 2) (0) (h21b) ((.normal, h21b) :: x21b) π (c21b w n f x m g j i)
def s21b_p : Plan := (.fork (.fork (.reck 1 (.must false (.fork (.must true .stop) .stop))) .stop) .stop)
theorem s21b_is (w : Int) (n : Nat) (f : Nat → Nat → AV) (x : Int) (m : Nat) (g : Nat → Nat → AV) (j : Int) (i : Nat) : s21b w n f x m g j i s21b_p = (cond (decide ((↑i : Int) < w))
  (cond (!decide (IntKind.wrap IntKind.i64 (8 * (↑i : Int)) < 0))
  (cond (Nat.ble ((n) + (1)) (n)) none (cond (growB (1) (n + 1))
  (cond (Nat.ble (0 + n) n) (some (0, (CS.mk [(AV.int IntKind.i64 (w)), (AV.osl (false) (0) (0) (n + 1) (n + 1) (1) (true)), (AV.int IntKind.u64 (x)), (AV.osl (false) (1) (0) (m) (m) (1) (true)), (AV.int IntKind.i64 ((↑m : Int))), (AV.int IntKind.i64 (j)), (AV.int IntKind.i64 (w)), (AV.int IntKind.i64 (IntKind.wrap IntKind.i64 ((↑i : Int) + 1)))] [some (AObj.tarr [Sh.int IntKind.u8] (n + 1) (fjoin (fun p_ q_ => f (0 + p_) q_) (n) (rowsOf (1) [(AV.int IntKind.u8 (IntKind.wrap IntKind.u8 (Int.fdiv x (2 ^ min (Int.toNat (IntKind.wrap IntKind.i64 (8 * (↑i : Int)))) (IntKind.bits IntKind.u64)))))] (1))) true), some (AObj.tarr [Sh.int IntKind.u64] (m) g true)]))) none)
  none))
  none)
  (some (1, (CS.mk [(AV.int IntKind.i64 (w)), (AV.osl (false) (0) (0) (n) (n) (1) (true)), (AV.osl (false) (1) (0) (m) (m) (1) (true)), (AV.int IntKind.i64 ((↑m : Int))), (AV.int IntKind.i64 (j))] [some (AObj.tarr [Sh.int IntKind.u8] (n) f true), some (AObj.tarr [Sh.int IntKind.u64] (m) g true)])))) := by kernel_rfl
theorem s21b_eq (w : Int) (n : Nat) (f : Nat → Nat → AV) (x : Int) (m : Nat) (g : Nat → Nat → AV) (j : Int) (i : Nat) (hy0 : (Nat.ble (0 + n) n) = true) : s21b w n f x m g j i s21b_p = (cond (decide ((↑i : Int) < w))
  (cond (decide (IntKind.wrap IntKind.i64 (8 * (↑i : Int)) < 0))
  none
  (cond (Nat.ble ((n) + (1)) (n)) none (cond (growB (1) (n + 1))
  (some (0, (CS.mk [(AV.int IntKind.i64 (w)), (AV.osl (false) (0) (0) (n + 1) (n + 1) (1) (true)), (AV.int IntKind.u64 (x)), (AV.osl (false) (1) (0) (m) (m) (1) (true)), (AV.int IntKind.i64 ((↑m : Int))), (AV.int IntKind.i64 (j)), (AV.int IntKind.i64 (w)), (AV.int IntKind.i64 (IntKind.wrap IntKind.i64 ((↑i : Int) + 1)))] [some (AObj.tarr [Sh.int IntKind.u8] (n + 1) (fjoin (fun p_ q_ => f (0 + p_) q_) (n) (rowsOf (1) [(AV.int IntKind.u8 (IntKind.wrap IntKind.u8 (Int.fdiv x (2 ^ min (Int.toNat (IntKind.wrap IntKind.i64 (8 * (↑i : Int)))) (IntKind.bits IntKind.u64)))))] (1))) true), some (AObj.tarr [Sh.int IntKind.u64] (m) g true)])))
  none)))
  (some (1, (CS.mk [(AV.int IntKind.i64 (w)), (AV.osl (false) (0) (0) (n) (n) (1) (true)), (AV.osl (false) (1) (0) (m) (m) (1) (true)), (AV.int IntKind.i64 ((↑m : Int))), (AV.int IntKind.i64 (j))] [some (AObj.tarr [Sh.int IntKind.u8] (n) f true), some (AObj.tarr [Sh.int IntKind.u64] (m) g true)])))) := by
  rw [s21b_is]
  try simp only [hy0, eq_self, decide_true, beq_self_eq_true, Nat.beq_refl, ble_self, Int.le_refl, Nat.le_refl]
  cases (decide ((↑i : Int) < w)) with
  | true =>
    cases (decide (IntKind.wrap IntKind.i64 (8 * (↑i : Int)) < 0)) with
    | true =>
      rfl
    | false =>
      cases (growB (1) (n + 1)) with
      | true =>
        rfl
      | false =>
        rfl
  | false =>
    rfl

noncomputable def s21a (w : Int) (n : Nat) (f : Nat → Nat → AV) (m : Nat) (g : Nat → Nat → AV) (j : Nat) (π : Plan) : Option (Nat × CS) := stepC (E2) (300) (loopC E2 21 0) (0) (h21a) ((.normal, h21a) :: x21a) π (c21a w n f m g j)
def s21a_p : Plan := (.fork (.reck 1 (.must true (.fork (.reck 1 (.must true (.reck 1 (.must true (.must true (.must true (.reck 2 (.must true (.reck 1 (.must true (.fork (.fork (.fork .stop .stop) .stop) .stop))))))))))) .stop))) .stop)
theorem s21a_is (w : Int) (n : Nat) (f : Nat → Nat → AV) (m : Nat) (g : Nat → Nat → AV) (j : Nat) : s21a w n f m g j s21a_p = (cond (decide ((↑j : Int) < (↑m : Int)))
  (cond (decide ((↑j : Int) < (↑m : Int))) (cond (Nat.blt (0 + Int.toNat (↑j : Int)) m)
  (cond (decide (n = n)) (cond (decide (m = m)) (cond (decide ((↑m : Int) = (↑m : Int))) (cond (decide (w = w)) (cond (decide (n = n)) (cond (decide (m = m)) (cond (!decide (w < 1))
  (cond (!decide (w > 8))
  (cond (Nat.ble (n + 8) 1000000)
  (some (0, (CS.mk [(AV.int IntKind.i64 (w)), (AV.osl (false) (0) (0) (n + Int.toNat w) (n + Int.toNat w) (1) (true)), (AV.osl (false) (1) (0) (m) (m) (1) (true)), (AV.int IntKind.i64 ((↑m : Int))), (AV.int IntKind.i64 (IntKind.wrap IntKind.i64 ((↑j : Int) + 1)))] [some (AObj.tarr [Sh.int IntKind.u8] (n + Int.toNat w) (fjoin f (n) (oneB (AV.toI (g (0 + Int.toNat (↑j : Int)) 0)))) true), some (AObj.tarr [Sh.int IntKind.u64] (m) g true)])))
  none)
  none)
  none) none) none) none) none) none) none)
  none) none)
  (some (1, (CS.mk [(AV.osl (false) (0) (0) (n) (n) (1) (true))] [some (AObj.tarr [Sh.int IntKind.u8] (n) f true)])))) := by kernel_rfl
theorem s21a_eq (w : Int) (n : Nat) (f : Nat → Nat → AV) (m : Nat) (g : Nat → Nat → AV) (j : Nat) : s21a w n f m g j s21a_p = (cond (decide ((↑j : Int) < (↑m : Int)))
  (cond (Nat.blt (0 + Int.toNat (↑j : Int)) m)
  (cond (decide (w < 1))
  none
  (cond (decide (w > 8))
  none
  (cond (Nat.ble (n + 8) 1000000)
  (some (0, (CS.mk [(AV.int IntKind.i64 (w)), (AV.osl (false) (0) (0) (n + Int.toNat w) (n + Int.toNat w) (1) (true)), (AV.osl (false) (1) (0) (m) (m) (1) (true)), (AV.int IntKind.i64 ((↑m : Int))), (AV.int IntKind.i64 (IntKind.wrap IntKind.i64 ((↑j : Int) + 1)))] [some (AObj.tarr [Sh.int IntKind.u8] (n + Int.toNat w) (fjoin f (n) (oneB (AV.toI (g (0 + Int.toNat (↑j : Int)) 0)))) true), some (AObj.tarr [Sh.int IntKind.u64] (m) g true)])))
  none)))
  none)
  (some (1, (CS.mk [(AV.osl (false) (0) (0) (n) (n) (1) (true))] [some (AObj.tarr [Sh.int IntKind.u8] (n) f true)])))) := by
  rw [s21a_is]
  try simp only [eq_self, decide_true, beq_self_eq_true, Nat.beq_refl, ble_self, Int.le_refl, Nat.le_refl]
  cases (decide ((↑j : Int) < (↑m : Int))) with
  | true =>
    cases (Nat.blt (0 + Int.toNat (↑j : Int)) m) with
    | true =>
      cases (decide (w < 1)) with
      | true =>
        rfl
      | false =>
        cases (decide (w > 8)) with
        | true =>
          rfl
        | false =>
          cases (Nat.ble (n + 8) 1000000) with
          | true =>
            rfl
          | false =>
            rfl
    | false =>
      rfl
  | false =>
    rfl

noncomputable def k21 (nl : Bool) (n : Nat) (f : Nat → Nat → AV) (w : Int) (m : Nat) (g : Nat → Nat → AV) (π : Plan) : Option CS := callC (E4) (1000) (21) (0) (.asl shB) ([]) π (a21 nl n f w m g)
def k21_p : Plan := (.fork (.reck 1 (.fork (.must true (.must false (.fork .stop (.reck 3 (.must true (.must true (.reck 4 (.must true (.must true (.must true (.fork .stop .stop))))))))))) (.must false (.must true .stop)))) (.fork (.fork (.fork (.must true (.must false (.fork .stop (.reck 3 (.must true (.must true (.reck 4 (.must true (.must true (.must true (.fork .stop .stop))))))))))) (.must false (.must true .stop))) .stop) (.fork (.fork (.fork (.must true (.must false (.fork .stop (.reck 1 (.must true (.reck 1 (.must true (.must true (.reck 2 (.must true (.reck 1 (.must true (.must true (.must true (.fork .stop .stop))))))))))))))) (.must false (.must true .stop))) .stop) .stop)))
theorem k21_is (nl : Bool) (n : Nat) (f : Nat → Nat → AV) (w : Int) (m : Nat) (g : Nat → Nat → AV) : k21 nl n f w m g k21_p = (cond (nl)
  (cond (decide (w < 1) == false)
  (cond (decide (w < 1) == false) (cond (decide (w < 1)) none (cond (decide (w > 8))
  (some (CS.mk [(AV.osl (false) (0) (0) (0) (0) (1) (true))] [some (AObj.tarr [Sh.int IntKind.u8] (0) (rowsOf (1) [] (0)) true)]))
  (cond (decide (m = m)) (cond (decide ((↑m : Int) = (↑m : Int))) (cond (decide (m = m)) (cond (!decide (w < 1)) (cond (!decide (w > 8)) (cond (Nat.ble (0 + 0 + 8 * m) 1000000)
  (some (CS.mk [(AV.osl (false) (0) (0) (0 + 0 + Int.toNat w * m) (0 + 0 + Int.toNat w * m) (1) (true))] [some (AObj.tarr [Sh.int IntKind.u8] (0 + 0 + Int.toNat w * m) (fjoin (rowsOf (1) [] (0)) (0) (allB (Int.toNat w) g)) true)]))
  none) none) none) none) none) none))) none)
  (cond (decide (w < 1) == false) none (cond (decide (w < 1)) (some (CS.mk [(AV.osl (false) (0) (0) (0) (0) (1) (true))] [some (AObj.tarr [Sh.int IntKind.u8] (0) (rowsOf (1) [] (0)) true)])) none)))
  (cond (Nat.ble ((0) + (n)) (0))
  (cond (Nat.ble (0 + n) n)
  (cond (decide (w < 1) == false)
  (cond (decide (w < 1) == false) (cond (decide (w < 1)) none (cond (decide (w > 8))
  (some (CS.mk [(AV.osl (false) (0) (0) (0) (0) (1) (true))] [some (AObj.tarr [Sh.int IntKind.u8] (0) (rowsOf (1) [] (0)) true)]))
  (cond (decide (m = m)) (cond (decide ((↑m : Int) = (↑m : Int))) (cond (decide (m = m)) (cond (!decide (w < 1)) (cond (!decide (w > 8)) (cond (Nat.ble (0 + 8 * m) 1000000)
  (some (CS.mk [(AV.osl (false) (0) (0) (0 + Int.toNat w * m) (0 + Int.toNat w * m) (1) (true))] [some (AObj.tarr [Sh.int IntKind.u8] (0 + Int.toNat w * m) (fjoin (rowsOf (1) [] (0)) (0) (allB (Int.toNat w) g)) true)]))
  none) none) none) none) none) none))) none)
  (cond (decide (w < 1) == false) none (cond (decide (w < 1)) (some (CS.mk [(AV.osl (false) (0) (0) (0) (0) (1) (true))] [some (AObj.tarr [Sh.int IntKind.u8] (0) (rowsOf (1) [] (0)) true)])) none)))
  none)
  (cond (growB (1) (0 + n))
  (cond (Nat.ble (0 + n) n)
  (cond (decide (w < 1) == false)
  (cond (decide (w < 1) == false) (cond (decide (w < 1)) none (cond (decide (w > 8))
  (some (CS.mk [(AV.osl (false) (0) (0) (0 + n) (0 + n) (1) (true))] [some (AObj.tarr [Sh.int IntKind.u8] (0 + n) (fjoin (rowsOf (1) [] (0)) (0) (fun p_ q_ => f (0 + p_) q_)) true)]))
  (cond (decide (0 + n = 0 + n)) (cond (decide (m = m)) (cond (decide ((↑m : Int) = (↑m : Int))) (cond (decide (0 + n = 0 + n)) (cond (decide (m = m)) (cond (!decide (w < 1)) (cond (!decide (w > 8)) (cond (Nat.ble (0 + n + 8 * m) 1000000)
  (some (CS.mk [(AV.osl (false) (0) (0) (0 + n + Int.toNat w * m) (0 + n + Int.toNat w * m) (1) (true))] [some (AObj.tarr [Sh.int IntKind.u8] (0 + n + Int.toNat w * m) (fjoin (fjoin (rowsOf (1) [] (0)) (0) (fun p_ q_ => f (0 + p_) q_)) (0 + n) (allB (Int.toNat w) g)) true)]))
  none) none) none) none) none) none) none) none))) none)
  (cond (decide (w < 1) == false) none (cond (decide (w < 1)) (some (CS.mk [(AV.osl (false) (0) (0) (0 + n) (0 + n) (1) (true))] [some (AObj.tarr [Sh.int IntKind.u8] (0 + n) (fjoin (rowsOf (1) [] (0)) (0) (fun p_ q_ => f (0 + p_) q_)) true)])) none)))
  none)
  none))) := by kernel_rfl
theorem k21_eq (nl : Bool) (n : Nat) (f : Nat → Nat → AV) (w : Int) (m : Nat) (g : Nat → Nat → AV) : k21 nl n f w m g k21_p = (cond (nl)
  (cond (decide (w < 1))
  (some (CS.mk [(AV.osl (false) (0) (0) (0) (0) (1) (true))] [some (AObj.tarr [Sh.int IntKind.u8] (0) (rowsOf (1) [] (0)) true)]))
  (cond (decide (w > 8))
  (some (CS.mk [(AV.osl (false) (0) (0) (0) (0) (1) (true))] [some (AObj.tarr [Sh.int IntKind.u8] (0) (rowsOf (1) [] (0)) true)]))
  (cond (Nat.ble (0 + 0 + 8 * m) 1000000)
  (some (CS.mk [(AV.osl (false) (0) (0) (0 + 0 + Int.toNat w * m) (0 + 0 + Int.toNat w * m) (1) (true))] [some (AObj.tarr [Sh.int IntKind.u8] (0 + 0 + Int.toNat w * m) (fjoin (rowsOf (1) [] (0)) (0) (allB (Int.toNat w) g)) true)]))
  none)))
  (cond (Nat.ble ((0) + (n)) (0))
  (cond (Nat.ble (0 + n) n)
  (cond (decide (w < 1))
  (some (CS.mk [(AV.osl (false) (0) (0) (0) (0) (1) (true))] [some (AObj.tarr [Sh.int IntKind.u8] (0) (rowsOf (1) [] (0)) true)]))
  (cond (decide (w > 8))
  (some (CS.mk [(AV.osl (false) (0) (0) (0) (0) (1) (true))] [some (AObj.tarr [Sh.int IntKind.u8] (0) (rowsOf (1) [] (0)) true)]))
  (cond (Nat.ble (0 + 8 * m) 1000000)
  (some (CS.mk [(AV.osl (false) (0) (0) (0 + Int.toNat w * m) (0 + Int.toNat w * m) (1) (true))] [some (AObj.tarr [Sh.int IntKind.u8] (0 + Int.toNat w * m) (fjoin (rowsOf (1) [] (0)) (0) (allB (Int.toNat w) g)) true)]))
  none)))
  none)
  (cond (growB (1) (0 + n))
  (cond (Nat.ble (0 + n) n)
  (cond (decide (w < 1))
  (some (CS.mk [(AV.osl (false) (0) (0) (0 + n) (0 + n) (1) (true))] [some (AObj.tarr [Sh.int IntKind.u8] (0 + n) (fjoin (rowsOf (1) [] (0)) (0) (fun p_ q_ => f (0 + p_) q_)) true)]))
  (cond (decide (w > 8))
  (some (CS.mk [(AV.osl (false) (0) (0) (0 + n) (0 + n) (1) (true))] [some (AObj.tarr [Sh.int IntKind.u8] (0 + n) (fjoin (rowsOf (1) [] (0)) (0) (fun p_ q_ => f (0 + p_) q_)) true)]))
  (cond (Nat.ble (0 + n + 8 * m) 1000000)
  (some (CS.mk [(AV.osl (false) (0) (0) (0 + n + Int.toNat w * m) (0 + n + Int.toNat w * m) (1) (true))] [some (AObj.tarr [Sh.int IntKind.u8] (0 + n + Int.toNat w * m) (fjoin (fjoin (rowsOf (1) [] (0)) (0) (fun p_ q_ => f (0 + p_) q_)) (0 + n) (allB (Int.toNat w) g)) true)]))
  none)))
  none)
  none))) := by
  rw [k21_is]
  try simp only [eq_self, decide_true, beq_self_eq_true, Nat.beq_refl, ble_self, Int.le_refl, Nat.le_refl]
  cases (nl) with
  | true =>
    cases (decide (w < 1)) with
    | true =>
      rfl
    | false =>
      cases (decide (w > 8)) with
      | true =>
        rfl
      | false =>
        cases (Nat.ble (0 + 0 + 8 * m) 1000000) with
        | true =>
          rfl
        | false =>
          rfl
  | false =>
    cases (Nat.ble ((0) + (n)) (0)) with
    | true =>
      cases (Nat.ble (0 + n) n) with
      | true =>
        cases (decide (w < 1)) with
        | true =>
          rfl
        | false =>
          cases (decide (w > 8)) with
          | true =>
            rfl
          | false =>
            cases (Nat.ble (0 + 8 * m) 1000000) with
            | true =>
              rfl
            | false =>
              rfl
      | false =>
        rfl
    | false =>
      cases (growB (1) (0 + n)) with
      | true =>
        cases (Nat.ble (0 + n) n) with
        | true =>
          cases (decide (w < 1)) with
          | true =>
            rfl
          | false =>
            cases (decide (w > 8)) with
            | true =>
              rfl
            | false =>
              cases (Nat.ble (0 + n + 8 * m) 1000000) with
              | true =>
                rfl
              | false =>
                rfl
        | false =>
          rfl
      | false =>
        rfl

/-- A number out of bytes. -/
def val (f : Nat → Nat → AV) : Nat → Nat → Int
  | _, 0 => 0
  | o, k + 1 => (f o 0).toI + 256 * val f (o + 1) k
theorem okE : ∃ q : (Nat → Nat → AV) → Nat → Bool, q = fun f n => (List.range n).all fun i => decide (0 ≤ (f i 0).toI) && decide ((f i 0).toI < 256) := ⟨_, rfl⟩
/-- Is all of an array bytes (not unfolded by the kernel). -/
noncomputable def okB : (Nat → Nat → AV) → Nat → Bool := Classical.choose okE
theorem okB_eq (f : Nat → Nat → AV) (n : Nat) : okB f n = (List.range n).all fun i => decide (0 ≤ (f i 0).toI) && decide ((f i 0).toI < 256) := by
  rw [show okB = _ from Classical.choose_spec okE]
noncomputable def Eb (β : BinOp → IntKind → Int → Int → Int) : Env := { E1 with bits := β }
def h32 : Pat := ⟨38, [(5, .keep), (6, .keep), (23, .asl shB), (24, .keep), (25, .keep)], []⟩
def x32 : List (Ex × Pat) := [(.exit 0, ⟨38, [(5, .keep)], []⟩)]
def c32 (v : Int) (nl : Bool) (off : Nat) (n : Nat) (N : Nat) (f : Nat → Nat → AV) (rw : Bool) (i : Nat) : CS :=
  ⟨[.int .u64 v, (.func (.func 43) [] []), .osl nl 0 off n n 1 true, .int .i64 (n : Nat), .int .i64 (i : Nat)], [some (.tarr shB N f rw)]⟩
noncomputable def r32B  (nl : Bool) (off : Nat) (n : Nat) (N : Nat) (f : Nat → Nat → AV) (rw : Bool) : T (Nat × CS) :=
  chkT [okB f N, Nat.ble n 8, Nat.ble (off + n) N] (.ret (1, ⟨[.int .u64 (val f off n)], []⟩))
noncomputable def r32  (c : CS) : T (Nat × CS) := match c with
  | ⟨[.int .u64 z_1, (.func (.func 43) [] []), .osl nl 0 off n z_2 1 true, .int .i64 z_3, .int .i64 z_4], [some (.tarr sh_5 N f rw)]⟩ => chkT [decide (0 = z_1), decide (n = z_2), decide ((n : Nat) = z_3), decide (0 = z_4), shBeq sh_5 shB] (r32B  nl off n N f rw)
  | _ => .fail
noncomputable def F1 : Env := addL E1 32 0 1000010 h32 x32 0 r32
noncomputable def F2 : Env := F1
def failP : List (Option AObj) := [some (.cells [.osl true 1 0 0 0 1 true, .bool true] true), some (.tarr shB 0 (fun _ _ => .bad) true)]
def okP (nl : Bool) (off N : Nat) (f : Nat → Nat → AV) : List (Option AObj) := [some (.cells [.osl nl 1 off (N - off) (N - off) 1 true, .bool false] true), some (.tarr shB N f false)]
/-- A text out of bytes. -/
def strV (f : Nat → Nat → AV) (o n : Nat) : List Nat := (List.range n).map fun i => (byteAt f (o + i)).toNat
def pR : List PV := [.asl shB, .keep]
def a32 (nl : Bool) (off : Nat) (N : Nat) (f : Nat → Nat → AV) (w : Int) : CS :=
  ⟨[.ptr 0 0, .int .i64 w], [some (.cells [.osl nl 1 off (N - off) (N - off) 1 true, .bool false] true), some (.tarr shB N f false)]⟩
def a32f (w : Int) : CS :=
  ⟨[.ptr 0 0, .int .i64 w], [some (.cells [.nilSlice, .bool true] true), none]⟩
noncomputable def q32oB  (nl : Bool) (off : Nat) (N : Nat) (f : Nat → Nat → AV) (w : Int) : T (CS) :=
  chkT [!(decide (w < 1)), !(decide (w > 8)), okB f N, Nat.ble off N, Nat.ble N 1000000] (.ask (Nat.blt N (off + w.toNat)) (.ret ⟨[.int .u64 0], failP⟩) (.ret ⟨[.int .u64 (val f off w.toNat)], okP nl (off + w.toNat) N f⟩))
noncomputable def q32o  (c : CS) : T (CS) := match c with
  | ⟨[.ptr 0 0, .int .i64 w], [some (.cells [.osl nl 1 off z_1 z_2 1 true, .bool z_3] true), some (.tarr sh_4 N f false)]⟩ => chkT [decide ((N - off) = z_1), decide ((N - off) = z_2), decide (false = z_3), shBeq sh_4 shB] (q32oB  nl off N f w)
  | _ => .fail
noncomputable def q32f (c : CS) : T CS := match c with
  | ⟨[.ptr 0 0, .int .i64 w], [some (.cells [.osl z 1 _ _ _ 1 _, .bool true] true), some _]⟩ => chkT [z, !(decide (w < 1)), !(decide (w > 8))] (.ret ⟨[.int .u64 0], failP⟩)
  | _ => .fail
/-- Has it failed. -/
def badP (c : CS) : Bool := match c.os with
  | some (.cells [_, .bool b] _) :: _ => b
  | some (.cells [_, _, .bool b] _) :: _ => b
  | _ => false
noncomputable def q32 (c : CS) : T CS := cond (badP c) (q32f c) (q32o c)
noncomputable def F3 : Env := addF F2 32 ⟨fiRun [.keep, .keep] [pR] 1 q32⟩
noncomputable def s32 (β : BinOp → IntKind → Int → Int → Int) (v : Int) (nl : Bool) (off : Nat) (n : Nat) (N : Nat) (f : Nat → Nat → AV) (rw : Bool) (i : Nat) (π : Plan) : Option (Nat × CS) := stepC (Eb β) (300) (loopC E1 32 0) (0) (h32) ((.normal, h32) :: x32) π (c32 v nl off n N f rw i)
def s32_p : Plan := (.fork (.reck 1 (.must true (.fork (.fork .stop .stop) .stop))) .stop)
theorem s32_is (β : Go.BinOp → Go.IntKind → Int → Int → Int) (v : Int) (nl : Bool) (off : Nat) (n : Nat) (N : Nat) (f : Nat → Nat → AV) (rw : Bool) (i : Nat) : s32 β v nl off n N f rw i s32_p = (cond (decide ((↑i : Int) < (↑n : Int)))
  (cond (decide ((↑i : Int) < (↑n : Int))) (cond (Nat.blt (off + Int.toNat (↑i : Int)) N)
  (cond (!decide (IntKind.wrap IntKind.i64 (8 * (↑i : Int)) < 0))
  (some (0, (CS.mk [(AV.int IntKind.u64 (β BinOp.or IntKind.u64 v (IntKind.wrap IntKind.u64 (IntKind.wrap IntKind.u64 (AV.toI (f (off + Int.toNat (↑i : Int)) 0)) * 2 ^ min (Int.toNat (IntKind.wrap IntKind.i64 (8 * (↑i : Int)))) (IntKind.bits IntKind.u64))))), (AV.func (Fn.func 43) [] []), (AV.osl (nl) (0) (off) (n) (n) (1) (true)), (AV.int IntKind.i64 ((↑n : Int))), (AV.int IntKind.i64 (IntKind.wrap IntKind.i64 ((↑i : Int) + 1)))] [some (AObj.tarr [Sh.int IntKind.u8] (N) f rw)])))
  none)
  none) none)
  (some (1, (CS.mk [(AV.int IntKind.u64 (v))] [])))) := by kernel_rfl
theorem s32_eq (β : Go.BinOp → Go.IntKind → Int → Int → Int) (v : Int) (nl : Bool) (off : Nat) (n : Nat) (N : Nat) (f : Nat → Nat → AV) (rw : Bool) (i : Nat) : s32 β v nl off n N f rw i s32_p = (cond (decide ((↑i : Int) < (↑n : Int)))
  (cond (Nat.blt (off + Int.toNat (↑i : Int)) N)
  (cond (decide (IntKind.wrap IntKind.i64 (8 * (↑i : Int)) < 0))
  none
  (some (0, (CS.mk [(AV.int IntKind.u64 (β BinOp.or IntKind.u64 v (IntKind.wrap IntKind.u64 (IntKind.wrap IntKind.u64 (AV.toI (f (off + Int.toNat (↑i : Int)) 0)) * 2 ^ min (Int.toNat (IntKind.wrap IntKind.i64 (8 * (↑i : Int)))) (IntKind.bits IntKind.u64))))), (AV.func (Fn.func 43) [] []), (AV.osl (nl) (0) (off) (n) (n) (1) (true)), (AV.int IntKind.i64 ((↑n : Int))), (AV.int IntKind.i64 (IntKind.wrap IntKind.i64 ((↑i : Int) + 1)))] [some (AObj.tarr [Sh.int IntKind.u8] (N) f rw)]))))
  none)
  (some (1, (CS.mk [(AV.int IntKind.u64 (v))] [])))) := by
  rw [s32_is]
  try simp only [eq_self, decide_true, beq_self_eq_true, Nat.beq_refl, ble_self, Int.le_refl, Nat.le_refl]
  cases (decide ((↑i : Int) < (↑n : Int))) with
  | true =>
    cases (Nat.blt (off + Int.toNat (↑i : Int)) N) with
    | true =>
      cases (decide (IntKind.wrap IntKind.i64 (8 * (↑i : Int)) < 0)) with
      | true =>
        rfl
      | false =>
        rfl
    | false =>
      rfl
  | false =>
    rfl

noncomputable def k32 (nl : Bool) (off : Nat) (N : Nat) (f : Nat → Nat → AV) (w : Int) (π : Plan) : Option CS := callC (F2) (1000) (32) (1) (.keep) ([pR]) π (a32 nl off N f w)
def k32_p : Plan := (.reck 1 (.fork (.must true (.must false (.fork .stop (.fork (.must true (.must true (.must true (.must true (.must true (.must true (.must false (.fork (.must true (.must true (.must true (.must false (.reck 2 (.fork (.fork (.must true (.must true (.must true (.reck 1 (.must true (.must true (.reck 2 (.fork (.fork (.fork .stop .stop) .stop) .stop)))))))) .stop) .stop)))))) (.must false (.must false (.must false (.must true (.reck 6 (.fork .stop .stop)))))))))))))) (.must false (.must false (.must false (.must false (.must false (.must false (.must true (.reck 11 (.fork .stop .stop))))))))))))) (.must false (.must true .stop))))
theorem k32_is (nl : Bool) (off : Nat) (N : Nat) (f : Nat → Nat → AV) (w : Int) : k32 nl off N f w k32_p = (cond (decide (w < 1) == false)
  (cond (decide (w < 1) == false) (cond (decide (w < 1)) none (cond (decide (w > 8))
  (some (CS.mk [(AV.int IntKind.u64 (0))] [some (AObj.cells [(AV.osl (true) (1) (0) (0) (0) (1) (true)), (AV.bool (true))] true), some (AObj.tarr [Sh.int IntKind.u8] (0) (fun p_ q_ => AV.bad) true)]))
  (cond (decide (w < 0) == false)
  (cond (decide (w < 0) == false) (cond (decide (w < 0) == false) (cond (decide (w < 0) == false) (cond (decide (w < 0) == false) (cond (decide (w < 0) == false) (cond (decide (w < 0) == false) (cond (decide (w < 0)) none (cond (decide (w > (↑(N - off) : Int)) == false)
  (cond (decide (w > (↑(N - off) : Int)) == false) (cond (decide (w > (↑(N - off) : Int)) == false) (cond (decide (w > (↑(N - off) : Int)) == false) (cond (decide (w > (↑(N - off) : Int))) none (cond (Nat.ble (Int.toNat w) (N - off))
  (cond (decide (0 ≤ w))
  (cond (Nat.ble (Int.toNat w) (N - off)) (cond (Nat.ble (N - off) (N - off)) (cond (decide (0 ≤ w)) (cond (decide (Int.toNat w - 0 = Int.toNat w - 0)) (cond (decide ((↑(Int.toNat w - 0) : Int) = (↑(Int.toNat w - 0) : Int))) (cond ((okB f (N)))
  (cond (Nat.ble (Int.toNat w - 0) 8)
  (cond (Nat.ble (off + 0 + (Int.toNat w - 0)) N)
  (some (CS.mk [(AV.int IntKind.u64 ((val f (off + 0) (Int.toNat w - 0))))] [some (AObj.cells [(AV.osl (nl) (1) (off + Int.toNat w) (N - off - Int.toNat w) (N - off - Int.toNat w) (1) (true)), (AV.bool (false))] true), some (AObj.tarr [Sh.int IntKind.u8] (N) f false)]))
  none)
  none)
  none) none) none) none) none) none)
  none)
  none)) none) none) none)
  (cond (decide (w > (↑(N - off) : Int)) == false) none (cond (decide (w > (↑(N - off) : Int)) == false) none (cond (decide (w > (↑(N - off) : Int)) == false) none (cond (decide (w > (↑(N - off) : Int))) (cond ((okB (fun p_ q_ => AV.bad) (0)))
  (some (CS.mk [(AV.int IntKind.u64 ((val (fun p_ q_ => AV.bad) (0) (0))))] [some (AObj.cells [(AV.osl (true) (1) (0) (0) (0) (1) (true)), (AV.bool (true))] true), some (AObj.tarr [Sh.int IntKind.u8] (0) (fun p_ q_ => AV.bad) true)]))
  none) none)))))) none) none) none) none) none) none)
  (cond (decide (w < 0) == false) none (cond (decide (w < 0) == false) none (cond (decide (w < 0) == false) none (cond (decide (w < 0) == false) none (cond (decide (w < 0) == false) none (cond (decide (w < 0) == false) none (cond (decide (w < 0)) (cond ((okB (fun p_ q_ => AV.bad) (0)))
  (some (CS.mk [(AV.int IntKind.u64 ((val (fun p_ q_ => AV.bad) (0) (0))))] [some (AObj.cells [(AV.osl (true) (1) (0) (0) (0) (1) (true)), (AV.bool (true))] true), some (AObj.tarr [Sh.int IntKind.u8] (0) (fun p_ q_ => AV.bad) true)]))
  none) none)))))))))) none)
  (cond (decide (w < 1) == false) none (cond (decide (w < 1)) (some (CS.mk [(AV.int IntKind.u64 (0))] [some (AObj.cells [(AV.osl (true) (1) (0) (0) (0) (1) (true)), (AV.bool (true))] true), some (AObj.tarr [Sh.int IntKind.u8] (0) (fun p_ q_ => AV.bad) true)])) none))) := by kernel_rfl
theorem k32_eq (nl : Bool) (off : Nat) (N : Nat) (f : Nat → Nat → AV) (w : Int) : k32 nl off N f w k32_p = (cond (decide (w < 1))
  (some (CS.mk [(AV.int IntKind.u64 (0))] [some (AObj.cells [(AV.osl (true) (1) (0) (0) (0) (1) (true)), (AV.bool (true))] true), some (AObj.tarr [Sh.int IntKind.u8] (0) (fun p_ q_ => AV.bad) true)]))
  (cond (decide (w > 8))
  (some (CS.mk [(AV.int IntKind.u64 (0))] [some (AObj.cells [(AV.osl (true) (1) (0) (0) (0) (1) (true)), (AV.bool (true))] true), some (AObj.tarr [Sh.int IntKind.u8] (0) (fun p_ q_ => AV.bad) true)]))
  (cond (decide (w < 0))
  (cond (okB (fun p_ q_ => AV.bad) (0))
  (some (CS.mk [(AV.int IntKind.u64 ((val (fun p_ q_ => AV.bad) (0) (0))))] [some (AObj.cells [(AV.osl (true) (1) (0) (0) (0) (1) (true)), (AV.bool (true))] true), some (AObj.tarr [Sh.int IntKind.u8] (0) (fun p_ q_ => AV.bad) true)]))
  none)
  (cond (decide (w > (↑(N - off) : Int)))
  (cond (okB (fun p_ q_ => AV.bad) (0))
  (some (CS.mk [(AV.int IntKind.u64 ((val (fun p_ q_ => AV.bad) (0) (0))))] [some (AObj.cells [(AV.osl (true) (1) (0) (0) (0) (1) (true)), (AV.bool (true))] true), some (AObj.tarr [Sh.int IntKind.u8] (0) (fun p_ q_ => AV.bad) true)]))
  none)
  (cond (Nat.ble (Int.toNat w) (N - off))
  (cond (decide (0 ≤ w))
  (cond (okB f (N))
  (cond (Nat.ble (Int.toNat w - 0) 8)
  (cond (Nat.ble (off + 0 + (Int.toNat w - 0)) N)
  (some (CS.mk [(AV.int IntKind.u64 ((val f (off + 0) (Int.toNat w - 0))))] [some (AObj.cells [(AV.osl (nl) (1) (off + Int.toNat w) (N - off - Int.toNat w) (N - off - Int.toNat w) (1) (true)), (AV.bool (false))] true), some (AObj.tarr [Sh.int IntKind.u8] (N) f false)]))
  none)
  none)
  none)
  none)
  none))))) := by
  rw [k32_is]
  try simp only [eq_self, decide_true, beq_self_eq_true, Nat.beq_refl, ble_self, Int.le_refl, Nat.le_refl]
  cases (decide (w < 1)) with
  | true =>
    rfl
  | false =>
    cases (decide (w > 8)) with
    | true =>
      rfl
    | false =>
      cases (decide (w < 0)) with
      | true =>
        cases (okB (fun p_ q_ => AV.bad) (0)) with
        | true =>
          rfl
        | false =>
          rfl
      | false =>
        cases (decide (w > (↑(N - off) : Int))) with
        | true =>
          cases (okB (fun p_ q_ => AV.bad) (0)) with
          | true =>
            rfl
          | false =>
            rfl
        | false =>
          cases (Nat.ble (Int.toNat w) (N - off)) with
          | true =>
            cases (decide (0 ≤ w)) with
            | true =>
              cases (okB f (N)) with
              | true =>
                cases (Nat.ble (Int.toNat w - 0) 8) with
                | true =>
                  cases (Nat.ble (off + 0 + (Int.toNat w - 0)) N) with
                  | true =>
                    rfl
                  | false =>
                    rfl
                | false =>
                  rfl
              | false =>
                rfl
            | false =>
              rfl
          | false =>
            rfl

noncomputable def k32f (w : Int) (π : Plan) : Option CS := callC (F2) (1000) (32) (1) (.keep) ([pR]) π (a32f w)
def k32f_p : Plan := (.reck 1 (.fork (.must true (.must false (.fork .stop (.fork (.must true (.must true (.must true (.must true (.must true (.must true (.must false (.fork (.must true (.must true (.must true (.must false (.reck 6 (.fork .stop .stop)))))) (.must false (.must false (.must false (.must true (.reck 6 (.fork .stop .stop)))))))))))))) (.must false (.must false (.must false (.must false (.must false (.must false (.must true (.reck 11 (.fork .stop .stop))))))))))))) (.must false (.must true .stop))))
theorem k32f_is (w : Int) : k32f w k32f_p = (cond (decide (w < 1) == false)
  (cond (decide (w < 1) == false) (cond (decide (w < 1)) none (cond (decide (w > 8))
  (some (CS.mk [(AV.int IntKind.u64 (0))] [some (AObj.cells [(AV.osl (true) (1) (0) (0) (0) (1) (true)), (AV.bool (true))] true), some (AObj.tarr [Sh.int IntKind.u8] (0) (fun p_ q_ => AV.bad) true)]))
  (cond (decide (w < 0) == false)
  (cond (decide (w < 0) == false) (cond (decide (w < 0) == false) (cond (decide (w < 0) == false) (cond (decide (w < 0) == false) (cond (decide (w < 0) == false) (cond (decide (w < 0) == false) (cond (decide (w < 0)) none (cond (decide (w > 0) == false)
  (cond (decide (w > 0) == false) (cond (decide (w > 0) == false) (cond (decide (w > 0) == false) (cond (decide (w > 0)) none (cond ((okB (fun p_ q_ => AV.bad) (0)))
  (some (CS.mk [(AV.int IntKind.u64 ((val (fun p_ q_ => AV.bad) (0) (0))))] [some (AObj.cells [(AV.osl (true) (1) (0) (0) (0) (1) (true)), (AV.bool (true))] true), some (AObj.tarr [Sh.int IntKind.u8] (0) (fun p_ q_ => AV.bad) true)]))
  none)) none) none) none)
  (cond (decide (w > 0) == false) none (cond (decide (w > 0) == false) none (cond (decide (w > 0) == false) none (cond (decide (w > 0)) (cond ((okB (fun p_ q_ => AV.bad) (0)))
  (some (CS.mk [(AV.int IntKind.u64 ((val (fun p_ q_ => AV.bad) (0) (0))))] [some (AObj.cells [(AV.osl (true) (1) (0) (0) (0) (1) (true)), (AV.bool (true))] true), some (AObj.tarr [Sh.int IntKind.u8] (0) (fun p_ q_ => AV.bad) true)]))
  none) none)))))) none) none) none) none) none) none)
  (cond (decide (w < 0) == false) none (cond (decide (w < 0) == false) none (cond (decide (w < 0) == false) none (cond (decide (w < 0) == false) none (cond (decide (w < 0) == false) none (cond (decide (w < 0) == false) none (cond (decide (w < 0)) (cond ((okB (fun p_ q_ => AV.bad) (0)))
  (some (CS.mk [(AV.int IntKind.u64 ((val (fun p_ q_ => AV.bad) (0) (0))))] [some (AObj.cells [(AV.osl (true) (1) (0) (0) (0) (1) (true)), (AV.bool (true))] true), some (AObj.tarr [Sh.int IntKind.u8] (0) (fun p_ q_ => AV.bad) true)]))
  none) none)))))))))) none)
  (cond (decide (w < 1) == false) none (cond (decide (w < 1)) (some (CS.mk [(AV.int IntKind.u64 (0))] [some (AObj.cells [(AV.osl (true) (1) (0) (0) (0) (1) (true)), (AV.bool (true))] true), some (AObj.tarr [Sh.int IntKind.u8] (0) (fun p_ q_ => AV.bad) true)])) none))) := by kernel_rfl
theorem k32f_eq (w : Int) : k32f w k32f_p = (cond (decide (w < 1))
  (some (CS.mk [(AV.int IntKind.u64 (0))] [some (AObj.cells [(AV.osl (true) (1) (0) (0) (0) (1) (true)), (AV.bool (true))] true), some (AObj.tarr [Sh.int IntKind.u8] (0) (fun p_ q_ => AV.bad) true)]))
  (cond (decide (w > 8))
  (some (CS.mk [(AV.int IntKind.u64 (0))] [some (AObj.cells [(AV.osl (true) (1) (0) (0) (0) (1) (true)), (AV.bool (true))] true), some (AObj.tarr [Sh.int IntKind.u8] (0) (fun p_ q_ => AV.bad) true)]))
  (cond (decide (w < 0))
  (cond (okB (fun p_ q_ => AV.bad) (0))
  (some (CS.mk [(AV.int IntKind.u64 ((val (fun p_ q_ => AV.bad) (0) (0))))] [some (AObj.cells [(AV.osl (true) (1) (0) (0) (0) (1) (true)), (AV.bool (true))] true), some (AObj.tarr [Sh.int IntKind.u8] (0) (fun p_ q_ => AV.bad) true)]))
  none)
  (cond (decide (w > 0))
  (cond (okB (fun p_ q_ => AV.bad) (0))
  (some (CS.mk [(AV.int IntKind.u64 ((val (fun p_ q_ => AV.bad) (0) (0))))] [some (AObj.cells [(AV.osl (true) (1) (0) (0) (0) (1) (true)), (AV.bool (true))] true), some (AObj.tarr [Sh.int IntKind.u8] (0) (fun p_ q_ => AV.bad) true)]))
  none)
  (cond (okB (fun p_ q_ => AV.bad) (0))
  (some (CS.mk [(AV.int IntKind.u64 ((val (fun p_ q_ => AV.bad) (0) (0))))] [some (AObj.cells [(AV.osl (true) (1) (0) (0) (0) (1) (true)), (AV.bool (true))] true), some (AObj.tarr [Sh.int IntKind.u8] (0) (fun p_ q_ => AV.bad) true)]))
  none))))) := by
  rw [k32f_is]
  try simp only [eq_self, decide_true, beq_self_eq_true, Nat.beq_refl, ble_self, Int.le_refl, Nat.le_refl]
  cases (decide (w < 1)) with
  | true =>
    rfl
  | false =>
    cases (decide (w > 8)) with
    | true =>
      rfl
    | false =>
      cases (decide (w < 0)) with
      | true =>
        cases (okB (fun p_ q_ => AV.bad) (0)) with
        | true =>
          rfl
        | false =>
          rfl
      | false =>
        cases (decide (w > 0)) with
        | true =>
          cases (okB (fun p_ q_ => AV.bad) (0)) with
          | true =>
            rfl
          | false =>
            rfl
        | false =>
          cases (okB (fun p_ q_ => AV.bad) (0)) with
          | true =>
            rfl
          | false =>
            rfl

def rk (nl : Bool) (off : Nat) (N : Nat) (f : Nat → Nat → AV) : CS :=
  ⟨[.ptr 0 0], [some (.cells [.osl nl 1 off (N - off) (N - off) 1 true, .bool false] true), some (.tarr shB N f false)]⟩
def rf  : CS :=
  ⟨[.ptr 0 0], [some (.cells [.nilSlice, .bool true] true), none]⟩
noncomputable def q34oB  (nl : Bool) (off : Nat) (N : Nat) (f : Nat → Nat → AV) : T (CS) :=
  chkT [okB f N, Nat.ble off N, Nat.ble N 1000000, cond nl (Nat.beq N 0) true] (.ask (Nat.blt N (off + 2)) (.ret ⟨[.str []], failP⟩) (.ask (decide (val f off 2 > 16384)) (.ret ⟨[.str []], failP⟩) (.ask (Nat.blt N (off + 2 + (val f off 2).toNat)) (.ret ⟨[.str []], failP⟩) (.ret ⟨[.str (strV f (off + 2) (val f off 2).toNat)], okP nl (off + 2 + (val f off 2).toNat) N f⟩))))
noncomputable def q34o  (c : CS) : T (CS) := match c with
  | ⟨[.ptr 0 0], [some (.cells [.osl nl 1 off z_1 z_2 1 true, .bool z_3] true), some (.tarr sh_4 N f false)]⟩ => chkT [decide ((N - off) = z_1), decide ((N - off) = z_2), decide (false = z_3), shBeq sh_4 shB] (q34oB  nl off N f)
  | _ => .fail
noncomputable def q33oB  (nl : Bool) (off : Nat) (N : Nat) (f : Nat → Nat → AV) : T (CS) :=
  chkT [okB f N, Nat.ble off N, Nat.ble N 1000000] (.ask (Nat.blt N (off + 8)) (.ret ⟨[.agg [.int .u64 0, .int .u64 0, .int .u32 0, .int .u32 0]], failP⟩) (.ask (Nat.blt N (off + 16)) (.ret ⟨[.agg [.int .u64 (val f off 8), .int .u64 0, .int .u32 0, .int .u32 0]], failP⟩) (.ask (Nat.blt N (off + 20)) (.ret ⟨[.agg [.int .u64 (val f off 8), .int .u64 (val f (off + 8) 8), .int .u32 0, .int .u32 0]], failP⟩) (.ask (Nat.blt N (off + 24)) (.ret ⟨[.agg [.int .u64 (val f off 8), .int .u64 (val f (off + 8) 8), .int .u32 (IntKind.wrap .u32 (val f (off + 16) 4)), .int .u32 0]], failP⟩) (.ret ⟨[.agg [.int .u64 (val f off 8), .int .u64 (val f (off + 8) 8), .int .u32 (IntKind.wrap .u32 (val f (off + 16) 4)), .int .u32 (IntKind.wrap .u32 (val f (off + 20) 4))]], okP nl (off + 24) N f⟩)))))
noncomputable def q33o  (c : CS) : T (CS) := match c with
  | ⟨[.ptr 0 0], [some (.cells [.osl nl 1 off z_1 z_2 1 true, .bool z_3] true), some (.tarr sh_4 N f false)]⟩ => chkT [decide ((N - off) = z_1), decide ((N - off) = z_2), decide (false = z_3), shBeq sh_4 shB] (q33oB  nl off N f)
  | _ => .fail
noncomputable def q34f (c : CS) : T CS := match c with
  | ⟨[.ptr 0 0], [some (.cells [.osl z 1 _ _ _ 1 _, .bool true] true), some _]⟩ => chkT [z] (.ret ⟨[.str []], failP⟩)
  | _ => .fail
noncomputable def q33f (c : CS) : T CS := match c with
  | ⟨[.ptr 0 0], [some (.cells [.osl z 1 _ _ _ 1 _, .bool true] true), some _]⟩ => chkT [z] (.ret ⟨[.agg [.int .u64 0, .int .u64 0, .int .u32 0, .int .u32 0]], failP⟩)
  | _ => .fail
noncomputable def q34 (c : CS) : T CS := cond (badP c) (q34f c) (q34o c)
noncomputable def q33 (c : CS) : T CS := cond (badP c) (q33f c) (q33o c)
noncomputable def F4 : Env := addF F3 34 ⟨fiRun [.keep] [pR] 1 q34⟩
noncomputable def F5 : Env := addF F4 33 ⟨fiRun [.keep] [pR] 1 q33⟩
noncomputable def k34 (nl : Bool) (off : Nat) (N : Nat) (f : Nat → Nat → AV) (π : Plan) : Option CS := callC (F3) (1000) (34) (1) (.keep) ([pR]) π (rk nl off N f)
def k34_p : Plan := (.must true (.must true (.reck 4 (.fork (.fork (.fork (.fork .stop (.fork (.reck 2 (.fork (.must true (.must true (.must true (.must true (.must true (.must true (.must false (.fork (.must true (.must true (.must true (.must false .stop)))) (.must false (.must false (.must false (.must true .stop)))))))))))) (.must false (.must false (.must false (.must false (.must false (.must false (.must true .stop))))))))) (.reck 1 (.fork (.must true (.must true (.must true (.must true (.must true (.must true (.must false (.fork (.must true (.must true (.must true (.must false (.reck 2 (.fork (.fork (.must true (.must true (.must true (.fork .stop (.fork (.fork .stop .stop) (.fork (.fork (.fork (.fork .stop .stop) .stop) .stop) .stop)))))) .stop) .stop)))))) (.must false (.must false (.must false (.must true .stop)))))))))))) (.must false (.must false (.must false (.must false (.must false (.must false (.must true .stop))))))))))) .stop) .stop) .stop))))
theorem k34_is (nl : Bool) (off : Nat) (N : Nat) (f : Nat → Nat → AV) : k34 nl off N f k34_p = (cond (decide (N - off = N - off)) (cond (decide (N - off = N - off)) (cond ((okB f (N)))
  (cond (Nat.ble off N)
  (cond (Nat.ble N 1000000)
  (cond (Nat.blt N (off + Int.toNat 2))
  (some (CS.mk [(AV.str ([]))] [some (AObj.cells [(AV.osl (true) (1) (0) (0) (0) (1) (true)), (AV.bool (true))] true), some (AObj.tarr [Sh.int IntKind.u8] (0) (fun p_ q_ => AV.bad) true)]))
  (cond (decide (val f off (Int.toNat 2) > 16384))
  (cond (decide (IntKind.wrap IntKind.i64 (val f off (Int.toNat 2)) < 0) == false)
  (cond (decide (IntKind.wrap IntKind.i64 (val f off (Int.toNat 2)) < 0) == false) (cond (decide (IntKind.wrap IntKind.i64 (val f off (Int.toNat 2)) < 0) == false) (cond (decide (IntKind.wrap IntKind.i64 (val f off (Int.toNat 2)) < 0) == false) (cond (decide (IntKind.wrap IntKind.i64 (val f off (Int.toNat 2)) < 0) == false) (cond (decide (IntKind.wrap IntKind.i64 (val f off (Int.toNat 2)) < 0) == false) (cond (decide (IntKind.wrap IntKind.i64 (val f off (Int.toNat 2)) < 0) == false) (cond (decide (IntKind.wrap IntKind.i64 (val f off (Int.toNat 2)) < 0)) none (cond (decide (IntKind.wrap IntKind.i64 (val f off (Int.toNat 2)) > 0) == false)
  (cond (decide (IntKind.wrap IntKind.i64 (val f off (Int.toNat 2)) > 0) == false) (cond (decide (IntKind.wrap IntKind.i64 (val f off (Int.toNat 2)) > 0) == false) (cond (decide (IntKind.wrap IntKind.i64 (val f off (Int.toNat 2)) > 0) == false) (cond (decide (IntKind.wrap IntKind.i64 (val f off (Int.toNat 2)) > 0)) none (some (CS.mk [(AV.str ([]))] [some (AObj.cells [(AV.osl (true) (1) (0) (0) (0) (1) (true)), (AV.bool (true))] true), some (AObj.tarr [Sh.int IntKind.u8] (0) (fun p_ q_ => AV.bad) true)]))) none) none) none)
  (cond (decide (IntKind.wrap IntKind.i64 (val f off (Int.toNat 2)) > 0) == false) none (cond (decide (IntKind.wrap IntKind.i64 (val f off (Int.toNat 2)) > 0) == false) none (cond (decide (IntKind.wrap IntKind.i64 (val f off (Int.toNat 2)) > 0) == false) none (cond (decide (IntKind.wrap IntKind.i64 (val f off (Int.toNat 2)) > 0)) (some (CS.mk [(AV.str ([]))] [some (AObj.cells [(AV.osl (true) (1) (0) (0) (0) (1) (true)), (AV.bool (true))] true), some (AObj.tarr [Sh.int IntKind.u8] (0) (fun p_ q_ => AV.bad) true)])) none)))))) none) none) none) none) none) none)
  (cond (decide (IntKind.wrap IntKind.i64 (val f off (Int.toNat 2)) < 0) == false) none (cond (decide (IntKind.wrap IntKind.i64 (val f off (Int.toNat 2)) < 0) == false) none (cond (decide (IntKind.wrap IntKind.i64 (val f off (Int.toNat 2)) < 0) == false) none (cond (decide (IntKind.wrap IntKind.i64 (val f off (Int.toNat 2)) < 0) == false) none (cond (decide (IntKind.wrap IntKind.i64 (val f off (Int.toNat 2)) < 0) == false) none (cond (decide (IntKind.wrap IntKind.i64 (val f off (Int.toNat 2)) < 0) == false) none (cond (decide (IntKind.wrap IntKind.i64 (val f off (Int.toNat 2)) < 0)) (some (CS.mk [(AV.str ([]))] [some (AObj.cells [(AV.osl (true) (1) (0) (0) (0) (1) (true)), (AV.bool (true))] true), some (AObj.tarr [Sh.int IntKind.u8] (0) (fun p_ q_ => AV.bad) true)])) none))))))))
  (cond (decide (IntKind.wrap IntKind.i64 (val f off (Int.toNat 2)) < 0) == false)
  (cond (decide (IntKind.wrap IntKind.i64 (val f off (Int.toNat 2)) < 0) == false) (cond (decide (IntKind.wrap IntKind.i64 (val f off (Int.toNat 2)) < 0) == false) (cond (decide (IntKind.wrap IntKind.i64 (val f off (Int.toNat 2)) < 0) == false) (cond (decide (IntKind.wrap IntKind.i64 (val f off (Int.toNat 2)) < 0) == false) (cond (decide (IntKind.wrap IntKind.i64 (val f off (Int.toNat 2)) < 0) == false) (cond (decide (IntKind.wrap IntKind.i64 (val f off (Int.toNat 2)) < 0) == false) (cond (decide (IntKind.wrap IntKind.i64 (val f off (Int.toNat 2)) < 0)) none (cond (decide (IntKind.wrap IntKind.i64 (val f off (Int.toNat 2)) > (↑(N - (off + Int.toNat 2)) : Int)) == false)
  (cond (decide (IntKind.wrap IntKind.i64 (val f off (Int.toNat 2)) > (↑(N - (off + Int.toNat 2)) : Int)) == false) (cond (decide (IntKind.wrap IntKind.i64 (val f off (Int.toNat 2)) > (↑(N - (off + Int.toNat 2)) : Int)) == false) (cond (decide (IntKind.wrap IntKind.i64 (val f off (Int.toNat 2)) > (↑(N - (off + Int.toNat 2)) : Int)) == false) (cond (decide (IntKind.wrap IntKind.i64 (val f off (Int.toNat 2)) > (↑(N - (off + Int.toNat 2)) : Int))) none (cond (Nat.ble (Int.toNat (IntKind.wrap IntKind.i64 (val f off (Int.toNat 2)))) (N - (off + Int.toNat 2)))
  (cond (decide (0 ≤ IntKind.wrap IntKind.i64 (val f off (Int.toNat 2))))
  (cond (Nat.ble (Int.toNat (IntKind.wrap IntKind.i64 (val f off (Int.toNat 2)))) (N - (off + Int.toNat 2))) (cond (Nat.ble (N - (off + Int.toNat 2)) (N - (off + Int.toNat 2))) (cond (decide (0 ≤ IntKind.wrap IntKind.i64 (val f off (Int.toNat 2)))) (cond (nl)
  (some (CS.mk [(AV.str ([]))] [some (AObj.cells [(AV.osl (nl) (1) (off + Int.toNat 2 + Int.toNat (IntKind.wrap IntKind.i64 (val f off (Int.toNat 2)))) (N - (off + Int.toNat 2) - Int.toNat (IntKind.wrap IntKind.i64 (val f off (Int.toNat 2)))) (N - (off + Int.toNat 2) - Int.toNat (IntKind.wrap IntKind.i64 (val f off (Int.toNat 2)))) (1) (true)), (AV.bool (false))] true), some (AObj.tarr [Sh.int IntKind.u8] (N) f false)]))
  (cond (Nat.beq (Int.toNat (IntKind.wrap IntKind.i64 (val f off (Int.toNat 2))) - 0) 0)
  (cond (Nat.ble (off + Int.toNat 2 + 0 + (Int.toNat (IntKind.wrap IntKind.i64 (val f off (Int.toNat 2))) - 0)) N)
  (some (CS.mk [(AV.str ([]))] [some (AObj.cells [(AV.osl (nl) (1) (off + Int.toNat 2 + Int.toNat (IntKind.wrap IntKind.i64 (val f off (Int.toNat 2)))) (N - (off + Int.toNat 2) - Int.toNat (IntKind.wrap IntKind.i64 (val f off (Int.toNat 2)))) (N - (off + Int.toNat 2) - Int.toNat (IntKind.wrap IntKind.i64 (val f off (Int.toNat 2)))) (1) (true)), (AV.bool (false))] true), some (AObj.tarr [Sh.int IntKind.u8] (N) f false)]))
  none)
  (cond (growB (1) (0 + (Int.toNat (IntKind.wrap IntKind.i64 (val f off (Int.toNat 2))) - 0)))
  (cond (Nat.ble (off + Int.toNat 2 + 0 + (Int.toNat (IntKind.wrap IntKind.i64 (val f off (Int.toNat 2))) - 0)) N)
  (cond (Nat.ble (0 + (0 + (Int.toNat (IntKind.wrap IntKind.i64 (val f off (Int.toNat 2))) - 0))) (0 + (Int.toNat (IntKind.wrap IntKind.i64 (val f off (Int.toNat 2))) - 0)))
  (cond (List.all (List.range (0 + (Int.toNat (IntKind.wrap IntKind.i64 (val f off (Int.toNat 2))) - 0))) fun i => decide (0 ≤ byteAt (fjoin (fun x x_1 => AV.bad) 0 fun i j => f (off + Int.toNat 2 + 0 + i) j) (0 + i)) && decide (byteAt (fjoin (fun x x_1 => AV.bad) 0 fun i j => f (off + Int.toNat 2 + 0 + i) j) (0 + i) < 256))
  (some (CS.mk [(AV.str (List.map (fun i => Int.toNat (byteAt (fjoin (fun x x_1 => AV.bad) 0 fun i j => f (off + Int.toNat 2 + 0 + i) j) (0 + i))) (List.range (0 + (Int.toNat (IntKind.wrap IntKind.i64 (val f off (Int.toNat 2))) - 0)))))] [some (AObj.cells [(AV.osl (nl) (1) (off + Int.toNat 2 + Int.toNat (IntKind.wrap IntKind.i64 (val f off (Int.toNat 2)))) (N - (off + Int.toNat 2) - Int.toNat (IntKind.wrap IntKind.i64 (val f off (Int.toNat 2)))) (N - (off + Int.toNat 2) - Int.toNat (IntKind.wrap IntKind.i64 (val f off (Int.toNat 2)))) (1) (true)), (AV.bool (false))] true), some (AObj.tarr [Sh.int IntKind.u8] (N) f false)]))
  none)
  none)
  none)
  none))) none) none) none)
  none)
  none)) none) none) none)
  (cond (decide (IntKind.wrap IntKind.i64 (val f off (Int.toNat 2)) > (↑(N - (off + Int.toNat 2)) : Int)) == false) none (cond (decide (IntKind.wrap IntKind.i64 (val f off (Int.toNat 2)) > (↑(N - (off + Int.toNat 2)) : Int)) == false) none (cond (decide (IntKind.wrap IntKind.i64 (val f off (Int.toNat 2)) > (↑(N - (off + Int.toNat 2)) : Int)) == false) none (cond (decide (IntKind.wrap IntKind.i64 (val f off (Int.toNat 2)) > (↑(N - (off + Int.toNat 2)) : Int))) (some (CS.mk [(AV.str ([]))] [some (AObj.cells [(AV.osl (true) (1) (0) (0) (0) (1) (true)), (AV.bool (true))] true), some (AObj.tarr [Sh.int IntKind.u8] (0) (fun p_ q_ => AV.bad) true)])) none)))))) none) none) none) none) none) none)
  (cond (decide (IntKind.wrap IntKind.i64 (val f off (Int.toNat 2)) < 0) == false) none (cond (decide (IntKind.wrap IntKind.i64 (val f off (Int.toNat 2)) < 0) == false) none (cond (decide (IntKind.wrap IntKind.i64 (val f off (Int.toNat 2)) < 0) == false) none (cond (decide (IntKind.wrap IntKind.i64 (val f off (Int.toNat 2)) < 0) == false) none (cond (decide (IntKind.wrap IntKind.i64 (val f off (Int.toNat 2)) < 0) == false) none (cond (decide (IntKind.wrap IntKind.i64 (val f off (Int.toNat 2)) < 0) == false) none (cond (decide (IntKind.wrap IntKind.i64 (val f off (Int.toNat 2)) < 0)) (some (CS.mk [(AV.str ([]))] [some (AObj.cells [(AV.osl (true) (1) (0) (0) (0) (1) (true)), (AV.bool (true))] true), some (AObj.tarr [Sh.int IntKind.u8] (0) (fun p_ q_ => AV.bad) true)])) none))))))))))
  none)
  none)
  none) none) none) := by kernel_rfl
theorem k34_eq (nl : Bool) (off : Nat) (N : Nat) (f : Nat → Nat → AV) : k34 nl off N f k34_p = (cond (okB f (N))
  (cond (Nat.ble off N)
  (cond (Nat.ble N 1000000)
  (cond (Nat.blt N (off + Int.toNat 2))
  (some (CS.mk [(AV.str ([]))] [some (AObj.cells [(AV.osl (true) (1) (0) (0) (0) (1) (true)), (AV.bool (true))] true), some (AObj.tarr [Sh.int IntKind.u8] (0) (fun p_ q_ => AV.bad) true)]))
  (cond (decide (val f off (Int.toNat 2) > 16384))
  (cond (decide (IntKind.wrap IntKind.i64 (val f off (Int.toNat 2)) < 0))
  (some (CS.mk [(AV.str ([]))] [some (AObj.cells [(AV.osl (true) (1) (0) (0) (0) (1) (true)), (AV.bool (true))] true), some (AObj.tarr [Sh.int IntKind.u8] (0) (fun p_ q_ => AV.bad) true)]))
  (cond (decide (IntKind.wrap IntKind.i64 (val f off (Int.toNat 2)) > 0))
  (some (CS.mk [(AV.str ([]))] [some (AObj.cells [(AV.osl (true) (1) (0) (0) (0) (1) (true)), (AV.bool (true))] true), some (AObj.tarr [Sh.int IntKind.u8] (0) (fun p_ q_ => AV.bad) true)]))
  (some (CS.mk [(AV.str ([]))] [some (AObj.cells [(AV.osl (true) (1) (0) (0) (0) (1) (true)), (AV.bool (true))] true), some (AObj.tarr [Sh.int IntKind.u8] (0) (fun p_ q_ => AV.bad) true)]))))
  (cond (decide (IntKind.wrap IntKind.i64 (val f off (Int.toNat 2)) < 0))
  (some (CS.mk [(AV.str ([]))] [some (AObj.cells [(AV.osl (true) (1) (0) (0) (0) (1) (true)), (AV.bool (true))] true), some (AObj.tarr [Sh.int IntKind.u8] (0) (fun p_ q_ => AV.bad) true)]))
  (cond (decide (IntKind.wrap IntKind.i64 (val f off (Int.toNat 2)) > (↑(N - (off + Int.toNat 2)) : Int)))
  (some (CS.mk [(AV.str ([]))] [some (AObj.cells [(AV.osl (true) (1) (0) (0) (0) (1) (true)), (AV.bool (true))] true), some (AObj.tarr [Sh.int IntKind.u8] (0) (fun p_ q_ => AV.bad) true)]))
  (cond (Nat.ble (Int.toNat (IntKind.wrap IntKind.i64 (val f off (Int.toNat 2)))) (N - (off + Int.toNat 2)))
  (cond (decide (0 ≤ IntKind.wrap IntKind.i64 (val f off (Int.toNat 2))))
  (cond (nl)
  (some (CS.mk [(AV.str ([]))] [some (AObj.cells [(AV.osl (nl) (1) (off + Int.toNat 2 + Int.toNat (IntKind.wrap IntKind.i64 (val f off (Int.toNat 2)))) (N - (off + Int.toNat 2) - Int.toNat (IntKind.wrap IntKind.i64 (val f off (Int.toNat 2)))) (N - (off + Int.toNat 2) - Int.toNat (IntKind.wrap IntKind.i64 (val f off (Int.toNat 2)))) (1) (true)), (AV.bool (false))] true), some (AObj.tarr [Sh.int IntKind.u8] (N) f false)]))
  (cond (Nat.beq (Int.toNat (IntKind.wrap IntKind.i64 (val f off (Int.toNat 2))) - 0) 0)
  (cond (Nat.ble (off + Int.toNat 2 + 0 + (Int.toNat (IntKind.wrap IntKind.i64 (val f off (Int.toNat 2))) - 0)) N)
  (some (CS.mk [(AV.str ([]))] [some (AObj.cells [(AV.osl (nl) (1) (off + Int.toNat 2 + Int.toNat (IntKind.wrap IntKind.i64 (val f off (Int.toNat 2)))) (N - (off + Int.toNat 2) - Int.toNat (IntKind.wrap IntKind.i64 (val f off (Int.toNat 2)))) (N - (off + Int.toNat 2) - Int.toNat (IntKind.wrap IntKind.i64 (val f off (Int.toNat 2)))) (1) (true)), (AV.bool (false))] true), some (AObj.tarr [Sh.int IntKind.u8] (N) f false)]))
  none)
  (cond (growB (1) (0 + (Int.toNat (IntKind.wrap IntKind.i64 (val f off (Int.toNat 2))) - 0)))
  (cond (Nat.ble (off + Int.toNat 2 + 0 + (Int.toNat (IntKind.wrap IntKind.i64 (val f off (Int.toNat 2))) - 0)) N)
  (cond (Nat.ble (0 + (0 + (Int.toNat (IntKind.wrap IntKind.i64 (val f off (Int.toNat 2))) - 0))) (0 + (Int.toNat (IntKind.wrap IntKind.i64 (val f off (Int.toNat 2))) - 0)))
  (cond (List.all (List.range (0 + (Int.toNat (IntKind.wrap IntKind.i64 (val f off (Int.toNat 2))) - 0))) fun i => decide (0 ≤ byteAt (fjoin (fun x x_1 => AV.bad) 0 fun i j => f (off + Int.toNat 2 + 0 + i) j) (0 + i)) && decide (byteAt (fjoin (fun x x_1 => AV.bad) 0 fun i j => f (off + Int.toNat 2 + 0 + i) j) (0 + i) < 256))
  (some (CS.mk [(AV.str (List.map (fun i => Int.toNat (byteAt (fjoin (fun x x_1 => AV.bad) 0 fun i j => f (off + Int.toNat 2 + 0 + i) j) (0 + i))) (List.range (0 + (Int.toNat (IntKind.wrap IntKind.i64 (val f off (Int.toNat 2))) - 0)))))] [some (AObj.cells [(AV.osl (nl) (1) (off + Int.toNat 2 + Int.toNat (IntKind.wrap IntKind.i64 (val f off (Int.toNat 2)))) (N - (off + Int.toNat 2) - Int.toNat (IntKind.wrap IntKind.i64 (val f off (Int.toNat 2)))) (N - (off + Int.toNat 2) - Int.toNat (IntKind.wrap IntKind.i64 (val f off (Int.toNat 2)))) (1) (true)), (AV.bool (false))] true), some (AObj.tarr [Sh.int IntKind.u8] (N) f false)]))
  none)
  none)
  none)
  none)))
  none)
  none)))))
  none)
  none)
  none) := by
  rw [k34_is]
  try simp only [eq_self, decide_true, beq_self_eq_true, Nat.beq_refl, ble_self, Int.le_refl, Nat.le_refl]
  cases (okB f (N)) with
  | true =>
    cases (Nat.ble off N) with
    | true =>
      cases (Nat.ble N 1000000) with
      | true =>
        cases (Nat.blt N (off + Int.toNat 2)) with
        | true =>
          rfl
        | false =>
          cases (decide (val f off (Int.toNat 2) > 16384)) with
          | true =>
            cases (decide (IntKind.wrap IntKind.i64 (val f off (Int.toNat 2)) < 0)) with
            | true =>
              rfl
            | false =>
              cases (decide (IntKind.wrap IntKind.i64 (val f off (Int.toNat 2)) > 0)) with
              | true =>
                rfl
              | false =>
                rfl
          | false =>
            cases (decide (IntKind.wrap IntKind.i64 (val f off (Int.toNat 2)) < 0)) with
            | true =>
              rfl
            | false =>
              cases (decide (IntKind.wrap IntKind.i64 (val f off (Int.toNat 2)) > (↑(N - (off + Int.toNat 2)) : Int))) with
              | true =>
                rfl
              | false =>
                cases (Nat.ble (Int.toNat (IntKind.wrap IntKind.i64 (val f off (Int.toNat 2)))) (N - (off + Int.toNat 2))) with
                | true =>
                  cases (decide (0 ≤ IntKind.wrap IntKind.i64 (val f off (Int.toNat 2)))) with
                  | true =>
                    cases (nl) with
                    | true =>
                      rfl
                    | false =>
                      cases (Nat.beq (Int.toNat (IntKind.wrap IntKind.i64 (val f off (Int.toNat 2))) - 0) 0) with
                      | true =>
                        cases (Nat.ble (off + Int.toNat 2 + 0 + (Int.toNat (IntKind.wrap IntKind.i64 (val f off (Int.toNat 2))) - 0)) N) with
                        | true =>
                          rfl
                        | false =>
                          rfl
                      | false =>
                        cases (growB (1) (0 + (Int.toNat (IntKind.wrap IntKind.i64 (val f off (Int.toNat 2))) - 0))) with
                        | true =>
                          cases (Nat.ble (off + Int.toNat 2 + 0 + (Int.toNat (IntKind.wrap IntKind.i64 (val f off (Int.toNat 2))) - 0)) N) with
                          | true =>
                            cases (Nat.ble (0 + (0 + (Int.toNat (IntKind.wrap IntKind.i64 (val f off (Int.toNat 2))) - 0))) (0 + (Int.toNat (IntKind.wrap IntKind.i64 (val f off (Int.toNat 2))) - 0))) with
                            | true =>
                              cases (List.all (List.range (0 + (Int.toNat (IntKind.wrap IntKind.i64 (val f off (Int.toNat 2))) - 0))) fun i => decide (0 ≤ byteAt (fjoin (fun x x_1 => AV.bad) 0 fun i j => f (off + Int.toNat 2 + 0 + i) j) (0 + i)) && decide (byteAt (fjoin (fun x x_1 => AV.bad) 0 fun i j => f (off + Int.toNat 2 + 0 + i) j) (0 + i) < 256)) with
                              | true =>
                                rfl
                              | false =>
                                rfl
                            | false =>
                              rfl
                          | false =>
                            rfl
                        | false =>
                          rfl
                  | false =>
                    rfl
                | false =>
                  rfl
      | false =>
        rfl
    | false =>
      rfl
  | false =>
    rfl

noncomputable def k34f  (π : Plan) : Option CS := callC (F3) (1000) (34) (1) (.keep) ([pR]) π (rf)
def k34f_p : Plan := .stop
theorem k34f_is : k34f k34f_p = (some (CS.mk [(AV.str ([]))] [some (AObj.cells [(AV.osl (true) (1) (0) (0) (0) (1) (true)), (AV.bool (true))] true), some (AObj.tarr [Sh.int IntKind.u8] (0) (fun p_ q_ => AV.bad) true)])) := by kernel_rfl
theorem k34f_eq : k34f k34f_p = (some (CS.mk [(AV.str ([]))] [some (AObj.cells [(AV.osl (true) (1) (0) (0) (0) (1) (true)), (AV.bool (true))] true), some (AObj.tarr [Sh.int IntKind.u8] (0) (fun p_ q_ => AV.bad) true)])) := by
  rw [k34f_is]

noncomputable def k33 (nl : Bool) (off : Nat) (N : Nat) (f : Nat → Nat → AV) (π : Plan) : Option CS := callC (F4) (1000) (33) (1) (.keep) ([pR]) π (rk nl off N f)
def k33_p : Plan := (.must true (.must true (.reck 4 (.fork (.fork (.fork (.fork .stop (.must true (.must true (.reck 4 (.must true (.fork (.must true (.fork .stop (.must true (.must true (.reck 4 (.must true (.fork (.must true (.fork .stop (.must true (.must true (.reck 4 (.must true (.fork (.must true (.fork .stop .stop)) .stop))))))) .stop))))))) .stop)))))) .stop) .stop) .stop))))
theorem k33_is (nl : Bool) (off : Nat) (N : Nat) (f : Nat → Nat → AV) : k33 nl off N f k33_p = (cond (decide (N - off = N - off)) (cond (decide (N - off = N - off)) (cond ((okB f (N)))
  (cond (Nat.ble off N)
  (cond (Nat.ble N 1000000)
  (cond (Nat.blt N (off + Int.toNat 8))
  (some (CS.mk [(AV.agg [(AV.int IntKind.u64 (0)), (AV.int IntKind.u64 (0)), (AV.int IntKind.u32 (0)), (AV.int IntKind.u32 (0))])] [some (AObj.cells [(AV.osl (true) (1) (0) (0) (0) (1) (true)), (AV.bool (true))] true), some (AObj.tarr [Sh.int IntKind.u8] (0) (fun p_ q_ => AV.bad) true)]))
  (cond (decide (N - (off + Int.toNat 8) = N - (off + Int.toNat 8))) (cond (decide (N - (off + Int.toNat 8) = N - (off + Int.toNat 8))) (cond ((okB f (N))) (cond (Nat.ble (off + Int.toNat 8) N)
  (cond (Nat.ble N 1000000) (cond (Nat.blt N (off + Int.toNat 8 + Int.toNat 8))
  (some (CS.mk [(AV.agg [(AV.int IntKind.u64 ((val f (off) (8)))), (AV.int IntKind.u64 (0)), (AV.int IntKind.u32 (0)), (AV.int IntKind.u32 (0))])] [some (AObj.cells [(AV.osl (true) (1) (0) (0) (0) (1) (true)), (AV.bool (true))] true), some (AObj.tarr [Sh.int IntKind.u8] (0) (fun p_ q_ => AV.bad) true)]))
  (cond (decide (N - (off + Int.toNat 8 + Int.toNat 8) = N - (off + Int.toNat 8 + Int.toNat 8))) (cond (decide (N - (off + Int.toNat 8 + Int.toNat 8) = N - (off + Int.toNat 8 + Int.toNat 8))) (cond ((okB f (N))) (cond (Nat.ble (off + Int.toNat 8 + Int.toNat 8) N)
  (cond (Nat.ble N 1000000) (cond (Nat.blt N (off + Int.toNat 8 + Int.toNat 8 + Int.toNat 4))
  (some (CS.mk [(AV.agg [(AV.int IntKind.u64 ((val f (off) (8)))), (AV.int IntKind.u64 ((val f (off + Int.toNat 8) (8)))), (AV.int IntKind.u32 (0)), (AV.int IntKind.u32 (0))])] [some (AObj.cells [(AV.osl (true) (1) (0) (0) (0) (1) (true)), (AV.bool (true))] true), some (AObj.tarr [Sh.int IntKind.u8] (0) (fun p_ q_ => AV.bad) true)]))
  (cond (decide (N - (off + Int.toNat 8 + Int.toNat 8 + Int.toNat 4) = N - (off + Int.toNat 8 + Int.toNat 8 + Int.toNat 4))) (cond (decide (N - (off + Int.toNat 8 + Int.toNat 8 + Int.toNat 4) = N - (off + Int.toNat 8 + Int.toNat 8 + Int.toNat 4))) (cond ((okB f (N))) (cond (Nat.ble (off + Int.toNat 8 + Int.toNat 8 + Int.toNat 4) N)
  (cond (Nat.ble N 1000000) (cond (Nat.blt N (off + Int.toNat 8 + Int.toNat 8 + Int.toNat 4 + Int.toNat 4))
  (some (CS.mk [(AV.agg [(AV.int IntKind.u64 ((val f (off) (8)))), (AV.int IntKind.u64 ((val f (off + Int.toNat 8) (8)))), (AV.int IntKind.u32 (IntKind.wrap IntKind.u32 (val f (off + Int.toNat 8 + Int.toNat 8) (Int.toNat 4)))), (AV.int IntKind.u32 (0))])] [some (AObj.cells [(AV.osl (true) (1) (0) (0) (0) (1) (true)), (AV.bool (true))] true), some (AObj.tarr [Sh.int IntKind.u8] (0) (fun p_ q_ => AV.bad) true)]))
  (some (CS.mk [(AV.agg [(AV.int IntKind.u64 ((val f (off) (8)))), (AV.int IntKind.u64 ((val f (off + Int.toNat 8) (8)))), (AV.int IntKind.u32 (IntKind.wrap IntKind.u32 (val f (off + Int.toNat 8 + Int.toNat 8) (Int.toNat 4)))), (AV.int IntKind.u32 (IntKind.wrap IntKind.u32 (val f (off + Int.toNat 8 + Int.toNat 8 + Int.toNat 4) (Int.toNat 4))))])] [some (AObj.cells [(AV.osl (nl) (1) (off + Int.toNat 8 + Int.toNat 8 + Int.toNat 4 + Int.toNat 4) (N - (off + Int.toNat 8 + Int.toNat 8 + Int.toNat 4 + Int.toNat 4)) (N - (off + Int.toNat 8 + Int.toNat 8 + Int.toNat 4 + Int.toNat 4)) (1) (true)), (AV.bool (false))] true), some (AObj.tarr [Sh.int IntKind.u8] (N) f false)]))) none)
  none) none) none) none)) none)
  none) none) none) none)) none)
  none) none) none) none))
  none)
  none)
  none) none) none) := by kernel_rfl
theorem k33_eq (nl : Bool) (off : Nat) (N : Nat) (f : Nat → Nat → AV) : k33 nl off N f k33_p = (cond (okB f (N))
  (cond (Nat.ble off N)
  (cond (Nat.ble N 1000000)
  (cond (Nat.blt N (off + Int.toNat 8))
  (some (CS.mk [(AV.agg [(AV.int IntKind.u64 (0)), (AV.int IntKind.u64 (0)), (AV.int IntKind.u32 (0)), (AV.int IntKind.u32 (0))])] [some (AObj.cells [(AV.osl (true) (1) (0) (0) (0) (1) (true)), (AV.bool (true))] true), some (AObj.tarr [Sh.int IntKind.u8] (0) (fun p_ q_ => AV.bad) true)]))
  (cond (Nat.ble (off + Int.toNat 8) N)
  (cond (Nat.blt N (off + Int.toNat 8 + Int.toNat 8))
  (some (CS.mk [(AV.agg [(AV.int IntKind.u64 ((val f (off) (8)))), (AV.int IntKind.u64 (0)), (AV.int IntKind.u32 (0)), (AV.int IntKind.u32 (0))])] [some (AObj.cells [(AV.osl (true) (1) (0) (0) (0) (1) (true)), (AV.bool (true))] true), some (AObj.tarr [Sh.int IntKind.u8] (0) (fun p_ q_ => AV.bad) true)]))
  (cond (Nat.ble (off + Int.toNat 8 + Int.toNat 8) N)
  (cond (Nat.blt N (off + Int.toNat 8 + Int.toNat 8 + Int.toNat 4))
  (some (CS.mk [(AV.agg [(AV.int IntKind.u64 ((val f (off) (8)))), (AV.int IntKind.u64 ((val f (off + Int.toNat 8) (8)))), (AV.int IntKind.u32 (0)), (AV.int IntKind.u32 (0))])] [some (AObj.cells [(AV.osl (true) (1) (0) (0) (0) (1) (true)), (AV.bool (true))] true), some (AObj.tarr [Sh.int IntKind.u8] (0) (fun p_ q_ => AV.bad) true)]))
  (cond (Nat.ble (off + Int.toNat 8 + Int.toNat 8 + Int.toNat 4) N)
  (cond (Nat.blt N (off + Int.toNat 8 + Int.toNat 8 + Int.toNat 4 + Int.toNat 4))
  (some (CS.mk [(AV.agg [(AV.int IntKind.u64 ((val f (off) (8)))), (AV.int IntKind.u64 ((val f (off + Int.toNat 8) (8)))), (AV.int IntKind.u32 (IntKind.wrap IntKind.u32 (val f (off + Int.toNat 8 + Int.toNat 8) (Int.toNat 4)))), (AV.int IntKind.u32 (0))])] [some (AObj.cells [(AV.osl (true) (1) (0) (0) (0) (1) (true)), (AV.bool (true))] true), some (AObj.tarr [Sh.int IntKind.u8] (0) (fun p_ q_ => AV.bad) true)]))
  (some (CS.mk [(AV.agg [(AV.int IntKind.u64 ((val f (off) (8)))), (AV.int IntKind.u64 ((val f (off + Int.toNat 8) (8)))), (AV.int IntKind.u32 (IntKind.wrap IntKind.u32 (val f (off + Int.toNat 8 + Int.toNat 8) (Int.toNat 4)))), (AV.int IntKind.u32 (IntKind.wrap IntKind.u32 (val f (off + Int.toNat 8 + Int.toNat 8 + Int.toNat 4) (Int.toNat 4))))])] [some (AObj.cells [(AV.osl (nl) (1) (off + Int.toNat 8 + Int.toNat 8 + Int.toNat 4 + Int.toNat 4) (N - (off + Int.toNat 8 + Int.toNat 8 + Int.toNat 4 + Int.toNat 4)) (N - (off + Int.toNat 8 + Int.toNat 8 + Int.toNat 4 + Int.toNat 4)) (1) (true)), (AV.bool (false))] true), some (AObj.tarr [Sh.int IntKind.u8] (N) f false)])))
  none))
  none))
  none))
  none)
  none)
  none) := by
  rw [k33_is]
  try simp only [eq_self, decide_true, beq_self_eq_true, Nat.beq_refl, ble_self, Int.le_refl, Nat.le_refl]
  cases (okB f (N)) with
  | true =>
    cases (Nat.ble off N) with
    | true =>
      cases (Nat.ble N 1000000) with
      | true =>
        cases (Nat.blt N (off + Int.toNat 8)) with
        | true =>
          rfl
        | false =>
          cases (Nat.ble (off + Int.toNat 8) N) with
          | true =>
            cases (Nat.blt N (off + Int.toNat 8 + Int.toNat 8)) with
            | true =>
              rfl
            | false =>
              cases (Nat.ble (off + Int.toNat 8 + Int.toNat 8) N) with
              | true =>
                cases (Nat.blt N (off + Int.toNat 8 + Int.toNat 8 + Int.toNat 4)) with
                | true =>
                  rfl
                | false =>
                  cases (Nat.ble (off + Int.toNat 8 + Int.toNat 8 + Int.toNat 4) N) with
                  | true =>
                    cases (Nat.blt N (off + Int.toNat 8 + Int.toNat 8 + Int.toNat 4 + Int.toNat 4)) with
                    | true =>
                      rfl
                    | false =>
                      rfl
                  | false =>
                    rfl
              | false =>
                rfl
          | false =>
            rfl
      | false =>
        rfl
    | false =>
      rfl
  | false =>
    rfl

noncomputable def k33f  (π : Plan) : Option CS := callC (F4) (1000) (33) (1) (.keep) ([pR]) π (rf)
def k33f_p : Plan := .stop
theorem k33f_is : k33f k33f_p = (some (CS.mk [(AV.agg [(AV.int IntKind.u64 (0)), (AV.int IntKind.u64 (0)), (AV.int IntKind.u32 (0)), (AV.int IntKind.u32 (0))])] [some (AObj.cells [(AV.osl (true) (1) (0) (0) (0) (1) (true)), (AV.bool (true))] true), some (AObj.tarr [Sh.int IntKind.u8] (0) (fun p_ q_ => AV.bad) true)])) := by kernel_rfl
theorem k33f_eq : k33f k33f_p = (some (CS.mk [(AV.agg [(AV.int IntKind.u64 (0)), (AV.int IntKind.u64 (0)), (AV.int IntKind.u32 (0)), (AV.int IntKind.u32 (0))])] [some (AObj.cells [(AV.osl (true) (1) (0) (0) (0) (1) (true)), (AV.bool (true))] true), some (AObj.tarr [Sh.int IntKind.u8] (0) (fun p_ q_ => AV.bad) true)])) := by
  rw [k33f_is]

abbrev shL : List Sh := [.int .u64, .int .u64, .int .u32, .int .u32]
def lE : List PV := [.keep, .keep, .keep, .keep, .keep, .keep, .keep, .keep, .keep, .asl shL]
def b10 : List AV := [.bad, .bad, .bad, .bad, .bad, .bad, .bad, .bad, .bad, .bad]
/-- Looks, read. -/
def lookF (f : Nat → Nat → AV) (off i : Nat) : Nat → AV
  | 0 => .int .u64 (val f (off + 24 * i) 8)
  | 1 => .int .u64 (val f (off + 24 * i + 8) 8)
  | 2 => .int .u32 (IntKind.wrap .u32 (val f (off + 24 * i + 16) 4))
  | _ => .int .u32 (IntKind.wrap .u32 (val f (off + 24 * i + 20) 4))
def h14 : Pat := ⟨54, [(0, .keep), (2, .keep), (3, .keep), (37, .keep), (38, .keep)], [pR, [], lE]⟩
def x14 : List (Ex × Pat) := [(.exit 0, ⟨54, [(0, .keep), (2, .keep), (3, .keep)], [pR]⟩)]
def c14t (nl : Bool) (off : Nat) (N : Nat) (f : Nat → Nat → AV) (ix : Int) (tm : Int) (st : Int) (kd : Int) (cl : Int) (rq : Int) (fr : Int) (ct : Int) (d : List Nat) (n : Int) (i : Nat) : CS :=
  ⟨[.ptr 0 0, .ptr 1 0, .ptr 2 0, .int .i64 n, .int .i64 (i : Nat)], [some (.cells [.osl nl 3 off (N - off) (N - off) 1 true, .bool false] true), some (.cells [.bad, .bad, .bad, .bad, .bad, .bad, .bad, .bad, .bad, .bad] true), some (.cells [.int .u64 ix, .int .u64 tm, .int .u64 st, .int .i64 kd, .int .u64 cl, .int .u64 rq, .int .u32 fr, .int .u32 ct, .str d, .nilSlice] true), some (.tarr shB N f false), none]⟩
def c14f (nl : Bool) (off : Nat) (N : Nat) (f : Nat → Nat → AV) (ix : Int) (tm : Int) (st : Int) (kd : Int) (cl : Int) (rq : Int) (fr : Int) (ct : Int) (d : List Nat) (m : Nat) (g : Nat → Nat → AV) (n : Int) (i : Nat) : CS :=
  ⟨[.ptr 0 0, .ptr 1 0, .ptr 2 0, .int .i64 n, .int .i64 (i : Nat)], [some (.cells [.osl nl 3 off (N - off) (N - off) 1 true, .bool false] true), some (.cells [.bad, .bad, .bad, .bad, .bad, .bad, .bad, .bad, .bad, .bad] true), some (.cells [.int .u64 ix, .int .u64 tm, .int .u64 st, .int .i64 kd, .int .u64 cl, .int .u64 rq, .int .u32 fr, .int .u32 ct, .str d, .osl false 4 0 m m 4 true] true), some (.tarr shB N f false), some (.tarr shL m g true)]⟩
def c14b (n : Int) (i : Nat) : CS :=
  ⟨[.ptr 0 0, .ptr 1 0, .ptr 2 0, .int .i64 n, .int .i64 (i : Nat)], [some (.cells [.nilSlice, .bool true] true), some (.cells [.bad, .bad, .bad, .bad, .bad, .bad, .bad, .bad, .bad, .bad] true), some (.cells [.bad, .bad, .bad, .bad, .bad, .bad, .bad, .bad, .bad, .bad] true), none, none]⟩
noncomputable def FAIL14  : CS := ⟨[.ptr 0 0, .ptr 1 0, .ptr 2 0], [some (.cells [.osl true 3 0 0 0 1 true, .bool true] true), some (.cells b10 true), some (.cells b10 true), some (.tarr shB 0 (fun _ _ => .bad) true)]⟩
noncomputable def r14o (c : CS) : T (Nat × CS) := match c with
  | ⟨[.ptr 0 0, .ptr 1 0, .ptr 2 0, .int .i64 n, .int .i64 z0], [some (.cells [.osl nl 3 off l l2 1 true, .bool false] true), some (.cells [_, _, _, _, _, _, _, _, _, _] true), some (.cells [.int .u64 ix, .int .u64 tm, .int .u64 st, .int .i64 kd, .int .u64 cl, .int .u64 rq, .int .u32 fr, .int .u32 ct, .str d, .osl z1 4 _ _ _ 4 _] true), some (.tarr sh N f false), some _]⟩ =>
    chkT [decide (z0 = 0), decide (l = N - off), decide (l2 = N - off), z1, shBeq sh shB, okB f N, Nat.ble off N, Nat.ble N 1000000, !(decide (n > 64))]
      (.ask (Nat.beq n.toNat 0) (.ret (1, ⟨[.ptr 0 0, .ptr 1 0, .ptr 2 0], [some (.cells [.osl nl 3 off (N - off) (N - off) 1 true, .bool false] true), some (.cells b10 true), some (.cells [.int .u64 ix, .int .u64 tm, .int .u64 st, .int .i64 kd, .int .u64 cl, .int .u64 rq, .int .u32 fr, .int .u32 ct, .str d, .nilSlice] true), some (.tarr shB N f false)]⟩)) (.ask (Nat.blt N (off + 24 * n.toNat)) (.ret (1, FAIL14))
        (.ret (1, ⟨[.ptr 0 0, .ptr 1 0, .ptr 2 0], [some (.cells [.osl nl 3 (off + 24 * n.toNat) (N - (off + 24 * n.toNat)) (N - (off + 24 * n.toNat)) 1 true, .bool false] true), some (.cells b10 true), some (.cells [.int .u64 ix, .int .u64 tm, .int .u64 st, .int .i64 kd, .int .u64 cl, .int .u64 rq, .int .u32 fr, .int .u32 ct, .str d, .osl false 4 0 n.toNat n.toNat 4 true] true), some (.tarr shB N f false), some (.tarr shL n.toNat (lookF f off) true)]⟩))))
  | _ => .fail
noncomputable def r14f (c : CS) : T (Nat × CS) := match c with
  | ⟨[.ptr 0 0, .ptr 1 0, .ptr 2 0, .int .i64 n, .int .i64 z0], [some (.cells [.osl z 3 _ _ _ 1 _, .bool true] true), some (.cells [_, _, _, _, _, _, _, _, _, _] true), some (.cells [_, _, _, _, _, _, _, _, _, _] true), some _, some _]⟩ =>
    chkT [decide (z0 = 0), z] (.ret (1, FAIL14))
  | _ => .fail
noncomputable def r14 (c : CS) : T (Nat × CS) := cond (badP c) (r14f c) (r14o c)
noncomputable def F6 : Env := addL F5 14 0 1000012 h14 x14 1 r14
noncomputable def F7 : Env := F6
noncomputable def s14t (nl : Bool) (off : Nat) (N : Nat) (f : Nat → Nat → AV) (ix : Int) (tm : Int) (st : Int) (kd : Int) (cl : Int) (rq : Int) (fr : Int) (ct : Int) (d : List Nat) (n : Int) (i : Nat) (π : Plan) : Option (Nat × CS) := stepC (F5) (1000) (loopC F5 14 0) (1) (h14) ((.normal, h14) :: x14) π (c14t nl off N f ix tm st kd cl rq fr ct d n i)
def s14t_p : Plan := (.fork (.reck 6 (.must true (.must true (.reck 2 (.fork (.fork (.fork (.fork .stop (.fork .stop (.fork .stop (.fork .stop .stop)))) .stop) .stop) .stop))))) .stop)
theorem s14t_is (nl : Bool) (off : Nat) (N : Nat) (f : Nat → Nat → AV) (ix : Int) (tm : Int) (st : Int) (kd : Int) (cl : Int) (rq : Int) (fr : Int) (ct : Int) (d : List Nat) (n : Int) (i : Nat) : s14t nl off N f ix tm st kd cl rq fr ct d n i s14t_p = (cond (decide ((↑i : Int) < n))
  (cond (decide (N - off = N - off)) (cond (decide (N - off = N - off)) (cond ((okB f (N)))
  (cond (Nat.ble off N)
  (cond (Nat.ble N 1000000)
  (cond (Nat.blt N (off + 8))
  (some (0, (CS.mk [(AV.ptr (0) (0)), (AV.ptr (1) (0)), (AV.ptr (2) (0)), (AV.int IntKind.i64 (n)), (AV.int IntKind.i64 (IntKind.wrap IntKind.i64 ((↑i : Int) + 1)))] [some (AObj.cells [(AV.osl (true) (3) (0) (0) (0) (1) (true)), (AV.bool (true))] true), some (AObj.cells [AV.bad, AV.bad, AV.bad, AV.bad, AV.bad, AV.bad, AV.bad, AV.bad, AV.bad, AV.bad] true), some (AObj.cells [(AV.int IntKind.u64 (ix)), (AV.int IntKind.u64 (tm)), (AV.int IntKind.u64 (st)), (AV.int IntKind.i64 (kd)), (AV.int IntKind.u64 (cl)), (AV.int IntKind.u64 (rq)), (AV.int IntKind.u32 (fr)), (AV.int IntKind.u32 (ct)), (AV.str (d)), (AV.osl (false) (4) (0) (1) (1) (4) (true))] true), some (AObj.tarr [Sh.int IntKind.u8] (0) (fun p_ q_ => AV.bad) true), some (AObj.tarr [Sh.int IntKind.u64, Sh.int IntKind.u64, Sh.int IntKind.u32, Sh.int IntKind.u32] (1) (rowsOf (4) [(AV.int IntKind.u64 (0)), (AV.int IntKind.u64 (0)), (AV.int IntKind.u32 (0)), (AV.int IntKind.u32 (0))] (1)) true)])))
  (cond (Nat.blt N (off + 16))
  (some (0, (CS.mk [(AV.ptr (0) (0)), (AV.ptr (1) (0)), (AV.ptr (2) (0)), (AV.int IntKind.i64 (n)), (AV.int IntKind.i64 (IntKind.wrap IntKind.i64 ((↑i : Int) + 1)))] [some (AObj.cells [(AV.osl (true) (3) (0) (0) (0) (1) (true)), (AV.bool (true))] true), some (AObj.cells [AV.bad, AV.bad, AV.bad, AV.bad, AV.bad, AV.bad, AV.bad, AV.bad, AV.bad, AV.bad] true), some (AObj.cells [(AV.int IntKind.u64 (ix)), (AV.int IntKind.u64 (tm)), (AV.int IntKind.u64 (st)), (AV.int IntKind.i64 (kd)), (AV.int IntKind.u64 (cl)), (AV.int IntKind.u64 (rq)), (AV.int IntKind.u32 (fr)), (AV.int IntKind.u32 (ct)), (AV.str (d)), (AV.osl (false) (4) (0) (1) (1) (4) (true))] true), some (AObj.tarr [Sh.int IntKind.u8] (0) (fun p_ q_ => AV.bad) true), some (AObj.tarr [Sh.int IntKind.u64, Sh.int IntKind.u64, Sh.int IntKind.u32, Sh.int IntKind.u32] (1) (rowsOf (4) [(AV.int IntKind.u64 ((val f (off) (8)))), (AV.int IntKind.u64 (0)), (AV.int IntKind.u32 (0)), (AV.int IntKind.u32 (0))] (1)) true)])))
  (cond (Nat.blt N (off + 20))
  (some (0, (CS.mk [(AV.ptr (0) (0)), (AV.ptr (1) (0)), (AV.ptr (2) (0)), (AV.int IntKind.i64 (n)), (AV.int IntKind.i64 (IntKind.wrap IntKind.i64 ((↑i : Int) + 1)))] [some (AObj.cells [(AV.osl (true) (3) (0) (0) (0) (1) (true)), (AV.bool (true))] true), some (AObj.cells [AV.bad, AV.bad, AV.bad, AV.bad, AV.bad, AV.bad, AV.bad, AV.bad, AV.bad, AV.bad] true), some (AObj.cells [(AV.int IntKind.u64 (ix)), (AV.int IntKind.u64 (tm)), (AV.int IntKind.u64 (st)), (AV.int IntKind.i64 (kd)), (AV.int IntKind.u64 (cl)), (AV.int IntKind.u64 (rq)), (AV.int IntKind.u32 (fr)), (AV.int IntKind.u32 (ct)), (AV.str (d)), (AV.osl (false) (4) (0) (1) (1) (4) (true))] true), some (AObj.tarr [Sh.int IntKind.u8] (0) (fun p_ q_ => AV.bad) true), some (AObj.tarr [Sh.int IntKind.u64, Sh.int IntKind.u64, Sh.int IntKind.u32, Sh.int IntKind.u32] (1) (rowsOf (4) [(AV.int IntKind.u64 ((val f (off) (8)))), (AV.int IntKind.u64 ((val f (off + 8) (8)))), (AV.int IntKind.u32 (0)), (AV.int IntKind.u32 (0))] (1)) true)])))
  (cond (Nat.blt N (off + 24))
  (some (0, (CS.mk [(AV.ptr (0) (0)), (AV.ptr (1) (0)), (AV.ptr (2) (0)), (AV.int IntKind.i64 (n)), (AV.int IntKind.i64 (IntKind.wrap IntKind.i64 ((↑i : Int) + 1)))] [some (AObj.cells [(AV.osl (true) (3) (0) (0) (0) (1) (true)), (AV.bool (true))] true), some (AObj.cells [AV.bad, AV.bad, AV.bad, AV.bad, AV.bad, AV.bad, AV.bad, AV.bad, AV.bad, AV.bad] true), some (AObj.cells [(AV.int IntKind.u64 (ix)), (AV.int IntKind.u64 (tm)), (AV.int IntKind.u64 (st)), (AV.int IntKind.i64 (kd)), (AV.int IntKind.u64 (cl)), (AV.int IntKind.u64 (rq)), (AV.int IntKind.u32 (fr)), (AV.int IntKind.u32 (ct)), (AV.str (d)), (AV.osl (false) (4) (0) (1) (1) (4) (true))] true), some (AObj.tarr [Sh.int IntKind.u8] (0) (fun p_ q_ => AV.bad) true), some (AObj.tarr [Sh.int IntKind.u64, Sh.int IntKind.u64, Sh.int IntKind.u32, Sh.int IntKind.u32] (1) (rowsOf (4) [(AV.int IntKind.u64 ((val f (off) (8)))), (AV.int IntKind.u64 ((val f (off + 8) (8)))), (AV.int IntKind.u32 (IntKind.wrap IntKind.u32 (val f (off + 16) 4))), (AV.int IntKind.u32 (0))] (1)) true)])))
  (some (0, (CS.mk [(AV.ptr (0) (0)), (AV.ptr (1) (0)), (AV.ptr (2) (0)), (AV.int IntKind.i64 (n)), (AV.int IntKind.i64 (IntKind.wrap IntKind.i64 ((↑i : Int) + 1)))] [some (AObj.cells [(AV.osl (nl) (3) (off + 24) (N - (off + 24)) (N - (off + 24)) (1) (true)), (AV.bool (false))] true), some (AObj.cells [AV.bad, AV.bad, AV.bad, AV.bad, AV.bad, AV.bad, AV.bad, AV.bad, AV.bad, AV.bad] true), some (AObj.cells [(AV.int IntKind.u64 (ix)), (AV.int IntKind.u64 (tm)), (AV.int IntKind.u64 (st)), (AV.int IntKind.i64 (kd)), (AV.int IntKind.u64 (cl)), (AV.int IntKind.u64 (rq)), (AV.int IntKind.u32 (fr)), (AV.int IntKind.u32 (ct)), (AV.str (d)), (AV.osl (false) (4) (0) (1) (1) (4) (true))] true), some (AObj.tarr [Sh.int IntKind.u8] (N) f false), some (AObj.tarr [Sh.int IntKind.u64, Sh.int IntKind.u64, Sh.int IntKind.u32, Sh.int IntKind.u32] (1) (rowsOf (4) [(AV.int IntKind.u64 ((val f (off) (8)))), (AV.int IntKind.u64 ((val f (off + 8) (8)))), (AV.int IntKind.u32 (IntKind.wrap IntKind.u32 (val f (off + 16) 4))), (AV.int IntKind.u32 (IntKind.wrap IntKind.u32 (val f (off + 20) 4)))] (1)) true)])))))))
  none)
  none)
  none) none) none)
  (some (1, (CS.mk [(AV.ptr (0) (0)), (AV.ptr (1) (0)), (AV.ptr (2) (0))] [some (AObj.cells [(AV.osl (nl) (3) (off) (N - off) (N - off) (1) (true)), (AV.bool (false))] true), some (AObj.cells [AV.bad, AV.bad, AV.bad, AV.bad, AV.bad, AV.bad, AV.bad, AV.bad, AV.bad, AV.bad] true), some (AObj.cells [(AV.int IntKind.u64 (ix)), (AV.int IntKind.u64 (tm)), (AV.int IntKind.u64 (st)), (AV.int IntKind.i64 (kd)), (AV.int IntKind.u64 (cl)), (AV.int IntKind.u64 (rq)), (AV.int IntKind.u32 (fr)), (AV.int IntKind.u32 (ct)), (AV.str (d)), AV.nilSlice] true), some (AObj.tarr [Sh.int IntKind.u8] (N) f false)])))) := by kernel_rfl
theorem s14t_eq (nl : Bool) (off : Nat) (N : Nat) (f : Nat → Nat → AV) (ix : Int) (tm : Int) (st : Int) (kd : Int) (cl : Int) (rq : Int) (fr : Int) (ct : Int) (d : List Nat) (n : Int) (i : Nat) : s14t nl off N f ix tm st kd cl rq fr ct d n i s14t_p = (cond (decide ((↑i : Int) < n))
  (cond (okB f (N))
  (cond (Nat.ble off N)
  (cond (Nat.ble N 1000000)
  (cond (Nat.blt N (off + 8))
  (some (0, (CS.mk [(AV.ptr (0) (0)), (AV.ptr (1) (0)), (AV.ptr (2) (0)), (AV.int IntKind.i64 (n)), (AV.int IntKind.i64 (IntKind.wrap IntKind.i64 ((↑i : Int) + 1)))] [some (AObj.cells [(AV.osl (true) (3) (0) (0) (0) (1) (true)), (AV.bool (true))] true), some (AObj.cells [AV.bad, AV.bad, AV.bad, AV.bad, AV.bad, AV.bad, AV.bad, AV.bad, AV.bad, AV.bad] true), some (AObj.cells [(AV.int IntKind.u64 (ix)), (AV.int IntKind.u64 (tm)), (AV.int IntKind.u64 (st)), (AV.int IntKind.i64 (kd)), (AV.int IntKind.u64 (cl)), (AV.int IntKind.u64 (rq)), (AV.int IntKind.u32 (fr)), (AV.int IntKind.u32 (ct)), (AV.str (d)), (AV.osl (false) (4) (0) (1) (1) (4) (true))] true), some (AObj.tarr [Sh.int IntKind.u8] (0) (fun p_ q_ => AV.bad) true), some (AObj.tarr [Sh.int IntKind.u64, Sh.int IntKind.u64, Sh.int IntKind.u32, Sh.int IntKind.u32] (1) (rowsOf (4) [(AV.int IntKind.u64 (0)), (AV.int IntKind.u64 (0)), (AV.int IntKind.u32 (0)), (AV.int IntKind.u32 (0))] (1)) true)])))
  (cond (Nat.blt N (off + 16))
  (some (0, (CS.mk [(AV.ptr (0) (0)), (AV.ptr (1) (0)), (AV.ptr (2) (0)), (AV.int IntKind.i64 (n)), (AV.int IntKind.i64 (IntKind.wrap IntKind.i64 ((↑i : Int) + 1)))] [some (AObj.cells [(AV.osl (true) (3) (0) (0) (0) (1) (true)), (AV.bool (true))] true), some (AObj.cells [AV.bad, AV.bad, AV.bad, AV.bad, AV.bad, AV.bad, AV.bad, AV.bad, AV.bad, AV.bad] true), some (AObj.cells [(AV.int IntKind.u64 (ix)), (AV.int IntKind.u64 (tm)), (AV.int IntKind.u64 (st)), (AV.int IntKind.i64 (kd)), (AV.int IntKind.u64 (cl)), (AV.int IntKind.u64 (rq)), (AV.int IntKind.u32 (fr)), (AV.int IntKind.u32 (ct)), (AV.str (d)), (AV.osl (false) (4) (0) (1) (1) (4) (true))] true), some (AObj.tarr [Sh.int IntKind.u8] (0) (fun p_ q_ => AV.bad) true), some (AObj.tarr [Sh.int IntKind.u64, Sh.int IntKind.u64, Sh.int IntKind.u32, Sh.int IntKind.u32] (1) (rowsOf (4) [(AV.int IntKind.u64 ((val f (off) (8)))), (AV.int IntKind.u64 (0)), (AV.int IntKind.u32 (0)), (AV.int IntKind.u32 (0))] (1)) true)])))
  (cond (Nat.blt N (off + 20))
  (some (0, (CS.mk [(AV.ptr (0) (0)), (AV.ptr (1) (0)), (AV.ptr (2) (0)), (AV.int IntKind.i64 (n)), (AV.int IntKind.i64 (IntKind.wrap IntKind.i64 ((↑i : Int) + 1)))] [some (AObj.cells [(AV.osl (true) (3) (0) (0) (0) (1) (true)), (AV.bool (true))] true), some (AObj.cells [AV.bad, AV.bad, AV.bad, AV.bad, AV.bad, AV.bad, AV.bad, AV.bad, AV.bad, AV.bad] true), some (AObj.cells [(AV.int IntKind.u64 (ix)), (AV.int IntKind.u64 (tm)), (AV.int IntKind.u64 (st)), (AV.int IntKind.i64 (kd)), (AV.int IntKind.u64 (cl)), (AV.int IntKind.u64 (rq)), (AV.int IntKind.u32 (fr)), (AV.int IntKind.u32 (ct)), (AV.str (d)), (AV.osl (false) (4) (0) (1) (1) (4) (true))] true), some (AObj.tarr [Sh.int IntKind.u8] (0) (fun p_ q_ => AV.bad) true), some (AObj.tarr [Sh.int IntKind.u64, Sh.int IntKind.u64, Sh.int IntKind.u32, Sh.int IntKind.u32] (1) (rowsOf (4) [(AV.int IntKind.u64 ((val f (off) (8)))), (AV.int IntKind.u64 ((val f (off + 8) (8)))), (AV.int IntKind.u32 (0)), (AV.int IntKind.u32 (0))] (1)) true)])))
  (cond (Nat.blt N (off + 24))
  (some (0, (CS.mk [(AV.ptr (0) (0)), (AV.ptr (1) (0)), (AV.ptr (2) (0)), (AV.int IntKind.i64 (n)), (AV.int IntKind.i64 (IntKind.wrap IntKind.i64 ((↑i : Int) + 1)))] [some (AObj.cells [(AV.osl (true) (3) (0) (0) (0) (1) (true)), (AV.bool (true))] true), some (AObj.cells [AV.bad, AV.bad, AV.bad, AV.bad, AV.bad, AV.bad, AV.bad, AV.bad, AV.bad, AV.bad] true), some (AObj.cells [(AV.int IntKind.u64 (ix)), (AV.int IntKind.u64 (tm)), (AV.int IntKind.u64 (st)), (AV.int IntKind.i64 (kd)), (AV.int IntKind.u64 (cl)), (AV.int IntKind.u64 (rq)), (AV.int IntKind.u32 (fr)), (AV.int IntKind.u32 (ct)), (AV.str (d)), (AV.osl (false) (4) (0) (1) (1) (4) (true))] true), some (AObj.tarr [Sh.int IntKind.u8] (0) (fun p_ q_ => AV.bad) true), some (AObj.tarr [Sh.int IntKind.u64, Sh.int IntKind.u64, Sh.int IntKind.u32, Sh.int IntKind.u32] (1) (rowsOf (4) [(AV.int IntKind.u64 ((val f (off) (8)))), (AV.int IntKind.u64 ((val f (off + 8) (8)))), (AV.int IntKind.u32 (IntKind.wrap IntKind.u32 (val f (off + 16) 4))), (AV.int IntKind.u32 (0))] (1)) true)])))
  (some (0, (CS.mk [(AV.ptr (0) (0)), (AV.ptr (1) (0)), (AV.ptr (2) (0)), (AV.int IntKind.i64 (n)), (AV.int IntKind.i64 (IntKind.wrap IntKind.i64 ((↑i : Int) + 1)))] [some (AObj.cells [(AV.osl (nl) (3) (off + 24) (N - (off + 24)) (N - (off + 24)) (1) (true)), (AV.bool (false))] true), some (AObj.cells [AV.bad, AV.bad, AV.bad, AV.bad, AV.bad, AV.bad, AV.bad, AV.bad, AV.bad, AV.bad] true), some (AObj.cells [(AV.int IntKind.u64 (ix)), (AV.int IntKind.u64 (tm)), (AV.int IntKind.u64 (st)), (AV.int IntKind.i64 (kd)), (AV.int IntKind.u64 (cl)), (AV.int IntKind.u64 (rq)), (AV.int IntKind.u32 (fr)), (AV.int IntKind.u32 (ct)), (AV.str (d)), (AV.osl (false) (4) (0) (1) (1) (4) (true))] true), some (AObj.tarr [Sh.int IntKind.u8] (N) f false), some (AObj.tarr [Sh.int IntKind.u64, Sh.int IntKind.u64, Sh.int IntKind.u32, Sh.int IntKind.u32] (1) (rowsOf (4) [(AV.int IntKind.u64 ((val f (off) (8)))), (AV.int IntKind.u64 ((val f (off + 8) (8)))), (AV.int IntKind.u32 (IntKind.wrap IntKind.u32 (val f (off + 16) 4))), (AV.int IntKind.u32 (IntKind.wrap IntKind.u32 (val f (off + 20) 4)))] (1)) true)])))))))
  none)
  none)
  none)
  (some (1, (CS.mk [(AV.ptr (0) (0)), (AV.ptr (1) (0)), (AV.ptr (2) (0))] [some (AObj.cells [(AV.osl (nl) (3) (off) (N - off) (N - off) (1) (true)), (AV.bool (false))] true), some (AObj.cells [AV.bad, AV.bad, AV.bad, AV.bad, AV.bad, AV.bad, AV.bad, AV.bad, AV.bad, AV.bad] true), some (AObj.cells [(AV.int IntKind.u64 (ix)), (AV.int IntKind.u64 (tm)), (AV.int IntKind.u64 (st)), (AV.int IntKind.i64 (kd)), (AV.int IntKind.u64 (cl)), (AV.int IntKind.u64 (rq)), (AV.int IntKind.u32 (fr)), (AV.int IntKind.u32 (ct)), (AV.str (d)), AV.nilSlice] true), some (AObj.tarr [Sh.int IntKind.u8] (N) f false)])))) := by
  rw [s14t_is]
  try simp only [eq_self, decide_true, beq_self_eq_true, Nat.beq_refl, ble_self, Int.le_refl, Nat.le_refl]
  cases (decide ((↑i : Int) < n)) with
  | true =>
    cases (okB f (N)) with
    | true =>
      cases (Nat.ble off N) with
      | true =>
        cases (Nat.ble N 1000000) with
        | true =>
          cases (Nat.blt N (off + 8)) with
          | true =>
            rfl
          | false =>
            cases (Nat.blt N (off + 16)) with
            | true =>
              rfl
            | false =>
              cases (Nat.blt N (off + 20)) with
              | true =>
                rfl
              | false =>
                cases (Nat.blt N (off + 24)) with
                | true =>
                  rfl
                | false =>
                  rfl
        | false =>
          rfl
      | false =>
        rfl
    | false =>
      rfl
  | false =>
    rfl

noncomputable def s14f (nl : Bool) (off : Nat) (N : Nat) (f : Nat → Nat → AV) (ix : Int) (tm : Int) (st : Int) (kd : Int) (cl : Int) (rq : Int) (fr : Int) (ct : Int) (d : List Nat) (m : Nat) (g : Nat → Nat → AV) (n : Int) (i : Nat) (π : Plan) : Option (Nat × CS) := stepC (F5) (1000) (loopC F5 14 0) (1) (h14) ((.normal, h14) :: x14) π (c14f nl off N f ix tm st kd cl rq fr ct d m g n i)
def s14f_p : Plan := (.fork (.reck 6 (.must true (.must true (.reck 2 (.fork (.fork (.fork (.fork (.reck 2 (.must false (.fork (.fork (.reck 2 (.must true (.must true (.reck 2 (.must true (.must true .stop)))))) .stop) .stop))) (.fork (.reck 2 (.must false (.fork (.fork (.reck 2 (.must true (.must true (.reck 2 (.must true (.must true .stop)))))) .stop) .stop))) (.fork (.reck 2 (.must false (.fork (.fork (.reck 2 (.must true (.must true (.reck 2 (.must true (.must true .stop)))))) .stop) .stop))) (.fork (.reck 2 (.must false (.fork (.fork (.reck 2 (.must true (.must true (.reck 2 (.must true (.must true .stop)))))) .stop) .stop))) (.reck 1 (.must false (.fork (.fork (.reck 2 (.must true (.must true (.reck 2 (.must true (.must true .stop)))))) .stop) .stop))))))) .stop) .stop) .stop))))) .stop)
theorem s14f_is (nl : Bool) (off : Nat) (N : Nat) (f : Nat → Nat → AV) (ix : Int) (tm : Int) (st : Int) (kd : Int) (cl : Int) (rq : Int) (fr : Int) (ct : Int) (d : List Nat) (m : Nat) (g : Nat → Nat → AV) (n : Int) (i : Nat) : s14f nl off N f ix tm st kd cl rq fr ct d m g n i s14f_p = (cond (decide ((↑i : Int) < n))
  (cond (decide (N - off = N - off)) (cond (decide (N - off = N - off)) (cond ((okB f (N)))
  (cond (Nat.ble off N)
  (cond (Nat.ble N 1000000)
  (cond (Nat.blt N (off + 8))
  (cond (Nat.ble ((m) + (1)) (m)) none (cond (growB (24) (m + 1))
  (cond (Nat.ble (0 + m) m)
  (cond (Nat.beq m m) (cond (Nat.beq m m) (cond (Nat.beq m m) (cond (Nat.beq m m) (some (0, (CS.mk [(AV.ptr (0) (0)), (AV.ptr (1) (0)), (AV.ptr (2) (0)), (AV.int IntKind.i64 (n)), (AV.int IntKind.i64 (IntKind.wrap IntKind.i64 ((↑i : Int) + 1)))] [some (AObj.cells [(AV.osl (true) (3) (0) (0) (0) (1) (true)), (AV.bool (true))] true), some (AObj.cells [AV.bad, AV.bad, AV.bad, AV.bad, AV.bad, AV.bad, AV.bad, AV.bad, AV.bad, AV.bad] true), some (AObj.cells [(AV.int IntKind.u64 (ix)), (AV.int IntKind.u64 (tm)), (AV.int IntKind.u64 (st)), (AV.int IntKind.i64 (kd)), (AV.int IntKind.u64 (cl)), (AV.int IntKind.u64 (rq)), (AV.int IntKind.u32 (fr)), (AV.int IntKind.u32 (ct)), (AV.str (d)), (AV.osl (false) (4) (0) (m + 1) (m + 1) (4) (true))] true), some (AObj.tarr [Sh.int IntKind.u8] (0) (fun p_ q_ => AV.bad) true), some (AObj.tarr [Sh.int IntKind.u64, Sh.int IntKind.u64, Sh.int IntKind.u32, Sh.int IntKind.u32] (m + 1) (fjoin (fun p_ q_ => g (0 + p_) q_) (m) (rowsOf (4) [(AV.int IntKind.u64 (0)), (AV.int IntKind.u64 (0)), (AV.int IntKind.u32 (0)), (AV.int IntKind.u32 (0))] (1))) true)]))) none) none) none) none)
  none)
  none))
  (cond (Nat.blt N (off + 16))
  (cond (Nat.ble ((m) + (1)) (m)) none (cond (growB (24) (m + 1))
  (cond (Nat.ble (0 + m) m)
  (cond (Nat.beq m m) (cond (Nat.beq m m) (cond (Nat.beq m m) (cond (Nat.beq m m) (some (0, (CS.mk [(AV.ptr (0) (0)), (AV.ptr (1) (0)), (AV.ptr (2) (0)), (AV.int IntKind.i64 (n)), (AV.int IntKind.i64 (IntKind.wrap IntKind.i64 ((↑i : Int) + 1)))] [some (AObj.cells [(AV.osl (true) (3) (0) (0) (0) (1) (true)), (AV.bool (true))] true), some (AObj.cells [AV.bad, AV.bad, AV.bad, AV.bad, AV.bad, AV.bad, AV.bad, AV.bad, AV.bad, AV.bad] true), some (AObj.cells [(AV.int IntKind.u64 (ix)), (AV.int IntKind.u64 (tm)), (AV.int IntKind.u64 (st)), (AV.int IntKind.i64 (kd)), (AV.int IntKind.u64 (cl)), (AV.int IntKind.u64 (rq)), (AV.int IntKind.u32 (fr)), (AV.int IntKind.u32 (ct)), (AV.str (d)), (AV.osl (false) (4) (0) (m + 1) (m + 1) (4) (true))] true), some (AObj.tarr [Sh.int IntKind.u8] (0) (fun p_ q_ => AV.bad) true), some (AObj.tarr [Sh.int IntKind.u64, Sh.int IntKind.u64, Sh.int IntKind.u32, Sh.int IntKind.u32] (m + 1) (fjoin (fun p_ q_ => g (0 + p_) q_) (m) (rowsOf (4) [(AV.int IntKind.u64 ((val f (off) (8)))), (AV.int IntKind.u64 (0)), (AV.int IntKind.u32 (0)), (AV.int IntKind.u32 (0))] (1))) true)]))) none) none) none) none)
  none)
  none))
  (cond (Nat.blt N (off + 20))
  (cond (Nat.ble ((m) + (1)) (m)) none (cond (growB (24) (m + 1))
  (cond (Nat.ble (0 + m) m)
  (cond (Nat.beq m m) (cond (Nat.beq m m) (cond (Nat.beq m m) (cond (Nat.beq m m) (some (0, (CS.mk [(AV.ptr (0) (0)), (AV.ptr (1) (0)), (AV.ptr (2) (0)), (AV.int IntKind.i64 (n)), (AV.int IntKind.i64 (IntKind.wrap IntKind.i64 ((↑i : Int) + 1)))] [some (AObj.cells [(AV.osl (true) (3) (0) (0) (0) (1) (true)), (AV.bool (true))] true), some (AObj.cells [AV.bad, AV.bad, AV.bad, AV.bad, AV.bad, AV.bad, AV.bad, AV.bad, AV.bad, AV.bad] true), some (AObj.cells [(AV.int IntKind.u64 (ix)), (AV.int IntKind.u64 (tm)), (AV.int IntKind.u64 (st)), (AV.int IntKind.i64 (kd)), (AV.int IntKind.u64 (cl)), (AV.int IntKind.u64 (rq)), (AV.int IntKind.u32 (fr)), (AV.int IntKind.u32 (ct)), (AV.str (d)), (AV.osl (false) (4) (0) (m + 1) (m + 1) (4) (true))] true), some (AObj.tarr [Sh.int IntKind.u8] (0) (fun p_ q_ => AV.bad) true), some (AObj.tarr [Sh.int IntKind.u64, Sh.int IntKind.u64, Sh.int IntKind.u32, Sh.int IntKind.u32] (m + 1) (fjoin (fun p_ q_ => g (0 + p_) q_) (m) (rowsOf (4) [(AV.int IntKind.u64 ((val f (off) (8)))), (AV.int IntKind.u64 ((val f (off + 8) (8)))), (AV.int IntKind.u32 (0)), (AV.int IntKind.u32 (0))] (1))) true)]))) none) none) none) none)
  none)
  none))
  (cond (Nat.blt N (off + 24))
  (cond (Nat.ble ((m) + (1)) (m)) none (cond (growB (24) (m + 1))
  (cond (Nat.ble (0 + m) m)
  (cond (Nat.beq m m) (cond (Nat.beq m m) (cond (Nat.beq m m) (cond (Nat.beq m m) (some (0, (CS.mk [(AV.ptr (0) (0)), (AV.ptr (1) (0)), (AV.ptr (2) (0)), (AV.int IntKind.i64 (n)), (AV.int IntKind.i64 (IntKind.wrap IntKind.i64 ((↑i : Int) + 1)))] [some (AObj.cells [(AV.osl (true) (3) (0) (0) (0) (1) (true)), (AV.bool (true))] true), some (AObj.cells [AV.bad, AV.bad, AV.bad, AV.bad, AV.bad, AV.bad, AV.bad, AV.bad, AV.bad, AV.bad] true), some (AObj.cells [(AV.int IntKind.u64 (ix)), (AV.int IntKind.u64 (tm)), (AV.int IntKind.u64 (st)), (AV.int IntKind.i64 (kd)), (AV.int IntKind.u64 (cl)), (AV.int IntKind.u64 (rq)), (AV.int IntKind.u32 (fr)), (AV.int IntKind.u32 (ct)), (AV.str (d)), (AV.osl (false) (4) (0) (m + 1) (m + 1) (4) (true))] true), some (AObj.tarr [Sh.int IntKind.u8] (0) (fun p_ q_ => AV.bad) true), some (AObj.tarr [Sh.int IntKind.u64, Sh.int IntKind.u64, Sh.int IntKind.u32, Sh.int IntKind.u32] (m + 1) (fjoin (fun p_ q_ => g (0 + p_) q_) (m) (rowsOf (4) [(AV.int IntKind.u64 ((val f (off) (8)))), (AV.int IntKind.u64 ((val f (off + 8) (8)))), (AV.int IntKind.u32 (IntKind.wrap IntKind.u32 (val f (off + 16) 4))), (AV.int IntKind.u32 (0))] (1))) true)]))) none) none) none) none)
  none)
  none))
  (cond (Nat.ble ((m) + (1)) (m)) none (cond (growB (24) (m + 1))
  (cond (Nat.ble (0 + m) m)
  (cond (Nat.beq m m) (cond (Nat.beq m m) (cond (Nat.beq m m) (cond (Nat.beq m m) (some (0, (CS.mk [(AV.ptr (0) (0)), (AV.ptr (1) (0)), (AV.ptr (2) (0)), (AV.int IntKind.i64 (n)), (AV.int IntKind.i64 (IntKind.wrap IntKind.i64 ((↑i : Int) + 1)))] [some (AObj.cells [(AV.osl (nl) (3) (off + 24) (N - (off + 24)) (N - (off + 24)) (1) (true)), (AV.bool (false))] true), some (AObj.cells [AV.bad, AV.bad, AV.bad, AV.bad, AV.bad, AV.bad, AV.bad, AV.bad, AV.bad, AV.bad] true), some (AObj.cells [(AV.int IntKind.u64 (ix)), (AV.int IntKind.u64 (tm)), (AV.int IntKind.u64 (st)), (AV.int IntKind.i64 (kd)), (AV.int IntKind.u64 (cl)), (AV.int IntKind.u64 (rq)), (AV.int IntKind.u32 (fr)), (AV.int IntKind.u32 (ct)), (AV.str (d)), (AV.osl (false) (4) (0) (m + 1) (m + 1) (4) (true))] true), some (AObj.tarr [Sh.int IntKind.u8] (N) f false), some (AObj.tarr [Sh.int IntKind.u64, Sh.int IntKind.u64, Sh.int IntKind.u32, Sh.int IntKind.u32] (m + 1) (fjoin (fun p_ q_ => g (0 + p_) q_) (m) (rowsOf (4) [(AV.int IntKind.u64 ((val f (off) (8)))), (AV.int IntKind.u64 ((val f (off + 8) (8)))), (AV.int IntKind.u32 (IntKind.wrap IntKind.u32 (val f (off + 16) 4))), (AV.int IntKind.u32 (IntKind.wrap IntKind.u32 (val f (off + 20) 4)))] (1))) true)]))) none) none) none) none)
  none)
  none))))))
  none)
  none)
  none) none) none)
  (some (1, (CS.mk [(AV.ptr (0) (0)), (AV.ptr (1) (0)), (AV.ptr (2) (0))] [some (AObj.cells [(AV.osl (nl) (3) (off) (N - off) (N - off) (1) (true)), (AV.bool (false))] true), some (AObj.cells [AV.bad, AV.bad, AV.bad, AV.bad, AV.bad, AV.bad, AV.bad, AV.bad, AV.bad, AV.bad] true), some (AObj.cells [(AV.int IntKind.u64 (ix)), (AV.int IntKind.u64 (tm)), (AV.int IntKind.u64 (st)), (AV.int IntKind.i64 (kd)), (AV.int IntKind.u64 (cl)), (AV.int IntKind.u64 (rq)), (AV.int IntKind.u32 (fr)), (AV.int IntKind.u32 (ct)), (AV.str (d)), (AV.osl (false) (4) (0) (m) (m) (4) (true))] true), some (AObj.tarr [Sh.int IntKind.u8] (N) f false), some (AObj.tarr [Sh.int IntKind.u64, Sh.int IntKind.u64, Sh.int IntKind.u32, Sh.int IntKind.u32] (m) g true)])))) := by kernel_rfl
theorem s14f_eq (nl : Bool) (off : Nat) (N : Nat) (f : Nat → Nat → AV) (ix : Int) (tm : Int) (st : Int) (kd : Int) (cl : Int) (rq : Int) (fr : Int) (ct : Int) (d : List Nat) (m : Nat) (g : Nat → Nat → AV) (n : Int) (i : Nat) : s14f nl off N f ix tm st kd cl rq fr ct d m g n i s14f_p = (cond (decide ((↑i : Int) < n))
  (cond (okB f (N))
  (cond (Nat.ble off N)
  (cond (Nat.ble N 1000000)
  (cond (Nat.blt N (off + 8))
  (cond (Nat.ble ((m) + (1)) (m)) none (cond (growB (24) (m + 1))
  (cond (Nat.ble (0 + m) m)
  (some (0, (CS.mk [(AV.ptr (0) (0)), (AV.ptr (1) (0)), (AV.ptr (2) (0)), (AV.int IntKind.i64 (n)), (AV.int IntKind.i64 (IntKind.wrap IntKind.i64 ((↑i : Int) + 1)))] [some (AObj.cells [(AV.osl (true) (3) (0) (0) (0) (1) (true)), (AV.bool (true))] true), some (AObj.cells [AV.bad, AV.bad, AV.bad, AV.bad, AV.bad, AV.bad, AV.bad, AV.bad, AV.bad, AV.bad] true), some (AObj.cells [(AV.int IntKind.u64 (ix)), (AV.int IntKind.u64 (tm)), (AV.int IntKind.u64 (st)), (AV.int IntKind.i64 (kd)), (AV.int IntKind.u64 (cl)), (AV.int IntKind.u64 (rq)), (AV.int IntKind.u32 (fr)), (AV.int IntKind.u32 (ct)), (AV.str (d)), (AV.osl (false) (4) (0) (m + 1) (m + 1) (4) (true))] true), some (AObj.tarr [Sh.int IntKind.u8] (0) (fun p_ q_ => AV.bad) true), some (AObj.tarr [Sh.int IntKind.u64, Sh.int IntKind.u64, Sh.int IntKind.u32, Sh.int IntKind.u32] (m + 1) (fjoin (fun p_ q_ => g (0 + p_) q_) (m) (rowsOf (4) [(AV.int IntKind.u64 (0)), (AV.int IntKind.u64 (0)), (AV.int IntKind.u32 (0)), (AV.int IntKind.u32 (0))] (1))) true)])))
  none)
  none))
  (cond (Nat.blt N (off + 16))
  (cond (Nat.ble ((m) + (1)) (m)) none (cond (growB (24) (m + 1))
  (cond (Nat.ble (0 + m) m)
  (some (0, (CS.mk [(AV.ptr (0) (0)), (AV.ptr (1) (0)), (AV.ptr (2) (0)), (AV.int IntKind.i64 (n)), (AV.int IntKind.i64 (IntKind.wrap IntKind.i64 ((↑i : Int) + 1)))] [some (AObj.cells [(AV.osl (true) (3) (0) (0) (0) (1) (true)), (AV.bool (true))] true), some (AObj.cells [AV.bad, AV.bad, AV.bad, AV.bad, AV.bad, AV.bad, AV.bad, AV.bad, AV.bad, AV.bad] true), some (AObj.cells [(AV.int IntKind.u64 (ix)), (AV.int IntKind.u64 (tm)), (AV.int IntKind.u64 (st)), (AV.int IntKind.i64 (kd)), (AV.int IntKind.u64 (cl)), (AV.int IntKind.u64 (rq)), (AV.int IntKind.u32 (fr)), (AV.int IntKind.u32 (ct)), (AV.str (d)), (AV.osl (false) (4) (0) (m + 1) (m + 1) (4) (true))] true), some (AObj.tarr [Sh.int IntKind.u8] (0) (fun p_ q_ => AV.bad) true), some (AObj.tarr [Sh.int IntKind.u64, Sh.int IntKind.u64, Sh.int IntKind.u32, Sh.int IntKind.u32] (m + 1) (fjoin (fun p_ q_ => g (0 + p_) q_) (m) (rowsOf (4) [(AV.int IntKind.u64 ((val f (off) (8)))), (AV.int IntKind.u64 (0)), (AV.int IntKind.u32 (0)), (AV.int IntKind.u32 (0))] (1))) true)])))
  none)
  none))
  (cond (Nat.blt N (off + 20))
  (cond (Nat.ble ((m) + (1)) (m)) none (cond (growB (24) (m + 1))
  (cond (Nat.ble (0 + m) m)
  (some (0, (CS.mk [(AV.ptr (0) (0)), (AV.ptr (1) (0)), (AV.ptr (2) (0)), (AV.int IntKind.i64 (n)), (AV.int IntKind.i64 (IntKind.wrap IntKind.i64 ((↑i : Int) + 1)))] [some (AObj.cells [(AV.osl (true) (3) (0) (0) (0) (1) (true)), (AV.bool (true))] true), some (AObj.cells [AV.bad, AV.bad, AV.bad, AV.bad, AV.bad, AV.bad, AV.bad, AV.bad, AV.bad, AV.bad] true), some (AObj.cells [(AV.int IntKind.u64 (ix)), (AV.int IntKind.u64 (tm)), (AV.int IntKind.u64 (st)), (AV.int IntKind.i64 (kd)), (AV.int IntKind.u64 (cl)), (AV.int IntKind.u64 (rq)), (AV.int IntKind.u32 (fr)), (AV.int IntKind.u32 (ct)), (AV.str (d)), (AV.osl (false) (4) (0) (m + 1) (m + 1) (4) (true))] true), some (AObj.tarr [Sh.int IntKind.u8] (0) (fun p_ q_ => AV.bad) true), some (AObj.tarr [Sh.int IntKind.u64, Sh.int IntKind.u64, Sh.int IntKind.u32, Sh.int IntKind.u32] (m + 1) (fjoin (fun p_ q_ => g (0 + p_) q_) (m) (rowsOf (4) [(AV.int IntKind.u64 ((val f (off) (8)))), (AV.int IntKind.u64 ((val f (off + 8) (8)))), (AV.int IntKind.u32 (0)), (AV.int IntKind.u32 (0))] (1))) true)])))
  none)
  none))
  (cond (Nat.blt N (off + 24))
  (cond (Nat.ble ((m) + (1)) (m)) none (cond (growB (24) (m + 1))
  (cond (Nat.ble (0 + m) m)
  (some (0, (CS.mk [(AV.ptr (0) (0)), (AV.ptr (1) (0)), (AV.ptr (2) (0)), (AV.int IntKind.i64 (n)), (AV.int IntKind.i64 (IntKind.wrap IntKind.i64 ((↑i : Int) + 1)))] [some (AObj.cells [(AV.osl (true) (3) (0) (0) (0) (1) (true)), (AV.bool (true))] true), some (AObj.cells [AV.bad, AV.bad, AV.bad, AV.bad, AV.bad, AV.bad, AV.bad, AV.bad, AV.bad, AV.bad] true), some (AObj.cells [(AV.int IntKind.u64 (ix)), (AV.int IntKind.u64 (tm)), (AV.int IntKind.u64 (st)), (AV.int IntKind.i64 (kd)), (AV.int IntKind.u64 (cl)), (AV.int IntKind.u64 (rq)), (AV.int IntKind.u32 (fr)), (AV.int IntKind.u32 (ct)), (AV.str (d)), (AV.osl (false) (4) (0) (m + 1) (m + 1) (4) (true))] true), some (AObj.tarr [Sh.int IntKind.u8] (0) (fun p_ q_ => AV.bad) true), some (AObj.tarr [Sh.int IntKind.u64, Sh.int IntKind.u64, Sh.int IntKind.u32, Sh.int IntKind.u32] (m + 1) (fjoin (fun p_ q_ => g (0 + p_) q_) (m) (rowsOf (4) [(AV.int IntKind.u64 ((val f (off) (8)))), (AV.int IntKind.u64 ((val f (off + 8) (8)))), (AV.int IntKind.u32 (IntKind.wrap IntKind.u32 (val f (off + 16) 4))), (AV.int IntKind.u32 (0))] (1))) true)])))
  none)
  none))
  (cond (Nat.ble ((m) + (1)) (m)) none (cond (growB (24) (m + 1))
  (cond (Nat.ble (0 + m) m)
  (some (0, (CS.mk [(AV.ptr (0) (0)), (AV.ptr (1) (0)), (AV.ptr (2) (0)), (AV.int IntKind.i64 (n)), (AV.int IntKind.i64 (IntKind.wrap IntKind.i64 ((↑i : Int) + 1)))] [some (AObj.cells [(AV.osl (nl) (3) (off + 24) (N - (off + 24)) (N - (off + 24)) (1) (true)), (AV.bool (false))] true), some (AObj.cells [AV.bad, AV.bad, AV.bad, AV.bad, AV.bad, AV.bad, AV.bad, AV.bad, AV.bad, AV.bad] true), some (AObj.cells [(AV.int IntKind.u64 (ix)), (AV.int IntKind.u64 (tm)), (AV.int IntKind.u64 (st)), (AV.int IntKind.i64 (kd)), (AV.int IntKind.u64 (cl)), (AV.int IntKind.u64 (rq)), (AV.int IntKind.u32 (fr)), (AV.int IntKind.u32 (ct)), (AV.str (d)), (AV.osl (false) (4) (0) (m + 1) (m + 1) (4) (true))] true), some (AObj.tarr [Sh.int IntKind.u8] (N) f false), some (AObj.tarr [Sh.int IntKind.u64, Sh.int IntKind.u64, Sh.int IntKind.u32, Sh.int IntKind.u32] (m + 1) (fjoin (fun p_ q_ => g (0 + p_) q_) (m) (rowsOf (4) [(AV.int IntKind.u64 ((val f (off) (8)))), (AV.int IntKind.u64 ((val f (off + 8) (8)))), (AV.int IntKind.u32 (IntKind.wrap IntKind.u32 (val f (off + 16) 4))), (AV.int IntKind.u32 (IntKind.wrap IntKind.u32 (val f (off + 20) 4)))] (1))) true)])))
  none)
  none))))))
  none)
  none)
  none)
  (some (1, (CS.mk [(AV.ptr (0) (0)), (AV.ptr (1) (0)), (AV.ptr (2) (0))] [some (AObj.cells [(AV.osl (nl) (3) (off) (N - off) (N - off) (1) (true)), (AV.bool (false))] true), some (AObj.cells [AV.bad, AV.bad, AV.bad, AV.bad, AV.bad, AV.bad, AV.bad, AV.bad, AV.bad, AV.bad] true), some (AObj.cells [(AV.int IntKind.u64 (ix)), (AV.int IntKind.u64 (tm)), (AV.int IntKind.u64 (st)), (AV.int IntKind.i64 (kd)), (AV.int IntKind.u64 (cl)), (AV.int IntKind.u64 (rq)), (AV.int IntKind.u32 (fr)), (AV.int IntKind.u32 (ct)), (AV.str (d)), (AV.osl (false) (4) (0) (m) (m) (4) (true))] true), some (AObj.tarr [Sh.int IntKind.u8] (N) f false), some (AObj.tarr [Sh.int IntKind.u64, Sh.int IntKind.u64, Sh.int IntKind.u32, Sh.int IntKind.u32] (m) g true)])))) := by
  rw [s14f_is]
  try simp only [eq_self, decide_true, beq_self_eq_true, Nat.beq_refl, ble_self, Int.le_refl, Nat.le_refl]
  cases (decide ((↑i : Int) < n)) with
  | true =>
    cases (okB f (N)) with
    | true =>
      cases (Nat.ble off N) with
      | true =>
        cases (Nat.ble N 1000000) with
        | true =>
          cases (Nat.blt N (off + 8)) with
          | true =>
            cases (growB (24) (m + 1)) with
            | true =>
              cases (Nat.ble (0 + m) m) with
              | true =>
                rfl
              | false =>
                rfl
            | false =>
              rfl
          | false =>
            cases (Nat.blt N (off + 16)) with
            | true =>
              cases (growB (24) (m + 1)) with
              | true =>
                cases (Nat.ble (0 + m) m) with
                | true =>
                  rfl
                | false =>
                  rfl
              | false =>
                rfl
            | false =>
              cases (Nat.blt N (off + 20)) with
              | true =>
                cases (growB (24) (m + 1)) with
                | true =>
                  cases (Nat.ble (0 + m) m) with
                  | true =>
                    rfl
                  | false =>
                    rfl
                | false =>
                  rfl
              | false =>
                cases (Nat.blt N (off + 24)) with
                | true =>
                  cases (growB (24) (m + 1)) with
                  | true =>
                    cases (Nat.ble (0 + m) m) with
                    | true =>
                      rfl
                    | false =>
                      rfl
                  | false =>
                    rfl
                | false =>
                  cases (growB (24) (m + 1)) with
                  | true =>
                    cases (Nat.ble (0 + m) m) with
                    | true =>
                      rfl
                    | false =>
                      rfl
                  | false =>
                    rfl
        | false =>
          rfl
      | false =>
        rfl
    | false =>
      rfl
  | false =>
    rfl

noncomputable def s14b (n : Int) (i : Nat) (π : Plan) : Option (Nat × CS) := stepC (F5) (1000) (loopC F5 14 0) (1) (h14) ((.normal, h14) :: x14) π (c14b n i)
def s14b_p : Plan := (.fork .stop .stop)
theorem s14b_is (n : Int) (i : Nat) : s14b n i s14b_p = (cond (decide ((↑i : Int) < n))
  (some (1, (CS.mk [(AV.ptr (0) (0)), (AV.ptr (1) (0)), (AV.ptr (2) (0))] [some (AObj.cells [(AV.osl (true) (3) (0) (0) (0) (1) (true)), (AV.bool (true))] true), some (AObj.cells [AV.bad, AV.bad, AV.bad, AV.bad, AV.bad, AV.bad, AV.bad, AV.bad, AV.bad, AV.bad] true), some (AObj.cells [AV.bad, AV.bad, AV.bad, AV.bad, AV.bad, AV.bad, AV.bad, AV.bad, AV.bad, AV.bad] true), some (AObj.tarr [Sh.int IntKind.u8] (0) (fun p_ q_ => AV.bad) true)])))
  (some (1, (CS.mk [(AV.ptr (0) (0)), (AV.ptr (1) (0)), (AV.ptr (2) (0))] [some (AObj.cells [(AV.osl (true) (3) (0) (0) (0) (1) (true)), (AV.bool (true))] true), some (AObj.cells [AV.bad, AV.bad, AV.bad, AV.bad, AV.bad, AV.bad, AV.bad, AV.bad, AV.bad, AV.bad] true), some (AObj.cells [AV.bad, AV.bad, AV.bad, AV.bad, AV.bad, AV.bad, AV.bad, AV.bad, AV.bad, AV.bad] true), some (AObj.tarr [Sh.int IntKind.u8] (0) (fun p_ q_ => AV.bad) true)])))) := by kernel_rfl
theorem s14b_eq (n : Int) (i : Nat) : s14b n i s14b_p = (cond (decide ((↑i : Int) < n))
  (some (1, (CS.mk [(AV.ptr (0) (0)), (AV.ptr (1) (0)), (AV.ptr (2) (0))] [some (AObj.cells [(AV.osl (true) (3) (0) (0) (0) (1) (true)), (AV.bool (true))] true), some (AObj.cells [AV.bad, AV.bad, AV.bad, AV.bad, AV.bad, AV.bad, AV.bad, AV.bad, AV.bad, AV.bad] true), some (AObj.cells [AV.bad, AV.bad, AV.bad, AV.bad, AV.bad, AV.bad, AV.bad, AV.bad, AV.bad, AV.bad] true), some (AObj.tarr [Sh.int IntKind.u8] (0) (fun p_ q_ => AV.bad) true)])))
  (some (1, (CS.mk [(AV.ptr (0) (0)), (AV.ptr (1) (0)), (AV.ptr (2) (0))] [some (AObj.cells [(AV.osl (true) (3) (0) (0) (0) (1) (true)), (AV.bool (true))] true), some (AObj.cells [AV.bad, AV.bad, AV.bad, AV.bad, AV.bad, AV.bad, AV.bad, AV.bad, AV.bad, AV.bad] true), some (AObj.cells [AV.bad, AV.bad, AV.bad, AV.bad, AV.bad, AV.bad, AV.bad, AV.bad, AV.bad, AV.bad] true), some (AObj.tarr [Sh.int IntKind.u8] (0) (fun p_ q_ => AV.bad) true)])))) := by
  rw [s14b_is]

def p14 (c : CS) : Plan := match c.os with
  | [_, _, some (.cells [_, _, _, _, _, _, _, _, _, .nilSlice] _), _, _] => s14t_p
  | [_, _, some (.cells [_, _, _, _, _, _, _, _, _, .bad] _), _, _] => s14b_p
  | _ => s14f_p
def tlen (f : Nat → Nat → AV) (off : Nat) : Nat := (val f (off + 49) 2).toNat
def bnum (f : Nat → Nat → AV) (off : Nat) : Nat := (val f (off + (51 + tlen f off)) 1).toNat
def eEnd (f : Nat → Nat → AV) (off : Nat) : Nat := off + (51 + (tlen f off + (1 + 24 * bnum f off)))
theorem entE : ∃ q : (Nat → Nat → AV) → Nat → Nat → Bool, q = fun f off N => decide (off + 51 ≤ N) && (decide (tlen f off ≤ 16384) && (decide (off + (51 + (tlen f off + 1)) ≤ N) && (decide (bnum f off ≤ 64) && decide (eEnd f off ≤ N)))) := ⟨_, rfl⟩
/-- Does an entry stand there (not unfolded by the kernel). -/
noncomputable def entOK : (Nat → Nat → AV) → Nat → Nat → Bool := Classical.choose entE
theorem entOK_eq (f : Nat → Nat → AV) (off N : Nat) : entOK f off N = (decide (off + 51 ≤ N) && (decide (tlen f off ≤ 16384) && (decide (off + (51 + (tlen f off + 1)) ≤ N) && (decide (bnum f off ≤ 64) && decide (eEnd f off ≤ N))))) := by
  rw [show entOK = _ from Classical.choose_spec entE]
/-- The entry. -/
def eVal (f : Nat → Nat → AV) (off : Nat) (b : AV) : AV := .agg [.int .u64 (val f off 8), .int .u64 (val f (off + 8) 8), .int .u64 (val f (off + 16) 8), .int .i64 (IntKind.wrap .i64 (val f (off + 24) 1)), .int .u64 (val f (off + 25) 8), .int .u64 (val f (off + 33) 8),
  .int .u32 (IntKind.wrap .u32 (val f (off + 41) 4)), .int .u32 (IntKind.wrap .u32 (val f (off + 45) 4)), .str (strV f (off + 51) (tlen f off)), b]
def eZero : AV := .agg [.int .u64 0, .int .u64 0, .int .u64 0, .int .i64 0, .int .u64 0, .int .u64 0, .int .u32 0, .int .u32 0, .str [], .nilSlice]
noncomputable def q14oB  (nl : Bool) (off : Nat) (N : Nat) (f : Nat → Nat → AV) : T (CS) :=
  chkT [okB f N, Nat.ble off N, Nat.ble N 1000000, cond nl (Nat.beq N 0) true] (.ask (entOK f off N) (.ask (Nat.beq (bnum f off) 0) (.ret ⟨[eVal f off .nilSlice], [some (.cells [.osl nl 1 (eEnd f off) (N - (eEnd f off)) (N - (eEnd f off)) 1 true, .bool false] true)] ++ [some (.tarr shB N f false)]⟩) (.ret ⟨[eVal f off (.tsl 1 0 (bnum f off) (bnum f off) 4 true)], [some (.cells [.osl nl 2 (eEnd f off) (N - (eEnd f off)) (N - (eEnd f off)) 1 true, .bool false] true)] ++ [some (.tarr shL (bnum f off) (lookF f (off + (51 + (tlen f off + 1)))) true), some (.tarr shB N f false)]⟩)) (.ret ⟨[eZero], failP⟩))
noncomputable def q14o  (c : CS) : T (CS) := match c with
  | ⟨[.ptr 0 0], [some (.cells [.osl nl 1 off z_1 z_2 1 true, .bool z_3] true), some (.tarr sh_4 N f false)]⟩ => chkT [decide ((N - off) = z_1), decide ((N - off) = z_2), decide (false = z_3), shBeq sh_4 shB] (q14oB  nl off N f)
  | _ => .fail
noncomputable def F8 : Env := addF F7 14 ⟨fiRun [.keep] [pR] 1 q14o⟩
noncomputable def k14 (nl : Bool) (off : Nat) (N : Nat) (f : Nat → Nat → AV) (π : Plan) : Option CS := callC (F7) (1000) (14) (1) (.keep) ([pR]) π (rk nl off N f)
def k14_p : Plan := (.must true (.must true (.reck 4 (.fork (.fork (.fork (.fork .stop (.must true (.must true (.reck 4 (.must true (.fork (.must true (.fork .stop (.must true (.must true (.reck 4 (.must true (.fork (.must true (.fork .stop (.must true (.must true (.reck 4 (.must true (.fork (.must true (.fork .stop (.must true (.must true (.reck 2 (.must true (.fork (.must true (.fork .stop (.fork (.reck 9 (.must true .stop)) (.fork (.reck 7 (.must true (.must true (.must true .stop)))) (.fork (.reck 1 (.must true (.reck 1 (.must true (.reck 1 (.must true (.reck 1 (.must true (.must true (.must true .stop)))))))))) (.must true (.must true (.must true (.must true (.must true (.must true (.must true (.must true (.must true (.must true (.must true (.reck 2 (.must true (.fork (.must true (.fork (.fork .stop (.fork .stop (.fork .stop (.must true (.must true (.reck 4 (.must true (.fork (.must true (.fork .stop (.fork .stop (.reck 1 (.must true (.must true (.reck 2 (.must true (.fork (.must true (.must true (.fork .stop (.fork .stop .stop)))) .stop))))))))) .stop)))))))) .stop)) .stop))))))))))))))))))) .stop))))))) .stop))))))) .stop))))))) .stop)))))) .stop) .stop) .stop))))
theorem k14_is (nl : Bool) (off : Nat) (N : Nat) (f : Nat → Nat → AV) : k14 nl off N f k14_p = (cond (decide (N - off = N - off)) (cond (decide (N - off = N - off)) (cond ((okB f (N)))
  (cond (Nat.ble off N)
  (cond (Nat.ble N 1000000)
  (cond (Nat.blt N (off + Int.toNat 8))
  (some (CS.mk [(AV.agg [(AV.int IntKind.u64 (0)), (AV.int IntKind.u64 (0)), (AV.int IntKind.u64 (0)), (AV.int IntKind.i64 (0)), (AV.int IntKind.u64 (0)), (AV.int IntKind.u64 (0)), (AV.int IntKind.u32 (0)), (AV.int IntKind.u32 (0)), (AV.str (bytesOf { data := #[] })), AV.nilSlice])] [some (AObj.cells [(AV.osl (true) (1) (0) (0) (0) (1) (true)), (AV.bool (true))] true), some (AObj.tarr [Sh.int IntKind.u8] (0) (fun p_ q_ => AV.bad) true)]))
  (cond (decide (N - (off + Int.toNat 8) = N - (off + Int.toNat 8))) (cond (decide (N - (off + Int.toNat 8) = N - (off + Int.toNat 8))) (cond ((okB f (N))) (cond (Nat.ble (off + Int.toNat 8) N)
  (cond (Nat.ble N 1000000) (cond (Nat.blt N (off + Int.toNat 8 + Int.toNat 8))
  (some (CS.mk [(AV.agg [(AV.int IntKind.u64 (0)), (AV.int IntKind.u64 (0)), (AV.int IntKind.u64 (0)), (AV.int IntKind.i64 (0)), (AV.int IntKind.u64 (0)), (AV.int IntKind.u64 (0)), (AV.int IntKind.u32 (0)), (AV.int IntKind.u32 (0)), (AV.str (bytesOf { data := #[] })), AV.nilSlice])] [some (AObj.cells [(AV.osl (true) (1) (0) (0) (0) (1) (true)), (AV.bool (true))] true), some (AObj.tarr [Sh.int IntKind.u8] (0) (fun p_ q_ => AV.bad) true)]))
  (cond (decide (N - (off + Int.toNat 8 + Int.toNat 8) = N - (off + Int.toNat 8 + Int.toNat 8))) (cond (decide (N - (off + Int.toNat 8 + Int.toNat 8) = N - (off + Int.toNat 8 + Int.toNat 8))) (cond ((okB f (N))) (cond (Nat.ble (off + Int.toNat 8 + Int.toNat 8) N)
  (cond (Nat.ble N 1000000) (cond (Nat.blt N (off + Int.toNat 8 + Int.toNat 8 + Int.toNat 8))
  (some (CS.mk [(AV.agg [(AV.int IntKind.u64 (0)), (AV.int IntKind.u64 (0)), (AV.int IntKind.u64 (0)), (AV.int IntKind.i64 (0)), (AV.int IntKind.u64 (0)), (AV.int IntKind.u64 (0)), (AV.int IntKind.u32 (0)), (AV.int IntKind.u32 (0)), (AV.str (bytesOf { data := #[] })), AV.nilSlice])] [some (AObj.cells [(AV.osl (true) (1) (0) (0) (0) (1) (true)), (AV.bool (true))] true), some (AObj.tarr [Sh.int IntKind.u8] (0) (fun p_ q_ => AV.bad) true)]))
  (cond (decide (N - (off + Int.toNat 8 + Int.toNat 8 + Int.toNat 8) = N - (off + Int.toNat 8 + Int.toNat 8 + Int.toNat 8))) (cond (decide (N - (off + Int.toNat 8 + Int.toNat 8 + Int.toNat 8) = N - (off + Int.toNat 8 + Int.toNat 8 + Int.toNat 8))) (cond ((okB f (N))) (cond (Nat.ble (off + Int.toNat 8 + Int.toNat 8 + Int.toNat 8) N)
  (cond (Nat.ble N 1000000) (cond (Nat.blt N (off + Int.toNat 8 + Int.toNat 8 + Int.toNat 8 + Int.toNat 1))
  (some (CS.mk [(AV.agg [(AV.int IntKind.u64 (0)), (AV.int IntKind.u64 (0)), (AV.int IntKind.u64 (0)), (AV.int IntKind.i64 (0)), (AV.int IntKind.u64 (0)), (AV.int IntKind.u64 (0)), (AV.int IntKind.u32 (0)), (AV.int IntKind.u32 (0)), (AV.str (bytesOf { data := #[] })), AV.nilSlice])] [some (AObj.cells [(AV.osl (true) (1) (0) (0) (0) (1) (true)), (AV.bool (true))] true), some (AObj.tarr [Sh.int IntKind.u8] (0) (fun p_ q_ => AV.bad) true)]))
  (cond (decide (N - (off + Int.toNat 8 + Int.toNat 8 + Int.toNat 8 + Int.toNat 1) = N - (off + Int.toNat 8 + Int.toNat 8 + Int.toNat 8 + Int.toNat 1))) (cond (decide (N - (off + Int.toNat 8 + Int.toNat 8 + Int.toNat 8 + Int.toNat 1) = N - (off + Int.toNat 8 + Int.toNat 8 + Int.toNat 8 + Int.toNat 1))) (cond ((okB f (N))) (cond (Nat.ble (off + Int.toNat 8 + Int.toNat 8 + Int.toNat 8 + Int.toNat 1) N)
  (cond (Nat.ble N 1000000) (cond (Nat.blt N (off + Int.toNat 8 + Int.toNat 8 + Int.toNat 8 + Int.toNat 1 + 8))
  (some (CS.mk [(AV.agg [(AV.int IntKind.u64 (0)), (AV.int IntKind.u64 (0)), (AV.int IntKind.u64 (0)), (AV.int IntKind.i64 (0)), (AV.int IntKind.u64 (0)), (AV.int IntKind.u64 (0)), (AV.int IntKind.u32 (0)), (AV.int IntKind.u32 (0)), (AV.str (bytesOf { data := #[] })), AV.nilSlice])] [some (AObj.cells [(AV.osl (true) (1) (0) (0) (0) (1) (true)), (AV.bool (true))] true), some (AObj.tarr [Sh.int IntKind.u8] (0) (fun p_ q_ => AV.bad) true)]))
  (cond (Nat.blt N (off + Int.toNat 8 + Int.toNat 8 + Int.toNat 8 + Int.toNat 1 + 16))
  (cond (decide (val f (off + Int.toNat 8 + Int.toNat 8 + Int.toNat 8 + Int.toNat 1) 8 = val f (off + Int.toNat 8 + Int.toNat 8 + Int.toNat 8 + Int.toNat 1) 8)) (some (CS.mk [(AV.agg [(AV.int IntKind.u64 (0)), (AV.int IntKind.u64 (0)), (AV.int IntKind.u64 (0)), (AV.int IntKind.i64 (0)), (AV.int IntKind.u64 (0)), (AV.int IntKind.u64 (0)), (AV.int IntKind.u32 (0)), (AV.int IntKind.u32 (0)), (AV.str (bytesOf { data := #[] })), AV.nilSlice])] [some (AObj.cells [(AV.osl (true) (1) (0) (0) (0) (1) (true)), (AV.bool (true))] true), some (AObj.tarr [Sh.int IntKind.u8] (0) (fun p_ q_ => AV.bad) true)])) none)
  (cond (Nat.blt N (off + Int.toNat 8 + Int.toNat 8 + Int.toNat 8 + Int.toNat 1 + 20))
  (cond (decide (val f (off + Int.toNat 8 + Int.toNat 8 + Int.toNat 8 + Int.toNat 1 + 8) 8 = val f (off + Int.toNat 8 + Int.toNat 8 + Int.toNat 8 + Int.toNat 1 + 8) 8)) (cond (decide (val f (off + Int.toNat 8 + Int.toNat 8 + Int.toNat 8 + Int.toNat 1 + 8) 8 = val f (off + Int.toNat 8 + Int.toNat 8 + Int.toNat 8 + Int.toNat 1 + 8) 8)) (cond (decide (val f (off + Int.toNat 8 + Int.toNat 8 + Int.toNat 8 + Int.toNat 1) 8 = val f (off + Int.toNat 8 + Int.toNat 8 + Int.toNat 8 + Int.toNat 1) 8)) (some (CS.mk [(AV.agg [(AV.int IntKind.u64 (0)), (AV.int IntKind.u64 (0)), (AV.int IntKind.u64 (0)), (AV.int IntKind.i64 (0)), (AV.int IntKind.u64 (0)), (AV.int IntKind.u64 (0)), (AV.int IntKind.u32 (0)), (AV.int IntKind.u32 (0)), (AV.str (bytesOf { data := #[] })), AV.nilSlice])] [some (AObj.cells [(AV.osl (true) (1) (0) (0) (0) (1) (true)), (AV.bool (true))] true), some (AObj.tarr [Sh.int IntKind.u8] (0) (fun p_ q_ => AV.bad) true)])) none) none) none)
  (cond (Nat.blt N (off + Int.toNat 8 + Int.toNat 8 + Int.toNat 8 + Int.toNat 1 + 24))
  (cond (decide (IntKind.wrap IntKind.u32 (val f (off + Int.toNat 8 + Int.toNat 8 + Int.toNat 8 + Int.toNat 1 + 16) 4) = IntKind.wrap IntKind.u32 (val f (off + Int.toNat 8 + Int.toNat 8 + Int.toNat 8 + Int.toNat 1 + 16) 4))) (cond (decide (IntKind.wrap IntKind.u32 (val f (off + Int.toNat 8 + Int.toNat 8 + Int.toNat 8 + Int.toNat 1 + 16) 4) = IntKind.wrap IntKind.u32 (val f (off + Int.toNat 8 + Int.toNat 8 + Int.toNat 8 + Int.toNat 1 + 16) 4))) (cond (decide (IntKind.wrap IntKind.u32 (val f (off + Int.toNat 8 + Int.toNat 8 + Int.toNat 8 + Int.toNat 1 + 16) 4) = IntKind.wrap IntKind.u32 (val f (off + Int.toNat 8 + Int.toNat 8 + Int.toNat 8 + Int.toNat 1 + 16) 4))) (cond (decide (val f (off + Int.toNat 8 + Int.toNat 8 + Int.toNat 8 + Int.toNat 1 + 8) 8 = val f (off + Int.toNat 8 + Int.toNat 8 + Int.toNat 8 + Int.toNat 1 + 8) 8)) (cond (decide (val f (off + Int.toNat 8 + Int.toNat 8 + Int.toNat 8 + Int.toNat 1 + 8) 8 = val f (off + Int.toNat 8 + Int.toNat 8 + Int.toNat 8 + Int.toNat 1 + 8) 8)) (cond (decide (val f (off + Int.toNat 8 + Int.toNat 8 + Int.toNat 8 + Int.toNat 1) 8 = val f (off + Int.toNat 8 + Int.toNat 8 + Int.toNat 8 + Int.toNat 1) 8)) (some (CS.mk [(AV.agg [(AV.int IntKind.u64 (0)), (AV.int IntKind.u64 (0)), (AV.int IntKind.u64 (0)), (AV.int IntKind.i64 (0)), (AV.int IntKind.u64 (0)), (AV.int IntKind.u64 (0)), (AV.int IntKind.u32 (0)), (AV.int IntKind.u32 (0)), (AV.str (bytesOf { data := #[] })), AV.nilSlice])] [some (AObj.cells [(AV.osl (true) (1) (0) (0) (0) (1) (true)), (AV.bool (true))] true), some (AObj.tarr [Sh.int IntKind.u8] (0) (fun p_ q_ => AV.bad) true)])) none) none) none) none) none) none)
  (cond (decide (IntKind.wrap IntKind.u32 (val f (off + Int.toNat 8 + Int.toNat 8 + Int.toNat 8 + Int.toNat 1 + 16) 4) = IntKind.wrap IntKind.u32 (val f (off + Int.toNat 8 + Int.toNat 8 + Int.toNat 8 + Int.toNat 1 + 16) 4))) (cond (decide (IntKind.wrap IntKind.u32 (val f (off + Int.toNat 8 + Int.toNat 8 + Int.toNat 8 + Int.toNat 1 + 20) 4) = IntKind.wrap IntKind.u32 (val f (off + Int.toNat 8 + Int.toNat 8 + Int.toNat 8 + Int.toNat 1 + 20) 4))) (cond (decide (IntKind.wrap IntKind.u32 (val f (off + Int.toNat 8 + Int.toNat 8 + Int.toNat 8 + Int.toNat 1 + 16) 4) = IntKind.wrap IntKind.u32 (val f (off + Int.toNat 8 + Int.toNat 8 + Int.toNat 8 + Int.toNat 1 + 16) 4))) (cond (decide (IntKind.wrap IntKind.u32 (val f (off + Int.toNat 8 + Int.toNat 8 + Int.toNat 8 + Int.toNat 1 + 20) 4) = IntKind.wrap IntKind.u32 (val f (off + Int.toNat 8 + Int.toNat 8 + Int.toNat 8 + Int.toNat 1 + 20) 4))) (cond (decide (IntKind.wrap IntKind.u32 (val f (off + Int.toNat 8 + Int.toNat 8 + Int.toNat 8 + Int.toNat 1 + 16) 4) = IntKind.wrap IntKind.u32 (val f (off + Int.toNat 8 + Int.toNat 8 + Int.toNat 8 + Int.toNat 1 + 16) 4))) (cond (decide (IntKind.wrap IntKind.u32 (val f (off + Int.toNat 8 + Int.toNat 8 + Int.toNat 8 + Int.toNat 1 + 20) 4) = IntKind.wrap IntKind.u32 (val f (off + Int.toNat 8 + Int.toNat 8 + Int.toNat 8 + Int.toNat 1 + 20) 4))) (cond (decide (val f (off + Int.toNat 8 + Int.toNat 8 + Int.toNat 8 + Int.toNat 1 + 8) 8 = val f (off + Int.toNat 8 + Int.toNat 8 + Int.toNat 8 + Int.toNat 1 + 8) 8)) (cond (decide (val f (off + Int.toNat 8 + Int.toNat 8 + Int.toNat 8 + Int.toNat 1 + 8) 8 = val f (off + Int.toNat 8 + Int.toNat 8 + Int.toNat 8 + Int.toNat 1 + 8) 8)) (cond (decide (val f (off + Int.toNat 8 + Int.toNat 8 + Int.toNat 8 + Int.toNat 1) 8 = val f (off + Int.toNat 8 + Int.toNat 8 + Int.toNat 8 + Int.toNat 1) 8)) (cond (decide (N - (off + Int.toNat 8 + Int.toNat 8 + Int.toNat 8 + Int.toNat 1 + 24) = N - (off + Int.toNat 8 + Int.toNat 8 + Int.toNat 8 + Int.toNat 1 + 24))) (cond (decide (N - (off + Int.toNat 8 + Int.toNat 8 + Int.toNat 8 + Int.toNat 1 + 24) = N - (off + Int.toNat 8 + Int.toNat 8 + Int.toNat 8 + Int.toNat 1 + 24))) (cond ((okB f (N))) (cond (Nat.ble (off + Int.toNat 8 + Int.toNat 8 + Int.toNat 8 + Int.toNat 1 + 24) N)
  (cond (Nat.ble N 1000000) (cond (bif nl then Nat.beq N 0 else true)
  (cond (Nat.blt N (off + Int.toNat 8 + Int.toNat 8 + Int.toNat 8 + Int.toNat 1 + 24 + 2))
  (some (CS.mk [(AV.agg [(AV.int IntKind.u64 (0)), (AV.int IntKind.u64 (0)), (AV.int IntKind.u64 (0)), (AV.int IntKind.i64 (0)), (AV.int IntKind.u64 (0)), (AV.int IntKind.u64 (0)), (AV.int IntKind.u32 (0)), (AV.int IntKind.u32 (0)), (AV.str (bytesOf { data := #[] })), AV.nilSlice])] [some (AObj.cells [(AV.osl (true) (1) (0) (0) (0) (1) (true)), (AV.bool (true))] true), some (AObj.tarr [Sh.int IntKind.u8] (0) (fun p_ q_ => AV.bad) true)]))
  (cond (decide (val f (off + Int.toNat 8 + Int.toNat 8 + Int.toNat 8 + Int.toNat 1 + 24) 2 > 16384))
  (some (CS.mk [(AV.agg [(AV.int IntKind.u64 (0)), (AV.int IntKind.u64 (0)), (AV.int IntKind.u64 (0)), (AV.int IntKind.i64 (0)), (AV.int IntKind.u64 (0)), (AV.int IntKind.u64 (0)), (AV.int IntKind.u32 (0)), (AV.int IntKind.u32 (0)), (AV.str (bytesOf { data := #[] })), AV.nilSlice])] [some (AObj.cells [(AV.osl (true) (1) (0) (0) (0) (1) (true)), (AV.bool (true))] true), some (AObj.tarr [Sh.int IntKind.u8] (0) (fun p_ q_ => AV.bad) true)]))
  (cond (Nat.blt N (off + Int.toNat 8 + Int.toNat 8 + Int.toNat 8 + Int.toNat 1 + 24 + 2 + Int.toNat (val f (off + Int.toNat 8 + Int.toNat 8 + Int.toNat 8 + Int.toNat 1 + 24) 2)))
  (some (CS.mk [(AV.agg [(AV.int IntKind.u64 (0)), (AV.int IntKind.u64 (0)), (AV.int IntKind.u64 (0)), (AV.int IntKind.i64 (0)), (AV.int IntKind.u64 (0)), (AV.int IntKind.u64 (0)), (AV.int IntKind.u32 (0)), (AV.int IntKind.u32 (0)), (AV.str (bytesOf { data := #[] })), AV.nilSlice])] [some (AObj.cells [(AV.osl (true) (1) (0) (0) (0) (1) (true)), (AV.bool (true))] true), some (AObj.tarr [Sh.int IntKind.u8] (0) (fun p_ q_ => AV.bad) true)]))
  (cond (decide (N - (off + Int.toNat 8 + Int.toNat 8 + Int.toNat 8 + Int.toNat 1 + 24 + 2 + Int.toNat (val f (off + Int.toNat 8 + Int.toNat 8 + Int.toNat 8 + Int.toNat 1 + 24) 2)) = N - (off + Int.toNat 8 + Int.toNat 8 + Int.toNat 8 + Int.toNat 1 + 24 + 2 + Int.toNat (val f (off + Int.toNat 8 + Int.toNat 8 + Int.toNat 8 + Int.toNat 1 + 24) 2)))) (cond (decide (N - (off + Int.toNat 8 + Int.toNat 8 + Int.toNat 8 + Int.toNat 1 + 24 + 2 + Int.toNat (val f (off + Int.toNat 8 + Int.toNat 8 + Int.toNat 8 + Int.toNat 1 + 24) 2)) = N - (off + Int.toNat 8 + Int.toNat 8 + Int.toNat 8 + Int.toNat 1 + 24 + 2 + Int.toNat (val f (off + Int.toNat 8 + Int.toNat 8 + Int.toNat 8 + Int.toNat 1 + 24) 2)))) (cond ((okB f (N))) (cond (Nat.ble (off + Int.toNat 8 + Int.toNat 8 + Int.toNat 8 + Int.toNat 1 + 24 + 2 + Int.toNat (val f (off + Int.toNat 8 + Int.toNat 8 + Int.toNat 8 + Int.toNat 1 + 24) 2)) N)
  (cond (Nat.ble N 1000000) (cond (Nat.blt N (off + Int.toNat 8 + Int.toNat 8 + Int.toNat 8 + Int.toNat 1 + 24 + 2 + Int.toNat (val f (off + Int.toNat 8 + Int.toNat 8 + Int.toNat 8 + Int.toNat 1 + 24) 2) + Int.toNat 1))
  (some (CS.mk [(AV.agg [(AV.int IntKind.u64 (0)), (AV.int IntKind.u64 (0)), (AV.int IntKind.u64 (0)), (AV.int IntKind.i64 (0)), (AV.int IntKind.u64 (0)), (AV.int IntKind.u64 (0)), (AV.int IntKind.u32 (0)), (AV.int IntKind.u32 (0)), (AV.str (bytesOf { data := #[] })), AV.nilSlice])] [some (AObj.cells [(AV.osl (true) (1) (0) (0) (0) (1) (true)), (AV.bool (true))] true), some (AObj.tarr [Sh.int IntKind.u8] (0) (fun p_ q_ => AV.bad) true)]))
  (cond (decide (IntKind.wrap IntKind.i64 (val f (off + Int.toNat 8 + Int.toNat 8 + Int.toNat 8 + Int.toNat 1 + 24 + 2 + Int.toNat (val f (off + Int.toNat 8 + Int.toNat 8 + Int.toNat 8 + Int.toNat 1 + 24) 2)) (Int.toNat 1)) > 64))
  (some (CS.mk [(AV.agg [(AV.int IntKind.u64 (0)), (AV.int IntKind.u64 (0)), (AV.int IntKind.u64 (0)), (AV.int IntKind.i64 (0)), (AV.int IntKind.u64 (0)), (AV.int IntKind.u64 (0)), (AV.int IntKind.u32 (0)), (AV.int IntKind.u32 (0)), (AV.str (bytesOf { data := #[] })), AV.nilSlice])] [some (AObj.cells [(AV.osl (true) (1) (0) (0) (0) (1) (true)), (AV.bool (true))] true), some (AObj.tarr [Sh.int IntKind.u8] (0) (fun p_ q_ => AV.bad) true)]))
  (cond (decide (N - (off + Int.toNat 8 + Int.toNat 8 + Int.toNat 8 + Int.toNat 1 + 24 + 2 + Int.toNat (val f (off + Int.toNat 8 + Int.toNat 8 + Int.toNat 8 + Int.toNat 1 + 24) 2) + Int.toNat 1) = N - (off + Int.toNat 8 + Int.toNat 8 + Int.toNat 8 + Int.toNat 1 + 24 + 2 + Int.toNat (val f (off + Int.toNat 8 + Int.toNat 8 + Int.toNat 8 + Int.toNat 1 + 24) 2) + Int.toNat 1))) (cond (decide (N - (off + Int.toNat 8 + Int.toNat 8 + Int.toNat 8 + Int.toNat 1 + 24 + 2 + Int.toNat (val f (off + Int.toNat 8 + Int.toNat 8 + Int.toNat 8 + Int.toNat 1 + 24) 2) + Int.toNat 1) = N - (off + Int.toNat 8 + Int.toNat 8 + Int.toNat 8 + Int.toNat 1 + 24 + 2 + Int.toNat (val f (off + Int.toNat 8 + Int.toNat 8 + Int.toNat 8 + Int.toNat 1 + 24) 2) + Int.toNat 1))) (cond ((okB f (N))) (cond (Nat.ble (off + Int.toNat 8 + Int.toNat 8 + Int.toNat 8 + Int.toNat 1 + 24 + 2 + Int.toNat (val f (off + Int.toNat 8 + Int.toNat 8 + Int.toNat 8 + Int.toNat 1 + 24) 2) + Int.toNat 1) N)
  (cond (Nat.ble N 1000000) (cond (!decide (IntKind.wrap IntKind.i64 (val f (off + Int.toNat 8 + Int.toNat 8 + Int.toNat 8 + Int.toNat 1 + 24 + 2 + Int.toNat (val f (off + Int.toNat 8 + Int.toNat 8 + Int.toNat 8 + Int.toNat 1 + 24) 2)) (Int.toNat 1)) > 64)) (cond (Nat.beq (Int.toNat (IntKind.wrap IntKind.i64 (val f (off + Int.toNat 8 + Int.toNat 8 + Int.toNat 8 + Int.toNat 1 + 24 + 2 + Int.toNat (val f (off + Int.toNat 8 + Int.toNat 8 + Int.toNat 8 + Int.toNat 1 + 24) 2)) (Int.toNat 1)))) 0)
  (some (CS.mk [(AV.agg [(AV.int IntKind.u64 ((val f (off) (8)))), (AV.int IntKind.u64 ((val f (off + Int.toNat 8) (8)))), (AV.int IntKind.u64 ((val f (off + Int.toNat 8 + Int.toNat 8) (8)))), (AV.int IntKind.i64 (IntKind.wrap IntKind.i64 (val f (off + Int.toNat 8 + Int.toNat 8 + Int.toNat 8) (Int.toNat 1)))), (AV.int IntKind.u64 ((val f (off + Int.toNat 8 + Int.toNat 8 + Int.toNat 8 + Int.toNat 1) (8)))), (AV.int IntKind.u64 ((val f (off + Int.toNat 8 + Int.toNat 8 + Int.toNat 8 + Int.toNat 1 + 8) (8)))), (AV.int IntKind.u32 (IntKind.wrap IntKind.u32 (val f (off + Int.toNat 8 + Int.toNat 8 + Int.toNat 8 + Int.toNat 1 + 16) 4))), (AV.int IntKind.u32 (IntKind.wrap IntKind.u32 (val f (off + Int.toNat 8 + Int.toNat 8 + Int.toNat 8 + Int.toNat 1 + 20) 4))), (AV.str ((strV f (off + Int.toNat 8 + Int.toNat 8 + Int.toNat 8 + Int.toNat 1 + 24 + 2) (Int.toNat (val f (off + Int.toNat 8 + Int.toNat 8 + Int.toNat 8 + Int.toNat 1 + 24) 2))))), AV.nilSlice])] [some (AObj.cells [(AV.osl (nl) (1) (off + Int.toNat 8 + Int.toNat 8 + Int.toNat 8 + Int.toNat 1 + 24 + 2 + Int.toNat (val f (off + Int.toNat 8 + Int.toNat 8 + Int.toNat 8 + Int.toNat 1 + 24) 2) + Int.toNat 1) (N - (off + Int.toNat 8 + Int.toNat 8 + Int.toNat 8 + Int.toNat 1 + 24 + 2 + Int.toNat (val f (off + Int.toNat 8 + Int.toNat 8 + Int.toNat 8 + Int.toNat 1 + 24) 2) + Int.toNat 1)) (N - (off + Int.toNat 8 + Int.toNat 8 + Int.toNat 8 + Int.toNat 1 + 24 + 2 + Int.toNat (val f (off + Int.toNat 8 + Int.toNat 8 + Int.toNat 8 + Int.toNat 1 + 24) 2) + Int.toNat 1)) (1) (true)), (AV.bool (false))] true), some (AObj.tarr [Sh.int IntKind.u8] (N) f false)]))
  (cond (Nat.blt N (off + Int.toNat 8 + Int.toNat 8 + Int.toNat 8 + Int.toNat 1 + 24 + 2 + Int.toNat (val f (off + Int.toNat 8 + Int.toNat 8 + Int.toNat 8 + Int.toNat 1 + 24) 2) + Int.toNat 1 + 24 * Int.toNat (IntKind.wrap IntKind.i64 (val f (off + Int.toNat 8 + Int.toNat 8 + Int.toNat 8 + Int.toNat 1 + 24 + 2 + Int.toNat (val f (off + Int.toNat 8 + Int.toNat 8 + Int.toNat 8 + Int.toNat 1 + 24) 2)) (Int.toNat 1)))))
  (some (CS.mk [(AV.agg [(AV.int IntKind.u64 (0)), (AV.int IntKind.u64 (0)), (AV.int IntKind.u64 (0)), (AV.int IntKind.i64 (0)), (AV.int IntKind.u64 (0)), (AV.int IntKind.u64 (0)), (AV.int IntKind.u32 (0)), (AV.int IntKind.u32 (0)), (AV.str (bytesOf { data := #[] })), AV.nilSlice])] [some (AObj.cells [(AV.osl (true) (1) (0) (0) (0) (1) (true)), (AV.bool (true))] true), some (AObj.tarr [Sh.int IntKind.u8] (0) (fun p_ q_ => AV.bad) true)]))
  (some (CS.mk [(AV.agg [(AV.int IntKind.u64 ((val f (off) (8)))), (AV.int IntKind.u64 ((val f (off + Int.toNat 8) (8)))), (AV.int IntKind.u64 ((val f (off + Int.toNat 8 + Int.toNat 8) (8)))), (AV.int IntKind.i64 (IntKind.wrap IntKind.i64 (val f (off + Int.toNat 8 + Int.toNat 8 + Int.toNat 8) (Int.toNat 1)))), (AV.int IntKind.u64 ((val f (off + Int.toNat 8 + Int.toNat 8 + Int.toNat 8 + Int.toNat 1) (8)))), (AV.int IntKind.u64 ((val f (off + Int.toNat 8 + Int.toNat 8 + Int.toNat 8 + Int.toNat 1 + 8) (8)))), (AV.int IntKind.u32 (IntKind.wrap IntKind.u32 (val f (off + Int.toNat 8 + Int.toNat 8 + Int.toNat 8 + Int.toNat 1 + 16) 4))), (AV.int IntKind.u32 (IntKind.wrap IntKind.u32 (val f (off + Int.toNat 8 + Int.toNat 8 + Int.toNat 8 + Int.toNat 1 + 20) 4))), (AV.str ((strV f (off + Int.toNat 8 + Int.toNat 8 + Int.toNat 8 + Int.toNat 1 + 24 + 2) (Int.toNat (val f (off + Int.toNat 8 + Int.toNat 8 + Int.toNat 8 + Int.toNat 1 + 24) 2))))), (AV.tsl (1) (0) (Int.toNat (IntKind.wrap IntKind.i64 (val f (off + Int.toNat 8 + Int.toNat 8 + Int.toNat 8 + Int.toNat 1 + 24 + 2 + Int.toNat (val f (off + Int.toNat 8 + Int.toNat 8 + Int.toNat 8 + Int.toNat 1 + 24) 2)) (Int.toNat 1)))) (Int.toNat (IntKind.wrap IntKind.i64 (val f (off + Int.toNat 8 + Int.toNat 8 + Int.toNat 8 + Int.toNat 1 + 24 + 2 + Int.toNat (val f (off + Int.toNat 8 + Int.toNat 8 + Int.toNat 8 + Int.toNat 1 + 24) 2)) (Int.toNat 1)))) (4) (true))])] [some (AObj.cells [(AV.osl (nl) (2) (off + Int.toNat 8 + Int.toNat 8 + Int.toNat 8 + Int.toNat 1 + 24 + 2 + Int.toNat (val f (off + Int.toNat 8 + Int.toNat 8 + Int.toNat 8 + Int.toNat 1 + 24) 2) + Int.toNat 1 + 24 * Int.toNat (IntKind.wrap IntKind.i64 (val f (off + Int.toNat 8 + Int.toNat 8 + Int.toNat 8 + Int.toNat 1 + 24 + 2 + Int.toNat (val f (off + Int.toNat 8 + Int.toNat 8 + Int.toNat 8 + Int.toNat 1 + 24) 2)) (Int.toNat 1)))) (N - (off + Int.toNat 8 + Int.toNat 8 + Int.toNat 8 + Int.toNat 1 + 24 + 2 + Int.toNat (val f (off + Int.toNat 8 + Int.toNat 8 + Int.toNat 8 + Int.toNat 1 + 24) 2) + Int.toNat 1 + 24 * Int.toNat (IntKind.wrap IntKind.i64 (val f (off + Int.toNat 8 + Int.toNat 8 + Int.toNat 8 + Int.toNat 1 + 24 + 2 + Int.toNat (val f (off + Int.toNat 8 + Int.toNat 8 + Int.toNat 8 + Int.toNat 1 + 24) 2)) (Int.toNat 1))))) (N - (off + Int.toNat 8 + Int.toNat 8 + Int.toNat 8 + Int.toNat 1 + 24 + 2 + Int.toNat (val f (off + Int.toNat 8 + Int.toNat 8 + Int.toNat 8 + Int.toNat 1 + 24) 2) + Int.toNat 1 + 24 * Int.toNat (IntKind.wrap IntKind.i64 (val f (off + Int.toNat 8 + Int.toNat 8 + Int.toNat 8 + Int.toNat 1 + 24 + 2 + Int.toNat (val f (off + Int.toNat 8 + Int.toNat 8 + Int.toNat 8 + Int.toNat 1 + 24) 2)) (Int.toNat 1))))) (1) (true)), (AV.bool (false))] true), some (AObj.tarr [Sh.int IntKind.u64, Sh.int IntKind.u64, Sh.int IntKind.u32, Sh.int IntKind.u32] (Int.toNat (IntKind.wrap IntKind.i64 (val f (off + Int.toNat 8 + Int.toNat 8 + Int.toNat 8 + Int.toNat 1 + 24 + 2 + Int.toNat (val f (off + Int.toNat 8 + Int.toNat 8 + Int.toNat 8 + Int.toNat 1 + 24) 2)) (Int.toNat 1)))) (lookF f (off + Int.toNat 8 + Int.toNat 8 + Int.toNat 8 + Int.toNat 1 + 24 + 2 + Int.toNat (val f (off + Int.toNat 8 + Int.toNat 8 + Int.toNat 8 + Int.toNat 1 + 24) 2) + Int.toNat 1)) true), some (AObj.tarr [Sh.int IntKind.u8] (N) f false)])))) none) none)
  none) none) none) none))) none)
  none) none) none) none))))
  none) none)
  none) none) none) none) none) none) none) none) none) none) none) none) none))))) none)
  none) none) none) none)) none)
  none) none) none) none)) none)
  none) none) none) none)) none)
  none) none) none) none))
  none)
  none)
  none) none) none) := by kernel_rfl
theorem k14_eq (nl : Bool) (off : Nat) (N : Nat) (f : Nat → Nat → AV) : k14 nl off N f k14_p = (cond (okB f (N))
  (cond (Nat.ble off N)
  (cond (Nat.ble N 1000000)
  (cond (Nat.blt N (off + Int.toNat 8))
  (some (CS.mk [(AV.agg [(AV.int IntKind.u64 (0)), (AV.int IntKind.u64 (0)), (AV.int IntKind.u64 (0)), (AV.int IntKind.i64 (0)), (AV.int IntKind.u64 (0)), (AV.int IntKind.u64 (0)), (AV.int IntKind.u32 (0)), (AV.int IntKind.u32 (0)), (AV.str (bytesOf { data := #[] })), AV.nilSlice])] [some (AObj.cells [(AV.osl (true) (1) (0) (0) (0) (1) (true)), (AV.bool (true))] true), some (AObj.tarr [Sh.int IntKind.u8] (0) (fun p_ q_ => AV.bad) true)]))
  (cond (Nat.ble (off + Int.toNat 8) N)
  (cond (Nat.blt N (off + Int.toNat 8 + Int.toNat 8))
  (some (CS.mk [(AV.agg [(AV.int IntKind.u64 (0)), (AV.int IntKind.u64 (0)), (AV.int IntKind.u64 (0)), (AV.int IntKind.i64 (0)), (AV.int IntKind.u64 (0)), (AV.int IntKind.u64 (0)), (AV.int IntKind.u32 (0)), (AV.int IntKind.u32 (0)), (AV.str (bytesOf { data := #[] })), AV.nilSlice])] [some (AObj.cells [(AV.osl (true) (1) (0) (0) (0) (1) (true)), (AV.bool (true))] true), some (AObj.tarr [Sh.int IntKind.u8] (0) (fun p_ q_ => AV.bad) true)]))
  (cond (Nat.ble (off + Int.toNat 8 + Int.toNat 8) N)
  (cond (Nat.blt N (off + Int.toNat 8 + Int.toNat 8 + Int.toNat 8))
  (some (CS.mk [(AV.agg [(AV.int IntKind.u64 (0)), (AV.int IntKind.u64 (0)), (AV.int IntKind.u64 (0)), (AV.int IntKind.i64 (0)), (AV.int IntKind.u64 (0)), (AV.int IntKind.u64 (0)), (AV.int IntKind.u32 (0)), (AV.int IntKind.u32 (0)), (AV.str (bytesOf { data := #[] })), AV.nilSlice])] [some (AObj.cells [(AV.osl (true) (1) (0) (0) (0) (1) (true)), (AV.bool (true))] true), some (AObj.tarr [Sh.int IntKind.u8] (0) (fun p_ q_ => AV.bad) true)]))
  (cond (Nat.ble (off + Int.toNat 8 + Int.toNat 8 + Int.toNat 8) N)
  (cond (Nat.blt N (off + Int.toNat 8 + Int.toNat 8 + Int.toNat 8 + Int.toNat 1))
  (some (CS.mk [(AV.agg [(AV.int IntKind.u64 (0)), (AV.int IntKind.u64 (0)), (AV.int IntKind.u64 (0)), (AV.int IntKind.i64 (0)), (AV.int IntKind.u64 (0)), (AV.int IntKind.u64 (0)), (AV.int IntKind.u32 (0)), (AV.int IntKind.u32 (0)), (AV.str (bytesOf { data := #[] })), AV.nilSlice])] [some (AObj.cells [(AV.osl (true) (1) (0) (0) (0) (1) (true)), (AV.bool (true))] true), some (AObj.tarr [Sh.int IntKind.u8] (0) (fun p_ q_ => AV.bad) true)]))
  (cond (Nat.ble (off + Int.toNat 8 + Int.toNat 8 + Int.toNat 8 + Int.toNat 1) N)
  (cond (Nat.blt N (off + Int.toNat 8 + Int.toNat 8 + Int.toNat 8 + Int.toNat 1 + 8))
  (some (CS.mk [(AV.agg [(AV.int IntKind.u64 (0)), (AV.int IntKind.u64 (0)), (AV.int IntKind.u64 (0)), (AV.int IntKind.i64 (0)), (AV.int IntKind.u64 (0)), (AV.int IntKind.u64 (0)), (AV.int IntKind.u32 (0)), (AV.int IntKind.u32 (0)), (AV.str (bytesOf { data := #[] })), AV.nilSlice])] [some (AObj.cells [(AV.osl (true) (1) (0) (0) (0) (1) (true)), (AV.bool (true))] true), some (AObj.tarr [Sh.int IntKind.u8] (0) (fun p_ q_ => AV.bad) true)]))
  (cond (Nat.blt N (off + Int.toNat 8 + Int.toNat 8 + Int.toNat 8 + Int.toNat 1 + 16))
  (some (CS.mk [(AV.agg [(AV.int IntKind.u64 (0)), (AV.int IntKind.u64 (0)), (AV.int IntKind.u64 (0)), (AV.int IntKind.i64 (0)), (AV.int IntKind.u64 (0)), (AV.int IntKind.u64 (0)), (AV.int IntKind.u32 (0)), (AV.int IntKind.u32 (0)), (AV.str (bytesOf { data := #[] })), AV.nilSlice])] [some (AObj.cells [(AV.osl (true) (1) (0) (0) (0) (1) (true)), (AV.bool (true))] true), some (AObj.tarr [Sh.int IntKind.u8] (0) (fun p_ q_ => AV.bad) true)]))
  (cond (Nat.blt N (off + Int.toNat 8 + Int.toNat 8 + Int.toNat 8 + Int.toNat 1 + 20))
  (some (CS.mk [(AV.agg [(AV.int IntKind.u64 (0)), (AV.int IntKind.u64 (0)), (AV.int IntKind.u64 (0)), (AV.int IntKind.i64 (0)), (AV.int IntKind.u64 (0)), (AV.int IntKind.u64 (0)), (AV.int IntKind.u32 (0)), (AV.int IntKind.u32 (0)), (AV.str (bytesOf { data := #[] })), AV.nilSlice])] [some (AObj.cells [(AV.osl (true) (1) (0) (0) (0) (1) (true)), (AV.bool (true))] true), some (AObj.tarr [Sh.int IntKind.u8] (0) (fun p_ q_ => AV.bad) true)]))
  (cond (Nat.blt N (off + Int.toNat 8 + Int.toNat 8 + Int.toNat 8 + Int.toNat 1 + 24))
  (some (CS.mk [(AV.agg [(AV.int IntKind.u64 (0)), (AV.int IntKind.u64 (0)), (AV.int IntKind.u64 (0)), (AV.int IntKind.i64 (0)), (AV.int IntKind.u64 (0)), (AV.int IntKind.u64 (0)), (AV.int IntKind.u32 (0)), (AV.int IntKind.u32 (0)), (AV.str (bytesOf { data := #[] })), AV.nilSlice])] [some (AObj.cells [(AV.osl (true) (1) (0) (0) (0) (1) (true)), (AV.bool (true))] true), some (AObj.tarr [Sh.int IntKind.u8] (0) (fun p_ q_ => AV.bad) true)]))
  (cond (Nat.ble (off + Int.toNat 8 + Int.toNat 8 + Int.toNat 8 + Int.toNat 1 + 24) N)
  (cond (bif nl then Nat.beq N 0 else true)
  (cond (Nat.blt N (off + Int.toNat 8 + Int.toNat 8 + Int.toNat 8 + Int.toNat 1 + 24 + 2))
  (some (CS.mk [(AV.agg [(AV.int IntKind.u64 (0)), (AV.int IntKind.u64 (0)), (AV.int IntKind.u64 (0)), (AV.int IntKind.i64 (0)), (AV.int IntKind.u64 (0)), (AV.int IntKind.u64 (0)), (AV.int IntKind.u32 (0)), (AV.int IntKind.u32 (0)), (AV.str (bytesOf { data := #[] })), AV.nilSlice])] [some (AObj.cells [(AV.osl (true) (1) (0) (0) (0) (1) (true)), (AV.bool (true))] true), some (AObj.tarr [Sh.int IntKind.u8] (0) (fun p_ q_ => AV.bad) true)]))
  (cond (decide (val f (off + Int.toNat 8 + Int.toNat 8 + Int.toNat 8 + Int.toNat 1 + 24) 2 > 16384))
  (some (CS.mk [(AV.agg [(AV.int IntKind.u64 (0)), (AV.int IntKind.u64 (0)), (AV.int IntKind.u64 (0)), (AV.int IntKind.i64 (0)), (AV.int IntKind.u64 (0)), (AV.int IntKind.u64 (0)), (AV.int IntKind.u32 (0)), (AV.int IntKind.u32 (0)), (AV.str (bytesOf { data := #[] })), AV.nilSlice])] [some (AObj.cells [(AV.osl (true) (1) (0) (0) (0) (1) (true)), (AV.bool (true))] true), some (AObj.tarr [Sh.int IntKind.u8] (0) (fun p_ q_ => AV.bad) true)]))
  (cond (Nat.blt N (off + Int.toNat 8 + Int.toNat 8 + Int.toNat 8 + Int.toNat 1 + 24 + 2 + Int.toNat (val f (off + Int.toNat 8 + Int.toNat 8 + Int.toNat 8 + Int.toNat 1 + 24) 2)))
  (some (CS.mk [(AV.agg [(AV.int IntKind.u64 (0)), (AV.int IntKind.u64 (0)), (AV.int IntKind.u64 (0)), (AV.int IntKind.i64 (0)), (AV.int IntKind.u64 (0)), (AV.int IntKind.u64 (0)), (AV.int IntKind.u32 (0)), (AV.int IntKind.u32 (0)), (AV.str (bytesOf { data := #[] })), AV.nilSlice])] [some (AObj.cells [(AV.osl (true) (1) (0) (0) (0) (1) (true)), (AV.bool (true))] true), some (AObj.tarr [Sh.int IntKind.u8] (0) (fun p_ q_ => AV.bad) true)]))
  (cond (Nat.ble (off + Int.toNat 8 + Int.toNat 8 + Int.toNat 8 + Int.toNat 1 + 24 + 2 + Int.toNat (val f (off + Int.toNat 8 + Int.toNat 8 + Int.toNat 8 + Int.toNat 1 + 24) 2)) N)
  (cond (Nat.blt N (off + Int.toNat 8 + Int.toNat 8 + Int.toNat 8 + Int.toNat 1 + 24 + 2 + Int.toNat (val f (off + Int.toNat 8 + Int.toNat 8 + Int.toNat 8 + Int.toNat 1 + 24) 2) + Int.toNat 1))
  (some (CS.mk [(AV.agg [(AV.int IntKind.u64 (0)), (AV.int IntKind.u64 (0)), (AV.int IntKind.u64 (0)), (AV.int IntKind.i64 (0)), (AV.int IntKind.u64 (0)), (AV.int IntKind.u64 (0)), (AV.int IntKind.u32 (0)), (AV.int IntKind.u32 (0)), (AV.str (bytesOf { data := #[] })), AV.nilSlice])] [some (AObj.cells [(AV.osl (true) (1) (0) (0) (0) (1) (true)), (AV.bool (true))] true), some (AObj.tarr [Sh.int IntKind.u8] (0) (fun p_ q_ => AV.bad) true)]))
  (cond (decide (IntKind.wrap IntKind.i64 (val f (off + Int.toNat 8 + Int.toNat 8 + Int.toNat 8 + Int.toNat 1 + 24 + 2 + Int.toNat (val f (off + Int.toNat 8 + Int.toNat 8 + Int.toNat 8 + Int.toNat 1 + 24) 2)) (Int.toNat 1)) > 64))
  (some (CS.mk [(AV.agg [(AV.int IntKind.u64 (0)), (AV.int IntKind.u64 (0)), (AV.int IntKind.u64 (0)), (AV.int IntKind.i64 (0)), (AV.int IntKind.u64 (0)), (AV.int IntKind.u64 (0)), (AV.int IntKind.u32 (0)), (AV.int IntKind.u32 (0)), (AV.str (bytesOf { data := #[] })), AV.nilSlice])] [some (AObj.cells [(AV.osl (true) (1) (0) (0) (0) (1) (true)), (AV.bool (true))] true), some (AObj.tarr [Sh.int IntKind.u8] (0) (fun p_ q_ => AV.bad) true)]))
  (cond (Nat.ble (off + Int.toNat 8 + Int.toNat 8 + Int.toNat 8 + Int.toNat 1 + 24 + 2 + Int.toNat (val f (off + Int.toNat 8 + Int.toNat 8 + Int.toNat 8 + Int.toNat 1 + 24) 2) + Int.toNat 1) N)
  (cond (Nat.beq (Int.toNat (IntKind.wrap IntKind.i64 (val f (off + Int.toNat 8 + Int.toNat 8 + Int.toNat 8 + Int.toNat 1 + 24 + 2 + Int.toNat (val f (off + Int.toNat 8 + Int.toNat 8 + Int.toNat 8 + Int.toNat 1 + 24) 2)) (Int.toNat 1)))) 0)
  (some (CS.mk [(AV.agg [(AV.int IntKind.u64 ((val f (off) (8)))), (AV.int IntKind.u64 ((val f (off + Int.toNat 8) (8)))), (AV.int IntKind.u64 ((val f (off + Int.toNat 8 + Int.toNat 8) (8)))), (AV.int IntKind.i64 (IntKind.wrap IntKind.i64 (val f (off + Int.toNat 8 + Int.toNat 8 + Int.toNat 8) (Int.toNat 1)))), (AV.int IntKind.u64 ((val f (off + Int.toNat 8 + Int.toNat 8 + Int.toNat 8 + Int.toNat 1) (8)))), (AV.int IntKind.u64 ((val f (off + Int.toNat 8 + Int.toNat 8 + Int.toNat 8 + Int.toNat 1 + 8) (8)))), (AV.int IntKind.u32 (IntKind.wrap IntKind.u32 (val f (off + Int.toNat 8 + Int.toNat 8 + Int.toNat 8 + Int.toNat 1 + 16) 4))), (AV.int IntKind.u32 (IntKind.wrap IntKind.u32 (val f (off + Int.toNat 8 + Int.toNat 8 + Int.toNat 8 + Int.toNat 1 + 20) 4))), (AV.str ((strV f (off + Int.toNat 8 + Int.toNat 8 + Int.toNat 8 + Int.toNat 1 + 24 + 2) (Int.toNat (val f (off + Int.toNat 8 + Int.toNat 8 + Int.toNat 8 + Int.toNat 1 + 24) 2))))), AV.nilSlice])] [some (AObj.cells [(AV.osl (nl) (1) (off + Int.toNat 8 + Int.toNat 8 + Int.toNat 8 + Int.toNat 1 + 24 + 2 + Int.toNat (val f (off + Int.toNat 8 + Int.toNat 8 + Int.toNat 8 + Int.toNat 1 + 24) 2) + Int.toNat 1) (N - (off + Int.toNat 8 + Int.toNat 8 + Int.toNat 8 + Int.toNat 1 + 24 + 2 + Int.toNat (val f (off + Int.toNat 8 + Int.toNat 8 + Int.toNat 8 + Int.toNat 1 + 24) 2) + Int.toNat 1)) (N - (off + Int.toNat 8 + Int.toNat 8 + Int.toNat 8 + Int.toNat 1 + 24 + 2 + Int.toNat (val f (off + Int.toNat 8 + Int.toNat 8 + Int.toNat 8 + Int.toNat 1 + 24) 2) + Int.toNat 1)) (1) (true)), (AV.bool (false))] true), some (AObj.tarr [Sh.int IntKind.u8] (N) f false)]))
  (cond (Nat.blt N (off + Int.toNat 8 + Int.toNat 8 + Int.toNat 8 + Int.toNat 1 + 24 + 2 + Int.toNat (val f (off + Int.toNat 8 + Int.toNat 8 + Int.toNat 8 + Int.toNat 1 + 24) 2) + Int.toNat 1 + 24 * Int.toNat (IntKind.wrap IntKind.i64 (val f (off + Int.toNat 8 + Int.toNat 8 + Int.toNat 8 + Int.toNat 1 + 24 + 2 + Int.toNat (val f (off + Int.toNat 8 + Int.toNat 8 + Int.toNat 8 + Int.toNat 1 + 24) 2)) (Int.toNat 1)))))
  (some (CS.mk [(AV.agg [(AV.int IntKind.u64 (0)), (AV.int IntKind.u64 (0)), (AV.int IntKind.u64 (0)), (AV.int IntKind.i64 (0)), (AV.int IntKind.u64 (0)), (AV.int IntKind.u64 (0)), (AV.int IntKind.u32 (0)), (AV.int IntKind.u32 (0)), (AV.str (bytesOf { data := #[] })), AV.nilSlice])] [some (AObj.cells [(AV.osl (true) (1) (0) (0) (0) (1) (true)), (AV.bool (true))] true), some (AObj.tarr [Sh.int IntKind.u8] (0) (fun p_ q_ => AV.bad) true)]))
  (some (CS.mk [(AV.agg [(AV.int IntKind.u64 ((val f (off) (8)))), (AV.int IntKind.u64 ((val f (off + Int.toNat 8) (8)))), (AV.int IntKind.u64 ((val f (off + Int.toNat 8 + Int.toNat 8) (8)))), (AV.int IntKind.i64 (IntKind.wrap IntKind.i64 (val f (off + Int.toNat 8 + Int.toNat 8 + Int.toNat 8) (Int.toNat 1)))), (AV.int IntKind.u64 ((val f (off + Int.toNat 8 + Int.toNat 8 + Int.toNat 8 + Int.toNat 1) (8)))), (AV.int IntKind.u64 ((val f (off + Int.toNat 8 + Int.toNat 8 + Int.toNat 8 + Int.toNat 1 + 8) (8)))), (AV.int IntKind.u32 (IntKind.wrap IntKind.u32 (val f (off + Int.toNat 8 + Int.toNat 8 + Int.toNat 8 + Int.toNat 1 + 16) 4))), (AV.int IntKind.u32 (IntKind.wrap IntKind.u32 (val f (off + Int.toNat 8 + Int.toNat 8 + Int.toNat 8 + Int.toNat 1 + 20) 4))), (AV.str ((strV f (off + Int.toNat 8 + Int.toNat 8 + Int.toNat 8 + Int.toNat 1 + 24 + 2) (Int.toNat (val f (off + Int.toNat 8 + Int.toNat 8 + Int.toNat 8 + Int.toNat 1 + 24) 2))))), (AV.tsl (1) (0) (Int.toNat (IntKind.wrap IntKind.i64 (val f (off + Int.toNat 8 + Int.toNat 8 + Int.toNat 8 + Int.toNat 1 + 24 + 2 + Int.toNat (val f (off + Int.toNat 8 + Int.toNat 8 + Int.toNat 8 + Int.toNat 1 + 24) 2)) (Int.toNat 1)))) (Int.toNat (IntKind.wrap IntKind.i64 (val f (off + Int.toNat 8 + Int.toNat 8 + Int.toNat 8 + Int.toNat 1 + 24 + 2 + Int.toNat (val f (off + Int.toNat 8 + Int.toNat 8 + Int.toNat 8 + Int.toNat 1 + 24) 2)) (Int.toNat 1)))) (4) (true))])] [some (AObj.cells [(AV.osl (nl) (2) (off + Int.toNat 8 + Int.toNat 8 + Int.toNat 8 + Int.toNat 1 + 24 + 2 + Int.toNat (val f (off + Int.toNat 8 + Int.toNat 8 + Int.toNat 8 + Int.toNat 1 + 24) 2) + Int.toNat 1 + 24 * Int.toNat (IntKind.wrap IntKind.i64 (val f (off + Int.toNat 8 + Int.toNat 8 + Int.toNat 8 + Int.toNat 1 + 24 + 2 + Int.toNat (val f (off + Int.toNat 8 + Int.toNat 8 + Int.toNat 8 + Int.toNat 1 + 24) 2)) (Int.toNat 1)))) (N - (off + Int.toNat 8 + Int.toNat 8 + Int.toNat 8 + Int.toNat 1 + 24 + 2 + Int.toNat (val f (off + Int.toNat 8 + Int.toNat 8 + Int.toNat 8 + Int.toNat 1 + 24) 2) + Int.toNat 1 + 24 * Int.toNat (IntKind.wrap IntKind.i64 (val f (off + Int.toNat 8 + Int.toNat 8 + Int.toNat 8 + Int.toNat 1 + 24 + 2 + Int.toNat (val f (off + Int.toNat 8 + Int.toNat 8 + Int.toNat 8 + Int.toNat 1 + 24) 2)) (Int.toNat 1))))) (N - (off + Int.toNat 8 + Int.toNat 8 + Int.toNat 8 + Int.toNat 1 + 24 + 2 + Int.toNat (val f (off + Int.toNat 8 + Int.toNat 8 + Int.toNat 8 + Int.toNat 1 + 24) 2) + Int.toNat 1 + 24 * Int.toNat (IntKind.wrap IntKind.i64 (val f (off + Int.toNat 8 + Int.toNat 8 + Int.toNat 8 + Int.toNat 1 + 24 + 2 + Int.toNat (val f (off + Int.toNat 8 + Int.toNat 8 + Int.toNat 8 + Int.toNat 1 + 24) 2)) (Int.toNat 1))))) (1) (true)), (AV.bool (false))] true), some (AObj.tarr [Sh.int IntKind.u64, Sh.int IntKind.u64, Sh.int IntKind.u32, Sh.int IntKind.u32] (Int.toNat (IntKind.wrap IntKind.i64 (val f (off + Int.toNat 8 + Int.toNat 8 + Int.toNat 8 + Int.toNat 1 + 24 + 2 + Int.toNat (val f (off + Int.toNat 8 + Int.toNat 8 + Int.toNat 8 + Int.toNat 1 + 24) 2)) (Int.toNat 1)))) (lookF f (off + Int.toNat 8 + Int.toNat 8 + Int.toNat 8 + Int.toNat 1 + 24 + 2 + Int.toNat (val f (off + Int.toNat 8 + Int.toNat 8 + Int.toNat 8 + Int.toNat 1 + 24) 2) + Int.toNat 1)) true), some (AObj.tarr [Sh.int IntKind.u8] (N) f false)]))))
  none)))
  none))))
  none)
  none)))))
  none))
  none))
  none))
  none))
  none)
  none)
  none) := by
  rw [k14_is]
  try simp only [eq_self, decide_true, beq_self_eq_true, Nat.beq_refl, ble_self, Int.le_refl, Nat.le_refl]
  cases (okB f (N)) with
  | true =>
    cases (Nat.ble off N) with
    | true =>
      cases (Nat.ble N 1000000) with
      | true =>
        cases (Nat.blt N (off + Int.toNat 8)) with
        | true =>
          rfl
        | false =>
          cases (Nat.ble (off + Int.toNat 8) N) with
          | true =>
            cases (Nat.blt N (off + Int.toNat 8 + Int.toNat 8)) with
            | true =>
              rfl
            | false =>
              cases (Nat.ble (off + Int.toNat 8 + Int.toNat 8) N) with
              | true =>
                cases (Nat.blt N (off + Int.toNat 8 + Int.toNat 8 + Int.toNat 8)) with
                | true =>
                  rfl
                | false =>
                  cases (Nat.ble (off + Int.toNat 8 + Int.toNat 8 + Int.toNat 8) N) with
                  | true =>
                    cases (Nat.blt N (off + Int.toNat 8 + Int.toNat 8 + Int.toNat 8 + Int.toNat 1)) with
                    | true =>
                      rfl
                    | false =>
                      cases (Nat.ble (off + Int.toNat 8 + Int.toNat 8 + Int.toNat 8 + Int.toNat 1) N) with
                      | true =>
                        cases (Nat.blt N (off + Int.toNat 8 + Int.toNat 8 + Int.toNat 8 + Int.toNat 1 + 8)) with
                        | true =>
                          rfl
                        | false =>
                          cases (Nat.blt N (off + Int.toNat 8 + Int.toNat 8 + Int.toNat 8 + Int.toNat 1 + 16)) with
                          | true =>
                            rfl
                          | false =>
                            cases (Nat.blt N (off + Int.toNat 8 + Int.toNat 8 + Int.toNat 8 + Int.toNat 1 + 20)) with
                            | true =>
                              rfl
                            | false =>
                              cases (Nat.blt N (off + Int.toNat 8 + Int.toNat 8 + Int.toNat 8 + Int.toNat 1 + 24)) with
                              | true =>
                                rfl
                              | false =>
                                cases (Nat.ble (off + Int.toNat 8 + Int.toNat 8 + Int.toNat 8 + Int.toNat 1 + 24) N) with
                                | true =>
                                  cases (bif nl then Nat.beq N 0 else true) with
                                  | true =>
                                    cases (Nat.blt N (off + Int.toNat 8 + Int.toNat 8 + Int.toNat 8 + Int.toNat 1 + 24 + 2)) with
                                    | true =>
                                      rfl
                                    | false =>
                                      cases (decide (val f (off + Int.toNat 8 + Int.toNat 8 + Int.toNat 8 + Int.toNat 1 + 24) 2 > 16384)) with
                                      | true =>
                                        rfl
                                      | false =>
                                        cases (Nat.blt N (off + Int.toNat 8 + Int.toNat 8 + Int.toNat 8 + Int.toNat 1 + 24 + 2 + Int.toNat (val f (off + Int.toNat 8 + Int.toNat 8 + Int.toNat 8 + Int.toNat 1 + 24) 2))) with
                                        | true =>
                                          rfl
                                        | false =>
                                          cases (Nat.ble (off + Int.toNat 8 + Int.toNat 8 + Int.toNat 8 + Int.toNat 1 + 24 + 2 + Int.toNat (val f (off + Int.toNat 8 + Int.toNat 8 + Int.toNat 8 + Int.toNat 1 + 24) 2)) N) with
                                          | true =>
                                            cases (Nat.blt N (off + Int.toNat 8 + Int.toNat 8 + Int.toNat 8 + Int.toNat 1 + 24 + 2 + Int.toNat (val f (off + Int.toNat 8 + Int.toNat 8 + Int.toNat 8 + Int.toNat 1 + 24) 2) + Int.toNat 1)) with
                                            | true =>
                                              rfl
                                            | false =>
                                              cases (decide (IntKind.wrap IntKind.i64 (val f (off + Int.toNat 8 + Int.toNat 8 + Int.toNat 8 + Int.toNat 1 + 24 + 2 + Int.toNat (val f (off + Int.toNat 8 + Int.toNat 8 + Int.toNat 8 + Int.toNat 1 + 24) 2)) (Int.toNat 1)) > 64)) with
                                              | true =>
                                                rfl
                                              | false =>
                                                cases (Nat.ble (off + Int.toNat 8 + Int.toNat 8 + Int.toNat 8 + Int.toNat 1 + 24 + 2 + Int.toNat (val f (off + Int.toNat 8 + Int.toNat 8 + Int.toNat 8 + Int.toNat 1 + 24) 2) + Int.toNat 1) N) with
                                                | true =>
                                                  cases (Nat.beq (Int.toNat (IntKind.wrap IntKind.i64 (val f (off + Int.toNat 8 + Int.toNat 8 + Int.toNat 8 + Int.toNat 1 + 24 + 2 + Int.toNat (val f (off + Int.toNat 8 + Int.toNat 8 + Int.toNat 8 + Int.toNat 1 + 24) 2)) (Int.toNat 1)))) 0) with
                                                  | true =>
                                                    rfl
                                                  | false =>
                                                    cases (Nat.blt N (off + Int.toNat 8 + Int.toNat 8 + Int.toNat 8 + Int.toNat 1 + 24 + 2 + Int.toNat (val f (off + Int.toNat 8 + Int.toNat 8 + Int.toNat 8 + Int.toNat 1 + 24) 2) + Int.toNat 1 + 24 * Int.toNat (IntKind.wrap IntKind.i64 (val f (off + Int.toNat 8 + Int.toNat 8 + Int.toNat 8 + Int.toNat 1 + 24 + 2 + Int.toNat (val f (off + Int.toNat 8 + Int.toNat 8 + Int.toNat 8 + Int.toNat 1 + 24) 2)) (Int.toNat 1))))) with
                                                    | true =>
                                                      rfl
                                                    | false =>
                                                      rfl
                                                | false =>
                                                  rfl
                                          | false =>
                                            rfl
                                  | false =>
                                    rfl
                                | false =>
                                  rfl
                      | false =>
                        rfl
                  | false =>
                    rfl
              | false =>
                rfl
          | false =>
            rfl
      | false =>
        rfl
    | false =>
      rfl
  | false =>
    rfl

end Go.Proofs.Ytjbjjikdihghmaa.entry
