/- Bytes, written: loops and functions by canonical states: what the machine reckons. -/
import Derived.Test.YtjbjjikdihghmaaRows
import Derived.Test.YtjbjjikdihghmaaBmVj
import Derived.KernelRfl
set_option linter.unusedSimpArgs false
set_option linter.unusedVariables false
set_option maxRecDepth 20000
namespace Go.Proofs.Ytjbjjikdihghmaa.entry
open Go Go.Proofs.Ytjbjjikdihghmaa.Bm
noncomputable def E0 : Env := mkEnv Try.prog 94 67
noncomputable def E1 : Env := { E0 with tyd := fun t => Nat.beq t 57 || Nat.beq t 5, bits := bitsR }
abbrev shB : List Sh := [.int .u8]
abbrev shU : List Sh := [.int .u64]
/-- A number's byte. -/
def byt (x : Int) (i : Nat) : Int := (x / 256 ^ i) % 256
/-- Its bytes; those of all numbers of an array. -/
def oneB (x : Int) (a _ : Nat) : AV := .int .u8 (byt x a)
def allB (w : Nat) (g : Nat → Nat → AV) (a _ : Nat) : AV := .int .u8 (byt (g (a / w) 0).toI (a % w))
theorem u64E : ∃ q : Int → Bool, q = fun x => decide (0 ≤ x) && decide (x < 18446744073709551616) := ⟨_, rfl⟩
/-- Is a number in range (not unfolded by the kernel). -/
noncomputable def u64B : Int → Bool := Classical.choose u64E
theorem u64B_eq (x : Int) : u64B x = (decide (0 ≤ x) && decide (x < 18446744073709551616)) := by
  rw [show u64B = _ from Classical.choose_spec u64E]
/-- Are all of them in range. -/
noncomputable def allU (g : Nat → Nat → AV) (m : Nat) : Bool := okFrom (fun i => u64B (g i 0).toI) 0 m
def h21b : Pat := ⟨42, [(1, .keep), (7, .asl shB), (9, .keep), (21, .asl shU), (22, .keep), (23, .keep), (27, .keep), (28, .keep)], []⟩
def x21b : List (Ex × Pat) := [(.exit 2, ⟨42, [(1, .keep), (7, .asl shB), (21, .asl shU), (22, .keep), (23, .keep)], []⟩)]
def h21a : Pat := ⟨42, [(1, .keep), (7, .asl shB), (21, .asl shU), (22, .keep), (23, .keep)], []⟩
def x21a : List (Ex × Pat) := [(.exit 0, ⟨42, [(7, .asl shB)], []⟩)]
def h27 : Pat := ⟨33, [(1, .keep), (2, .keep), (7, .asl shB), (8, .keep)], []⟩
def x27 : List (Ex × Pat) := [(.exit 0, ⟨33, [(7, .asl shB)], []⟩)]
def h25 : Pat := ⟨25, [(1, .keep), (2, .asl shU), (7, .asl shB), (8, .keep)], []⟩
def x25 : List (Ex × Pat) := [(.exit 0, ⟨25, [(7, .asl shB)], []⟩)]
def c21b (w : Int) (n : Nat) (f : Nat → Nat → AV) (x : Int) (m : Nat) (g : Nat → Nat → AV) (j : Int) (i : Nat) : CS :=
  ⟨[.int .i64 w, .osl false 0 0 n n 1 true, .int .u64 x, .osl false 1 0 m m 1 true, .int .i64 (m : Nat), .int .i64 j, .int .i64 w, .int .i64 (i : Nat)], [some (.tarr shB n f true), some (.tarr shU m g true)]⟩
def c21a (w : Int) (n : Nat) (f : Nat → Nat → AV) (m : Nat) (g : Nat → Nat → AV) (j : Nat) : CS :=
  ⟨[.int .i64 w, .osl false 0 0 n n 1 true, .osl false 1 0 m m 1 true, .int .i64 (m : Nat), .int .i64 (j : Nat)], [some (.tarr shB n f true), some (.tarr shU m g true)]⟩
def c27 (w : Int) (x : Int) (nl : Bool) (n : Nat) (f : Nat → Nat → AV) (i : Nat) : CS :=
  ⟨[.int .i64 w, .int .u64 x, .osl nl 0 0 n n 1 true, .int .i64 (i : Nat)], [some (.tarr shB n f true)]⟩
def c25 (w : Int) (m : Nat) (g : Nat → Nat → AV) (nl : Bool) (n : Nat) (f : Nat → Nat → AV) (j : Nat) : CS :=
  ⟨[.int .i64 w, .osl false 0 0 m m 1 true, .osl nl 1 0 n n 1 true, .int .i64 (j : Nat)], [some (.tarr shU m g true), some (.tarr shB n f true)]⟩
def a21 (nl : Bool) (n : Nat) (f : Nat → Nat → AV) (w : Int) (m : Nat) (g : Nat → Nat → AV) : CS :=
  ⟨[.osl nl 0 0 n n 1 true, .int .i64 w, .osl false 1 0 m m 1 true], [some (.tarr shB n f true), some (.tarr shU m g true)]⟩
def a27 (nl : Bool) (n : Nat) (f : Nat → Nat → AV) (w : Int) (x : Int) : CS :=
  ⟨[.osl nl 0 0 n n 1 true, .int .i64 w, .int .u64 x], [some (.tarr shB n f true)]⟩
def c25t (w : Int) (m : Nat) (g : Nat → Nat → AV) (j : Nat) : CS :=
  ⟨[.int .i64 w, .osl false 0 0 m m 1 true, .nilSlice, .int .i64 (j : Nat)], [some (.tarr shU m g true), none]⟩
def a21t (w : Int) (m : Nat) (g : Nat → Nat → AV) : CS :=
  ⟨[.nilSlice, .int .i64 w, .osl false 1 0 m m 1 true], [none, some (.tarr shU m g true)]⟩
noncomputable def r21bB  (w : Int) (n : Nat) (f : Nat → Nat → AV) (x : Int) (m : Nat) (g : Nat → Nat → AV) (j : Int) : T (Nat × CS) :=
  chkT [!(decide (w < 1)), !(decide (w > 8)), Nat.ble (n + 8) 1000000] (.ret (1, ⟨[.int .i64 w, .osl false 0 0 (n + w.toNat) (n + w.toNat) 1 true, .osl false 1 0 m m 1 true, .int .i64 (m : Nat), .int .i64 j], [some (.tarr shB (n + w.toNat) (fjoin f n (oneB x)) true), some (.tarr shU m g true)]⟩))
noncomputable def r21b  (c : CS) : T (Nat × CS) := match c with
  | ⟨[.int .i64 w, .osl z_1 0 0 n z_2 1 true, .int .u64 x, .osl z_3 1 0 m z_4 1 true, .int .i64 z_5, .int .i64 j, .int .i64 z_6, .int .i64 z_7], [some (.tarr sh_8 z_9 f true), some (.tarr sh_10 z_11 g true)]⟩ => chkT [decide (false = z_1), decide (n = z_2), decide (false = z_3), decide (m = z_4), decide ((m : Nat) = z_5), decide (w = z_6), decide (0 = z_7), shBeq sh_8 shB, decide (n = z_9), shBeq sh_10 shU, decide (m = z_11)] (r21bB  w n f x m g j)
  | _ => .fail
noncomputable def r21aB  (w : Int) (n : Nat) (f : Nat → Nat → AV) (m : Nat) (g : Nat → Nat → AV) : T (Nat × CS) :=
  chkT [!(decide (w < 1)), !(decide (w > 8)), Nat.ble (n + 8 * m) 1000000] (.ret (1, ⟨[.osl false 0 0 (n + w.toNat * m) (n + w.toNat * m) 1 true], [some (.tarr shB (n + w.toNat * m) (fjoin f n (allB w.toNat g)) true)]⟩))
noncomputable def r21a  (c : CS) : T (Nat × CS) := match c with
  | ⟨[.int .i64 w, .osl z_1 0 0 n z_2 1 true, .osl z_3 1 0 m z_4 1 true, .int .i64 z_5, .int .i64 z_6], [some (.tarr sh_7 z_8 f true), some (.tarr sh_9 z_10 g true)]⟩ => chkT [decide (false = z_1), decide (n = z_2), decide (false = z_3), decide (m = z_4), decide ((m : Nat) = z_5), decide (0 = z_6), shBeq sh_7 shB, decide (n = z_8), shBeq sh_9 shU, decide (m = z_10)] (r21aB  w n f m g)
  | _ => .fail
noncomputable def r27B  (w : Int) (x : Int) (nl : Bool) (n : Nat) (f : Nat → Nat → AV) : T (Nat × CS) :=
  chkT [!(decide (w < 1)), !(decide (w > 8)), u64B x, cond nl (Nat.beq n 0) true, Nat.ble (n + 8) 1000000] (.ret (1, ⟨[.osl false 0 0 (n + w.toNat) (n + w.toNat) 1 true], [some (.tarr shB (n + w.toNat) (fjoin f n (oneB x)) true)]⟩))
noncomputable def r27  (c : CS) : T (Nat × CS) := match c with
  | ⟨[.int .i64 w, .int .u64 x, .osl nl 0 0 n z_1 1 true, .int .i64 z_2], [some (.tarr sh_3 z_4 f true)]⟩ => chkT [decide (n = z_1), decide (0 = z_2), shBeq sh_3 shB, decide (n = z_4)] (r27B  w x nl n f)
  | _ => .fail
noncomputable def f21B  (nl : Bool) (n : Nat) (f : Nat → Nat → AV) (w : Int) (m : Nat) (g : Nat → Nat → AV) : T (CS) :=
  chkT [!(decide (w < 1)), !(decide (w > 8)), cond nl (Nat.beq n 0) true, Nat.ble (n + 8 * m) 1000000] (.ret ⟨[.osl false 0 0 (n + w.toNat * m) (n + w.toNat * m) 1 true], [some (.tarr shB (n + w.toNat * m) (fjoin f n (allB w.toNat g)) true)]⟩)
noncomputable def f21  (c : CS) : T (CS) := match c with
  | ⟨[.osl nl 0 0 n z_1 1 true, .int .i64 w, .osl z_2 1 0 m z_3 1 true], [some (.tarr sh_4 z_5 f true), some (.tarr sh_6 z_7 g true)]⟩ => chkT [decide (n = z_1), decide (false = z_2), decide (m = z_3), shBeq sh_4 shB, decide (n = z_5), shBeq sh_6 shU, decide (m = z_7)] (f21B  nl n f w m g)
  | _ => .fail
noncomputable def E2 : Env := addL E1 21 2 1000000 h21b x21b 0 r21b
noncomputable def E3 : Env := addL E2 21 0 1000001 h21a x21a 0 r21a
noncomputable def E4 : Env := addL E3 27 0 1000002 h27 x27 0 r27
noncomputable def f27B  (nl : Bool) (n : Nat) (f : Nat → Nat → AV) (w : Int) (x : Int) : T (CS) :=
  chkT [cond nl (Nat.beq n 0) true, Nat.ble (n + 8) 1000000] (.ask (decide (w < 1)) (.ask (Nat.beq n 0) (.ret ⟨[.osl true 0 0 0 0 1 true], [some (.tarr shB 0 (fun _ _ => .bad) true)]⟩) (.ret ⟨[.osl false 0 0 (n) (n) 1 true], [some (.tarr shB (n) (f) true)]⟩)) (chkT [!(decide (w > 8)), u64B x] (.ret ⟨[.osl false 0 0 (n + w.toNat) (n + w.toNat) 1 true], [some (.tarr shB (n + w.toNat) (fjoin f n (oneB x)) true)]⟩)))
noncomputable def f27  (c : CS) : T (CS) := match c with
  | ⟨[.osl nl 0 0 n z_1 1 true, .int .i64 w, .int .u64 x], [some (.tarr sh_2 z_3 f true)]⟩ => chkT [decide (n = z_1), shBeq sh_2 shB, decide (n = z_3)] (f27B  nl n f w x)
  | _ => .fail
noncomputable def r25B  (w : Int) (m : Nat) (g : Nat → Nat → AV) (nl : Bool) (n : Nat) (f : Nat → Nat → AV) : T (Nat × CS) :=
  chkT [!(decide (w < 1)), !(decide (w > 8)), Nat.blt 0 m, allU g m, cond nl (Nat.beq n 0) true, Nat.ble (n + 8 * m) 1000000] (.ret (1, ⟨[.osl false 0 0 (n + w.toNat * m) (n + w.toNat * m) 1 true], [some (.tarr shB (n + w.toNat * m) (fjoin f n (allB w.toNat g)) true)]⟩))
noncomputable def r25  (c : CS) : T (Nat × CS) := match c with
  | ⟨[.int .i64 w, .osl z_1 0 0 m z_2 1 true, .osl nl 1 0 n z_3 1 true, .int .i64 z_4], [some (.tarr sh_5 z_6 g true), some (.tarr sh_7 z_8 f true)]⟩ => chkT [decide (false = z_1), decide (m = z_2), decide (n = z_3), decide (0 = z_4), shBeq sh_5 shU, decide (m = z_6), shBeq sh_7 shB, decide (n = z_8)] (r25B  w m g nl n f)
  | _ => .fail
noncomputable def f25B  (nl : Bool) (n : Nat) (f : Nat → Nat → AV) (w : Int) (m : Nat) (g : Nat → Nat → AV) : T (CS) :=
  chkT [!(decide (w < 1)), !(decide (w > 8)), Nat.blt 0 m, allU g m, cond nl (Nat.beq n 0) true, Nat.ble (n + 8 * m) 1000000] (.ret ⟨[.osl false 0 0 (n + w.toNat * m) (n + w.toNat * m) 1 true], [some (.tarr shB (n + w.toNat * m) (fjoin f n (allB w.toNat g)) true)]⟩)
noncomputable def f25  (c : CS) : T (CS) := match c with
  | ⟨[.osl nl 0 0 n z_1 1 true, .int .i64 w, .osl z_2 1 0 m z_3 1 true], [some (.tarr sh_4 z_5 f true), some (.tarr sh_6 z_7 g true)]⟩ => chkT [decide (n = z_1), decide (false = z_2), decide (m = z_3), shBeq sh_4 shB, decide (n = z_5), shBeq sh_6 shU, decide (m = z_7)] (f25B  nl n f w m g)
  | _ => .fail
noncomputable def E5 : Env := addF (addF E4 21 ⟨fiRun [.asl shB, .keep, .asl shU] [] 0 f21⟩) 27 ⟨fiRun [.asl shB, .keep, .keep] [] 0 f27⟩
noncomputable def E6 : Env := addL E5 25 0 1000003 h25 x25 0 r25
noncomputable def E7 : Env := addF E6 25 ⟨fiRun [.asl shB, .keep, .asl shU] [] 0 f25⟩
noncomputable def s21b (w : Int) (n : Nat) (f : Nat → Nat → AV) (x : Int) (m : Nat) (g : Nat → Nat → AV) (j : Int) (i : Nat) (π : Plan) : Option (Nat × CS) := stepC (E1) (300) (loopC E1 21 2) (0) (h21b) ((.normal, h21b) :: x21b) π (c21b w n f x m g j i)
def s21b_p : Plan := (.fork (.fork (.reck 1 (.must false (.fork (.must true .stop) .stop))) .stop) .stop)
theorem s21b_is (w : Int) (n : Nat) (f : Nat → Nat → AV) (x : Int) (m : Nat) (g : Nat → Nat → AV) (j : Int) (i : Nat) : s21b w n f x m g j i s21b_p = (cond (decide ((↑i : Int) < w))
  (cond (!decide (IntKind.wrap IntKind.i64 (8 * (↑i : Int)) < 0))
  (cond (Nat.ble ((n) + (1)) (n)) none (cond (growB (1) (n + 1))
  (cond (Nat.ble (0 + n) n) (some (0, (CS.mk [(AV.int IntKind.i64 (w)), (AV.osl (false) (0) (0) (n + 1) (n + 1) (1) (true)), (AV.int IntKind.u64 (x)), (AV.osl (false) (1) (0) (m) (m) (1) (true)), (AV.int IntKind.i64 ((↑m : Int))), (AV.int IntKind.i64 (j)), (AV.int IntKind.i64 (w)), (AV.int IntKind.i64 (IntKind.wrap IntKind.i64 ((↑i : Int) + 1)))] [some (AObj.tarr [Sh.int IntKind.u8] (n + 1) (fjoin (fun p_ q_ => f (0 + p_) q_) (n) (rowsOf (1) [(AV.int IntKind.u8 (IntKind.wrap IntKind.u8 (Int.fdiv x (2 ^ min (Int.toNat (IntKind.wrap IntKind.i64 (8 * (↑i : Int)))) (IntKind.bits IntKind.u64)))))] (1))) true), some (AObj.tarr [Sh.int IntKind.u64] (m) g true)]))) none)
  none))
  none)
  (some (1, (CS.mk [(AV.int IntKind.i64 (w)), (AV.osl (false) (0) (0) (n) (n) (1) (true)), (AV.osl (false) (1) (0) (m) (m) (1) (true)), (AV.int IntKind.i64 ((↑m : Int))), (AV.int IntKind.i64 (j))] [some (AObj.tarr [Sh.int IntKind.u8] (n) f true), some (AObj.tarr [Sh.int IntKind.u64] (m) g true)])))) := by kernel_rfl
theorem s21b_eq (w : Int) (n : Nat) (f : Nat → Nat → AV) (x : Int) (m : Nat) (g : Nat → Nat → AV) (j : Int) (i : Nat) (hy0 : (Nat.ble (0 + n) n) = true) : s21b w n f x m g j i s21b_p = (cond (decide ((↑i : Int) < w))
  (cond (decide (IntKind.wrap IntKind.i64 (8 * (↑i : Int)) < 0))
  none
  (cond (Nat.ble ((n) + (1)) (n)) none (cond (growB (1) (n + 1))
  (some (0, (CS.mk [(AV.int IntKind.i64 (w)), (AV.osl (false) (0) (0) (n + 1) (n + 1) (1) (true)), (AV.int IntKind.u64 (x)), (AV.osl (false) (1) (0) (m) (m) (1) (true)), (AV.int IntKind.i64 ((↑m : Int))), (AV.int IntKind.i64 (j)), (AV.int IntKind.i64 (w)), (AV.int IntKind.i64 (IntKind.wrap IntKind.i64 ((↑i : Int) + 1)))] [some (AObj.tarr [Sh.int IntKind.u8] (n + 1) (fjoin (fun p_ q_ => f (0 + p_) q_) (n) (rowsOf (1) [(AV.int IntKind.u8 (IntKind.wrap IntKind.u8 (Int.fdiv x (2 ^ min (Int.toNat (IntKind.wrap IntKind.i64 (8 * (↑i : Int)))) (IntKind.bits IntKind.u64)))))] (1))) true), some (AObj.tarr [Sh.int IntKind.u64] (m) g true)])))
  none)))
  (some (1, (CS.mk [(AV.int IntKind.i64 (w)), (AV.osl (false) (0) (0) (n) (n) (1) (true)), (AV.osl (false) (1) (0) (m) (m) (1) (true)), (AV.int IntKind.i64 ((↑m : Int))), (AV.int IntKind.i64 (j))] [some (AObj.tarr [Sh.int IntKind.u8] (n) f true), some (AObj.tarr [Sh.int IntKind.u64] (m) g true)])))) := by
  rw [s21b_is]
  try simp only [hy0, eq_self, decide_true, beq_self_eq_true, Nat.beq_refl, ble_self, Int.le_refl, Nat.le_refl]
  cases (decide ((↑i : Int) < w)) with
  | true =>
    cases (decide (IntKind.wrap IntKind.i64 (8 * (↑i : Int)) < 0)) with
    | true =>
      rfl
    | false =>
      cases (growB (1) (n + 1)) with
      | true =>
        rfl
      | false =>
        rfl
  | false =>
    rfl

noncomputable def s21a (w : Int) (n : Nat) (f : Nat → Nat → AV) (m : Nat) (g : Nat → Nat → AV) (j : Nat) (π : Plan) : Option (Nat × CS) := stepC (E2) (300) (loopC E2 21 0) (0) (h21a) ((.normal, h21a) :: x21a) π (c21a w n f m g j)
def s21a_p : Plan := (.fork (.reck 1 (.must true (.fork (.reck 1 (.must true (.reck 1 (.must true (.must true (.must true (.reck 2 (.must true (.reck 1 (.must true (.fork (.fork (.fork .stop .stop) .stop) .stop))))))))))) .stop))) .stop)
theorem s21a_is (w : Int) (n : Nat) (f : Nat → Nat → AV) (m : Nat) (g : Nat → Nat → AV) (j : Nat) : s21a w n f m g j s21a_p = (cond (decide ((↑j : Int) < (↑m : Int)))
  (cond (decide ((↑j : Int) < (↑m : Int))) (cond (Nat.blt (0 + Int.toNat (↑j : Int)) m)
  (cond (decide (n = n)) (cond (decide (m = m)) (cond (decide ((↑m : Int) = (↑m : Int))) (cond (decide (w = w)) (cond (decide (n = n)) (cond (decide (m = m)) (cond (!decide (w < 1))
  (cond (!decide (w > 8))
  (cond (Nat.ble (n + 8) 1000000)
  (some (0, (CS.mk [(AV.int IntKind.i64 (w)), (AV.osl (false) (0) (0) (n + Int.toNat w) (n + Int.toNat w) (1) (true)), (AV.osl (false) (1) (0) (m) (m) (1) (true)), (AV.int IntKind.i64 ((↑m : Int))), (AV.int IntKind.i64 (IntKind.wrap IntKind.i64 ((↑j : Int) + 1)))] [some (AObj.tarr [Sh.int IntKind.u8] (n + Int.toNat w) (fjoin f (n) (oneB (AV.toI (g (0 + Int.toNat (↑j : Int)) 0)))) true), some (AObj.tarr [Sh.int IntKind.u64] (m) g true)])))
  none)
  none)
  none) none) none) none) none) none) none)
  none) none)
  (some (1, (CS.mk [(AV.osl (false) (0) (0) (n) (n) (1) (true))] [some (AObj.tarr [Sh.int IntKind.u8] (n) f true)])))) := by kernel_rfl
theorem s21a_eq (w : Int) (n : Nat) (f : Nat → Nat → AV) (m : Nat) (g : Nat → Nat → AV) (j : Nat) : s21a w n f m g j s21a_p = (cond (decide ((↑j : Int) < (↑m : Int)))
  (cond (Nat.blt (0 + Int.toNat (↑j : Int)) m)
  (cond (decide (w < 1))
  none
  (cond (decide (w > 8))
  none
  (cond (Nat.ble (n + 8) 1000000)
  (some (0, (CS.mk [(AV.int IntKind.i64 (w)), (AV.osl (false) (0) (0) (n + Int.toNat w) (n + Int.toNat w) (1) (true)), (AV.osl (false) (1) (0) (m) (m) (1) (true)), (AV.int IntKind.i64 ((↑m : Int))), (AV.int IntKind.i64 (IntKind.wrap IntKind.i64 ((↑j : Int) + 1)))] [some (AObj.tarr [Sh.int IntKind.u8] (n + Int.toNat w) (fjoin f (n) (oneB (AV.toI (g (0 + Int.toNat (↑j : Int)) 0)))) true), some (AObj.tarr [Sh.int IntKind.u64] (m) g true)])))
  none)))
  none)
  (some (1, (CS.mk [(AV.osl (false) (0) (0) (n) (n) (1) (true))] [some (AObj.tarr [Sh.int IntKind.u8] (n) f true)])))) := by
  rw [s21a_is]
  try simp only [eq_self, decide_true, beq_self_eq_true, Nat.beq_refl, ble_self, Int.le_refl, Nat.le_refl]
  cases (decide ((↑j : Int) < (↑m : Int))) with
  | true =>
    cases (Nat.blt (0 + Int.toNat (↑j : Int)) m) with
    | true =>
      cases (decide (w < 1)) with
      | true =>
        rfl
      | false =>
        cases (decide (w > 8)) with
        | true =>
          rfl
        | false =>
          cases (Nat.ble (n + 8) 1000000) with
          | true =>
            rfl
          | false =>
            rfl
    | false =>
      rfl
  | false =>
    rfl

noncomputable def s27 (w : Int) (x : Int) (nl : Bool) (n : Nat) (f : Nat → Nat → AV) (i : Nat) (π : Plan) : Option (Nat × CS) := stepC (E3) (300) (loopC E3 27 0) (0) (h27) ((.normal, h27) :: x27) π (c27 w x nl n f i)
def s27_p : Plan := (.fork (.reck 1 (.fork .stop (.must false (.fork (.must true .stop) .stop)))) .stop)
theorem s27_is (w : Int) (x : Int) (nl : Bool) (n : Nat) (f : Nat → Nat → AV) (i : Nat) : s27 w x nl n f i s27_p = (cond (decide ((↑i : Int) < w))
  (cond (nl)
  (some (0, (CS.mk [(AV.int IntKind.i64 (w)), (AV.int IntKind.u64 (IntKind.wrap IntKind.u64 (Int.tdiv x 256))), (AV.osl (false) (0) (0) (1) (1) (1) (true)), (AV.int IntKind.i64 (IntKind.wrap IntKind.i64 ((↑i : Int) + 1)))] [some (AObj.tarr [Sh.int IntKind.u8] (1) (rowsOf (1) [(AV.int IntKind.u8 (IntKind.wrap IntKind.u8 (Int.tmod x 256)))] (1)) true)])))
  (cond (Nat.ble ((n) + (1)) (n)) none (cond (growB (1) (n + 1))
  (cond (Nat.ble (0 + n) n) (some (0, (CS.mk [(AV.int IntKind.i64 (w)), (AV.int IntKind.u64 (IntKind.wrap IntKind.u64 (Int.tdiv x 256))), (AV.osl (false) (0) (0) (n + 1) (n + 1) (1) (true)), (AV.int IntKind.i64 (IntKind.wrap IntKind.i64 ((↑i : Int) + 1)))] [some (AObj.tarr [Sh.int IntKind.u8] (n + 1) (fjoin (fun p_ q_ => f (0 + p_) q_) (n) (rowsOf (1) [(AV.int IntKind.u8 (IntKind.wrap IntKind.u8 (Int.tmod x 256)))] (1))) true)]))) none)
  none)))
  (some (1, (CS.mk [(AV.osl (nl) (0) (0) (n) (n) (1) (true))] [some (AObj.tarr [Sh.int IntKind.u8] (n) f true)])))) := by kernel_rfl
theorem s27_eq (w : Int) (x : Int) (nl : Bool) (n : Nat) (f : Nat → Nat → AV) (i : Nat) (hy0 : (Nat.ble (0 + n) n) = true) : s27 w x nl n f i s27_p = (cond (decide ((↑i : Int) < w))
  (cond (nl)
  (some (0, (CS.mk [(AV.int IntKind.i64 (w)), (AV.int IntKind.u64 (IntKind.wrap IntKind.u64 (Int.tdiv x 256))), (AV.osl (false) (0) (0) (1) (1) (1) (true)), (AV.int IntKind.i64 (IntKind.wrap IntKind.i64 ((↑i : Int) + 1)))] [some (AObj.tarr [Sh.int IntKind.u8] (1) (rowsOf (1) [(AV.int IntKind.u8 (IntKind.wrap IntKind.u8 (Int.tmod x 256)))] (1)) true)])))
  (cond (Nat.ble ((n) + (1)) (n)) none (cond (growB (1) (n + 1))
  (some (0, (CS.mk [(AV.int IntKind.i64 (w)), (AV.int IntKind.u64 (IntKind.wrap IntKind.u64 (Int.tdiv x 256))), (AV.osl (false) (0) (0) (n + 1) (n + 1) (1) (true)), (AV.int IntKind.i64 (IntKind.wrap IntKind.i64 ((↑i : Int) + 1)))] [some (AObj.tarr [Sh.int IntKind.u8] (n + 1) (fjoin (fun p_ q_ => f (0 + p_) q_) (n) (rowsOf (1) [(AV.int IntKind.u8 (IntKind.wrap IntKind.u8 (Int.tmod x 256)))] (1))) true)])))
  none)))
  (some (1, (CS.mk [(AV.osl (nl) (0) (0) (n) (n) (1) (true))] [some (AObj.tarr [Sh.int IntKind.u8] (n) f true)])))) := by
  rw [s27_is]
  try simp only [hy0, eq_self, decide_true, beq_self_eq_true, Nat.beq_refl, ble_self, Int.le_refl, Nat.le_refl]
  cases (decide ((↑i : Int) < w)) with
  | true =>
    cases (nl) with
    | true =>
      rfl
    | false =>
      cases (growB (1) (n + 1)) with
      | true =>
        rfl
      | false =>
        rfl
  | false =>
    rfl

noncomputable def k21 (nl : Bool) (n : Nat) (f : Nat → Nat → AV) (w : Int) (m : Nat) (g : Nat → Nat → AV) (π : Plan) : Option CS := callC (E4) (1000) (21) (0) (.asl shB) ([]) π (a21 nl n f w m g)
def k21_p : Plan := (.fork (.reck 1 (.fork (.must true (.must false (.fork .stop (.reck 3 (.must true (.must true (.reck 4 (.must true (.must true (.must true (.fork .stop .stop))))))))))) (.must false (.must true .stop)))) (.fork (.fork (.fork (.must true (.must false (.fork .stop (.reck 3 (.must true (.must true (.reck 4 (.must true (.must true (.must true (.fork .stop .stop))))))))))) (.must false (.must true .stop))) .stop) (.fork (.fork (.fork (.must true (.must false (.fork .stop (.reck 1 (.must true (.reck 1 (.must true (.must true (.reck 2 (.must true (.reck 1 (.must true (.must true (.must true (.fork .stop .stop))))))))))))))) (.must false (.must true .stop))) .stop) .stop)))
theorem k21_is (nl : Bool) (n : Nat) (f : Nat → Nat → AV) (w : Int) (m : Nat) (g : Nat → Nat → AV) : k21 nl n f w m g k21_p = (cond (nl)
  (cond (decide (w < 1) == false)
  (cond (decide (w < 1) == false) (cond (decide (w < 1)) none (cond (decide (w > 8))
  (some (CS.mk [(AV.osl (false) (0) (0) (0) (0) (1) (true))] [some (AObj.tarr [Sh.int IntKind.u8] (0) (rowsOf (1) [] (0)) true)]))
  (cond (decide (m = m)) (cond (decide ((↑m : Int) = (↑m : Int))) (cond (decide (m = m)) (cond (!decide (w < 1)) (cond (!decide (w > 8)) (cond (Nat.ble (0 + 0 + 8 * m) 1000000)
  (some (CS.mk [(AV.osl (false) (0) (0) (0 + 0 + Int.toNat w * m) (0 + 0 + Int.toNat w * m) (1) (true))] [some (AObj.tarr [Sh.int IntKind.u8] (0 + 0 + Int.toNat w * m) (fjoin (rowsOf (1) [] (0)) (0) (allB (Int.toNat w) g)) true)]))
  none) none) none) none) none) none))) none)
  (cond (decide (w < 1) == false) none (cond (decide (w < 1)) (some (CS.mk [(AV.osl (false) (0) (0) (0) (0) (1) (true))] [some (AObj.tarr [Sh.int IntKind.u8] (0) (rowsOf (1) [] (0)) true)])) none)))
  (cond (Nat.ble ((0) + (n)) (0))
  (cond (Nat.ble (0 + n) n)
  (cond (decide (w < 1) == false)
  (cond (decide (w < 1) == false) (cond (decide (w < 1)) none (cond (decide (w > 8))
  (some (CS.mk [(AV.osl (false) (0) (0) (0) (0) (1) (true))] [some (AObj.tarr [Sh.int IntKind.u8] (0) (rowsOf (1) [] (0)) true)]))
  (cond (decide (m = m)) (cond (decide ((↑m : Int) = (↑m : Int))) (cond (decide (m = m)) (cond (!decide (w < 1)) (cond (!decide (w > 8)) (cond (Nat.ble (0 + 8 * m) 1000000)
  (some (CS.mk [(AV.osl (false) (0) (0) (0 + Int.toNat w * m) (0 + Int.toNat w * m) (1) (true))] [some (AObj.tarr [Sh.int IntKind.u8] (0 + Int.toNat w * m) (fjoin (rowsOf (1) [] (0)) (0) (allB (Int.toNat w) g)) true)]))
  none) none) none) none) none) none))) none)
  (cond (decide (w < 1) == false) none (cond (decide (w < 1)) (some (CS.mk [(AV.osl (false) (0) (0) (0) (0) (1) (true))] [some (AObj.tarr [Sh.int IntKind.u8] (0) (rowsOf (1) [] (0)) true)])) none)))
  none)
  (cond (growB (1) (0 + n))
  (cond (Nat.ble (0 + n) n)
  (cond (decide (w < 1) == false)
  (cond (decide (w < 1) == false) (cond (decide (w < 1)) none (cond (decide (w > 8))
  (some (CS.mk [(AV.osl (false) (0) (0) (0 + n) (0 + n) (1) (true))] [some (AObj.tarr [Sh.int IntKind.u8] (0 + n) (fjoin (rowsOf (1) [] (0)) (0) (fun p_ q_ => f (0 + p_) q_)) true)]))
  (cond (decide (0 + n = 0 + n)) (cond (decide (m = m)) (cond (decide ((↑m : Int) = (↑m : Int))) (cond (decide (0 + n = 0 + n)) (cond (decide (m = m)) (cond (!decide (w < 1)) (cond (!decide (w > 8)) (cond (Nat.ble (0 + n + 8 * m) 1000000)
  (some (CS.mk [(AV.osl (false) (0) (0) (0 + n + Int.toNat w * m) (0 + n + Int.toNat w * m) (1) (true))] [some (AObj.tarr [Sh.int IntKind.u8] (0 + n + Int.toNat w * m) (fjoin (fjoin (rowsOf (1) [] (0)) (0) (fun p_ q_ => f (0 + p_) q_)) (0 + n) (allB (Int.toNat w) g)) true)]))
  none) none) none) none) none) none) none) none))) none)
  (cond (decide (w < 1) == false) none (cond (decide (w < 1)) (some (CS.mk [(AV.osl (false) (0) (0) (0 + n) (0 + n) (1) (true))] [some (AObj.tarr [Sh.int IntKind.u8] (0 + n) (fjoin (rowsOf (1) [] (0)) (0) (fun p_ q_ => f (0 + p_) q_)) true)])) none)))
  none)
  none))) := by kernel_rfl
theorem k21_eq (nl : Bool) (n : Nat) (f : Nat → Nat → AV) (w : Int) (m : Nat) (g : Nat → Nat → AV) : k21 nl n f w m g k21_p = (cond (nl)
  (cond (decide (w < 1))
  (some (CS.mk [(AV.osl (false) (0) (0) (0) (0) (1) (true))] [some (AObj.tarr [Sh.int IntKind.u8] (0) (rowsOf (1) [] (0)) true)]))
  (cond (decide (w > 8))
  (some (CS.mk [(AV.osl (false) (0) (0) (0) (0) (1) (true))] [some (AObj.tarr [Sh.int IntKind.u8] (0) (rowsOf (1) [] (0)) true)]))
  (cond (Nat.ble (0 + 0 + 8 * m) 1000000)
  (some (CS.mk [(AV.osl (false) (0) (0) (0 + 0 + Int.toNat w * m) (0 + 0 + Int.toNat w * m) (1) (true))] [some (AObj.tarr [Sh.int IntKind.u8] (0 + 0 + Int.toNat w * m) (fjoin (rowsOf (1) [] (0)) (0) (allB (Int.toNat w) g)) true)]))
  none)))
  (cond (Nat.ble ((0) + (n)) (0))
  (cond (Nat.ble (0 + n) n)
  (cond (decide (w < 1))
  (some (CS.mk [(AV.osl (false) (0) (0) (0) (0) (1) (true))] [some (AObj.tarr [Sh.int IntKind.u8] (0) (rowsOf (1) [] (0)) true)]))
  (cond (decide (w > 8))
  (some (CS.mk [(AV.osl (false) (0) (0) (0) (0) (1) (true))] [some (AObj.tarr [Sh.int IntKind.u8] (0) (rowsOf (1) [] (0)) true)]))
  (cond (Nat.ble (0 + 8 * m) 1000000)
  (some (CS.mk [(AV.osl (false) (0) (0) (0 + Int.toNat w * m) (0 + Int.toNat w * m) (1) (true))] [some (AObj.tarr [Sh.int IntKind.u8] (0 + Int.toNat w * m) (fjoin (rowsOf (1) [] (0)) (0) (allB (Int.toNat w) g)) true)]))
  none)))
  none)
  (cond (growB (1) (0 + n))
  (cond (Nat.ble (0 + n) n)
  (cond (decide (w < 1))
  (some (CS.mk [(AV.osl (false) (0) (0) (0 + n) (0 + n) (1) (true))] [some (AObj.tarr [Sh.int IntKind.u8] (0 + n) (fjoin (rowsOf (1) [] (0)) (0) (fun p_ q_ => f (0 + p_) q_)) true)]))
  (cond (decide (w > 8))
  (some (CS.mk [(AV.osl (false) (0) (0) (0 + n) (0 + n) (1) (true))] [some (AObj.tarr [Sh.int IntKind.u8] (0 + n) (fjoin (rowsOf (1) [] (0)) (0) (fun p_ q_ => f (0 + p_) q_)) true)]))
  (cond (Nat.ble (0 + n + 8 * m) 1000000)
  (some (CS.mk [(AV.osl (false) (0) (0) (0 + n + Int.toNat w * m) (0 + n + Int.toNat w * m) (1) (true))] [some (AObj.tarr [Sh.int IntKind.u8] (0 + n + Int.toNat w * m) (fjoin (fjoin (rowsOf (1) [] (0)) (0) (fun p_ q_ => f (0 + p_) q_)) (0 + n) (allB (Int.toNat w) g)) true)]))
  none)))
  none)
  none))) := by
  rw [k21_is]
  try simp only [eq_self, decide_true, beq_self_eq_true, Nat.beq_refl, ble_self, Int.le_refl, Nat.le_refl]
  cases (nl) with
  | true =>
    cases (decide (w < 1)) with
    | true =>
      rfl
    | false =>
      cases (decide (w > 8)) with
      | true =>
        rfl
      | false =>
        cases (Nat.ble (0 + 0 + 8 * m) 1000000) with
        | true =>
          rfl
        | false =>
          rfl
  | false =>
    cases (Nat.ble ((0) + (n)) (0)) with
    | true =>
      cases (Nat.ble (0 + n) n) with
      | true =>
        cases (decide (w < 1)) with
        | true =>
          rfl
        | false =>
          cases (decide (w > 8)) with
          | true =>
            rfl
          | false =>
            cases (Nat.ble (0 + 8 * m) 1000000) with
            | true =>
              rfl
            | false =>
              rfl
      | false =>
        rfl
    | false =>
      cases (growB (1) (0 + n)) with
      | true =>
        cases (Nat.ble (0 + n) n) with
        | true =>
          cases (decide (w < 1)) with
          | true =>
            rfl
          | false =>
            cases (decide (w > 8)) with
            | true =>
              rfl
            | false =>
              cases (Nat.ble (0 + n + 8 * m) 1000000) with
              | true =>
                rfl
              | false =>
                rfl
        | false =>
          rfl
      | false =>
        rfl

noncomputable def k27 (nl : Bool) (n : Nat) (f : Nat → Nat → AV) (w : Int) (x : Int) (π : Plan) : Option CS := callC (E4) (1000) (27) (0) (.asl shB) ([]) π (a27 nl n f w x)
def k27_p : Plan := (.fork (.reck 1 (.fork (.must true (.must false (.fork .stop (.reck 4 (.must true (.must true (.fork .stop .stop))))))) (.must false (.must true .stop)))) (.fork (.fork (.fork (.must true (.must false (.fork .stop (.reck 4 (.must true (.must true (.fork .stop .stop))))))) (.must false (.must true .stop))) .stop) (.fork (.fork (.fork (.must true (.must false (.fork .stop (.must true (.reck 2 (.must true (.must true (.must true (.fork (.reck 1 (.fork .stop .stop)) .stop))))))))) (.must false (.must true .stop))) .stop) .stop)))
theorem k27_is (nl : Bool) (n : Nat) (f : Nat → Nat → AV) (w : Int) (x : Int) : k27 nl n f w x k27_p = (cond (nl)
  (cond (decide (w < 1) == false)
  (cond (decide (w < 1) == false) (cond (decide (w < 1)) none (cond (decide (w > 8))
  (some (CS.mk [(AV.osl (true) (0) (0) (0) (0) (1) (true))] [some (AObj.tarr [Sh.int IntKind.u8] (0) (fun p_ q_ => AV.bad) true)]))
  (cond (!decide (w < 1)) (cond (!decide (w > 8)) (cond (u64B x)
  (some (CS.mk [(AV.osl (false) (0) (0) (0 + Int.toNat w) (0 + Int.toNat w) (1) (true))] [some (AObj.tarr [Sh.int IntKind.u8] (0 + Int.toNat w) (fjoin (fun p_ q_ => AV.bad) (0) (oneB (x))) true)]))
  none) none) none))) none)
  (cond (decide (w < 1) == false) none (cond (decide (w < 1)) (some (CS.mk [(AV.osl (true) (0) (0) (0) (0) (1) (true))] [some (AObj.tarr [Sh.int IntKind.u8] (0) (fun p_ q_ => AV.bad) true)])) none)))
  (cond (Nat.beq (n) 0)
  (cond (Nat.ble (0 + n) n)
  (cond (decide (w < 1) == false)
  (cond (decide (w < 1) == false) (cond (decide (w < 1)) none (cond (decide (w > 8))
  (some (CS.mk [(AV.osl (true) (0) (0) (0) (0) (1) (true))] [some (AObj.tarr [Sh.int IntKind.u8] (0) (fun p_ q_ => AV.bad) true)]))
  (cond (!decide (w < 1)) (cond (!decide (w > 8)) (cond (u64B x)
  (some (CS.mk [(AV.osl (false) (0) (0) (0 + Int.toNat w) (0 + Int.toNat w) (1) (true))] [some (AObj.tarr [Sh.int IntKind.u8] (0 + Int.toNat w) (fjoin (fun p_ q_ => AV.bad) (0) (oneB (x))) true)]))
  none) none) none))) none)
  (cond (decide (w < 1) == false) none (cond (decide (w < 1)) (some (CS.mk [(AV.osl (true) (0) (0) (0) (0) (1) (true))] [some (AObj.tarr [Sh.int IntKind.u8] (0) (fun p_ q_ => AV.bad) true)])) none)))
  none)
  (cond (growB (1) (0 + n))
  (cond (Nat.ble (0 + n) n)
  (cond (decide (w < 1) == false)
  (cond (decide (w < 1) == false) (cond (decide (w < 1)) none (cond (decide (w > 8))
  (some (CS.mk [(AV.osl (false) (0) (0) (0 + n) (0 + n) (1) (true))] [some (AObj.tarr [Sh.int IntKind.u8] (0 + n) (fjoin (fun p_ q_ => AV.bad) (0) (fun p_ q_ => f (0 + p_) q_)) true)]))
  (cond (decide (0 + n = 0 + n)) (cond (decide (0 + n = 0 + n)) (cond (!decide (w < 1)) (cond (!decide (w > 8)) (cond (u64B x)
  (cond (Nat.ble (0 + n + 8) 1000000)
  (some (CS.mk [(AV.osl (false) (0) (0) (0 + n + Int.toNat w) (0 + n + Int.toNat w) (1) (true))] [some (AObj.tarr [Sh.int IntKind.u8] (0 + n + Int.toNat w) (fjoin (fjoin (fun p_ q_ => AV.bad) (0) (fun p_ q_ => f (0 + p_) q_)) (0 + n) (oneB (x))) true)]))
  none)
  none) none) none) none) none))) none)
  (cond (decide (w < 1) == false) none (cond (decide (w < 1)) (some (CS.mk [(AV.osl (false) (0) (0) (0 + n) (0 + n) (1) (true))] [some (AObj.tarr [Sh.int IntKind.u8] (0 + n) (fjoin (fun p_ q_ => AV.bad) (0) (fun p_ q_ => f (0 + p_) q_)) true)])) none)))
  none)
  none))) := by kernel_rfl
theorem k27_eq (nl : Bool) (n : Nat) (f : Nat → Nat → AV) (w : Int) (x : Int) : k27 nl n f w x k27_p = (cond (nl)
  (cond (decide (w < 1))
  (some (CS.mk [(AV.osl (true) (0) (0) (0) (0) (1) (true))] [some (AObj.tarr [Sh.int IntKind.u8] (0) (fun p_ q_ => AV.bad) true)]))
  (cond (decide (w > 8))
  (some (CS.mk [(AV.osl (true) (0) (0) (0) (0) (1) (true))] [some (AObj.tarr [Sh.int IntKind.u8] (0) (fun p_ q_ => AV.bad) true)]))
  (cond (u64B x)
  (some (CS.mk [(AV.osl (false) (0) (0) (0 + Int.toNat w) (0 + Int.toNat w) (1) (true))] [some (AObj.tarr [Sh.int IntKind.u8] (0 + Int.toNat w) (fjoin (fun p_ q_ => AV.bad) (0) (oneB (x))) true)]))
  none)))
  (cond (Nat.beq (n) 0)
  (cond (Nat.ble (0 + n) n)
  (cond (decide (w < 1))
  (some (CS.mk [(AV.osl (true) (0) (0) (0) (0) (1) (true))] [some (AObj.tarr [Sh.int IntKind.u8] (0) (fun p_ q_ => AV.bad) true)]))
  (cond (decide (w > 8))
  (some (CS.mk [(AV.osl (true) (0) (0) (0) (0) (1) (true))] [some (AObj.tarr [Sh.int IntKind.u8] (0) (fun p_ q_ => AV.bad) true)]))
  (cond (u64B x)
  (some (CS.mk [(AV.osl (false) (0) (0) (0 + Int.toNat w) (0 + Int.toNat w) (1) (true))] [some (AObj.tarr [Sh.int IntKind.u8] (0 + Int.toNat w) (fjoin (fun p_ q_ => AV.bad) (0) (oneB (x))) true)]))
  none)))
  none)
  (cond (growB (1) (0 + n))
  (cond (Nat.ble (0 + n) n)
  (cond (decide (w < 1))
  (some (CS.mk [(AV.osl (false) (0) (0) (0 + n) (0 + n) (1) (true))] [some (AObj.tarr [Sh.int IntKind.u8] (0 + n) (fjoin (fun p_ q_ => AV.bad) (0) (fun p_ q_ => f (0 + p_) q_)) true)]))
  (cond (decide (w > 8))
  (some (CS.mk [(AV.osl (false) (0) (0) (0 + n) (0 + n) (1) (true))] [some (AObj.tarr [Sh.int IntKind.u8] (0 + n) (fjoin (fun p_ q_ => AV.bad) (0) (fun p_ q_ => f (0 + p_) q_)) true)]))
  (cond (u64B x)
  (cond (Nat.ble (0 + n + 8) 1000000)
  (some (CS.mk [(AV.osl (false) (0) (0) (0 + n + Int.toNat w) (0 + n + Int.toNat w) (1) (true))] [some (AObj.tarr [Sh.int IntKind.u8] (0 + n + Int.toNat w) (fjoin (fjoin (fun p_ q_ => AV.bad) (0) (fun p_ q_ => f (0 + p_) q_)) (0 + n) (oneB (x))) true)]))
  none)
  none)))
  none)
  none))) := by
  rw [k27_is]
  try simp only [eq_self, decide_true, beq_self_eq_true, Nat.beq_refl, ble_self, Int.le_refl, Nat.le_refl]
  cases (nl) with
  | true =>
    cases (decide (w < 1)) with
    | true =>
      rfl
    | false =>
      cases (decide (w > 8)) with
      | true =>
        rfl
      | false =>
        cases (u64B x) with
        | true =>
          rfl
        | false =>
          rfl
  | false =>
    cases (Nat.beq (n) 0) with
    | true =>
      cases (Nat.ble (0 + n) n) with
      | true =>
        cases (decide (w < 1)) with
        | true =>
          rfl
        | false =>
          cases (decide (w > 8)) with
          | true =>
            rfl
          | false =>
            cases (u64B x) with
            | true =>
              rfl
            | false =>
              rfl
      | false =>
        rfl
    | false =>
      cases (growB (1) (0 + n)) with
      | true =>
        cases (Nat.ble (0 + n) n) with
        | true =>
          cases (decide (w < 1)) with
          | true =>
            rfl
          | false =>
            cases (decide (w > 8)) with
            | true =>
              rfl
            | false =>
              cases (u64B x) with
              | true =>
                cases (Nat.ble (0 + n + 8) 1000000) with
                | true =>
                  rfl
                | false =>
                  rfl
              | false =>
                rfl
        | false =>
          rfl
      | false =>
        rfl

noncomputable def s25t (w : Int) (m : Nat) (g : Nat → Nat → AV) (j : Nat) (π : Plan) : Option (Nat × CS) := stepC (E5) (300) (loopC E5 25 0) (0) (h25) ((.normal, h25) :: x25) π (c25t w m g j)
def s25t_p : Plan := (.fork (.reck 1 (.must true (.fork (.reck 5 (.fork .stop (.fork (.fork .stop .stop) .stop))) .stop))) .stop)
theorem s25t_is (w : Int) (m : Nat) (g : Nat → Nat → AV) (j : Nat) : s25t w m g j s25t_p = (cond (decide ((↑j : Int) < (↑m : Int)))
  (cond (decide ((↑j : Int) < (↑m : Int))) (cond (Nat.blt (0 + Int.toNat (↑j : Int)) m)
  (cond (decide (w < 1))
  (some (0, (CS.mk [(AV.int IntKind.i64 (w)), (AV.osl (false) (0) (0) (m) (m) (1) (true)), (AV.osl (true) (1) (0) (0) (0) (1) (true)), (AV.int IntKind.i64 (IntKind.wrap IntKind.i64 ((↑j : Int) + 1)))] [some (AObj.tarr [Sh.int IntKind.u64] (m) g true), some (AObj.tarr [Sh.int IntKind.u8] (0) (fun p_ q_ => AV.bad) true)])))
  (cond (!decide (w > 8))
  (cond (u64B (AV.toI (g (0 + Int.toNat (↑j : Int)) 0)))
  (some (0, (CS.mk [(AV.int IntKind.i64 (w)), (AV.osl (false) (0) (0) (m) (m) (1) (true)), (AV.osl (false) (1) (0) (0 + Int.toNat w) (0 + Int.toNat w) (1) (true)), (AV.int IntKind.i64 (IntKind.wrap IntKind.i64 ((↑j : Int) + 1)))] [some (AObj.tarr [Sh.int IntKind.u64] (m) g true), some (AObj.tarr [Sh.int IntKind.u8] (0 + Int.toNat w) (fjoin (fun p_ q_ => AV.bad) (0) (oneB (AV.toI (g (0 + Int.toNat (↑j : Int)) 0)))) true)])))
  none)
  none))
  none) none)
  (some (1, (CS.mk [(AV.osl (true) (0) (0) (0) (0) (1) (true))] [some (AObj.tarr [Sh.int IntKind.u8] (0) (fun p_ q_ => AV.bad) true)])))) := by kernel_rfl
theorem s25t_eq (w : Int) (m : Nat) (g : Nat → Nat → AV) (j : Nat) : s25t w m g j s25t_p = (cond (decide ((↑j : Int) < (↑m : Int)))
  (cond (Nat.blt (0 + Int.toNat (↑j : Int)) m)
  (cond (decide (w < 1))
  (some (0, (CS.mk [(AV.int IntKind.i64 (w)), (AV.osl (false) (0) (0) (m) (m) (1) (true)), (AV.osl (true) (1) (0) (0) (0) (1) (true)), (AV.int IntKind.i64 (IntKind.wrap IntKind.i64 ((↑j : Int) + 1)))] [some (AObj.tarr [Sh.int IntKind.u64] (m) g true), some (AObj.tarr [Sh.int IntKind.u8] (0) (fun p_ q_ => AV.bad) true)])))
  (cond (decide (w > 8))
  none
  (cond (u64B (AV.toI (g (0 + Int.toNat (↑j : Int)) 0)))
  (some (0, (CS.mk [(AV.int IntKind.i64 (w)), (AV.osl (false) (0) (0) (m) (m) (1) (true)), (AV.osl (false) (1) (0) (0 + Int.toNat w) (0 + Int.toNat w) (1) (true)), (AV.int IntKind.i64 (IntKind.wrap IntKind.i64 ((↑j : Int) + 1)))] [some (AObj.tarr [Sh.int IntKind.u64] (m) g true), some (AObj.tarr [Sh.int IntKind.u8] (0 + Int.toNat w) (fjoin (fun p_ q_ => AV.bad) (0) (oneB (AV.toI (g (0 + Int.toNat (↑j : Int)) 0)))) true)])))
  none)))
  none)
  (some (1, (CS.mk [(AV.osl (true) (0) (0) (0) (0) (1) (true))] [some (AObj.tarr [Sh.int IntKind.u8] (0) (fun p_ q_ => AV.bad) true)])))) := by
  rw [s25t_is]
  try simp only [eq_self, decide_true, beq_self_eq_true, Nat.beq_refl, ble_self, Int.le_refl, Nat.le_refl]
  cases (decide ((↑j : Int) < (↑m : Int))) with
  | true =>
    cases (Nat.blt (0 + Int.toNat (↑j : Int)) m) with
    | true =>
      cases (decide (w < 1)) with
      | true =>
        rfl
      | false =>
        cases (decide (w > 8)) with
        | true =>
          rfl
        | false =>
          cases (u64B (AV.toI (g (0 + Int.toNat (↑j : Int)) 0))) with
          | true =>
            rfl
          | false =>
            rfl
    | false =>
      rfl
  | false =>
    rfl

noncomputable def s25f (w : Int) (m : Nat) (g : Nat → Nat → AV) (n : Nat) (f : Nat → Nat → AV) (j : Nat) (π : Plan) : Option (Nat × CS) := stepC (E5) (300) (loopC E5 25 0) (0) (h25) ((.normal, h25) :: x25) π (c25 w m g false n f j)
def s25f_p : Plan := (.fork (.reck 1 (.must true (.fork (.must true (.reck 1 (.must true (.reck 1 (.fork (.fork (.fork .stop .stop) (.fork (.fork .stop .stop) .stop)) .stop))))) .stop))) .stop)
theorem s25f_is (w : Int) (m : Nat) (g : Nat → Nat → AV) (n : Nat) (f : Nat → Nat → AV) (j : Nat) : s25f w m g n f j s25f_p = (cond (decide ((↑j : Int) < (↑m : Int)))
  (cond (decide ((↑j : Int) < (↑m : Int))) (cond (Nat.blt (0 + Int.toNat (↑j : Int)) m)
  (cond (decide (n = n)) (cond (decide (n = n)) (cond (Nat.ble (n + 8) 1000000)
  (cond (decide (w < 1))
  (cond (Nat.beq n 0)
  (some (0, (CS.mk [(AV.int IntKind.i64 (w)), (AV.osl (false) (0) (0) (m) (m) (1) (true)), (AV.osl (true) (1) (0) (0) (0) (1) (true)), (AV.int IntKind.i64 (IntKind.wrap IntKind.i64 ((↑j : Int) + 1)))] [some (AObj.tarr [Sh.int IntKind.u64] (m) g true), some (AObj.tarr [Sh.int IntKind.u8] (0) (fun p_ q_ => AV.bad) true)])))
  (some (0, (CS.mk [(AV.int IntKind.i64 (w)), (AV.osl (false) (0) (0) (m) (m) (1) (true)), (AV.osl (false) (1) (0) (n) (n) (1) (true)), (AV.int IntKind.i64 (IntKind.wrap IntKind.i64 ((↑j : Int) + 1)))] [some (AObj.tarr [Sh.int IntKind.u64] (m) g true), some (AObj.tarr [Sh.int IntKind.u8] (n) f true)]))))
  (cond (!decide (w > 8))
  (cond (u64B (AV.toI (g (0 + Int.toNat (↑j : Int)) 0)))
  (some (0, (CS.mk [(AV.int IntKind.i64 (w)), (AV.osl (false) (0) (0) (m) (m) (1) (true)), (AV.osl (false) (1) (0) (n + Int.toNat w) (n + Int.toNat w) (1) (true)), (AV.int IntKind.i64 (IntKind.wrap IntKind.i64 ((↑j : Int) + 1)))] [some (AObj.tarr [Sh.int IntKind.u64] (m) g true), some (AObj.tarr [Sh.int IntKind.u8] (n + Int.toNat w) (fjoin f (n) (oneB (AV.toI (g (0 + Int.toNat (↑j : Int)) 0)))) true)])))
  none)
  none))
  none) none) none)
  none) none)
  (some (1, (CS.mk [(AV.osl (false) (0) (0) (n) (n) (1) (true))] [some (AObj.tarr [Sh.int IntKind.u8] (n) f true)])))) := by kernel_rfl
theorem s25f_eq (w : Int) (m : Nat) (g : Nat → Nat → AV) (n : Nat) (f : Nat → Nat → AV) (j : Nat) : s25f w m g n f j s25f_p = (cond (decide ((↑j : Int) < (↑m : Int)))
  (cond (Nat.blt (0 + Int.toNat (↑j : Int)) m)
  (cond (Nat.ble (n + 8) 1000000)
  (cond (decide (w < 1))
  (cond (Nat.beq n 0)
  (some (0, (CS.mk [(AV.int IntKind.i64 (w)), (AV.osl (false) (0) (0) (m) (m) (1) (true)), (AV.osl (true) (1) (0) (0) (0) (1) (true)), (AV.int IntKind.i64 (IntKind.wrap IntKind.i64 ((↑j : Int) + 1)))] [some (AObj.tarr [Sh.int IntKind.u64] (m) g true), some (AObj.tarr [Sh.int IntKind.u8] (0) (fun p_ q_ => AV.bad) true)])))
  (some (0, (CS.mk [(AV.int IntKind.i64 (w)), (AV.osl (false) (0) (0) (m) (m) (1) (true)), (AV.osl (false) (1) (0) (n) (n) (1) (true)), (AV.int IntKind.i64 (IntKind.wrap IntKind.i64 ((↑j : Int) + 1)))] [some (AObj.tarr [Sh.int IntKind.u64] (m) g true), some (AObj.tarr [Sh.int IntKind.u8] (n) f true)]))))
  (cond (decide (w > 8))
  none
  (cond (u64B (AV.toI (g (0 + Int.toNat (↑j : Int)) 0)))
  (some (0, (CS.mk [(AV.int IntKind.i64 (w)), (AV.osl (false) (0) (0) (m) (m) (1) (true)), (AV.osl (false) (1) (0) (n + Int.toNat w) (n + Int.toNat w) (1) (true)), (AV.int IntKind.i64 (IntKind.wrap IntKind.i64 ((↑j : Int) + 1)))] [some (AObj.tarr [Sh.int IntKind.u64] (m) g true), some (AObj.tarr [Sh.int IntKind.u8] (n + Int.toNat w) (fjoin f (n) (oneB (AV.toI (g (0 + Int.toNat (↑j : Int)) 0)))) true)])))
  none)))
  none)
  none)
  (some (1, (CS.mk [(AV.osl (false) (0) (0) (n) (n) (1) (true))] [some (AObj.tarr [Sh.int IntKind.u8] (n) f true)])))) := by
  rw [s25f_is]
  try simp only [eq_self, decide_true, beq_self_eq_true, Nat.beq_refl, ble_self, Int.le_refl, Nat.le_refl]
  cases (decide ((↑j : Int) < (↑m : Int))) with
  | true =>
    cases (Nat.blt (0 + Int.toNat (↑j : Int)) m) with
    | true =>
      cases (Nat.ble (n + 8) 1000000) with
      | true =>
        cases (decide (w < 1)) with
        | true =>
          cases (Nat.beq n 0) with
          | true =>
            rfl
          | false =>
            rfl
        | false =>
          cases (decide (w > 8)) with
          | true =>
            rfl
          | false =>
            cases (u64B (AV.toI (g (0 + Int.toNat (↑j : Int)) 0))) with
            | true =>
              rfl
            | false =>
              rfl
      | false =>
        rfl
    | false =>
      rfl
  | false =>
    rfl

noncomputable def k25t (w : Int) (m : Nat) (g : Nat → Nat → AV) (π : Plan) : Option CS := callC (E6) (1000) (25) (0) (.asl shB) ([]) π (a21t w m g)
def k25t_p : Plan := (.reck 9 (.must true (.reck 3 (.must true (.reck 2 (.fork (.fork (.fork (.fork (.reck 1 (.fork .stop .stop)) .stop) .stop) .stop) .stop))))))
theorem k25t_is (w : Int) (m : Nat) (g : Nat → Nat → AV) : k25t w m g k25t_p = (cond (decide (m = m)) (cond (decide (m = m)) (cond (!decide (w < 1))
  (cond (!decide (w > 8))
  (cond (Nat.blt 0 m)
  (cond ((allU g (m)))
  (cond (Nat.ble (0 + 8 * m) 1000000)
  (some (CS.mk [(AV.osl (false) (0) (0) (0 + Int.toNat w * m) (0 + Int.toNat w * m) (1) (true))] [some (AObj.tarr [Sh.int IntKind.u8] (0 + Int.toNat w * m) (fjoin (fun p_ q_ => AV.bad) (0) (allB (Int.toNat w) g)) true)]))
  none)
  none)
  none)
  none)
  none) none) none) := by kernel_rfl
theorem k25t_eq (w : Int) (m : Nat) (g : Nat → Nat → AV) : k25t w m g k25t_p = (cond (decide (w < 1))
  none
  (cond (decide (w > 8))
  none
  (cond (Nat.blt 0 m)
  (cond (allU g (m))
  (cond (Nat.ble (0 + 8 * m) 1000000)
  (some (CS.mk [(AV.osl (false) (0) (0) (0 + Int.toNat w * m) (0 + Int.toNat w * m) (1) (true))] [some (AObj.tarr [Sh.int IntKind.u8] (0 + Int.toNat w * m) (fjoin (fun p_ q_ => AV.bad) (0) (allB (Int.toNat w) g)) true)]))
  none)
  none)
  none))) := by
  rw [k25t_is]
  try simp only [eq_self, decide_true, beq_self_eq_true, Nat.beq_refl, ble_self, Int.le_refl, Nat.le_refl]
  cases (decide (w < 1)) with
  | true =>
    rfl
  | false =>
    cases (decide (w > 8)) with
    | true =>
      rfl
    | false =>
      cases (Nat.blt 0 m) with
      | true =>
        cases (allU g (m)) with
        | true =>
          cases (Nat.ble (0 + 8 * m) 1000000) with
          | true =>
            rfl
          | false =>
            rfl
        | false =>
          rfl
      | false =>
        rfl

noncomputable def k25f (n : Nat) (f : Nat → Nat → AV) (w : Int) (m : Nat) (g : Nat → Nat → AV) (π : Plan) : Option CS := callC (E6) (1000) (25) (0) (.asl shB) ([]) π (a21 false n f w m g)
def k25f_p : Plan := (.must true (.reck 1 (.must true (.reck 1 (.fork (.reck 1 (.fork (.reck 2 (.must true (.reck 3 (.must true (.reck 2 (.fork (.fork (.fork (.fork (.reck 1 (.fork .stop .stop)) .stop) .stop) .stop) .stop)))))) (.reck 2 (.must true (.must true (.reck 2 (.must true (.reck 1 (.must true (.fork (.fork (.fork (.fork (.reck 1 (.fork .stop .stop)) .stop) .stop) .stop) .stop)))))))))) .stop)))))
theorem k25f_is (n : Nat) (f : Nat → Nat → AV) (w : Int) (m : Nat) (g : Nat → Nat → AV) : k25f n f w m g k25f_p = (cond (decide (n = n)) (cond (decide (n = n)) (cond (Nat.ble (n + 8) 1000000)
  (cond (Nat.beq n 0)
  (cond (decide (m = m)) (cond (decide (m = m)) (cond (!decide (w < 1))
  (cond (!decide (w > 8))
  (cond (Nat.blt 0 m)
  (cond ((allU g (m)))
  (cond (Nat.ble (0 + 8 * m) 1000000)
  (some (CS.mk [(AV.osl (false) (0) (0) (0 + Int.toNat w * m) (0 + Int.toNat w * m) (1) (true))] [some (AObj.tarr [Sh.int IntKind.u8] (0 + Int.toNat w * m) (fjoin (fun p_ q_ => AV.bad) (0) (allB (Int.toNat w) g)) true)]))
  none)
  none)
  none)
  none)
  none) none) none)
  (cond (decide (m = m)) (cond (decide (n = n)) (cond (decide (m = m)) (cond (decide (n = n)) (cond (!decide (w < 1))
  (cond (!decide (w > 8))
  (cond (Nat.blt 0 m)
  (cond ((allU g (m)))
  (cond (Nat.ble (n + 8 * m) 1000000)
  (some (CS.mk [(AV.osl (false) (0) (0) (n + Int.toNat w * m) (n + Int.toNat w * m) (1) (true))] [some (AObj.tarr [Sh.int IntKind.u8] (n + Int.toNat w * m) (fjoin f (n) (allB (Int.toNat w) g)) true)]))
  none)
  none)
  none)
  none)
  none) none) none) none) none))
  none) none) none) := by kernel_rfl
theorem k25f_eq (n : Nat) (f : Nat → Nat → AV) (w : Int) (m : Nat) (g : Nat → Nat → AV) : k25f n f w m g k25f_p = (cond (Nat.ble (n + 8) 1000000)
  (cond (Nat.beq n 0)
  (cond (decide (w < 1))
  none
  (cond (decide (w > 8))
  none
  (cond (Nat.blt 0 m)
  (cond (allU g (m))
  (cond (Nat.ble (0 + 8 * m) 1000000)
  (some (CS.mk [(AV.osl (false) (0) (0) (0 + Int.toNat w * m) (0 + Int.toNat w * m) (1) (true))] [some (AObj.tarr [Sh.int IntKind.u8] (0 + Int.toNat w * m) (fjoin (fun p_ q_ => AV.bad) (0) (allB (Int.toNat w) g)) true)]))
  none)
  none)
  none)))
  (cond (decide (w < 1))
  none
  (cond (decide (w > 8))
  none
  (cond (Nat.blt 0 m)
  (cond (allU g (m))
  (cond (Nat.ble (n + 8 * m) 1000000)
  (some (CS.mk [(AV.osl (false) (0) (0) (n + Int.toNat w * m) (n + Int.toNat w * m) (1) (true))] [some (AObj.tarr [Sh.int IntKind.u8] (n + Int.toNat w * m) (fjoin f (n) (allB (Int.toNat w) g)) true)]))
  none)
  none)
  none))))
  none) := by
  rw [k25f_is]
  try simp only [eq_self, decide_true, beq_self_eq_true, Nat.beq_refl, ble_self, Int.le_refl, Nat.le_refl]
  cases (Nat.ble (n + 8) 1000000) with
  | true =>
    cases (Nat.beq n 0) with
    | true =>
      cases (decide (w < 1)) with
      | true =>
        rfl
      | false =>
        cases (decide (w > 8)) with
        | true =>
          rfl
        | false =>
          cases (Nat.blt 0 m) with
          | true =>
            cases (allU g (m)) with
            | true =>
              cases (Nat.ble (0 + 8 * m) 1000000) with
              | true =>
                rfl
              | false =>
                rfl
            | false =>
              rfl
          | false =>
            rfl
    | false =>
      cases (decide (w < 1)) with
      | true =>
        rfl
      | false =>
        cases (decide (w > 8)) with
        | true =>
          rfl
        | false =>
          cases (Nat.blt 0 m) with
          | true =>
            cases (allU g (m)) with
            | true =>
              cases (Nat.ble (n + 8 * m) 1000000) with
              | true =>
                rfl
              | false =>
                rfl
            | false =>
              rfl
          | false =>
            rfl
  | false =>
    rfl
end Go.Proofs.Ytjbjjikdihghmaa.entry
