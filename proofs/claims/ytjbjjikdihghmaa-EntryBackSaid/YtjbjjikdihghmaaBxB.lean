/- Entries, read from bytes that may be written, and compared: what the machine reckons. -/
import Derived.Test.YtjbjjikdihghmaaBxA
import Derived.KernelRfl
set_option linter.unusedSimpArgs false
set_option linter.unusedVariables false
set_option maxRecDepth 20000
namespace Go.Proofs.Ytjbjjikdihghmaa.entry
open Go Go.RowKit Go.Proofs.Ytjbjjikdihghmaa.Bm
def rowE (f g : Nat → Nat → AV) (i : Nat) : Bool := (f i 0).toI == (g i 0).toI && ((f i 1).toI == (g i 1).toI && ((f i 2).toI == (g i 2).toI && ((f i 3).toI == (g i 3).toI && true) && true))
def allE (f g : Nat → Nat → AV) (n : Nat) : Bool := okFrom (rowE f g) 0 n
def pE : PV := .agg lE
def h18 : Pat := ⟨58, [(2, .keep), (3, .keep), (5, .keep)], [lE, lE]⟩
def x18 : List (Ex × Pat) := [(.exit 0, ⟨58, [], []⟩), (.ret, ⟨58, [(4, .keep)], []⟩)]
def c18 (ix : Int) (tm : Int) (st : Int) (kd : Int) (cl : Int) (rq : Int) (fr : Int) (ct : Int) (d : List Nat) (ix2 : Int) (tm2 : Int) (st2 : Int) (kd2 : Int) (cl2 : Int) (rq2 : Int) (fr2 : Int) (ct2 : Int) (d2 : List Nat) (nl : Bool) (nl2 : Bool) (n : Nat) (m : Nat) (f : Nat → Nat → AV) (g : Nat → Nat → AV) (i : Nat) : CS :=
  ⟨[.ptr 0 0, .ptr 1 0, .int .i64 (i : Nat)], [some (.cells [.int .u64 ix, .int .u64 tm, .int .u64 st, .int .i64 kd, .int .u64 cl, .int .u64 rq, .int .u32 fr, .int .u32 ct, .str d, .osl nl 2 0 n n 4 true] true), some (.cells [.int .u64 ix2, .int .u64 tm2, .int .u64 st2, .int .i64 kd2, .int .u64 cl2, .int .u64 rq2, .int .u32 fr2, .int .u32 ct2, .str d2, .osl nl2 3 0 m m 4 true] true), some (.tarr shL n f false), some (.tarr shL m g false)]⟩
def a17 (ix : Int) (tm : Int) (st : Int) (kd : Int) (cl : Int) (rq : Int) (fr : Int) (ct : Int) (d : List Nat) (ix2 : Int) (tm2 : Int) (st2 : Int) (kd2 : Int) (cl2 : Int) (rq2 : Int) (fr2 : Int) (ct2 : Int) (d2 : List Nat) (nl : Bool) (nl2 : Bool) (n : Nat) (m : Nat) (f : Nat → Nat → AV) (g : Nat → Nat → AV) : CS :=
  ⟨[.agg [.int .u64 ix, .int .u64 tm, .int .u64 st, .int .i64 kd, .int .u64 cl, .int .u64 rq, .int .u32 fr, .int .u32 ct, .str d, .osl nl 0 0 n n 4 true], .agg [.int .u64 ix2, .int .u64 tm2, .int .u64 st2, .int .i64 kd2, .int .u64 cl2, .int .u64 rq2, .int .u32 fr2, .int .u32 ct2, .str d2, .osl nl2 1 0 m m 4 true]], [some (.tarr shL n f false), some (.tarr shL m g false)]⟩
noncomputable def r18B  (ix : Int) (tm : Int) (st : Int) (kd : Int) (cl : Int) (rq : Int) (fr : Int) (ct : Int) (d : List Nat) (ix2 : Int) (tm2 : Int) (st2 : Int) (kd2 : Int) (cl2 : Int) (rq2 : Int) (fr2 : Int) (ct2 : Int) (d2 : List Nat) (nl : Bool) (nl2 : Bool) (n : Nat) (m : Nat) (f : Nat → Nat → AV) (g : Nat → Nat → AV) : T (Nat × CS) :=
  chkT [!((n : Int) != (m : Int)), Nat.ble n 1000000] (.ask (allE f g n) (.ret (1, ⟨[], []⟩)) (.ret (2, ⟨[.bool false], []⟩)))
noncomputable def r18  (c : CS) : T (Nat × CS) := match c with
  | ⟨[.ptr 0 0, .ptr 1 0, .int .i64 z_1], [some (.cells [.int .u64 ix, .int .u64 tm, .int .u64 st, .int .i64 kd, .int .u64 cl, .int .u64 rq, .int .u32 fr, .int .u32 ct, .str d, .osl nl 2 0 n z_2 4 true] true), some (.cells [.int .u64 ix2, .int .u64 tm2, .int .u64 st2, .int .i64 kd2, .int .u64 cl2, .int .u64 rq2, .int .u32 fr2, .int .u32 ct2, .str d2, .osl nl2 3 0 m z_3 4 true] true), some (.tarr sh_4 z_5 f false), some (.tarr sh_6 z_7 g false)]⟩ => chkT [decide (0 = z_1), decide (n = z_2), decide (m = z_3), shBeq sh_4 shL, decide (n = z_5), shBeq sh_6 shL, decide (m = z_7)] (r18B  ix tm st kd cl rq fr ct d ix2 tm2 st2 kd2 cl2 rq2 fr2 ct2 d2 nl nl2 n m f g)
  | _ => .fail
noncomputable def F9 : Env := addL F8 16 0 1000014 h18 x18 0 r18
noncomputable def s18 (ix : Int) (tm : Int) (st : Int) (kd : Int) (cl : Int) (rq : Int) (fr : Int) (ct : Int) (d : List Nat) (ix2 : Int) (tm2 : Int) (st2 : Int) (kd2 : Int) (cl2 : Int) (rq2 : Int) (fr2 : Int) (ct2 : Int) (d2 : List Nat) (nl : Bool) (nl2 : Bool) (n : Nat) (m : Nat) (f : Nat → Nat → AV) (g : Nat → Nat → AV) (i : Nat) (π : Plan) : Option (Nat × CS) := stepC (F8) (300) (loopC F8 16 0) (0) (h18) ((.normal, h18) :: x18) π (c18 ix tm st kd cl rq fr ct d ix2 tm2 st2 kd2 cl2 rq2 fr2 ct2 d2 nl nl2 n m f g i)
def s18_p : Plan := (.fork (.reck 1 (.must true (.fork (.reck 1 (.fork (.fork (.must true (.must true (.must true (.must true (.must true (.must true (.reck 1 (.must true (.must true (.must true (.must true (.must true (.must true (.must true (.must true (.reck 1 (.must true (.must true (.fork .stop .stop))))))))))))))))))) .stop) .stop)) .stop))) .stop)
theorem s18_is (ix : Int) (tm : Int) (st : Int) (kd : Int) (cl : Int) (rq : Int) (fr : Int) (ct : Int) (d : List Nat) (ix2 : Int) (tm2 : Int) (st2 : Int) (kd2 : Int) (cl2 : Int) (rq2 : Int) (fr2 : Int) (ct2 : Int) (d2 : List Nat) (nl : Bool) (nl2 : Bool) (n : Nat) (m : Nat) (f : Nat → Nat → AV) (g : Nat → Nat → AV) (i : Nat) : s18 ix tm st kd cl rq fr ct d ix2 tm2 st2 kd2 cl2 rq2 fr2 ct2 d2 nl nl2 n m f g i s18_p = (cond (decide ((↑i : Int) < (↑n : Int)))
  (cond (decide ((↑i : Int) < (↑n : Int))) (cond (Nat.blt (0 + Int.toNat (↑i : Int)) n)
  (cond (decide ((↑i : Int) < (↑m : Int)))
  (cond (Nat.blt (0 + Int.toNat (↑i : Int)) m)
  (cond (Nat.blt (0 + Int.toNat (↑i : Int)) m) (cond (decide (AV.toI (g (0 + Int.toNat (↑i : Int)) 0) = AV.toI (g (0 + Int.toNat (↑i : Int)) 0))) (cond (decide (AV.toI (g (0 + Int.toNat (↑i : Int)) (Nat.succ 0)) = AV.toI (g (0 + Int.toNat (↑i : Int)) (Nat.succ 0)))) (cond (decide (AV.toI (g (0 + Int.toNat (↑i : Int)) (Nat.succ (Nat.succ 0))) = AV.toI (g (0 + Int.toNat (↑i : Int)) (Nat.succ (Nat.succ 0))))) (cond (decide (AV.toI (g (0 + Int.toNat (↑i : Int)) (Nat.succ (Nat.succ (Nat.succ 0)))) = AV.toI (g (0 + Int.toNat (↑i : Int)) (Nat.succ (Nat.succ (Nat.succ 0)))))) (cond (nl2 == nl2) (cond (Nat.beq m m) (cond (Nat.beq m m) (cond (Nat.blt (0 + Int.toNat (↑i : Int)) n) (cond (decide (AV.toI (f (0 + Int.toNat (↑i : Int)) 0) = AV.toI (f (0 + Int.toNat (↑i : Int)) 0))) (cond (decide (AV.toI (f (0 + Int.toNat (↑i : Int)) (Nat.succ 0)) = AV.toI (f (0 + Int.toNat (↑i : Int)) (Nat.succ 0)))) (cond (decide (AV.toI (f (0 + Int.toNat (↑i : Int)) (Nat.succ (Nat.succ 0))) = AV.toI (f (0 + Int.toNat (↑i : Int)) (Nat.succ (Nat.succ 0))))) (cond (decide (AV.toI (f (0 + Int.toNat (↑i : Int)) (Nat.succ (Nat.succ (Nat.succ 0)))) = AV.toI (f (0 + Int.toNat (↑i : Int)) (Nat.succ (Nat.succ (Nat.succ 0)))))) (cond (nl == nl) (cond (Nat.beq n n) (cond (Nat.beq n n) (cond (!(AV.toI (f (0 + Int.toNat (↑i : Int)) 0) == AV.toI (g (0 + Int.toNat (↑i : Int)) 0) && (AV.toI (f (0 + Int.toNat (↑i : Int)) (Nat.succ 0)) == AV.toI (g (0 + Int.toNat (↑i : Int)) (Nat.succ 0)) && (AV.toI (f (0 + Int.toNat (↑i : Int)) (Nat.succ (Nat.succ 0))) == AV.toI (g (0 + Int.toNat (↑i : Int)) (Nat.succ (Nat.succ 0))) && (AV.toI (f (0 + Int.toNat (↑i : Int)) (Nat.succ (Nat.succ (Nat.succ 0)))) == AV.toI (g (0 + Int.toNat (↑i : Int)) (Nat.succ (Nat.succ (Nat.succ 0)))) && true) && true))))
  (some (2, (CS.mk [(AV.bool (false))] [])))
  (some (0, (CS.mk [(AV.ptr (0) (0)), (AV.ptr (1) (0)), (AV.int IntKind.i64 (IntKind.wrap IntKind.i64 ((↑i : Int) + 1)))] [some (AObj.cells [(AV.int IntKind.u64 (ix)), (AV.int IntKind.u64 (tm)), (AV.int IntKind.u64 (st)), (AV.int IntKind.i64 (kd)), (AV.int IntKind.u64 (cl)), (AV.int IntKind.u64 (rq)), (AV.int IntKind.u32 (fr)), (AV.int IntKind.u32 (ct)), (AV.str (d)), (AV.osl (nl) (2) (0) (n) (n) (4) (true))] true), some (AObj.cells [(AV.int IntKind.u64 (ix2)), (AV.int IntKind.u64 (tm2)), (AV.int IntKind.u64 (st2)), (AV.int IntKind.i64 (kd2)), (AV.int IntKind.u64 (cl2)), (AV.int IntKind.u64 (rq2)), (AV.int IntKind.u32 (fr2)), (AV.int IntKind.u32 (ct2)), (AV.str (d2)), (AV.osl (nl2) (3) (0) (m) (m) (4) (true))] true), some (AObj.tarr [Sh.int IntKind.u64, Sh.int IntKind.u64, Sh.int IntKind.u32, Sh.int IntKind.u32] (n) f false), some (AObj.tarr [Sh.int IntKind.u64, Sh.int IntKind.u64, Sh.int IntKind.u32, Sh.int IntKind.u32] (m) g false)])))) none) none) none) none) none) none) none) none) none) none) none) none) none) none) none) none)
  none)
  none)
  none) none)
  (some (1, (CS.mk [] [])))) := by kernel_rfl
theorem s18_eq (ix : Int) (tm : Int) (st : Int) (kd : Int) (cl : Int) (rq : Int) (fr : Int) (ct : Int) (d : List Nat) (ix2 : Int) (tm2 : Int) (st2 : Int) (kd2 : Int) (cl2 : Int) (rq2 : Int) (fr2 : Int) (ct2 : Int) (d2 : List Nat) (nl : Bool) (nl2 : Bool) (n : Nat) (m : Nat) (f : Nat → Nat → AV) (g : Nat → Nat → AV) (i : Nat) : s18 ix tm st kd cl rq fr ct d ix2 tm2 st2 kd2 cl2 rq2 fr2 ct2 d2 nl nl2 n m f g i s18_p = (cond (decide ((↑i : Int) < (↑n : Int)))
  (cond (Nat.blt (0 + Int.toNat (↑i : Int)) n)
  (cond (decide ((↑i : Int) < (↑m : Int)))
  (cond (Nat.blt (0 + Int.toNat (↑i : Int)) m)
  (cond (AV.toI (f (0 + Int.toNat (↑i : Int)) 0) == AV.toI (g (0 + Int.toNat (↑i : Int)) 0) && (AV.toI (f (0 + Int.toNat (↑i : Int)) (Nat.succ 0)) == AV.toI (g (0 + Int.toNat (↑i : Int)) (Nat.succ 0)) && (AV.toI (f (0 + Int.toNat (↑i : Int)) (Nat.succ (Nat.succ 0))) == AV.toI (g (0 + Int.toNat (↑i : Int)) (Nat.succ (Nat.succ 0))) && (AV.toI (f (0 + Int.toNat (↑i : Int)) (Nat.succ (Nat.succ (Nat.succ 0)))) == AV.toI (g (0 + Int.toNat (↑i : Int)) (Nat.succ (Nat.succ (Nat.succ 0)))) && true) && true)))
  (some (0, (CS.mk [(AV.ptr (0) (0)), (AV.ptr (1) (0)), (AV.int IntKind.i64 (IntKind.wrap IntKind.i64 ((↑i : Int) + 1)))] [some (AObj.cells [(AV.int IntKind.u64 (ix)), (AV.int IntKind.u64 (tm)), (AV.int IntKind.u64 (st)), (AV.int IntKind.i64 (kd)), (AV.int IntKind.u64 (cl)), (AV.int IntKind.u64 (rq)), (AV.int IntKind.u32 (fr)), (AV.int IntKind.u32 (ct)), (AV.str (d)), (AV.osl (nl) (2) (0) (n) (n) (4) (true))] true), some (AObj.cells [(AV.int IntKind.u64 (ix2)), (AV.int IntKind.u64 (tm2)), (AV.int IntKind.u64 (st2)), (AV.int IntKind.i64 (kd2)), (AV.int IntKind.u64 (cl2)), (AV.int IntKind.u64 (rq2)), (AV.int IntKind.u32 (fr2)), (AV.int IntKind.u32 (ct2)), (AV.str (d2)), (AV.osl (nl2) (3) (0) (m) (m) (4) (true))] true), some (AObj.tarr [Sh.int IntKind.u64, Sh.int IntKind.u64, Sh.int IntKind.u32, Sh.int IntKind.u32] (n) f false), some (AObj.tarr [Sh.int IntKind.u64, Sh.int IntKind.u64, Sh.int IntKind.u32, Sh.int IntKind.u32] (m) g false)])))
  (some (2, (CS.mk [(AV.bool (false))] []))))
  none)
  none)
  none)
  (some (1, (CS.mk [] [])))) := by
  rw [s18_is]
  try simp only [eq_self, decide_true, beq_self_eq_true, Nat.beq_refl, ble_self, Int.le_refl, Nat.le_refl]
  cases (decide ((↑i : Int) < (↑n : Int))) with
  | true =>
    cases (Nat.blt (0 + Int.toNat (↑i : Int)) n) with
    | true =>
      cases (decide ((↑i : Int) < (↑m : Int))) with
      | true =>
        cases (Nat.blt (0 + Int.toNat (↑i : Int)) m) with
        | true =>
          cases (AV.toI (f (0 + Int.toNat (↑i : Int)) 0) == AV.toI (g (0 + Int.toNat (↑i : Int)) 0) && (AV.toI (f (0 + Int.toNat (↑i : Int)) (Nat.succ 0)) == AV.toI (g (0 + Int.toNat (↑i : Int)) (Nat.succ 0)) && (AV.toI (f (0 + Int.toNat (↑i : Int)) (Nat.succ (Nat.succ 0))) == AV.toI (g (0 + Int.toNat (↑i : Int)) (Nat.succ (Nat.succ 0))) && (AV.toI (f (0 + Int.toNat (↑i : Int)) (Nat.succ (Nat.succ (Nat.succ 0)))) == AV.toI (g (0 + Int.toNat (↑i : Int)) (Nat.succ (Nat.succ (Nat.succ 0)))) && true) && true))) with
          | true =>
            rfl
          | false =>
            rfl
        | false =>
          rfl
      | false =>
        rfl
    | false =>
      rfl
  | false =>
    rfl

noncomputable def k18 (ix : Int) (tm : Int) (st : Int) (kd : Int) (cl : Int) (rq : Int) (fr : Int) (ct : Int) (d : List Nat) (ix2 : Int) (tm2 : Int) (st2 : Int) (kd2 : Int) (cl2 : Int) (rq2 : Int) (fr2 : Int) (ct2 : Int) (d2 : List Nat) (nl : Bool) (nl2 : Bool) (n : Nat) (m : Nat) (f : Nat → Nat → AV) (g : Nat → Nat → AV) (π : Plan) : Option CS := callC (F9) (1000) (16) (0) (.keep) ([]) π (a17 ix tm st kd cl rq fr ct d ix2 tm2 st2 kd2 cl2 rq2 fr2 ct2 d2 nl nl2 n m f g)
def k18_p : Plan := (.fork (.must true (.must true (.must true (.must true (.must true (.fork (.must true (.must true (.must true (.must true (.must true (.must true (.must true (.must true (.must true (.must true (.must true (.must true (.must true (.must true (.must true (.must true (.must true (.reck 1 (.must true (.must true (.must true (.must true (.must true (.must true (.must true (.must true (.must true (.must true (.must true (.must true (.reck 1 (.must true (.must true (.must true (.must true (.must true (.must true (.must true (.must true (.must true (.must true (.must true (.must true (.reck 1 (.must true (.must true (.must true (.must true (.fork (.must true (.must true (.must true (.must true (.must false (.fork (.must true (.must true (.must true (.must true (.must false (.fork (.must true (.must true (.must true (.must true (.must false (.fork (.must true (.must true (.must true (.must true (.must true (.must true (.must false (.fork .stop (.reck 1 (.must true (.must true (.reck 1 (.must true (.reck 1 (.must true (.must true (.must true (.fork .stop .stop)))))))))))))))))) (.must false (.must false (.must false (.must false (.must false (.must false (.must true .stop))))))))))))) (.must false (.must false (.must false (.must false (.must true .stop))))))))))) (.must false (.must false (.must false (.must false (.must true .stop))))))))))) (.must false (.must false (.must false (.must false (.must true .stop)))))))))))))))))))))))))))))))))))))))))))))))))))))) (.must false (.must false (.must false (.must false (.must false (.must true (.must true (.must true (.must true (.must true (.must true (.must true (.must true (.must true (.must true (.reck 1 (.must true (.must true (.must true (.must true (.must true (.must true (.must true (.must true (.must true (.must true (.must true (.must true (.reck 1 (.must true (.must true (.must true (.must true (.must true (.must true (.must true (.must true (.must true (.must true (.must true (.must true (.reck 1 (.must true (.must true (.must true (.must true .stop)))))))))))))))))))))))))))))))))))))))))))))))))))) (.must false (.must false (.must false (.must false (.must false (.reck 6 (.must true (.must true .stop)))))))))
theorem k18_is (ix : Int) (tm : Int) (st : Int) (kd : Int) (cl : Int) (rq : Int) (fr : Int) (ct : Int) (d : List Nat) (ix2 : Int) (tm2 : Int) (st2 : Int) (kd2 : Int) (cl2 : Int) (rq2 : Int) (fr2 : Int) (ct2 : Int) (d2 : List Nat) (nl : Bool) (nl2 : Bool) (n : Nat) (m : Nat) (f : Nat → Nat → AV) (g : Nat → Nat → AV) : k18 ix tm st kd cl rq fr ct d ix2 tm2 st2 kd2 cl2 rq2 fr2 ct2 d2 nl nl2 n m f g k18_p = (cond ((kd == kd2) == true)
  (cond ((kd == kd2) == true) (cond ((kd == kd2) == true) (cond ((kd == kd2) == true) (cond ((kd == kd2) == true) (cond (kd == kd2) (cond ((cl == cl2 && (rq == rq2 && (fr == fr2 && (ct == ct2 && true) && true))) == true)
  (cond ((cl == cl2 && (rq == rq2 && (fr == fr2 && (ct == ct2 && true) && true))) == true) (cond ((cl == cl2 && (rq == rq2 && (fr == fr2 && (ct == ct2 && true) && true))) == true) (cond ((cl == cl2 && (rq == rq2 && (fr == fr2 && (ct == ct2 && true) && true))) == true) (cond ((cl == cl2 && (rq == rq2 && (fr == fr2 && (ct == ct2 && true) && true))) == true) (cond (cl == cl2 && (rq == rq2 && (fr == fr2 && (ct == ct2 && true) && true))) (cond (d2 == d2) (cond (d == d) (cond (decide (ix2 = ix2)) (cond (decide (tm2 = tm2)) (cond (decide (st2 = st2)) (cond (decide (kd2 = kd2)) (cond (decide (cl2 = cl2)) (cond (decide (rq2 = rq2)) (cond (decide (fr2 = fr2)) (cond (decide (ct2 = ct2)) (cond (d2 == d2) (cond (nl2 == nl2) (cond (Nat.beq m m) (cond (Nat.beq m m) (cond (decide (ix2 = ix2)) (cond (decide (tm2 = tm2)) (cond (decide (st2 = st2)) (cond (decide (kd2 = kd2)) (cond (decide (cl2 = cl2)) (cond (decide (rq2 = rq2)) (cond (decide (fr2 = fr2)) (cond (decide (ct2 = ct2)) (cond (d2 == d2) (cond (nl2 == nl2) (cond (Nat.beq m m) (cond (Nat.beq m m) (cond (decide (ix = ix)) (cond (decide (tm = tm)) (cond (decide (st = st)) (cond (decide (kd = kd)) (cond (decide (cl = cl)) (cond (decide (rq = rq)) (cond (decide (fr = fr)) (cond (decide (ct = ct)) (cond (d == d) (cond (nl == nl) (cond (Nat.beq n n) (cond (Nat.beq n n) (cond (decide (kd2 = kd2)) (cond (decide (kd = kd)) (cond ((!d == d2) == false)
  (cond ((!d == d2) == false) (cond ((!d == d2) == false) (cond ((!d == d2) == false) (cond ((!d == d2) == false) (cond (!d == d2) none (cond ((ix != ix2) == false)
  (cond ((ix != ix2) == false) (cond ((ix != ix2) == false) (cond ((ix != ix2) == false) (cond ((ix != ix2) == false) (cond (ix != ix2) none (cond ((tm != tm2) == false)
  (cond ((tm != tm2) == false) (cond ((tm != tm2) == false) (cond ((tm != tm2) == false) (cond ((tm != tm2) == false) (cond (tm != tm2) none (cond ((st != st2) == false)
  (cond ((st != st2) == false) (cond ((st != st2) == false) (cond ((st != st2) == false) (cond ((st != st2) == false) (cond ((st != st2) == false) (cond ((st != st2) == false) (cond (st != st2) none (cond ((↑n : Int) != (↑m : Int))
  (some (CS.mk [(AV.bool (false))] []))
  (cond (decide (n = n)) (cond (decide (m = m)) (cond (decide (n = n)) (cond (decide (m = m)) (cond (!(↑n : Int) != (↑m : Int)) (cond (Nat.ble n 1000000) (cond ((allE f g (n)))
  (some (CS.mk [(AV.bool (true))] []))
  (some (CS.mk [(AV.bool (false))] []))) none) none) none) none) none) none))) none) none) none) none) none) none)
  (cond ((st != st2) == false) none (cond ((st != st2) == false) none (cond ((st != st2) == false) none (cond ((st != st2) == false) none (cond ((st != st2) == false) none (cond ((st != st2) == false) none (cond (st != st2) (some (CS.mk [(AV.bool (false))] [])) none))))))))) none) none) none) none)
  (cond ((tm != tm2) == false) none (cond ((tm != tm2) == false) none (cond ((tm != tm2) == false) none (cond ((tm != tm2) == false) none (cond (tm != tm2) (some (CS.mk [(AV.bool (false))] [])) none))))))) none) none) none) none)
  (cond ((ix != ix2) == false) none (cond ((ix != ix2) == false) none (cond ((ix != ix2) == false) none (cond ((ix != ix2) == false) none (cond (ix != ix2) (some (CS.mk [(AV.bool (false))] [])) none))))))) none) none) none) none)
  (cond ((!d == d2) == false) none (cond ((!d == d2) == false) none (cond ((!d == d2) == false) none (cond ((!d == d2) == false) none (cond (!d == d2) (some (CS.mk [(AV.bool (false))] [])) none)))))) none) none) none) none) none) none) none) none) none) none) none) none) none) none) none) none) none) none) none) none) none) none) none) none) none) none) none) none) none) none) none) none) none) none) none) none) none) none) none) none) none) none) none) none) none)
  (cond ((cl == cl2 && (rq == rq2 && (fr == fr2 && (ct == ct2 && true) && true))) == true) none (cond ((cl == cl2 && (rq == rq2 && (fr == fr2 && (ct == ct2 && true) && true))) == true) none (cond ((cl == cl2 && (rq == rq2 && (fr == fr2 && (ct == ct2 && true) && true))) == true) none (cond ((cl == cl2 && (rq == rq2 && (fr == fr2 && (ct == ct2 && true) && true))) == true) none (cond (cl == cl2 && (rq == rq2 && (fr == fr2 && (ct == ct2 && true) && true))) none (cond (decide (ix2 = ix2)) (cond (decide (tm2 = tm2)) (cond (decide (st2 = st2)) (cond (decide (kd2 = kd2)) (cond (decide (cl2 = cl2)) (cond (decide (rq2 = rq2)) (cond (decide (fr2 = fr2)) (cond (decide (ct2 = ct2)) (cond (d2 == d2) (cond (nl2 == nl2) (cond (Nat.beq m m) (cond (Nat.beq m m) (cond (decide (ix2 = ix2)) (cond (decide (tm2 = tm2)) (cond (decide (st2 = st2)) (cond (decide (kd2 = kd2)) (cond (decide (cl2 = cl2)) (cond (decide (rq2 = rq2)) (cond (decide (fr2 = fr2)) (cond (decide (ct2 = ct2)) (cond (d2 == d2) (cond (nl2 == nl2) (cond (Nat.beq m m) (cond (Nat.beq m m) (cond (decide (ix = ix)) (cond (decide (tm = tm)) (cond (decide (st = st)) (cond (decide (kd = kd)) (cond (decide (cl = cl)) (cond (decide (rq = rq)) (cond (decide (fr = fr)) (cond (decide (ct = ct)) (cond (d == d) (cond (nl == nl) (cond (Nat.beq n n) (cond (Nat.beq n n) (cond (decide (kd2 = kd2)) (cond (decide (kd = kd)) (some (CS.mk [(AV.bool (false))] [])) none) none) none) none) none) none) none) none) none) none) none) none) none) none) none) none) none) none) none) none) none) none) none) none) none) none) none) none) none) none) none) none) none) none) none) none) none) none))))))) none) none) none) none) none)
  (cond ((kd == kd2) == true) none (cond ((kd == kd2) == true) none (cond ((kd == kd2) == true) none (cond ((kd == kd2) == true) none (cond (kd == kd2) none (cond (decide (kd2 = kd2)) (cond (decide (kd = kd)) (some (CS.mk [(AV.bool (false))] [])) none) none))))))) := by kernel_rfl
theorem k18_eq (ix : Int) (tm : Int) (st : Int) (kd : Int) (cl : Int) (rq : Int) (fr : Int) (ct : Int) (d : List Nat) (ix2 : Int) (tm2 : Int) (st2 : Int) (kd2 : Int) (cl2 : Int) (rq2 : Int) (fr2 : Int) (ct2 : Int) (d2 : List Nat) (nl : Bool) (nl2 : Bool) (n : Nat) (m : Nat) (f : Nat → Nat → AV) (g : Nat → Nat → AV) (hy0 : (Nat.ble n 1000000) = true) : k18 ix tm st kd cl rq fr ct d ix2 tm2 st2 kd2 cl2 rq2 fr2 ct2 d2 nl nl2 n m f g k18_p = (cond (kd == kd2)
  (cond (cl == cl2 && (rq == rq2 && (fr == fr2 && (ct == ct2 && true) && true)))
  (cond (d == d2)
  (cond (ix != ix2)
  (some (CS.mk [(AV.bool (false))] []))
  (cond (tm != tm2)
  (some (CS.mk [(AV.bool (false))] []))
  (cond (st != st2)
  (some (CS.mk [(AV.bool (false))] []))
  (cond ((↑n : Int) != (↑m : Int))
  (some (CS.mk [(AV.bool (false))] []))
  (cond (allE f g (n))
  (some (CS.mk [(AV.bool (true))] []))
  (some (CS.mk [(AV.bool (false))] [])))))))
  (some (CS.mk [(AV.bool (false))] [])))
  (some (CS.mk [(AV.bool (false))] [])))
  (some (CS.mk [(AV.bool (false))] []))) := by
  rw [k18_is]
  try simp only [hy0, eq_self, decide_true, beq_self_eq_true, Nat.beq_refl, ble_self, Int.le_refl, Nat.le_refl]
  cases (kd == kd2) with
  | true =>
    cases (cl == cl2 && (rq == rq2 && (fr == fr2 && (ct == ct2 && true) && true))) with
    | true =>
      cases (d == d2) with
      | true =>
        cases (ix != ix2) with
        | true =>
          rfl
        | false =>
          cases (tm != tm2) with
          | true =>
            rfl
          | false =>
            cases (st != st2) with
            | true =>
              rfl
            | false =>
              cases ((↑n : Int) != (↑m : Int)) with
              | true =>
                rfl
              | false =>
                cases (allE f g (n)) with
                | true =>
                  rfl
                | false =>
                  rfl
      | false =>
        rfl
    | false =>
      rfl
  | false =>
    rfl
def sameR (ix : Int) (tm : Int) (st : Int) (kd : Int) (cl : Int) (rq : Int) (fr : Int) (ct : Int) (d : List Nat) (ix2 : Int) (tm2 : Int) (st2 : Int) (kd2 : Int) (cl2 : Int) (rq2 : Int) (fr2 : Int) (ct2 : Int) (d2 : List Nat) (nl : Bool) (nl2 : Bool) (n : Nat) (m : Nat) (f : Nat → Nat → AV) (g : Nat → Nat → AV) : Bool :=
  (cond (kd == kd2)
  (cond (cl == cl2 && (rq == rq2 && (fr == fr2 && (ct == ct2 && true) && true)))
  (cond (d == d2)
  (cond (ix != ix2)
  false
  (cond (tm != tm2)
  false
  (cond (st != st2)
  false
  (cond ((↑n : Int) != (↑m : Int))
  false
  (cond (allE f g (n))
  true
  false)))))
  false)
  false)
  false)
noncomputable def f18B  (ix : Int) (tm : Int) (st : Int) (kd : Int) (cl : Int) (rq : Int) (fr : Int) (ct : Int) (d : List Nat) (ix2 : Int) (tm2 : Int) (st2 : Int) (kd2 : Int) (cl2 : Int) (rq2 : Int) (fr2 : Int) (ct2 : Int) (d2 : List Nat) (nl : Bool) (nl2 : Bool) (n : Nat) (m : Nat) (f : Nat → Nat → AV) (g : Nat → Nat → AV) : T (CS) :=
  chkT [Nat.ble n 1000000] (.ret ⟨[.bool (sameR ix tm st kd cl rq fr ct d ix2 tm2 st2 kd2 cl2 rq2 fr2 ct2 d2 nl nl2 n m f g)], []⟩)
noncomputable def f18  (c : CS) : T (CS) := match c with
  | ⟨[.agg [.int .u64 ix, .int .u64 tm, .int .u64 st, .int .i64 kd, .int .u64 cl, .int .u64 rq, .int .u32 fr, .int .u32 ct, .str d, .osl nl 0 0 n z_1 4 true], .agg [.int .u64 ix2, .int .u64 tm2, .int .u64 st2, .int .i64 kd2, .int .u64 cl2, .int .u64 rq2, .int .u32 fr2, .int .u32 ct2, .str d2, .osl nl2 1 0 m z_2 4 true]], [some (.tarr sh_3 z_4 f false), some (.tarr sh_5 z_6 g false)]⟩ => chkT [decide (n = z_1), decide (m = z_2), shBeq sh_3 shL, decide (n = z_4), shBeq sh_5 shL, decide (m = z_6)] (f18B  ix tm st kd cl rq fr ct d ix2 tm2 st2 kd2 cl2 rq2 fr2 ct2 d2 nl nl2 n m f g)
  | _ => .fail
noncomputable def F10 : Env := addF F9 16 ⟨frRun [pE, pE] [] f18⟩
theorem k18_S (ix : Int) (tm : Int) (st : Int) (kd : Int) (cl : Int) (rq : Int) (fr : Int) (ct : Int) (d : List Nat) (ix2 : Int) (tm2 : Int) (st2 : Int) (kd2 : Int) (cl2 : Int) (rq2 : Int) (fr2 : Int) (ct2 : Int) (d2 : List Nat) (nl : Bool) (nl2 : Bool) (n : Nat) (m : Nat) (f : Nat → Nat → AV) (g : Nat → Nat → AV) (hy0 : (Nat.ble n 1000000) = true) : k18 ix tm st kd cl rq fr ct d ix2 tm2 st2 kd2 cl2 rq2 fr2 ct2 d2 nl nl2 n m f g k18_p = some ⟨[.bool (sameR ix tm st kd cl rq fr ct d ix2 tm2 st2 kd2 cl2 rq2 fr2 ct2 d2 nl nl2 n m f g)], []⟩ := by
  rw [k18_is]
  unfold sameR
  try simp only [hy0, eq_self, decide_true, beq_self_eq_true, Nat.beq_refl, ble_self, Int.le_refl, Nat.le_refl]
  cases (kd == kd2) with
  | true =>
    cases (cl == cl2 && (rq == rq2 && (fr == fr2 && (ct == ct2 && true) && true))) with
    | true =>
      cases (d == d2) with
      | true =>
        cases (ix != ix2) with
        | true =>
          rfl
        | false =>
          cases (tm != tm2) with
          | true =>
            rfl
          | false =>
            cases (st != st2) with
            | true =>
              rfl
            | false =>
              cases ((↑n : Int) != (↑m : Int)) with
              | true =>
                rfl
              | false =>
                cases (allE f g (n)) with
                | true =>
                  rfl
                | false =>
                  rfl
      | false =>
        rfl
    | false =>
      rfl
  | false =>
    rfl
def okW (off N : Nat) (f : Nat → Nat → AV) : List (Option AObj) := [some (.cells [.osl false 1 off (N - off) (N - off) 1 true, .bool false] true), some (.tarr shB N f true)]
def a32w (off : Nat) (N : Nat) (f : Nat → Nat → AV) (w : Int) : CS :=
  ⟨[.ptr 0 0, .int .i64 w], [some (.cells [.osl false 1 off (N - off) (N - off) 1 true, .bool false] true), some (.tarr shB N f true)]⟩
def rkw (off : Nat) (N : Nat) (f : Nat → Nat → AV) : CS :=
  ⟨[.ptr 0 0], [some (.cells [.osl false 1 off (N - off) (N - off) 1 true, .bool false] true), some (.tarr shB N f true)]⟩
def c32w (v : Int) (off : Nat) (n : Nat) (N : Nat) (f : Nat → Nat → AV) (i : Nat) : CS :=
  ⟨[.int .u64 v, (.func (.func 43) [] []), .osl false 0 off n n 1 true, .int .i64 (n : Nat), .int .i64 (i : Nat)], [some (.tarr shB N f true)]⟩
noncomputable def r32wB  (off : Nat) (n : Nat) (N : Nat) (f : Nat → Nat → AV) : T (Nat × CS) :=
  chkT [okB f N, Nat.ble n 8, Nat.ble (off + n) N] (.ret (1, ⟨[.int .u64 (val f off n)], [some (.tarr shB N f true)]⟩))
noncomputable def r32w  (c : CS) : T (Nat × CS) := match c with
  | ⟨[.int .u64 z_1, (.func (.func 43) [] []), .osl z_2 0 off n z_3 1 true, .int .i64 z_4, .int .i64 z_5], [some (.tarr sh_6 N f true)]⟩ => chkT [decide (0 = z_1), decide (false = z_2), decide (n = z_3), decide ((n : Nat) = z_4), decide (0 = z_5), shBeq sh_6 shB] (r32wB  off n N f)
  | _ => .fail
noncomputable def W2 : Env := addL E1 32 0 1000016 h32 x32 1 r32w
noncomputable def q32wB  (off : Nat) (N : Nat) (f : Nat → Nat → AV) (w : Int) : T (CS) :=
  chkT [!(decide (w < 1)), !(decide (w > 8)), okB f N, Nat.ble off N, Nat.ble N 1000000] (.ask (Nat.blt N (off + w.toNat)) (.ret ⟨[.int .u64 0], failP⟩) (.ret ⟨[.int .u64 (val f off w.toNat)], okW (off + w.toNat) N f⟩))
noncomputable def q32w  (c : CS) : T (CS) := match c with
  | ⟨[.ptr 0 0, .int .i64 w], [some (.cells [.osl z_1 1 off z_2 z_3 1 true, .bool z_4] true), some (.tarr sh_5 N f true)]⟩ => chkT [decide (false = z_1), decide ((N - off) = z_2), decide ((N - off) = z_3), decide (false = z_4), shBeq sh_5 shB] (q32wB  off N f w)
  | _ => .fail
noncomputable def q32x (c : CS) : T CS := cond (badP c) (q32f c) (q32w c)
noncomputable def W3 : Env := addF W2 32 ⟨fiRun [.keep, .keep] [pR] 1 q32x⟩
noncomputable def q34wB  (off : Nat) (N : Nat) (f : Nat → Nat → AV) : T (CS) :=
  chkT [okB f N, Nat.ble off N, Nat.ble N 1000000] (.ask (Nat.blt N (off + 2)) (.ret ⟨[.str []], failP⟩) (.ask (decide (val f off 2 > 16384)) (.ret ⟨[.str []], failP⟩) (.ask (Nat.blt N (off + 2 + (val f off 2).toNat)) (.ret ⟨[.str []], failP⟩) (.ret ⟨[.str (strV f (off + 2) (val f off 2).toNat)], okW (off + 2 + (val f off 2).toNat) N f⟩))))
noncomputable def q34w  (c : CS) : T (CS) := match c with
  | ⟨[.ptr 0 0], [some (.cells [.osl z_1 1 off z_2 z_3 1 true, .bool z_4] true), some (.tarr sh_5 N f true)]⟩ => chkT [decide (false = z_1), decide ((N - off) = z_2), decide ((N - off) = z_3), decide (false = z_4), shBeq sh_5 shB] (q34wB  off N f)
  | _ => .fail
noncomputable def q33wB  (off : Nat) (N : Nat) (f : Nat → Nat → AV) : T (CS) :=
  chkT [okB f N, Nat.ble off N, Nat.ble N 1000000] (.ask (Nat.blt N (off + 8)) (.ret ⟨[.agg [.int .u64 0, .int .u64 0, .int .u32 0, .int .u32 0]], failP⟩) (.ask (Nat.blt N (off + 16)) (.ret ⟨[.agg [.int .u64 (val f off 8), .int .u64 0, .int .u32 0, .int .u32 0]], failP⟩) (.ask (Nat.blt N (off + 20)) (.ret ⟨[.agg [.int .u64 (val f off 8), .int .u64 (val f (off + 8) 8), .int .u32 0, .int .u32 0]], failP⟩) (.ask (Nat.blt N (off + 24)) (.ret ⟨[.agg [.int .u64 (val f off 8), .int .u64 (val f (off + 8) 8), .int .u32 (IntKind.wrap .u32 (val f (off + 16) 4)), .int .u32 0]], failP⟩) (.ret ⟨[.agg [.int .u64 (val f off 8), .int .u64 (val f (off + 8) 8), .int .u32 (IntKind.wrap .u32 (val f (off + 16) 4)), .int .u32 (IntKind.wrap .u32 (val f (off + 20) 4))]], okW (off + 24) N f⟩)))))
noncomputable def q33w  (c : CS) : T (CS) := match c with
  | ⟨[.ptr 0 0], [some (.cells [.osl z_1 1 off z_2 z_3 1 true, .bool z_4] true), some (.tarr sh_5 N f true)]⟩ => chkT [decide (false = z_1), decide ((N - off) = z_2), decide ((N - off) = z_3), decide (false = z_4), shBeq sh_5 shB] (q33wB  off N f)
  | _ => .fail
noncomputable def q34x (c : CS) : T CS := cond (badP c) (q34f c) (q34w c)
noncomputable def q33x (c : CS) : T CS := cond (badP c) (q33f c) (q33w c)
noncomputable def W4 : Env := addF W3 34 ⟨fiRun [.keep] [pR] 1 q34x⟩
noncomputable def W5 : Env := addF W4 33 ⟨fiRun [.keep] [pR] 1 q33x⟩
def c14tw (off : Nat) (N : Nat) (f : Nat → Nat → AV) (ix : Int) (tm : Int) (st : Int) (kd : Int) (cl : Int) (rq : Int) (fr : Int) (ct : Int) (d : List Nat) (n : Int) (i : Nat) : CS :=
  ⟨[.ptr 0 0, .ptr 1 0, .ptr 2 0, .int .i64 n, .int .i64 (i : Nat)], [some (.cells [.osl false 3 off (N - off) (N - off) 1 true, .bool false] true), some (.cells [.bad, .bad, .bad, .bad, .bad, .bad, .bad, .bad, .bad, .bad] true), some (.cells [.int .u64 ix, .int .u64 tm, .int .u64 st, .int .i64 kd, .int .u64 cl, .int .u64 rq, .int .u32 fr, .int .u32 ct, .str d, .nilSlice] true), some (.tarr shB N f true), none]⟩
def c14fw (off : Nat) (N : Nat) (f : Nat → Nat → AV) (ix : Int) (tm : Int) (st : Int) (kd : Int) (cl : Int) (rq : Int) (fr : Int) (ct : Int) (d : List Nat) (m : Nat) (g : Nat → Nat → AV) (n : Int) (i : Nat) : CS :=
  ⟨[.ptr 0 0, .ptr 1 0, .ptr 2 0, .int .i64 n, .int .i64 (i : Nat)], [some (.cells [.osl false 3 off (N - off) (N - off) 1 true, .bool false] true), some (.cells [.bad, .bad, .bad, .bad, .bad, .bad, .bad, .bad, .bad, .bad] true), some (.cells [.int .u64 ix, .int .u64 tm, .int .u64 st, .int .i64 kd, .int .u64 cl, .int .u64 rq, .int .u32 fr, .int .u32 ct, .str d, .osl false 4 0 m m 4 true] true), some (.tarr shB N f true), some (.tarr shL m g true)]⟩
noncomputable def r14wo (c : CS) : T (Nat × CS) := match c with
  | ⟨[.ptr 0 0, .ptr 1 0, .ptr 2 0, .int .i64 n, .int .i64 z0], [some (.cells [.osl false 3 off l l2 1 true, .bool false] true), some (.cells [_, _, _, _, _, _, _, _, _, _] true), some (.cells [.int .u64 ix, .int .u64 tm, .int .u64 st, .int .i64 kd, .int .u64 cl, .int .u64 rq, .int .u32 fr, .int .u32 ct, .str d, .osl z1 4 _ _ _ 4 _] true), some (.tarr sh N f true), some _]⟩ =>
    chkT [decide (z0 = 0), decide (l = N - off), decide (l2 = N - off), z1, shBeq sh shB, okB f N, Nat.ble off N, Nat.ble N 1000000, !(decide (n > 64))]
      (.ask (Nat.beq n.toNat 0) (.ret (1, ⟨[.ptr 0 0, .ptr 1 0, .ptr 2 0], [some (.cells [.osl false 3 off (N - off) (N - off) 1 true, .bool false] true), some (.cells b10 true), some (.cells [.int .u64 ix, .int .u64 tm, .int .u64 st, .int .i64 kd, .int .u64 cl, .int .u64 rq, .int .u32 fr, .int .u32 ct, .str d, .nilSlice] true), some (.tarr shB N f true)]⟩)) (.ask (Nat.blt N (off + 24 * n.toNat)) (.ret (1, FAIL14))
        (.ret (1, ⟨[.ptr 0 0, .ptr 1 0, .ptr 2 0], [some (.cells [.osl false 3 (off + 24 * n.toNat) (N - (off + 24 * n.toNat)) (N - (off + 24 * n.toNat)) 1 true, .bool false] true), some (.cells b10 true), some (.cells [.int .u64 ix, .int .u64 tm, .int .u64 st, .int .i64 kd, .int .u64 cl, .int .u64 rq, .int .u32 fr, .int .u32 ct, .str d, .osl false 4 0 n.toNat n.toNat 4 true] true), some (.tarr shB N f true), some (.tarr shL n.toNat (lookF f off) true)]⟩))))
  | _ => .fail
noncomputable def r14w (c : CS) : T (Nat × CS) := cond (badP c) (r14f c) (r14wo c)
noncomputable def W6 : Env := addL W5 14 0 1000015 h14 x14 1 r14w
noncomputable def q14wB  (off : Nat) (N : Nat) (f : Nat → Nat → AV) : T (CS) :=
  chkT [okB f N, Nat.ble off N, Nat.ble N 1000000] (.ask (entOK f off N) (.ask (Nat.beq (bnum f off) 0) (.ret ⟨[eVal f off .nilSlice], [some (.cells [.osl false 1 (eEnd f off) (N - (eEnd f off)) (N - (eEnd f off)) 1 true, .bool false] true)] ++ [some (.tarr shB N f true)]⟩) (.ret ⟨[eVal f off (.tsl 1 0 (bnum f off) (bnum f off) 4 true)], [some (.cells [.osl false 2 (eEnd f off) (N - (eEnd f off)) (N - (eEnd f off)) 1 true, .bool false] true)] ++ [some (.tarr shL (bnum f off) (lookF f (off + (51 + (tlen f off + 1)))) true), some (.tarr shB N f true)]⟩)) (.ret ⟨[eZero], failP⟩))
noncomputable def q14w  (c : CS) : T (CS) := match c with
  | ⟨[.ptr 0 0], [some (.cells [.osl z_1 1 off z_2 z_3 1 true, .bool z_4] true), some (.tarr sh_5 N f true)]⟩ => chkT [decide (false = z_1), decide ((N - off) = z_2), decide ((N - off) = z_3), decide (false = z_4), shBeq sh_5 shB] (q14wB  off N f)
  | _ => .fail
/-- May the bytes be written. -/
def rwP (c : CS) : Bool := match c.os with
  | [_, some (.tarr _ _ _ b)] => b
  | _ => false
noncomputable def q14x (c : CS) : T CS := cond (rwP c) (q14w c) (q14o c)
noncomputable def s32w (β : BinOp → IntKind → Int → Int → Int) (v : Int) (off : Nat) (n : Nat) (N : Nat) (f : Nat → Nat → AV) (i : Nat) (π : Plan) : Option (Nat × CS) := stepC (Eb β) (300) (loopC E1 32 0) (1) (h32) ((.normal, h32) :: x32) π (c32w v off n N f i)
def s32w_p : Plan := (.fork (.reck 1 (.must true (.fork (.fork .stop .stop) .stop))) .stop)
theorem s32w_is (β : Go.BinOp → Go.IntKind → Int → Int → Int) (v : Int) (off : Nat) (n : Nat) (N : Nat) (f : Nat → Nat → AV) (i : Nat) : s32w β v off n N f i s32w_p = (cond (decide ((↑i : Int) < (↑n : Int)))
  (cond (decide ((↑i : Int) < (↑n : Int))) (cond (Nat.blt (off + Int.toNat (↑i : Int)) N)
  (cond (!decide (IntKind.wrap IntKind.i64 (8 * (↑i : Int)) < 0))
  (some (0, (CS.mk [(AV.int IntKind.u64 (β BinOp.or IntKind.u64 v (IntKind.wrap IntKind.u64 (IntKind.wrap IntKind.u64 (AV.toI (f (off + Int.toNat (↑i : Int)) 0)) * 2 ^ min (Int.toNat (IntKind.wrap IntKind.i64 (8 * (↑i : Int)))) (IntKind.bits IntKind.u64))))), (AV.func (Fn.func 43) [] []), (AV.osl (false) (0) (off) (n) (n) (1) (true)), (AV.int IntKind.i64 ((↑n : Int))), (AV.int IntKind.i64 (IntKind.wrap IntKind.i64 ((↑i : Int) + 1)))] [some (AObj.tarr [Sh.int IntKind.u8] (N) f true)])))
  none)
  none) none)
  (some (1, (CS.mk [(AV.int IntKind.u64 (v))] [some (AObj.tarr [Sh.int IntKind.u8] (N) f true)])))) := by kernel_rfl
theorem s32w_eq (β : Go.BinOp → Go.IntKind → Int → Int → Int) (v : Int) (off : Nat) (n : Nat) (N : Nat) (f : Nat → Nat → AV) (i : Nat) : s32w β v off n N f i s32w_p = (cond (decide ((↑i : Int) < (↑n : Int)))
  (cond (Nat.blt (off + Int.toNat (↑i : Int)) N)
  (cond (decide (IntKind.wrap IntKind.i64 (8 * (↑i : Int)) < 0))
  none
  (some (0, (CS.mk [(AV.int IntKind.u64 (β BinOp.or IntKind.u64 v (IntKind.wrap IntKind.u64 (IntKind.wrap IntKind.u64 (AV.toI (f (off + Int.toNat (↑i : Int)) 0)) * 2 ^ min (Int.toNat (IntKind.wrap IntKind.i64 (8 * (↑i : Int)))) (IntKind.bits IntKind.u64))))), (AV.func (Fn.func 43) [] []), (AV.osl (false) (0) (off) (n) (n) (1) (true)), (AV.int IntKind.i64 ((↑n : Int))), (AV.int IntKind.i64 (IntKind.wrap IntKind.i64 ((↑i : Int) + 1)))] [some (AObj.tarr [Sh.int IntKind.u8] (N) f true)]))))
  none)
  (some (1, (CS.mk [(AV.int IntKind.u64 (v))] [some (AObj.tarr [Sh.int IntKind.u8] (N) f true)])))) := by
  rw [s32w_is]
  try simp only [eq_self, decide_true, beq_self_eq_true, Nat.beq_refl, ble_self, Int.le_refl, Nat.le_refl]
  cases (decide ((↑i : Int) < (↑n : Int))) with
  | true =>
    cases (Nat.blt (off + Int.toNat (↑i : Int)) N) with
    | true =>
      cases (decide (IntKind.wrap IntKind.i64 (8 * (↑i : Int)) < 0)) with
      | true =>
        rfl
      | false =>
        rfl
    | false =>
      rfl
  | false =>
    rfl

noncomputable def k32w (off : Nat) (N : Nat) (f : Nat → Nat → AV) (w : Int) (π : Plan) : Option CS := callC (F2) (1000) (32) (1) (.keep) ([pR]) π (a32w off N f w)
def k32w_p : Plan := (.reck 1 (.fork (.must true (.must false (.fork .stop (.fork (.must true (.must true (.must true (.must true (.must true (.must true (.must false (.fork (.must true (.must true (.must true (.must false (.reck 2 (.fork (.fork (.must true (.must true (.must true (.reck 1 (.must true (.must true (.reck 2 (.fork (.fork (.fork .stop .stop) .stop) .stop)))))))) .stop) .stop)))))) (.must false (.must false (.must false (.must true (.reck 6 (.fork .stop .stop)))))))))))))) (.must false (.must false (.must false (.must false (.must false (.must false (.must true (.reck 11 (.fork .stop .stop))))))))))))) (.must false (.must true .stop))))
theorem k32w_is (off : Nat) (N : Nat) (f : Nat → Nat → AV) (w : Int) : k32w off N f w k32w_p = (cond (decide (w < 1) == false)
  (cond (decide (w < 1) == false) (cond (decide (w < 1)) none (cond (decide (w > 8))
  (some (CS.mk [(AV.int IntKind.u64 (0))] [some (AObj.cells [(AV.osl (true) (1) (0) (0) (0) (1) (true)), (AV.bool (true))] true), some (AObj.tarr [Sh.int IntKind.u8] (0) (fun p_ q_ => AV.bad) true)]))
  (cond (decide (w < 0) == false)
  (cond (decide (w < 0) == false) (cond (decide (w < 0) == false) (cond (decide (w < 0) == false) (cond (decide (w < 0) == false) (cond (decide (w < 0) == false) (cond (decide (w < 0) == false) (cond (decide (w < 0)) none (cond (decide (w > (↑(N - off) : Int)) == false)
  (cond (decide (w > (↑(N - off) : Int)) == false) (cond (decide (w > (↑(N - off) : Int)) == false) (cond (decide (w > (↑(N - off) : Int)) == false) (cond (decide (w > (↑(N - off) : Int))) none (cond (Nat.ble (Int.toNat w) (N - off))
  (cond (decide (0 ≤ w))
  (cond (Nat.ble (Int.toNat w) (N - off)) (cond (Nat.ble (N - off) (N - off)) (cond (decide (0 ≤ w)) (cond (decide (Int.toNat w - 0 = Int.toNat w - 0)) (cond (decide ((↑(Int.toNat w - 0) : Int) = (↑(Int.toNat w - 0) : Int))) (cond ((okB f (N)))
  (cond (Nat.ble (Int.toNat w - 0) 8)
  (cond (Nat.ble (off + 0 + (Int.toNat w - 0)) N)
  (some (CS.mk [(AV.int IntKind.u64 ((val f (off + 0) (Int.toNat w - 0))))] [some (AObj.cells [(AV.osl (false) (1) (off + Int.toNat w) (N - off - Int.toNat w) (N - off - Int.toNat w) (1) (true)), (AV.bool (false))] true), none]))
  none)
  none)
  none) none) none) none) none) none)
  none)
  none)) none) none) none)
  (cond (decide (w > (↑(N - off) : Int)) == false) none (cond (decide (w > (↑(N - off) : Int)) == false) none (cond (decide (w > (↑(N - off) : Int)) == false) none (cond (decide (w > (↑(N - off) : Int))) (cond ((okB (fun p_ q_ => AV.bad) (0)))
  (some (CS.mk [(AV.int IntKind.u64 ((val (fun p_ q_ => AV.bad) (0) (0))))] [some (AObj.cells [(AV.osl (true) (1) (0) (0) (0) (1) (true)), (AV.bool (true))] true), some (AObj.tarr [Sh.int IntKind.u8] (0) (fun p_ q_ => AV.bad) true)]))
  none) none)))))) none) none) none) none) none) none)
  (cond (decide (w < 0) == false) none (cond (decide (w < 0) == false) none (cond (decide (w < 0) == false) none (cond (decide (w < 0) == false) none (cond (decide (w < 0) == false) none (cond (decide (w < 0) == false) none (cond (decide (w < 0)) (cond ((okB (fun p_ q_ => AV.bad) (0)))
  (some (CS.mk [(AV.int IntKind.u64 ((val (fun p_ q_ => AV.bad) (0) (0))))] [some (AObj.cells [(AV.osl (true) (1) (0) (0) (0) (1) (true)), (AV.bool (true))] true), some (AObj.tarr [Sh.int IntKind.u8] (0) (fun p_ q_ => AV.bad) true)]))
  none) none)))))))))) none)
  (cond (decide (w < 1) == false) none (cond (decide (w < 1)) (some (CS.mk [(AV.int IntKind.u64 (0))] [some (AObj.cells [(AV.osl (true) (1) (0) (0) (0) (1) (true)), (AV.bool (true))] true), some (AObj.tarr [Sh.int IntKind.u8] (0) (fun p_ q_ => AV.bad) true)])) none))) := by kernel_rfl
theorem k32w_eq (off : Nat) (N : Nat) (f : Nat → Nat → AV) (w : Int) : k32w off N f w k32w_p = (cond (decide (w < 1))
  (some (CS.mk [(AV.int IntKind.u64 (0))] [some (AObj.cells [(AV.osl (true) (1) (0) (0) (0) (1) (true)), (AV.bool (true))] true), some (AObj.tarr [Sh.int IntKind.u8] (0) (fun p_ q_ => AV.bad) true)]))
  (cond (decide (w > 8))
  (some (CS.mk [(AV.int IntKind.u64 (0))] [some (AObj.cells [(AV.osl (true) (1) (0) (0) (0) (1) (true)), (AV.bool (true))] true), some (AObj.tarr [Sh.int IntKind.u8] (0) (fun p_ q_ => AV.bad) true)]))
  (cond (decide (w < 0))
  (cond (okB (fun p_ q_ => AV.bad) (0))
  (some (CS.mk [(AV.int IntKind.u64 ((val (fun p_ q_ => AV.bad) (0) (0))))] [some (AObj.cells [(AV.osl (true) (1) (0) (0) (0) (1) (true)), (AV.bool (true))] true), some (AObj.tarr [Sh.int IntKind.u8] (0) (fun p_ q_ => AV.bad) true)]))
  none)
  (cond (decide (w > (↑(N - off) : Int)))
  (cond (okB (fun p_ q_ => AV.bad) (0))
  (some (CS.mk [(AV.int IntKind.u64 ((val (fun p_ q_ => AV.bad) (0) (0))))] [some (AObj.cells [(AV.osl (true) (1) (0) (0) (0) (1) (true)), (AV.bool (true))] true), some (AObj.tarr [Sh.int IntKind.u8] (0) (fun p_ q_ => AV.bad) true)]))
  none)
  (cond (Nat.ble (Int.toNat w) (N - off))
  (cond (decide (0 ≤ w))
  (cond (okB f (N))
  (cond (Nat.ble (Int.toNat w - 0) 8)
  (cond (Nat.ble (off + 0 + (Int.toNat w - 0)) N)
  (some (CS.mk [(AV.int IntKind.u64 ((val f (off + 0) (Int.toNat w - 0))))] [some (AObj.cells [(AV.osl (false) (1) (off + Int.toNat w) (N - off - Int.toNat w) (N - off - Int.toNat w) (1) (true)), (AV.bool (false))] true), none]))
  none)
  none)
  none)
  none)
  none))))) := by
  rw [k32w_is]
  try simp only [eq_self, decide_true, beq_self_eq_true, Nat.beq_refl, ble_self, Int.le_refl, Nat.le_refl]
  cases (decide (w < 1)) with
  | true =>
    rfl
  | false =>
    cases (decide (w > 8)) with
    | true =>
      rfl
    | false =>
      cases (decide (w < 0)) with
      | true =>
        cases (okB (fun p_ q_ => AV.bad) (0)) with
        | true =>
          rfl
        | false =>
          rfl
      | false =>
        cases (decide (w > (↑(N - off) : Int))) with
        | true =>
          cases (okB (fun p_ q_ => AV.bad) (0)) with
          | true =>
            rfl
          | false =>
            rfl
        | false =>
          cases (Nat.ble (Int.toNat w) (N - off)) with
          | true =>
            cases (decide (0 ≤ w)) with
            | true =>
              cases (okB f (N)) with
              | true =>
                cases (Nat.ble (Int.toNat w - 0) 8) with
                | true =>
                  cases (Nat.ble (off + 0 + (Int.toNat w - 0)) N) with
                  | true =>
                    rfl
                  | false =>
                    rfl
                | false =>
                  rfl
              | false =>
                rfl
            | false =>
              rfl
          | false =>
            rfl

noncomputable def k32v (off : Nat) (N : Nat) (f : Nat → Nat → AV) (w : Int) (π : Plan) : Option CS := callC (W2) (1000) (32) (1) (.keep) ([pR]) π (a32w off N f w)
def k32v_p : Plan := (.reck 1 (.fork (.must true (.must false (.fork .stop (.fork (.must true (.must true (.must true (.must true (.must true (.must true (.must false (.fork (.must true (.must true (.must true (.must false (.reck 2 (.fork (.fork (.must true (.must true (.must true (.reck 2 (.must true (.must true (.reck 2 (.fork (.fork (.fork .stop .stop) .stop) .stop)))))))) .stop) .stop)))))) (.must false (.must false (.must false (.must true .stop)))))))))))) (.must false (.must false (.must false (.must false (.must false (.must false (.must true .stop))))))))))) (.must false (.must true .stop))))
theorem k32v_is (off : Nat) (N : Nat) (f : Nat → Nat → AV) (w : Int) : k32v off N f w k32v_p = (cond (decide (w < 1) == false)
  (cond (decide (w < 1) == false) (cond (decide (w < 1)) none (cond (decide (w > 8))
  (some (CS.mk [(AV.int IntKind.u64 (0))] [some (AObj.cells [(AV.osl (true) (1) (0) (0) (0) (1) (true)), (AV.bool (true))] true), some (AObj.tarr [Sh.int IntKind.u8] (0) (fun p_ q_ => AV.bad) true)]))
  (cond (decide (w < 0) == false)
  (cond (decide (w < 0) == false) (cond (decide (w < 0) == false) (cond (decide (w < 0) == false) (cond (decide (w < 0) == false) (cond (decide (w < 0) == false) (cond (decide (w < 0) == false) (cond (decide (w < 0)) none (cond (decide (w > (↑(N - off) : Int)) == false)
  (cond (decide (w > (↑(N - off) : Int)) == false) (cond (decide (w > (↑(N - off) : Int)) == false) (cond (decide (w > (↑(N - off) : Int)) == false) (cond (decide (w > (↑(N - off) : Int))) none (cond (Nat.ble (Int.toNat w) (N - off))
  (cond (decide (0 ≤ w))
  (cond (Nat.ble (Int.toNat w) (N - off)) (cond (Nat.ble (N - off) (N - off)) (cond (decide (0 ≤ w)) (cond (decide (Int.toNat w - 0 = Int.toNat w - 0)) (cond (decide ((↑(Int.toNat w - 0) : Int) = (↑(Int.toNat w - 0) : Int))) (cond ((okB f (N)))
  (cond (Nat.ble (Int.toNat w - 0) 8)
  (cond (Nat.ble (off + 0 + (Int.toNat w - 0)) N)
  (some (CS.mk [(AV.int IntKind.u64 ((val f (off + 0) (Int.toNat w - 0))))] [some (AObj.cells [(AV.osl (false) (1) (off + Int.toNat w) (N - off - Int.toNat w) (N - off - Int.toNat w) (1) (true)), (AV.bool (false))] true), some (AObj.tarr [Sh.int IntKind.u8] (N) f true)]))
  none)
  none)
  none) none) none) none) none) none)
  none)
  none)) none) none) none)
  (cond (decide (w > (↑(N - off) : Int)) == false) none (cond (decide (w > (↑(N - off) : Int)) == false) none (cond (decide (w > (↑(N - off) : Int)) == false) none (cond (decide (w > (↑(N - off) : Int))) none none)))))) none) none) none) none) none) none)
  (cond (decide (w < 0) == false) none (cond (decide (w < 0) == false) none (cond (decide (w < 0) == false) none (cond (decide (w < 0) == false) none (cond (decide (w < 0) == false) none (cond (decide (w < 0) == false) none (cond (decide (w < 0)) none none)))))))))) none)
  (cond (decide (w < 1) == false) none (cond (decide (w < 1)) (some (CS.mk [(AV.int IntKind.u64 (0))] [some (AObj.cells [(AV.osl (true) (1) (0) (0) (0) (1) (true)), (AV.bool (true))] true), some (AObj.tarr [Sh.int IntKind.u8] (0) (fun p_ q_ => AV.bad) true)])) none))) := by kernel_rfl
theorem k32v_eq (off : Nat) (N : Nat) (f : Nat → Nat → AV) (w : Int) : k32v off N f w k32v_p = (cond (decide (w < 1))
  (some (CS.mk [(AV.int IntKind.u64 (0))] [some (AObj.cells [(AV.osl (true) (1) (0) (0) (0) (1) (true)), (AV.bool (true))] true), some (AObj.tarr [Sh.int IntKind.u8] (0) (fun p_ q_ => AV.bad) true)]))
  (cond (decide (w > 8))
  (some (CS.mk [(AV.int IntKind.u64 (0))] [some (AObj.cells [(AV.osl (true) (1) (0) (0) (0) (1) (true)), (AV.bool (true))] true), some (AObj.tarr [Sh.int IntKind.u8] (0) (fun p_ q_ => AV.bad) true)]))
  (cond (decide (w < 0))
  none
  (cond (decide (w > (↑(N - off) : Int)))
  none
  (cond (Nat.ble (Int.toNat w) (N - off))
  (cond (decide (0 ≤ w))
  (cond (okB f (N))
  (cond (Nat.ble (Int.toNat w - 0) 8)
  (cond (Nat.ble (off + 0 + (Int.toNat w - 0)) N)
  (some (CS.mk [(AV.int IntKind.u64 ((val f (off + 0) (Int.toNat w - 0))))] [some (AObj.cells [(AV.osl (false) (1) (off + Int.toNat w) (N - off - Int.toNat w) (N - off - Int.toNat w) (1) (true)), (AV.bool (false))] true), some (AObj.tarr [Sh.int IntKind.u8] (N) f true)]))
  none)
  none)
  none)
  none)
  none))))) := by
  rw [k32v_is]
  try simp only [eq_self, decide_true, beq_self_eq_true, Nat.beq_refl, ble_self, Int.le_refl, Nat.le_refl]
  cases (decide (w < 1)) with
  | true =>
    rfl
  | false =>
    cases (decide (w > 8)) with
    | true =>
      rfl
    | false =>
      cases (decide (w < 0)) with
      | true =>
        rfl
      | false =>
        cases (decide (w > (↑(N - off) : Int))) with
        | true =>
          rfl
        | false =>
          cases (Nat.ble (Int.toNat w) (N - off)) with
          | true =>
            cases (decide (0 ≤ w)) with
            | true =>
              cases (okB f (N)) with
              | true =>
                cases (Nat.ble (Int.toNat w - 0) 8) with
                | true =>
                  cases (Nat.ble (off + 0 + (Int.toNat w - 0)) N) with
                  | true =>
                    rfl
                  | false =>
                    rfl
                | false =>
                  rfl
              | false =>
                rfl
            | false =>
              rfl
          | false =>
            rfl

noncomputable def k34w (off : Nat) (N : Nat) (f : Nat → Nat → AV) (π : Plan) : Option CS := callC (W3) (1000) (34) (1) (.keep) ([pR]) π (rkw off N f)
def k34w_p : Plan := (.reck 1 (.must true (.must true (.reck 4 (.fork (.fork (.fork (.fork .stop (.reck 1 (.fork (.reck 2 (.fork (.must true (.must true (.must true (.must true (.must true (.must true (.must false (.fork (.must true (.must true (.must true (.must false .stop)))) (.must false (.must false (.must false (.must true .stop)))))))))))) (.must false (.must false (.must false (.must false (.must false (.must false (.must true .stop))))))))) (.reck 1 (.fork (.must true (.must true (.must true (.must true (.must true (.must true (.must false (.fork (.must true (.must true (.must true (.must false (.reck 2 (.fork (.fork (.must true (.must true (.must true (.fork (.fork .stop .stop) (.fork (.fork (.fork (.fork .stop .stop) .stop) .stop) .stop))))) .stop) .stop)))))) (.must false (.must false (.must false (.must true .stop)))))))))))) (.must false (.must false (.must false (.must false (.must false (.must false (.must true .stop)))))))))))) .stop) .stop) .stop)))))
theorem k34w_is (off : Nat) (N : Nat) (f : Nat → Nat → AV) : k34w off N f k34w_p = (cond (decide (N - off = N - off)) (cond (decide (N - off = N - off)) (cond ((okB f (N)))
  (cond (Nat.ble off N)
  (cond (Nat.ble N 1000000)
  (cond (Nat.blt N (off + Int.toNat 2))
  (some (CS.mk [(AV.str ([]))] [some (AObj.cells [(AV.osl (true) (1) (0) (0) (0) (1) (true)), (AV.bool (true))] true), some (AObj.tarr [Sh.int IntKind.u8] (0) (fun p_ q_ => AV.bad) true)]))
  (cond (decide (val f off (Int.toNat 2) > 16384))
  (cond (decide (IntKind.wrap IntKind.i64 (val f off (Int.toNat 2)) < 0) == false)
  (cond (decide (IntKind.wrap IntKind.i64 (val f off (Int.toNat 2)) < 0) == false) (cond (decide (IntKind.wrap IntKind.i64 (val f off (Int.toNat 2)) < 0) == false) (cond (decide (IntKind.wrap IntKind.i64 (val f off (Int.toNat 2)) < 0) == false) (cond (decide (IntKind.wrap IntKind.i64 (val f off (Int.toNat 2)) < 0) == false) (cond (decide (IntKind.wrap IntKind.i64 (val f off (Int.toNat 2)) < 0) == false) (cond (decide (IntKind.wrap IntKind.i64 (val f off (Int.toNat 2)) < 0) == false) (cond (decide (IntKind.wrap IntKind.i64 (val f off (Int.toNat 2)) < 0)) none (cond (decide (IntKind.wrap IntKind.i64 (val f off (Int.toNat 2)) > 0) == false)
  (cond (decide (IntKind.wrap IntKind.i64 (val f off (Int.toNat 2)) > 0) == false) (cond (decide (IntKind.wrap IntKind.i64 (val f off (Int.toNat 2)) > 0) == false) (cond (decide (IntKind.wrap IntKind.i64 (val f off (Int.toNat 2)) > 0) == false) (cond (decide (IntKind.wrap IntKind.i64 (val f off (Int.toNat 2)) > 0)) none (some (CS.mk [(AV.str ([]))] [some (AObj.cells [(AV.osl (true) (1) (0) (0) (0) (1) (true)), (AV.bool (true))] true), some (AObj.tarr [Sh.int IntKind.u8] (0) (fun p_ q_ => AV.bad) true)]))) none) none) none)
  (cond (decide (IntKind.wrap IntKind.i64 (val f off (Int.toNat 2)) > 0) == false) none (cond (decide (IntKind.wrap IntKind.i64 (val f off (Int.toNat 2)) > 0) == false) none (cond (decide (IntKind.wrap IntKind.i64 (val f off (Int.toNat 2)) > 0) == false) none (cond (decide (IntKind.wrap IntKind.i64 (val f off (Int.toNat 2)) > 0)) (some (CS.mk [(AV.str ([]))] [some (AObj.cells [(AV.osl (true) (1) (0) (0) (0) (1) (true)), (AV.bool (true))] true), some (AObj.tarr [Sh.int IntKind.u8] (0) (fun p_ q_ => AV.bad) true)])) none)))))) none) none) none) none) none) none)
  (cond (decide (IntKind.wrap IntKind.i64 (val f off (Int.toNat 2)) < 0) == false) none (cond (decide (IntKind.wrap IntKind.i64 (val f off (Int.toNat 2)) < 0) == false) none (cond (decide (IntKind.wrap IntKind.i64 (val f off (Int.toNat 2)) < 0) == false) none (cond (decide (IntKind.wrap IntKind.i64 (val f off (Int.toNat 2)) < 0) == false) none (cond (decide (IntKind.wrap IntKind.i64 (val f off (Int.toNat 2)) < 0) == false) none (cond (decide (IntKind.wrap IntKind.i64 (val f off (Int.toNat 2)) < 0) == false) none (cond (decide (IntKind.wrap IntKind.i64 (val f off (Int.toNat 2)) < 0)) (some (CS.mk [(AV.str ([]))] [some (AObj.cells [(AV.osl (true) (1) (0) (0) (0) (1) (true)), (AV.bool (true))] true), some (AObj.tarr [Sh.int IntKind.u8] (0) (fun p_ q_ => AV.bad) true)])) none))))))))
  (cond (decide (IntKind.wrap IntKind.i64 (val f off (Int.toNat 2)) < 0) == false)
  (cond (decide (IntKind.wrap IntKind.i64 (val f off (Int.toNat 2)) < 0) == false) (cond (decide (IntKind.wrap IntKind.i64 (val f off (Int.toNat 2)) < 0) == false) (cond (decide (IntKind.wrap IntKind.i64 (val f off (Int.toNat 2)) < 0) == false) (cond (decide (IntKind.wrap IntKind.i64 (val f off (Int.toNat 2)) < 0) == false) (cond (decide (IntKind.wrap IntKind.i64 (val f off (Int.toNat 2)) < 0) == false) (cond (decide (IntKind.wrap IntKind.i64 (val f off (Int.toNat 2)) < 0) == false) (cond (decide (IntKind.wrap IntKind.i64 (val f off (Int.toNat 2)) < 0)) none (cond (decide (IntKind.wrap IntKind.i64 (val f off (Int.toNat 2)) > (↑(N - (off + Int.toNat 2)) : Int)) == false)
  (cond (decide (IntKind.wrap IntKind.i64 (val f off (Int.toNat 2)) > (↑(N - (off + Int.toNat 2)) : Int)) == false) (cond (decide (IntKind.wrap IntKind.i64 (val f off (Int.toNat 2)) > (↑(N - (off + Int.toNat 2)) : Int)) == false) (cond (decide (IntKind.wrap IntKind.i64 (val f off (Int.toNat 2)) > (↑(N - (off + Int.toNat 2)) : Int)) == false) (cond (decide (IntKind.wrap IntKind.i64 (val f off (Int.toNat 2)) > (↑(N - (off + Int.toNat 2)) : Int))) none (cond (Nat.ble (Int.toNat (IntKind.wrap IntKind.i64 (val f off (Int.toNat 2)))) (N - (off + Int.toNat 2)))
  (cond (decide (0 ≤ IntKind.wrap IntKind.i64 (val f off (Int.toNat 2))))
  (cond (Nat.ble (Int.toNat (IntKind.wrap IntKind.i64 (val f off (Int.toNat 2)))) (N - (off + Int.toNat 2))) (cond (Nat.ble (N - (off + Int.toNat 2)) (N - (off + Int.toNat 2))) (cond (decide (0 ≤ IntKind.wrap IntKind.i64 (val f off (Int.toNat 2)))) (cond (Nat.beq (Int.toNat (IntKind.wrap IntKind.i64 (val f off (Int.toNat 2))) - 0) 0)
  (cond (Nat.ble (off + Int.toNat 2 + 0 + (Int.toNat (IntKind.wrap IntKind.i64 (val f off (Int.toNat 2))) - 0)) N)
  (some (CS.mk [(AV.str ([]))] [some (AObj.cells [(AV.osl (false) (1) (off + Int.toNat 2 + Int.toNat (IntKind.wrap IntKind.i64 (val f off (Int.toNat 2)))) (N - (off + Int.toNat 2) - Int.toNat (IntKind.wrap IntKind.i64 (val f off (Int.toNat 2)))) (N - (off + Int.toNat 2) - Int.toNat (IntKind.wrap IntKind.i64 (val f off (Int.toNat 2)))) (1) (true)), (AV.bool (false))] true), some (AObj.tarr [Sh.int IntKind.u8] (N) f true)]))
  none)
  (cond (growB (1) (0 + (Int.toNat (IntKind.wrap IntKind.i64 (val f off (Int.toNat 2))) - 0)))
  (cond (Nat.ble (off + Int.toNat 2 + 0 + (Int.toNat (IntKind.wrap IntKind.i64 (val f off (Int.toNat 2))) - 0)) N)
  (cond (Nat.ble (0 + (0 + (Int.toNat (IntKind.wrap IntKind.i64 (val f off (Int.toNat 2))) - 0))) (0 + (Int.toNat (IntKind.wrap IntKind.i64 (val f off (Int.toNat 2))) - 0)))
  (cond (List.all (List.range (0 + (Int.toNat (IntKind.wrap IntKind.i64 (val f off (Int.toNat 2))) - 0))) fun i => decide (0 ≤ byteAt (fjoin (fun x x_1 => AV.bad) 0 fun i j => f (off + Int.toNat 2 + 0 + i) j) (0 + i)) && decide (byteAt (fjoin (fun x x_1 => AV.bad) 0 fun i j => f (off + Int.toNat 2 + 0 + i) j) (0 + i) < 256))
  (some (CS.mk [(AV.str (List.map (fun i => Int.toNat (byteAt (fjoin (fun x x_1 => AV.bad) 0 fun i j => f (off + Int.toNat 2 + 0 + i) j) (0 + i))) (List.range (0 + (Int.toNat (IntKind.wrap IntKind.i64 (val f off (Int.toNat 2))) - 0)))))] [some (AObj.cells [(AV.osl (false) (1) (off + Int.toNat 2 + Int.toNat (IntKind.wrap IntKind.i64 (val f off (Int.toNat 2)))) (N - (off + Int.toNat 2) - Int.toNat (IntKind.wrap IntKind.i64 (val f off (Int.toNat 2)))) (N - (off + Int.toNat 2) - Int.toNat (IntKind.wrap IntKind.i64 (val f off (Int.toNat 2)))) (1) (true)), (AV.bool (false))] true), some (AObj.tarr [Sh.int IntKind.u8] (N) f true)]))
  none)
  none)
  none)
  none)) none) none) none)
  none)
  none)) none) none) none)
  (cond (decide (IntKind.wrap IntKind.i64 (val f off (Int.toNat 2)) > (↑(N - (off + Int.toNat 2)) : Int)) == false) none (cond (decide (IntKind.wrap IntKind.i64 (val f off (Int.toNat 2)) > (↑(N - (off + Int.toNat 2)) : Int)) == false) none (cond (decide (IntKind.wrap IntKind.i64 (val f off (Int.toNat 2)) > (↑(N - (off + Int.toNat 2)) : Int)) == false) none (cond (decide (IntKind.wrap IntKind.i64 (val f off (Int.toNat 2)) > (↑(N - (off + Int.toNat 2)) : Int))) (some (CS.mk [(AV.str ([]))] [some (AObj.cells [(AV.osl (true) (1) (0) (0) (0) (1) (true)), (AV.bool (true))] true), some (AObj.tarr [Sh.int IntKind.u8] (0) (fun p_ q_ => AV.bad) true)])) none)))))) none) none) none) none) none) none)
  (cond (decide (IntKind.wrap IntKind.i64 (val f off (Int.toNat 2)) < 0) == false) none (cond (decide (IntKind.wrap IntKind.i64 (val f off (Int.toNat 2)) < 0) == false) none (cond (decide (IntKind.wrap IntKind.i64 (val f off (Int.toNat 2)) < 0) == false) none (cond (decide (IntKind.wrap IntKind.i64 (val f off (Int.toNat 2)) < 0) == false) none (cond (decide (IntKind.wrap IntKind.i64 (val f off (Int.toNat 2)) < 0) == false) none (cond (decide (IntKind.wrap IntKind.i64 (val f off (Int.toNat 2)) < 0) == false) none (cond (decide (IntKind.wrap IntKind.i64 (val f off (Int.toNat 2)) < 0)) (some (CS.mk [(AV.str ([]))] [some (AObj.cells [(AV.osl (true) (1) (0) (0) (0) (1) (true)), (AV.bool (true))] true), some (AObj.tarr [Sh.int IntKind.u8] (0) (fun p_ q_ => AV.bad) true)])) none))))))))))
  none)
  none)
  none) none) none) := by kernel_rfl
theorem k34w_eq (off : Nat) (N : Nat) (f : Nat → Nat → AV) : k34w off N f k34w_p = (cond (okB f (N))
  (cond (Nat.ble off N)
  (cond (Nat.ble N 1000000)
  (cond (Nat.blt N (off + Int.toNat 2))
  (some (CS.mk [(AV.str ([]))] [some (AObj.cells [(AV.osl (true) (1) (0) (0) (0) (1) (true)), (AV.bool (true))] true), some (AObj.tarr [Sh.int IntKind.u8] (0) (fun p_ q_ => AV.bad) true)]))
  (cond (decide (val f off (Int.toNat 2) > 16384))
  (cond (decide (IntKind.wrap IntKind.i64 (val f off (Int.toNat 2)) < 0))
  (some (CS.mk [(AV.str ([]))] [some (AObj.cells [(AV.osl (true) (1) (0) (0) (0) (1) (true)), (AV.bool (true))] true), some (AObj.tarr [Sh.int IntKind.u8] (0) (fun p_ q_ => AV.bad) true)]))
  (cond (decide (IntKind.wrap IntKind.i64 (val f off (Int.toNat 2)) > 0))
  (some (CS.mk [(AV.str ([]))] [some (AObj.cells [(AV.osl (true) (1) (0) (0) (0) (1) (true)), (AV.bool (true))] true), some (AObj.tarr [Sh.int IntKind.u8] (0) (fun p_ q_ => AV.bad) true)]))
  (some (CS.mk [(AV.str ([]))] [some (AObj.cells [(AV.osl (true) (1) (0) (0) (0) (1) (true)), (AV.bool (true))] true), some (AObj.tarr [Sh.int IntKind.u8] (0) (fun p_ q_ => AV.bad) true)]))))
  (cond (decide (IntKind.wrap IntKind.i64 (val f off (Int.toNat 2)) < 0))
  (some (CS.mk [(AV.str ([]))] [some (AObj.cells [(AV.osl (true) (1) (0) (0) (0) (1) (true)), (AV.bool (true))] true), some (AObj.tarr [Sh.int IntKind.u8] (0) (fun p_ q_ => AV.bad) true)]))
  (cond (decide (IntKind.wrap IntKind.i64 (val f off (Int.toNat 2)) > (↑(N - (off + Int.toNat 2)) : Int)))
  (some (CS.mk [(AV.str ([]))] [some (AObj.cells [(AV.osl (true) (1) (0) (0) (0) (1) (true)), (AV.bool (true))] true), some (AObj.tarr [Sh.int IntKind.u8] (0) (fun p_ q_ => AV.bad) true)]))
  (cond (Nat.ble (Int.toNat (IntKind.wrap IntKind.i64 (val f off (Int.toNat 2)))) (N - (off + Int.toNat 2)))
  (cond (decide (0 ≤ IntKind.wrap IntKind.i64 (val f off (Int.toNat 2))))
  (cond (Nat.beq (Int.toNat (IntKind.wrap IntKind.i64 (val f off (Int.toNat 2))) - 0) 0)
  (cond (Nat.ble (off + Int.toNat 2 + 0 + (Int.toNat (IntKind.wrap IntKind.i64 (val f off (Int.toNat 2))) - 0)) N)
  (some (CS.mk [(AV.str ([]))] [some (AObj.cells [(AV.osl (false) (1) (off + Int.toNat 2 + Int.toNat (IntKind.wrap IntKind.i64 (val f off (Int.toNat 2)))) (N - (off + Int.toNat 2) - Int.toNat (IntKind.wrap IntKind.i64 (val f off (Int.toNat 2)))) (N - (off + Int.toNat 2) - Int.toNat (IntKind.wrap IntKind.i64 (val f off (Int.toNat 2)))) (1) (true)), (AV.bool (false))] true), some (AObj.tarr [Sh.int IntKind.u8] (N) f true)]))
  none)
  (cond (growB (1) (0 + (Int.toNat (IntKind.wrap IntKind.i64 (val f off (Int.toNat 2))) - 0)))
  (cond (Nat.ble (off + Int.toNat 2 + 0 + (Int.toNat (IntKind.wrap IntKind.i64 (val f off (Int.toNat 2))) - 0)) N)
  (cond (Nat.ble (0 + (0 + (Int.toNat (IntKind.wrap IntKind.i64 (val f off (Int.toNat 2))) - 0))) (0 + (Int.toNat (IntKind.wrap IntKind.i64 (val f off (Int.toNat 2))) - 0)))
  (cond (List.all (List.range (0 + (Int.toNat (IntKind.wrap IntKind.i64 (val f off (Int.toNat 2))) - 0))) fun i => decide (0 ≤ byteAt (fjoin (fun x x_1 => AV.bad) 0 fun i j => f (off + Int.toNat 2 + 0 + i) j) (0 + i)) && decide (byteAt (fjoin (fun x x_1 => AV.bad) 0 fun i j => f (off + Int.toNat 2 + 0 + i) j) (0 + i) < 256))
  (some (CS.mk [(AV.str (List.map (fun i => Int.toNat (byteAt (fjoin (fun x x_1 => AV.bad) 0 fun i j => f (off + Int.toNat 2 + 0 + i) j) (0 + i))) (List.range (0 + (Int.toNat (IntKind.wrap IntKind.i64 (val f off (Int.toNat 2))) - 0)))))] [some (AObj.cells [(AV.osl (false) (1) (off + Int.toNat 2 + Int.toNat (IntKind.wrap IntKind.i64 (val f off (Int.toNat 2)))) (N - (off + Int.toNat 2) - Int.toNat (IntKind.wrap IntKind.i64 (val f off (Int.toNat 2)))) (N - (off + Int.toNat 2) - Int.toNat (IntKind.wrap IntKind.i64 (val f off (Int.toNat 2)))) (1) (true)), (AV.bool (false))] true), some (AObj.tarr [Sh.int IntKind.u8] (N) f true)]))
  none)
  none)
  none)
  none))
  none)
  none)))))
  none)
  none)
  none) := by
  rw [k34w_is]
  try simp only [eq_self, decide_true, beq_self_eq_true, Nat.beq_refl, ble_self, Int.le_refl, Nat.le_refl]
  cases (okB f (N)) with
  | true =>
    cases (Nat.ble off N) with
    | true =>
      cases (Nat.ble N 1000000) with
      | true =>
        cases (Nat.blt N (off + Int.toNat 2)) with
        | true =>
          rfl
        | false =>
          cases (decide (val f off (Int.toNat 2) > 16384)) with
          | true =>
            cases (decide (IntKind.wrap IntKind.i64 (val f off (Int.toNat 2)) < 0)) with
            | true =>
              rfl
            | false =>
              cases (decide (IntKind.wrap IntKind.i64 (val f off (Int.toNat 2)) > 0)) with
              | true =>
                rfl
              | false =>
                rfl
          | false =>
            cases (decide (IntKind.wrap IntKind.i64 (val f off (Int.toNat 2)) < 0)) with
            | true =>
              rfl
            | false =>
              cases (decide (IntKind.wrap IntKind.i64 (val f off (Int.toNat 2)) > (↑(N - (off + Int.toNat 2)) : Int))) with
              | true =>
                rfl
              | false =>
                cases (Nat.ble (Int.toNat (IntKind.wrap IntKind.i64 (val f off (Int.toNat 2)))) (N - (off + Int.toNat 2))) with
                | true =>
                  cases (decide (0 ≤ IntKind.wrap IntKind.i64 (val f off (Int.toNat 2)))) with
                  | true =>
                    cases (Nat.beq (Int.toNat (IntKind.wrap IntKind.i64 (val f off (Int.toNat 2))) - 0) 0) with
                    | true =>
                      cases (Nat.ble (off + Int.toNat 2 + 0 + (Int.toNat (IntKind.wrap IntKind.i64 (val f off (Int.toNat 2))) - 0)) N) with
                      | true =>
                        rfl
                      | false =>
                        rfl
                    | false =>
                      cases (growB (1) (0 + (Int.toNat (IntKind.wrap IntKind.i64 (val f off (Int.toNat 2))) - 0))) with
                      | true =>
                        cases (Nat.ble (off + Int.toNat 2 + 0 + (Int.toNat (IntKind.wrap IntKind.i64 (val f off (Int.toNat 2))) - 0)) N) with
                        | true =>
                          cases (Nat.ble (0 + (0 + (Int.toNat (IntKind.wrap IntKind.i64 (val f off (Int.toNat 2))) - 0))) (0 + (Int.toNat (IntKind.wrap IntKind.i64 (val f off (Int.toNat 2))) - 0))) with
                          | true =>
                            cases (List.all (List.range (0 + (Int.toNat (IntKind.wrap IntKind.i64 (val f off (Int.toNat 2))) - 0))) fun i => decide (0 ≤ byteAt (fjoin (fun x x_1 => AV.bad) 0 fun i j => f (off + Int.toNat 2 + 0 + i) j) (0 + i)) && decide (byteAt (fjoin (fun x x_1 => AV.bad) 0 fun i j => f (off + Int.toNat 2 + 0 + i) j) (0 + i) < 256)) with
                            | true =>
                              rfl
                            | false =>
                              rfl
                          | false =>
                            rfl
                        | false =>
                          rfl
                      | false =>
                        rfl
                  | false =>
                    rfl
                | false =>
                  rfl
      | false =>
        rfl
    | false =>
      rfl
  | false =>
    rfl

noncomputable def k33w (off : Nat) (N : Nat) (f : Nat → Nat → AV) (π : Plan) : Option CS := callC (W4) (1000) (33) (1) (.keep) ([pR]) π (rkw off N f)
def k33w_p : Plan := (.reck 1 (.must true (.must true (.reck 4 (.fork (.fork (.fork (.fork .stop (.reck 2 (.must true (.must true (.reck 4 (.must true (.fork (.must true (.fork .stop (.reck 2 (.must true (.must true (.reck 4 (.must true (.fork (.must true (.fork .stop (.reck 2 (.must true (.must true (.reck 4 (.must true (.fork (.must true (.fork .stop .stop)) .stop)))))))) .stop)))))))) .stop))))))) .stop) .stop) .stop)))))
theorem k33w_is (off : Nat) (N : Nat) (f : Nat → Nat → AV) : k33w off N f k33w_p = (cond (decide (N - off = N - off)) (cond (decide (N - off = N - off)) (cond ((okB f (N)))
  (cond (Nat.ble off N)
  (cond (Nat.ble N 1000000)
  (cond (Nat.blt N (off + Int.toNat 8))
  (some (CS.mk [(AV.agg [(AV.int IntKind.u64 (0)), (AV.int IntKind.u64 (0)), (AV.int IntKind.u32 (0)), (AV.int IntKind.u32 (0))])] [some (AObj.cells [(AV.osl (true) (1) (0) (0) (0) (1) (true)), (AV.bool (true))] true), some (AObj.tarr [Sh.int IntKind.u8] (0) (fun p_ q_ => AV.bad) true)]))
  (cond (decide (N - (off + Int.toNat 8) = N - (off + Int.toNat 8))) (cond (decide (N - (off + Int.toNat 8) = N - (off + Int.toNat 8))) (cond ((okB f (N))) (cond (Nat.ble (off + Int.toNat 8) N)
  (cond (Nat.ble N 1000000) (cond (Nat.blt N (off + Int.toNat 8 + Int.toNat 8))
  (some (CS.mk [(AV.agg [(AV.int IntKind.u64 ((val f (off) (8)))), (AV.int IntKind.u64 (0)), (AV.int IntKind.u32 (0)), (AV.int IntKind.u32 (0))])] [some (AObj.cells [(AV.osl (true) (1) (0) (0) (0) (1) (true)), (AV.bool (true))] true), some (AObj.tarr [Sh.int IntKind.u8] (0) (fun p_ q_ => AV.bad) true)]))
  (cond (decide (N - (off + Int.toNat 8 + Int.toNat 8) = N - (off + Int.toNat 8 + Int.toNat 8))) (cond (decide (N - (off + Int.toNat 8 + Int.toNat 8) = N - (off + Int.toNat 8 + Int.toNat 8))) (cond ((okB f (N))) (cond (Nat.ble (off + Int.toNat 8 + Int.toNat 8) N)
  (cond (Nat.ble N 1000000) (cond (Nat.blt N (off + Int.toNat 8 + Int.toNat 8 + Int.toNat 4))
  (some (CS.mk [(AV.agg [(AV.int IntKind.u64 ((val f (off) (8)))), (AV.int IntKind.u64 ((val f (off + Int.toNat 8) (8)))), (AV.int IntKind.u32 (0)), (AV.int IntKind.u32 (0))])] [some (AObj.cells [(AV.osl (true) (1) (0) (0) (0) (1) (true)), (AV.bool (true))] true), some (AObj.tarr [Sh.int IntKind.u8] (0) (fun p_ q_ => AV.bad) true)]))
  (cond (decide (N - (off + Int.toNat 8 + Int.toNat 8 + Int.toNat 4) = N - (off + Int.toNat 8 + Int.toNat 8 + Int.toNat 4))) (cond (decide (N - (off + Int.toNat 8 + Int.toNat 8 + Int.toNat 4) = N - (off + Int.toNat 8 + Int.toNat 8 + Int.toNat 4))) (cond ((okB f (N))) (cond (Nat.ble (off + Int.toNat 8 + Int.toNat 8 + Int.toNat 4) N)
  (cond (Nat.ble N 1000000) (cond (Nat.blt N (off + Int.toNat 8 + Int.toNat 8 + Int.toNat 4 + Int.toNat 4))
  (some (CS.mk [(AV.agg [(AV.int IntKind.u64 ((val f (off) (8)))), (AV.int IntKind.u64 ((val f (off + Int.toNat 8) (8)))), (AV.int IntKind.u32 (IntKind.wrap IntKind.u32 (val f (off + Int.toNat 8 + Int.toNat 8) (Int.toNat 4)))), (AV.int IntKind.u32 (0))])] [some (AObj.cells [(AV.osl (true) (1) (0) (0) (0) (1) (true)), (AV.bool (true))] true), some (AObj.tarr [Sh.int IntKind.u8] (0) (fun p_ q_ => AV.bad) true)]))
  (some (CS.mk [(AV.agg [(AV.int IntKind.u64 ((val f (off) (8)))), (AV.int IntKind.u64 ((val f (off + Int.toNat 8) (8)))), (AV.int IntKind.u32 (IntKind.wrap IntKind.u32 (val f (off + Int.toNat 8 + Int.toNat 8) (Int.toNat 4)))), (AV.int IntKind.u32 (IntKind.wrap IntKind.u32 (val f (off + Int.toNat 8 + Int.toNat 8 + Int.toNat 4) (Int.toNat 4))))])] [some (AObj.cells [(AV.osl (false) (1) (off + Int.toNat 8 + Int.toNat 8 + Int.toNat 4 + Int.toNat 4) (N - (off + Int.toNat 8 + Int.toNat 8 + Int.toNat 4 + Int.toNat 4)) (N - (off + Int.toNat 8 + Int.toNat 8 + Int.toNat 4 + Int.toNat 4)) (1) (true)), (AV.bool (false))] true), some (AObj.tarr [Sh.int IntKind.u8] (N) f true)]))) none)
  none) none) none) none)) none)
  none) none) none) none)) none)
  none) none) none) none))
  none)
  none)
  none) none) none) := by kernel_rfl
theorem k33w_eq (off : Nat) (N : Nat) (f : Nat → Nat → AV) : k33w off N f k33w_p = (cond (okB f (N))
  (cond (Nat.ble off N)
  (cond (Nat.ble N 1000000)
  (cond (Nat.blt N (off + Int.toNat 8))
  (some (CS.mk [(AV.agg [(AV.int IntKind.u64 (0)), (AV.int IntKind.u64 (0)), (AV.int IntKind.u32 (0)), (AV.int IntKind.u32 (0))])] [some (AObj.cells [(AV.osl (true) (1) (0) (0) (0) (1) (true)), (AV.bool (true))] true), some (AObj.tarr [Sh.int IntKind.u8] (0) (fun p_ q_ => AV.bad) true)]))
  (cond (Nat.ble (off + Int.toNat 8) N)
  (cond (Nat.blt N (off + Int.toNat 8 + Int.toNat 8))
  (some (CS.mk [(AV.agg [(AV.int IntKind.u64 ((val f (off) (8)))), (AV.int IntKind.u64 (0)), (AV.int IntKind.u32 (0)), (AV.int IntKind.u32 (0))])] [some (AObj.cells [(AV.osl (true) (1) (0) (0) (0) (1) (true)), (AV.bool (true))] true), some (AObj.tarr [Sh.int IntKind.u8] (0) (fun p_ q_ => AV.bad) true)]))
  (cond (Nat.ble (off + Int.toNat 8 + Int.toNat 8) N)
  (cond (Nat.blt N (off + Int.toNat 8 + Int.toNat 8 + Int.toNat 4))
  (some (CS.mk [(AV.agg [(AV.int IntKind.u64 ((val f (off) (8)))), (AV.int IntKind.u64 ((val f (off + Int.toNat 8) (8)))), (AV.int IntKind.u32 (0)), (AV.int IntKind.u32 (0))])] [some (AObj.cells [(AV.osl (true) (1) (0) (0) (0) (1) (true)), (AV.bool (true))] true), some (AObj.tarr [Sh.int IntKind.u8] (0) (fun p_ q_ => AV.bad) true)]))
  (cond (Nat.ble (off + Int.toNat 8 + Int.toNat 8 + Int.toNat 4) N)
  (cond (Nat.blt N (off + Int.toNat 8 + Int.toNat 8 + Int.toNat 4 + Int.toNat 4))
  (some (CS.mk [(AV.agg [(AV.int IntKind.u64 ((val f (off) (8)))), (AV.int IntKind.u64 ((val f (off + Int.toNat 8) (8)))), (AV.int IntKind.u32 (IntKind.wrap IntKind.u32 (val f (off + Int.toNat 8 + Int.toNat 8) (Int.toNat 4)))), (AV.int IntKind.u32 (0))])] [some (AObj.cells [(AV.osl (true) (1) (0) (0) (0) (1) (true)), (AV.bool (true))] true), some (AObj.tarr [Sh.int IntKind.u8] (0) (fun p_ q_ => AV.bad) true)]))
  (some (CS.mk [(AV.agg [(AV.int IntKind.u64 ((val f (off) (8)))), (AV.int IntKind.u64 ((val f (off + Int.toNat 8) (8)))), (AV.int IntKind.u32 (IntKind.wrap IntKind.u32 (val f (off + Int.toNat 8 + Int.toNat 8) (Int.toNat 4)))), (AV.int IntKind.u32 (IntKind.wrap IntKind.u32 (val f (off + Int.toNat 8 + Int.toNat 8 + Int.toNat 4) (Int.toNat 4))))])] [some (AObj.cells [(AV.osl (false) (1) (off + Int.toNat 8 + Int.toNat 8 + Int.toNat 4 + Int.toNat 4) (N - (off + Int.toNat 8 + Int.toNat 8 + Int.toNat 4 + Int.toNat 4)) (N - (off + Int.toNat 8 + Int.toNat 8 + Int.toNat 4 + Int.toNat 4)) (1) (true)), (AV.bool (false))] true), some (AObj.tarr [Sh.int IntKind.u8] (N) f true)])))
  none))
  none))
  none))
  none)
  none)
  none) := by
  rw [k33w_is]
  try simp only [eq_self, decide_true, beq_self_eq_true, Nat.beq_refl, ble_self, Int.le_refl, Nat.le_refl]
  cases (okB f (N)) with
  | true =>
    cases (Nat.ble off N) with
    | true =>
      cases (Nat.ble N 1000000) with
      | true =>
        cases (Nat.blt N (off + Int.toNat 8)) with
        | true =>
          rfl
        | false =>
          cases (Nat.ble (off + Int.toNat 8) N) with
          | true =>
            cases (Nat.blt N (off + Int.toNat 8 + Int.toNat 8)) with
            | true =>
              rfl
            | false =>
              cases (Nat.ble (off + Int.toNat 8 + Int.toNat 8) N) with
              | true =>
                cases (Nat.blt N (off + Int.toNat 8 + Int.toNat 8 + Int.toNat 4)) with
                | true =>
                  rfl
                | false =>
                  cases (Nat.ble (off + Int.toNat 8 + Int.toNat 8 + Int.toNat 4) N) with
                  | true =>
                    cases (Nat.blt N (off + Int.toNat 8 + Int.toNat 8 + Int.toNat 4 + Int.toNat 4)) with
                    | true =>
                      rfl
                    | false =>
                      rfl
                  | false =>
                    rfl
              | false =>
                rfl
          | false =>
            rfl
      | false =>
        rfl
    | false =>
      rfl
  | false =>
    rfl

noncomputable def s14tw (off : Nat) (N : Nat) (f : Nat → Nat → AV) (ix : Int) (tm : Int) (st : Int) (kd : Int) (cl : Int) (rq : Int) (fr : Int) (ct : Int) (d : List Nat) (n : Int) (i : Nat) (π : Plan) : Option (Nat × CS) := stepC (W5) (1000) (loopC W5 14 0) (1) (h14) ((.normal, h14) :: x14) π (c14tw off N f ix tm st kd cl rq fr ct d n i)
def s14tw_p : Plan := (.fork (.reck 7 (.must true (.must true (.reck 2 (.fork (.fork (.fork (.fork .stop (.fork .stop (.fork .stop (.fork .stop .stop)))) .stop) .stop) .stop))))) .stop)
theorem s14tw_is (off : Nat) (N : Nat) (f : Nat → Nat → AV) (ix : Int) (tm : Int) (st : Int) (kd : Int) (cl : Int) (rq : Int) (fr : Int) (ct : Int) (d : List Nat) (n : Int) (i : Nat) : s14tw off N f ix tm st kd cl rq fr ct d n i s14tw_p = (cond (decide ((↑i : Int) < n))
  (cond (decide (N - off = N - off)) (cond (decide (N - off = N - off)) (cond ((okB f (N)))
  (cond (Nat.ble off N)
  (cond (Nat.ble N 1000000)
  (cond (Nat.blt N (off + 8))
  (some (0, (CS.mk [(AV.ptr (0) (0)), (AV.ptr (1) (0)), (AV.ptr (2) (0)), (AV.int IntKind.i64 (n)), (AV.int IntKind.i64 (IntKind.wrap IntKind.i64 ((↑i : Int) + 1)))] [some (AObj.cells [(AV.osl (true) (3) (0) (0) (0) (1) (true)), (AV.bool (true))] true), some (AObj.cells [AV.bad, AV.bad, AV.bad, AV.bad, AV.bad, AV.bad, AV.bad, AV.bad, AV.bad, AV.bad] true), some (AObj.cells [(AV.int IntKind.u64 (ix)), (AV.int IntKind.u64 (tm)), (AV.int IntKind.u64 (st)), (AV.int IntKind.i64 (kd)), (AV.int IntKind.u64 (cl)), (AV.int IntKind.u64 (rq)), (AV.int IntKind.u32 (fr)), (AV.int IntKind.u32 (ct)), (AV.str (d)), (AV.osl (false) (4) (0) (1) (1) (4) (true))] true), some (AObj.tarr [Sh.int IntKind.u8] (0) (fun p_ q_ => AV.bad) true), some (AObj.tarr [Sh.int IntKind.u64, Sh.int IntKind.u64, Sh.int IntKind.u32, Sh.int IntKind.u32] (1) (rowsOf (4) [(AV.int IntKind.u64 (0)), (AV.int IntKind.u64 (0)), (AV.int IntKind.u32 (0)), (AV.int IntKind.u32 (0))] (1)) true)])))
  (cond (Nat.blt N (off + 16))
  (some (0, (CS.mk [(AV.ptr (0) (0)), (AV.ptr (1) (0)), (AV.ptr (2) (0)), (AV.int IntKind.i64 (n)), (AV.int IntKind.i64 (IntKind.wrap IntKind.i64 ((↑i : Int) + 1)))] [some (AObj.cells [(AV.osl (true) (3) (0) (0) (0) (1) (true)), (AV.bool (true))] true), some (AObj.cells [AV.bad, AV.bad, AV.bad, AV.bad, AV.bad, AV.bad, AV.bad, AV.bad, AV.bad, AV.bad] true), some (AObj.cells [(AV.int IntKind.u64 (ix)), (AV.int IntKind.u64 (tm)), (AV.int IntKind.u64 (st)), (AV.int IntKind.i64 (kd)), (AV.int IntKind.u64 (cl)), (AV.int IntKind.u64 (rq)), (AV.int IntKind.u32 (fr)), (AV.int IntKind.u32 (ct)), (AV.str (d)), (AV.osl (false) (4) (0) (1) (1) (4) (true))] true), some (AObj.tarr [Sh.int IntKind.u8] (0) (fun p_ q_ => AV.bad) true), some (AObj.tarr [Sh.int IntKind.u64, Sh.int IntKind.u64, Sh.int IntKind.u32, Sh.int IntKind.u32] (1) (rowsOf (4) [(AV.int IntKind.u64 ((val f (off) (8)))), (AV.int IntKind.u64 (0)), (AV.int IntKind.u32 (0)), (AV.int IntKind.u32 (0))] (1)) true)])))
  (cond (Nat.blt N (off + 20))
  (some (0, (CS.mk [(AV.ptr (0) (0)), (AV.ptr (1) (0)), (AV.ptr (2) (0)), (AV.int IntKind.i64 (n)), (AV.int IntKind.i64 (IntKind.wrap IntKind.i64 ((↑i : Int) + 1)))] [some (AObj.cells [(AV.osl (true) (3) (0) (0) (0) (1) (true)), (AV.bool (true))] true), some (AObj.cells [AV.bad, AV.bad, AV.bad, AV.bad, AV.bad, AV.bad, AV.bad, AV.bad, AV.bad, AV.bad] true), some (AObj.cells [(AV.int IntKind.u64 (ix)), (AV.int IntKind.u64 (tm)), (AV.int IntKind.u64 (st)), (AV.int IntKind.i64 (kd)), (AV.int IntKind.u64 (cl)), (AV.int IntKind.u64 (rq)), (AV.int IntKind.u32 (fr)), (AV.int IntKind.u32 (ct)), (AV.str (d)), (AV.osl (false) (4) (0) (1) (1) (4) (true))] true), some (AObj.tarr [Sh.int IntKind.u8] (0) (fun p_ q_ => AV.bad) true), some (AObj.tarr [Sh.int IntKind.u64, Sh.int IntKind.u64, Sh.int IntKind.u32, Sh.int IntKind.u32] (1) (rowsOf (4) [(AV.int IntKind.u64 ((val f (off) (8)))), (AV.int IntKind.u64 ((val f (off + 8) (8)))), (AV.int IntKind.u32 (0)), (AV.int IntKind.u32 (0))] (1)) true)])))
  (cond (Nat.blt N (off + 24))
  (some (0, (CS.mk [(AV.ptr (0) (0)), (AV.ptr (1) (0)), (AV.ptr (2) (0)), (AV.int IntKind.i64 (n)), (AV.int IntKind.i64 (IntKind.wrap IntKind.i64 ((↑i : Int) + 1)))] [some (AObj.cells [(AV.osl (true) (3) (0) (0) (0) (1) (true)), (AV.bool (true))] true), some (AObj.cells [AV.bad, AV.bad, AV.bad, AV.bad, AV.bad, AV.bad, AV.bad, AV.bad, AV.bad, AV.bad] true), some (AObj.cells [(AV.int IntKind.u64 (ix)), (AV.int IntKind.u64 (tm)), (AV.int IntKind.u64 (st)), (AV.int IntKind.i64 (kd)), (AV.int IntKind.u64 (cl)), (AV.int IntKind.u64 (rq)), (AV.int IntKind.u32 (fr)), (AV.int IntKind.u32 (ct)), (AV.str (d)), (AV.osl (false) (4) (0) (1) (1) (4) (true))] true), some (AObj.tarr [Sh.int IntKind.u8] (0) (fun p_ q_ => AV.bad) true), some (AObj.tarr [Sh.int IntKind.u64, Sh.int IntKind.u64, Sh.int IntKind.u32, Sh.int IntKind.u32] (1) (rowsOf (4) [(AV.int IntKind.u64 ((val f (off) (8)))), (AV.int IntKind.u64 ((val f (off + 8) (8)))), (AV.int IntKind.u32 (IntKind.wrap IntKind.u32 (val f (off + 16) 4))), (AV.int IntKind.u32 (0))] (1)) true)])))
  (some (0, (CS.mk [(AV.ptr (0) (0)), (AV.ptr (1) (0)), (AV.ptr (2) (0)), (AV.int IntKind.i64 (n)), (AV.int IntKind.i64 (IntKind.wrap IntKind.i64 ((↑i : Int) + 1)))] [some (AObj.cells [(AV.osl (false) (3) (off + 24) (N - (off + 24)) (N - (off + 24)) (1) (true)), (AV.bool (false))] true), some (AObj.cells [AV.bad, AV.bad, AV.bad, AV.bad, AV.bad, AV.bad, AV.bad, AV.bad, AV.bad, AV.bad] true), some (AObj.cells [(AV.int IntKind.u64 (ix)), (AV.int IntKind.u64 (tm)), (AV.int IntKind.u64 (st)), (AV.int IntKind.i64 (kd)), (AV.int IntKind.u64 (cl)), (AV.int IntKind.u64 (rq)), (AV.int IntKind.u32 (fr)), (AV.int IntKind.u32 (ct)), (AV.str (d)), (AV.osl (false) (4) (0) (1) (1) (4) (true))] true), some (AObj.tarr [Sh.int IntKind.u8] (N) f true), some (AObj.tarr [Sh.int IntKind.u64, Sh.int IntKind.u64, Sh.int IntKind.u32, Sh.int IntKind.u32] (1) (rowsOf (4) [(AV.int IntKind.u64 ((val f (off) (8)))), (AV.int IntKind.u64 ((val f (off + 8) (8)))), (AV.int IntKind.u32 (IntKind.wrap IntKind.u32 (val f (off + 16) 4))), (AV.int IntKind.u32 (IntKind.wrap IntKind.u32 (val f (off + 20) 4)))] (1)) true)])))))))
  none)
  none)
  none) none) none)
  (some (1, (CS.mk [(AV.ptr (0) (0)), (AV.ptr (1) (0)), (AV.ptr (2) (0))] [some (AObj.cells [(AV.osl (false) (3) (off) (N - off) (N - off) (1) (true)), (AV.bool (false))] true), some (AObj.cells [AV.bad, AV.bad, AV.bad, AV.bad, AV.bad, AV.bad, AV.bad, AV.bad, AV.bad, AV.bad] true), some (AObj.cells [(AV.int IntKind.u64 (ix)), (AV.int IntKind.u64 (tm)), (AV.int IntKind.u64 (st)), (AV.int IntKind.i64 (kd)), (AV.int IntKind.u64 (cl)), (AV.int IntKind.u64 (rq)), (AV.int IntKind.u32 (fr)), (AV.int IntKind.u32 (ct)), (AV.str (d)), AV.nilSlice] true), some (AObj.tarr [Sh.int IntKind.u8] (N) f true)])))) := by kernel_rfl
theorem s14tw_eq (off : Nat) (N : Nat) (f : Nat → Nat → AV) (ix : Int) (tm : Int) (st : Int) (kd : Int) (cl : Int) (rq : Int) (fr : Int) (ct : Int) (d : List Nat) (n : Int) (i : Nat) : s14tw off N f ix tm st kd cl rq fr ct d n i s14tw_p = (cond (decide ((↑i : Int) < n))
  (cond (okB f (N))
  (cond (Nat.ble off N)
  (cond (Nat.ble N 1000000)
  (cond (Nat.blt N (off + 8))
  (some (0, (CS.mk [(AV.ptr (0) (0)), (AV.ptr (1) (0)), (AV.ptr (2) (0)), (AV.int IntKind.i64 (n)), (AV.int IntKind.i64 (IntKind.wrap IntKind.i64 ((↑i : Int) + 1)))] [some (AObj.cells [(AV.osl (true) (3) (0) (0) (0) (1) (true)), (AV.bool (true))] true), some (AObj.cells [AV.bad, AV.bad, AV.bad, AV.bad, AV.bad, AV.bad, AV.bad, AV.bad, AV.bad, AV.bad] true), some (AObj.cells [(AV.int IntKind.u64 (ix)), (AV.int IntKind.u64 (tm)), (AV.int IntKind.u64 (st)), (AV.int IntKind.i64 (kd)), (AV.int IntKind.u64 (cl)), (AV.int IntKind.u64 (rq)), (AV.int IntKind.u32 (fr)), (AV.int IntKind.u32 (ct)), (AV.str (d)), (AV.osl (false) (4) (0) (1) (1) (4) (true))] true), some (AObj.tarr [Sh.int IntKind.u8] (0) (fun p_ q_ => AV.bad) true), some (AObj.tarr [Sh.int IntKind.u64, Sh.int IntKind.u64, Sh.int IntKind.u32, Sh.int IntKind.u32] (1) (rowsOf (4) [(AV.int IntKind.u64 (0)), (AV.int IntKind.u64 (0)), (AV.int IntKind.u32 (0)), (AV.int IntKind.u32 (0))] (1)) true)])))
  (cond (Nat.blt N (off + 16))
  (some (0, (CS.mk [(AV.ptr (0) (0)), (AV.ptr (1) (0)), (AV.ptr (2) (0)), (AV.int IntKind.i64 (n)), (AV.int IntKind.i64 (IntKind.wrap IntKind.i64 ((↑i : Int) + 1)))] [some (AObj.cells [(AV.osl (true) (3) (0) (0) (0) (1) (true)), (AV.bool (true))] true), some (AObj.cells [AV.bad, AV.bad, AV.bad, AV.bad, AV.bad, AV.bad, AV.bad, AV.bad, AV.bad, AV.bad] true), some (AObj.cells [(AV.int IntKind.u64 (ix)), (AV.int IntKind.u64 (tm)), (AV.int IntKind.u64 (st)), (AV.int IntKind.i64 (kd)), (AV.int IntKind.u64 (cl)), (AV.int IntKind.u64 (rq)), (AV.int IntKind.u32 (fr)), (AV.int IntKind.u32 (ct)), (AV.str (d)), (AV.osl (false) (4) (0) (1) (1) (4) (true))] true), some (AObj.tarr [Sh.int IntKind.u8] (0) (fun p_ q_ => AV.bad) true), some (AObj.tarr [Sh.int IntKind.u64, Sh.int IntKind.u64, Sh.int IntKind.u32, Sh.int IntKind.u32] (1) (rowsOf (4) [(AV.int IntKind.u64 ((val f (off) (8)))), (AV.int IntKind.u64 (0)), (AV.int IntKind.u32 (0)), (AV.int IntKind.u32 (0))] (1)) true)])))
  (cond (Nat.blt N (off + 20))
  (some (0, (CS.mk [(AV.ptr (0) (0)), (AV.ptr (1) (0)), (AV.ptr (2) (0)), (AV.int IntKind.i64 (n)), (AV.int IntKind.i64 (IntKind.wrap IntKind.i64 ((↑i : Int) + 1)))] [some (AObj.cells [(AV.osl (true) (3) (0) (0) (0) (1) (true)), (AV.bool (true))] true), some (AObj.cells [AV.bad, AV.bad, AV.bad, AV.bad, AV.bad, AV.bad, AV.bad, AV.bad, AV.bad, AV.bad] true), some (AObj.cells [(AV.int IntKind.u64 (ix)), (AV.int IntKind.u64 (tm)), (AV.int IntKind.u64 (st)), (AV.int IntKind.i64 (kd)), (AV.int IntKind.u64 (cl)), (AV.int IntKind.u64 (rq)), (AV.int IntKind.u32 (fr)), (AV.int IntKind.u32 (ct)), (AV.str (d)), (AV.osl (false) (4) (0) (1) (1) (4) (true))] true), some (AObj.tarr [Sh.int IntKind.u8] (0) (fun p_ q_ => AV.bad) true), some (AObj.tarr [Sh.int IntKind.u64, Sh.int IntKind.u64, Sh.int IntKind.u32, Sh.int IntKind.u32] (1) (rowsOf (4) [(AV.int IntKind.u64 ((val f (off) (8)))), (AV.int IntKind.u64 ((val f (off + 8) (8)))), (AV.int IntKind.u32 (0)), (AV.int IntKind.u32 (0))] (1)) true)])))
  (cond (Nat.blt N (off + 24))
  (some (0, (CS.mk [(AV.ptr (0) (0)), (AV.ptr (1) (0)), (AV.ptr (2) (0)), (AV.int IntKind.i64 (n)), (AV.int IntKind.i64 (IntKind.wrap IntKind.i64 ((↑i : Int) + 1)))] [some (AObj.cells [(AV.osl (true) (3) (0) (0) (0) (1) (true)), (AV.bool (true))] true), some (AObj.cells [AV.bad, AV.bad, AV.bad, AV.bad, AV.bad, AV.bad, AV.bad, AV.bad, AV.bad, AV.bad] true), some (AObj.cells [(AV.int IntKind.u64 (ix)), (AV.int IntKind.u64 (tm)), (AV.int IntKind.u64 (st)), (AV.int IntKind.i64 (kd)), (AV.int IntKind.u64 (cl)), (AV.int IntKind.u64 (rq)), (AV.int IntKind.u32 (fr)), (AV.int IntKind.u32 (ct)), (AV.str (d)), (AV.osl (false) (4) (0) (1) (1) (4) (true))] true), some (AObj.tarr [Sh.int IntKind.u8] (0) (fun p_ q_ => AV.bad) true), some (AObj.tarr [Sh.int IntKind.u64, Sh.int IntKind.u64, Sh.int IntKind.u32, Sh.int IntKind.u32] (1) (rowsOf (4) [(AV.int IntKind.u64 ((val f (off) (8)))), (AV.int IntKind.u64 ((val f (off + 8) (8)))), (AV.int IntKind.u32 (IntKind.wrap IntKind.u32 (val f (off + 16) 4))), (AV.int IntKind.u32 (0))] (1)) true)])))
  (some (0, (CS.mk [(AV.ptr (0) (0)), (AV.ptr (1) (0)), (AV.ptr (2) (0)), (AV.int IntKind.i64 (n)), (AV.int IntKind.i64 (IntKind.wrap IntKind.i64 ((↑i : Int) + 1)))] [some (AObj.cells [(AV.osl (false) (3) (off + 24) (N - (off + 24)) (N - (off + 24)) (1) (true)), (AV.bool (false))] true), some (AObj.cells [AV.bad, AV.bad, AV.bad, AV.bad, AV.bad, AV.bad, AV.bad, AV.bad, AV.bad, AV.bad] true), some (AObj.cells [(AV.int IntKind.u64 (ix)), (AV.int IntKind.u64 (tm)), (AV.int IntKind.u64 (st)), (AV.int IntKind.i64 (kd)), (AV.int IntKind.u64 (cl)), (AV.int IntKind.u64 (rq)), (AV.int IntKind.u32 (fr)), (AV.int IntKind.u32 (ct)), (AV.str (d)), (AV.osl (false) (4) (0) (1) (1) (4) (true))] true), some (AObj.tarr [Sh.int IntKind.u8] (N) f true), some (AObj.tarr [Sh.int IntKind.u64, Sh.int IntKind.u64, Sh.int IntKind.u32, Sh.int IntKind.u32] (1) (rowsOf (4) [(AV.int IntKind.u64 ((val f (off) (8)))), (AV.int IntKind.u64 ((val f (off + 8) (8)))), (AV.int IntKind.u32 (IntKind.wrap IntKind.u32 (val f (off + 16) 4))), (AV.int IntKind.u32 (IntKind.wrap IntKind.u32 (val f (off + 20) 4)))] (1)) true)])))))))
  none)
  none)
  none)
  (some (1, (CS.mk [(AV.ptr (0) (0)), (AV.ptr (1) (0)), (AV.ptr (2) (0))] [some (AObj.cells [(AV.osl (false) (3) (off) (N - off) (N - off) (1) (true)), (AV.bool (false))] true), some (AObj.cells [AV.bad, AV.bad, AV.bad, AV.bad, AV.bad, AV.bad, AV.bad, AV.bad, AV.bad, AV.bad] true), some (AObj.cells [(AV.int IntKind.u64 (ix)), (AV.int IntKind.u64 (tm)), (AV.int IntKind.u64 (st)), (AV.int IntKind.i64 (kd)), (AV.int IntKind.u64 (cl)), (AV.int IntKind.u64 (rq)), (AV.int IntKind.u32 (fr)), (AV.int IntKind.u32 (ct)), (AV.str (d)), AV.nilSlice] true), some (AObj.tarr [Sh.int IntKind.u8] (N) f true)])))) := by
  rw [s14tw_is]
  try simp only [eq_self, decide_true, beq_self_eq_true, Nat.beq_refl, ble_self, Int.le_refl, Nat.le_refl]
  cases (decide ((↑i : Int) < n)) with
  | true =>
    cases (okB f (N)) with
    | true =>
      cases (Nat.ble off N) with
      | true =>
        cases (Nat.ble N 1000000) with
        | true =>
          cases (Nat.blt N (off + 8)) with
          | true =>
            rfl
          | false =>
            cases (Nat.blt N (off + 16)) with
            | true =>
              rfl
            | false =>
              cases (Nat.blt N (off + 20)) with
              | true =>
                rfl
              | false =>
                cases (Nat.blt N (off + 24)) with
                | true =>
                  rfl
                | false =>
                  rfl
        | false =>
          rfl
      | false =>
        rfl
    | false =>
      rfl
  | false =>
    rfl

noncomputable def s14fw (off : Nat) (N : Nat) (f : Nat → Nat → AV) (ix : Int) (tm : Int) (st : Int) (kd : Int) (cl : Int) (rq : Int) (fr : Int) (ct : Int) (d : List Nat) (m : Nat) (g : Nat → Nat → AV) (n : Int) (i : Nat) (π : Plan) : Option (Nat × CS) := stepC (W5) (1000) (loopC W5 14 0) (1) (h14) ((.normal, h14) :: x14) π (c14fw off N f ix tm st kd cl rq fr ct d m g n i)
def s14fw_p : Plan := (.fork (.reck 7 (.must true (.must true (.reck 2 (.fork (.fork (.fork (.fork (.reck 2 (.must false (.fork (.fork (.reck 2 (.must true (.must true (.reck 2 (.must true (.must true .stop)))))) .stop) .stop))) (.fork (.reck 2 (.must false (.fork (.fork (.reck 2 (.must true (.must true (.reck 2 (.must true (.must true .stop)))))) .stop) .stop))) (.fork (.reck 2 (.must false (.fork (.fork (.reck 2 (.must true (.must true (.reck 2 (.must true (.must true .stop)))))) .stop) .stop))) (.fork (.reck 2 (.must false (.fork (.fork (.reck 2 (.must true (.must true (.reck 2 (.must true (.must true .stop)))))) .stop) .stop))) (.reck 2 (.must false (.fork (.fork (.reck 2 (.must true (.must true (.reck 2 (.must true (.must true .stop)))))) .stop) .stop))))))) .stop) .stop) .stop))))) .stop)
theorem s14fw_is (off : Nat) (N : Nat) (f : Nat → Nat → AV) (ix : Int) (tm : Int) (st : Int) (kd : Int) (cl : Int) (rq : Int) (fr : Int) (ct : Int) (d : List Nat) (m : Nat) (g : Nat → Nat → AV) (n : Int) (i : Nat) : s14fw off N f ix tm st kd cl rq fr ct d m g n i s14fw_p = (cond (decide ((↑i : Int) < n))
  (cond (decide (N - off = N - off)) (cond (decide (N - off = N - off)) (cond ((okB f (N)))
  (cond (Nat.ble off N)
  (cond (Nat.ble N 1000000)
  (cond (Nat.blt N (off + 8))
  (cond (Nat.ble ((m) + (1)) (m)) none (cond (growB (24) (m + 1))
  (cond (Nat.ble (0 + m) m)
  (cond (Nat.beq m m) (cond (Nat.beq m m) (cond (Nat.beq m m) (cond (Nat.beq m m) (some (0, (CS.mk [(AV.ptr (0) (0)), (AV.ptr (1) (0)), (AV.ptr (2) (0)), (AV.int IntKind.i64 (n)), (AV.int IntKind.i64 (IntKind.wrap IntKind.i64 ((↑i : Int) + 1)))] [some (AObj.cells [(AV.osl (true) (3) (0) (0) (0) (1) (true)), (AV.bool (true))] true), some (AObj.cells [AV.bad, AV.bad, AV.bad, AV.bad, AV.bad, AV.bad, AV.bad, AV.bad, AV.bad, AV.bad] true), some (AObj.cells [(AV.int IntKind.u64 (ix)), (AV.int IntKind.u64 (tm)), (AV.int IntKind.u64 (st)), (AV.int IntKind.i64 (kd)), (AV.int IntKind.u64 (cl)), (AV.int IntKind.u64 (rq)), (AV.int IntKind.u32 (fr)), (AV.int IntKind.u32 (ct)), (AV.str (d)), (AV.osl (false) (4) (0) (m + 1) (m + 1) (4) (true))] true), some (AObj.tarr [Sh.int IntKind.u8] (0) (fun p_ q_ => AV.bad) true), some (AObj.tarr [Sh.int IntKind.u64, Sh.int IntKind.u64, Sh.int IntKind.u32, Sh.int IntKind.u32] (m + 1) (fjoin (fun p_ q_ => g (0 + p_) q_) (m) (rowsOf (4) [(AV.int IntKind.u64 (0)), (AV.int IntKind.u64 (0)), (AV.int IntKind.u32 (0)), (AV.int IntKind.u32 (0))] (1))) true)]))) none) none) none) none)
  none)
  none))
  (cond (Nat.blt N (off + 16))
  (cond (Nat.ble ((m) + (1)) (m)) none (cond (growB (24) (m + 1))
  (cond (Nat.ble (0 + m) m)
  (cond (Nat.beq m m) (cond (Nat.beq m m) (cond (Nat.beq m m) (cond (Nat.beq m m) (some (0, (CS.mk [(AV.ptr (0) (0)), (AV.ptr (1) (0)), (AV.ptr (2) (0)), (AV.int IntKind.i64 (n)), (AV.int IntKind.i64 (IntKind.wrap IntKind.i64 ((↑i : Int) + 1)))] [some (AObj.cells [(AV.osl (true) (3) (0) (0) (0) (1) (true)), (AV.bool (true))] true), some (AObj.cells [AV.bad, AV.bad, AV.bad, AV.bad, AV.bad, AV.bad, AV.bad, AV.bad, AV.bad, AV.bad] true), some (AObj.cells [(AV.int IntKind.u64 (ix)), (AV.int IntKind.u64 (tm)), (AV.int IntKind.u64 (st)), (AV.int IntKind.i64 (kd)), (AV.int IntKind.u64 (cl)), (AV.int IntKind.u64 (rq)), (AV.int IntKind.u32 (fr)), (AV.int IntKind.u32 (ct)), (AV.str (d)), (AV.osl (false) (4) (0) (m + 1) (m + 1) (4) (true))] true), some (AObj.tarr [Sh.int IntKind.u8] (0) (fun p_ q_ => AV.bad) true), some (AObj.tarr [Sh.int IntKind.u64, Sh.int IntKind.u64, Sh.int IntKind.u32, Sh.int IntKind.u32] (m + 1) (fjoin (fun p_ q_ => g (0 + p_) q_) (m) (rowsOf (4) [(AV.int IntKind.u64 ((val f (off) (8)))), (AV.int IntKind.u64 (0)), (AV.int IntKind.u32 (0)), (AV.int IntKind.u32 (0))] (1))) true)]))) none) none) none) none)
  none)
  none))
  (cond (Nat.blt N (off + 20))
  (cond (Nat.ble ((m) + (1)) (m)) none (cond (growB (24) (m + 1))
  (cond (Nat.ble (0 + m) m)
  (cond (Nat.beq m m) (cond (Nat.beq m m) (cond (Nat.beq m m) (cond (Nat.beq m m) (some (0, (CS.mk [(AV.ptr (0) (0)), (AV.ptr (1) (0)), (AV.ptr (2) (0)), (AV.int IntKind.i64 (n)), (AV.int IntKind.i64 (IntKind.wrap IntKind.i64 ((↑i : Int) + 1)))] [some (AObj.cells [(AV.osl (true) (3) (0) (0) (0) (1) (true)), (AV.bool (true))] true), some (AObj.cells [AV.bad, AV.bad, AV.bad, AV.bad, AV.bad, AV.bad, AV.bad, AV.bad, AV.bad, AV.bad] true), some (AObj.cells [(AV.int IntKind.u64 (ix)), (AV.int IntKind.u64 (tm)), (AV.int IntKind.u64 (st)), (AV.int IntKind.i64 (kd)), (AV.int IntKind.u64 (cl)), (AV.int IntKind.u64 (rq)), (AV.int IntKind.u32 (fr)), (AV.int IntKind.u32 (ct)), (AV.str (d)), (AV.osl (false) (4) (0) (m + 1) (m + 1) (4) (true))] true), some (AObj.tarr [Sh.int IntKind.u8] (0) (fun p_ q_ => AV.bad) true), some (AObj.tarr [Sh.int IntKind.u64, Sh.int IntKind.u64, Sh.int IntKind.u32, Sh.int IntKind.u32] (m + 1) (fjoin (fun p_ q_ => g (0 + p_) q_) (m) (rowsOf (4) [(AV.int IntKind.u64 ((val f (off) (8)))), (AV.int IntKind.u64 ((val f (off + 8) (8)))), (AV.int IntKind.u32 (0)), (AV.int IntKind.u32 (0))] (1))) true)]))) none) none) none) none)
  none)
  none))
  (cond (Nat.blt N (off + 24))
  (cond (Nat.ble ((m) + (1)) (m)) none (cond (growB (24) (m + 1))
  (cond (Nat.ble (0 + m) m)
  (cond (Nat.beq m m) (cond (Nat.beq m m) (cond (Nat.beq m m) (cond (Nat.beq m m) (some (0, (CS.mk [(AV.ptr (0) (0)), (AV.ptr (1) (0)), (AV.ptr (2) (0)), (AV.int IntKind.i64 (n)), (AV.int IntKind.i64 (IntKind.wrap IntKind.i64 ((↑i : Int) + 1)))] [some (AObj.cells [(AV.osl (true) (3) (0) (0) (0) (1) (true)), (AV.bool (true))] true), some (AObj.cells [AV.bad, AV.bad, AV.bad, AV.bad, AV.bad, AV.bad, AV.bad, AV.bad, AV.bad, AV.bad] true), some (AObj.cells [(AV.int IntKind.u64 (ix)), (AV.int IntKind.u64 (tm)), (AV.int IntKind.u64 (st)), (AV.int IntKind.i64 (kd)), (AV.int IntKind.u64 (cl)), (AV.int IntKind.u64 (rq)), (AV.int IntKind.u32 (fr)), (AV.int IntKind.u32 (ct)), (AV.str (d)), (AV.osl (false) (4) (0) (m + 1) (m + 1) (4) (true))] true), some (AObj.tarr [Sh.int IntKind.u8] (0) (fun p_ q_ => AV.bad) true), some (AObj.tarr [Sh.int IntKind.u64, Sh.int IntKind.u64, Sh.int IntKind.u32, Sh.int IntKind.u32] (m + 1) (fjoin (fun p_ q_ => g (0 + p_) q_) (m) (rowsOf (4) [(AV.int IntKind.u64 ((val f (off) (8)))), (AV.int IntKind.u64 ((val f (off + 8) (8)))), (AV.int IntKind.u32 (IntKind.wrap IntKind.u32 (val f (off + 16) 4))), (AV.int IntKind.u32 (0))] (1))) true)]))) none) none) none) none)
  none)
  none))
  (cond (Nat.ble ((m) + (1)) (m)) none (cond (growB (24) (m + 1))
  (cond (Nat.ble (0 + m) m)
  (cond (Nat.beq m m) (cond (Nat.beq m m) (cond (Nat.beq m m) (cond (Nat.beq m m) (some (0, (CS.mk [(AV.ptr (0) (0)), (AV.ptr (1) (0)), (AV.ptr (2) (0)), (AV.int IntKind.i64 (n)), (AV.int IntKind.i64 (IntKind.wrap IntKind.i64 ((↑i : Int) + 1)))] [some (AObj.cells [(AV.osl (false) (3) (off + 24) (N - (off + 24)) (N - (off + 24)) (1) (true)), (AV.bool (false))] true), some (AObj.cells [AV.bad, AV.bad, AV.bad, AV.bad, AV.bad, AV.bad, AV.bad, AV.bad, AV.bad, AV.bad] true), some (AObj.cells [(AV.int IntKind.u64 (ix)), (AV.int IntKind.u64 (tm)), (AV.int IntKind.u64 (st)), (AV.int IntKind.i64 (kd)), (AV.int IntKind.u64 (cl)), (AV.int IntKind.u64 (rq)), (AV.int IntKind.u32 (fr)), (AV.int IntKind.u32 (ct)), (AV.str (d)), (AV.osl (false) (4) (0) (m + 1) (m + 1) (4) (true))] true), some (AObj.tarr [Sh.int IntKind.u8] (N) f true), some (AObj.tarr [Sh.int IntKind.u64, Sh.int IntKind.u64, Sh.int IntKind.u32, Sh.int IntKind.u32] (m + 1) (fjoin (fun p_ q_ => g (0 + p_) q_) (m) (rowsOf (4) [(AV.int IntKind.u64 ((val f (off) (8)))), (AV.int IntKind.u64 ((val f (off + 8) (8)))), (AV.int IntKind.u32 (IntKind.wrap IntKind.u32 (val f (off + 16) 4))), (AV.int IntKind.u32 (IntKind.wrap IntKind.u32 (val f (off + 20) 4)))] (1))) true)]))) none) none) none) none)
  none)
  none))))))
  none)
  none)
  none) none) none)
  (some (1, (CS.mk [(AV.ptr (0) (0)), (AV.ptr (1) (0)), (AV.ptr (2) (0))] [some (AObj.cells [(AV.osl (false) (3) (off) (N - off) (N - off) (1) (true)), (AV.bool (false))] true), some (AObj.cells [AV.bad, AV.bad, AV.bad, AV.bad, AV.bad, AV.bad, AV.bad, AV.bad, AV.bad, AV.bad] true), some (AObj.cells [(AV.int IntKind.u64 (ix)), (AV.int IntKind.u64 (tm)), (AV.int IntKind.u64 (st)), (AV.int IntKind.i64 (kd)), (AV.int IntKind.u64 (cl)), (AV.int IntKind.u64 (rq)), (AV.int IntKind.u32 (fr)), (AV.int IntKind.u32 (ct)), (AV.str (d)), (AV.osl (false) (4) (0) (m) (m) (4) (true))] true), some (AObj.tarr [Sh.int IntKind.u8] (N) f true), some (AObj.tarr [Sh.int IntKind.u64, Sh.int IntKind.u64, Sh.int IntKind.u32, Sh.int IntKind.u32] (m) g true)])))) := by kernel_rfl
theorem s14fw_eq (off : Nat) (N : Nat) (f : Nat → Nat → AV) (ix : Int) (tm : Int) (st : Int) (kd : Int) (cl : Int) (rq : Int) (fr : Int) (ct : Int) (d : List Nat) (m : Nat) (g : Nat → Nat → AV) (n : Int) (i : Nat) : s14fw off N f ix tm st kd cl rq fr ct d m g n i s14fw_p = (cond (decide ((↑i : Int) < n))
  (cond (okB f (N))
  (cond (Nat.ble off N)
  (cond (Nat.ble N 1000000)
  (cond (Nat.blt N (off + 8))
  (cond (Nat.ble ((m) + (1)) (m)) none (cond (growB (24) (m + 1))
  (cond (Nat.ble (0 + m) m)
  (some (0, (CS.mk [(AV.ptr (0) (0)), (AV.ptr (1) (0)), (AV.ptr (2) (0)), (AV.int IntKind.i64 (n)), (AV.int IntKind.i64 (IntKind.wrap IntKind.i64 ((↑i : Int) + 1)))] [some (AObj.cells [(AV.osl (true) (3) (0) (0) (0) (1) (true)), (AV.bool (true))] true), some (AObj.cells [AV.bad, AV.bad, AV.bad, AV.bad, AV.bad, AV.bad, AV.bad, AV.bad, AV.bad, AV.bad] true), some (AObj.cells [(AV.int IntKind.u64 (ix)), (AV.int IntKind.u64 (tm)), (AV.int IntKind.u64 (st)), (AV.int IntKind.i64 (kd)), (AV.int IntKind.u64 (cl)), (AV.int IntKind.u64 (rq)), (AV.int IntKind.u32 (fr)), (AV.int IntKind.u32 (ct)), (AV.str (d)), (AV.osl (false) (4) (0) (m + 1) (m + 1) (4) (true))] true), some (AObj.tarr [Sh.int IntKind.u8] (0) (fun p_ q_ => AV.bad) true), some (AObj.tarr [Sh.int IntKind.u64, Sh.int IntKind.u64, Sh.int IntKind.u32, Sh.int IntKind.u32] (m + 1) (fjoin (fun p_ q_ => g (0 + p_) q_) (m) (rowsOf (4) [(AV.int IntKind.u64 (0)), (AV.int IntKind.u64 (0)), (AV.int IntKind.u32 (0)), (AV.int IntKind.u32 (0))] (1))) true)])))
  none)
  none))
  (cond (Nat.blt N (off + 16))
  (cond (Nat.ble ((m) + (1)) (m)) none (cond (growB (24) (m + 1))
  (cond (Nat.ble (0 + m) m)
  (some (0, (CS.mk [(AV.ptr (0) (0)), (AV.ptr (1) (0)), (AV.ptr (2) (0)), (AV.int IntKind.i64 (n)), (AV.int IntKind.i64 (IntKind.wrap IntKind.i64 ((↑i : Int) + 1)))] [some (AObj.cells [(AV.osl (true) (3) (0) (0) (0) (1) (true)), (AV.bool (true))] true), some (AObj.cells [AV.bad, AV.bad, AV.bad, AV.bad, AV.bad, AV.bad, AV.bad, AV.bad, AV.bad, AV.bad] true), some (AObj.cells [(AV.int IntKind.u64 (ix)), (AV.int IntKind.u64 (tm)), (AV.int IntKind.u64 (st)), (AV.int IntKind.i64 (kd)), (AV.int IntKind.u64 (cl)), (AV.int IntKind.u64 (rq)), (AV.int IntKind.u32 (fr)), (AV.int IntKind.u32 (ct)), (AV.str (d)), (AV.osl (false) (4) (0) (m + 1) (m + 1) (4) (true))] true), some (AObj.tarr [Sh.int IntKind.u8] (0) (fun p_ q_ => AV.bad) true), some (AObj.tarr [Sh.int IntKind.u64, Sh.int IntKind.u64, Sh.int IntKind.u32, Sh.int IntKind.u32] (m + 1) (fjoin (fun p_ q_ => g (0 + p_) q_) (m) (rowsOf (4) [(AV.int IntKind.u64 ((val f (off) (8)))), (AV.int IntKind.u64 (0)), (AV.int IntKind.u32 (0)), (AV.int IntKind.u32 (0))] (1))) true)])))
  none)
  none))
  (cond (Nat.blt N (off + 20))
  (cond (Nat.ble ((m) + (1)) (m)) none (cond (growB (24) (m + 1))
  (cond (Nat.ble (0 + m) m)
  (some (0, (CS.mk [(AV.ptr (0) (0)), (AV.ptr (1) (0)), (AV.ptr (2) (0)), (AV.int IntKind.i64 (n)), (AV.int IntKind.i64 (IntKind.wrap IntKind.i64 ((↑i : Int) + 1)))] [some (AObj.cells [(AV.osl (true) (3) (0) (0) (0) (1) (true)), (AV.bool (true))] true), some (AObj.cells [AV.bad, AV.bad, AV.bad, AV.bad, AV.bad, AV.bad, AV.bad, AV.bad, AV.bad, AV.bad] true), some (AObj.cells [(AV.int IntKind.u64 (ix)), (AV.int IntKind.u64 (tm)), (AV.int IntKind.u64 (st)), (AV.int IntKind.i64 (kd)), (AV.int IntKind.u64 (cl)), (AV.int IntKind.u64 (rq)), (AV.int IntKind.u32 (fr)), (AV.int IntKind.u32 (ct)), (AV.str (d)), (AV.osl (false) (4) (0) (m + 1) (m + 1) (4) (true))] true), some (AObj.tarr [Sh.int IntKind.u8] (0) (fun p_ q_ => AV.bad) true), some (AObj.tarr [Sh.int IntKind.u64, Sh.int IntKind.u64, Sh.int IntKind.u32, Sh.int IntKind.u32] (m + 1) (fjoin (fun p_ q_ => g (0 + p_) q_) (m) (rowsOf (4) [(AV.int IntKind.u64 ((val f (off) (8)))), (AV.int IntKind.u64 ((val f (off + 8) (8)))), (AV.int IntKind.u32 (0)), (AV.int IntKind.u32 (0))] (1))) true)])))
  none)
  none))
  (cond (Nat.blt N (off + 24))
  (cond (Nat.ble ((m) + (1)) (m)) none (cond (growB (24) (m + 1))
  (cond (Nat.ble (0 + m) m)
  (some (0, (CS.mk [(AV.ptr (0) (0)), (AV.ptr (1) (0)), (AV.ptr (2) (0)), (AV.int IntKind.i64 (n)), (AV.int IntKind.i64 (IntKind.wrap IntKind.i64 ((↑i : Int) + 1)))] [some (AObj.cells [(AV.osl (true) (3) (0) (0) (0) (1) (true)), (AV.bool (true))] true), some (AObj.cells [AV.bad, AV.bad, AV.bad, AV.bad, AV.bad, AV.bad, AV.bad, AV.bad, AV.bad, AV.bad] true), some (AObj.cells [(AV.int IntKind.u64 (ix)), (AV.int IntKind.u64 (tm)), (AV.int IntKind.u64 (st)), (AV.int IntKind.i64 (kd)), (AV.int IntKind.u64 (cl)), (AV.int IntKind.u64 (rq)), (AV.int IntKind.u32 (fr)), (AV.int IntKind.u32 (ct)), (AV.str (d)), (AV.osl (false) (4) (0) (m + 1) (m + 1) (4) (true))] true), some (AObj.tarr [Sh.int IntKind.u8] (0) (fun p_ q_ => AV.bad) true), some (AObj.tarr [Sh.int IntKind.u64, Sh.int IntKind.u64, Sh.int IntKind.u32, Sh.int IntKind.u32] (m + 1) (fjoin (fun p_ q_ => g (0 + p_) q_) (m) (rowsOf (4) [(AV.int IntKind.u64 ((val f (off) (8)))), (AV.int IntKind.u64 ((val f (off + 8) (8)))), (AV.int IntKind.u32 (IntKind.wrap IntKind.u32 (val f (off + 16) 4))), (AV.int IntKind.u32 (0))] (1))) true)])))
  none)
  none))
  (cond (Nat.ble ((m) + (1)) (m)) none (cond (growB (24) (m + 1))
  (cond (Nat.ble (0 + m) m)
  (some (0, (CS.mk [(AV.ptr (0) (0)), (AV.ptr (1) (0)), (AV.ptr (2) (0)), (AV.int IntKind.i64 (n)), (AV.int IntKind.i64 (IntKind.wrap IntKind.i64 ((↑i : Int) + 1)))] [some (AObj.cells [(AV.osl (false) (3) (off + 24) (N - (off + 24)) (N - (off + 24)) (1) (true)), (AV.bool (false))] true), some (AObj.cells [AV.bad, AV.bad, AV.bad, AV.bad, AV.bad, AV.bad, AV.bad, AV.bad, AV.bad, AV.bad] true), some (AObj.cells [(AV.int IntKind.u64 (ix)), (AV.int IntKind.u64 (tm)), (AV.int IntKind.u64 (st)), (AV.int IntKind.i64 (kd)), (AV.int IntKind.u64 (cl)), (AV.int IntKind.u64 (rq)), (AV.int IntKind.u32 (fr)), (AV.int IntKind.u32 (ct)), (AV.str (d)), (AV.osl (false) (4) (0) (m + 1) (m + 1) (4) (true))] true), some (AObj.tarr [Sh.int IntKind.u8] (N) f true), some (AObj.tarr [Sh.int IntKind.u64, Sh.int IntKind.u64, Sh.int IntKind.u32, Sh.int IntKind.u32] (m + 1) (fjoin (fun p_ q_ => g (0 + p_) q_) (m) (rowsOf (4) [(AV.int IntKind.u64 ((val f (off) (8)))), (AV.int IntKind.u64 ((val f (off + 8) (8)))), (AV.int IntKind.u32 (IntKind.wrap IntKind.u32 (val f (off + 16) 4))), (AV.int IntKind.u32 (IntKind.wrap IntKind.u32 (val f (off + 20) 4)))] (1))) true)])))
  none)
  none))))))
  none)
  none)
  none)
  (some (1, (CS.mk [(AV.ptr (0) (0)), (AV.ptr (1) (0)), (AV.ptr (2) (0))] [some (AObj.cells [(AV.osl (false) (3) (off) (N - off) (N - off) (1) (true)), (AV.bool (false))] true), some (AObj.cells [AV.bad, AV.bad, AV.bad, AV.bad, AV.bad, AV.bad, AV.bad, AV.bad, AV.bad, AV.bad] true), some (AObj.cells [(AV.int IntKind.u64 (ix)), (AV.int IntKind.u64 (tm)), (AV.int IntKind.u64 (st)), (AV.int IntKind.i64 (kd)), (AV.int IntKind.u64 (cl)), (AV.int IntKind.u64 (rq)), (AV.int IntKind.u32 (fr)), (AV.int IntKind.u32 (ct)), (AV.str (d)), (AV.osl (false) (4) (0) (m) (m) (4) (true))] true), some (AObj.tarr [Sh.int IntKind.u8] (N) f true), some (AObj.tarr [Sh.int IntKind.u64, Sh.int IntKind.u64, Sh.int IntKind.u32, Sh.int IntKind.u32] (m) g true)])))) := by
  rw [s14fw_is]
  try simp only [eq_self, decide_true, beq_self_eq_true, Nat.beq_refl, ble_self, Int.le_refl, Nat.le_refl]
  cases (decide ((↑i : Int) < n)) with
  | true =>
    cases (okB f (N)) with
    | true =>
      cases (Nat.ble off N) with
      | true =>
        cases (Nat.ble N 1000000) with
        | true =>
          cases (Nat.blt N (off + 8)) with
          | true =>
            cases (growB (24) (m + 1)) with
            | true =>
              cases (Nat.ble (0 + m) m) with
              | true =>
                rfl
              | false =>
                rfl
            | false =>
              rfl
          | false =>
            cases (Nat.blt N (off + 16)) with
            | true =>
              cases (growB (24) (m + 1)) with
              | true =>
                cases (Nat.ble (0 + m) m) with
                | true =>
                  rfl
                | false =>
                  rfl
              | false =>
                rfl
            | false =>
              cases (Nat.blt N (off + 20)) with
              | true =>
                cases (growB (24) (m + 1)) with
                | true =>
                  cases (Nat.ble (0 + m) m) with
                  | true =>
                    rfl
                  | false =>
                    rfl
                | false =>
                  rfl
              | false =>
                cases (Nat.blt N (off + 24)) with
                | true =>
                  cases (growB (24) (m + 1)) with
                  | true =>
                    cases (Nat.ble (0 + m) m) with
                    | true =>
                      rfl
                    | false =>
                      rfl
                  | false =>
                    rfl
                | false =>
                  cases (growB (24) (m + 1)) with
                  | true =>
                    cases (Nat.ble (0 + m) m) with
                    | true =>
                      rfl
                    | false =>
                      rfl
                  | false =>
                    rfl
        | false =>
          rfl
      | false =>
        rfl
    | false =>
      rfl
  | false =>
    rfl

noncomputable def s14bw (n : Int) (i : Nat) (π : Plan) : Option (Nat × CS) := stepC (W5) (1000) (loopC W5 14 0) (1) (h14) ((.normal, h14) :: x14) π (c14b n i)
def s14bw_p : Plan := (.fork .stop .stop)
theorem s14bw_is (n : Int) (i : Nat) : s14bw n i s14bw_p = (cond (decide ((↑i : Int) < n))
  (some (1, (CS.mk [(AV.ptr (0) (0)), (AV.ptr (1) (0)), (AV.ptr (2) (0))] [some (AObj.cells [(AV.osl (true) (3) (0) (0) (0) (1) (true)), (AV.bool (true))] true), some (AObj.cells [AV.bad, AV.bad, AV.bad, AV.bad, AV.bad, AV.bad, AV.bad, AV.bad, AV.bad, AV.bad] true), some (AObj.cells [AV.bad, AV.bad, AV.bad, AV.bad, AV.bad, AV.bad, AV.bad, AV.bad, AV.bad, AV.bad] true), some (AObj.tarr [Sh.int IntKind.u8] (0) (fun p_ q_ => AV.bad) true)])))
  (some (1, (CS.mk [(AV.ptr (0) (0)), (AV.ptr (1) (0)), (AV.ptr (2) (0))] [some (AObj.cells [(AV.osl (true) (3) (0) (0) (0) (1) (true)), (AV.bool (true))] true), some (AObj.cells [AV.bad, AV.bad, AV.bad, AV.bad, AV.bad, AV.bad, AV.bad, AV.bad, AV.bad, AV.bad] true), some (AObj.cells [AV.bad, AV.bad, AV.bad, AV.bad, AV.bad, AV.bad, AV.bad, AV.bad, AV.bad, AV.bad] true), some (AObj.tarr [Sh.int IntKind.u8] (0) (fun p_ q_ => AV.bad) true)])))) := by kernel_rfl
theorem s14bw_eq (n : Int) (i : Nat) : s14bw n i s14bw_p = (cond (decide ((↑i : Int) < n))
  (some (1, (CS.mk [(AV.ptr (0) (0)), (AV.ptr (1) (0)), (AV.ptr (2) (0))] [some (AObj.cells [(AV.osl (true) (3) (0) (0) (0) (1) (true)), (AV.bool (true))] true), some (AObj.cells [AV.bad, AV.bad, AV.bad, AV.bad, AV.bad, AV.bad, AV.bad, AV.bad, AV.bad, AV.bad] true), some (AObj.cells [AV.bad, AV.bad, AV.bad, AV.bad, AV.bad, AV.bad, AV.bad, AV.bad, AV.bad, AV.bad] true), some (AObj.tarr [Sh.int IntKind.u8] (0) (fun p_ q_ => AV.bad) true)])))
  (some (1, (CS.mk [(AV.ptr (0) (0)), (AV.ptr (1) (0)), (AV.ptr (2) (0))] [some (AObj.cells [(AV.osl (true) (3) (0) (0) (0) (1) (true)), (AV.bool (true))] true), some (AObj.cells [AV.bad, AV.bad, AV.bad, AV.bad, AV.bad, AV.bad, AV.bad, AV.bad, AV.bad, AV.bad] true), some (AObj.cells [AV.bad, AV.bad, AV.bad, AV.bad, AV.bad, AV.bad, AV.bad, AV.bad, AV.bad, AV.bad] true), some (AObj.tarr [Sh.int IntKind.u8] (0) (fun p_ q_ => AV.bad) true)])))) := by
  rw [s14bw_is]

noncomputable def k14w (off : Nat) (N : Nat) (f : Nat → Nat → AV) (π : Plan) : Option CS := callC (W6) (1000) (14) (1) (.keep) ([pR]) π (rkw off N f)
def k14w_p : Plan := (.reck 1 (.must true (.must true (.reck 4 (.fork (.fork (.fork (.fork .stop (.reck 2 (.must true (.must true (.reck 4 (.must true (.fork (.must true (.fork .stop (.reck 2 (.must true (.must true (.reck 4 (.must true (.fork (.must true (.fork .stop (.reck 2 (.must true (.must true (.reck 4 (.must true (.fork (.must true (.fork .stop (.reck 2 (.must true (.must true (.reck 2 (.must true (.fork (.must true (.fork .stop (.fork (.reck 9 (.must true .stop)) (.fork (.reck 7 (.must true (.must true (.must true .stop)))) (.fork (.reck 1 (.must true (.reck 1 (.must true (.reck 1 (.must true (.reck 1 (.must true (.must true (.must true .stop)))))))))) (.reck 1 (.must true (.must true (.must true (.must true (.must true (.must true (.must true (.must true (.must true (.reck 1 (.must true (.must true (.reck 2 (.must true (.fork (.must true (.fork .stop (.fork .stop (.fork .stop (.reck 2 (.must true (.must true (.reck 4 (.must true (.fork (.must true (.fork .stop (.reck 1 (.fork .stop (.reck 1 (.must true (.must true (.reck 2 (.must true (.fork (.must true (.must true (.fork .stop (.fork .stop .stop)))) .stop)))))))))) .stop)))))))))) .stop))))))))))))))))))))) .stop)))))))) .stop)))))))) .stop)))))))) .stop))))))) .stop) .stop) .stop)))))
theorem k14w_is (off : Nat) (N : Nat) (f : Nat → Nat → AV) : k14w off N f k14w_p = (cond (decide (N - off = N - off)) (cond (decide (N - off = N - off)) (cond ((okB f (N)))
  (cond (Nat.ble off N)
  (cond (Nat.ble N 1000000)
  (cond (Nat.blt N (off + Int.toNat 8))
  (some (CS.mk [(AV.agg [(AV.int IntKind.u64 (0)), (AV.int IntKind.u64 (0)), (AV.int IntKind.u64 (0)), (AV.int IntKind.i64 (0)), (AV.int IntKind.u64 (0)), (AV.int IntKind.u64 (0)), (AV.int IntKind.u32 (0)), (AV.int IntKind.u32 (0)), (AV.str (bytesOf { data := #[] })), AV.nilSlice])] [some (AObj.cells [(AV.osl (true) (1) (0) (0) (0) (1) (true)), (AV.bool (true))] true), some (AObj.tarr [Sh.int IntKind.u8] (0) (fun p_ q_ => AV.bad) true)]))
  (cond (decide (N - (off + Int.toNat 8) = N - (off + Int.toNat 8))) (cond (decide (N - (off + Int.toNat 8) = N - (off + Int.toNat 8))) (cond ((okB f (N))) (cond (Nat.ble (off + Int.toNat 8) N)
  (cond (Nat.ble N 1000000) (cond (Nat.blt N (off + Int.toNat 8 + Int.toNat 8))
  (some (CS.mk [(AV.agg [(AV.int IntKind.u64 (0)), (AV.int IntKind.u64 (0)), (AV.int IntKind.u64 (0)), (AV.int IntKind.i64 (0)), (AV.int IntKind.u64 (0)), (AV.int IntKind.u64 (0)), (AV.int IntKind.u32 (0)), (AV.int IntKind.u32 (0)), (AV.str (bytesOf { data := #[] })), AV.nilSlice])] [some (AObj.cells [(AV.osl (true) (1) (0) (0) (0) (1) (true)), (AV.bool (true))] true), some (AObj.tarr [Sh.int IntKind.u8] (0) (fun p_ q_ => AV.bad) true)]))
  (cond (decide (N - (off + Int.toNat 8 + Int.toNat 8) = N - (off + Int.toNat 8 + Int.toNat 8))) (cond (decide (N - (off + Int.toNat 8 + Int.toNat 8) = N - (off + Int.toNat 8 + Int.toNat 8))) (cond ((okB f (N))) (cond (Nat.ble (off + Int.toNat 8 + Int.toNat 8) N)
  (cond (Nat.ble N 1000000) (cond (Nat.blt N (off + Int.toNat 8 + Int.toNat 8 + Int.toNat 8))
  (some (CS.mk [(AV.agg [(AV.int IntKind.u64 (0)), (AV.int IntKind.u64 (0)), (AV.int IntKind.u64 (0)), (AV.int IntKind.i64 (0)), (AV.int IntKind.u64 (0)), (AV.int IntKind.u64 (0)), (AV.int IntKind.u32 (0)), (AV.int IntKind.u32 (0)), (AV.str (bytesOf { data := #[] })), AV.nilSlice])] [some (AObj.cells [(AV.osl (true) (1) (0) (0) (0) (1) (true)), (AV.bool (true))] true), some (AObj.tarr [Sh.int IntKind.u8] (0) (fun p_ q_ => AV.bad) true)]))
  (cond (decide (N - (off + Int.toNat 8 + Int.toNat 8 + Int.toNat 8) = N - (off + Int.toNat 8 + Int.toNat 8 + Int.toNat 8))) (cond (decide (N - (off + Int.toNat 8 + Int.toNat 8 + Int.toNat 8) = N - (off + Int.toNat 8 + Int.toNat 8 + Int.toNat 8))) (cond ((okB f (N))) (cond (Nat.ble (off + Int.toNat 8 + Int.toNat 8 + Int.toNat 8) N)
  (cond (Nat.ble N 1000000) (cond (Nat.blt N (off + Int.toNat 8 + Int.toNat 8 + Int.toNat 8 + Int.toNat 1))
  (some (CS.mk [(AV.agg [(AV.int IntKind.u64 (0)), (AV.int IntKind.u64 (0)), (AV.int IntKind.u64 (0)), (AV.int IntKind.i64 (0)), (AV.int IntKind.u64 (0)), (AV.int IntKind.u64 (0)), (AV.int IntKind.u32 (0)), (AV.int IntKind.u32 (0)), (AV.str (bytesOf { data := #[] })), AV.nilSlice])] [some (AObj.cells [(AV.osl (true) (1) (0) (0) (0) (1) (true)), (AV.bool (true))] true), some (AObj.tarr [Sh.int IntKind.u8] (0) (fun p_ q_ => AV.bad) true)]))
  (cond (decide (N - (off + Int.toNat 8 + Int.toNat 8 + Int.toNat 8 + Int.toNat 1) = N - (off + Int.toNat 8 + Int.toNat 8 + Int.toNat 8 + Int.toNat 1))) (cond (decide (N - (off + Int.toNat 8 + Int.toNat 8 + Int.toNat 8 + Int.toNat 1) = N - (off + Int.toNat 8 + Int.toNat 8 + Int.toNat 8 + Int.toNat 1))) (cond ((okB f (N))) (cond (Nat.ble (off + Int.toNat 8 + Int.toNat 8 + Int.toNat 8 + Int.toNat 1) N)
  (cond (Nat.ble N 1000000) (cond (Nat.blt N (off + Int.toNat 8 + Int.toNat 8 + Int.toNat 8 + Int.toNat 1 + 8))
  (some (CS.mk [(AV.agg [(AV.int IntKind.u64 (0)), (AV.int IntKind.u64 (0)), (AV.int IntKind.u64 (0)), (AV.int IntKind.i64 (0)), (AV.int IntKind.u64 (0)), (AV.int IntKind.u64 (0)), (AV.int IntKind.u32 (0)), (AV.int IntKind.u32 (0)), (AV.str (bytesOf { data := #[] })), AV.nilSlice])] [some (AObj.cells [(AV.osl (true) (1) (0) (0) (0) (1) (true)), (AV.bool (true))] true), some (AObj.tarr [Sh.int IntKind.u8] (0) (fun p_ q_ => AV.bad) true)]))
  (cond (Nat.blt N (off + Int.toNat 8 + Int.toNat 8 + Int.toNat 8 + Int.toNat 1 + 16))
  (cond (decide (val f (off + Int.toNat 8 + Int.toNat 8 + Int.toNat 8 + Int.toNat 1) 8 = val f (off + Int.toNat 8 + Int.toNat 8 + Int.toNat 8 + Int.toNat 1) 8)) (some (CS.mk [(AV.agg [(AV.int IntKind.u64 (0)), (AV.int IntKind.u64 (0)), (AV.int IntKind.u64 (0)), (AV.int IntKind.i64 (0)), (AV.int IntKind.u64 (0)), (AV.int IntKind.u64 (0)), (AV.int IntKind.u32 (0)), (AV.int IntKind.u32 (0)), (AV.str (bytesOf { data := #[] })), AV.nilSlice])] [some (AObj.cells [(AV.osl (true) (1) (0) (0) (0) (1) (true)), (AV.bool (true))] true), some (AObj.tarr [Sh.int IntKind.u8] (0) (fun p_ q_ => AV.bad) true)])) none)
  (cond (Nat.blt N (off + Int.toNat 8 + Int.toNat 8 + Int.toNat 8 + Int.toNat 1 + 20))
  (cond (decide (val f (off + Int.toNat 8 + Int.toNat 8 + Int.toNat 8 + Int.toNat 1 + 8) 8 = val f (off + Int.toNat 8 + Int.toNat 8 + Int.toNat 8 + Int.toNat 1 + 8) 8)) (cond (decide (val f (off + Int.toNat 8 + Int.toNat 8 + Int.toNat 8 + Int.toNat 1 + 8) 8 = val f (off + Int.toNat 8 + Int.toNat 8 + Int.toNat 8 + Int.toNat 1 + 8) 8)) (cond (decide (val f (off + Int.toNat 8 + Int.toNat 8 + Int.toNat 8 + Int.toNat 1) 8 = val f (off + Int.toNat 8 + Int.toNat 8 + Int.toNat 8 + Int.toNat 1) 8)) (some (CS.mk [(AV.agg [(AV.int IntKind.u64 (0)), (AV.int IntKind.u64 (0)), (AV.int IntKind.u64 (0)), (AV.int IntKind.i64 (0)), (AV.int IntKind.u64 (0)), (AV.int IntKind.u64 (0)), (AV.int IntKind.u32 (0)), (AV.int IntKind.u32 (0)), (AV.str (bytesOf { data := #[] })), AV.nilSlice])] [some (AObj.cells [(AV.osl (true) (1) (0) (0) (0) (1) (true)), (AV.bool (true))] true), some (AObj.tarr [Sh.int IntKind.u8] (0) (fun p_ q_ => AV.bad) true)])) none) none) none)
  (cond (Nat.blt N (off + Int.toNat 8 + Int.toNat 8 + Int.toNat 8 + Int.toNat 1 + 24))
  (cond (decide (IntKind.wrap IntKind.u32 (val f (off + Int.toNat 8 + Int.toNat 8 + Int.toNat 8 + Int.toNat 1 + 16) 4) = IntKind.wrap IntKind.u32 (val f (off + Int.toNat 8 + Int.toNat 8 + Int.toNat 8 + Int.toNat 1 + 16) 4))) (cond (decide (IntKind.wrap IntKind.u32 (val f (off + Int.toNat 8 + Int.toNat 8 + Int.toNat 8 + Int.toNat 1 + 16) 4) = IntKind.wrap IntKind.u32 (val f (off + Int.toNat 8 + Int.toNat 8 + Int.toNat 8 + Int.toNat 1 + 16) 4))) (cond (decide (IntKind.wrap IntKind.u32 (val f (off + Int.toNat 8 + Int.toNat 8 + Int.toNat 8 + Int.toNat 1 + 16) 4) = IntKind.wrap IntKind.u32 (val f (off + Int.toNat 8 + Int.toNat 8 + Int.toNat 8 + Int.toNat 1 + 16) 4))) (cond (decide (val f (off + Int.toNat 8 + Int.toNat 8 + Int.toNat 8 + Int.toNat 1 + 8) 8 = val f (off + Int.toNat 8 + Int.toNat 8 + Int.toNat 8 + Int.toNat 1 + 8) 8)) (cond (decide (val f (off + Int.toNat 8 + Int.toNat 8 + Int.toNat 8 + Int.toNat 1 + 8) 8 = val f (off + Int.toNat 8 + Int.toNat 8 + Int.toNat 8 + Int.toNat 1 + 8) 8)) (cond (decide (val f (off + Int.toNat 8 + Int.toNat 8 + Int.toNat 8 + Int.toNat 1) 8 = val f (off + Int.toNat 8 + Int.toNat 8 + Int.toNat 8 + Int.toNat 1) 8)) (some (CS.mk [(AV.agg [(AV.int IntKind.u64 (0)), (AV.int IntKind.u64 (0)), (AV.int IntKind.u64 (0)), (AV.int IntKind.i64 (0)), (AV.int IntKind.u64 (0)), (AV.int IntKind.u64 (0)), (AV.int IntKind.u32 (0)), (AV.int IntKind.u32 (0)), (AV.str (bytesOf { data := #[] })), AV.nilSlice])] [some (AObj.cells [(AV.osl (true) (1) (0) (0) (0) (1) (true)), (AV.bool (true))] true), some (AObj.tarr [Sh.int IntKind.u8] (0) (fun p_ q_ => AV.bad) true)])) none) none) none) none) none) none)
  (cond (decide (IntKind.wrap IntKind.u32 (val f (off + Int.toNat 8 + Int.toNat 8 + Int.toNat 8 + Int.toNat 1 + 16) 4) = IntKind.wrap IntKind.u32 (val f (off + Int.toNat 8 + Int.toNat 8 + Int.toNat 8 + Int.toNat 1 + 16) 4))) (cond (decide (IntKind.wrap IntKind.u32 (val f (off + Int.toNat 8 + Int.toNat 8 + Int.toNat 8 + Int.toNat 1 + 20) 4) = IntKind.wrap IntKind.u32 (val f (off + Int.toNat 8 + Int.toNat 8 + Int.toNat 8 + Int.toNat 1 + 20) 4))) (cond (decide (IntKind.wrap IntKind.u32 (val f (off + Int.toNat 8 + Int.toNat 8 + Int.toNat 8 + Int.toNat 1 + 16) 4) = IntKind.wrap IntKind.u32 (val f (off + Int.toNat 8 + Int.toNat 8 + Int.toNat 8 + Int.toNat 1 + 16) 4))) (cond (decide (IntKind.wrap IntKind.u32 (val f (off + Int.toNat 8 + Int.toNat 8 + Int.toNat 8 + Int.toNat 1 + 20) 4) = IntKind.wrap IntKind.u32 (val f (off + Int.toNat 8 + Int.toNat 8 + Int.toNat 8 + Int.toNat 1 + 20) 4))) (cond (decide (IntKind.wrap IntKind.u32 (val f (off + Int.toNat 8 + Int.toNat 8 + Int.toNat 8 + Int.toNat 1 + 16) 4) = IntKind.wrap IntKind.u32 (val f (off + Int.toNat 8 + Int.toNat 8 + Int.toNat 8 + Int.toNat 1 + 16) 4))) (cond (decide (IntKind.wrap IntKind.u32 (val f (off + Int.toNat 8 + Int.toNat 8 + Int.toNat 8 + Int.toNat 1 + 20) 4) = IntKind.wrap IntKind.u32 (val f (off + Int.toNat 8 + Int.toNat 8 + Int.toNat 8 + Int.toNat 1 + 20) 4))) (cond (decide (val f (off + Int.toNat 8 + Int.toNat 8 + Int.toNat 8 + Int.toNat 1 + 8) 8 = val f (off + Int.toNat 8 + Int.toNat 8 + Int.toNat 8 + Int.toNat 1 + 8) 8)) (cond (decide (val f (off + Int.toNat 8 + Int.toNat 8 + Int.toNat 8 + Int.toNat 1 + 8) 8 = val f (off + Int.toNat 8 + Int.toNat 8 + Int.toNat 8 + Int.toNat 1 + 8) 8)) (cond (decide (val f (off + Int.toNat 8 + Int.toNat 8 + Int.toNat 8 + Int.toNat 1) 8 = val f (off + Int.toNat 8 + Int.toNat 8 + Int.toNat 8 + Int.toNat 1) 8)) (cond (decide (N - (off + Int.toNat 8 + Int.toNat 8 + Int.toNat 8 + Int.toNat 1 + 24) = N - (off + Int.toNat 8 + Int.toNat 8 + Int.toNat 8 + Int.toNat 1 + 24))) (cond (decide (N - (off + Int.toNat 8 + Int.toNat 8 + Int.toNat 8 + Int.toNat 1 + 24) = N - (off + Int.toNat 8 + Int.toNat 8 + Int.toNat 8 + Int.toNat 1 + 24))) (cond ((okB f (N))) (cond (Nat.ble (off + Int.toNat 8 + Int.toNat 8 + Int.toNat 8 + Int.toNat 1 + 24) N)
  (cond (Nat.ble N 1000000) (cond (Nat.blt N (off + Int.toNat 8 + Int.toNat 8 + Int.toNat 8 + Int.toNat 1 + 24 + 2))
  (some (CS.mk [(AV.agg [(AV.int IntKind.u64 (0)), (AV.int IntKind.u64 (0)), (AV.int IntKind.u64 (0)), (AV.int IntKind.i64 (0)), (AV.int IntKind.u64 (0)), (AV.int IntKind.u64 (0)), (AV.int IntKind.u32 (0)), (AV.int IntKind.u32 (0)), (AV.str (bytesOf { data := #[] })), AV.nilSlice])] [some (AObj.cells [(AV.osl (true) (1) (0) (0) (0) (1) (true)), (AV.bool (true))] true), some (AObj.tarr [Sh.int IntKind.u8] (0) (fun p_ q_ => AV.bad) true)]))
  (cond (decide (val f (off + Int.toNat 8 + Int.toNat 8 + Int.toNat 8 + Int.toNat 1 + 24) 2 > 16384))
  (some (CS.mk [(AV.agg [(AV.int IntKind.u64 (0)), (AV.int IntKind.u64 (0)), (AV.int IntKind.u64 (0)), (AV.int IntKind.i64 (0)), (AV.int IntKind.u64 (0)), (AV.int IntKind.u64 (0)), (AV.int IntKind.u32 (0)), (AV.int IntKind.u32 (0)), (AV.str (bytesOf { data := #[] })), AV.nilSlice])] [some (AObj.cells [(AV.osl (true) (1) (0) (0) (0) (1) (true)), (AV.bool (true))] true), some (AObj.tarr [Sh.int IntKind.u8] (0) (fun p_ q_ => AV.bad) true)]))
  (cond (Nat.blt N (off + Int.toNat 8 + Int.toNat 8 + Int.toNat 8 + Int.toNat 1 + 24 + 2 + Int.toNat (val f (off + Int.toNat 8 + Int.toNat 8 + Int.toNat 8 + Int.toNat 1 + 24) 2)))
  (some (CS.mk [(AV.agg [(AV.int IntKind.u64 (0)), (AV.int IntKind.u64 (0)), (AV.int IntKind.u64 (0)), (AV.int IntKind.i64 (0)), (AV.int IntKind.u64 (0)), (AV.int IntKind.u64 (0)), (AV.int IntKind.u32 (0)), (AV.int IntKind.u32 (0)), (AV.str (bytesOf { data := #[] })), AV.nilSlice])] [some (AObj.cells [(AV.osl (true) (1) (0) (0) (0) (1) (true)), (AV.bool (true))] true), some (AObj.tarr [Sh.int IntKind.u8] (0) (fun p_ q_ => AV.bad) true)]))
  (cond (decide (N - (off + Int.toNat 8 + Int.toNat 8 + Int.toNat 8 + Int.toNat 1 + 24 + 2 + Int.toNat (val f (off + Int.toNat 8 + Int.toNat 8 + Int.toNat 8 + Int.toNat 1 + 24) 2)) = N - (off + Int.toNat 8 + Int.toNat 8 + Int.toNat 8 + Int.toNat 1 + 24 + 2 + Int.toNat (val f (off + Int.toNat 8 + Int.toNat 8 + Int.toNat 8 + Int.toNat 1 + 24) 2)))) (cond (decide (N - (off + Int.toNat 8 + Int.toNat 8 + Int.toNat 8 + Int.toNat 1 + 24 + 2 + Int.toNat (val f (off + Int.toNat 8 + Int.toNat 8 + Int.toNat 8 + Int.toNat 1 + 24) 2)) = N - (off + Int.toNat 8 + Int.toNat 8 + Int.toNat 8 + Int.toNat 1 + 24 + 2 + Int.toNat (val f (off + Int.toNat 8 + Int.toNat 8 + Int.toNat 8 + Int.toNat 1 + 24) 2)))) (cond ((okB f (N))) (cond (Nat.ble (off + Int.toNat 8 + Int.toNat 8 + Int.toNat 8 + Int.toNat 1 + 24 + 2 + Int.toNat (val f (off + Int.toNat 8 + Int.toNat 8 + Int.toNat 8 + Int.toNat 1 + 24) 2)) N)
  (cond (Nat.ble N 1000000) (cond (Nat.blt N (off + Int.toNat 8 + Int.toNat 8 + Int.toNat 8 + Int.toNat 1 + 24 + 2 + Int.toNat (val f (off + Int.toNat 8 + Int.toNat 8 + Int.toNat 8 + Int.toNat 1 + 24) 2) + Int.toNat 1))
  (some (CS.mk [(AV.agg [(AV.int IntKind.u64 (0)), (AV.int IntKind.u64 (0)), (AV.int IntKind.u64 (0)), (AV.int IntKind.i64 (0)), (AV.int IntKind.u64 (0)), (AV.int IntKind.u64 (0)), (AV.int IntKind.u32 (0)), (AV.int IntKind.u32 (0)), (AV.str (bytesOf { data := #[] })), AV.nilSlice])] [some (AObj.cells [(AV.osl (true) (1) (0) (0) (0) (1) (true)), (AV.bool (true))] true), some (AObj.tarr [Sh.int IntKind.u8] (0) (fun p_ q_ => AV.bad) true)]))
  (cond (decide (IntKind.wrap IntKind.i64 (val f (off + Int.toNat 8 + Int.toNat 8 + Int.toNat 8 + Int.toNat 1 + 24 + 2 + Int.toNat (val f (off + Int.toNat 8 + Int.toNat 8 + Int.toNat 8 + Int.toNat 1 + 24) 2)) (Int.toNat 1)) > 64))
  (some (CS.mk [(AV.agg [(AV.int IntKind.u64 (0)), (AV.int IntKind.u64 (0)), (AV.int IntKind.u64 (0)), (AV.int IntKind.i64 (0)), (AV.int IntKind.u64 (0)), (AV.int IntKind.u64 (0)), (AV.int IntKind.u32 (0)), (AV.int IntKind.u32 (0)), (AV.str (bytesOf { data := #[] })), AV.nilSlice])] [some (AObj.cells [(AV.osl (true) (1) (0) (0) (0) (1) (true)), (AV.bool (true))] true), some (AObj.tarr [Sh.int IntKind.u8] (0) (fun p_ q_ => AV.bad) true)]))
  (cond (decide (N - (off + Int.toNat 8 + Int.toNat 8 + Int.toNat 8 + Int.toNat 1 + 24 + 2 + Int.toNat (val f (off + Int.toNat 8 + Int.toNat 8 + Int.toNat 8 + Int.toNat 1 + 24) 2) + Int.toNat 1) = N - (off + Int.toNat 8 + Int.toNat 8 + Int.toNat 8 + Int.toNat 1 + 24 + 2 + Int.toNat (val f (off + Int.toNat 8 + Int.toNat 8 + Int.toNat 8 + Int.toNat 1 + 24) 2) + Int.toNat 1))) (cond (decide (N - (off + Int.toNat 8 + Int.toNat 8 + Int.toNat 8 + Int.toNat 1 + 24 + 2 + Int.toNat (val f (off + Int.toNat 8 + Int.toNat 8 + Int.toNat 8 + Int.toNat 1 + 24) 2) + Int.toNat 1) = N - (off + Int.toNat 8 + Int.toNat 8 + Int.toNat 8 + Int.toNat 1 + 24 + 2 + Int.toNat (val f (off + Int.toNat 8 + Int.toNat 8 + Int.toNat 8 + Int.toNat 1 + 24) 2) + Int.toNat 1))) (cond ((okB f (N))) (cond (Nat.ble (off + Int.toNat 8 + Int.toNat 8 + Int.toNat 8 + Int.toNat 1 + 24 + 2 + Int.toNat (val f (off + Int.toNat 8 + Int.toNat 8 + Int.toNat 8 + Int.toNat 1 + 24) 2) + Int.toNat 1) N)
  (cond (Nat.ble N 1000000) (cond (!decide (IntKind.wrap IntKind.i64 (val f (off + Int.toNat 8 + Int.toNat 8 + Int.toNat 8 + Int.toNat 1 + 24 + 2 + Int.toNat (val f (off + Int.toNat 8 + Int.toNat 8 + Int.toNat 8 + Int.toNat 1 + 24) 2)) (Int.toNat 1)) > 64)) (cond (Nat.beq (Int.toNat (IntKind.wrap IntKind.i64 (val f (off + Int.toNat 8 + Int.toNat 8 + Int.toNat 8 + Int.toNat 1 + 24 + 2 + Int.toNat (val f (off + Int.toNat 8 + Int.toNat 8 + Int.toNat 8 + Int.toNat 1 + 24) 2)) (Int.toNat 1)))) 0)
  (some (CS.mk [(AV.agg [(AV.int IntKind.u64 ((val f (off) (8)))), (AV.int IntKind.u64 ((val f (off + Int.toNat 8) (8)))), (AV.int IntKind.u64 ((val f (off + Int.toNat 8 + Int.toNat 8) (8)))), (AV.int IntKind.i64 (IntKind.wrap IntKind.i64 (val f (off + Int.toNat 8 + Int.toNat 8 + Int.toNat 8) (Int.toNat 1)))), (AV.int IntKind.u64 ((val f (off + Int.toNat 8 + Int.toNat 8 + Int.toNat 8 + Int.toNat 1) (8)))), (AV.int IntKind.u64 ((val f (off + Int.toNat 8 + Int.toNat 8 + Int.toNat 8 + Int.toNat 1 + 8) (8)))), (AV.int IntKind.u32 (IntKind.wrap IntKind.u32 (val f (off + Int.toNat 8 + Int.toNat 8 + Int.toNat 8 + Int.toNat 1 + 16) 4))), (AV.int IntKind.u32 (IntKind.wrap IntKind.u32 (val f (off + Int.toNat 8 + Int.toNat 8 + Int.toNat 8 + Int.toNat 1 + 20) 4))), (AV.str ((strV f (off + Int.toNat 8 + Int.toNat 8 + Int.toNat 8 + Int.toNat 1 + 24 + 2) (Int.toNat (val f (off + Int.toNat 8 + Int.toNat 8 + Int.toNat 8 + Int.toNat 1 + 24) 2))))), AV.nilSlice])] [some (AObj.cells [(AV.osl (false) (1) (off + Int.toNat 8 + Int.toNat 8 + Int.toNat 8 + Int.toNat 1 + 24 + 2 + Int.toNat (val f (off + Int.toNat 8 + Int.toNat 8 + Int.toNat 8 + Int.toNat 1 + 24) 2) + Int.toNat 1) (N - (off + Int.toNat 8 + Int.toNat 8 + Int.toNat 8 + Int.toNat 1 + 24 + 2 + Int.toNat (val f (off + Int.toNat 8 + Int.toNat 8 + Int.toNat 8 + Int.toNat 1 + 24) 2) + Int.toNat 1)) (N - (off + Int.toNat 8 + Int.toNat 8 + Int.toNat 8 + Int.toNat 1 + 24 + 2 + Int.toNat (val f (off + Int.toNat 8 + Int.toNat 8 + Int.toNat 8 + Int.toNat 1 + 24) 2) + Int.toNat 1)) (1) (true)), (AV.bool (false))] true), some (AObj.tarr [Sh.int IntKind.u8] (N) f true)]))
  (cond (Nat.blt N (off + Int.toNat 8 + Int.toNat 8 + Int.toNat 8 + Int.toNat 1 + 24 + 2 + Int.toNat (val f (off + Int.toNat 8 + Int.toNat 8 + Int.toNat 8 + Int.toNat 1 + 24) 2) + Int.toNat 1 + 24 * Int.toNat (IntKind.wrap IntKind.i64 (val f (off + Int.toNat 8 + Int.toNat 8 + Int.toNat 8 + Int.toNat 1 + 24 + 2 + Int.toNat (val f (off + Int.toNat 8 + Int.toNat 8 + Int.toNat 8 + Int.toNat 1 + 24) 2)) (Int.toNat 1)))))
  (some (CS.mk [(AV.agg [(AV.int IntKind.u64 (0)), (AV.int IntKind.u64 (0)), (AV.int IntKind.u64 (0)), (AV.int IntKind.i64 (0)), (AV.int IntKind.u64 (0)), (AV.int IntKind.u64 (0)), (AV.int IntKind.u32 (0)), (AV.int IntKind.u32 (0)), (AV.str (bytesOf { data := #[] })), AV.nilSlice])] [some (AObj.cells [(AV.osl (true) (1) (0) (0) (0) (1) (true)), (AV.bool (true))] true), some (AObj.tarr [Sh.int IntKind.u8] (0) (fun p_ q_ => AV.bad) true)]))
  (some (CS.mk [(AV.agg [(AV.int IntKind.u64 ((val f (off) (8)))), (AV.int IntKind.u64 ((val f (off + Int.toNat 8) (8)))), (AV.int IntKind.u64 ((val f (off + Int.toNat 8 + Int.toNat 8) (8)))), (AV.int IntKind.i64 (IntKind.wrap IntKind.i64 (val f (off + Int.toNat 8 + Int.toNat 8 + Int.toNat 8) (Int.toNat 1)))), (AV.int IntKind.u64 ((val f (off + Int.toNat 8 + Int.toNat 8 + Int.toNat 8 + Int.toNat 1) (8)))), (AV.int IntKind.u64 ((val f (off + Int.toNat 8 + Int.toNat 8 + Int.toNat 8 + Int.toNat 1 + 8) (8)))), (AV.int IntKind.u32 (IntKind.wrap IntKind.u32 (val f (off + Int.toNat 8 + Int.toNat 8 + Int.toNat 8 + Int.toNat 1 + 16) 4))), (AV.int IntKind.u32 (IntKind.wrap IntKind.u32 (val f (off + Int.toNat 8 + Int.toNat 8 + Int.toNat 8 + Int.toNat 1 + 20) 4))), (AV.str ((strV f (off + Int.toNat 8 + Int.toNat 8 + Int.toNat 8 + Int.toNat 1 + 24 + 2) (Int.toNat (val f (off + Int.toNat 8 + Int.toNat 8 + Int.toNat 8 + Int.toNat 1 + 24) 2))))), (AV.tsl (1) (0) (Int.toNat (IntKind.wrap IntKind.i64 (val f (off + Int.toNat 8 + Int.toNat 8 + Int.toNat 8 + Int.toNat 1 + 24 + 2 + Int.toNat (val f (off + Int.toNat 8 + Int.toNat 8 + Int.toNat 8 + Int.toNat 1 + 24) 2)) (Int.toNat 1)))) (Int.toNat (IntKind.wrap IntKind.i64 (val f (off + Int.toNat 8 + Int.toNat 8 + Int.toNat 8 + Int.toNat 1 + 24 + 2 + Int.toNat (val f (off + Int.toNat 8 + Int.toNat 8 + Int.toNat 8 + Int.toNat 1 + 24) 2)) (Int.toNat 1)))) (4) (true))])] [some (AObj.cells [(AV.osl (false) (2) (off + Int.toNat 8 + Int.toNat 8 + Int.toNat 8 + Int.toNat 1 + 24 + 2 + Int.toNat (val f (off + Int.toNat 8 + Int.toNat 8 + Int.toNat 8 + Int.toNat 1 + 24) 2) + Int.toNat 1 + 24 * Int.toNat (IntKind.wrap IntKind.i64 (val f (off + Int.toNat 8 + Int.toNat 8 + Int.toNat 8 + Int.toNat 1 + 24 + 2 + Int.toNat (val f (off + Int.toNat 8 + Int.toNat 8 + Int.toNat 8 + Int.toNat 1 + 24) 2)) (Int.toNat 1)))) (N - (off + Int.toNat 8 + Int.toNat 8 + Int.toNat 8 + Int.toNat 1 + 24 + 2 + Int.toNat (val f (off + Int.toNat 8 + Int.toNat 8 + Int.toNat 8 + Int.toNat 1 + 24) 2) + Int.toNat 1 + 24 * Int.toNat (IntKind.wrap IntKind.i64 (val f (off + Int.toNat 8 + Int.toNat 8 + Int.toNat 8 + Int.toNat 1 + 24 + 2 + Int.toNat (val f (off + Int.toNat 8 + Int.toNat 8 + Int.toNat 8 + Int.toNat 1 + 24) 2)) (Int.toNat 1))))) (N - (off + Int.toNat 8 + Int.toNat 8 + Int.toNat 8 + Int.toNat 1 + 24 + 2 + Int.toNat (val f (off + Int.toNat 8 + Int.toNat 8 + Int.toNat 8 + Int.toNat 1 + 24) 2) + Int.toNat 1 + 24 * Int.toNat (IntKind.wrap IntKind.i64 (val f (off + Int.toNat 8 + Int.toNat 8 + Int.toNat 8 + Int.toNat 1 + 24 + 2 + Int.toNat (val f (off + Int.toNat 8 + Int.toNat 8 + Int.toNat 8 + Int.toNat 1 + 24) 2)) (Int.toNat 1))))) (1) (true)), (AV.bool (false))] true), some (AObj.tarr [Sh.int IntKind.u64, Sh.int IntKind.u64, Sh.int IntKind.u32, Sh.int IntKind.u32] (Int.toNat (IntKind.wrap IntKind.i64 (val f (off + Int.toNat 8 + Int.toNat 8 + Int.toNat 8 + Int.toNat 1 + 24 + 2 + Int.toNat (val f (off + Int.toNat 8 + Int.toNat 8 + Int.toNat 8 + Int.toNat 1 + 24) 2)) (Int.toNat 1)))) (lookF f (off + Int.toNat 8 + Int.toNat 8 + Int.toNat 8 + Int.toNat 1 + 24 + 2 + Int.toNat (val f (off + Int.toNat 8 + Int.toNat 8 + Int.toNat 8 + Int.toNat 1 + 24) 2) + Int.toNat 1)) true), some (AObj.tarr [Sh.int IntKind.u8] (N) f true)])))) none) none)
  none) none) none) none))) none)
  none) none) none) none)))) none)
  none) none) none) none) none) none) none) none) none) none) none) none) none))))) none)
  none) none) none) none)) none)
  none) none) none) none)) none)
  none) none) none) none)) none)
  none) none) none) none))
  none)
  none)
  none) none) none) := by kernel_rfl
theorem k14w_eq (off : Nat) (N : Nat) (f : Nat → Nat → AV) : k14w off N f k14w_p = (cond (okB f (N))
  (cond (Nat.ble off N)
  (cond (Nat.ble N 1000000)
  (cond (Nat.blt N (off + Int.toNat 8))
  (some (CS.mk [(AV.agg [(AV.int IntKind.u64 (0)), (AV.int IntKind.u64 (0)), (AV.int IntKind.u64 (0)), (AV.int IntKind.i64 (0)), (AV.int IntKind.u64 (0)), (AV.int IntKind.u64 (0)), (AV.int IntKind.u32 (0)), (AV.int IntKind.u32 (0)), (AV.str (bytesOf { data := #[] })), AV.nilSlice])] [some (AObj.cells [(AV.osl (true) (1) (0) (0) (0) (1) (true)), (AV.bool (true))] true), some (AObj.tarr [Sh.int IntKind.u8] (0) (fun p_ q_ => AV.bad) true)]))
  (cond (Nat.ble (off + Int.toNat 8) N)
  (cond (Nat.blt N (off + Int.toNat 8 + Int.toNat 8))
  (some (CS.mk [(AV.agg [(AV.int IntKind.u64 (0)), (AV.int IntKind.u64 (0)), (AV.int IntKind.u64 (0)), (AV.int IntKind.i64 (0)), (AV.int IntKind.u64 (0)), (AV.int IntKind.u64 (0)), (AV.int IntKind.u32 (0)), (AV.int IntKind.u32 (0)), (AV.str (bytesOf { data := #[] })), AV.nilSlice])] [some (AObj.cells [(AV.osl (true) (1) (0) (0) (0) (1) (true)), (AV.bool (true))] true), some (AObj.tarr [Sh.int IntKind.u8] (0) (fun p_ q_ => AV.bad) true)]))
  (cond (Nat.ble (off + Int.toNat 8 + Int.toNat 8) N)
  (cond (Nat.blt N (off + Int.toNat 8 + Int.toNat 8 + Int.toNat 8))
  (some (CS.mk [(AV.agg [(AV.int IntKind.u64 (0)), (AV.int IntKind.u64 (0)), (AV.int IntKind.u64 (0)), (AV.int IntKind.i64 (0)), (AV.int IntKind.u64 (0)), (AV.int IntKind.u64 (0)), (AV.int IntKind.u32 (0)), (AV.int IntKind.u32 (0)), (AV.str (bytesOf { data := #[] })), AV.nilSlice])] [some (AObj.cells [(AV.osl (true) (1) (0) (0) (0) (1) (true)), (AV.bool (true))] true), some (AObj.tarr [Sh.int IntKind.u8] (0) (fun p_ q_ => AV.bad) true)]))
  (cond (Nat.ble (off + Int.toNat 8 + Int.toNat 8 + Int.toNat 8) N)
  (cond (Nat.blt N (off + Int.toNat 8 + Int.toNat 8 + Int.toNat 8 + Int.toNat 1))
  (some (CS.mk [(AV.agg [(AV.int IntKind.u64 (0)), (AV.int IntKind.u64 (0)), (AV.int IntKind.u64 (0)), (AV.int IntKind.i64 (0)), (AV.int IntKind.u64 (0)), (AV.int IntKind.u64 (0)), (AV.int IntKind.u32 (0)), (AV.int IntKind.u32 (0)), (AV.str (bytesOf { data := #[] })), AV.nilSlice])] [some (AObj.cells [(AV.osl (true) (1) (0) (0) (0) (1) (true)), (AV.bool (true))] true), some (AObj.tarr [Sh.int IntKind.u8] (0) (fun p_ q_ => AV.bad) true)]))
  (cond (Nat.ble (off + Int.toNat 8 + Int.toNat 8 + Int.toNat 8 + Int.toNat 1) N)
  (cond (Nat.blt N (off + Int.toNat 8 + Int.toNat 8 + Int.toNat 8 + Int.toNat 1 + 8))
  (some (CS.mk [(AV.agg [(AV.int IntKind.u64 (0)), (AV.int IntKind.u64 (0)), (AV.int IntKind.u64 (0)), (AV.int IntKind.i64 (0)), (AV.int IntKind.u64 (0)), (AV.int IntKind.u64 (0)), (AV.int IntKind.u32 (0)), (AV.int IntKind.u32 (0)), (AV.str (bytesOf { data := #[] })), AV.nilSlice])] [some (AObj.cells [(AV.osl (true) (1) (0) (0) (0) (1) (true)), (AV.bool (true))] true), some (AObj.tarr [Sh.int IntKind.u8] (0) (fun p_ q_ => AV.bad) true)]))
  (cond (Nat.blt N (off + Int.toNat 8 + Int.toNat 8 + Int.toNat 8 + Int.toNat 1 + 16))
  (some (CS.mk [(AV.agg [(AV.int IntKind.u64 (0)), (AV.int IntKind.u64 (0)), (AV.int IntKind.u64 (0)), (AV.int IntKind.i64 (0)), (AV.int IntKind.u64 (0)), (AV.int IntKind.u64 (0)), (AV.int IntKind.u32 (0)), (AV.int IntKind.u32 (0)), (AV.str (bytesOf { data := #[] })), AV.nilSlice])] [some (AObj.cells [(AV.osl (true) (1) (0) (0) (0) (1) (true)), (AV.bool (true))] true), some (AObj.tarr [Sh.int IntKind.u8] (0) (fun p_ q_ => AV.bad) true)]))
  (cond (Nat.blt N (off + Int.toNat 8 + Int.toNat 8 + Int.toNat 8 + Int.toNat 1 + 20))
  (some (CS.mk [(AV.agg [(AV.int IntKind.u64 (0)), (AV.int IntKind.u64 (0)), (AV.int IntKind.u64 (0)), (AV.int IntKind.i64 (0)), (AV.int IntKind.u64 (0)), (AV.int IntKind.u64 (0)), (AV.int IntKind.u32 (0)), (AV.int IntKind.u32 (0)), (AV.str (bytesOf { data := #[] })), AV.nilSlice])] [some (AObj.cells [(AV.osl (true) (1) (0) (0) (0) (1) (true)), (AV.bool (true))] true), some (AObj.tarr [Sh.int IntKind.u8] (0) (fun p_ q_ => AV.bad) true)]))
  (cond (Nat.blt N (off + Int.toNat 8 + Int.toNat 8 + Int.toNat 8 + Int.toNat 1 + 24))
  (some (CS.mk [(AV.agg [(AV.int IntKind.u64 (0)), (AV.int IntKind.u64 (0)), (AV.int IntKind.u64 (0)), (AV.int IntKind.i64 (0)), (AV.int IntKind.u64 (0)), (AV.int IntKind.u64 (0)), (AV.int IntKind.u32 (0)), (AV.int IntKind.u32 (0)), (AV.str (bytesOf { data := #[] })), AV.nilSlice])] [some (AObj.cells [(AV.osl (true) (1) (0) (0) (0) (1) (true)), (AV.bool (true))] true), some (AObj.tarr [Sh.int IntKind.u8] (0) (fun p_ q_ => AV.bad) true)]))
  (cond (Nat.ble (off + Int.toNat 8 + Int.toNat 8 + Int.toNat 8 + Int.toNat 1 + 24) N)
  (cond (Nat.blt N (off + Int.toNat 8 + Int.toNat 8 + Int.toNat 8 + Int.toNat 1 + 24 + 2))
  (some (CS.mk [(AV.agg [(AV.int IntKind.u64 (0)), (AV.int IntKind.u64 (0)), (AV.int IntKind.u64 (0)), (AV.int IntKind.i64 (0)), (AV.int IntKind.u64 (0)), (AV.int IntKind.u64 (0)), (AV.int IntKind.u32 (0)), (AV.int IntKind.u32 (0)), (AV.str (bytesOf { data := #[] })), AV.nilSlice])] [some (AObj.cells [(AV.osl (true) (1) (0) (0) (0) (1) (true)), (AV.bool (true))] true), some (AObj.tarr [Sh.int IntKind.u8] (0) (fun p_ q_ => AV.bad) true)]))
  (cond (decide (val f (off + Int.toNat 8 + Int.toNat 8 + Int.toNat 8 + Int.toNat 1 + 24) 2 > 16384))
  (some (CS.mk [(AV.agg [(AV.int IntKind.u64 (0)), (AV.int IntKind.u64 (0)), (AV.int IntKind.u64 (0)), (AV.int IntKind.i64 (0)), (AV.int IntKind.u64 (0)), (AV.int IntKind.u64 (0)), (AV.int IntKind.u32 (0)), (AV.int IntKind.u32 (0)), (AV.str (bytesOf { data := #[] })), AV.nilSlice])] [some (AObj.cells [(AV.osl (true) (1) (0) (0) (0) (1) (true)), (AV.bool (true))] true), some (AObj.tarr [Sh.int IntKind.u8] (0) (fun p_ q_ => AV.bad) true)]))
  (cond (Nat.blt N (off + Int.toNat 8 + Int.toNat 8 + Int.toNat 8 + Int.toNat 1 + 24 + 2 + Int.toNat (val f (off + Int.toNat 8 + Int.toNat 8 + Int.toNat 8 + Int.toNat 1 + 24) 2)))
  (some (CS.mk [(AV.agg [(AV.int IntKind.u64 (0)), (AV.int IntKind.u64 (0)), (AV.int IntKind.u64 (0)), (AV.int IntKind.i64 (0)), (AV.int IntKind.u64 (0)), (AV.int IntKind.u64 (0)), (AV.int IntKind.u32 (0)), (AV.int IntKind.u32 (0)), (AV.str (bytesOf { data := #[] })), AV.nilSlice])] [some (AObj.cells [(AV.osl (true) (1) (0) (0) (0) (1) (true)), (AV.bool (true))] true), some (AObj.tarr [Sh.int IntKind.u8] (0) (fun p_ q_ => AV.bad) true)]))
  (cond (Nat.ble (off + Int.toNat 8 + Int.toNat 8 + Int.toNat 8 + Int.toNat 1 + 24 + 2 + Int.toNat (val f (off + Int.toNat 8 + Int.toNat 8 + Int.toNat 8 + Int.toNat 1 + 24) 2)) N)
  (cond (Nat.blt N (off + Int.toNat 8 + Int.toNat 8 + Int.toNat 8 + Int.toNat 1 + 24 + 2 + Int.toNat (val f (off + Int.toNat 8 + Int.toNat 8 + Int.toNat 8 + Int.toNat 1 + 24) 2) + Int.toNat 1))
  (some (CS.mk [(AV.agg [(AV.int IntKind.u64 (0)), (AV.int IntKind.u64 (0)), (AV.int IntKind.u64 (0)), (AV.int IntKind.i64 (0)), (AV.int IntKind.u64 (0)), (AV.int IntKind.u64 (0)), (AV.int IntKind.u32 (0)), (AV.int IntKind.u32 (0)), (AV.str (bytesOf { data := #[] })), AV.nilSlice])] [some (AObj.cells [(AV.osl (true) (1) (0) (0) (0) (1) (true)), (AV.bool (true))] true), some (AObj.tarr [Sh.int IntKind.u8] (0) (fun p_ q_ => AV.bad) true)]))
  (cond (decide (IntKind.wrap IntKind.i64 (val f (off + Int.toNat 8 + Int.toNat 8 + Int.toNat 8 + Int.toNat 1 + 24 + 2 + Int.toNat (val f (off + Int.toNat 8 + Int.toNat 8 + Int.toNat 8 + Int.toNat 1 + 24) 2)) (Int.toNat 1)) > 64))
  (some (CS.mk [(AV.agg [(AV.int IntKind.u64 (0)), (AV.int IntKind.u64 (0)), (AV.int IntKind.u64 (0)), (AV.int IntKind.i64 (0)), (AV.int IntKind.u64 (0)), (AV.int IntKind.u64 (0)), (AV.int IntKind.u32 (0)), (AV.int IntKind.u32 (0)), (AV.str (bytesOf { data := #[] })), AV.nilSlice])] [some (AObj.cells [(AV.osl (true) (1) (0) (0) (0) (1) (true)), (AV.bool (true))] true), some (AObj.tarr [Sh.int IntKind.u8] (0) (fun p_ q_ => AV.bad) true)]))
  (cond (Nat.ble (off + Int.toNat 8 + Int.toNat 8 + Int.toNat 8 + Int.toNat 1 + 24 + 2 + Int.toNat (val f (off + Int.toNat 8 + Int.toNat 8 + Int.toNat 8 + Int.toNat 1 + 24) 2) + Int.toNat 1) N)
  (cond (Nat.beq (Int.toNat (IntKind.wrap IntKind.i64 (val f (off + Int.toNat 8 + Int.toNat 8 + Int.toNat 8 + Int.toNat 1 + 24 + 2 + Int.toNat (val f (off + Int.toNat 8 + Int.toNat 8 + Int.toNat 8 + Int.toNat 1 + 24) 2)) (Int.toNat 1)))) 0)
  (some (CS.mk [(AV.agg [(AV.int IntKind.u64 ((val f (off) (8)))), (AV.int IntKind.u64 ((val f (off + Int.toNat 8) (8)))), (AV.int IntKind.u64 ((val f (off + Int.toNat 8 + Int.toNat 8) (8)))), (AV.int IntKind.i64 (IntKind.wrap IntKind.i64 (val f (off + Int.toNat 8 + Int.toNat 8 + Int.toNat 8) (Int.toNat 1)))), (AV.int IntKind.u64 ((val f (off + Int.toNat 8 + Int.toNat 8 + Int.toNat 8 + Int.toNat 1) (8)))), (AV.int IntKind.u64 ((val f (off + Int.toNat 8 + Int.toNat 8 + Int.toNat 8 + Int.toNat 1 + 8) (8)))), (AV.int IntKind.u32 (IntKind.wrap IntKind.u32 (val f (off + Int.toNat 8 + Int.toNat 8 + Int.toNat 8 + Int.toNat 1 + 16) 4))), (AV.int IntKind.u32 (IntKind.wrap IntKind.u32 (val f (off + Int.toNat 8 + Int.toNat 8 + Int.toNat 8 + Int.toNat 1 + 20) 4))), (AV.str ((strV f (off + Int.toNat 8 + Int.toNat 8 + Int.toNat 8 + Int.toNat 1 + 24 + 2) (Int.toNat (val f (off + Int.toNat 8 + Int.toNat 8 + Int.toNat 8 + Int.toNat 1 + 24) 2))))), AV.nilSlice])] [some (AObj.cells [(AV.osl (false) (1) (off + Int.toNat 8 + Int.toNat 8 + Int.toNat 8 + Int.toNat 1 + 24 + 2 + Int.toNat (val f (off + Int.toNat 8 + Int.toNat 8 + Int.toNat 8 + Int.toNat 1 + 24) 2) + Int.toNat 1) (N - (off + Int.toNat 8 + Int.toNat 8 + Int.toNat 8 + Int.toNat 1 + 24 + 2 + Int.toNat (val f (off + Int.toNat 8 + Int.toNat 8 + Int.toNat 8 + Int.toNat 1 + 24) 2) + Int.toNat 1)) (N - (off + Int.toNat 8 + Int.toNat 8 + Int.toNat 8 + Int.toNat 1 + 24 + 2 + Int.toNat (val f (off + Int.toNat 8 + Int.toNat 8 + Int.toNat 8 + Int.toNat 1 + 24) 2) + Int.toNat 1)) (1) (true)), (AV.bool (false))] true), some (AObj.tarr [Sh.int IntKind.u8] (N) f true)]))
  (cond (Nat.blt N (off + Int.toNat 8 + Int.toNat 8 + Int.toNat 8 + Int.toNat 1 + 24 + 2 + Int.toNat (val f (off + Int.toNat 8 + Int.toNat 8 + Int.toNat 8 + Int.toNat 1 + 24) 2) + Int.toNat 1 + 24 * Int.toNat (IntKind.wrap IntKind.i64 (val f (off + Int.toNat 8 + Int.toNat 8 + Int.toNat 8 + Int.toNat 1 + 24 + 2 + Int.toNat (val f (off + Int.toNat 8 + Int.toNat 8 + Int.toNat 8 + Int.toNat 1 + 24) 2)) (Int.toNat 1)))))
  (some (CS.mk [(AV.agg [(AV.int IntKind.u64 (0)), (AV.int IntKind.u64 (0)), (AV.int IntKind.u64 (0)), (AV.int IntKind.i64 (0)), (AV.int IntKind.u64 (0)), (AV.int IntKind.u64 (0)), (AV.int IntKind.u32 (0)), (AV.int IntKind.u32 (0)), (AV.str (bytesOf { data := #[] })), AV.nilSlice])] [some (AObj.cells [(AV.osl (true) (1) (0) (0) (0) (1) (true)), (AV.bool (true))] true), some (AObj.tarr [Sh.int IntKind.u8] (0) (fun p_ q_ => AV.bad) true)]))
  (some (CS.mk [(AV.agg [(AV.int IntKind.u64 ((val f (off) (8)))), (AV.int IntKind.u64 ((val f (off + Int.toNat 8) (8)))), (AV.int IntKind.u64 ((val f (off + Int.toNat 8 + Int.toNat 8) (8)))), (AV.int IntKind.i64 (IntKind.wrap IntKind.i64 (val f (off + Int.toNat 8 + Int.toNat 8 + Int.toNat 8) (Int.toNat 1)))), (AV.int IntKind.u64 ((val f (off + Int.toNat 8 + Int.toNat 8 + Int.toNat 8 + Int.toNat 1) (8)))), (AV.int IntKind.u64 ((val f (off + Int.toNat 8 + Int.toNat 8 + Int.toNat 8 + Int.toNat 1 + 8) (8)))), (AV.int IntKind.u32 (IntKind.wrap IntKind.u32 (val f (off + Int.toNat 8 + Int.toNat 8 + Int.toNat 8 + Int.toNat 1 + 16) 4))), (AV.int IntKind.u32 (IntKind.wrap IntKind.u32 (val f (off + Int.toNat 8 + Int.toNat 8 + Int.toNat 8 + Int.toNat 1 + 20) 4))), (AV.str ((strV f (off + Int.toNat 8 + Int.toNat 8 + Int.toNat 8 + Int.toNat 1 + 24 + 2) (Int.toNat (val f (off + Int.toNat 8 + Int.toNat 8 + Int.toNat 8 + Int.toNat 1 + 24) 2))))), (AV.tsl (1) (0) (Int.toNat (IntKind.wrap IntKind.i64 (val f (off + Int.toNat 8 + Int.toNat 8 + Int.toNat 8 + Int.toNat 1 + 24 + 2 + Int.toNat (val f (off + Int.toNat 8 + Int.toNat 8 + Int.toNat 8 + Int.toNat 1 + 24) 2)) (Int.toNat 1)))) (Int.toNat (IntKind.wrap IntKind.i64 (val f (off + Int.toNat 8 + Int.toNat 8 + Int.toNat 8 + Int.toNat 1 + 24 + 2 + Int.toNat (val f (off + Int.toNat 8 + Int.toNat 8 + Int.toNat 8 + Int.toNat 1 + 24) 2)) (Int.toNat 1)))) (4) (true))])] [some (AObj.cells [(AV.osl (false) (2) (off + Int.toNat 8 + Int.toNat 8 + Int.toNat 8 + Int.toNat 1 + 24 + 2 + Int.toNat (val f (off + Int.toNat 8 + Int.toNat 8 + Int.toNat 8 + Int.toNat 1 + 24) 2) + Int.toNat 1 + 24 * Int.toNat (IntKind.wrap IntKind.i64 (val f (off + Int.toNat 8 + Int.toNat 8 + Int.toNat 8 + Int.toNat 1 + 24 + 2 + Int.toNat (val f (off + Int.toNat 8 + Int.toNat 8 + Int.toNat 8 + Int.toNat 1 + 24) 2)) (Int.toNat 1)))) (N - (off + Int.toNat 8 + Int.toNat 8 + Int.toNat 8 + Int.toNat 1 + 24 + 2 + Int.toNat (val f (off + Int.toNat 8 + Int.toNat 8 + Int.toNat 8 + Int.toNat 1 + 24) 2) + Int.toNat 1 + 24 * Int.toNat (IntKind.wrap IntKind.i64 (val f (off + Int.toNat 8 + Int.toNat 8 + Int.toNat 8 + Int.toNat 1 + 24 + 2 + Int.toNat (val f (off + Int.toNat 8 + Int.toNat 8 + Int.toNat 8 + Int.toNat 1 + 24) 2)) (Int.toNat 1))))) (N - (off + Int.toNat 8 + Int.toNat 8 + Int.toNat 8 + Int.toNat 1 + 24 + 2 + Int.toNat (val f (off + Int.toNat 8 + Int.toNat 8 + Int.toNat 8 + Int.toNat 1 + 24) 2) + Int.toNat 1 + 24 * Int.toNat (IntKind.wrap IntKind.i64 (val f (off + Int.toNat 8 + Int.toNat 8 + Int.toNat 8 + Int.toNat 1 + 24 + 2 + Int.toNat (val f (off + Int.toNat 8 + Int.toNat 8 + Int.toNat 8 + Int.toNat 1 + 24) 2)) (Int.toNat 1))))) (1) (true)), (AV.bool (false))] true), some (AObj.tarr [Sh.int IntKind.u64, Sh.int IntKind.u64, Sh.int IntKind.u32, Sh.int IntKind.u32] (Int.toNat (IntKind.wrap IntKind.i64 (val f (off + Int.toNat 8 + Int.toNat 8 + Int.toNat 8 + Int.toNat 1 + 24 + 2 + Int.toNat (val f (off + Int.toNat 8 + Int.toNat 8 + Int.toNat 8 + Int.toNat 1 + 24) 2)) (Int.toNat 1)))) (lookF f (off + Int.toNat 8 + Int.toNat 8 + Int.toNat 8 + Int.toNat 1 + 24 + 2 + Int.toNat (val f (off + Int.toNat 8 + Int.toNat 8 + Int.toNat 8 + Int.toNat 1 + 24) 2) + Int.toNat 1)) true), some (AObj.tarr [Sh.int IntKind.u8] (N) f true)]))))
  none)))
  none))))
  none)))))
  none))
  none))
  none))
  none))
  none)
  none)
  none) := by
  rw [k14w_is]
  try simp only [eq_self, decide_true, beq_self_eq_true, Nat.beq_refl, ble_self, Int.le_refl, Nat.le_refl]
  cases (okB f (N)) with
  | true =>
    cases (Nat.ble off N) with
    | true =>
      cases (Nat.ble N 1000000) with
      | true =>
        cases (Nat.blt N (off + Int.toNat 8)) with
        | true =>
          rfl
        | false =>
          cases (Nat.ble (off + Int.toNat 8) N) with
          | true =>
            cases (Nat.blt N (off + Int.toNat 8 + Int.toNat 8)) with
            | true =>
              rfl
            | false =>
              cases (Nat.ble (off + Int.toNat 8 + Int.toNat 8) N) with
              | true =>
                cases (Nat.blt N (off + Int.toNat 8 + Int.toNat 8 + Int.toNat 8)) with
                | true =>
                  rfl
                | false =>
                  cases (Nat.ble (off + Int.toNat 8 + Int.toNat 8 + Int.toNat 8) N) with
                  | true =>
                    cases (Nat.blt N (off + Int.toNat 8 + Int.toNat 8 + Int.toNat 8 + Int.toNat 1)) with
                    | true =>
                      rfl
                    | false =>
                      cases (Nat.ble (off + Int.toNat 8 + Int.toNat 8 + Int.toNat 8 + Int.toNat 1) N) with
                      | true =>
                        cases (Nat.blt N (off + Int.toNat 8 + Int.toNat 8 + Int.toNat 8 + Int.toNat 1 + 8)) with
                        | true =>
                          rfl
                        | false =>
                          cases (Nat.blt N (off + Int.toNat 8 + Int.toNat 8 + Int.toNat 8 + Int.toNat 1 + 16)) with
                          | true =>
                            rfl
                          | false =>
                            cases (Nat.blt N (off + Int.toNat 8 + Int.toNat 8 + Int.toNat 8 + Int.toNat 1 + 20)) with
                            | true =>
                              rfl
                            | false =>
                              cases (Nat.blt N (off + Int.toNat 8 + Int.toNat 8 + Int.toNat 8 + Int.toNat 1 + 24)) with
                              | true =>
                                rfl
                              | false =>
                                cases (Nat.ble (off + Int.toNat 8 + Int.toNat 8 + Int.toNat 8 + Int.toNat 1 + 24) N) with
                                | true =>
                                  cases (Nat.blt N (off + Int.toNat 8 + Int.toNat 8 + Int.toNat 8 + Int.toNat 1 + 24 + 2)) with
                                  | true =>
                                    rfl
                                  | false =>
                                    cases (decide (val f (off + Int.toNat 8 + Int.toNat 8 + Int.toNat 8 + Int.toNat 1 + 24) 2 > 16384)) with
                                    | true =>
                                      rfl
                                    | false =>
                                      cases (Nat.blt N (off + Int.toNat 8 + Int.toNat 8 + Int.toNat 8 + Int.toNat 1 + 24 + 2 + Int.toNat (val f (off + Int.toNat 8 + Int.toNat 8 + Int.toNat 8 + Int.toNat 1 + 24) 2))) with
                                      | true =>
                                        rfl
                                      | false =>
                                        cases (Nat.ble (off + Int.toNat 8 + Int.toNat 8 + Int.toNat 8 + Int.toNat 1 + 24 + 2 + Int.toNat (val f (off + Int.toNat 8 + Int.toNat 8 + Int.toNat 8 + Int.toNat 1 + 24) 2)) N) with
                                        | true =>
                                          cases (Nat.blt N (off + Int.toNat 8 + Int.toNat 8 + Int.toNat 8 + Int.toNat 1 + 24 + 2 + Int.toNat (val f (off + Int.toNat 8 + Int.toNat 8 + Int.toNat 8 + Int.toNat 1 + 24) 2) + Int.toNat 1)) with
                                          | true =>
                                            rfl
                                          | false =>
                                            cases (decide (IntKind.wrap IntKind.i64 (val f (off + Int.toNat 8 + Int.toNat 8 + Int.toNat 8 + Int.toNat 1 + 24 + 2 + Int.toNat (val f (off + Int.toNat 8 + Int.toNat 8 + Int.toNat 8 + Int.toNat 1 + 24) 2)) (Int.toNat 1)) > 64)) with
                                            | true =>
                                              rfl
                                            | false =>
                                              cases (Nat.ble (off + Int.toNat 8 + Int.toNat 8 + Int.toNat 8 + Int.toNat 1 + 24 + 2 + Int.toNat (val f (off + Int.toNat 8 + Int.toNat 8 + Int.toNat 8 + Int.toNat 1 + 24) 2) + Int.toNat 1) N) with
                                              | true =>
                                                cases (Nat.beq (Int.toNat (IntKind.wrap IntKind.i64 (val f (off + Int.toNat 8 + Int.toNat 8 + Int.toNat 8 + Int.toNat 1 + 24 + 2 + Int.toNat (val f (off + Int.toNat 8 + Int.toNat 8 + Int.toNat 8 + Int.toNat 1 + 24) 2)) (Int.toNat 1)))) 0) with
                                                | true =>
                                                  rfl
                                                | false =>
                                                  cases (Nat.blt N (off + Int.toNat 8 + Int.toNat 8 + Int.toNat 8 + Int.toNat 1 + 24 + 2 + Int.toNat (val f (off + Int.toNat 8 + Int.toNat 8 + Int.toNat 8 + Int.toNat 1 + 24) 2) + Int.toNat 1 + 24 * Int.toNat (IntKind.wrap IntKind.i64 (val f (off + Int.toNat 8 + Int.toNat 8 + Int.toNat 8 + Int.toNat 1 + 24 + 2 + Int.toNat (val f (off + Int.toNat 8 + Int.toNat 8 + Int.toNat 8 + Int.toNat 1 + 24) 2)) (Int.toNat 1))))) with
                                                  | true =>
                                                    rfl
                                                  | false =>
                                                    rfl
                                              | false =>
                                                rfl
                                        | false =>
                                          rfl
                                | false =>
                                  rfl
                      | false =>
                        rfl
                  | false =>
                    rfl
              | false =>
                rfl
          | false =>
            rfl
      | false =>
        rfl
    | false =>
      rfl
  | false =>
    rfl

def p14w (c : CS) : Plan := match c.os with
  | [_, _, some (.cells [_, _, _, _, _, _, _, _, _, .nilSlice] _), _, _] => s14tw_p
  | [_, _, some (.cells [_, _, _, _, _, _, _, _, _, .bad] _), _, _] => s14bw_p
  | _ => s14fw_p

end Go.Proofs.Ytjbjjikdihghmaa.entry
