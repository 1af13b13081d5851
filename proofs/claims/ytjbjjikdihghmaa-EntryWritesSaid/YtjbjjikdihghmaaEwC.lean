/- May a config, an entry be; the law EntryWrites: what the machine reckons. -/
import Derived.Test.YtjbjjikdihghmaaEwA
set_option linter.unusedSimpArgs false
set_option linter.unusedVariables false
set_option maxRecDepth 20000
namespace Go.Proofs.Ytjbjjikdihghmaa.entry
open Go Go.RowKit Go.Proofs.Ytjbjjikdihghmaa.Bm
/-- May a client, a request and blocks be. -/
def askP (cl rq fr ct bl : Int) : Bool := cond (decide (cl ≥ 1)) (cond (decide (cl ≤ 8)) (cond (decide (rq > 0)) (cond (decide (ct ≤ 8)) (cond (decide (ct > 0))
  (decide (IntKind.wrap IntKind.u64 (IntKind.wrap IntKind.u64 fr + IntKind.wrap IntKind.u64 ct) ≤ IntKind.wrap IntKind.u64 bl)) false) false) false) false) false
def rowZ (f : Nat → Nat → AV) (i : Nat) : Bool := (f i 0).toI == 0 && ((f i 1).toI == 0 && ((f i 2).toI == 0 && ((f i 3).toI == 0 && true) && true))
def rowA (A : Int → Int → Int → Int → Int → Bool) (f : Nat → Nat → AV) (bl : Int) (i : Nat) : Bool := cond (rowZ f i) true (A (f i 0).toI (f i 1).toI (f i 2).toI (f i 3).toI bl)
def allA (A : Int → Int → Int → Int → Int → Bool) (f : Nat → Nat → AV) (bl : Int) (n : Nat) : Bool := okFrom (rowA A f bl) 0 n
def h13 : Pat := ⟨91, [(2, .keep), (3, .keep), (43, .keep), (44, .keep), (45, .keep)], []⟩
def x13 : List (Ex × Pat) := [(.exit 0, ⟨91, [(2, .keep), (3, .keep)], []⟩), (.ret, ⟨91, [(4, .keep)], []⟩)]
def c13 (ix : Int) (tm : Int) (st : Int) (kd : Int) (cl : Int) (rq : Int) (fr : Int) (ct : Int) (d : List Nat) (nd : Int) (bh : Int) (bl : Int) (nl : Bool) (n : Nat) (f : Nat → Nat → AV) (i : Nat) : CS :=
  ⟨[.ptr 0 0, .ptr 1 0, .osl nl 2 0 n n 4 true, .int .i64 (n : Nat), .int .i64 (i : Nat)], [some (.cells [.int .u64 ix, .int .u64 tm, .int .u64 st, .int .i64 kd, .int .u64 cl, .int .u64 rq, .int .u32 fr, .int .u32 ct, .str d, .osl nl 2 0 n n 4 true] true), some (.cells [.int .i64 nd, .int .i64 bh, .int .u32 bl] true), some (.tarr shL n f false)]⟩
def a13 (ix : Int) (tm : Int) (st : Int) (kd : Int) (cl : Int) (rq : Int) (fr : Int) (ct : Int) (d : List Nat) (nd : Int) (bh : Int) (bl : Int) (nl : Bool) (n : Nat) (f : Nat → Nat → AV) : CS :=
  ⟨[.agg [.int .u64 ix, .int .u64 tm, .int .u64 st, .int .i64 kd, .int .u64 cl, .int .u64 rq, .int .u32 fr, .int .u32 ct, .str d, .osl nl 0 0 n n 4 true], .agg [.int .i64 nd, .int .i64 bh, .int .u32 bl]], [some (.tarr shL n f false)]⟩
def a11 (nd : Int) (bh : Int) (bl : Int) : CS :=
  ⟨[.agg [.int .i64 nd, .int .i64 bh, .int .u32 bl]], []⟩
def a39 (cl : Int) (rq : Int) (fr : Int) (ct : Int) (bl : Int) : CS :=
  ⟨[.agg [.int .u64 cl, .int .u64 rq, .int .u32 fr, .int .u32 ct], .int .u32 bl], []⟩
noncomputable def r39B (A : Int → Int → Int → Int → Int → Bool) (cl : Int) (rq : Int) (fr : Int) (ct : Int) (bl : Int) : T (CS) :=
  .ret ⟨[.bool (A cl rq fr ct bl)], []⟩
noncomputable def r39 (A : Int → Int → Int → Int → Int → Bool) (c : CS) : T (CS) := match c with
  | ⟨[.agg [.int .u64 cl, .int .u64 rq, .int .u32 fr, .int .u32 ct], .int .u32 bl], []⟩ => chkT [] (r39B A cl rq fr ct bl)
  | _ => .fail
noncomputable def r13B (A : Int → Int → Int → Int → Int → Bool) (ix : Int) (tm : Int) (st : Int) (kd : Int) (cl : Int) (rq : Int) (fr : Int) (ct : Int) (d : List Nat) (nd : Int) (bh : Int) (bl : Int) (nl : Bool) (n : Nat) (f : Nat → Nat → AV) : T (Nat × CS) :=
  chkT [Nat.ble n 1000000] (.ask (allA A f bl n) (.ret (1, ⟨[.ptr 0 0, .ptr 1 0], [some (.cells [.int .u64 ix, .int .u64 tm, .int .u64 st, .int .i64 kd, .int .u64 cl, .int .u64 rq, .int .u32 fr, .int .u32 ct, .str d, .osl nl 2 0 n n 4 true] true), some (.cells [.int .i64 nd, .int .i64 bh, .int .u32 bl] true), some (.tarr shL n f false)]⟩)) (.ret (2, ⟨[.bool false], []⟩)))
noncomputable def r13 (A : Int → Int → Int → Int → Int → Bool) (c : CS) : T (Nat × CS) := match c with
  | ⟨[.ptr 0 0, .ptr 1 0, .osl nl 2 0 n z_1 4 true, .int .i64 z_2, .int .i64 z_3], [some (.cells [.int .u64 ix, .int .u64 tm, .int .u64 st, .int .i64 kd, .int .u64 cl, .int .u64 rq, .int .u32 fr, .int .u32 ct, .str d, .osl z_4 2 0 z_5 z_6 4 true] true), some (.cells [.int .i64 nd, .int .i64 bh, .int .u32 bl] true), some (.tarr sh_7 z_8 f false)]⟩ => chkT [decide (n = z_1), decide ((n : Nat) = z_2), decide (0 = z_3), decide (nl = z_4), decide (n = z_5), decide (n = z_6), shBeq sh_7 shL, decide (n = z_8)] (r13B A ix tm st kd cl rq fr ct d nd bh bl nl n f)
  | _ => .fail
noncomputable def E12 : Env := addF E11 31 ⟨frRun [] [] (r39 askP)⟩
noncomputable def E13 : Env := addL E12 11 0 1000006 h13 x13 0 (r13 askP)
noncomputable def k39 (cl : Int) (rq : Int) (fr : Int) (ct : Int) (bl : Int) (π : Plan) : Option CS := callC (E11) (1000) (31) (0) (.keep) ([]) π (a39 cl rq fr ct bl)
def k39_p : Plan := (.fork (.must true (.must true (.must true (.fork (.must true (.must true (.must true (.fork (.must true (.must true (.must true (.must true (.fork (.must true (.must true (.must true (.fork (.must true (.must true (.must true (.must true (.must true (.must true .stop)))))) (.must false (.must false (.must false (.must false (.must false (.must true .stop)))))))))) (.must false (.must false (.must false (.must false .stop))))))))) (.must false (.must false (.must false (.must false .stop)))))))) (.must false (.must false (.must false .stop))))))) (.must false (.must false (.must false .stop))))
theorem k39_is (cl : Int) (rq : Int) (fr : Int) (ct : Int) (bl : Int) : k39 cl rq fr ct bl k39_p = (cond (decide (cl ≥ 1) == true)
  (cond (decide (cl ≥ 1) == true) (cond (decide (cl ≥ 1) == true) (cond (decide (cl ≥ 1)) (cond (decide (cl ≤ 8) == true)
  (cond (decide (cl ≤ 8) == true) (cond (decide (cl ≤ 8) == true) (cond (decide (cl ≤ 8)) (cond (decide (rq > 0) == true)
  (cond (decide (rq > 0) == true) (cond (decide (rq > 0) == true) (cond (decide (rq > 0) == true) (cond (decide (rq > 0)) (cond (decide (ct ≤ 8) == true)
  (cond (decide (ct ≤ 8) == true) (cond (decide (ct ≤ 8) == true) (cond (decide (ct ≤ 8) == true) (cond (decide (ct > 0) == true)
  (cond (decide (ct > 0) == true) (cond (decide (ct > 0) == true) (cond (decide (ct > 0) == true) (cond (decide (ct > 0) == true) (cond (decide (ct > 0)) (cond (decide (ct ≤ 8)) (some (CS.mk [(AV.bool (decide (IntKind.wrap IntKind.u64 (IntKind.wrap IntKind.u64 fr + IntKind.wrap IntKind.u64 ct) ≤ IntKind.wrap IntKind.u64 bl)))] [])) none) none) none) none) none) none)
  (cond (decide (ct > 0) == true) none (cond (decide (ct > 0) == true) none (cond (decide (ct > 0) == true) none (cond (decide (ct > 0) == true) none (cond (decide (ct > 0)) none (cond (decide (ct ≤ 8)) (some (CS.mk [(AV.bool (false))] [])) none))))))) none) none) none)
  (cond (decide (ct ≤ 8) == true) none (cond (decide (ct ≤ 8) == true) none (cond (decide (ct ≤ 8) == true) none (cond (decide (ct ≤ 8)) none (some (CS.mk [(AV.bool (false))] []))))))) none) none) none) none)
  (cond (decide (rq > 0) == true) none (cond (decide (rq > 0) == true) none (cond (decide (rq > 0) == true) none (cond (decide (rq > 0)) none (some (CS.mk [(AV.bool (false))] []))))))) none) none) none)
  (cond (decide (cl ≤ 8) == true) none (cond (decide (cl ≤ 8) == true) none (cond (decide (cl ≤ 8)) none (some (CS.mk [(AV.bool (false))] [])))))) none) none) none)
  (cond (decide (cl ≥ 1) == true) none (cond (decide (cl ≥ 1) == true) none (cond (decide (cl ≥ 1)) none (some (CS.mk [(AV.bool (false))] [])))))) := by kernel_rfl
theorem k39_eq (cl : Int) (rq : Int) (fr : Int) (ct : Int) (bl : Int) : k39 cl rq fr ct bl k39_p = (cond (decide (cl ≥ 1))
  (cond (decide (cl ≤ 8))
  (cond (decide (rq > 0))
  (cond (decide (ct ≤ 8))
  (cond (decide (ct > 0))
  (some (CS.mk [(AV.bool (decide (IntKind.wrap IntKind.u64 (IntKind.wrap IntKind.u64 fr + IntKind.wrap IntKind.u64 ct) ≤ IntKind.wrap IntKind.u64 bl)))] []))
  (some (CS.mk [(AV.bool (false))] [])))
  (some (CS.mk [(AV.bool (false))] [])))
  (some (CS.mk [(AV.bool (false))] [])))
  (some (CS.mk [(AV.bool (false))] [])))
  (some (CS.mk [(AV.bool (false))] []))) := by
  rw [k39_is]
  try simp only [eq_self, decide_true, beq_self_eq_true, Nat.beq_refl, ble_self, Int.le_refl, Nat.le_refl]
  cases (decide (cl ≥ 1)) with
  | true =>
    cases (decide (cl ≤ 8)) with
    | true =>
      cases (decide (rq > 0)) with
      | true =>
        cases (decide (ct ≤ 8)) with
        | true =>
          cases (decide (ct > 0)) with
          | true =>
            rfl
          | false =>
            rfl
        | false =>
          rfl
      | false =>
        rfl
    | false =>
      rfl
  | false =>
    rfl

noncomputable def k11 (nd : Int) (bh : Int) (bl : Int) (π : Plan) : Option CS := callC (E11) (1000) (10) (0) (.keep) ([]) π (a11 nd bh bl)
def k11_p : Plan := (.fork (.fork (.must true (.must true (.must true (.fork (.must true (.must true (.must true (.fork (.must true (.must true (.must true .stop))) (.must false (.must false (.must false .stop))))))) (.must false (.must false (.must false .stop))))))) (.must false (.must false (.must false .stop)))) (.fork (.fork (.must true (.must true (.must true (.fork (.must true (.must true (.must true (.fork (.must true (.must true (.must true .stop))) (.must false (.must false (.must false .stop))))))) (.must false (.must false (.must false .stop))))))) (.must false (.must false (.must false .stop)))) (.fork (.fork (.must true (.must true (.must true (.fork (.must true (.must true (.must true (.fork (.must true (.must true (.must true .stop))) (.must false (.must false (.must false .stop))))))) (.must false (.must false (.must false .stop))))))) (.must false (.must false (.must false .stop)))) .stop)))
theorem k11_is (nd : Int) (bh : Int) (bl : Int) : k11 nd bh bl k11_p = (cond (nd == 3)
  (cond (decide (bh ≥ 1) == true)
  (cond (decide (bh ≥ 1) == true) (cond (decide (bh ≥ 1) == true) (cond (decide (bh ≥ 1)) (cond (decide (bh ≤ 64) == true)
  (cond (decide (bh ≤ 64) == true) (cond (decide (bh ≤ 64) == true) (cond (decide (bh ≤ 64)) (cond (decide (bl ≥ 1) == true)
  (cond (decide (bl ≥ 1) == true) (cond (decide (bl ≥ 1) == true) (cond (decide (bl ≥ 1)) (some (CS.mk [(AV.bool (decide (bl ≤ 64)))] [])) none) none) none)
  (cond (decide (bl ≥ 1) == true) none (cond (decide (bl ≥ 1) == true) none (cond (decide (bl ≥ 1)) none (some (CS.mk [(AV.bool (false))] [])))))) none) none) none)
  (cond (decide (bh ≤ 64) == true) none (cond (decide (bh ≤ 64) == true) none (cond (decide (bh ≤ 64)) none (some (CS.mk [(AV.bool (false))] [])))))) none) none) none)
  (cond (decide (bh ≥ 1) == true) none (cond (decide (bh ≥ 1) == true) none (cond (decide (bh ≥ 1)) none (some (CS.mk [(AV.bool (false))] []))))))
  (cond (nd == 5)
  (cond (decide (bh ≥ 1) == true)
  (cond (decide (bh ≥ 1) == true) (cond (decide (bh ≥ 1) == true) (cond (decide (bh ≥ 1)) (cond (decide (bh ≤ 64) == true)
  (cond (decide (bh ≤ 64) == true) (cond (decide (bh ≤ 64) == true) (cond (decide (bh ≤ 64)) (cond (decide (bl ≥ 1) == true)
  (cond (decide (bl ≥ 1) == true) (cond (decide (bl ≥ 1) == true) (cond (decide (bl ≥ 1)) (some (CS.mk [(AV.bool (decide (bl ≤ 64)))] [])) none) none) none)
  (cond (decide (bl ≥ 1) == true) none (cond (decide (bl ≥ 1) == true) none (cond (decide (bl ≥ 1)) none (some (CS.mk [(AV.bool (false))] [])))))) none) none) none)
  (cond (decide (bh ≤ 64) == true) none (cond (decide (bh ≤ 64) == true) none (cond (decide (bh ≤ 64)) none (some (CS.mk [(AV.bool (false))] [])))))) none) none) none)
  (cond (decide (bh ≥ 1) == true) none (cond (decide (bh ≥ 1) == true) none (cond (decide (bh ≥ 1)) none (some (CS.mk [(AV.bool (false))] []))))))
  (cond (nd == 7)
  (cond (decide (bh ≥ 1) == true)
  (cond (decide (bh ≥ 1) == true) (cond (decide (bh ≥ 1) == true) (cond (decide (bh ≥ 1)) (cond (decide (bh ≤ 64) == true)
  (cond (decide (bh ≤ 64) == true) (cond (decide (bh ≤ 64) == true) (cond (decide (bh ≤ 64)) (cond (decide (bl ≥ 1) == true)
  (cond (decide (bl ≥ 1) == true) (cond (decide (bl ≥ 1) == true) (cond (decide (bl ≥ 1)) (some (CS.mk [(AV.bool (decide (bl ≤ 64)))] [])) none) none) none)
  (cond (decide (bl ≥ 1) == true) none (cond (decide (bl ≥ 1) == true) none (cond (decide (bl ≥ 1)) none (some (CS.mk [(AV.bool (false))] [])))))) none) none) none)
  (cond (decide (bh ≤ 64) == true) none (cond (decide (bh ≤ 64) == true) none (cond (decide (bh ≤ 64)) none (some (CS.mk [(AV.bool (false))] [])))))) none) none) none)
  (cond (decide (bh ≥ 1) == true) none (cond (decide (bh ≥ 1) == true) none (cond (decide (bh ≥ 1)) none (some (CS.mk [(AV.bool (false))] []))))))
  (some (CS.mk [(AV.bool (false))] []))))) := by kernel_rfl
theorem k11_eq (nd : Int) (bh : Int) (bl : Int) : k11 nd bh bl k11_p = (cond (nd == 3)
  (cond (decide (bh ≥ 1))
  (cond (decide (bh ≤ 64))
  (cond (decide (bl ≥ 1))
  (some (CS.mk [(AV.bool (decide (bl ≤ 64)))] []))
  (some (CS.mk [(AV.bool (false))] [])))
  (some (CS.mk [(AV.bool (false))] [])))
  (some (CS.mk [(AV.bool (false))] [])))
  (cond (nd == 5)
  (cond (decide (bh ≥ 1))
  (cond (decide (bh ≤ 64))
  (cond (decide (bl ≥ 1))
  (some (CS.mk [(AV.bool (decide (bl ≤ 64)))] []))
  (some (CS.mk [(AV.bool (false))] [])))
  (some (CS.mk [(AV.bool (false))] [])))
  (some (CS.mk [(AV.bool (false))] [])))
  (cond (nd == 7)
  (cond (decide (bh ≥ 1))
  (cond (decide (bh ≤ 64))
  (cond (decide (bl ≥ 1))
  (some (CS.mk [(AV.bool (decide (bl ≤ 64)))] []))
  (some (CS.mk [(AV.bool (false))] [])))
  (some (CS.mk [(AV.bool (false))] [])))
  (some (CS.mk [(AV.bool (false))] [])))
  (some (CS.mk [(AV.bool (false))] []))))) := by
  rw [k11_is]
  try simp only [eq_self, decide_true, beq_self_eq_true, Nat.beq_refl, ble_self, Int.le_refl, Nat.le_refl]
  cases (nd == 3) with
  | true =>
    cases (decide (bh ≥ 1)) with
    | true =>
      cases (decide (bh ≤ 64)) with
      | true =>
        cases (decide (bl ≥ 1)) with
        | true =>
          rfl
        | false =>
          rfl
      | false =>
        rfl
    | false =>
      rfl
  | false =>
    cases (nd == 5) with
    | true =>
      cases (decide (bh ≥ 1)) with
      | true =>
        cases (decide (bh ≤ 64)) with
        | true =>
          cases (decide (bl ≥ 1)) with
          | true =>
            rfl
          | false =>
            rfl
        | false =>
          rfl
      | false =>
        rfl
    | false =>
      cases (nd == 7) with
      | true =>
        cases (decide (bh ≥ 1)) with
        | true =>
          cases (decide (bh ≤ 64)) with
          | true =>
            cases (decide (bl ≥ 1)) with
            | true =>
              rfl
            | false =>
              rfl
          | false =>
            rfl
        | false =>
          rfl
      | false =>
        rfl

noncomputable def s13 (ix : Int) (tm : Int) (st : Int) (kd : Int) (cl : Int) (rq : Int) (fr : Int) (ct : Int) (d : List Nat) (nd : Int) (bh : Int) (bl : Int) (nl : Bool) (n : Nat) (f : Nat → Nat → AV) (i : Nat) (π : Plan) : Option (Nat × CS) := stepC (E12) (300) (loopC E12 11 0) (0) (h13) ((.normal, h13) :: x13) π (c13 ix tm st kd cl rq fr ct d nd bh bl nl n f i)
def s13_p : Plan := (.fork (.reck 1 (.must true (.fork (.fork (.must true (.must true (.must true (.must true (.must true (.fork .stop .stop)))))) (.must false (.must false (.must false (.must false (.must false .stop)))))) .stop))) .stop)
theorem s13_is (ix : Int) (tm : Int) (st : Int) (kd : Int) (cl : Int) (rq : Int) (fr : Int) (ct : Int) (d : List Nat) (nd : Int) (bh : Int) (bl : Int) (nl : Bool) (n : Nat) (f : Nat → Nat → AV) (i : Nat) : s13 ix tm st kd cl rq fr ct d nd bh bl nl n f i s13_p = (cond (decide ((↑i : Int) < (↑n : Int)))
  (cond (decide ((↑i : Int) < (↑n : Int))) (cond (Nat.blt (0 + Int.toNat (↑i : Int)) n)
  (cond ((!(AV.toI (f (0 + Int.toNat (↑i : Int)) 0) == 0 && (AV.toI (f (0 + Int.toNat (↑i : Int)) (Nat.succ 0)) == 0 && (AV.toI (f (0 + Int.toNat (↑i : Int)) (Nat.succ (Nat.succ 0))) == 0 && (AV.toI (f (0 + Int.toNat (↑i : Int)) (Nat.succ (Nat.succ (Nat.succ 0)))) == 0 && true) && true)))) == true)
  (cond ((!(AV.toI (f (0 + Int.toNat (↑i : Int)) 0) == 0 && (AV.toI (f (0 + Int.toNat (↑i : Int)) (Nat.succ 0)) == 0 && (AV.toI (f (0 + Int.toNat (↑i : Int)) (Nat.succ (Nat.succ 0))) == 0 && (AV.toI (f (0 + Int.toNat (↑i : Int)) (Nat.succ (Nat.succ (Nat.succ 0)))) == 0 && true) && true)))) == true) (cond ((!(AV.toI (f (0 + Int.toNat (↑i : Int)) 0) == 0 && (AV.toI (f (0 + Int.toNat (↑i : Int)) (Nat.succ 0)) == 0 && (AV.toI (f (0 + Int.toNat (↑i : Int)) (Nat.succ (Nat.succ 0))) == 0 && (AV.toI (f (0 + Int.toNat (↑i : Int)) (Nat.succ (Nat.succ (Nat.succ 0)))) == 0 && true) && true)))) == true) (cond ((!(AV.toI (f (0 + Int.toNat (↑i : Int)) 0) == 0 && (AV.toI (f (0 + Int.toNat (↑i : Int)) (Nat.succ 0)) == 0 && (AV.toI (f (0 + Int.toNat (↑i : Int)) (Nat.succ (Nat.succ 0))) == 0 && (AV.toI (f (0 + Int.toNat (↑i : Int)) (Nat.succ (Nat.succ (Nat.succ 0)))) == 0 && true) && true)))) == true) (cond ((!(AV.toI (f (0 + Int.toNat (↑i : Int)) 0) == 0 && (AV.toI (f (0 + Int.toNat (↑i : Int)) (Nat.succ 0)) == 0 && (AV.toI (f (0 + Int.toNat (↑i : Int)) (Nat.succ (Nat.succ 0))) == 0 && (AV.toI (f (0 + Int.toNat (↑i : Int)) (Nat.succ (Nat.succ (Nat.succ 0)))) == 0 && true) && true)))) == true) (cond (!(AV.toI (f (0 + Int.toNat (↑i : Int)) 0) == 0 && (AV.toI (f (0 + Int.toNat (↑i : Int)) (Nat.succ 0)) == 0 && (AV.toI (f (0 + Int.toNat (↑i : Int)) (Nat.succ (Nat.succ 0))) == 0 && (AV.toI (f (0 + Int.toNat (↑i : Int)) (Nat.succ (Nat.succ (Nat.succ 0)))) == 0 && true) && true)))) (cond (!askP (AV.toI (f (0 + Int.toNat (↑i : Int)) 0)) (AV.toI (f (0 + Int.toNat (↑i : Int)) (Nat.succ 0))) (AV.toI (f (0 + Int.toNat (↑i : Int)) (Nat.succ (Nat.succ 0)))) (AV.toI (f (0 + Int.toNat (↑i : Int)) (Nat.succ (Nat.succ (Nat.succ 0))))) bl)
  (some (2, (CS.mk [(AV.bool (false))] [])))
  (some (0, (CS.mk [(AV.ptr (0) (0)), (AV.ptr (1) (0)), (AV.osl (nl) (2) (0) (n) (n) (4) (true)), (AV.int IntKind.i64 ((↑n : Int))), (AV.int IntKind.i64 (IntKind.wrap IntKind.i64 ((↑i : Int) + 1)))] [some (AObj.cells [(AV.int IntKind.u64 (ix)), (AV.int IntKind.u64 (tm)), (AV.int IntKind.u64 (st)), (AV.int IntKind.i64 (kd)), (AV.int IntKind.u64 (cl)), (AV.int IntKind.u64 (rq)), (AV.int IntKind.u32 (fr)), (AV.int IntKind.u32 (ct)), (AV.str (d)), (AV.osl (nl) (2) (0) (n) (n) (4) (true))] true), some (AObj.cells [(AV.int IntKind.i64 (nd)), (AV.int IntKind.i64 (bh)), (AV.int IntKind.u32 (bl))] true), some (AObj.tarr [Sh.int IntKind.u64, Sh.int IntKind.u64, Sh.int IntKind.u32, Sh.int IntKind.u32] (n) f false)])))) none) none) none) none) none)
  (cond ((!(AV.toI (f (0 + Int.toNat (↑i : Int)) 0) == 0 && (AV.toI (f (0 + Int.toNat (↑i : Int)) (Nat.succ 0)) == 0 && (AV.toI (f (0 + Int.toNat (↑i : Int)) (Nat.succ (Nat.succ 0))) == 0 && (AV.toI (f (0 + Int.toNat (↑i : Int)) (Nat.succ (Nat.succ (Nat.succ 0)))) == 0 && true) && true)))) == true) none (cond ((!(AV.toI (f (0 + Int.toNat (↑i : Int)) 0) == 0 && (AV.toI (f (0 + Int.toNat (↑i : Int)) (Nat.succ 0)) == 0 && (AV.toI (f (0 + Int.toNat (↑i : Int)) (Nat.succ (Nat.succ 0))) == 0 && (AV.toI (f (0 + Int.toNat (↑i : Int)) (Nat.succ (Nat.succ (Nat.succ 0)))) == 0 && true) && true)))) == true) none (cond ((!(AV.toI (f (0 + Int.toNat (↑i : Int)) 0) == 0 && (AV.toI (f (0 + Int.toNat (↑i : Int)) (Nat.succ 0)) == 0 && (AV.toI (f (0 + Int.toNat (↑i : Int)) (Nat.succ (Nat.succ 0))) == 0 && (AV.toI (f (0 + Int.toNat (↑i : Int)) (Nat.succ (Nat.succ (Nat.succ 0)))) == 0 && true) && true)))) == true) none (cond ((!(AV.toI (f (0 + Int.toNat (↑i : Int)) 0) == 0 && (AV.toI (f (0 + Int.toNat (↑i : Int)) (Nat.succ 0)) == 0 && (AV.toI (f (0 + Int.toNat (↑i : Int)) (Nat.succ (Nat.succ 0))) == 0 && (AV.toI (f (0 + Int.toNat (↑i : Int)) (Nat.succ (Nat.succ (Nat.succ 0)))) == 0 && true) && true)))) == true) none (cond (!(AV.toI (f (0 + Int.toNat (↑i : Int)) 0) == 0 && (AV.toI (f (0 + Int.toNat (↑i : Int)) (Nat.succ 0)) == 0 && (AV.toI (f (0 + Int.toNat (↑i : Int)) (Nat.succ (Nat.succ 0))) == 0 && (AV.toI (f (0 + Int.toNat (↑i : Int)) (Nat.succ (Nat.succ (Nat.succ 0)))) == 0 && true) && true)))) none (some (0, (CS.mk [(AV.ptr (0) (0)), (AV.ptr (1) (0)), (AV.osl (nl) (2) (0) (n) (n) (4) (true)), (AV.int IntKind.i64 ((↑n : Int))), (AV.int IntKind.i64 (IntKind.wrap IntKind.i64 ((↑i : Int) + 1)))] [some (AObj.cells [(AV.int IntKind.u64 (ix)), (AV.int IntKind.u64 (tm)), (AV.int IntKind.u64 (st)), (AV.int IntKind.i64 (kd)), (AV.int IntKind.u64 (cl)), (AV.int IntKind.u64 (rq)), (AV.int IntKind.u32 (fr)), (AV.int IntKind.u32 (ct)), (AV.str (d)), (AV.osl (nl) (2) (0) (n) (n) (4) (true))] true), some (AObj.cells [(AV.int IntKind.i64 (nd)), (AV.int IntKind.i64 (bh)), (AV.int IntKind.u32 (bl))] true), some (AObj.tarr [Sh.int IntKind.u64, Sh.int IntKind.u64, Sh.int IntKind.u32, Sh.int IntKind.u32] (n) f false)])))))))))
  none) none)
  (some (1, (CS.mk [(AV.ptr (0) (0)), (AV.ptr (1) (0))] [some (AObj.cells [(AV.int IntKind.u64 (ix)), (AV.int IntKind.u64 (tm)), (AV.int IntKind.u64 (st)), (AV.int IntKind.i64 (kd)), (AV.int IntKind.u64 (cl)), (AV.int IntKind.u64 (rq)), (AV.int IntKind.u32 (fr)), (AV.int IntKind.u32 (ct)), (AV.str (d)), (AV.osl (nl) (2) (0) (n) (n) (4) (true))] true), some (AObj.cells [(AV.int IntKind.i64 (nd)), (AV.int IntKind.i64 (bh)), (AV.int IntKind.u32 (bl))] true), some (AObj.tarr [Sh.int IntKind.u64, Sh.int IntKind.u64, Sh.int IntKind.u32, Sh.int IntKind.u32] (n) f false)])))) := by kernel_rfl
theorem s13_eq (ix : Int) (tm : Int) (st : Int) (kd : Int) (cl : Int) (rq : Int) (fr : Int) (ct : Int) (d : List Nat) (nd : Int) (bh : Int) (bl : Int) (nl : Bool) (n : Nat) (f : Nat → Nat → AV) (i : Nat) : s13 ix tm st kd cl rq fr ct d nd bh bl nl n f i s13_p = (cond (decide ((↑i : Int) < (↑n : Int)))
  (cond (Nat.blt (0 + Int.toNat (↑i : Int)) n)
  (cond (AV.toI (f (0 + Int.toNat (↑i : Int)) 0) == 0 && (AV.toI (f (0 + Int.toNat (↑i : Int)) (Nat.succ 0)) == 0 && (AV.toI (f (0 + Int.toNat (↑i : Int)) (Nat.succ (Nat.succ 0))) == 0 && (AV.toI (f (0 + Int.toNat (↑i : Int)) (Nat.succ (Nat.succ (Nat.succ 0)))) == 0 && true) && true)))
  (some (0, (CS.mk [(AV.ptr (0) (0)), (AV.ptr (1) (0)), (AV.osl (nl) (2) (0) (n) (n) (4) (true)), (AV.int IntKind.i64 ((↑n : Int))), (AV.int IntKind.i64 (IntKind.wrap IntKind.i64 ((↑i : Int) + 1)))] [some (AObj.cells [(AV.int IntKind.u64 (ix)), (AV.int IntKind.u64 (tm)), (AV.int IntKind.u64 (st)), (AV.int IntKind.i64 (kd)), (AV.int IntKind.u64 (cl)), (AV.int IntKind.u64 (rq)), (AV.int IntKind.u32 (fr)), (AV.int IntKind.u32 (ct)), (AV.str (d)), (AV.osl (nl) (2) (0) (n) (n) (4) (true))] true), some (AObj.cells [(AV.int IntKind.i64 (nd)), (AV.int IntKind.i64 (bh)), (AV.int IntKind.u32 (bl))] true), some (AObj.tarr [Sh.int IntKind.u64, Sh.int IntKind.u64, Sh.int IntKind.u32, Sh.int IntKind.u32] (n) f false)])))
  (cond (askP (AV.toI (f (0 + Int.toNat (↑i : Int)) 0)) (AV.toI (f (0 + Int.toNat (↑i : Int)) (Nat.succ 0))) (AV.toI (f (0 + Int.toNat (↑i : Int)) (Nat.succ (Nat.succ 0)))) (AV.toI (f (0 + Int.toNat (↑i : Int)) (Nat.succ (Nat.succ (Nat.succ 0))))) bl)
  (some (0, (CS.mk [(AV.ptr (0) (0)), (AV.ptr (1) (0)), (AV.osl (nl) (2) (0) (n) (n) (4) (true)), (AV.int IntKind.i64 ((↑n : Int))), (AV.int IntKind.i64 (IntKind.wrap IntKind.i64 ((↑i : Int) + 1)))] [some (AObj.cells [(AV.int IntKind.u64 (ix)), (AV.int IntKind.u64 (tm)), (AV.int IntKind.u64 (st)), (AV.int IntKind.i64 (kd)), (AV.int IntKind.u64 (cl)), (AV.int IntKind.u64 (rq)), (AV.int IntKind.u32 (fr)), (AV.int IntKind.u32 (ct)), (AV.str (d)), (AV.osl (nl) (2) (0) (n) (n) (4) (true))] true), some (AObj.cells [(AV.int IntKind.i64 (nd)), (AV.int IntKind.i64 (bh)), (AV.int IntKind.u32 (bl))] true), some (AObj.tarr [Sh.int IntKind.u64, Sh.int IntKind.u64, Sh.int IntKind.u32, Sh.int IntKind.u32] (n) f false)])))
  (some (2, (CS.mk [(AV.bool (false))] [])))))
  none)
  (some (1, (CS.mk [(AV.ptr (0) (0)), (AV.ptr (1) (0))] [some (AObj.cells [(AV.int IntKind.u64 (ix)), (AV.int IntKind.u64 (tm)), (AV.int IntKind.u64 (st)), (AV.int IntKind.i64 (kd)), (AV.int IntKind.u64 (cl)), (AV.int IntKind.u64 (rq)), (AV.int IntKind.u32 (fr)), (AV.int IntKind.u32 (ct)), (AV.str (d)), (AV.osl (nl) (2) (0) (n) (n) (4) (true))] true), some (AObj.cells [(AV.int IntKind.i64 (nd)), (AV.int IntKind.i64 (bh)), (AV.int IntKind.u32 (bl))] true), some (AObj.tarr [Sh.int IntKind.u64, Sh.int IntKind.u64, Sh.int IntKind.u32, Sh.int IntKind.u32] (n) f false)])))) := by
  rw [s13_is]
  try simp only [eq_self, decide_true, beq_self_eq_true, Nat.beq_refl, ble_self, Int.le_refl, Nat.le_refl]
  cases (decide ((↑i : Int) < (↑n : Int))) with
  | true =>
    cases (Nat.blt (0 + Int.toNat (↑i : Int)) n) with
    | true =>
      cases (AV.toI (f (0 + Int.toNat (↑i : Int)) 0) == 0 && (AV.toI (f (0 + Int.toNat (↑i : Int)) (Nat.succ 0)) == 0 && (AV.toI (f (0 + Int.toNat (↑i : Int)) (Nat.succ (Nat.succ 0))) == 0 && (AV.toI (f (0 + Int.toNat (↑i : Int)) (Nat.succ (Nat.succ (Nat.succ 0)))) == 0 && true) && true))) with
      | true =>
        rfl
      | false =>
        cases (askP (AV.toI (f (0 + Int.toNat (↑i : Int)) 0)) (AV.toI (f (0 + Int.toNat (↑i : Int)) (Nat.succ 0))) (AV.toI (f (0 + Int.toNat (↑i : Int)) (Nat.succ (Nat.succ 0)))) (AV.toI (f (0 + Int.toNat (↑i : Int)) (Nat.succ (Nat.succ (Nat.succ 0))))) bl) with
        | true =>
          rfl
        | false =>
          rfl
    | false =>
      rfl
  | false =>
    rfl

noncomputable def k13 (ix : Int) (tm : Int) (st : Int) (kd : Int) (cl : Int) (rq : Int) (fr : Int) (ct : Int) (d : List Nat) (nd : Int) (bh : Int) (bl : Int) (nl : Bool) (n : Nat) (f : Nat → Nat → AV) (π : Plan) : Option CS := callC (E13) (1000) (11) (0) (.keep) ([]) π (a13 ix tm st kd cl rq fr ct d nd bh bl nl n f)
def k13_p : Plan := (.fork (.must true (.must true (.must true (.fork (.must true (.must true (.must true (.fork (.must true (.must true (.must true (.must true (.must false (.fork (.must true (.must true (.must true (.fork (.must true (.must true (.must true (.must true (.must false (.fork .stop (.fork (.must true (.must true (.must true (.must true (.must true (.must true (.must false (.fork .stop (.must true (.must true (.reck 1 (.must true (.must true (.must true (.reck 1 (.must true (.must true (.fork (.fork (.fork (.must true (.must true (.must true (.must true (.must true (.must true (.must true (.must true (.must true (.must true (.must true (.must true (.must true (.must true (.must true (.must true (.must true (.must true (.must true (.must true (.must true (.must true (.must true (.must true (.must true (.reck 1 (.must true (.must true .stop)))))))))))))))))))))))))))) (.must false (.must false (.must false (.must false (.must false (.must false (.must false (.must false (.must false (.must true (.must true (.must true (.must true (.must true (.must true (.must true (.must true (.must true (.must true (.must true (.must true (.reck 1 (.must true (.must true .stop))))))))))))))))))))))))) (.fork (.fork (.must true (.must true (.must true .stop))) (.must false (.must false (.must false .stop)))) .stop)) .stop)))))))))))))))))) (.must false (.must false (.must false (.must false (.must false (.must false (.must true .stop)))))))))))))) (.must false (.must false (.must false (.must true (.must false .stop))))))))) (.must false (.must false (.must false (.must false (.must true .stop))))))))))) (.must false (.must false (.must false (.must true (.must false .stop))))))))) (.must false (.must false (.must false (.must false (.must true .stop))))))))) (.must false (.must false (.must false .stop))))
theorem k13_is (ix : Int) (tm : Int) (st : Int) (kd : Int) (cl : Int) (rq : Int) (fr : Int) (ct : Int) (d : List Nat) (nd : Int) (bh : Int) (bl : Int) (nl : Bool) (n : Nat) (f : Nat → Nat → AV) : k13 ix tm st kd cl rq fr ct d nd bh bl nl n f k13_p = (cond (decide (ix ≥ 1) == true)
  (cond (decide (ix ≥ 1) == true) (cond (decide (ix ≥ 1) == true) (cond (decide (ix ≥ 1)) (cond ((!decide (ix ≤ 4611686018427387840)) == false)
  (cond ((!decide (ix ≤ 4611686018427387840)) == false) (cond ((!decide (ix ≤ 4611686018427387840)) == false) (cond ((!decide (ix ≤ 4611686018427387840)) == false) (cond (decide (tm ≥ 1) == true)
  (cond (decide (tm ≥ 1) == true) (cond (decide (tm ≥ 1) == true) (cond (decide (tm ≥ 1)) (cond ((!decide (ix ≤ 4611686018427387840)) == false) (cond (!decide (ix ≤ 4611686018427387840)) none (cond ((!decide (tm ≤ 4611686018427387904)) == false)
  (cond ((!decide (tm ≤ 4611686018427387904)) == false) (cond ((!decide (tm ≤ 4611686018427387904)) == false) (cond ((!decide (tm ≤ 4611686018427387904)) == false) (cond (decide (st ≥ 1) == true)
  (cond (decide (st ≥ 1) == true) (cond (decide (st ≥ 1) == true) (cond (decide (st ≥ 1)) (cond ((!decide (tm ≤ 4611686018427387904)) == false) (cond (!decide (tm ≤ 4611686018427387904)) none (cond (!decide (st ≤ 4611686018427387904))
  (some (CS.mk [(AV.bool (false))] []))
  (cond (decide ((↑n : Int) > bh) == false)
  (cond (decide ((↑n : Int) > bh) == false) (cond (decide ((↑n : Int) > bh) == false) (cond (decide ((↑n : Int) > bh) == false) (cond (decide ((↑n : Int) > bh) == false) (cond (decide ((↑n : Int) > bh) == false) (cond (decide ((↑n : Int) > bh) == false) (cond (decide ((↑n : Int) > bh)) none (cond (decide (IntKind.wrap IntKind.u64 (↑n : Int) ≥ ix))
  (some (CS.mk [(AV.bool (false))] []))
  (cond (decide (n = n)) (cond (decide ((↑n : Int) = (↑n : Int))) (cond (decide (nl = nl)) (cond (decide (n = n)) (cond (decide (n = n)) (cond (decide (n = n)) (cond (Nat.ble n 1000000) (cond ((allA (askP) f (bl) (n)))
  (cond (kd == 1)
  (cond (askP cl rq fr ct bl == true)
  (cond (askP cl rq fr ct bl == true) (cond (askP cl rq fr ct bl == true) (cond (askP cl rq fr ct bl == true) (cond (askP cl rq fr ct bl == true) (cond (askP cl rq fr ct bl == true) (cond (askP cl rq fr ct bl == true) (cond (askP cl rq fr ct bl == true) (cond (askP cl rq fr ct bl == true) (cond (askP cl rq fr ct bl) (cond (decide (IntKind.wrap IntKind.i64 ct = IntKind.wrap IntKind.i64 ct)) (cond (decide (ct = ct)) (cond (decide ((↑(List.length d) : Int) = (↑(List.length d) : Int))) (cond (d == d) (cond (decide (bl = bl)) (cond (decide (bl = bl)) (cond (decide (ix = ix)) (cond (decide (tm = tm)) (cond (decide (st = st)) (cond (decide (kd = kd)) (cond (decide (cl = cl)) (cond (decide (rq = rq)) (cond (decide (fr = fr)) (cond (decide (ct = ct)) (cond (d == d) (cond (nl == nl) (cond (Nat.beq n n) (cond (Nat.beq n n) (some (CS.mk [(AV.bool ((↑(List.length d) : Int) == IntKind.wrap IntKind.i64 (8 * IntKind.wrap IntKind.i64 ct)))] [])) none) none) none) none) none) none) none) none) none) none) none) none) none) none) none) none) none) none) none) none) none) none) none) none) none) none) none)
  (cond (askP cl rq fr ct bl == true) none (cond (askP cl rq fr ct bl == true) none (cond (askP cl rq fr ct bl == true) none (cond (askP cl rq fr ct bl == true) none (cond (askP cl rq fr ct bl == true) none (cond (askP cl rq fr ct bl == true) none (cond (askP cl rq fr ct bl == true) none (cond (askP cl rq fr ct bl == true) none (cond (askP cl rq fr ct bl) none (cond (decide (bl = bl)) (cond (decide (bl = bl)) (cond (decide (ix = ix)) (cond (decide (tm = tm)) (cond (decide (st = st)) (cond (decide (kd = kd)) (cond (decide (cl = cl)) (cond (decide (rq = rq)) (cond (decide (fr = fr)) (cond (decide (ct = ct)) (cond (d == d) (cond (nl == nl) (cond (Nat.beq n n) (cond (Nat.beq n n) (some (CS.mk [(AV.bool (false))] [])) none) none) none) none) none) none) none) none) none) none) none) none) none) none)))))))))))
  (cond (kd == 2)
  (cond ((cl == 0 && (rq == 0 && (fr == 0 && (ct == 0 && true) && true))) == true)
  (cond ((cl == 0 && (rq == 0 && (fr == 0 && (ct == 0 && true) && true))) == true) (cond ((cl == 0 && (rq == 0 && (fr == 0 && (ct == 0 && true) && true))) == true) (cond (cl == 0 && (rq == 0 && (fr == 0 && (ct == 0 && true) && true))) (some (CS.mk [(AV.bool (d == bytesOf { data := #[] }))] [])) none) none) none)
  (cond ((cl == 0 && (rq == 0 && (fr == 0 && (ct == 0 && true) && true))) == true) none (cond ((cl == 0 && (rq == 0 && (fr == 0 && (ct == 0 && true) && true))) == true) none (cond (cl == 0 && (rq == 0 && (fr == 0 && (ct == 0 && true) && true))) none (some (CS.mk [(AV.bool (false))] []))))))
  (some (CS.mk [(AV.bool (false))] []))))
  (some (CS.mk [(AV.bool (false))] []))) none) none) none) none) none) none) none))) none) none) none) none) none) none)
  (cond (decide ((↑n : Int) > bh) == false) none (cond (decide ((↑n : Int) > bh) == false) none (cond (decide ((↑n : Int) > bh) == false) none (cond (decide ((↑n : Int) > bh) == false) none (cond (decide ((↑n : Int) > bh) == false) none (cond (decide ((↑n : Int) > bh) == false) none (cond (decide ((↑n : Int) > bh)) (some (CS.mk [(AV.bool (false))] [])) none)))))))))) none) none) none) none)
  (cond (decide (st ≥ 1) == true) none (cond (decide (st ≥ 1) == true) none (cond (decide (st ≥ 1)) none (cond ((!decide (tm ≤ 4611686018427387904)) == false) (cond (!decide (tm ≤ 4611686018427387904)) none (some (CS.mk [(AV.bool (false))] []))) none))))) none) none) none)
  (cond ((!decide (tm ≤ 4611686018427387904)) == false) none (cond ((!decide (tm ≤ 4611686018427387904)) == false) none (cond ((!decide (tm ≤ 4611686018427387904)) == false) none (cond ((!decide (tm ≤ 4611686018427387904)) == false) none (cond (!decide (tm ≤ 4611686018427387904)) (some (CS.mk [(AV.bool (false))] [])) none))))))) none) none) none) none)
  (cond (decide (tm ≥ 1) == true) none (cond (decide (tm ≥ 1) == true) none (cond (decide (tm ≥ 1)) none (cond ((!decide (ix ≤ 4611686018427387840)) == false) (cond (!decide (ix ≤ 4611686018427387840)) none (some (CS.mk [(AV.bool (false))] []))) none))))) none) none) none)
  (cond ((!decide (ix ≤ 4611686018427387840)) == false) none (cond ((!decide (ix ≤ 4611686018427387840)) == false) none (cond ((!decide (ix ≤ 4611686018427387840)) == false) none (cond ((!decide (ix ≤ 4611686018427387840)) == false) none (cond (!decide (ix ≤ 4611686018427387840)) (some (CS.mk [(AV.bool (false))] [])) none)))))) none) none) none)
  (cond (decide (ix ≥ 1) == true) none (cond (decide (ix ≥ 1) == true) none (cond (decide (ix ≥ 1)) none (some (CS.mk [(AV.bool (false))] [])))))) := by kernel_rfl
theorem k13_eq (ix : Int) (tm : Int) (st : Int) (kd : Int) (cl : Int) (rq : Int) (fr : Int) (ct : Int) (d : List Nat) (nd : Int) (bh : Int) (bl : Int) (nl : Bool) (n : Nat) (f : Nat → Nat → AV) (hy0 : (Nat.ble n 1000000) = true) : k13 ix tm st kd cl rq fr ct d nd bh bl nl n f k13_p = (cond (decide (ix ≥ 1))
  (cond (decide (ix ≤ 4611686018427387840))
  (cond (decide (tm ≥ 1))
  (cond (decide (tm ≤ 4611686018427387904))
  (cond (decide (st ≥ 1))
  (cond (decide (st ≤ 4611686018427387904))
  (cond (decide ((↑n : Int) > bh))
  (some (CS.mk [(AV.bool (false))] []))
  (cond (decide (IntKind.wrap IntKind.u64 (↑n : Int) ≥ ix))
  (some (CS.mk [(AV.bool (false))] []))
  (cond (allA (askP) f (bl) (n))
  (cond (kd == 1)
  (cond (askP cl rq fr ct bl)
  (some (CS.mk [(AV.bool ((↑(List.length d) : Int) == IntKind.wrap IntKind.i64 (8 * IntKind.wrap IntKind.i64 ct)))] []))
  (some (CS.mk [(AV.bool (false))] [])))
  (cond (kd == 2)
  (cond (cl == 0 && (rq == 0 && (fr == 0 && (ct == 0 && true) && true)))
  (some (CS.mk [(AV.bool (d == bytesOf { data := #[] }))] []))
  (some (CS.mk [(AV.bool (false))] [])))
  (some (CS.mk [(AV.bool (false))] []))))
  (some (CS.mk [(AV.bool (false))] [])))))
  (some (CS.mk [(AV.bool (false))] [])))
  (some (CS.mk [(AV.bool (false))] [])))
  (some (CS.mk [(AV.bool (false))] [])))
  (some (CS.mk [(AV.bool (false))] [])))
  (some (CS.mk [(AV.bool (false))] [])))
  (some (CS.mk [(AV.bool (false))] []))) := by
  rw [k13_is]
  try simp only [hy0, eq_self, decide_true, beq_self_eq_true, Nat.beq_refl, ble_self, Int.le_refl, Nat.le_refl]
  cases (decide (ix ≥ 1)) with
  | true =>
    cases (decide (ix ≤ 4611686018427387840)) with
    | true =>
      cases (decide (tm ≥ 1)) with
      | true =>
        cases (decide (tm ≤ 4611686018427387904)) with
        | true =>
          cases (decide (st ≥ 1)) with
          | true =>
            cases (decide (st ≤ 4611686018427387904)) with
            | true =>
              cases (decide ((↑n : Int) > bh)) with
              | true =>
                rfl
              | false =>
                cases (decide (IntKind.wrap IntKind.u64 (↑n : Int) ≥ ix)) with
                | true =>
                  rfl
                | false =>
                  cases (allA (askP) f (bl) (n)) with
                  | true =>
                    cases (kd == 1) with
                    | true =>
                      cases (askP cl rq fr ct bl) with
                      | true =>
                        rfl
                      | false =>
                        rfl
                    | false =>
                      cases (kd == 2) with
                      | true =>
                        cases (cl == 0 && (rq == 0 && (fr == 0 && (ct == 0 && true) && true))) with
                        | true =>
                          rfl
                        | false =>
                          rfl
                      | false =>
                        rfl
                  | false =>
                    rfl
            | false =>
              rfl
          | false =>
            rfl
        | false =>
          rfl
      | false =>
        rfl
    | false =>
      rfl
  | false =>
    rfl
def fineP (nd : Int) (bh : Int) (bl : Int) : Bool :=
  (cond (nd == 3)
  (cond (decide (bh ≥ 1))
  (cond (decide (bh ≤ 64))
  (cond (decide (bl ≥ 1))
  (decide (bl ≤ 64))
  false)
  false)
  false)
  (cond (nd == 5)
  (cond (decide (bh ≥ 1))
  (cond (decide (bh ≤ 64))
  (cond (decide (bl ≥ 1))
  (decide (bl ≤ 64))
  false)
  false)
  false)
  (cond (nd == 7)
  (cond (decide (bh ≥ 1))
  (cond (decide (bh ≤ 64))
  (cond (decide (bl ≥ 1))
  (decide (bl ≤ 64))
  false)
  false)
  false)
  false)))
def goodP (ix : Int) (tm : Int) (st : Int) (kd : Int) (cl : Int) (rq : Int) (fr : Int) (ct : Int) (d : List Nat) (nd : Int) (bh : Int) (bl : Int) (nl : Bool) (n : Nat) (f : Nat → Nat → AV) : Bool :=
  (cond (decide (ix ≥ 1))
  (cond (decide (ix ≤ 4611686018427387840))
  (cond (decide (tm ≥ 1))
  (cond (decide (tm ≤ 4611686018427387904))
  (cond (decide (st ≥ 1))
  (cond (decide (st ≤ 4611686018427387904))
  (cond (decide ((↑n : Int) > bh))
  false
  (cond (decide (IntKind.wrap IntKind.u64 (↑n : Int) ≥ ix))
  false
  (cond (allA (askP) f (bl) (n))
  (cond (kd == 1)
  (cond (askP cl rq fr ct bl)
  ((↑(List.length d) : Int) == IntKind.wrap IntKind.i64 (8 * IntKind.wrap IntKind.i64 ct))
  false)
  (cond (kd == 2)
  (cond (cl == 0 && (rq == 0 && (fr == 0 && (ct == 0 && true) && true)))
  (d == bytesOf { data := #[] })
  false)
  false))
  false)))
  false)
  false)
  false)
  false)
  false)
  false)
noncomputable def f11B  (nd : Int) (bh : Int) (bl : Int) : T (CS) :=
  .ret ⟨[.bool (fineP nd bh bl)], []⟩
noncomputable def f11  (c : CS) : T (CS) := match c with
  | ⟨[.agg [.int .i64 nd, .int .i64 bh, .int .u32 bl]], []⟩ => chkT [] (f11B  nd bh bl)
  | _ => .fail
noncomputable def f13B  (ix : Int) (tm : Int) (st : Int) (kd : Int) (cl : Int) (rq : Int) (fr : Int) (ct : Int) (d : List Nat) (nd : Int) (bh : Int) (bl : Int) (nl : Bool) (n : Nat) (f : Nat → Nat → AV) : T (CS) :=
  chkT [Nat.ble n 1000000] (.ret ⟨[.bool (goodP ix tm st kd cl rq fr ct d nd bh bl nl n f)], []⟩)
noncomputable def f13  (c : CS) : T (CS) := match c with
  | ⟨[.agg [.int .u64 ix, .int .u64 tm, .int .u64 st, .int .i64 kd, .int .u64 cl, .int .u64 rq, .int .u32 fr, .int .u32 ct, .str d, .osl nl 0 0 n z_1 4 true], .agg [.int .i64 nd, .int .i64 bh, .int .u32 bl]], [some (.tarr sh_2 z_3 f false)]⟩ => chkT [decide (n = z_1), shBeq sh_2 shL, decide (n = z_3)] (f13B  ix tm st kd cl rq fr ct d nd bh bl nl n f)
  | _ => .fail
noncomputable def E14 : Env := addF (addF E13 10 ⟨frRun [] [] f11⟩) 11 ⟨frRun [pE, .keep] [] f13⟩
noncomputable def E15 : Env := addF E14 7 livesI
theorem k11_S (nd : Int) (bh : Int) (bl : Int) : k11 nd bh bl k11_p = some ⟨[.bool (fineP nd bh bl)], []⟩ := by
  rw [k11_is]
  unfold fineP
  try simp only [eq_self, decide_true, beq_self_eq_true, Nat.beq_refl, ble_self, Int.le_refl, Nat.le_refl]
  cases (nd == 3) with
  | true =>
    cases (decide (bh ≥ 1)) with
    | true =>
      cases (decide (bh ≤ 64)) with
      | true =>
        cases (decide (bl ≥ 1)) with
        | true =>
          rfl
        | false =>
          rfl
      | false =>
        rfl
    | false =>
      rfl
  | false =>
    cases (nd == 5) with
    | true =>
      cases (decide (bh ≥ 1)) with
      | true =>
        cases (decide (bh ≤ 64)) with
        | true =>
          cases (decide (bl ≥ 1)) with
          | true =>
            rfl
          | false =>
            rfl
        | false =>
          rfl
      | false =>
        rfl
    | false =>
      cases (nd == 7) with
      | true =>
        cases (decide (bh ≥ 1)) with
        | true =>
          cases (decide (bh ≤ 64)) with
          | true =>
            cases (decide (bl ≥ 1)) with
            | true =>
              rfl
            | false =>
              rfl
          | false =>
            rfl
        | false =>
          rfl
      | false =>
        rfl

theorem k13_S (ix : Int) (tm : Int) (st : Int) (kd : Int) (cl : Int) (rq : Int) (fr : Int) (ct : Int) (d : List Nat) (nd : Int) (bh : Int) (bl : Int) (nl : Bool) (n : Nat) (f : Nat → Nat → AV) (hy0 : (Nat.ble n 1000000) = true) : k13 ix tm st kd cl rq fr ct d nd bh bl nl n f k13_p = some ⟨[.bool (goodP ix tm st kd cl rq fr ct d nd bh bl nl n f)], []⟩ := by
  rw [k13_is]
  unfold goodP
  try simp only [hy0, eq_self, decide_true, beq_self_eq_true, Nat.beq_refl, ble_self, Int.le_refl, Nat.le_refl]
  cases (decide (ix ≥ 1)) with
  | true =>
    cases (decide (ix ≤ 4611686018427387840)) with
    | true =>
      cases (decide (tm ≥ 1)) with
      | true =>
        cases (decide (tm ≤ 4611686018427387904)) with
        | true =>
          cases (decide (st ≥ 1)) with
          | true =>
            cases (decide (st ≤ 4611686018427387904)) with
            | true =>
              cases (decide ((↑n : Int) > bh)) with
              | true =>
                rfl
              | false =>
                cases (decide (IntKind.wrap IntKind.u64 (↑n : Int) ≥ ix)) with
                | true =>
                  rfl
                | false =>
                  cases (allA (askP) f (bl) (n)) with
                  | true =>
                    cases (kd == 1) with
                    | true =>
                      cases (askP cl rq fr ct bl) with
                      | true =>
                        rfl
                      | false =>
                        rfl
                    | false =>
                      cases (kd == 2) with
                      | true =>
                        cases (cl == 0 && (rq == 0 && (fr == 0 && (ct == 0 && true) && true))) with
                        | true =>
                          rfl
                        | false =>
                          rfl
                      | false =>
                        rfl
                  | false =>
                    rfl
            | false =>
              rfl
          | false =>
            rfl
        | false =>
          rfl
      | false =>
        rfl
    | false =>
      rfl
  | false =>
    rfl

theorem k39_S (cl : Int) (rq : Int) (fr : Int) (ct : Int) (bl : Int) : k39 cl rq fr ct bl k39_p = some ⟨[.bool (askP cl rq fr ct bl)], []⟩ := by
  rw [k39_is]
  unfold askP
  try simp only [eq_self, decide_true, beq_self_eq_true, Nat.beq_refl, ble_self, Int.le_refl, Nat.le_refl]
  cases (decide (cl ≥ 1)) with
  | true =>
    cases (decide (cl ≤ 8)) with
    | true =>
      cases (decide (rq > 0)) with
      | true =>
        cases (decide (ct ≤ 8)) with
        | true =>
          cases (decide (ct > 0)) with
          | true =>
            rfl
          | false =>
            rfl
        | false =>
          rfl
      | false =>
        rfl
    | false =>
      rfl
  | false =>
    rfl
noncomputable def k3 (ix : Int) (tm : Int) (st : Int) (kd : Int) (cl : Int) (rq : Int) (fr : Int) (ct : Int) (d : List Nat) (nd : Int) (bh : Int) (bl : Int) (nl : Bool) (n : Nat) (f : Nat → Nat → AV) (π : Plan) : Option Bool := lawT (E15) (5000) (3) ([.agg [.int .u64 ix, .int .u64 tm, .int .u64 st, .int .i64 kd, .int .u64 cl, .int .u64 rq, .int .u32 fr, .int .u32 ct, .str d, .osl nl 0 0 n n 4 true], .agg [.int .i64 nd, .int .i64 bh, .int .u32 bl]]) ([some (.tarr shL n f false)]) π
def k3_p : Plan := (.fork (.must true (.must true (.must true (.must true (.fork .stop (.must true (.reck 1 (.must true (.fork (.must true (.reck 1 (.must true (.must true (.reck 5 (.fork (.must true (.must true (.must true (.reck 1 (.must true (.fork (.must true (.must false (.fork (.must true (.must true (.reck 5 (.must true (.reck 1 (.must false .stop)))))) (.must false (.must false (.must false (.must true .stop))))))) .stop)))))) (.must false (.must false (.must false (.must true .stop)))))))))) (.fork (.must true (.reck 1 (.must true (.must false (.must true (.reck 5 (.fork (.must true (.must true (.must true (.reck 1 (.must true (.fork (.must true (.must false (.fork (.must true (.must true (.reck 5 (.must true (.reck 1 (.must false .stop)))))) (.must false (.must false (.must false (.must true .stop))))))) .stop)))))) (.must false (.must false (.must false (.must true .stop))))))))))) (.fork (.must true (.reck 1 (.must true (.must false (.must false (.must true (.reck 5 (.fork (.must true (.must true (.must true (.reck 1 (.must true (.fork (.must true (.must false (.fork (.must true (.must true (.reck 5 (.must true (.reck 1 (.must false .stop)))))) (.must false (.must false (.must false (.must true .stop))))))) .stop)))))) (.must false (.must false (.must false (.must true .stop)))))))))))) (.fork (.must true (.reck 1 (.must true (.must false (.must false (.must false (.must true (.reck 5 (.fork (.must true (.must true (.must true (.reck 1 (.must true (.fork (.must true (.must false (.fork (.must true (.must true (.reck 5 (.must true (.reck 1 (.must false .stop)))))) (.must false (.must false (.must false (.must true .stop))))))) .stop)))))) (.must false (.must false (.must false (.must true .stop))))))))))))) (.must true (.reck 1 (.must true (.must false (.must false (.must false (.must false (.fork (.fork (.fork (.fork (.fork (.fork (.fork (.must true (.must true (.must true (.must true (.must true (.must false (.reck 1 (.fork (.must true (.must true (.must true (.reck 1 (.must true (.fork (.must true (.must false (.fork (.must true (.must true (.reck 5 (.must true (.reck 1 (.must false (.fork (.must true .stop) (.must false .stop)))))))) (.must false (.must false (.must false (.must true .stop))))))) .stop)))))) (.must false (.must false (.must false (.must true .stop)))))))))))) .stop) .stop) .stop) .stop) .stop) .stop) .stop)))))))))))))))))))) (.must false (.must false (.must false (.must false .stop)))))
theorem k3_is (ix : Int) (tm : Int) (st : Int) (kd : Int) (cl : Int) (rq : Int) (fr : Int) (ct : Int) (d : List Nat) (nd : Int) (bh : Int) (bl : Int) (nl : Bool) (n : Nat) (f : Nat → Nat → AV) : k3 ix tm st kd cl rq fr ct d nd bh bl nl n f k3_p = (cond (decide ((↑(List.length d) : Int) ≤ 20000) == true)
  (cond (decide ((↑(List.length d) : Int) ≤ 20000) == true) (cond (decide ((↑(List.length d) : Int) ≤ 20000) == true) (cond (decide ((↑(List.length d) : Int) ≤ 20000) == true) (cond (decide ((↑(List.length d) : Int) ≤ 20000)) (cond (!decide ((↑n : Int) ≤ 200))
  (some (true))
  (cond (decide (n = n)) (cond (decide (n = n)) (cond (decide (kd < 0))
  (cond (decide (n = n)) (cond (decide (n = n)) (cond (decide (kd < 0)) (cond ((!fineP nd bh bl) == false)
  (cond ((!fineP nd bh bl) == false) (cond ((!fineP nd bh bl) == false) (cond (decide (n = n)) (cond (decide (n = n)) (cond (Nat.ble n 1000000)
  (cond ((!fineP nd bh bl) == false) (cond (!fineP nd bh bl) none (cond ((!goodP ix tm st kd cl rq fr ct d nd bh bl nl n f) == false)
  (cond ((!goodP ix tm st kd cl rq fr ct d nd bh bl nl n f) == false) (cond ((!goodP ix tm st kd cl rq fr ct d nd bh bl nl n f) == false) (cond ((!goodP ix tm st kd cl rq fr ct d nd bh bl nl n f) == false) (cond (!goodP ix tm st kd cl rq fr ct d nd bh bl nl n f) none (some (false))) none) none) none)
  (cond ((!goodP ix tm st kd cl rq fr ct d nd bh bl nl n f) == false) none (cond ((!goodP ix tm st kd cl rq fr ct d nd bh bl nl n f) == false) none (cond ((!goodP ix tm st kd cl rq fr ct d nd bh bl nl n f) == false) none (cond (!goodP ix tm st kd cl rq fr ct d nd bh bl nl n f) (some (true)) none)))))) none)
  none) none) none) none) none)
  (cond ((!fineP nd bh bl) == false) none (cond ((!fineP nd bh bl) == false) none (cond ((!fineP nd bh bl) == false) none (cond (!fineP nd bh bl) (some (true)) none))))) none) none) none)
  (cond (decide (kd > 255))
  (cond (decide (n = n)) (cond (decide (n = n)) (cond (decide (kd < 0)) none (cond (decide (kd > 255)) (cond ((!fineP nd bh bl) == false)
  (cond ((!fineP nd bh bl) == false) (cond ((!fineP nd bh bl) == false) (cond (decide (n = n)) (cond (decide (n = n)) (cond (Nat.ble n 1000000)
  (cond ((!fineP nd bh bl) == false) (cond (!fineP nd bh bl) none (cond ((!goodP ix tm st kd cl rq fr ct d nd bh bl nl n f) == false)
  (cond ((!goodP ix tm st kd cl rq fr ct d nd bh bl nl n f) == false) (cond ((!goodP ix tm st kd cl rq fr ct d nd bh bl nl n f) == false) (cond ((!goodP ix tm st kd cl rq fr ct d nd bh bl nl n f) == false) (cond (!goodP ix tm st kd cl rq fr ct d nd bh bl nl n f) none (some (false))) none) none) none)
  (cond ((!goodP ix tm st kd cl rq fr ct d nd bh bl nl n f) == false) none (cond ((!goodP ix tm st kd cl rq fr ct d nd bh bl nl n f) == false) none (cond ((!goodP ix tm st kd cl rq fr ct d nd bh bl nl n f) == false) none (cond (!goodP ix tm st kd cl rq fr ct d nd bh bl nl n f) (some (true)) none)))))) none)
  none) none) none) none) none)
  (cond ((!fineP nd bh bl) == false) none (cond ((!fineP nd bh bl) == false) none (cond ((!fineP nd bh bl) == false) none (cond (!fineP nd bh bl) (some (true)) none))))) none)) none) none)
  (cond (decide ((↑(List.length d) : Int) > 16384))
  (cond (decide (n = n)) (cond (decide (n = n)) (cond (decide (kd < 0)) none (cond (decide (kd > 255)) none (cond (decide ((↑(List.length d) : Int) > 16384)) (cond ((!fineP nd bh bl) == false)
  (cond ((!fineP nd bh bl) == false) (cond ((!fineP nd bh bl) == false) (cond (decide (n = n)) (cond (decide (n = n)) (cond (Nat.ble n 1000000)
  (cond ((!fineP nd bh bl) == false) (cond (!fineP nd bh bl) none (cond ((!goodP ix tm st kd cl rq fr ct d nd bh bl nl n f) == false)
  (cond ((!goodP ix tm st kd cl rq fr ct d nd bh bl nl n f) == false) (cond ((!goodP ix tm st kd cl rq fr ct d nd bh bl nl n f) == false) (cond ((!goodP ix tm st kd cl rq fr ct d nd bh bl nl n f) == false) (cond (!goodP ix tm st kd cl rq fr ct d nd bh bl nl n f) none (some (false))) none) none) none)
  (cond ((!goodP ix tm st kd cl rq fr ct d nd bh bl nl n f) == false) none (cond ((!goodP ix tm st kd cl rq fr ct d nd bh bl nl n f) == false) none (cond ((!goodP ix tm st kd cl rq fr ct d nd bh bl nl n f) == false) none (cond (!goodP ix tm st kd cl rq fr ct d nd bh bl nl n f) (some (true)) none)))))) none)
  none) none) none) none) none)
  (cond ((!fineP nd bh bl) == false) none (cond ((!fineP nd bh bl) == false) none (cond ((!fineP nd bh bl) == false) none (cond (!fineP nd bh bl) (some (true)) none))))) none))) none) none)
  (cond (decide ((↑n : Int) > 64))
  (cond (decide (n = n)) (cond (decide (n = n)) (cond (decide (kd < 0)) none (cond (decide (kd > 255)) none (cond (decide ((↑(List.length d) : Int) > 16384)) none (cond (decide ((↑n : Int) > 64)) (cond ((!fineP nd bh bl) == false)
  (cond ((!fineP nd bh bl) == false) (cond ((!fineP nd bh bl) == false) (cond (decide (n = n)) (cond (decide (n = n)) (cond (Nat.ble n 1000000)
  (cond ((!fineP nd bh bl) == false) (cond (!fineP nd bh bl) none (cond ((!goodP ix tm st kd cl rq fr ct d nd bh bl nl n f) == false)
  (cond ((!goodP ix tm st kd cl rq fr ct d nd bh bl nl n f) == false) (cond ((!goodP ix tm st kd cl rq fr ct d nd bh bl nl n f) == false) (cond ((!goodP ix tm st kd cl rq fr ct d nd bh bl nl n f) == false) (cond (!goodP ix tm st kd cl rq fr ct d nd bh bl nl n f) none (some (false))) none) none) none)
  (cond ((!goodP ix tm st kd cl rq fr ct d nd bh bl nl n f) == false) none (cond ((!goodP ix tm st kd cl rq fr ct d nd bh bl nl n f) == false) none (cond ((!goodP ix tm st kd cl rq fr ct d nd bh bl nl n f) == false) none (cond (!goodP ix tm st kd cl rq fr ct d nd bh bl nl n f) (some (true)) none)))))) none)
  none) none) none) none) none)
  (cond ((!fineP nd bh bl) == false) none (cond ((!fineP nd bh bl) == false) none (cond ((!fineP nd bh bl) == false) none (cond (!fineP nd bh bl) (some (true)) none))))) none)))) none) none)
  (cond (decide (n = n)) (cond (decide (n = n)) (cond (decide (kd < 0)) none (cond (decide (kd > 255)) none (cond (decide ((↑(List.length d) : Int) > 16384)) none (cond (decide ((↑n : Int) > 64)) none (cond (u64B ix)
  (cond (u64B tm)
  (cond (u64B st)
  (cond (lookOk cl rq fr ct)
  (cond (okFrom (rowOk f) 0 n)
  (cond (Nat.ble (0 + (52 + List.length d + 24 * n)) (52 + List.length d + 24 * n))
  (cond (List.all (List.range (52 + List.length d + 24 * n)) fun i => decide (0 ≤ byteAt (entB ix tm st kd cl rq fr ct d n f) (0 + i)) && decide (byteAt (entB ix tm st kd cl rq fr ct d n f) (0 + i) < 256))
  (cond (Nat.ble (0 + (52 + List.length d + 24 * n)) (52 + List.length d + 24 * n)) (cond (List.all (List.range (52 + List.length d + 24 * n)) fun i => decide (0 ≤ byteAt (entB ix tm st kd cl rq fr ct d n f) (0 + i)) && decide (byteAt (entB ix tm st kd cl rq fr ct d n f) (0 + i) < 256)) (cond ((!List.map (fun i => Int.toNat (byteAt (entB ix tm st kd cl rq fr ct d n f) (0 + i))) (List.range (52 + List.length d + 24 * n)) == List.map (fun i => Int.toNat (byteAt (entB ix tm st kd cl rq fr ct d n f) (0 + i))) (List.range (52 + List.length d + 24 * n))) == false) (cond ((!List.map (fun i => Int.toNat (byteAt (entB ix tm st kd cl rq fr ct d n f) (0 + i))) (List.range (52 + List.length d + 24 * n)) == List.map (fun i => Int.toNat (byteAt (entB ix tm st kd cl rq fr ct d n f) (0 + i))) (List.range (52 + List.length d + 24 * n))) == false) (cond ((!List.map (fun i => Int.toNat (byteAt (entB ix tm st kd cl rq fr ct d n f) (0 + i))) (List.range (52 + List.length d + 24 * n)) == List.map (fun i => Int.toNat (byteAt (entB ix tm st kd cl rq fr ct d n f) (0 + i))) (List.range (52 + List.length d + 24 * n))) == false) (cond (!List.map (fun i => Int.toNat (byteAt (entB ix tm st kd cl rq fr ct d n f) (0 + i))) (List.range (52 + List.length d + 24 * n)) == List.map (fun i => Int.toNat (byteAt (entB ix tm st kd cl rq fr ct d n f) (0 + i))) (List.range (52 + List.length d + 24 * n))) none (cond ((!fineP nd bh bl) == false)
  (cond ((!fineP nd bh bl) == false) (cond ((!fineP nd bh bl) == false) (cond (decide (n = n)) (cond (decide (n = n)) (cond (Nat.ble n 1000000)
  (cond ((!fineP nd bh bl) == false) (cond (!fineP nd bh bl) none (cond ((!goodP ix tm st kd cl rq fr ct d nd bh bl nl n f) == false)
  (cond ((!goodP ix tm st kd cl rq fr ct d nd bh bl nl n f) == false) (cond ((!goodP ix tm st kd cl rq fr ct d nd bh bl nl n f) == false) (cond ((!goodP ix tm st kd cl rq fr ct d nd bh bl nl n f) == false) (cond (!goodP ix tm st kd cl rq fr ct d nd bh bl nl n f) none (cond (decide ((↑(52 + List.length d + 24 * n) : Int) ≤ IntKind.wrap IntKind.i64 (116 + IntKind.wrap IntKind.i64 ((if 0 > bh then 0 else bh) * 24))) == true)
  (cond (decide ((↑(52 + List.length d + 24 * n) : Int) ≤ IntKind.wrap IntKind.i64 (116 + IntKind.wrap IntKind.i64 ((if 0 > bh then 0 else bh) * 24)))) (some (true)) none)
  (cond (decide ((↑(52 + List.length d + 24 * n) : Int) ≤ IntKind.wrap IntKind.i64 (116 + IntKind.wrap IntKind.i64 ((if 0 > bh then 0 else bh) * 24)))) none (some (false))))) none) none) none)
  (cond ((!goodP ix tm st kd cl rq fr ct d nd bh bl nl n f) == false) none (cond ((!goodP ix tm st kd cl rq fr ct d nd bh bl nl n f) == false) none (cond ((!goodP ix tm st kd cl rq fr ct d nd bh bl nl n f) == false) none (cond (!goodP ix tm st kd cl rq fr ct d nd bh bl nl n f) (some (true)) none)))))) none)
  none) none) none) none) none)
  (cond ((!fineP nd bh bl) == false) none (cond ((!fineP nd bh bl) == false) none (cond ((!fineP nd bh bl) == false) none (cond (!fineP nd bh bl) (some (true)) none)))))) none) none) none) none) none)
  none)
  none)
  none)
  none)
  none)
  none)
  none))))) none) none))))) none) none)) none) none) none) none)
  (cond (decide ((↑(List.length d) : Int) ≤ 20000) == true) none (cond (decide ((↑(List.length d) : Int) ≤ 20000) == true) none (cond (decide ((↑(List.length d) : Int) ≤ 20000) == true) none (cond (decide ((↑(List.length d) : Int) ≤ 20000)) none (some (true))))))) := by kernel_rfl
theorem k3_eq (ix : Int) (tm : Int) (st : Int) (kd : Int) (cl : Int) (rq : Int) (fr : Int) (ct : Int) (d : List Nat) (nd : Int) (bh : Int) (bl : Int) (nl : Bool) (n : Nat) (f : Nat → Nat → AV) : k3 ix tm st kd cl rq fr ct d nd bh bl nl n f k3_p = (cond (decide ((↑(List.length d) : Int) ≤ 20000))
  (cond (decide ((↑n : Int) ≤ 200))
  (cond (decide (kd < 0))
  (cond (fineP nd bh bl)
  (cond (Nat.ble n 1000000)
  (cond (goodP ix tm st kd cl rq fr ct d nd bh bl nl n f)
  (some (false))
  (some (true)))
  none)
  (some (true)))
  (cond (decide (kd > 255))
  (cond (fineP nd bh bl)
  (cond (Nat.ble n 1000000)
  (cond (goodP ix tm st kd cl rq fr ct d nd bh bl nl n f)
  (some (false))
  (some (true)))
  none)
  (some (true)))
  (cond (decide ((↑(List.length d) : Int) > 16384))
  (cond (fineP nd bh bl)
  (cond (Nat.ble n 1000000)
  (cond (goodP ix tm st kd cl rq fr ct d nd bh bl nl n f)
  (some (false))
  (some (true)))
  none)
  (some (true)))
  (cond (decide ((↑n : Int) > 64))
  (cond (fineP nd bh bl)
  (cond (Nat.ble n 1000000)
  (cond (goodP ix tm st kd cl rq fr ct d nd bh bl nl n f)
  (some (false))
  (some (true)))
  none)
  (some (true)))
  (cond (u64B ix)
  (cond (u64B tm)
  (cond (u64B st)
  (cond (lookOk cl rq fr ct)
  (cond (okFrom (rowOk f) 0 n)
  (cond (Nat.ble (0 + (52 + List.length d + 24 * n)) (52 + List.length d + 24 * n))
  (cond (List.all (List.range (52 + List.length d + 24 * n)) fun i => decide (0 ≤ byteAt (entB ix tm st kd cl rq fr ct d n f) (0 + i)) && decide (byteAt (entB ix tm st kd cl rq fr ct d n f) (0 + i) < 256))
  (cond (fineP nd bh bl)
  (cond (Nat.ble n 1000000)
  (cond (goodP ix tm st kd cl rq fr ct d nd bh bl nl n f)
  (cond (decide ((↑(52 + List.length d + 24 * n) : Int) ≤ IntKind.wrap IntKind.i64 (116 + IntKind.wrap IntKind.i64 ((if 0 > bh then 0 else bh) * 24))))
  (some (true))
  (some (false)))
  (some (true)))
  none)
  (some (true)))
  none)
  none)
  none)
  none)
  none)
  none)
  none)))))
  (some (true)))
  (some (true))) := by
  rw [k3_is]
  try simp only [eq_self, decide_true, beq_self_eq_true, Nat.beq_refl, ble_self, Int.le_refl, Nat.le_refl]
  cases (decide ((↑(List.length d) : Int) ≤ 20000)) with
  | true =>
    cases (decide ((↑n : Int) ≤ 200)) with
    | true =>
      cases (decide (kd < 0)) with
      | true =>
        cases (fineP nd bh bl) with
        | true =>
          cases (Nat.ble n 1000000) with
          | true =>
            cases (goodP ix tm st kd cl rq fr ct d nd bh bl nl n f) with
            | true =>
              rfl
            | false =>
              rfl
          | false =>
            rfl
        | false =>
          rfl
      | false =>
        cases (decide (kd > 255)) with
        | true =>
          cases (fineP nd bh bl) with
          | true =>
            cases (Nat.ble n 1000000) with
            | true =>
              cases (goodP ix tm st kd cl rq fr ct d nd bh bl nl n f) with
              | true =>
                rfl
              | false =>
                rfl
            | false =>
              rfl
          | false =>
            rfl
        | false =>
          cases (decide ((↑(List.length d) : Int) > 16384)) with
          | true =>
            cases (fineP nd bh bl) with
            | true =>
              cases (Nat.ble n 1000000) with
              | true =>
                cases (goodP ix tm st kd cl rq fr ct d nd bh bl nl n f) with
                | true =>
                  rfl
                | false =>
                  rfl
              | false =>
                rfl
            | false =>
              rfl
          | false =>
            cases (decide ((↑n : Int) > 64)) with
            | true =>
              cases (fineP nd bh bl) with
              | true =>
                cases (Nat.ble n 1000000) with
                | true =>
                  cases (goodP ix tm st kd cl rq fr ct d nd bh bl nl n f) with
                  | true =>
                    rfl
                  | false =>
                    rfl
                | false =>
                  rfl
              | false =>
                rfl
            | false =>
              cases (u64B ix) with
              | true =>
                cases (u64B tm) with
                | true =>
                  cases (u64B st) with
                  | true =>
                    cases (lookOk cl rq fr ct) with
                    | true =>
                      cases (okFrom (rowOk f) 0 n) with
                      | true =>
                        cases (Nat.ble (0 + (52 + List.length d + 24 * n)) (52 + List.length d + 24 * n)) with
                        | true =>
                          cases (List.all (List.range (52 + List.length d + 24 * n)) fun i => decide (0 ≤ byteAt (entB ix tm st kd cl rq fr ct d n f) (0 + i)) && decide (byteAt (entB ix tm st kd cl rq fr ct d n f) (0 + i) < 256)) with
                          | true =>
                            cases (fineP nd bh bl) with
                            | true =>
                              cases (Nat.ble n 1000000) with
                              | true =>
                                cases (goodP ix tm st kd cl rq fr ct d nd bh bl nl n f) with
                                | true =>
                                  cases (decide ((↑(52 + List.length d + 24 * n) : Int) ≤ IntKind.wrap IntKind.i64 (116 + IntKind.wrap IntKind.i64 ((if 0 > bh then 0 else bh) * 24)))) with
                                  | true =>
                                    rfl
                                  | false =>
                                    rfl
                                | false =>
                                  rfl
                              | false =>
                                rfl
                            | false =>
                              rfl
                          | false =>
                            rfl
                        | false =>
                          rfl
                      | false =>
                        rfl
                    | false =>
                      rfl
                  | false =>
                    rfl
                | false =>
                  rfl
              | false =>
                rfl
    | false =>
      rfl
  | false =>
    rfl
end Go.Proofs.Ytjbjjikdihghmaa.entry
