/- The law EntryTells: its functions' contracts, and what their rounds and runs come to. -/
import Derived.Test.YtjoojpnbhmhalabRows
import Derived.Test.YtjoojpnbhmhalabBmVi
import Derived.KernelRfl
set_option linter.unusedSimpArgs false
set_option linter.unusedVariables false
set_option maxRecDepth 20000
namespace Go.Proofs.Ytjoojpnbhmhalab.entryTells
open Go Go.Proofs.Ytjoojpnbhmhalab.Bm
noncomputable def E0 : Env := mkEnv Try.prog 135 101
noncomputable def E1 : Env := { E0 with tyd := fun t => Nat.beq t 37, bits := bitsR }
abbrev shL : List Sh := [.int .u64, .int .u64, .int .u32, .int .u32]
/-- May a client, a request and blocks be: the program's answer; the document's. -/
def askP (cl rq fr ct bl : Int) : Bool := cond (decide (cl ≥ 1)) (cond (decide (cl ≤ 8)) (cond (decide (rq > 0)) (cond (decide (ct ≤ 8)) (cond (decide (ct > 0))
  (decide (IntKind.wrap IntKind.u64 (IntKind.wrap IntKind.u64 fr + IntKind.wrap IntKind.u64 ct) ≤ IntKind.wrap IntKind.u64 bl)) false) false) false) false) false
def askR (cl rq fr ct bl : Int) : Bool := cond (decide (cl ≥ 1)) (cond (decide (cl ≤ 8)) (cond (decide (rq ≥ 1)) (cond (decide (ct ≥ 1)) (cond (decide (ct ≤ 8))
  (decide (IntKind.wrap IntKind.u64 (IntKind.wrap IntKind.u64 fr + IntKind.wrap IntKind.u64 ct) ≤ IntKind.wrap IntKind.u64 bl)) false) false) false) false) false
def rowZ (f : Nat → Nat → AV) (i : Nat) : Bool := (f i 0).toI == 0 && ((f i 1).toI == 0 && ((f i 2).toI == 0 && ((f i 3).toI == 0 && true) && true))
def rowE (f g : Nat → Nat → AV) (i : Nat) : Bool := (f i 0).toI == (g i 0).toI && ((f i 1).toI == (g i 1).toI && ((f i 2).toI == (g i 2).toI && ((f i 3).toI == (g i 3).toI && true) && true))
def rowA (A : Int → Int → Int → Int → Int → Bool) (f : Nat → Nat → AV) (bl : Int) (i : Nat) : Bool := cond (rowZ f i) true (A (f i 0).toI (f i 1).toI (f i 2).toI (f i 3).toI bl)
/-- All looks behind, from one on. -/
def allA (A : Int → Int → Int → Int → Int → Bool) (f : Nat → Nat → AV) (bl : Int) (n : Nat) : Bool := okFrom (rowA A f bl) 0 n
def allE (f g : Nat → Nat → AV) (n : Nat) : Bool := okFrom (rowE f g) 0 n
def h13 : Pat := ⟨91, [(2, .keep), (3, .keep), (43, .keep), (44, .keep), (45, .keep)], []⟩
def x13 : List (Ex × Pat) := [(.exit 0, ⟨91, [(2, .keep), (3, .keep)], []⟩), (.ret, ⟨91, [(4, .keep)], []⟩)]
noncomputable def b13 : Code := loopC E0 13 0
def h14 : Pat := ⟨120, [(2, .keep), (3, .keep), (5, .keep)], []⟩
def x14 : List (Ex × Pat) := [(.exit 0, ⟨120, [], []⟩), (.ret, ⟨120, [(4, .keep)], []⟩)]
noncomputable def b14 : Code := loopC E0 14 0
def h41 : Pat := ⟨26, [(0, .asl shL), (1, .asl shL), (12, .keep), (13, .keep)], []⟩
def x41 : List (Ex × Pat) := [(.exit 0, ⟨26, [], []⟩), (.ret, ⟨26, [(4, .keep)], []⟩)]
noncomputable def b41 : Code := loopC E0 41 0
def pE : PV := .agg [.keep, .keep, .keep, .keep, .keep, .keep, .keep, .keep, .keep, .asl shL]
def lE : List PV := [.keep, .keep, .keep, .keep, .keep, .keep, .keep, .keep, .keep, .asl shL]
def h18 : Pat := ⟨58, [(2, .keep), (3, .keep), (5, .keep)], [lE, lE]⟩
def x18 : List (Ex × Pat) := [(.exit 0, ⟨58, [], []⟩), (.ret, ⟨58, [(4, .keep)], []⟩)]
noncomputable def b18 : Code := loopC E0 18 0
def c13 (ix : Int) (tm : Int) (st : Int) (kd : Int) (cl : Int) (rq : Int) (fr : Int) (ct : Int) (d : List Nat) (nd : Int) (bh : Int) (bl : Int) (nl : Bool) (n : Nat) (f : Nat → Nat → AV) (i : Nat) : CS :=
  ⟨[.ptr 0 0, .ptr 1 0, .osl nl 2 0 n n 4 true, .int .i64 (n : Nat), .int .i64 (i : Nat)], [some (.cells [.int .u64 ix, .int .u64 tm, .int .u64 st, .int .i64 kd, .int .u64 cl, .int .u64 rq, .int .u32 fr, .int .u32 ct, .str d, .osl nl 2 0 n n 4 true] true), some (.cells [.int .i64 nd, .int .i64 bh, .int .u32 bl] true), some (.tarr shL n f false)]⟩
def c14 (ix : Int) (tm : Int) (st : Int) (kd : Int) (cl : Int) (rq : Int) (fr : Int) (ct : Int) (d : List Nat) (nd : Int) (bh : Int) (bl : Int) (nl : Bool) (n : Nat) (f : Nat → Nat → AV) (i : Nat) : CS :=
  ⟨[.ptr 0 0, .ptr 1 0, .int .i64 (i : Nat)], [some (.cells [.int .u64 ix, .int .u64 tm, .int .u64 st, .int .i64 kd, .int .u64 cl, .int .u64 rq, .int .u32 fr, .int .u32 ct, .str d, .osl nl 2 0 n n 4 true] true), some (.cells [.int .i64 nd, .int .i64 bh, .int .u32 bl] true), some (.tarr shL n f false)]⟩
def c41 (nl : Bool) (nl2 : Bool) (n : Nat) (m : Nat) (f : Nat → Nat → AV) (g : Nat → Nat → AV) (i : Nat) : CS :=
  ⟨[.osl nl 0 0 n n 4 true, .osl nl2 1 0 m m 4 true, .int .i64 (n : Nat), .int .i64 (i : Nat)], [some (.tarr shL n f false), some (.tarr shL m g false)]⟩
def c18 (ix : Int) (tm : Int) (st : Int) (kd : Int) (cl : Int) (rq : Int) (fr : Int) (ct : Int) (d : List Nat) (ix2 : Int) (tm2 : Int) (st2 : Int) (kd2 : Int) (cl2 : Int) (rq2 : Int) (fr2 : Int) (ct2 : Int) (d2 : List Nat) (nl : Bool) (nl2 : Bool) (n : Nat) (m : Nat) (f : Nat → Nat → AV) (g : Nat → Nat → AV) (i : Nat) : CS :=
  ⟨[.ptr 0 0, .ptr 1 0, .int .i64 (i : Nat)], [some (.cells [.int .u64 ix, .int .u64 tm, .int .u64 st, .int .i64 kd, .int .u64 cl, .int .u64 rq, .int .u32 fr, .int .u32 ct, .str d, .osl nl 2 0 n n 4 true] true), some (.cells [.int .u64 ix2, .int .u64 tm2, .int .u64 st2, .int .i64 kd2, .int .u64 cl2, .int .u64 rq2, .int .u32 fr2, .int .u32 ct2, .str d2, .osl nl2 3 0 m m 4 true] true), some (.tarr shL n f false), some (.tarr shL m g false)]⟩
def a13 (ix : Int) (tm : Int) (st : Int) (kd : Int) (cl : Int) (rq : Int) (fr : Int) (ct : Int) (d : List Nat) (nd : Int) (bh : Int) (bl : Int) (nl : Bool) (n : Nat) (f : Nat → Nat → AV) : CS :=
  ⟨[.agg [.int .u64 ix, .int .u64 tm, .int .u64 st, .int .i64 kd, .int .u64 cl, .int .u64 rq, .int .u32 fr, .int .u32 ct, .str d, .osl nl 0 0 n n 4 true], .agg [.int .i64 nd, .int .i64 bh, .int .u32 bl]], [some (.tarr shL n f false)]⟩
def a17 (ix : Int) (tm : Int) (st : Int) (kd : Int) (cl : Int) (rq : Int) (fr : Int) (ct : Int) (d : List Nat) (ix2 : Int) (tm2 : Int) (st2 : Int) (kd2 : Int) (cl2 : Int) (rq2 : Int) (fr2 : Int) (ct2 : Int) (d2 : List Nat) (nl : Bool) (nl2 : Bool) (n : Nat) (m : Nat) (f : Nat → Nat → AV) (g : Nat → Nat → AV) : CS :=
  ⟨[.agg [.int .u64 ix, .int .u64 tm, .int .u64 st, .int .i64 kd, .int .u64 cl, .int .u64 rq, .int .u32 fr, .int .u32 ct, .str d, .osl nl 0 0 n n 4 true], .agg [.int .u64 ix2, .int .u64 tm2, .int .u64 st2, .int .i64 kd2, .int .u64 cl2, .int .u64 rq2, .int .u32 fr2, .int .u32 ct2, .str d2, .osl nl2 1 0 m m 4 true]], [some (.tarr shL n f false), some (.tarr shL m g false)]⟩
def a11 (nd : Int) (bh : Int) (bl : Int) : CS :=
  ⟨[.agg [.int .i64 nd, .int .i64 bh, .int .u32 bl]], []⟩
def a39 (cl : Int) (rq : Int) (fr : Int) (ct : Int) (bl : Int) : CS :=
  ⟨[.agg [.int .u64 cl, .int .u64 rq, .int .u32 fr, .int .u32 ct], .int .u32 bl], []⟩
def r39B (A : Int → Int → Int → Int → Int → Bool) (cl : Int) (rq : Int) (fr : Int) (ct : Int) (bl : Int) : T (CS) :=
  .ret ⟨[.bool (A cl rq fr ct bl)], []⟩
def r39 (A : Int → Int → Int → Int → Int → Bool) (c : CS) : T (CS) := match c with
  | ⟨[.agg [.int .u64 cl, .int .u64 rq, .int .u32 fr, .int .u32 ct], .int .u32 bl], []⟩ => chkT [] (r39B A cl rq fr ct bl)
  | _ => .fail
def r13B (A : Int → Int → Int → Int → Int → Bool) (ix : Int) (tm : Int) (st : Int) (kd : Int) (cl : Int) (rq : Int) (fr : Int) (ct : Int) (d : List Nat) (nd : Int) (bh : Int) (bl : Int) (nl : Bool) (n : Nat) (f : Nat → Nat → AV) : T (Nat × CS) :=
  chkT [Nat.ble n 1000000] (.ask (allA A f bl n) (.ret (1, ⟨[.ptr 0 0, .ptr 1 0], [some (.cells [.int .u64 ix, .int .u64 tm, .int .u64 st, .int .i64 kd, .int .u64 cl, .int .u64 rq, .int .u32 fr, .int .u32 ct, .str d, .osl nl 2 0 n n 4 true] true), some (.cells [.int .i64 nd, .int .i64 bh, .int .u32 bl] true), some (.tarr shL n f false)]⟩)) (.ret (2, ⟨[.bool false], []⟩)))
def r13 (A : Int → Int → Int → Int → Int → Bool) (c : CS) : T (Nat × CS) := match c with
  | ⟨[.ptr 0 0, .ptr 1 0, .osl nl 2 0 n z_1 4 true, .int .i64 z_2, .int .i64 z_3], [some (.cells [.int .u64 ix, .int .u64 tm, .int .u64 st, .int .i64 kd, .int .u64 cl, .int .u64 rq, .int .u32 fr, .int .u32 ct, .str d, .osl z_4 2 0 z_5 z_6 4 true] true), some (.cells [.int .i64 nd, .int .i64 bh, .int .u32 bl] true), some (.tarr sh_7 z_8 f false)]⟩ => chkT [decide (n = z_1), decide ((n : Nat) = z_2), decide (0 = z_3), decide (nl = z_4), decide (n = z_5), decide (n = z_6), shBeq sh_7 shL, decide (n = z_8)] (r13B A ix tm st kd cl rq fr ct d nd bh bl nl n f)
  | _ => .fail
def r14B (A : Int → Int → Int → Int → Int → Bool) (ix : Int) (tm : Int) (st : Int) (kd : Int) (cl : Int) (rq : Int) (fr : Int) (ct : Int) (d : List Nat) (nd : Int) (bh : Int) (bl : Int) (nl : Bool) (n : Nat) (f : Nat → Nat → AV) : T (Nat × CS) :=
  chkT [Nat.ble n 1000000] (.ask (allA A f bl n) (.ret (1, ⟨[], []⟩)) (.ret (2, ⟨[.bool false], []⟩)))
def r14 (A : Int → Int → Int → Int → Int → Bool) (c : CS) : T (Nat × CS) := match c with
  | ⟨[.ptr 0 0, .ptr 1 0, .int .i64 z_1], [some (.cells [.int .u64 ix, .int .u64 tm, .int .u64 st, .int .i64 kd, .int .u64 cl, .int .u64 rq, .int .u32 fr, .int .u32 ct, .str d, .osl nl 2 0 n z_2 4 true] true), some (.cells [.int .i64 nd, .int .i64 bh, .int .u32 bl] true), some (.tarr sh_3 z_4 f false)]⟩ => chkT [decide (0 = z_1), decide (n = z_2), shBeq sh_3 shL, decide (n = z_4)] (r14B A ix tm st kd cl rq fr ct d nd bh bl nl n f)
  | _ => .fail
def r41B  (nl : Bool) (nl2 : Bool) (n : Nat) (m : Nat) (f : Nat → Nat → AV) (g : Nat → Nat → AV) : T (Nat × CS) :=
  chkT [!((n : Int) != (m : Int)), Nat.ble n 1000000] (.ask (allE f g n) (.ret (1, ⟨[], []⟩)) (.ret (2, ⟨[.bool false], []⟩)))
def r41  (c : CS) : T (Nat × CS) := match c with
  | ⟨[.osl nl 0 0 n z_1 4 true, .osl nl2 1 0 m z_2 4 true, .int .i64 z_3, .int .i64 z_4], [some (.tarr sh_5 z_6 f false), some (.tarr sh_7 z_8 g false)]⟩ => chkT [decide (n = z_1), decide (m = z_2), decide ((n : Nat) = z_3), decide (0 = z_4), shBeq sh_5 shL, decide (n = z_6), shBeq sh_7 shL, decide (m = z_8)] (r41B  nl nl2 n m f g)
  | _ => .fail
def r18B  (ix : Int) (tm : Int) (st : Int) (kd : Int) (cl : Int) (rq : Int) (fr : Int) (ct : Int) (d : List Nat) (ix2 : Int) (tm2 : Int) (st2 : Int) (kd2 : Int) (cl2 : Int) (rq2 : Int) (fr2 : Int) (ct2 : Int) (d2 : List Nat) (nl : Bool) (nl2 : Bool) (n : Nat) (m : Nat) (f : Nat → Nat → AV) (g : Nat → Nat → AV) : T (Nat × CS) :=
  chkT [!((n : Int) != (m : Int)), Nat.ble n 1000000] (.ask (allE f g n) (.ret (1, ⟨[], []⟩)) (.ret (2, ⟨[.bool false], []⟩)))
def r18  (c : CS) : T (Nat × CS) := match c with
  | ⟨[.ptr 0 0, .ptr 1 0, .int .i64 z_1], [some (.cells [.int .u64 ix, .int .u64 tm, .int .u64 st, .int .i64 kd, .int .u64 cl, .int .u64 rq, .int .u32 fr, .int .u32 ct, .str d, .osl nl 2 0 n z_2 4 true] true), some (.cells [.int .u64 ix2, .int .u64 tm2, .int .u64 st2, .int .i64 kd2, .int .u64 cl2, .int .u64 rq2, .int .u32 fr2, .int .u32 ct2, .str d2, .osl nl2 3 0 m z_3 4 true] true), some (.tarr sh_4 z_5 f false), some (.tarr sh_6 z_7 g false)]⟩ => chkT [decide (0 = z_1), decide (n = z_2), decide (m = z_3), shBeq sh_4 shL, decide (n = z_5), shBeq sh_6 shL, decide (m = z_7)] (r18B  ix tm st kd cl rq fr ct d ix2 tm2 st2 kd2 cl2 rq2 fr2 ct2 d2 nl nl2 n m f g)
  | _ => .fail
noncomputable def E2 : Env := addF (addF E1 39 ⟨frRun [] [] (r39 askP)⟩) 40 ⟨frRun [] [] (r39 askR)⟩
noncomputable def E3 : Env := addL E2 13 0 1000000 h13 x13 0 (r13 askP)
noncomputable def E4 : Env := addL E3 14 0 1000001 h14 x14 0 (r14 askR)
noncomputable def E5 : Env := addL E4 41 0 1000002 h41 x41 0 r41
noncomputable def E6 : Env := addL E5 18 0 1000003 h18 x18 0 r18
def fineP (nd : Int) (bh : Int) (bl : Int) : Bool :=
  (cond (nd == 3)
  (cond (decide (bh ≥ 1))
  (cond (decide (bh ≤ 64))
  (cond (decide (bl ≥ 1))
  (decide (bl ≤ 64))
  false)
  false)
  false)
  (cond (nd == 5)
  (cond (decide (bh ≥ 1))
  (cond (decide (bh ≤ 64))
  (cond (decide (bl ≥ 1))
  (decide (bl ≤ 64))
  false)
  false)
  false)
  (cond (nd == 7)
  (cond (decide (bh ≥ 1))
  (cond (decide (bh ≤ 64))
  (cond (decide (bl ≥ 1))
  (decide (bl ≤ 64))
  false)
  false)
  false)
  false)))
def fineR (nd : Int) (bh : Int) (bl : Int) : Bool :=
  (cond (nd == 3)
  (cond (decide (bh ≥ 1))
  (cond (decide (bh ≤ 64))
  (cond (decide (bl ≥ 1))
  (decide (bl ≤ 64))
  false)
  false)
  false)
  (cond (nd == 5)
  (cond (decide (bh ≥ 1))
  (cond (decide (bh ≤ 64))
  (cond (decide (bl ≥ 1))
  (decide (bl ≤ 64))
  false)
  false)
  false)
  (cond (nd == 7)
  (cond (decide (bh ≥ 1))
  (cond (decide (bh ≤ 64))
  (cond (decide (bl ≥ 1))
  (decide (bl ≤ 64))
  false)
  false)
  false)
  false)))
def goodP (ix : Int) (tm : Int) (st : Int) (kd : Int) (cl : Int) (rq : Int) (fr : Int) (ct : Int) (d : List Nat) (nd : Int) (bh : Int) (bl : Int) (nl : Bool) (n : Nat) (f : Nat → Nat → AV) : Bool :=
  (cond (decide (ix ≥ 1))
  (cond (decide (ix ≤ 4611686018427387840))
  (cond (decide (tm ≥ 1))
  (cond (decide (tm ≤ 4611686018427387904))
  (cond (decide (st ≥ 1))
  (cond (decide (st ≤ 4611686018427387904))
  (cond (decide ((↑n : Int) > bh))
  false
  (cond (decide (IntKind.wrap IntKind.u64 (↑n : Int) ≥ ix))
  false
  (cond (allA askP f bl n)
  (cond (kd == 1)
  (cond (askP cl rq fr ct bl)
  ((↑(List.length d) : Int) == IntKind.wrap IntKind.i64 (8 * IntKind.wrap IntKind.i64 ct))
  false)
  (cond (kd == 2)
  (cond (cl == 0 && (rq == 0 && (fr == 0 && (ct == 0 && true) && true)))
  (d == bytesOf { data := #[] })
  false)
  false))
  false)))
  false)
  false)
  false)
  false)
  false)
  false)
def goodR (ix : Int) (tm : Int) (st : Int) (kd : Int) (cl : Int) (rq : Int) (fr : Int) (ct : Int) (d : List Nat) (nd : Int) (bh : Int) (bl : Int) (nl : Bool) (n : Nat) (f : Nat → Nat → AV) : Bool :=
  (cond (decide (ix < 1))
  false
  (cond (decide (ix > 4611686018427387840))
  false
  (cond (decide (tm < 1))
  false
  (cond (decide (tm > 4611686018427387904))
  false
  (cond (decide (st < 1))
  false
  (cond (decide (st > 4611686018427387904))
  false
  (cond (kd == 1)
  (cond (askR cl rq fr ct bl)
  (cond ((↑(List.length d) : Int) != IntKind.wrap IntKind.i64 (8 * IntKind.wrap IntKind.i64 ct))
  false
  (cond (kd == 2)
  (cond (cl == 0 && (rq == 0 && (fr == 0 && (ct == 0 && true) && true)))
  (cond (d == bytesOf { data := #[] })
  (cond (kd != 1)
  (cond (kd != 2)
  false
  (cond (decide ((↑n : Int) > bh))
  false
  (cond (decide (IntKind.wrap IntKind.u64 (↑n : Int) ≥ ix))
  false
  (cond (allA askR f bl n)
  true
  false))))
  (cond (decide ((↑n : Int) > bh))
  false
  (cond (decide (IntKind.wrap IntKind.u64 (↑n : Int) ≥ ix))
  false
  (cond (allA askR f bl n)
  true
  false))))
  false)
  false)
  (cond (kd != 1)
  (cond (kd != 2)
  false
  (cond (decide ((↑n : Int) > bh))
  false
  (cond (decide (IntKind.wrap IntKind.u64 (↑n : Int) ≥ ix))
  false
  (cond (allA askR f bl n)
  true
  false))))
  (cond (decide ((↑n : Int) > bh))
  false
  (cond (decide (IntKind.wrap IntKind.u64 (↑n : Int) ≥ ix))
  false
  (cond (allA askR f bl n)
  true
  false))))))
  false)
  (cond (kd == 2)
  (cond (cl == 0 && (rq == 0 && (fr == 0 && (ct == 0 && true) && true)))
  (cond (d == bytesOf { data := #[] })
  (cond (kd != 1)
  (cond (kd != 2)
  false
  (cond (decide ((↑n : Int) > bh))
  false
  (cond (decide (IntKind.wrap IntKind.u64 (↑n : Int) ≥ ix))
  false
  (cond (allA askR f bl n)
  true
  false))))
  (cond (decide ((↑n : Int) > bh))
  false
  (cond (decide (IntKind.wrap IntKind.u64 (↑n : Int) ≥ ix))
  false
  (cond (allA askR f bl n)
  true
  false))))
  false)
  false)
  (cond (kd != 1)
  (cond (kd != 2)
  false
  (cond (decide ((↑n : Int) > bh))
  false
  (cond (decide (IntKind.wrap IntKind.u64 (↑n : Int) ≥ ix))
  false
  (cond (allA askR f bl n)
  true
  false))))
  (cond (decide ((↑n : Int) > bh))
  false
  (cond (decide (IntKind.wrap IntKind.u64 (↑n : Int) ≥ ix))
  false
  (cond (allA askR f bl n)
  true
  false))))))))))))
def sameP (ix : Int) (tm : Int) (st : Int) (kd : Int) (cl : Int) (rq : Int) (fr : Int) (ct : Int) (d : List Nat) (ix2 : Int) (tm2 : Int) (st2 : Int) (kd2 : Int) (cl2 : Int) (rq2 : Int) (fr2 : Int) (ct2 : Int) (d2 : List Nat) (nl : Bool) (nl2 : Bool) (n : Nat) (m : Nat) (f : Nat → Nat → AV) (g : Nat → Nat → AV) : Bool :=
  (cond (ix == ix2)
  (cond (tm == tm2)
  (cond (st == st2)
  (cond (kd == kd2)
  (cond (cl == cl2 && (rq == rq2 && (fr == fr2 && (ct == ct2 && true) && true)))
  (cond (d == d2)
  (cond ((↑n : Int) != (↑m : Int))
  false
  (cond (allE f g n)
  true
  false))
  false)
  false)
  false)
  false)
  false)
  false)
def sameR (ix : Int) (tm : Int) (st : Int) (kd : Int) (cl : Int) (rq : Int) (fr : Int) (ct : Int) (d : List Nat) (ix2 : Int) (tm2 : Int) (st2 : Int) (kd2 : Int) (cl2 : Int) (rq2 : Int) (fr2 : Int) (ct2 : Int) (d2 : List Nat) (nl : Bool) (nl2 : Bool) (n : Nat) (m : Nat) (f : Nat → Nat → AV) (g : Nat → Nat → AV) : Bool :=
  (cond (kd == kd2)
  (cond (cl == cl2 && (rq == rq2 && (fr == fr2 && (ct == ct2 && true) && true)))
  (cond (d == d2)
  (cond (ix != ix2)
  false
  (cond (tm != tm2)
  false
  (cond (st != st2)
  false
  (cond ((↑n : Int) != (↑m : Int))
  false
  (cond (allE f g n)
  true
  false)))))
  false)
  false)
  false)
def likeP (ix : Int) (tm : Int) (st : Int) (kd : Int) (cl : Int) (rq : Int) (fr : Int) (ct : Int) (d : List Nat) (ix2 : Int) (tm2 : Int) (st2 : Int) (kd2 : Int) (cl2 : Int) (rq2 : Int) (fr2 : Int) (ct2 : Int) (d2 : List Nat) (nl : Bool) (nl2 : Bool) (n : Nat) (m : Nat) (f : Nat → Nat → AV) (g : Nat → Nat → AV) : Bool :=
  (cond (kd == kd2)
  (cond (cl == cl2 && (rq == rq2 && (fr == fr2 && (ct == ct2 && true) && true)))
  (d == d2)
  false)
  false)
def likeR (ix : Int) (tm : Int) (st : Int) (kd : Int) (cl : Int) (rq : Int) (fr : Int) (ct : Int) (d : List Nat) (ix2 : Int) (tm2 : Int) (st2 : Int) (kd2 : Int) (cl2 : Int) (rq2 : Int) (fr2 : Int) (ct2 : Int) (d2 : List Nat) (nl : Bool) (nl2 : Bool) (n : Nat) (m : Nat) (f : Nat → Nat → AV) (g : Nat → Nat → AV) : Bool :=
  (cond (kd == kd2)
  (cond (cl == cl2 && (rq == rq2 && (fr == fr2 && (ct == ct2 && true) && true)))
  (d == d2)
  false)
  false)
def f11B  (nd : Int) (bh : Int) (bl : Int) : T (CS) :=
  .ret ⟨[.bool (fineP nd bh bl)], []⟩
def f11  (c : CS) : T (CS) := match c with
  | ⟨[.agg [.int .i64 nd, .int .i64 bh, .int .u32 bl]], []⟩ => chkT [] (f11B  nd bh bl)
  | _ => .fail
def f12B  (nd : Int) (bh : Int) (bl : Int) : T (CS) :=
  .ret ⟨[.bool (fineR nd bh bl)], []⟩
def f12  (c : CS) : T (CS) := match c with
  | ⟨[.agg [.int .i64 nd, .int .i64 bh, .int .u32 bl]], []⟩ => chkT [] (f12B  nd bh bl)
  | _ => .fail
def f13B  (ix : Int) (tm : Int) (st : Int) (kd : Int) (cl : Int) (rq : Int) (fr : Int) (ct : Int) (d : List Nat) (nd : Int) (bh : Int) (bl : Int) (nl : Bool) (n : Nat) (f : Nat → Nat → AV) : T (CS) :=
  chkT [Nat.ble n 1000000] (.ret ⟨[.bool (goodP ix tm st kd cl rq fr ct d nd bh bl nl n f)], []⟩)
def f13  (c : CS) : T (CS) := match c with
  | ⟨[.agg [.int .u64 ix, .int .u64 tm, .int .u64 st, .int .i64 kd, .int .u64 cl, .int .u64 rq, .int .u32 fr, .int .u32 ct, .str d, .osl nl 0 0 n z_1 4 true], .agg [.int .i64 nd, .int .i64 bh, .int .u32 bl]], [some (.tarr sh_2 z_3 f false)]⟩ => chkT [decide (n = z_1), shBeq sh_2 shL, decide (n = z_3)] (f13B  ix tm st kd cl rq fr ct d nd bh bl nl n f)
  | _ => .fail
def f14B  (ix : Int) (tm : Int) (st : Int) (kd : Int) (cl : Int) (rq : Int) (fr : Int) (ct : Int) (d : List Nat) (nd : Int) (bh : Int) (bl : Int) (nl : Bool) (n : Nat) (f : Nat → Nat → AV) : T (CS) :=
  chkT [Nat.ble n 1000000] (.ret ⟨[.bool (goodR ix tm st kd cl rq fr ct d nd bh bl nl n f)], []⟩)
def f14  (c : CS) : T (CS) := match c with
  | ⟨[.agg [.int .u64 ix, .int .u64 tm, .int .u64 st, .int .i64 kd, .int .u64 cl, .int .u64 rq, .int .u32 fr, .int .u32 ct, .str d, .osl nl 0 0 n z_1 4 true], .agg [.int .i64 nd, .int .i64 bh, .int .u32 bl]], [some (.tarr sh_2 z_3 f false)]⟩ => chkT [decide (n = z_1), shBeq sh_2 shL, decide (n = z_3)] (f14B  ix tm st kd cl rq fr ct d nd bh bl nl n f)
  | _ => .fail
def f17B  (ix : Int) (tm : Int) (st : Int) (kd : Int) (cl : Int) (rq : Int) (fr : Int) (ct : Int) (d : List Nat) (ix2 : Int) (tm2 : Int) (st2 : Int) (kd2 : Int) (cl2 : Int) (rq2 : Int) (fr2 : Int) (ct2 : Int) (d2 : List Nat) (nl : Bool) (nl2 : Bool) (n : Nat) (m : Nat) (f : Nat → Nat → AV) (g : Nat → Nat → AV) : T (CS) :=
  chkT [Nat.ble n 1000000] (.ret ⟨[.bool (sameP ix tm st kd cl rq fr ct d ix2 tm2 st2 kd2 cl2 rq2 fr2 ct2 d2 nl nl2 n m f g)], []⟩)
def f17  (c : CS) : T (CS) := match c with
  | ⟨[.agg [.int .u64 ix, .int .u64 tm, .int .u64 st, .int .i64 kd, .int .u64 cl, .int .u64 rq, .int .u32 fr, .int .u32 ct, .str d, .osl nl 0 0 n z_1 4 true], .agg [.int .u64 ix2, .int .u64 tm2, .int .u64 st2, .int .i64 kd2, .int .u64 cl2, .int .u64 rq2, .int .u32 fr2, .int .u32 ct2, .str d2, .osl nl2 1 0 m z_2 4 true]], [some (.tarr sh_3 z_4 f false), some (.tarr sh_5 z_6 g false)]⟩ => chkT [decide (n = z_1), decide (m = z_2), shBeq sh_3 shL, decide (n = z_4), shBeq sh_5 shL, decide (m = z_6)] (f17B  ix tm st kd cl rq fr ct d ix2 tm2 st2 kd2 cl2 rq2 fr2 ct2 d2 nl nl2 n m f g)
  | _ => .fail
def f18B  (ix : Int) (tm : Int) (st : Int) (kd : Int) (cl : Int) (rq : Int) (fr : Int) (ct : Int) (d : List Nat) (ix2 : Int) (tm2 : Int) (st2 : Int) (kd2 : Int) (cl2 : Int) (rq2 : Int) (fr2 : Int) (ct2 : Int) (d2 : List Nat) (nl : Bool) (nl2 : Bool) (n : Nat) (m : Nat) (f : Nat → Nat → AV) (g : Nat → Nat → AV) : T (CS) :=
  chkT [Nat.ble n 1000000] (.ret ⟨[.bool (sameR ix tm st kd cl rq fr ct d ix2 tm2 st2 kd2 cl2 rq2 fr2 ct2 d2 nl nl2 n m f g)], []⟩)
def f18  (c : CS) : T (CS) := match c with
  | ⟨[.agg [.int .u64 ix, .int .u64 tm, .int .u64 st, .int .i64 kd, .int .u64 cl, .int .u64 rq, .int .u32 fr, .int .u32 ct, .str d, .osl nl 0 0 n z_1 4 true], .agg [.int .u64 ix2, .int .u64 tm2, .int .u64 st2, .int .i64 kd2, .int .u64 cl2, .int .u64 rq2, .int .u32 fr2, .int .u32 ct2, .str d2, .osl nl2 1 0 m z_2 4 true]], [some (.tarr sh_3 z_4 f false), some (.tarr sh_5 z_6 g false)]⟩ => chkT [decide (n = z_1), decide (m = z_2), shBeq sh_3 shL, decide (n = z_4), shBeq sh_5 shL, decide (m = z_6)] (f18B  ix tm st kd cl rq fr ct d ix2 tm2 st2 kd2 cl2 rq2 fr2 ct2 d2 nl nl2 n m f g)
  | _ => .fail
def f19B  (ix : Int) (tm : Int) (st : Int) (kd : Int) (cl : Int) (rq : Int) (fr : Int) (ct : Int) (d : List Nat) (ix2 : Int) (tm2 : Int) (st2 : Int) (kd2 : Int) (cl2 : Int) (rq2 : Int) (fr2 : Int) (ct2 : Int) (d2 : List Nat) (nl : Bool) (nl2 : Bool) (n : Nat) (m : Nat) (f : Nat → Nat → AV) (g : Nat → Nat → AV) : T (CS) :=
  .ret ⟨[.bool (likeP ix tm st kd cl rq fr ct d ix2 tm2 st2 kd2 cl2 rq2 fr2 ct2 d2 nl nl2 n m f g)], []⟩
def f19  (c : CS) : T (CS) := match c with
  | ⟨[.agg [.int .u64 ix, .int .u64 tm, .int .u64 st, .int .i64 kd, .int .u64 cl, .int .u64 rq, .int .u32 fr, .int .u32 ct, .str d, .osl nl 0 0 n z_1 4 true], .agg [.int .u64 ix2, .int .u64 tm2, .int .u64 st2, .int .i64 kd2, .int .u64 cl2, .int .u64 rq2, .int .u32 fr2, .int .u32 ct2, .str d2, .osl nl2 1 0 m z_2 4 true]], [some (.tarr sh_3 z_4 f false), some (.tarr sh_5 z_6 g false)]⟩ => chkT [decide (n = z_1), decide (m = z_2), shBeq sh_3 shL, decide (n = z_4), shBeq sh_5 shL, decide (m = z_6)] (f19B  ix tm st kd cl rq fr ct d ix2 tm2 st2 kd2 cl2 rq2 fr2 ct2 d2 nl nl2 n m f g)
  | _ => .fail
def f20B  (ix : Int) (tm : Int) (st : Int) (kd : Int) (cl : Int) (rq : Int) (fr : Int) (ct : Int) (d : List Nat) (ix2 : Int) (tm2 : Int) (st2 : Int) (kd2 : Int) (cl2 : Int) (rq2 : Int) (fr2 : Int) (ct2 : Int) (d2 : List Nat) (nl : Bool) (nl2 : Bool) (n : Nat) (m : Nat) (f : Nat → Nat → AV) (g : Nat → Nat → AV) : T (CS) :=
  .ret ⟨[.bool (likeR ix tm st kd cl rq fr ct d ix2 tm2 st2 kd2 cl2 rq2 fr2 ct2 d2 nl nl2 n m f g)], []⟩
def f20  (c : CS) : T (CS) := match c with
  | ⟨[.agg [.int .u64 ix, .int .u64 tm, .int .u64 st, .int .i64 kd, .int .u64 cl, .int .u64 rq, .int .u32 fr, .int .u32 ct, .str d, .osl nl 0 0 n z_1 4 true], .agg [.int .u64 ix2, .int .u64 tm2, .int .u64 st2, .int .i64 kd2, .int .u64 cl2, .int .u64 rq2, .int .u32 fr2, .int .u32 ct2, .str d2, .osl nl2 1 0 m z_2 4 true]], [some (.tarr sh_3 z_4 f false), some (.tarr sh_5 z_6 g false)]⟩ => chkT [decide (n = z_1), decide (m = z_2), shBeq sh_3 shL, decide (n = z_4), shBeq sh_5 shL, decide (m = z_6)] (f20B  ix tm st kd cl rq fr ct d ix2 tm2 st2 kd2 cl2 rq2 fr2 ct2 d2 nl nl2 n m f g)
  | _ => .fail
noncomputable def E7 : Env := addF (addF (addF (addF E6 11 ⟨frRun [] [] f11⟩) 12 ⟨frRun [] [] f12⟩) 13 ⟨frRun [pE, .keep] [] f13⟩) 14 ⟨frRun [pE, .keep] [] f14⟩
noncomputable def E8 : Env := addF (addF (addF (addF (addF E7 17 ⟨frRun [pE, pE] [] f17⟩) 18 ⟨frRun [pE, pE] [] f18⟩) 19 ⟨frRun [pE, pE] [] f19⟩) 20 ⟨frRun [pE, pE] [] f20⟩) 9 livesI
noncomputable def k39 (cl : Int) (rq : Int) (fr : Int) (ct : Int) (bl : Int) (π : Plan) : Option CS := callC (E1) (1000) (39) (0) (.keep) ([]) π (a39 cl rq fr ct bl)
def k39_p : Plan := (.fork (.must true (.must true (.must true (.fork (.must true (.must true (.must true (.fork (.must true (.must true (.must true (.must true (.fork (.must true (.must true (.must true (.fork (.must true (.must true (.must true (.must true (.must true (.must true .stop)))))) (.must false (.must false (.must false (.must false (.must false (.must true .stop)))))))))) (.must false (.must false (.must false (.must false .stop))))))))) (.must false (.must false (.must false (.must false .stop)))))))) (.must false (.must false (.must false .stop))))))) (.must false (.must false (.must false .stop))))
theorem k39_is (cl : Int) (rq : Int) (fr : Int) (ct : Int) (bl : Int) : k39 cl rq fr ct bl k39_p = (cond (decide (cl ≥ 1) == true)
  (cond (decide (cl ≥ 1) == true) (cond (decide (cl ≥ 1) == true) (cond (decide (cl ≥ 1)) (cond (decide (cl ≤ 8) == true)
  (cond (decide (cl ≤ 8) == true) (cond (decide (cl ≤ 8) == true) (cond (decide (cl ≤ 8)) (cond (decide (rq > 0) == true)
  (cond (decide (rq > 0) == true) (cond (decide (rq > 0) == true) (cond (decide (rq > 0) == true) (cond (decide (rq > 0)) (cond (decide (ct ≤ 8) == true)
  (cond (decide (ct ≤ 8) == true) (cond (decide (ct ≤ 8) == true) (cond (decide (ct ≤ 8) == true) (cond (decide (ct > 0) == true)
  (cond (decide (ct > 0) == true) (cond (decide (ct > 0) == true) (cond (decide (ct > 0) == true) (cond (decide (ct > 0) == true) (cond (decide (ct > 0)) (cond (decide (ct ≤ 8)) (some (CS.mk [(AV.bool (decide (IntKind.wrap IntKind.u64 (IntKind.wrap IntKind.u64 fr + IntKind.wrap IntKind.u64 ct) ≤ IntKind.wrap IntKind.u64 bl)))] [])) none) none) none) none) none) none)
  (cond (decide (ct > 0) == true) none (cond (decide (ct > 0) == true) none (cond (decide (ct > 0) == true) none (cond (decide (ct > 0) == true) none (cond (decide (ct > 0)) none (cond (decide (ct ≤ 8)) (some (CS.mk [(AV.bool (false))] [])) none))))))) none) none) none)
  (cond (decide (ct ≤ 8) == true) none (cond (decide (ct ≤ 8) == true) none (cond (decide (ct ≤ 8) == true) none (cond (decide (ct ≤ 8)) none (some (CS.mk [(AV.bool (false))] []))))))) none) none) none) none)
  (cond (decide (rq > 0) == true) none (cond (decide (rq > 0) == true) none (cond (decide (rq > 0) == true) none (cond (decide (rq > 0)) none (some (CS.mk [(AV.bool (false))] []))))))) none) none) none)
  (cond (decide (cl ≤ 8) == true) none (cond (decide (cl ≤ 8) == true) none (cond (decide (cl ≤ 8)) none (some (CS.mk [(AV.bool (false))] [])))))) none) none) none)
  (cond (decide (cl ≥ 1) == true) none (cond (decide (cl ≥ 1) == true) none (cond (decide (cl ≥ 1)) none (some (CS.mk [(AV.bool (false))] [])))))) := by kernel_rfl
theorem k39_eq (cl : Int) (rq : Int) (fr : Int) (ct : Int) (bl : Int) : k39 cl rq fr ct bl k39_p = (cond (decide (cl ≥ 1))
  (cond (decide (cl ≤ 8))
  (cond (decide (rq > 0))
  (cond (decide (ct ≤ 8))
  (cond (decide (ct > 0))
  (some (CS.mk [(AV.bool (decide (IntKind.wrap IntKind.u64 (IntKind.wrap IntKind.u64 fr + IntKind.wrap IntKind.u64 ct) ≤ IntKind.wrap IntKind.u64 bl)))] []))
  (some (CS.mk [(AV.bool (false))] [])))
  (some (CS.mk [(AV.bool (false))] [])))
  (some (CS.mk [(AV.bool (false))] [])))
  (some (CS.mk [(AV.bool (false))] [])))
  (some (CS.mk [(AV.bool (false))] []))) := by
  rw [k39_is]
  try simp only [eq_self, decide_true, beq_self_eq_true, Nat.beq_refl, ble_self, Int.le_refl, Nat.le_refl]
  cases (decide (cl ≥ 1)) with
  | true =>
    cases (decide (cl ≤ 8)) with
    | true =>
      cases (decide (rq > 0)) with
      | true =>
        cases (decide (ct ≤ 8)) with
        | true =>
          cases (decide (ct > 0)) with
          | true =>
            rfl
          | false =>
            rfl
        | false =>
          rfl
      | false =>
        rfl
    | false =>
      rfl
  | false =>
    rfl

noncomputable def k40 (cl : Int) (rq : Int) (fr : Int) (ct : Int) (bl : Int) (π : Plan) : Option CS := callC (E1) (1000) (40) (0) (.keep) ([]) π (a39 cl rq fr ct bl)
def k40_p : Plan := (.fork (.must true (.must true (.must true (.fork (.must true (.must true (.must true (.fork (.must true (.must true (.must true (.must true (.fork (.must true (.must true (.must true (.must true (.fork (.must true (.must true (.must true (.must true .stop)))) (.must false (.must false (.must false (.must false .stop))))))))) (.must false (.must false (.must false (.must false .stop))))))))) (.must false (.must false (.must false (.must false .stop)))))))) (.must false (.must false (.must false .stop))))))) (.must false (.must false (.must false .stop))))
theorem k40_is (cl : Int) (rq : Int) (fr : Int) (ct : Int) (bl : Int) : k40 cl rq fr ct bl k40_p = (cond (decide (cl ≥ 1) == true)
  (cond (decide (cl ≥ 1) == true) (cond (decide (cl ≥ 1) == true) (cond (decide (cl ≥ 1)) (cond (decide (cl ≤ 8) == true)
  (cond (decide (cl ≤ 8) == true) (cond (decide (cl ≤ 8) == true) (cond (decide (cl ≤ 8)) (cond (decide (rq ≥ 1) == true)
  (cond (decide (rq ≥ 1) == true) (cond (decide (rq ≥ 1) == true) (cond (decide (rq ≥ 1) == true) (cond (decide (rq ≥ 1)) (cond (decide (ct ≥ 1) == true)
  (cond (decide (ct ≥ 1) == true) (cond (decide (ct ≥ 1) == true) (cond (decide (ct ≥ 1) == true) (cond (decide (ct ≥ 1)) (cond (decide (ct ≤ 8) == true)
  (cond (decide (ct ≤ 8) == true) (cond (decide (ct ≤ 8) == true) (cond (decide (ct ≤ 8) == true) (cond (decide (ct ≤ 8)) (some (CS.mk [(AV.bool (decide (IntKind.wrap IntKind.u64 (IntKind.wrap IntKind.u64 fr + IntKind.wrap IntKind.u64 ct) ≤ IntKind.wrap IntKind.u64 bl)))] [])) none) none) none) none)
  (cond (decide (ct ≤ 8) == true) none (cond (decide (ct ≤ 8) == true) none (cond (decide (ct ≤ 8) == true) none (cond (decide (ct ≤ 8)) none (some (CS.mk [(AV.bool (false))] []))))))) none) none) none) none)
  (cond (decide (ct ≥ 1) == true) none (cond (decide (ct ≥ 1) == true) none (cond (decide (ct ≥ 1) == true) none (cond (decide (ct ≥ 1)) none (some (CS.mk [(AV.bool (false))] []))))))) none) none) none) none)
  (cond (decide (rq ≥ 1) == true) none (cond (decide (rq ≥ 1) == true) none (cond (decide (rq ≥ 1) == true) none (cond (decide (rq ≥ 1)) none (some (CS.mk [(AV.bool (false))] []))))))) none) none) none)
  (cond (decide (cl ≤ 8) == true) none (cond (decide (cl ≤ 8) == true) none (cond (decide (cl ≤ 8)) none (some (CS.mk [(AV.bool (false))] [])))))) none) none) none)
  (cond (decide (cl ≥ 1) == true) none (cond (decide (cl ≥ 1) == true) none (cond (decide (cl ≥ 1)) none (some (CS.mk [(AV.bool (false))] [])))))) := by kernel_rfl
theorem k40_eq (cl : Int) (rq : Int) (fr : Int) (ct : Int) (bl : Int) : k40 cl rq fr ct bl k40_p = (cond (decide (cl ≥ 1))
  (cond (decide (cl ≤ 8))
  (cond (decide (rq ≥ 1))
  (cond (decide (ct ≥ 1))
  (cond (decide (ct ≤ 8))
  (some (CS.mk [(AV.bool (decide (IntKind.wrap IntKind.u64 (IntKind.wrap IntKind.u64 fr + IntKind.wrap IntKind.u64 ct) ≤ IntKind.wrap IntKind.u64 bl)))] []))
  (some (CS.mk [(AV.bool (false))] [])))
  (some (CS.mk [(AV.bool (false))] [])))
  (some (CS.mk [(AV.bool (false))] [])))
  (some (CS.mk [(AV.bool (false))] [])))
  (some (CS.mk [(AV.bool (false))] []))) := by
  rw [k40_is]
  try simp only [eq_self, decide_true, beq_self_eq_true, Nat.beq_refl, ble_self, Int.le_refl, Nat.le_refl]
  cases (decide (cl ≥ 1)) with
  | true =>
    cases (decide (cl ≤ 8)) with
    | true =>
      cases (decide (rq ≥ 1)) with
      | true =>
        cases (decide (ct ≥ 1)) with
        | true =>
          cases (decide (ct ≤ 8)) with
          | true =>
            rfl
          | false =>
            rfl
        | false =>
          rfl
      | false =>
        rfl
    | false =>
      rfl
  | false =>
    rfl

noncomputable def k11 (nd : Int) (bh : Int) (bl : Int) (π : Plan) : Option CS := callC (E1) (1000) (11) (0) (.keep) ([]) π (a11 nd bh bl)
def k11_p : Plan := (.fork (.fork (.must true (.must true (.must true (.fork (.must true (.must true (.must true (.fork (.must true (.must true (.must true .stop))) (.must false (.must false (.must false .stop))))))) (.must false (.must false (.must false .stop))))))) (.must false (.must false (.must false .stop)))) (.fork (.fork (.must true (.must true (.must true (.fork (.must true (.must true (.must true (.fork (.must true (.must true (.must true .stop))) (.must false (.must false (.must false .stop))))))) (.must false (.must false (.must false .stop))))))) (.must false (.must false (.must false .stop)))) (.fork (.fork (.must true (.must true (.must true (.fork (.must true (.must true (.must true (.fork (.must true (.must true (.must true .stop))) (.must false (.must false (.must false .stop))))))) (.must false (.must false (.must false .stop))))))) (.must false (.must false (.must false .stop)))) .stop)))
theorem k11_is (nd : Int) (bh : Int) (bl : Int) : k11 nd bh bl k11_p = (cond (nd == 3)
  (cond (decide (bh ≥ 1) == true)
  (cond (decide (bh ≥ 1) == true) (cond (decide (bh ≥ 1) == true) (cond (decide (bh ≥ 1)) (cond (decide (bh ≤ 64) == true)
  (cond (decide (bh ≤ 64) == true) (cond (decide (bh ≤ 64) == true) (cond (decide (bh ≤ 64)) (cond (decide (bl ≥ 1) == true)
  (cond (decide (bl ≥ 1) == true) (cond (decide (bl ≥ 1) == true) (cond (decide (bl ≥ 1)) (some (CS.mk [(AV.bool (decide (bl ≤ 64)))] [])) none) none) none)
  (cond (decide (bl ≥ 1) == true) none (cond (decide (bl ≥ 1) == true) none (cond (decide (bl ≥ 1)) none (some (CS.mk [(AV.bool (false))] [])))))) none) none) none)
  (cond (decide (bh ≤ 64) == true) none (cond (decide (bh ≤ 64) == true) none (cond (decide (bh ≤ 64)) none (some (CS.mk [(AV.bool (false))] [])))))) none) none) none)
  (cond (decide (bh ≥ 1) == true) none (cond (decide (bh ≥ 1) == true) none (cond (decide (bh ≥ 1)) none (some (CS.mk [(AV.bool (false))] []))))))
  (cond (nd == 5)
  (cond (decide (bh ≥ 1) == true)
  (cond (decide (bh ≥ 1) == true) (cond (decide (bh ≥ 1) == true) (cond (decide (bh ≥ 1)) (cond (decide (bh ≤ 64) == true)
  (cond (decide (bh ≤ 64) == true) (cond (decide (bh ≤ 64) == true) (cond (decide (bh ≤ 64)) (cond (decide (bl ≥ 1) == true)
  (cond (decide (bl ≥ 1) == true) (cond (decide (bl ≥ 1) == true) (cond (decide (bl ≥ 1)) (some (CS.mk [(AV.bool (decide (bl ≤ 64)))] [])) none) none) none)
  (cond (decide (bl ≥ 1) == true) none (cond (decide (bl ≥ 1) == true) none (cond (decide (bl ≥ 1)) none (some (CS.mk [(AV.bool (false))] [])))))) none) none) none)
  (cond (decide (bh ≤ 64) == true) none (cond (decide (bh ≤ 64) == true) none (cond (decide (bh ≤ 64)) none (some (CS.mk [(AV.bool (false))] [])))))) none) none) none)
  (cond (decide (bh ≥ 1) == true) none (cond (decide (bh ≥ 1) == true) none (cond (decide (bh ≥ 1)) none (some (CS.mk [(AV.bool (false))] []))))))
  (cond (nd == 7)
  (cond (decide (bh ≥ 1) == true)
  (cond (decide (bh ≥ 1) == true) (cond (decide (bh ≥ 1) == true) (cond (decide (bh ≥ 1)) (cond (decide (bh ≤ 64) == true)
  (cond (decide (bh ≤ 64) == true) (cond (decide (bh ≤ 64) == true) (cond (decide (bh ≤ 64)) (cond (decide (bl ≥ 1) == true)
  (cond (decide (bl ≥ 1) == true) (cond (decide (bl ≥ 1) == true) (cond (decide (bl ≥ 1)) (some (CS.mk [(AV.bool (decide (bl ≤ 64)))] [])) none) none) none)
  (cond (decide (bl ≥ 1) == true) none (cond (decide (bl ≥ 1) == true) none (cond (decide (bl ≥ 1)) none (some (CS.mk [(AV.bool (false))] [])))))) none) none) none)
  (cond (decide (bh ≤ 64) == true) none (cond (decide (bh ≤ 64) == true) none (cond (decide (bh ≤ 64)) none (some (CS.mk [(AV.bool (false))] [])))))) none) none) none)
  (cond (decide (bh ≥ 1) == true) none (cond (decide (bh ≥ 1) == true) none (cond (decide (bh ≥ 1)) none (some (CS.mk [(AV.bool (false))] []))))))
  (some (CS.mk [(AV.bool (false))] []))))) := by kernel_rfl
theorem k11_eq (nd : Int) (bh : Int) (bl : Int) : k11 nd bh bl k11_p = (cond (nd == 3)
  (cond (decide (bh ≥ 1))
  (cond (decide (bh ≤ 64))
  (cond (decide (bl ≥ 1))
  (some (CS.mk [(AV.bool (decide (bl ≤ 64)))] []))
  (some (CS.mk [(AV.bool (false))] [])))
  (some (CS.mk [(AV.bool (false))] [])))
  (some (CS.mk [(AV.bool (false))] [])))
  (cond (nd == 5)
  (cond (decide (bh ≥ 1))
  (cond (decide (bh ≤ 64))
  (cond (decide (bl ≥ 1))
  (some (CS.mk [(AV.bool (decide (bl ≤ 64)))] []))
  (some (CS.mk [(AV.bool (false))] [])))
  (some (CS.mk [(AV.bool (false))] [])))
  (some (CS.mk [(AV.bool (false))] [])))
  (cond (nd == 7)
  (cond (decide (bh ≥ 1))
  (cond (decide (bh ≤ 64))
  (cond (decide (bl ≥ 1))
  (some (CS.mk [(AV.bool (decide (bl ≤ 64)))] []))
  (some (CS.mk [(AV.bool (false))] [])))
  (some (CS.mk [(AV.bool (false))] [])))
  (some (CS.mk [(AV.bool (false))] [])))
  (some (CS.mk [(AV.bool (false))] []))))) := by
  rw [k11_is]
  try simp only [eq_self, decide_true, beq_self_eq_true, Nat.beq_refl, ble_self, Int.le_refl, Nat.le_refl]
  cases (nd == 3) with
  | true =>
    cases (decide (bh ≥ 1)) with
    | true =>
      cases (decide (bh ≤ 64)) with
      | true =>
        cases (decide (bl ≥ 1)) with
        | true =>
          rfl
        | false =>
          rfl
      | false =>
        rfl
    | false =>
      rfl
  | false =>
    cases (nd == 5) with
    | true =>
      cases (decide (bh ≥ 1)) with
      | true =>
        cases (decide (bh ≤ 64)) with
        | true =>
          cases (decide (bl ≥ 1)) with
          | true =>
            rfl
          | false =>
            rfl
        | false =>
          rfl
      | false =>
        rfl
    | false =>
      cases (nd == 7) with
      | true =>
        cases (decide (bh ≥ 1)) with
        | true =>
          cases (decide (bh ≤ 64)) with
          | true =>
            cases (decide (bl ≥ 1)) with
            | true =>
              rfl
            | false =>
              rfl
          | false =>
            rfl
        | false =>
          rfl
      | false =>
        rfl

noncomputable def k12 (nd : Int) (bh : Int) (bl : Int) (π : Plan) : Option CS := callC (E1) (1000) (12) (0) (.keep) ([]) π (a11 nd bh bl)
def k12_p : Plan := (.fork (.must true (.must true (.must false (.fork (.must true (.must true (.must false (.fork (.must true (.must true (.must true (.fork (.must true (.must true (.must true (.fork (.must true (.must true (.must true (.fork (.must true (.must true (.must true .stop))) (.must false (.must false (.must false .stop))))))) (.must false (.must false (.must false .stop))))))) (.must false (.must false (.must false .stop))))))) (.must false (.must false (.must false .stop))))))) (.must false (.must false (.must true (.reck 4 (.fork (.must true (.must true (.must true (.fork (.must true (.must true (.must true (.fork (.must true (.must true (.must true .stop))) (.must false (.must false (.must false .stop))))))) (.must false (.must false (.must false .stop))))))) (.must false (.must false (.must false .stop)))))))))))) (.must false (.must false (.must true (.reck 8 (.fork (.must true (.must true (.must true (.fork (.must true (.must true (.must true (.fork (.must true (.must true (.must true .stop))) (.must false (.must false (.must false .stop))))))) (.must false (.must false (.must false .stop))))))) (.must false (.must false (.must false .stop)))))))))
theorem k12_is (nd : Int) (bh : Int) (bl : Int) : k12 nd bh bl k12_p = (cond ((nd == 3) == false)
  (cond ((nd == 3) == false) (cond ((nd == 3) == false) (cond (nd == 3) none (cond ((nd == 5) == false)
  (cond ((nd == 5) == false) (cond ((nd == 5) == false) (cond (nd == 5) none (cond ((nd == 7) == true)
  (cond ((nd == 7) == true) (cond ((nd == 7) == true) (cond (nd == 7) (cond (decide (bh ≥ 1) == true)
  (cond (decide (bh ≥ 1) == true) (cond (decide (bh ≥ 1) == true) (cond (decide (bh ≥ 1)) (cond (decide (bh ≤ 64) == true)
  (cond (decide (bh ≤ 64) == true) (cond (decide (bh ≤ 64) == true) (cond (decide (bh ≤ 64)) (cond (decide (bl ≥ 1) == true)
  (cond (decide (bl ≥ 1) == true) (cond (decide (bl ≥ 1) == true) (cond (decide (bl ≥ 1)) (some (CS.mk [(AV.bool (decide (bl ≤ 64)))] [])) none) none) none)
  (cond (decide (bl ≥ 1) == true) none (cond (decide (bl ≥ 1) == true) none (cond (decide (bl ≥ 1)) none (some (CS.mk [(AV.bool (false))] [])))))) none) none) none)
  (cond (decide (bh ≤ 64) == true) none (cond (decide (bh ≤ 64) == true) none (cond (decide (bh ≤ 64)) none (some (CS.mk [(AV.bool (false))] [])))))) none) none) none)
  (cond (decide (bh ≥ 1) == true) none (cond (decide (bh ≥ 1) == true) none (cond (decide (bh ≥ 1)) none (some (CS.mk [(AV.bool (false))] [])))))) none) none) none)
  (cond ((nd == 7) == true) none (cond ((nd == 7) == true) none (cond (nd == 7) none (some (CS.mk [(AV.bool (false))] []))))))) none) none)
  (cond ((nd == 5) == false) none (cond ((nd == 5) == false) none (cond (nd == 5) (cond (decide (bh ≥ 1) == true)
  (cond (decide (bh ≥ 1) == true) (cond (decide (bh ≥ 1) == true) (cond (decide (bh ≥ 1)) (cond (decide (bh ≤ 64) == true)
  (cond (decide (bh ≤ 64) == true) (cond (decide (bh ≤ 64) == true) (cond (decide (bh ≤ 64)) (cond (decide (bl ≥ 1) == true)
  (cond (decide (bl ≥ 1) == true) (cond (decide (bl ≥ 1) == true) (cond (decide (bl ≥ 1)) (some (CS.mk [(AV.bool (decide (bl ≤ 64)))] [])) none) none) none)
  (cond (decide (bl ≥ 1) == true) none (cond (decide (bl ≥ 1) == true) none (cond (decide (bl ≥ 1)) none (some (CS.mk [(AV.bool (false))] [])))))) none) none) none)
  (cond (decide (bh ≤ 64) == true) none (cond (decide (bh ≤ 64) == true) none (cond (decide (bh ≤ 64)) none (some (CS.mk [(AV.bool (false))] [])))))) none) none) none)
  (cond (decide (bh ≥ 1) == true) none (cond (decide (bh ≥ 1) == true) none (cond (decide (bh ≥ 1)) none (some (CS.mk [(AV.bool (false))] [])))))) none))))) none) none)
  (cond ((nd == 3) == false) none (cond ((nd == 3) == false) none (cond (nd == 3) (cond (decide (bh ≥ 1) == true)
  (cond (decide (bh ≥ 1) == true) (cond (decide (bh ≥ 1) == true) (cond (decide (bh ≥ 1)) (cond (decide (bh ≤ 64) == true)
  (cond (decide (bh ≤ 64) == true) (cond (decide (bh ≤ 64) == true) (cond (decide (bh ≤ 64)) (cond (decide (bl ≥ 1) == true)
  (cond (decide (bl ≥ 1) == true) (cond (decide (bl ≥ 1) == true) (cond (decide (bl ≥ 1)) (some (CS.mk [(AV.bool (decide (bl ≤ 64)))] [])) none) none) none)
  (cond (decide (bl ≥ 1) == true) none (cond (decide (bl ≥ 1) == true) none (cond (decide (bl ≥ 1)) none (some (CS.mk [(AV.bool (false))] [])))))) none) none) none)
  (cond (decide (bh ≤ 64) == true) none (cond (decide (bh ≤ 64) == true) none (cond (decide (bh ≤ 64)) none (some (CS.mk [(AV.bool (false))] [])))))) none) none) none)
  (cond (decide (bh ≥ 1) == true) none (cond (decide (bh ≥ 1) == true) none (cond (decide (bh ≥ 1)) none (some (CS.mk [(AV.bool (false))] [])))))) none)))) := by kernel_rfl
theorem k12_eq (nd : Int) (bh : Int) (bl : Int) : k12 nd bh bl k12_p = (cond (nd == 3)
  (cond (decide (bh ≥ 1))
  (cond (decide (bh ≤ 64))
  (cond (decide (bl ≥ 1))
  (some (CS.mk [(AV.bool (decide (bl ≤ 64)))] []))
  (some (CS.mk [(AV.bool (false))] [])))
  (some (CS.mk [(AV.bool (false))] [])))
  (some (CS.mk [(AV.bool (false))] [])))
  (cond (nd == 5)
  (cond (decide (bh ≥ 1))
  (cond (decide (bh ≤ 64))
  (cond (decide (bl ≥ 1))
  (some (CS.mk [(AV.bool (decide (bl ≤ 64)))] []))
  (some (CS.mk [(AV.bool (false))] [])))
  (some (CS.mk [(AV.bool (false))] [])))
  (some (CS.mk [(AV.bool (false))] [])))
  (cond (nd == 7)
  (cond (decide (bh ≥ 1))
  (cond (decide (bh ≤ 64))
  (cond (decide (bl ≥ 1))
  (some (CS.mk [(AV.bool (decide (bl ≤ 64)))] []))
  (some (CS.mk [(AV.bool (false))] [])))
  (some (CS.mk [(AV.bool (false))] [])))
  (some (CS.mk [(AV.bool (false))] [])))
  (some (CS.mk [(AV.bool (false))] []))))) := by
  rw [k12_is]
  try simp only [eq_self, decide_true, beq_self_eq_true, Nat.beq_refl, ble_self, Int.le_refl, Nat.le_refl]
  cases (nd == 3) with
  | true =>
    cases (decide (bh ≥ 1)) with
    | true =>
      cases (decide (bh ≤ 64)) with
      | true =>
        cases (decide (bl ≥ 1)) with
        | true =>
          rfl
        | false =>
          rfl
      | false =>
        rfl
    | false =>
      rfl
  | false =>
    cases (nd == 5) with
    | true =>
      cases (decide (bh ≥ 1)) with
      | true =>
        cases (decide (bh ≤ 64)) with
        | true =>
          cases (decide (bl ≥ 1)) with
          | true =>
            rfl
          | false =>
            rfl
        | false =>
          rfl
      | false =>
        rfl
    | false =>
      cases (nd == 7) with
      | true =>
        cases (decide (bh ≥ 1)) with
        | true =>
          cases (decide (bh ≤ 64)) with
          | true =>
            cases (decide (bl ≥ 1)) with
            | true =>
              rfl
            | false =>
              rfl
          | false =>
            rfl
        | false =>
          rfl
      | false =>
        rfl

noncomputable def s13 (ix : Int) (tm : Int) (st : Int) (kd : Int) (cl : Int) (rq : Int) (fr : Int) (ct : Int) (d : List Nat) (nd : Int) (bh : Int) (bl : Int) (nl : Bool) (n : Nat) (f : Nat → Nat → AV) (i : Nat) (π : Plan) : Option (Nat × CS) := stepC (E2) (300) (loopC E2 13 0) (0) (h13) ((.normal, h13) :: x13) π (c13 ix tm st kd cl rq fr ct d nd bh bl nl n f i)
def s13_p : Plan := (.fork (.reck 1 (.must true (.fork (.fork (.must true (.must true (.must true (.must true (.must true (.fork .stop .stop)))))) (.must false (.must false (.must false (.must false (.must false .stop)))))) .stop))) .stop)
theorem s13_is (ix : Int) (tm : Int) (st : Int) (kd : Int) (cl : Int) (rq : Int) (fr : Int) (ct : Int) (d : List Nat) (nd : Int) (bh : Int) (bl : Int) (nl : Bool) (n : Nat) (f : Nat → Nat → AV) (i : Nat) : s13 ix tm st kd cl rq fr ct d nd bh bl nl n f i s13_p = (cond (decide ((↑i : Int) < (↑n : Int)))
  (cond (decide ((↑i : Int) < (↑n : Int))) (cond (Nat.blt (0 + Int.toNat (↑i : Int)) n)
  (cond ((!(AV.toI (f (0 + Int.toNat (↑i : Int)) 0) == 0 && (AV.toI (f (0 + Int.toNat (↑i : Int)) (Nat.succ 0)) == 0 && (AV.toI (f (0 + Int.toNat (↑i : Int)) (Nat.succ (Nat.succ 0))) == 0 && (AV.toI (f (0 + Int.toNat (↑i : Int)) (Nat.succ (Nat.succ (Nat.succ 0)))) == 0 && true) && true)))) == true)
  (cond ((!(AV.toI (f (0 + Int.toNat (↑i : Int)) 0) == 0 && (AV.toI (f (0 + Int.toNat (↑i : Int)) (Nat.succ 0)) == 0 && (AV.toI (f (0 + Int.toNat (↑i : Int)) (Nat.succ (Nat.succ 0))) == 0 && (AV.toI (f (0 + Int.toNat (↑i : Int)) (Nat.succ (Nat.succ (Nat.succ 0)))) == 0 && true) && true)))) == true) (cond ((!(AV.toI (f (0 + Int.toNat (↑i : Int)) 0) == 0 && (AV.toI (f (0 + Int.toNat (↑i : Int)) (Nat.succ 0)) == 0 && (AV.toI (f (0 + Int.toNat (↑i : Int)) (Nat.succ (Nat.succ 0))) == 0 && (AV.toI (f (0 + Int.toNat (↑i : Int)) (Nat.succ (Nat.succ (Nat.succ 0)))) == 0 && true) && true)))) == true) (cond ((!(AV.toI (f (0 + Int.toNat (↑i : Int)) 0) == 0 && (AV.toI (f (0 + Int.toNat (↑i : Int)) (Nat.succ 0)) == 0 && (AV.toI (f (0 + Int.toNat (↑i : Int)) (Nat.succ (Nat.succ 0))) == 0 && (AV.toI (f (0 + Int.toNat (↑i : Int)) (Nat.succ (Nat.succ (Nat.succ 0)))) == 0 && true) && true)))) == true) (cond ((!(AV.toI (f (0 + Int.toNat (↑i : Int)) 0) == 0 && (AV.toI (f (0 + Int.toNat (↑i : Int)) (Nat.succ 0)) == 0 && (AV.toI (f (0 + Int.toNat (↑i : Int)) (Nat.succ (Nat.succ 0))) == 0 && (AV.toI (f (0 + Int.toNat (↑i : Int)) (Nat.succ (Nat.succ (Nat.succ 0)))) == 0 && true) && true)))) == true) (cond (!(AV.toI (f (0 + Int.toNat (↑i : Int)) 0) == 0 && (AV.toI (f (0 + Int.toNat (↑i : Int)) (Nat.succ 0)) == 0 && (AV.toI (f (0 + Int.toNat (↑i : Int)) (Nat.succ (Nat.succ 0))) == 0 && (AV.toI (f (0 + Int.toNat (↑i : Int)) (Nat.succ (Nat.succ (Nat.succ 0)))) == 0 && true) && true)))) (cond (!askP (AV.toI (f (0 + Int.toNat (↑i : Int)) 0)) (AV.toI (f (0 + Int.toNat (↑i : Int)) (Nat.succ 0))) (AV.toI (f (0 + Int.toNat (↑i : Int)) (Nat.succ (Nat.succ 0)))) (AV.toI (f (0 + Int.toNat (↑i : Int)) (Nat.succ (Nat.succ (Nat.succ 0))))) bl)
  (some (2, (CS.mk [(AV.bool (false))] [])))
  (some (0, (CS.mk [(AV.ptr (0) (0)), (AV.ptr (1) (0)), (AV.osl (nl) (2) (0) (n) (n) (4) (true)), (AV.int IntKind.i64 ((↑n : Int))), (AV.int IntKind.i64 (IntKind.wrap IntKind.i64 ((↑i : Int) + 1)))] [some (AObj.cells [(AV.int IntKind.u64 (ix)), (AV.int IntKind.u64 (tm)), (AV.int IntKind.u64 (st)), (AV.int IntKind.i64 (kd)), (AV.int IntKind.u64 (cl)), (AV.int IntKind.u64 (rq)), (AV.int IntKind.u32 (fr)), (AV.int IntKind.u32 (ct)), (AV.str (d)), (AV.osl (nl) (2) (0) (n) (n) (4) (true))] true), some (AObj.cells [(AV.int IntKind.i64 (nd)), (AV.int IntKind.i64 (bh)), (AV.int IntKind.u32 (bl))] true), some (AObj.tarr [Sh.int IntKind.u64, Sh.int IntKind.u64, Sh.int IntKind.u32, Sh.int IntKind.u32] (n) f false)])))) none) none) none) none) none)
  (cond ((!(AV.toI (f (0 + Int.toNat (↑i : Int)) 0) == 0 && (AV.toI (f (0 + Int.toNat (↑i : Int)) (Nat.succ 0)) == 0 && (AV.toI (f (0 + Int.toNat (↑i : Int)) (Nat.succ (Nat.succ 0))) == 0 && (AV.toI (f (0 + Int.toNat (↑i : Int)) (Nat.succ (Nat.succ (Nat.succ 0)))) == 0 && true) && true)))) == true) none (cond ((!(AV.toI (f (0 + Int.toNat (↑i : Int)) 0) == 0 && (AV.toI (f (0 + Int.toNat (↑i : Int)) (Nat.succ 0)) == 0 && (AV.toI (f (0 + Int.toNat (↑i : Int)) (Nat.succ (Nat.succ 0))) == 0 && (AV.toI (f (0 + Int.toNat (↑i : Int)) (Nat.succ (Nat.succ (Nat.succ 0)))) == 0 && true) && true)))) == true) none (cond ((!(AV.toI (f (0 + Int.toNat (↑i : Int)) 0) == 0 && (AV.toI (f (0 + Int.toNat (↑i : Int)) (Nat.succ 0)) == 0 && (AV.toI (f (0 + Int.toNat (↑i : Int)) (Nat.succ (Nat.succ 0))) == 0 && (AV.toI (f (0 + Int.toNat (↑i : Int)) (Nat.succ (Nat.succ (Nat.succ 0)))) == 0 && true) && true)))) == true) none (cond ((!(AV.toI (f (0 + Int.toNat (↑i : Int)) 0) == 0 && (AV.toI (f (0 + Int.toNat (↑i : Int)) (Nat.succ 0)) == 0 && (AV.toI (f (0 + Int.toNat (↑i : Int)) (Nat.succ (Nat.succ 0))) == 0 && (AV.toI (f (0 + Int.toNat (↑i : Int)) (Nat.succ (Nat.succ (Nat.succ 0)))) == 0 && true) && true)))) == true) none (cond (!(AV.toI (f (0 + Int.toNat (↑i : Int)) 0) == 0 && (AV.toI (f (0 + Int.toNat (↑i : Int)) (Nat.succ 0)) == 0 && (AV.toI (f (0 + Int.toNat (↑i : Int)) (Nat.succ (Nat.succ 0))) == 0 && (AV.toI (f (0 + Int.toNat (↑i : Int)) (Nat.succ (Nat.succ (Nat.succ 0)))) == 0 && true) && true)))) none (some (0, (CS.mk [(AV.ptr (0) (0)), (AV.ptr (1) (0)), (AV.osl (nl) (2) (0) (n) (n) (4) (true)), (AV.int IntKind.i64 ((↑n : Int))), (AV.int IntKind.i64 (IntKind.wrap IntKind.i64 ((↑i : Int) + 1)))] [some (AObj.cells [(AV.int IntKind.u64 (ix)), (AV.int IntKind.u64 (tm)), (AV.int IntKind.u64 (st)), (AV.int IntKind.i64 (kd)), (AV.int IntKind.u64 (cl)), (AV.int IntKind.u64 (rq)), (AV.int IntKind.u32 (fr)), (AV.int IntKind.u32 (ct)), (AV.str (d)), (AV.osl (nl) (2) (0) (n) (n) (4) (true))] true), some (AObj.cells [(AV.int IntKind.i64 (nd)), (AV.int IntKind.i64 (bh)), (AV.int IntKind.u32 (bl))] true), some (AObj.tarr [Sh.int IntKind.u64, Sh.int IntKind.u64, Sh.int IntKind.u32, Sh.int IntKind.u32] (n) f false)])))))))))
  none) none)
  (some (1, (CS.mk [(AV.ptr (0) (0)), (AV.ptr (1) (0))] [some (AObj.cells [(AV.int IntKind.u64 (ix)), (AV.int IntKind.u64 (tm)), (AV.int IntKind.u64 (st)), (AV.int IntKind.i64 (kd)), (AV.int IntKind.u64 (cl)), (AV.int IntKind.u64 (rq)), (AV.int IntKind.u32 (fr)), (AV.int IntKind.u32 (ct)), (AV.str (d)), (AV.osl (nl) (2) (0) (n) (n) (4) (true))] true), some (AObj.cells [(AV.int IntKind.i64 (nd)), (AV.int IntKind.i64 (bh)), (AV.int IntKind.u32 (bl))] true), some (AObj.tarr [Sh.int IntKind.u64, Sh.int IntKind.u64, Sh.int IntKind.u32, Sh.int IntKind.u32] (n) f false)])))) := by kernel_rfl
theorem s13_eq (ix : Int) (tm : Int) (st : Int) (kd : Int) (cl : Int) (rq : Int) (fr : Int) (ct : Int) (d : List Nat) (nd : Int) (bh : Int) (bl : Int) (nl : Bool) (n : Nat) (f : Nat → Nat → AV) (i : Nat) : s13 ix tm st kd cl rq fr ct d nd bh bl nl n f i s13_p = (cond (decide ((↑i : Int) < (↑n : Int)))
  (cond (Nat.blt (0 + Int.toNat (↑i : Int)) n)
  (cond (AV.toI (f (0 + Int.toNat (↑i : Int)) 0) == 0 && (AV.toI (f (0 + Int.toNat (↑i : Int)) (Nat.succ 0)) == 0 && (AV.toI (f (0 + Int.toNat (↑i : Int)) (Nat.succ (Nat.succ 0))) == 0 && (AV.toI (f (0 + Int.toNat (↑i : Int)) (Nat.succ (Nat.succ (Nat.succ 0)))) == 0 && true) && true)))
  (some (0, (CS.mk [(AV.ptr (0) (0)), (AV.ptr (1) (0)), (AV.osl (nl) (2) (0) (n) (n) (4) (true)), (AV.int IntKind.i64 ((↑n : Int))), (AV.int IntKind.i64 (IntKind.wrap IntKind.i64 ((↑i : Int) + 1)))] [some (AObj.cells [(AV.int IntKind.u64 (ix)), (AV.int IntKind.u64 (tm)), (AV.int IntKind.u64 (st)), (AV.int IntKind.i64 (kd)), (AV.int IntKind.u64 (cl)), (AV.int IntKind.u64 (rq)), (AV.int IntKind.u32 (fr)), (AV.int IntKind.u32 (ct)), (AV.str (d)), (AV.osl (nl) (2) (0) (n) (n) (4) (true))] true), some (AObj.cells [(AV.int IntKind.i64 (nd)), (AV.int IntKind.i64 (bh)), (AV.int IntKind.u32 (bl))] true), some (AObj.tarr [Sh.int IntKind.u64, Sh.int IntKind.u64, Sh.int IntKind.u32, Sh.int IntKind.u32] (n) f false)])))
  (cond (askP (AV.toI (f (0 + Int.toNat (↑i : Int)) 0)) (AV.toI (f (0 + Int.toNat (↑i : Int)) (Nat.succ 0))) (AV.toI (f (0 + Int.toNat (↑i : Int)) (Nat.succ (Nat.succ 0)))) (AV.toI (f (0 + Int.toNat (↑i : Int)) (Nat.succ (Nat.succ (Nat.succ 0))))) bl)
  (some (0, (CS.mk [(AV.ptr (0) (0)), (AV.ptr (1) (0)), (AV.osl (nl) (2) (0) (n) (n) (4) (true)), (AV.int IntKind.i64 ((↑n : Int))), (AV.int IntKind.i64 (IntKind.wrap IntKind.i64 ((↑i : Int) + 1)))] [some (AObj.cells [(AV.int IntKind.u64 (ix)), (AV.int IntKind.u64 (tm)), (AV.int IntKind.u64 (st)), (AV.int IntKind.i64 (kd)), (AV.int IntKind.u64 (cl)), (AV.int IntKind.u64 (rq)), (AV.int IntKind.u32 (fr)), (AV.int IntKind.u32 (ct)), (AV.str (d)), (AV.osl (nl) (2) (0) (n) (n) (4) (true))] true), some (AObj.cells [(AV.int IntKind.i64 (nd)), (AV.int IntKind.i64 (bh)), (AV.int IntKind.u32 (bl))] true), some (AObj.tarr [Sh.int IntKind.u64, Sh.int IntKind.u64, Sh.int IntKind.u32, Sh.int IntKind.u32] (n) f false)])))
  (some (2, (CS.mk [(AV.bool (false))] [])))))
  none)
  (some (1, (CS.mk [(AV.ptr (0) (0)), (AV.ptr (1) (0))] [some (AObj.cells [(AV.int IntKind.u64 (ix)), (AV.int IntKind.u64 (tm)), (AV.int IntKind.u64 (st)), (AV.int IntKind.i64 (kd)), (AV.int IntKind.u64 (cl)), (AV.int IntKind.u64 (rq)), (AV.int IntKind.u32 (fr)), (AV.int IntKind.u32 (ct)), (AV.str (d)), (AV.osl (nl) (2) (0) (n) (n) (4) (true))] true), some (AObj.cells [(AV.int IntKind.i64 (nd)), (AV.int IntKind.i64 (bh)), (AV.int IntKind.u32 (bl))] true), some (AObj.tarr [Sh.int IntKind.u64, Sh.int IntKind.u64, Sh.int IntKind.u32, Sh.int IntKind.u32] (n) f false)])))) := by
  rw [s13_is]
  try simp only [eq_self, decide_true, beq_self_eq_true, Nat.beq_refl, ble_self, Int.le_refl, Nat.le_refl]
  cases (decide ((↑i : Int) < (↑n : Int))) with
  | true =>
    cases (Nat.blt (0 + Int.toNat (↑i : Int)) n) with
    | true =>
      cases (AV.toI (f (0 + Int.toNat (↑i : Int)) 0) == 0 && (AV.toI (f (0 + Int.toNat (↑i : Int)) (Nat.succ 0)) == 0 && (AV.toI (f (0 + Int.toNat (↑i : Int)) (Nat.succ (Nat.succ 0))) == 0 && (AV.toI (f (0 + Int.toNat (↑i : Int)) (Nat.succ (Nat.succ (Nat.succ 0)))) == 0 && true) && true))) with
      | true =>
        rfl
      | false =>
        cases (askP (AV.toI (f (0 + Int.toNat (↑i : Int)) 0)) (AV.toI (f (0 + Int.toNat (↑i : Int)) (Nat.succ 0))) (AV.toI (f (0 + Int.toNat (↑i : Int)) (Nat.succ (Nat.succ 0)))) (AV.toI (f (0 + Int.toNat (↑i : Int)) (Nat.succ (Nat.succ (Nat.succ 0))))) bl) with
        | true =>
          rfl
        | false =>
          rfl
    | false =>
      rfl
  | false =>
    rfl

noncomputable def s14 (ix : Int) (tm : Int) (st : Int) (kd : Int) (cl : Int) (rq : Int) (fr : Int) (ct : Int) (d : List Nat) (nd : Int) (bh : Int) (bl : Int) (nl : Bool) (n : Nat) (f : Nat → Nat → AV) (i : Nat) (π : Plan) : Option (Nat × CS) := stepC (E3) (300) (loopC E3 14 0) (0) (h14) ((.normal, h14) :: x14) π (c14 ix tm st kd cl rq fr ct d nd bh bl nl n f i)
def s14_p : Plan := (.fork (.reck 1 (.must true (.fork (.fork (.must true (.must true (.must true (.reck 1 (.must true (.must true (.must true (.must true (.must true (.must true (.must true (.must true (.must true (.must true (.must true (.must true (.must true (.must true (.must true (.reck 1 (.must true (.must true (.must true (.must true (.must true (.must true (.must true (.must true (.reck 1 (.must true (.must true (.fork .stop .stop)))))))))))))))))))))))))))))))) (.must false (.must false (.must false (.must false (.must false (.must false (.must false (.must false (.must false (.must true (.must true (.must true (.must true (.must true (.must true (.reck 1 (.must true (.must true .stop))))))))))))))))))) .stop))) .stop)
theorem s14_is (ix : Int) (tm : Int) (st : Int) (kd : Int) (cl : Int) (rq : Int) (fr : Int) (ct : Int) (d : List Nat) (nd : Int) (bh : Int) (bl : Int) (nl : Bool) (n : Nat) (f : Nat → Nat → AV) (i : Nat) : s14 ix tm st kd cl rq fr ct d nd bh bl nl n f i s14_p = (cond (decide ((↑i : Int) < (↑n : Int)))
  (cond (decide ((↑i : Int) < (↑n : Int))) (cond (Nat.blt (0 + Int.toNat (↑i : Int)) n)
  (cond ((!(AV.toI (f (0 + Int.toNat (↑i : Int)) 0) == 0 && (AV.toI (f (0 + Int.toNat (↑i : Int)) (Nat.succ 0)) == 0 && (AV.toI (f (0 + Int.toNat (↑i : Int)) (Nat.succ (Nat.succ 0))) == 0 && (AV.toI (f (0 + Int.toNat (↑i : Int)) (Nat.succ (Nat.succ (Nat.succ 0)))) == 0 && true) && true)))) == true)
  (cond ((!(AV.toI (f (0 + Int.toNat (↑i : Int)) 0) == 0 && (AV.toI (f (0 + Int.toNat (↑i : Int)) (Nat.succ 0)) == 0 && (AV.toI (f (0 + Int.toNat (↑i : Int)) (Nat.succ (Nat.succ 0))) == 0 && (AV.toI (f (0 + Int.toNat (↑i : Int)) (Nat.succ (Nat.succ (Nat.succ 0)))) == 0 && true) && true)))) == true) (cond ((!(AV.toI (f (0 + Int.toNat (↑i : Int)) 0) == 0 && (AV.toI (f (0 + Int.toNat (↑i : Int)) (Nat.succ 0)) == 0 && (AV.toI (f (0 + Int.toNat (↑i : Int)) (Nat.succ (Nat.succ 0))) == 0 && (AV.toI (f (0 + Int.toNat (↑i : Int)) (Nat.succ (Nat.succ (Nat.succ 0)))) == 0 && true) && true)))) == true) (cond ((!(AV.toI (f (0 + Int.toNat (↑i : Int)) 0) == 0 && (AV.toI (f (0 + Int.toNat (↑i : Int)) (Nat.succ 0)) == 0 && (AV.toI (f (0 + Int.toNat (↑i : Int)) (Nat.succ (Nat.succ 0))) == 0 && (AV.toI (f (0 + Int.toNat (↑i : Int)) (Nat.succ (Nat.succ (Nat.succ 0)))) == 0 && true) && true)))) == true) (cond (decide ((↑i : Int) < (↑n : Int))) (cond ((!(AV.toI (f (0 + Int.toNat (↑i : Int)) 0) == 0 && (AV.toI (f (0 + Int.toNat (↑i : Int)) (Nat.succ 0)) == 0 && (AV.toI (f (0 + Int.toNat (↑i : Int)) (Nat.succ (Nat.succ 0))) == 0 && (AV.toI (f (0 + Int.toNat (↑i : Int)) (Nat.succ (Nat.succ (Nat.succ 0)))) == 0 && true) && true)))) == true) (cond (Nat.blt (0 + Int.toNat (↑i : Int)) n) (cond ((!(AV.toI (f (0 + Int.toNat (↑i : Int)) 0) == 0 && (AV.toI (f (0 + Int.toNat (↑i : Int)) (Nat.succ 0)) == 0 && (AV.toI (f (0 + Int.toNat (↑i : Int)) (Nat.succ (Nat.succ 0))) == 0 && (AV.toI (f (0 + Int.toNat (↑i : Int)) (Nat.succ (Nat.succ (Nat.succ 0)))) == 0 && true) && true)))) == true) (cond ((!(AV.toI (f (0 + Int.toNat (↑i : Int)) 0) == 0 && (AV.toI (f (0 + Int.toNat (↑i : Int)) (Nat.succ 0)) == 0 && (AV.toI (f (0 + Int.toNat (↑i : Int)) (Nat.succ (Nat.succ 0))) == 0 && (AV.toI (f (0 + Int.toNat (↑i : Int)) (Nat.succ (Nat.succ (Nat.succ 0)))) == 0 && true) && true)))) == true) (cond ((!(AV.toI (f (0 + Int.toNat (↑i : Int)) 0) == 0 && (AV.toI (f (0 + Int.toNat (↑i : Int)) (Nat.succ 0)) == 0 && (AV.toI (f (0 + Int.toNat (↑i : Int)) (Nat.succ (Nat.succ 0))) == 0 && (AV.toI (f (0 + Int.toNat (↑i : Int)) (Nat.succ (Nat.succ (Nat.succ 0)))) == 0 && true) && true)))) == true) (cond ((!(AV.toI (f (0 + Int.toNat (↑i : Int)) 0) == 0 && (AV.toI (f (0 + Int.toNat (↑i : Int)) (Nat.succ 0)) == 0 && (AV.toI (f (0 + Int.toNat (↑i : Int)) (Nat.succ (Nat.succ 0))) == 0 && (AV.toI (f (0 + Int.toNat (↑i : Int)) (Nat.succ (Nat.succ (Nat.succ 0)))) == 0 && true) && true)))) == true) (cond (!(AV.toI (f (0 + Int.toNat (↑i : Int)) 0) == 0 && (AV.toI (f (0 + Int.toNat (↑i : Int)) (Nat.succ 0)) == 0 && (AV.toI (f (0 + Int.toNat (↑i : Int)) (Nat.succ (Nat.succ 0))) == 0 && (AV.toI (f (0 + Int.toNat (↑i : Int)) (Nat.succ (Nat.succ (Nat.succ 0)))) == 0 && true) && true)))) (cond (decide (bl = bl)) (cond (Nat.blt (0 + Int.toNat (↑i : Int)) n) (cond (decide (AV.toI (f (0 + Int.toNat (↑i : Int)) 0) = AV.toI (f (0 + Int.toNat (↑i : Int)) 0))) (cond (decide (AV.toI (f (0 + Int.toNat (↑i : Int)) (Nat.succ 0)) = AV.toI (f (0 + Int.toNat (↑i : Int)) (Nat.succ 0)))) (cond (decide (AV.toI (f (0 + Int.toNat (↑i : Int)) (Nat.succ (Nat.succ 0))) = AV.toI (f (0 + Int.toNat (↑i : Int)) (Nat.succ (Nat.succ 0))))) (cond (decide (AV.toI (f (0 + Int.toNat (↑i : Int)) (Nat.succ (Nat.succ (Nat.succ 0)))) = AV.toI (f (0 + Int.toNat (↑i : Int)) (Nat.succ (Nat.succ (Nat.succ 0)))))) (cond (nl == nl) (cond (Nat.beq n n) (cond (Nat.beq n n) (cond (Nat.blt (0 + Int.toNat (↑i : Int)) n) (cond (decide (AV.toI (f (0 + Int.toNat (↑i : Int)) 0) = AV.toI (f (0 + Int.toNat (↑i : Int)) 0))) (cond (decide (AV.toI (f (0 + Int.toNat (↑i : Int)) (Nat.succ 0)) = AV.toI (f (0 + Int.toNat (↑i : Int)) (Nat.succ 0)))) (cond (decide (AV.toI (f (0 + Int.toNat (↑i : Int)) (Nat.succ (Nat.succ 0))) = AV.toI (f (0 + Int.toNat (↑i : Int)) (Nat.succ (Nat.succ 0))))) (cond (decide (AV.toI (f (0 + Int.toNat (↑i : Int)) (Nat.succ (Nat.succ (Nat.succ 0)))) = AV.toI (f (0 + Int.toNat (↑i : Int)) (Nat.succ (Nat.succ (Nat.succ 0)))))) (cond (nl == nl) (cond (Nat.beq n n) (cond (Nat.beq n n) (cond (!askR (AV.toI (f (0 + Int.toNat (↑i : Int)) 0)) (AV.toI (f (0 + Int.toNat (↑i : Int)) (Nat.succ 0))) (AV.toI (f (0 + Int.toNat (↑i : Int)) (Nat.succ (Nat.succ 0)))) (AV.toI (f (0 + Int.toNat (↑i : Int)) (Nat.succ (Nat.succ (Nat.succ 0))))) bl)
  (some (2, (CS.mk [(AV.bool (false))] [])))
  (some (0, (CS.mk [(AV.ptr (0) (0)), (AV.ptr (1) (0)), (AV.int IntKind.i64 (IntKind.wrap IntKind.i64 ((↑i : Int) + 1)))] [some (AObj.cells [(AV.int IntKind.u64 (ix)), (AV.int IntKind.u64 (tm)), (AV.int IntKind.u64 (st)), (AV.int IntKind.i64 (kd)), (AV.int IntKind.u64 (cl)), (AV.int IntKind.u64 (rq)), (AV.int IntKind.u32 (fr)), (AV.int IntKind.u32 (ct)), (AV.str (d)), (AV.osl (nl) (2) (0) (n) (n) (4) (true))] true), some (AObj.cells [(AV.int IntKind.i64 (nd)), (AV.int IntKind.i64 (bh)), (AV.int IntKind.u32 (bl))] true), some (AObj.tarr [Sh.int IntKind.u64, Sh.int IntKind.u64, Sh.int IntKind.u32, Sh.int IntKind.u32] (n) f false)])))) none) none) none) none) none) none) none) none) none) none) none) none) none) none) none) none) none) none) none) none) none) none) none) none) none) none) none) none)
  (cond ((!(AV.toI (f (0 + Int.toNat (↑i : Int)) 0) == 0 && (AV.toI (f (0 + Int.toNat (↑i : Int)) (Nat.succ 0)) == 0 && (AV.toI (f (0 + Int.toNat (↑i : Int)) (Nat.succ (Nat.succ 0))) == 0 && (AV.toI (f (0 + Int.toNat (↑i : Int)) (Nat.succ (Nat.succ (Nat.succ 0)))) == 0 && true) && true)))) == true) none (cond ((!(AV.toI (f (0 + Int.toNat (↑i : Int)) 0) == 0 && (AV.toI (f (0 + Int.toNat (↑i : Int)) (Nat.succ 0)) == 0 && (AV.toI (f (0 + Int.toNat (↑i : Int)) (Nat.succ (Nat.succ 0))) == 0 && (AV.toI (f (0 + Int.toNat (↑i : Int)) (Nat.succ (Nat.succ (Nat.succ 0)))) == 0 && true) && true)))) == true) none (cond ((!(AV.toI (f (0 + Int.toNat (↑i : Int)) 0) == 0 && (AV.toI (f (0 + Int.toNat (↑i : Int)) (Nat.succ 0)) == 0 && (AV.toI (f (0 + Int.toNat (↑i : Int)) (Nat.succ (Nat.succ 0))) == 0 && (AV.toI (f (0 + Int.toNat (↑i : Int)) (Nat.succ (Nat.succ (Nat.succ 0)))) == 0 && true) && true)))) == true) none (cond ((!(AV.toI (f (0 + Int.toNat (↑i : Int)) 0) == 0 && (AV.toI (f (0 + Int.toNat (↑i : Int)) (Nat.succ 0)) == 0 && (AV.toI (f (0 + Int.toNat (↑i : Int)) (Nat.succ (Nat.succ 0))) == 0 && (AV.toI (f (0 + Int.toNat (↑i : Int)) (Nat.succ (Nat.succ (Nat.succ 0)))) == 0 && true) && true)))) == true) none (cond ((!(AV.toI (f (0 + Int.toNat (↑i : Int)) 0) == 0 && (AV.toI (f (0 + Int.toNat (↑i : Int)) (Nat.succ 0)) == 0 && (AV.toI (f (0 + Int.toNat (↑i : Int)) (Nat.succ (Nat.succ 0))) == 0 && (AV.toI (f (0 + Int.toNat (↑i : Int)) (Nat.succ (Nat.succ (Nat.succ 0)))) == 0 && true) && true)))) == true) none (cond ((!(AV.toI (f (0 + Int.toNat (↑i : Int)) 0) == 0 && (AV.toI (f (0 + Int.toNat (↑i : Int)) (Nat.succ 0)) == 0 && (AV.toI (f (0 + Int.toNat (↑i : Int)) (Nat.succ (Nat.succ 0))) == 0 && (AV.toI (f (0 + Int.toNat (↑i : Int)) (Nat.succ (Nat.succ (Nat.succ 0)))) == 0 && true) && true)))) == true) none (cond ((!(AV.toI (f (0 + Int.toNat (↑i : Int)) 0) == 0 && (AV.toI (f (0 + Int.toNat (↑i : Int)) (Nat.succ 0)) == 0 && (AV.toI (f (0 + Int.toNat (↑i : Int)) (Nat.succ (Nat.succ 0))) == 0 && (AV.toI (f (0 + Int.toNat (↑i : Int)) (Nat.succ (Nat.succ (Nat.succ 0)))) == 0 && true) && true)))) == true) none (cond ((!(AV.toI (f (0 + Int.toNat (↑i : Int)) 0) == 0 && (AV.toI (f (0 + Int.toNat (↑i : Int)) (Nat.succ 0)) == 0 && (AV.toI (f (0 + Int.toNat (↑i : Int)) (Nat.succ (Nat.succ 0))) == 0 && (AV.toI (f (0 + Int.toNat (↑i : Int)) (Nat.succ (Nat.succ (Nat.succ 0)))) == 0 && true) && true)))) == true) none (cond (!(AV.toI (f (0 + Int.toNat (↑i : Int)) 0) == 0 && (AV.toI (f (0 + Int.toNat (↑i : Int)) (Nat.succ 0)) == 0 && (AV.toI (f (0 + Int.toNat (↑i : Int)) (Nat.succ (Nat.succ 0))) == 0 && (AV.toI (f (0 + Int.toNat (↑i : Int)) (Nat.succ (Nat.succ (Nat.succ 0)))) == 0 && true) && true)))) none (cond (Nat.blt (0 + Int.toNat (↑i : Int)) n) (cond (decide (AV.toI (f (0 + Int.toNat (↑i : Int)) 0) = AV.toI (f (0 + Int.toNat (↑i : Int)) 0))) (cond (decide (AV.toI (f (0 + Int.toNat (↑i : Int)) (Nat.succ 0)) = AV.toI (f (0 + Int.toNat (↑i : Int)) (Nat.succ 0)))) (cond (decide (AV.toI (f (0 + Int.toNat (↑i : Int)) (Nat.succ (Nat.succ 0))) = AV.toI (f (0 + Int.toNat (↑i : Int)) (Nat.succ (Nat.succ 0))))) (cond (decide (AV.toI (f (0 + Int.toNat (↑i : Int)) (Nat.succ (Nat.succ (Nat.succ 0)))) = AV.toI (f (0 + Int.toNat (↑i : Int)) (Nat.succ (Nat.succ (Nat.succ 0)))))) (cond (nl == nl) (cond (Nat.beq n n) (cond (Nat.beq n n) (some (0, (CS.mk [(AV.ptr (0) (0)), (AV.ptr (1) (0)), (AV.int IntKind.i64 (IntKind.wrap IntKind.i64 ((↑i : Int) + 1)))] [some (AObj.cells [(AV.int IntKind.u64 (ix)), (AV.int IntKind.u64 (tm)), (AV.int IntKind.u64 (st)), (AV.int IntKind.i64 (kd)), (AV.int IntKind.u64 (cl)), (AV.int IntKind.u64 (rq)), (AV.int IntKind.u32 (fr)), (AV.int IntKind.u32 (ct)), (AV.str (d)), (AV.osl (nl) (2) (0) (n) (n) (4) (true))] true), some (AObj.cells [(AV.int IntKind.i64 (nd)), (AV.int IntKind.i64 (bh)), (AV.int IntKind.u32 (bl))] true), some (AObj.tarr [Sh.int IntKind.u64, Sh.int IntKind.u64, Sh.int IntKind.u32, Sh.int IntKind.u32] (n) f false)]))) none) none) none) none) none) none) none) none)))))))))))
  none) none)
  (some (1, (CS.mk [] [])))) := by kernel_rfl
theorem s14_eq (ix : Int) (tm : Int) (st : Int) (kd : Int) (cl : Int) (rq : Int) (fr : Int) (ct : Int) (d : List Nat) (nd : Int) (bh : Int) (bl : Int) (nl : Bool) (n : Nat) (f : Nat → Nat → AV) (i : Nat) : s14 ix tm st kd cl rq fr ct d nd bh bl nl n f i s14_p = (cond (decide ((↑i : Int) < (↑n : Int)))
  (cond (Nat.blt (0 + Int.toNat (↑i : Int)) n)
  (cond (AV.toI (f (0 + Int.toNat (↑i : Int)) 0) == 0 && (AV.toI (f (0 + Int.toNat (↑i : Int)) (Nat.succ 0)) == 0 && (AV.toI (f (0 + Int.toNat (↑i : Int)) (Nat.succ (Nat.succ 0))) == 0 && (AV.toI (f (0 + Int.toNat (↑i : Int)) (Nat.succ (Nat.succ (Nat.succ 0)))) == 0 && true) && true)))
  (some (0, (CS.mk [(AV.ptr (0) (0)), (AV.ptr (1) (0)), (AV.int IntKind.i64 (IntKind.wrap IntKind.i64 ((↑i : Int) + 1)))] [some (AObj.cells [(AV.int IntKind.u64 (ix)), (AV.int IntKind.u64 (tm)), (AV.int IntKind.u64 (st)), (AV.int IntKind.i64 (kd)), (AV.int IntKind.u64 (cl)), (AV.int IntKind.u64 (rq)), (AV.int IntKind.u32 (fr)), (AV.int IntKind.u32 (ct)), (AV.str (d)), (AV.osl (nl) (2) (0) (n) (n) (4) (true))] true), some (AObj.cells [(AV.int IntKind.i64 (nd)), (AV.int IntKind.i64 (bh)), (AV.int IntKind.u32 (bl))] true), some (AObj.tarr [Sh.int IntKind.u64, Sh.int IntKind.u64, Sh.int IntKind.u32, Sh.int IntKind.u32] (n) f false)])))
  (cond (askR (AV.toI (f (0 + Int.toNat (↑i : Int)) 0)) (AV.toI (f (0 + Int.toNat (↑i : Int)) (Nat.succ 0))) (AV.toI (f (0 + Int.toNat (↑i : Int)) (Nat.succ (Nat.succ 0)))) (AV.toI (f (0 + Int.toNat (↑i : Int)) (Nat.succ (Nat.succ (Nat.succ 0))))) bl)
  (some (0, (CS.mk [(AV.ptr (0) (0)), (AV.ptr (1) (0)), (AV.int IntKind.i64 (IntKind.wrap IntKind.i64 ((↑i : Int) + 1)))] [some (AObj.cells [(AV.int IntKind.u64 (ix)), (AV.int IntKind.u64 (tm)), (AV.int IntKind.u64 (st)), (AV.int IntKind.i64 (kd)), (AV.int IntKind.u64 (cl)), (AV.int IntKind.u64 (rq)), (AV.int IntKind.u32 (fr)), (AV.int IntKind.u32 (ct)), (AV.str (d)), (AV.osl (nl) (2) (0) (n) (n) (4) (true))] true), some (AObj.cells [(AV.int IntKind.i64 (nd)), (AV.int IntKind.i64 (bh)), (AV.int IntKind.u32 (bl))] true), some (AObj.tarr [Sh.int IntKind.u64, Sh.int IntKind.u64, Sh.int IntKind.u32, Sh.int IntKind.u32] (n) f false)])))
  (some (2, (CS.mk [(AV.bool (false))] [])))))
  none)
  (some (1, (CS.mk [] [])))) := by
  rw [s14_is]
  try simp only [eq_self, decide_true, beq_self_eq_true, Nat.beq_refl, ble_self, Int.le_refl, Nat.le_refl]
  cases (decide ((↑i : Int) < (↑n : Int))) with
  | true =>
    cases (Nat.blt (0 + Int.toNat (↑i : Int)) n) with
    | true =>
      cases (AV.toI (f (0 + Int.toNat (↑i : Int)) 0) == 0 && (AV.toI (f (0 + Int.toNat (↑i : Int)) (Nat.succ 0)) == 0 && (AV.toI (f (0 + Int.toNat (↑i : Int)) (Nat.succ (Nat.succ 0))) == 0 && (AV.toI (f (0 + Int.toNat (↑i : Int)) (Nat.succ (Nat.succ (Nat.succ 0)))) == 0 && true) && true))) with
      | true =>
        rfl
      | false =>
        cases (askR (AV.toI (f (0 + Int.toNat (↑i : Int)) 0)) (AV.toI (f (0 + Int.toNat (↑i : Int)) (Nat.succ 0))) (AV.toI (f (0 + Int.toNat (↑i : Int)) (Nat.succ (Nat.succ 0)))) (AV.toI (f (0 + Int.toNat (↑i : Int)) (Nat.succ (Nat.succ (Nat.succ 0))))) bl) with
        | true =>
          rfl
        | false =>
          rfl
    | false =>
      rfl
  | false =>
    rfl

noncomputable def s41 (nl : Bool) (nl2 : Bool) (n : Nat) (m : Nat) (f : Nat → Nat → AV) (g : Nat → Nat → AV) (i : Nat) (π : Plan) : Option (Nat × CS) := stepC (E4) (300) (loopC E4 41 0) (0) (h41) ((.normal, h41) :: x41) π (c41 nl nl2 n m f g i)
def s41_p : Plan := (.fork (.reck 1 (.must true (.fork (.reck 1 (.fork (.fork (.must true (.must true (.must true (.must true (.must true (.must true (.must true (.must true (.must true (.must true (.fork .stop .stop))))))))))) .stop) .stop)) .stop))) .stop)
theorem s41_is (nl : Bool) (nl2 : Bool) (n : Nat) (m : Nat) (f : Nat → Nat → AV) (g : Nat → Nat → AV) (i : Nat) : s41 nl nl2 n m f g i s41_p = (cond (decide ((↑i : Int) < (↑n : Int)))
  (cond (decide ((↑i : Int) < (↑n : Int))) (cond (Nat.blt (0 + Int.toNat (↑i : Int)) n)
  (cond (decide ((↑i : Int) < (↑m : Int)))
  (cond (Nat.blt (0 + Int.toNat (↑i : Int)) m)
  (cond (Nat.blt (0 + Int.toNat (↑i : Int)) m) (cond (decide (AV.toI (g (0 + Int.toNat (↑i : Int)) 0) = AV.toI (g (0 + Int.toNat (↑i : Int)) 0))) (cond (decide (AV.toI (g (0 + Int.toNat (↑i : Int)) (Nat.succ 0)) = AV.toI (g (0 + Int.toNat (↑i : Int)) (Nat.succ 0)))) (cond (decide (AV.toI (g (0 + Int.toNat (↑i : Int)) (Nat.succ (Nat.succ 0))) = AV.toI (g (0 + Int.toNat (↑i : Int)) (Nat.succ (Nat.succ 0))))) (cond (decide (AV.toI (g (0 + Int.toNat (↑i : Int)) (Nat.succ (Nat.succ (Nat.succ 0)))) = AV.toI (g (0 + Int.toNat (↑i : Int)) (Nat.succ (Nat.succ (Nat.succ 0)))))) (cond (Nat.blt (0 + Int.toNat (↑i : Int)) n) (cond (decide (AV.toI (f (0 + Int.toNat (↑i : Int)) 0) = AV.toI (f (0 + Int.toNat (↑i : Int)) 0))) (cond (decide (AV.toI (f (0 + Int.toNat (↑i : Int)) (Nat.succ 0)) = AV.toI (f (0 + Int.toNat (↑i : Int)) (Nat.succ 0)))) (cond (decide (AV.toI (f (0 + Int.toNat (↑i : Int)) (Nat.succ (Nat.succ 0))) = AV.toI (f (0 + Int.toNat (↑i : Int)) (Nat.succ (Nat.succ 0))))) (cond (decide (AV.toI (f (0 + Int.toNat (↑i : Int)) (Nat.succ (Nat.succ (Nat.succ 0)))) = AV.toI (f (0 + Int.toNat (↑i : Int)) (Nat.succ (Nat.succ (Nat.succ 0)))))) (cond (!(AV.toI (f (0 + Int.toNat (↑i : Int)) 0) == AV.toI (g (0 + Int.toNat (↑i : Int)) 0) && (AV.toI (f (0 + Int.toNat (↑i : Int)) (Nat.succ 0)) == AV.toI (g (0 + Int.toNat (↑i : Int)) (Nat.succ 0)) && (AV.toI (f (0 + Int.toNat (↑i : Int)) (Nat.succ (Nat.succ 0))) == AV.toI (g (0 + Int.toNat (↑i : Int)) (Nat.succ (Nat.succ 0))) && (AV.toI (f (0 + Int.toNat (↑i : Int)) (Nat.succ (Nat.succ (Nat.succ 0)))) == AV.toI (g (0 + Int.toNat (↑i : Int)) (Nat.succ (Nat.succ (Nat.succ 0)))) && true) && true))))
  (some (2, (CS.mk [(AV.bool (false))] [])))
  (some (0, (CS.mk [(AV.osl (nl) (0) (0) (n) (n) (4) (true)), (AV.osl (nl2) (1) (0) (m) (m) (4) (true)), (AV.int IntKind.i64 ((↑n : Int))), (AV.int IntKind.i64 (IntKind.wrap IntKind.i64 ((↑i : Int) + 1)))] [some (AObj.tarr [Sh.int IntKind.u64, Sh.int IntKind.u64, Sh.int IntKind.u32, Sh.int IntKind.u32] (n) f false), some (AObj.tarr [Sh.int IntKind.u64, Sh.int IntKind.u64, Sh.int IntKind.u32, Sh.int IntKind.u32] (m) g false)])))) none) none) none) none) none) none) none) none) none) none)
  none)
  none)
  none) none)
  (some (1, (CS.mk [] [])))) := by kernel_rfl
theorem s41_eq (nl : Bool) (nl2 : Bool) (n : Nat) (m : Nat) (f : Nat → Nat → AV) (g : Nat → Nat → AV) (i : Nat) : s41 nl nl2 n m f g i s41_p = (cond (decide ((↑i : Int) < (↑n : Int)))
  (cond (Nat.blt (0 + Int.toNat (↑i : Int)) n)
  (cond (decide ((↑i : Int) < (↑m : Int)))
  (cond (Nat.blt (0 + Int.toNat (↑i : Int)) m)
  (cond (AV.toI (f (0 + Int.toNat (↑i : Int)) 0) == AV.toI (g (0 + Int.toNat (↑i : Int)) 0) && (AV.toI (f (0 + Int.toNat (↑i : Int)) (Nat.succ 0)) == AV.toI (g (0 + Int.toNat (↑i : Int)) (Nat.succ 0)) && (AV.toI (f (0 + Int.toNat (↑i : Int)) (Nat.succ (Nat.succ 0))) == AV.toI (g (0 + Int.toNat (↑i : Int)) (Nat.succ (Nat.succ 0))) && (AV.toI (f (0 + Int.toNat (↑i : Int)) (Nat.succ (Nat.succ (Nat.succ 0)))) == AV.toI (g (0 + Int.toNat (↑i : Int)) (Nat.succ (Nat.succ (Nat.succ 0)))) && true) && true)))
  (some (0, (CS.mk [(AV.osl (nl) (0) (0) (n) (n) (4) (true)), (AV.osl (nl2) (1) (0) (m) (m) (4) (true)), (AV.int IntKind.i64 ((↑n : Int))), (AV.int IntKind.i64 (IntKind.wrap IntKind.i64 ((↑i : Int) + 1)))] [some (AObj.tarr [Sh.int IntKind.u64, Sh.int IntKind.u64, Sh.int IntKind.u32, Sh.int IntKind.u32] (n) f false), some (AObj.tarr [Sh.int IntKind.u64, Sh.int IntKind.u64, Sh.int IntKind.u32, Sh.int IntKind.u32] (m) g false)])))
  (some (2, (CS.mk [(AV.bool (false))] []))))
  none)
  none)
  none)
  (some (1, (CS.mk [] [])))) := by
  rw [s41_is]
  try simp only [eq_self, decide_true, beq_self_eq_true, Nat.beq_refl, ble_self, Int.le_refl, Nat.le_refl]
  cases (decide ((↑i : Int) < (↑n : Int))) with
  | true =>
    cases (Nat.blt (0 + Int.toNat (↑i : Int)) n) with
    | true =>
      cases (decide ((↑i : Int) < (↑m : Int))) with
      | true =>
        cases (Nat.blt (0 + Int.toNat (↑i : Int)) m) with
        | true =>
          cases (AV.toI (f (0 + Int.toNat (↑i : Int)) 0) == AV.toI (g (0 + Int.toNat (↑i : Int)) 0) && (AV.toI (f (0 + Int.toNat (↑i : Int)) (Nat.succ 0)) == AV.toI (g (0 + Int.toNat (↑i : Int)) (Nat.succ 0)) && (AV.toI (f (0 + Int.toNat (↑i : Int)) (Nat.succ (Nat.succ 0))) == AV.toI (g (0 + Int.toNat (↑i : Int)) (Nat.succ (Nat.succ 0))) && (AV.toI (f (0 + Int.toNat (↑i : Int)) (Nat.succ (Nat.succ (Nat.succ 0)))) == AV.toI (g (0 + Int.toNat (↑i : Int)) (Nat.succ (Nat.succ (Nat.succ 0)))) && true) && true))) with
          | true =>
            rfl
          | false =>
            rfl
        | false =>
          rfl
      | false =>
        rfl
    | false =>
      rfl
  | false =>
    rfl

noncomputable def s18 (ix : Int) (tm : Int) (st : Int) (kd : Int) (cl : Int) (rq : Int) (fr : Int) (ct : Int) (d : List Nat) (ix2 : Int) (tm2 : Int) (st2 : Int) (kd2 : Int) (cl2 : Int) (rq2 : Int) (fr2 : Int) (ct2 : Int) (d2 : List Nat) (nl : Bool) (nl2 : Bool) (n : Nat) (m : Nat) (f : Nat → Nat → AV) (g : Nat → Nat → AV) (i : Nat) (π : Plan) : Option (Nat × CS) := stepC (E5) (300) (loopC E5 18 0) (0) (h18) ((.normal, h18) :: x18) π (c18 ix tm st kd cl rq fr ct d ix2 tm2 st2 kd2 cl2 rq2 fr2 ct2 d2 nl nl2 n m f g i)
def s18_p : Plan := (.fork (.reck 1 (.must true (.fork (.reck 1 (.fork (.fork (.must true (.must true (.must true (.must true (.must true (.must true (.reck 1 (.must true (.must true (.must true (.must true (.must true (.must true (.must true (.must true (.reck 1 (.must true (.must true (.fork .stop .stop))))))))))))))))))) .stop) .stop)) .stop))) .stop)
theorem s18_is (ix : Int) (tm : Int) (st : Int) (kd : Int) (cl : Int) (rq : Int) (fr : Int) (ct : Int) (d : List Nat) (ix2 : Int) (tm2 : Int) (st2 : Int) (kd2 : Int) (cl2 : Int) (rq2 : Int) (fr2 : Int) (ct2 : Int) (d2 : List Nat) (nl : Bool) (nl2 : Bool) (n : Nat) (m : Nat) (f : Nat → Nat → AV) (g : Nat → Nat → AV) (i : Nat) : s18 ix tm st kd cl rq fr ct d ix2 tm2 st2 kd2 cl2 rq2 fr2 ct2 d2 nl nl2 n m f g i s18_p = (cond (decide ((↑i : Int) < (↑n : Int)))
  (cond (decide ((↑i : Int) < (↑n : Int))) (cond (Nat.blt (0 + Int.toNat (↑i : Int)) n)
  (cond (decide ((↑i : Int) < (↑m : Int)))
  (cond (Nat.blt (0 + Int.toNat (↑i : Int)) m)
  (cond (Nat.blt (0 + Int.toNat (↑i : Int)) m) (cond (decide (AV.toI (g (0 + Int.toNat (↑i : Int)) 0) = AV.toI (g (0 + Int.toNat (↑i : Int)) 0))) (cond (decide (AV.toI (g (0 + Int.toNat (↑i : Int)) (Nat.succ 0)) = AV.toI (g (0 + Int.toNat (↑i : Int)) (Nat.succ 0)))) (cond (decide (AV.toI (g (0 + Int.toNat (↑i : Int)) (Nat.succ (Nat.succ 0))) = AV.toI (g (0 + Int.toNat (↑i : Int)) (Nat.succ (Nat.succ 0))))) (cond (decide (AV.toI (g (0 + Int.toNat (↑i : Int)) (Nat.succ (Nat.succ (Nat.succ 0)))) = AV.toI (g (0 + Int.toNat (↑i : Int)) (Nat.succ (Nat.succ (Nat.succ 0)))))) (cond (nl2 == nl2) (cond (Nat.beq m m) (cond (Nat.beq m m) (cond (Nat.blt (0 + Int.toNat (↑i : Int)) n) (cond (decide (AV.toI (f (0 + Int.toNat (↑i : Int)) 0) = AV.toI (f (0 + Int.toNat (↑i : Int)) 0))) (cond (decide (AV.toI (f (0 + Int.toNat (↑i : Int)) (Nat.succ 0)) = AV.toI (f (0 + Int.toNat (↑i : Int)) (Nat.succ 0)))) (cond (decide (AV.toI (f (0 + Int.toNat (↑i : Int)) (Nat.succ (Nat.succ 0))) = AV.toI (f (0 + Int.toNat (↑i : Int)) (Nat.succ (Nat.succ 0))))) (cond (decide (AV.toI (f (0 + Int.toNat (↑i : Int)) (Nat.succ (Nat.succ (Nat.succ 0)))) = AV.toI (f (0 + Int.toNat (↑i : Int)) (Nat.succ (Nat.succ (Nat.succ 0)))))) (cond (nl == nl) (cond (Nat.beq n n) (cond (Nat.beq n n) (cond (!(AV.toI (f (0 + Int.toNat (↑i : Int)) 0) == AV.toI (g (0 + Int.toNat (↑i : Int)) 0) && (AV.toI (f (0 + Int.toNat (↑i : Int)) (Nat.succ 0)) == AV.toI (g (0 + Int.toNat (↑i : Int)) (Nat.succ 0)) && (AV.toI (f (0 + Int.toNat (↑i : Int)) (Nat.succ (Nat.succ 0))) == AV.toI (g (0 + Int.toNat (↑i : Int)) (Nat.succ (Nat.succ 0))) && (AV.toI (f (0 + Int.toNat (↑i : Int)) (Nat.succ (Nat.succ (Nat.succ 0)))) == AV.toI (g (0 + Int.toNat (↑i : Int)) (Nat.succ (Nat.succ (Nat.succ 0)))) && true) && true))))
  (some (2, (CS.mk [(AV.bool (false))] [])))
  (some (0, (CS.mk [(AV.ptr (0) (0)), (AV.ptr (1) (0)), (AV.int IntKind.i64 (IntKind.wrap IntKind.i64 ((↑i : Int) + 1)))] [some (AObj.cells [(AV.int IntKind.u64 (ix)), (AV.int IntKind.u64 (tm)), (AV.int IntKind.u64 (st)), (AV.int IntKind.i64 (kd)), (AV.int IntKind.u64 (cl)), (AV.int IntKind.u64 (rq)), (AV.int IntKind.u32 (fr)), (AV.int IntKind.u32 (ct)), (AV.str (d)), (AV.osl (nl) (2) (0) (n) (n) (4) (true))] true), some (AObj.cells [(AV.int IntKind.u64 (ix2)), (AV.int IntKind.u64 (tm2)), (AV.int IntKind.u64 (st2)), (AV.int IntKind.i64 (kd2)), (AV.int IntKind.u64 (cl2)), (AV.int IntKind.u64 (rq2)), (AV.int IntKind.u32 (fr2)), (AV.int IntKind.u32 (ct2)), (AV.str (d2)), (AV.osl (nl2) (3) (0) (m) (m) (4) (true))] true), some (AObj.tarr [Sh.int IntKind.u64, Sh.int IntKind.u64, Sh.int IntKind.u32, Sh.int IntKind.u32] (n) f false), some (AObj.tarr [Sh.int IntKind.u64, Sh.int IntKind.u64, Sh.int IntKind.u32, Sh.int IntKind.u32] (m) g false)])))) none) none) none) none) none) none) none) none) none) none) none) none) none) none) none) none)
  none)
  none)
  none) none)
  (some (1, (CS.mk [] [])))) := by kernel_rfl
theorem s18_eq (ix : Int) (tm : Int) (st : Int) (kd : Int) (cl : Int) (rq : Int) (fr : Int) (ct : Int) (d : List Nat) (ix2 : Int) (tm2 : Int) (st2 : Int) (kd2 : Int) (cl2 : Int) (rq2 : Int) (fr2 : Int) (ct2 : Int) (d2 : List Nat) (nl : Bool) (nl2 : Bool) (n : Nat) (m : Nat) (f : Nat → Nat → AV) (g : Nat → Nat → AV) (i : Nat) : s18 ix tm st kd cl rq fr ct d ix2 tm2 st2 kd2 cl2 rq2 fr2 ct2 d2 nl nl2 n m f g i s18_p = (cond (decide ((↑i : Int) < (↑n : Int)))
  (cond (Nat.blt (0 + Int.toNat (↑i : Int)) n)
  (cond (decide ((↑i : Int) < (↑m : Int)))
  (cond (Nat.blt (0 + Int.toNat (↑i : Int)) m)
  (cond (AV.toI (f (0 + Int.toNat (↑i : Int)) 0) == AV.toI (g (0 + Int.toNat (↑i : Int)) 0) && (AV.toI (f (0 + Int.toNat (↑i : Int)) (Nat.succ 0)) == AV.toI (g (0 + Int.toNat (↑i : Int)) (Nat.succ 0)) && (AV.toI (f (0 + Int.toNat (↑i : Int)) (Nat.succ (Nat.succ 0))) == AV.toI (g (0 + Int.toNat (↑i : Int)) (Nat.succ (Nat.succ 0))) && (AV.toI (f (0 + Int.toNat (↑i : Int)) (Nat.succ (Nat.succ (Nat.succ 0)))) == AV.toI (g (0 + Int.toNat (↑i : Int)) (Nat.succ (Nat.succ (Nat.succ 0)))) && true) && true)))
  (some (0, (CS.mk [(AV.ptr (0) (0)), (AV.ptr (1) (0)), (AV.int IntKind.i64 (IntKind.wrap IntKind.i64 ((↑i : Int) + 1)))] [some (AObj.cells [(AV.int IntKind.u64 (ix)), (AV.int IntKind.u64 (tm)), (AV.int IntKind.u64 (st)), (AV.int IntKind.i64 (kd)), (AV.int IntKind.u64 (cl)), (AV.int IntKind.u64 (rq)), (AV.int IntKind.u32 (fr)), (AV.int IntKind.u32 (ct)), (AV.str (d)), (AV.osl (nl) (2) (0) (n) (n) (4) (true))] true), some (AObj.cells [(AV.int IntKind.u64 (ix2)), (AV.int IntKind.u64 (tm2)), (AV.int IntKind.u64 (st2)), (AV.int IntKind.i64 (kd2)), (AV.int IntKind.u64 (cl2)), (AV.int IntKind.u64 (rq2)), (AV.int IntKind.u32 (fr2)), (AV.int IntKind.u32 (ct2)), (AV.str (d2)), (AV.osl (nl2) (3) (0) (m) (m) (4) (true))] true), some (AObj.tarr [Sh.int IntKind.u64, Sh.int IntKind.u64, Sh.int IntKind.u32, Sh.int IntKind.u32] (n) f false), some (AObj.tarr [Sh.int IntKind.u64, Sh.int IntKind.u64, Sh.int IntKind.u32, Sh.int IntKind.u32] (m) g false)])))
  (some (2, (CS.mk [(AV.bool (false))] []))))
  none)
  none)
  none)
  (some (1, (CS.mk [] [])))) := by
  rw [s18_is]
  try simp only [eq_self, decide_true, beq_self_eq_true, Nat.beq_refl, ble_self, Int.le_refl, Nat.le_refl]
  cases (decide ((↑i : Int) < (↑n : Int))) with
  | true =>
    cases (Nat.blt (0 + Int.toNat (↑i : Int)) n) with
    | true =>
      cases (decide ((↑i : Int) < (↑m : Int))) with
      | true =>
        cases (Nat.blt (0 + Int.toNat (↑i : Int)) m) with
        | true =>
          cases (AV.toI (f (0 + Int.toNat (↑i : Int)) 0) == AV.toI (g (0 + Int.toNat (↑i : Int)) 0) && (AV.toI (f (0 + Int.toNat (↑i : Int)) (Nat.succ 0)) == AV.toI (g (0 + Int.toNat (↑i : Int)) (Nat.succ 0)) && (AV.toI (f (0 + Int.toNat (↑i : Int)) (Nat.succ (Nat.succ 0))) == AV.toI (g (0 + Int.toNat (↑i : Int)) (Nat.succ (Nat.succ 0))) && (AV.toI (f (0 + Int.toNat (↑i : Int)) (Nat.succ (Nat.succ (Nat.succ 0)))) == AV.toI (g (0 + Int.toNat (↑i : Int)) (Nat.succ (Nat.succ (Nat.succ 0)))) && true) && true))) with
          | true =>
            rfl
          | false =>
            rfl
        | false =>
          rfl
      | false =>
        rfl
    | false =>
      rfl
  | false =>
    rfl

noncomputable def k13 (ix : Int) (tm : Int) (st : Int) (kd : Int) (cl : Int) (rq : Int) (fr : Int) (ct : Int) (d : List Nat) (nd : Int) (bh : Int) (bl : Int) (nl : Bool) (n : Nat) (f : Nat → Nat → AV) (π : Plan) : Option CS := callC (E6) (1000) (13) (0) (.keep) ([]) π (a13 ix tm st kd cl rq fr ct d nd bh bl nl n f)
def k13_p : Plan := (.fork (.must true (.must true (.must true (.fork (.must true (.must true (.must true (.fork (.must true (.must true (.must true (.must true (.must false (.fork (.must true (.must true (.must true (.fork (.must true (.must true (.must true (.must true (.must false (.fork .stop (.fork (.must true (.must true (.must true (.must true (.must true (.must true (.must false (.fork .stop (.must true (.must true (.reck 1 (.must true (.must true (.must true (.reck 1 (.must true (.must true (.fork (.fork (.fork (.must true (.must true (.must true (.must true (.must true (.must true (.must true (.must true (.must true (.must true (.must true (.must true (.must true (.must true (.must true (.must true (.must true (.must true (.must true (.must true (.must true (.must true (.must true (.must true (.must true (.reck 1 (.must true (.must true .stop)))))))))))))))))))))))))))) (.must false (.must false (.must false (.must false (.must false (.must false (.must false (.must false (.must false (.must true (.must true (.must true (.must true (.must true (.must true (.must true (.must true (.must true (.must true (.must true (.must true (.reck 1 (.must true (.must true .stop))))))))))))))))))))))))) (.fork (.fork (.must true (.must true (.must true .stop))) (.must false (.must false (.must false .stop)))) .stop)) .stop)))))))))))))))))) (.must false (.must false (.must false (.must false (.must false (.must false (.must true .stop)))))))))))))) (.must false (.must false (.must false (.must true (.must false .stop))))))))) (.must false (.must false (.must false (.must false (.must true .stop))))))))))) (.must false (.must false (.must false (.must true (.must false .stop))))))))) (.must false (.must false (.must false (.must false (.must true .stop))))))))) (.must false (.must false (.must false .stop))))
theorem k13_is (ix : Int) (tm : Int) (st : Int) (kd : Int) (cl : Int) (rq : Int) (fr : Int) (ct : Int) (d : List Nat) (nd : Int) (bh : Int) (bl : Int) (nl : Bool) (n : Nat) (f : Nat → Nat → AV) : k13 ix tm st kd cl rq fr ct d nd bh bl nl n f k13_p = (cond (decide (ix ≥ 1) == true)
  (cond (decide (ix ≥ 1) == true) (cond (decide (ix ≥ 1) == true) (cond (decide (ix ≥ 1)) (cond ((!decide (ix ≤ 4611686018427387840)) == false)
  (cond ((!decide (ix ≤ 4611686018427387840)) == false) (cond ((!decide (ix ≤ 4611686018427387840)) == false) (cond ((!decide (ix ≤ 4611686018427387840)) == false) (cond (decide (tm ≥ 1) == true)
  (cond (decide (tm ≥ 1) == true) (cond (decide (tm ≥ 1) == true) (cond (decide (tm ≥ 1)) (cond ((!decide (ix ≤ 4611686018427387840)) == false) (cond (!decide (ix ≤ 4611686018427387840)) none (cond ((!decide (tm ≤ 4611686018427387904)) == false)
  (cond ((!decide (tm ≤ 4611686018427387904)) == false) (cond ((!decide (tm ≤ 4611686018427387904)) == false) (cond ((!decide (tm ≤ 4611686018427387904)) == false) (cond (decide (st ≥ 1) == true)
  (cond (decide (st ≥ 1) == true) (cond (decide (st ≥ 1) == true) (cond (decide (st ≥ 1)) (cond ((!decide (tm ≤ 4611686018427387904)) == false) (cond (!decide (tm ≤ 4611686018427387904)) none (cond (!decide (st ≤ 4611686018427387904))
  (some (CS.mk [(AV.bool (false))] []))
  (cond (decide ((↑n : Int) > bh) == false)
  (cond (decide ((↑n : Int) > bh) == false) (cond (decide ((↑n : Int) > bh) == false) (cond (decide ((↑n : Int) > bh) == false) (cond (decide ((↑n : Int) > bh) == false) (cond (decide ((↑n : Int) > bh) == false) (cond (decide ((↑n : Int) > bh) == false) (cond (decide ((↑n : Int) > bh)) none (cond (decide (IntKind.wrap IntKind.u64 (↑n : Int) ≥ ix))
  (some (CS.mk [(AV.bool (false))] []))
  (cond (decide (n = n)) (cond (decide ((↑n : Int) = (↑n : Int))) (cond (decide (nl = nl)) (cond (decide (n = n)) (cond (decide (n = n)) (cond (decide (n = n)) (cond (Nat.ble n 1000000) (cond (allA askP f bl n)
  (cond (kd == 1)
  (cond (askP cl rq fr ct bl == true)
  (cond (askP cl rq fr ct bl == true) (cond (askP cl rq fr ct bl == true) (cond (askP cl rq fr ct bl == true) (cond (askP cl rq fr ct bl == true) (cond (askP cl rq fr ct bl == true) (cond (askP cl rq fr ct bl == true) (cond (askP cl rq fr ct bl == true) (cond (askP cl rq fr ct bl == true) (cond (askP cl rq fr ct bl) (cond (decide (IntKind.wrap IntKind.i64 ct = IntKind.wrap IntKind.i64 ct)) (cond (decide (ct = ct)) (cond (decide ((↑(List.length d) : Int) = (↑(List.length d) : Int))) (cond (d == d) (cond (decide (bl = bl)) (cond (decide (bl = bl)) (cond (decide (ix = ix)) (cond (decide (tm = tm)) (cond (decide (st = st)) (cond (decide (kd = kd)) (cond (decide (cl = cl)) (cond (decide (rq = rq)) (cond (decide (fr = fr)) (cond (decide (ct = ct)) (cond (d == d) (cond (nl == nl) (cond (Nat.beq n n) (cond (Nat.beq n n) (some (CS.mk [(AV.bool ((↑(List.length d) : Int) == IntKind.wrap IntKind.i64 (8 * IntKind.wrap IntKind.i64 ct)))] [])) none) none) none) none) none) none) none) none) none) none) none) none) none) none) none) none) none) none) none) none) none) none) none) none) none) none) none)
  (cond (askP cl rq fr ct bl == true) none (cond (askP cl rq fr ct bl == true) none (cond (askP cl rq fr ct bl == true) none (cond (askP cl rq fr ct bl == true) none (cond (askP cl rq fr ct bl == true) none (cond (askP cl rq fr ct bl == true) none (cond (askP cl rq fr ct bl == true) none (cond (askP cl rq fr ct bl == true) none (cond (askP cl rq fr ct bl) none (cond (decide (bl = bl)) (cond (decide (bl = bl)) (cond (decide (ix = ix)) (cond (decide (tm = tm)) (cond (decide (st = st)) (cond (decide (kd = kd)) (cond (decide (cl = cl)) (cond (decide (rq = rq)) (cond (decide (fr = fr)) (cond (decide (ct = ct)) (cond (d == d) (cond (nl == nl) (cond (Nat.beq n n) (cond (Nat.beq n n) (some (CS.mk [(AV.bool (false))] [])) none) none) none) none) none) none) none) none) none) none) none) none) none) none)))))))))))
  (cond (kd == 2)
  (cond ((cl == 0 && (rq == 0 && (fr == 0 && (ct == 0 && true) && true))) == true)
  (cond ((cl == 0 && (rq == 0 && (fr == 0 && (ct == 0 && true) && true))) == true) (cond ((cl == 0 && (rq == 0 && (fr == 0 && (ct == 0 && true) && true))) == true) (cond (cl == 0 && (rq == 0 && (fr == 0 && (ct == 0 && true) && true))) (some (CS.mk [(AV.bool (d == bytesOf { data := #[] }))] [])) none) none) none)
  (cond ((cl == 0 && (rq == 0 && (fr == 0 && (ct == 0 && true) && true))) == true) none (cond ((cl == 0 && (rq == 0 && (fr == 0 && (ct == 0 && true) && true))) == true) none (cond (cl == 0 && (rq == 0 && (fr == 0 && (ct == 0 && true) && true))) none (some (CS.mk [(AV.bool (false))] []))))))
  (some (CS.mk [(AV.bool (false))] []))))
  (some (CS.mk [(AV.bool (false))] []))) none) none) none) none) none) none) none))) none) none) none) none) none) none)
  (cond (decide ((↑n : Int) > bh) == false) none (cond (decide ((↑n : Int) > bh) == false) none (cond (decide ((↑n : Int) > bh) == false) none (cond (decide ((↑n : Int) > bh) == false) none (cond (decide ((↑n : Int) > bh) == false) none (cond (decide ((↑n : Int) > bh) == false) none (cond (decide ((↑n : Int) > bh)) (some (CS.mk [(AV.bool (false))] [])) none)))))))))) none) none) none) none)
  (cond (decide (st ≥ 1) == true) none (cond (decide (st ≥ 1) == true) none (cond (decide (st ≥ 1)) none (cond ((!decide (tm ≤ 4611686018427387904)) == false) (cond (!decide (tm ≤ 4611686018427387904)) none (some (CS.mk [(AV.bool (false))] []))) none))))) none) none) none)
  (cond ((!decide (tm ≤ 4611686018427387904)) == false) none (cond ((!decide (tm ≤ 4611686018427387904)) == false) none (cond ((!decide (tm ≤ 4611686018427387904)) == false) none (cond ((!decide (tm ≤ 4611686018427387904)) == false) none (cond (!decide (tm ≤ 4611686018427387904)) (some (CS.mk [(AV.bool (false))] [])) none))))))) none) none) none) none)
  (cond (decide (tm ≥ 1) == true) none (cond (decide (tm ≥ 1) == true) none (cond (decide (tm ≥ 1)) none (cond ((!decide (ix ≤ 4611686018427387840)) == false) (cond (!decide (ix ≤ 4611686018427387840)) none (some (CS.mk [(AV.bool (false))] []))) none))))) none) none) none)
  (cond ((!decide (ix ≤ 4611686018427387840)) == false) none (cond ((!decide (ix ≤ 4611686018427387840)) == false) none (cond ((!decide (ix ≤ 4611686018427387840)) == false) none (cond ((!decide (ix ≤ 4611686018427387840)) == false) none (cond (!decide (ix ≤ 4611686018427387840)) (some (CS.mk [(AV.bool (false))] [])) none)))))) none) none) none)
  (cond (decide (ix ≥ 1) == true) none (cond (decide (ix ≥ 1) == true) none (cond (decide (ix ≥ 1)) none (some (CS.mk [(AV.bool (false))] [])))))) := by kernel_rfl
theorem k13_eq (ix : Int) (tm : Int) (st : Int) (kd : Int) (cl : Int) (rq : Int) (fr : Int) (ct : Int) (d : List Nat) (nd : Int) (bh : Int) (bl : Int) (nl : Bool) (n : Nat) (f : Nat → Nat → AV) (hy0 : (Nat.ble n 1000000) = true) : k13 ix tm st kd cl rq fr ct d nd bh bl nl n f k13_p = (cond (decide (ix ≥ 1))
  (cond (decide (ix ≤ 4611686018427387840))
  (cond (decide (tm ≥ 1))
  (cond (decide (tm ≤ 4611686018427387904))
  (cond (decide (st ≥ 1))
  (cond (decide (st ≤ 4611686018427387904))
  (cond (decide ((↑n : Int) > bh))
  (some (CS.mk [(AV.bool (false))] []))
  (cond (decide (IntKind.wrap IntKind.u64 (↑n : Int) ≥ ix))
  (some (CS.mk [(AV.bool (false))] []))
  (cond (allA askP f bl n)
  (cond (kd == 1)
  (cond (askP cl rq fr ct bl)
  (some (CS.mk [(AV.bool ((↑(List.length d) : Int) == IntKind.wrap IntKind.i64 (8 * IntKind.wrap IntKind.i64 ct)))] []))
  (some (CS.mk [(AV.bool (false))] [])))
  (cond (kd == 2)
  (cond (cl == 0 && (rq == 0 && (fr == 0 && (ct == 0 && true) && true)))
  (some (CS.mk [(AV.bool (d == bytesOf { data := #[] }))] []))
  (some (CS.mk [(AV.bool (false))] [])))
  (some (CS.mk [(AV.bool (false))] []))))
  (some (CS.mk [(AV.bool (false))] [])))))
  (some (CS.mk [(AV.bool (false))] [])))
  (some (CS.mk [(AV.bool (false))] [])))
  (some (CS.mk [(AV.bool (false))] [])))
  (some (CS.mk [(AV.bool (false))] [])))
  (some (CS.mk [(AV.bool (false))] [])))
  (some (CS.mk [(AV.bool (false))] []))) := by
  rw [k13_is]
  try simp only [hy0, eq_self, decide_true, beq_self_eq_true, Nat.beq_refl, ble_self, Int.le_refl, Nat.le_refl]
  cases (decide (ix ≥ 1)) with
  | true =>
    cases (decide (ix ≤ 4611686018427387840)) with
    | true =>
      cases (decide (tm ≥ 1)) with
      | true =>
        cases (decide (tm ≤ 4611686018427387904)) with
        | true =>
          cases (decide (st ≥ 1)) with
          | true =>
            cases (decide (st ≤ 4611686018427387904)) with
            | true =>
              cases (decide ((↑n : Int) > bh)) with
              | true =>
                rfl
              | false =>
                cases (decide (IntKind.wrap IntKind.u64 (↑n : Int) ≥ ix)) with
                | true =>
                  rfl
                | false =>
                  cases (allA askP f bl n) with
                  | true =>
                    cases (kd == 1) with
                    | true =>
                      cases (askP cl rq fr ct bl) with
                      | true =>
                        rfl
                      | false =>
                        rfl
                    | false =>
                      cases (kd == 2) with
                      | true =>
                        cases (cl == 0 && (rq == 0 && (fr == 0 && (ct == 0 && true) && true))) with
                        | true =>
                          rfl
                        | false =>
                          rfl
                      | false =>
                        rfl
                  | false =>
                    rfl
            | false =>
              rfl
          | false =>
            rfl
        | false =>
          rfl
      | false =>
        rfl
    | false =>
      rfl
  | false =>
    rfl

noncomputable def k14 (ix : Int) (tm : Int) (st : Int) (kd : Int) (cl : Int) (rq : Int) (fr : Int) (ct : Int) (d : List Nat) (nd : Int) (bh : Int) (bl : Int) (nl : Bool) (n : Nat) (f : Nat → Nat → AV) (π : Plan) : Option CS := callC (E6) (1000) (14) (0) (.keep) ([]) π (a13 ix tm st kd cl rq fr ct d nd bh bl nl n f)
def k14_p : Plan := (.fork (.must true (.must true (.must false (.fork (.must true (.must true (.must false (.fork (.must true (.must true (.must false (.fork (.must true (.must true (.must false (.fork (.must true (.must true (.must false (.fork .stop (.fork (.must true (.must true (.must true (.must true (.must true (.must true (.fork (.must true (.must true (.must true (.must true (.must true (.must true (.must true (.must true (.must true (.must false (.must true (.must true (.must true (.must true (.must true (.must true (.must true (.must true (.must true (.must true (.must true (.must true (.must true (.must true (.must true (.must true (.must true (.reck 1 (.must true (.must true (.must true (.fork .stop (.fork (.must true (.must true (.must true (.must true (.fork (.must true (.must true (.must true (.must false (.must true (.fork .stop (.fork (.must true (.must true (.must true (.fork (.must true (.must true (.must true (.must true (.must true (.must false (.fork (.must true (.must true (.must true (.must true (.must true (.must true (.must false (.fork .stop (.reck 1 (.must true (.reck 1 (.must true (.must true (.fork .stop .stop)))))))))))))) (.must false (.must false (.must false (.must false (.must false (.must false (.must true .stop)))))))))))))) (.must false (.must false (.must false (.must false (.must false (.must true .stop)))))))))) (.must false (.must false (.must false (.reck 7 (.fork (.must true (.must true (.must true (.must true (.must true (.must true (.must false (.fork .stop (.reck 1 (.must true (.reck 1 (.must true (.must true (.fork .stop .stop)))))))))))))) (.must false (.must false (.must false (.must false (.must false (.must false (.must true .stop))))))))))))))))))) (.must false (.must false (.must true (.must true (.must true .stop)))))))))) (.must false (.must false (.must false (.must false (.must false (.must false (.reck 1 (.fork (.must true (.must true (.must true (.fork (.must true (.must true (.must true (.must true (.must true (.must false (.fork (.must true (.must true (.must true (.must true (.must true (.must true (.must false (.fork .stop (.reck 1 (.must true (.reck 1 (.must true (.must true (.fork .stop .stop)))))))))))))) (.must false (.must false (.must false (.must false (.must false (.must false (.must true .stop)))))))))))))) (.must false (.must false (.must false (.must false (.must false (.must true .stop)))))))))) (.must false (.must false (.must false (.reck 7 (.fork (.must true (.must true (.must true (.must true (.must true (.must true (.must false (.fork .stop (.reck 1 (.must true (.reck 1 (.must true (.must true (.fork .stop .stop)))))))))))))) (.must false (.must false (.must false (.must false (.must false (.must false (.must true .stop))))))))))))))))))))))))))))))))))))))))))))))))))))) (.must false (.must false (.must false (.must false (.must false (.must false (.must false (.must false (.must true (.must true (.must true (.must true (.must true (.must true (.must true (.must true (.must true (.must true (.must true (.must true (.must true (.must true (.must true (.reck 1 (.must true (.must true (.must true .stop)))))))))))))))))))))))))))))))))) (.must false (.must false (.must false (.must false (.must false (.must false (.must false (.must false (.must true (.reck 1 (.fork (.must true (.must true (.must true (.must true (.fork (.must true (.must true (.must true (.must false (.must true (.fork .stop (.fork (.must true (.must true (.must true (.fork (.must true (.must true (.must true (.must true (.must true (.must false (.fork (.must true (.must true (.must true (.must true (.must true (.must true (.must false (.fork .stop (.reck 1 (.must true (.reck 1 (.must true (.must true (.fork .stop .stop)))))))))))))) (.must false (.must false (.must false (.must false (.must false (.must false (.must true .stop)))))))))))))) (.must false (.must false (.must false (.must false (.must false (.must true .stop)))))))))) (.must false (.must false (.must false (.reck 7 (.fork (.must true (.must true (.must true (.must true (.must true (.must true (.must false (.fork .stop (.reck 1 (.must true (.reck 1 (.must true (.must true (.fork .stop .stop)))))))))))))) (.must false (.must false (.must false (.must false (.must false (.must false (.must true .stop))))))))))))))))))) (.must false (.must false (.must true (.must true (.must true .stop)))))))))) (.must false (.must false (.must false (.must false (.must false (.must false (.reck 1 (.fork (.must true (.must true (.must true (.fork (.must true (.must true (.must true (.must true (.must true (.must false (.fork (.must true (.must true (.must true (.must true (.must true (.must true (.must false (.fork .stop (.reck 1 (.must true (.reck 1 (.must true (.must true (.fork .stop .stop)))))))))))))) (.must false (.must false (.must false (.must false (.must false (.must false (.must true .stop)))))))))))))) (.must false (.must false (.must false (.must false (.must false (.must true .stop)))))))))) (.must false (.must false (.must false (.reck 7 (.fork (.must true (.must true (.must true (.must true (.must true (.must true (.must false (.fork .stop (.reck 1 (.must true (.reck 1 (.must true (.must true (.fork .stop .stop)))))))))))))) (.must false (.must false (.must false (.must false (.must false (.must false (.must true .stop)))))))))))))))))))))))))))))))))))) (.must false (.must false (.must true .stop))))))) (.must false (.must false (.must true .stop))))))) (.must false (.must false (.must true .stop))))))) (.must false (.must false (.must true .stop))))))) (.must false (.must false (.must true .stop))))
theorem k14_is (ix : Int) (tm : Int) (st : Int) (kd : Int) (cl : Int) (rq : Int) (fr : Int) (ct : Int) (d : List Nat) (nd : Int) (bh : Int) (bl : Int) (nl : Bool) (n : Nat) (f : Nat → Nat → AV) : k14 ix tm st kd cl rq fr ct d nd bh bl nl n f k14_p = (cond (decide (ix < 1) == false)
  (cond (decide (ix < 1) == false) (cond (decide (ix < 1) == false) (cond (decide (ix < 1)) none (cond (decide (ix > 4611686018427387840) == false)
  (cond (decide (ix > 4611686018427387840) == false) (cond (decide (ix > 4611686018427387840) == false) (cond (decide (ix > 4611686018427387840)) none (cond (decide (tm < 1) == false)
  (cond (decide (tm < 1) == false) (cond (decide (tm < 1) == false) (cond (decide (tm < 1)) none (cond (decide (tm > 4611686018427387904) == false)
  (cond (decide (tm > 4611686018427387904) == false) (cond (decide (tm > 4611686018427387904) == false) (cond (decide (tm > 4611686018427387904)) none (cond (decide (st < 1) == false)
  (cond (decide (st < 1) == false) (cond (decide (st < 1) == false) (cond (decide (st < 1)) none (cond (decide (st > 4611686018427387904))
  (some (CS.mk [(AV.bool (false))] []))
  (cond ((kd == 1) == true)
  (cond ((kd == 1) == true) (cond ((kd == 1) == true) (cond ((kd == 1) == true) (cond ((kd == 1) == true) (cond ((kd == 1) == true) (cond ((kd == 1) == true) (cond ((!askR cl rq fr ct bl) == false)
  (cond ((!askR cl rq fr ct bl) == false) (cond ((!askR cl rq fr ct bl) == false) (cond ((!askR cl rq fr ct bl) == false) (cond ((!askR cl rq fr ct bl) == false) (cond ((!askR cl rq fr ct bl) == false) (cond ((!askR cl rq fr ct bl) == false) (cond ((!askR cl rq fr ct bl) == false) (cond ((!askR cl rq fr ct bl) == false) (cond ((kd == 1) == true) (cond (!askR cl rq fr ct bl) none (cond (kd == 1) (cond (decide (IntKind.wrap IntKind.i64 ct = IntKind.wrap IntKind.i64 ct)) (cond (decide (ct = ct)) (cond (decide ((↑(List.length d) : Int) = (↑(List.length d) : Int))) (cond (d == d) (cond (decide (bl = bl)) (cond (decide (bl = bl)) (cond (decide (ix = ix)) (cond (decide (tm = tm)) (cond (decide (st = st)) (cond (decide (kd = kd)) (cond (decide (cl = cl)) (cond (decide (rq = rq)) (cond (decide (fr = fr)) (cond (decide (ct = ct)) (cond (d == d) (cond (nl == nl) (cond (Nat.beq n n) (cond (Nat.beq n n) (cond (decide (kd = kd)) (cond ((↑(List.length d) : Int) != IntKind.wrap IntKind.i64 (8 * IntKind.wrap IntKind.i64 ct))
  (some (CS.mk [(AV.bool (false))] []))
  (cond ((kd == 2) == true)
  (cond ((kd == 2) == true) (cond ((kd == 2) == true) (cond ((kd == 2) == true) (cond ((kd == 2) == true) (cond ((!(cl == 0 && (rq == 0 && (fr == 0 && (ct == 0 && true) && true)))) == false)
  (cond ((!(cl == 0 && (rq == 0 && (fr == 0 && (ct == 0 && true) && true)))) == false) (cond ((!(cl == 0 && (rq == 0 && (fr == 0 && (ct == 0 && true) && true)))) == false) (cond ((kd == 2) == true) (cond (!(cl == 0 && (rq == 0 && (fr == 0 && (ct == 0 && true) && true)))) none (cond (kd == 2) (cond (!d == bytesOf { data := #[] })
  (some (CS.mk [(AV.bool (false))] []))
  (cond ((kd != 1) == true)
  (cond ((kd != 1) == true) (cond ((kd != 1) == true) (cond (kd != 1) (cond ((kd != 2) == false)
  (cond ((kd != 2) == false) (cond ((kd != 2) == false) (cond ((kd != 2) == false) (cond ((kd != 2) == false) (cond ((kd != 2) == false) (cond (kd != 2) none (cond (decide ((↑n : Int) > bh) == false)
  (cond (decide ((↑n : Int) > bh) == false) (cond (decide ((↑n : Int) > bh) == false) (cond (decide ((↑n : Int) > bh) == false) (cond (decide ((↑n : Int) > bh) == false) (cond (decide ((↑n : Int) > bh) == false) (cond (decide ((↑n : Int) > bh) == false) (cond (decide ((↑n : Int) > bh)) none (cond (decide (IntKind.wrap IntKind.u64 (↑n : Int) ≥ ix))
  (some (CS.mk [(AV.bool (false))] []))
  (cond (decide (n = n)) (cond (decide (n = n)) (cond (Nat.ble n 1000000) (cond (allA askR f bl n)
  (some (CS.mk [(AV.bool (true))] []))
  (some (CS.mk [(AV.bool (false))] []))) none) none) none))) none) none) none) none) none) none)
  (cond (decide ((↑n : Int) > bh) == false) none (cond (decide ((↑n : Int) > bh) == false) none (cond (decide ((↑n : Int) > bh) == false) none (cond (decide ((↑n : Int) > bh) == false) none (cond (decide ((↑n : Int) > bh) == false) none (cond (decide ((↑n : Int) > bh) == false) none (cond (decide ((↑n : Int) > bh)) (some (CS.mk [(AV.bool (false))] [])) none))))))))) none) none) none) none) none)
  (cond ((kd != 2) == false) none (cond ((kd != 2) == false) none (cond ((kd != 2) == false) none (cond ((kd != 2) == false) none (cond ((kd != 2) == false) none (cond (kd != 2) (some (CS.mk [(AV.bool (false))] [])) none))))))) none) none) none)
  (cond ((kd != 1) == true) none (cond ((kd != 1) == true) none (cond (kd != 1) none (cond (decide ((↑n : Int) > bh) == false)
  (cond (decide ((↑n : Int) > bh) == false) (cond (decide ((↑n : Int) > bh) == false) (cond (decide ((↑n : Int) > bh) == false) (cond (decide ((↑n : Int) > bh) == false) (cond (decide ((↑n : Int) > bh) == false) (cond (decide ((↑n : Int) > bh) == false) (cond (decide ((↑n : Int) > bh)) none (cond (decide (IntKind.wrap IntKind.u64 (↑n : Int) ≥ ix))
  (some (CS.mk [(AV.bool (false))] []))
  (cond (decide (n = n)) (cond (decide (n = n)) (cond (Nat.ble n 1000000) (cond (allA askR f bl n)
  (some (CS.mk [(AV.bool (true))] []))
  (some (CS.mk [(AV.bool (false))] []))) none) none) none))) none) none) none) none) none) none)
  (cond (decide ((↑n : Int) > bh) == false) none (cond (decide ((↑n : Int) > bh) == false) none (cond (decide ((↑n : Int) > bh) == false) none (cond (decide ((↑n : Int) > bh) == false) none (cond (decide ((↑n : Int) > bh) == false) none (cond (decide ((↑n : Int) > bh) == false) none (cond (decide ((↑n : Int) > bh)) (some (CS.mk [(AV.bool (false))] [])) none))))))))))))) none)) none) none) none)
  (cond ((!(cl == 0 && (rq == 0 && (fr == 0 && (ct == 0 && true) && true)))) == false) none (cond ((!(cl == 0 && (rq == 0 && (fr == 0 && (ct == 0 && true) && true)))) == false) none (cond ((kd == 2) == true) (cond (!(cl == 0 && (rq == 0 && (fr == 0 && (ct == 0 && true) && true)))) (cond (kd == 2) (some (CS.mk [(AV.bool (false))] [])) none) none) none)))) none) none) none) none)
  (cond ((kd == 2) == true) none (cond ((kd == 2) == true) none (cond ((kd == 2) == true) none (cond ((kd == 2) == true) none (cond ((kd == 2) == true) none (cond (kd == 2) none (cond ((kd != 1) == true)
  (cond ((kd != 1) == true) (cond ((kd != 1) == true) (cond (kd != 1) (cond ((kd != 2) == false)
  (cond ((kd != 2) == false) (cond ((kd != 2) == false) (cond ((kd != 2) == false) (cond ((kd != 2) == false) (cond ((kd != 2) == false) (cond (kd != 2) none (cond (decide ((↑n : Int) > bh) == false)
  (cond (decide ((↑n : Int) > bh) == false) (cond (decide ((↑n : Int) > bh) == false) (cond (decide ((↑n : Int) > bh) == false) (cond (decide ((↑n : Int) > bh) == false) (cond (decide ((↑n : Int) > bh) == false) (cond (decide ((↑n : Int) > bh) == false) (cond (decide ((↑n : Int) > bh)) none (cond (decide (IntKind.wrap IntKind.u64 (↑n : Int) ≥ ix))
  (some (CS.mk [(AV.bool (false))] []))
  (cond (decide (n = n)) (cond (decide (n = n)) (cond (Nat.ble n 1000000) (cond (allA askR f bl n)
  (some (CS.mk [(AV.bool (true))] []))
  (some (CS.mk [(AV.bool (false))] []))) none) none) none))) none) none) none) none) none) none)
  (cond (decide ((↑n : Int) > bh) == false) none (cond (decide ((↑n : Int) > bh) == false) none (cond (decide ((↑n : Int) > bh) == false) none (cond (decide ((↑n : Int) > bh) == false) none (cond (decide ((↑n : Int) > bh) == false) none (cond (decide ((↑n : Int) > bh) == false) none (cond (decide ((↑n : Int) > bh)) (some (CS.mk [(AV.bool (false))] [])) none))))))))) none) none) none) none) none)
  (cond ((kd != 2) == false) none (cond ((kd != 2) == false) none (cond ((kd != 2) == false) none (cond ((kd != 2) == false) none (cond ((kd != 2) == false) none (cond (kd != 2) (some (CS.mk [(AV.bool (false))] [])) none))))))) none) none) none)
  (cond ((kd != 1) == true) none (cond ((kd != 1) == true) none (cond (kd != 1) none (cond (decide ((↑n : Int) > bh) == false)
  (cond (decide ((↑n : Int) > bh) == false) (cond (decide ((↑n : Int) > bh) == false) (cond (decide ((↑n : Int) > bh) == false) (cond (decide ((↑n : Int) > bh) == false) (cond (decide ((↑n : Int) > bh) == false) (cond (decide ((↑n : Int) > bh) == false) (cond (decide ((↑n : Int) > bh)) none (cond (decide (IntKind.wrap IntKind.u64 (↑n : Int) ≥ ix))
  (some (CS.mk [(AV.bool (false))] []))
  (cond (decide (n = n)) (cond (decide (n = n)) (cond (Nat.ble n 1000000) (cond (allA askR f bl n)
  (some (CS.mk [(AV.bool (true))] []))
  (some (CS.mk [(AV.bool (false))] []))) none) none) none))) none) none) none) none) none) none)
  (cond (decide ((↑n : Int) > bh) == false) none (cond (decide ((↑n : Int) > bh) == false) none (cond (decide ((↑n : Int) > bh) == false) none (cond (decide ((↑n : Int) > bh) == false) none (cond (decide ((↑n : Int) > bh) == false) none (cond (decide ((↑n : Int) > bh) == false) none (cond (decide ((↑n : Int) > bh)) (some (CS.mk [(AV.bool (false))] [])) none)))))))))))))))))))) none) none) none) none) none) none) none) none) none) none) none) none) none) none) none) none) none) none) none) none)) none) none) none) none) none) none) none) none) none)
  (cond ((!askR cl rq fr ct bl) == false) none (cond ((!askR cl rq fr ct bl) == false) none (cond ((!askR cl rq fr ct bl) == false) none (cond ((!askR cl rq fr ct bl) == false) none (cond ((!askR cl rq fr ct bl) == false) none (cond ((!askR cl rq fr ct bl) == false) none (cond ((!askR cl rq fr ct bl) == false) none (cond ((!askR cl rq fr ct bl) == false) none (cond ((kd == 1) == true) (cond (!askR cl rq fr ct bl) (cond (kd == 1) (cond (decide (bl = bl)) (cond (decide (bl = bl)) (cond (decide (ix = ix)) (cond (decide (tm = tm)) (cond (decide (st = st)) (cond (decide (kd = kd)) (cond (decide (cl = cl)) (cond (decide (rq = rq)) (cond (decide (fr = fr)) (cond (decide (ct = ct)) (cond (d == d) (cond (nl == nl) (cond (Nat.beq n n) (cond (Nat.beq n n) (cond (decide (kd = kd)) (some (CS.mk [(AV.bool (false))] [])) none) none) none) none) none) none) none) none) none) none) none) none) none) none) none) none) none) none)))))))))) none) none) none) none) none) none)
  (cond ((kd == 1) == true) none (cond ((kd == 1) == true) none (cond ((kd == 1) == true) none (cond ((kd == 1) == true) none (cond ((kd == 1) == true) none (cond ((kd == 1) == true) none (cond ((kd == 1) == true) none (cond (kd == 1) none (cond (decide (kd = kd)) (cond ((kd == 2) == true)
  (cond ((kd == 2) == true) (cond ((kd == 2) == true) (cond ((kd == 2) == true) (cond ((kd == 2) == true) (cond ((!(cl == 0 && (rq == 0 && (fr == 0 && (ct == 0 && true) && true)))) == false)
  (cond ((!(cl == 0 && (rq == 0 && (fr == 0 && (ct == 0 && true) && true)))) == false) (cond ((!(cl == 0 && (rq == 0 && (fr == 0 && (ct == 0 && true) && true)))) == false) (cond ((kd == 2) == true) (cond (!(cl == 0 && (rq == 0 && (fr == 0 && (ct == 0 && true) && true)))) none (cond (kd == 2) (cond (!d == bytesOf { data := #[] })
  (some (CS.mk [(AV.bool (false))] []))
  (cond ((kd != 1) == true)
  (cond ((kd != 1) == true) (cond ((kd != 1) == true) (cond (kd != 1) (cond ((kd != 2) == false)
  (cond ((kd != 2) == false) (cond ((kd != 2) == false) (cond ((kd != 2) == false) (cond ((kd != 2) == false) (cond ((kd != 2) == false) (cond (kd != 2) none (cond (decide ((↑n : Int) > bh) == false)
  (cond (decide ((↑n : Int) > bh) == false) (cond (decide ((↑n : Int) > bh) == false) (cond (decide ((↑n : Int) > bh) == false) (cond (decide ((↑n : Int) > bh) == false) (cond (decide ((↑n : Int) > bh) == false) (cond (decide ((↑n : Int) > bh) == false) (cond (decide ((↑n : Int) > bh)) none (cond (decide (IntKind.wrap IntKind.u64 (↑n : Int) ≥ ix))
  (some (CS.mk [(AV.bool (false))] []))
  (cond (decide (n = n)) (cond (decide (n = n)) (cond (Nat.ble n 1000000) (cond (allA askR f bl n)
  (some (CS.mk [(AV.bool (true))] []))
  (some (CS.mk [(AV.bool (false))] []))) none) none) none))) none) none) none) none) none) none)
  (cond (decide ((↑n : Int) > bh) == false) none (cond (decide ((↑n : Int) > bh) == false) none (cond (decide ((↑n : Int) > bh) == false) none (cond (decide ((↑n : Int) > bh) == false) none (cond (decide ((↑n : Int) > bh) == false) none (cond (decide ((↑n : Int) > bh) == false) none (cond (decide ((↑n : Int) > bh)) (some (CS.mk [(AV.bool (false))] [])) none))))))))) none) none) none) none) none)
  (cond ((kd != 2) == false) none (cond ((kd != 2) == false) none (cond ((kd != 2) == false) none (cond ((kd != 2) == false) none (cond ((kd != 2) == false) none (cond (kd != 2) (some (CS.mk [(AV.bool (false))] [])) none))))))) none) none) none)
  (cond ((kd != 1) == true) none (cond ((kd != 1) == true) none (cond (kd != 1) none (cond (decide ((↑n : Int) > bh) == false)
  (cond (decide ((↑n : Int) > bh) == false) (cond (decide ((↑n : Int) > bh) == false) (cond (decide ((↑n : Int) > bh) == false) (cond (decide ((↑n : Int) > bh) == false) (cond (decide ((↑n : Int) > bh) == false) (cond (decide ((↑n : Int) > bh) == false) (cond (decide ((↑n : Int) > bh)) none (cond (decide (IntKind.wrap IntKind.u64 (↑n : Int) ≥ ix))
  (some (CS.mk [(AV.bool (false))] []))
  (cond (decide (n = n)) (cond (decide (n = n)) (cond (Nat.ble n 1000000) (cond (allA askR f bl n)
  (some (CS.mk [(AV.bool (true))] []))
  (some (CS.mk [(AV.bool (false))] []))) none) none) none))) none) none) none) none) none) none)
  (cond (decide ((↑n : Int) > bh) == false) none (cond (decide ((↑n : Int) > bh) == false) none (cond (decide ((↑n : Int) > bh) == false) none (cond (decide ((↑n : Int) > bh) == false) none (cond (decide ((↑n : Int) > bh) == false) none (cond (decide ((↑n : Int) > bh) == false) none (cond (decide ((↑n : Int) > bh)) (some (CS.mk [(AV.bool (false))] [])) none))))))))))))) none)) none) none) none)
  (cond ((!(cl == 0 && (rq == 0 && (fr == 0 && (ct == 0 && true) && true)))) == false) none (cond ((!(cl == 0 && (rq == 0 && (fr == 0 && (ct == 0 && true) && true)))) == false) none (cond ((kd == 2) == true) (cond (!(cl == 0 && (rq == 0 && (fr == 0 && (ct == 0 && true) && true)))) (cond (kd == 2) (some (CS.mk [(AV.bool (false))] [])) none) none) none)))) none) none) none) none)
  (cond ((kd == 2) == true) none (cond ((kd == 2) == true) none (cond ((kd == 2) == true) none (cond ((kd == 2) == true) none (cond ((kd == 2) == true) none (cond (kd == 2) none (cond ((kd != 1) == true)
  (cond ((kd != 1) == true) (cond ((kd != 1) == true) (cond (kd != 1) (cond ((kd != 2) == false)
  (cond ((kd != 2) == false) (cond ((kd != 2) == false) (cond ((kd != 2) == false) (cond ((kd != 2) == false) (cond ((kd != 2) == false) (cond (kd != 2) none (cond (decide ((↑n : Int) > bh) == false)
  (cond (decide ((↑n : Int) > bh) == false) (cond (decide ((↑n : Int) > bh) == false) (cond (decide ((↑n : Int) > bh) == false) (cond (decide ((↑n : Int) > bh) == false) (cond (decide ((↑n : Int) > bh) == false) (cond (decide ((↑n : Int) > bh) == false) (cond (decide ((↑n : Int) > bh)) none (cond (decide (IntKind.wrap IntKind.u64 (↑n : Int) ≥ ix))
  (some (CS.mk [(AV.bool (false))] []))
  (cond (decide (n = n)) (cond (decide (n = n)) (cond (Nat.ble n 1000000) (cond (allA askR f bl n)
  (some (CS.mk [(AV.bool (true))] []))
  (some (CS.mk [(AV.bool (false))] []))) none) none) none))) none) none) none) none) none) none)
  (cond (decide ((↑n : Int) > bh) == false) none (cond (decide ((↑n : Int) > bh) == false) none (cond (decide ((↑n : Int) > bh) == false) none (cond (decide ((↑n : Int) > bh) == false) none (cond (decide ((↑n : Int) > bh) == false) none (cond (decide ((↑n : Int) > bh) == false) none (cond (decide ((↑n : Int) > bh)) (some (CS.mk [(AV.bool (false))] [])) none))))))))) none) none) none) none) none)
  (cond ((kd != 2) == false) none (cond ((kd != 2) == false) none (cond ((kd != 2) == false) none (cond ((kd != 2) == false) none (cond ((kd != 2) == false) none (cond (kd != 2) (some (CS.mk [(AV.bool (false))] [])) none))))))) none) none) none)
  (cond ((kd != 1) == true) none (cond ((kd != 1) == true) none (cond (kd != 1) none (cond (decide ((↑n : Int) > bh) == false)
  (cond (decide ((↑n : Int) > bh) == false) (cond (decide ((↑n : Int) > bh) == false) (cond (decide ((↑n : Int) > bh) == false) (cond (decide ((↑n : Int) > bh) == false) (cond (decide ((↑n : Int) > bh) == false) (cond (decide ((↑n : Int) > bh) == false) (cond (decide ((↑n : Int) > bh)) none (cond (decide (IntKind.wrap IntKind.u64 (↑n : Int) ≥ ix))
  (some (CS.mk [(AV.bool (false))] []))
  (cond (decide (n = n)) (cond (decide (n = n)) (cond (Nat.ble n 1000000) (cond (allA askR f bl n)
  (some (CS.mk [(AV.bool (true))] []))
  (some (CS.mk [(AV.bool (false))] []))) none) none) none))) none) none) none) none) none) none)
  (cond (decide ((↑n : Int) > bh) == false) none (cond (decide ((↑n : Int) > bh) == false) none (cond (decide ((↑n : Int) > bh) == false) none (cond (decide ((↑n : Int) > bh) == false) none (cond (decide ((↑n : Int) > bh) == false) none (cond (decide ((↑n : Int) > bh) == false) none (cond (decide ((↑n : Int) > bh)) (some (CS.mk [(AV.bool (false))] [])) none))))))))))))))))))) none)))))))))))) none) none)
  (cond (decide (st < 1) == false) none (cond (decide (st < 1) == false) none (cond (decide (st < 1)) (some (CS.mk [(AV.bool (false))] [])) none))))) none) none)
  (cond (decide (tm > 4611686018427387904) == false) none (cond (decide (tm > 4611686018427387904) == false) none (cond (decide (tm > 4611686018427387904)) (some (CS.mk [(AV.bool (false))] [])) none))))) none) none)
  (cond (decide (tm < 1) == false) none (cond (decide (tm < 1) == false) none (cond (decide (tm < 1)) (some (CS.mk [(AV.bool (false))] [])) none))))) none) none)
  (cond (decide (ix > 4611686018427387840) == false) none (cond (decide (ix > 4611686018427387840) == false) none (cond (decide (ix > 4611686018427387840)) (some (CS.mk [(AV.bool (false))] [])) none))))) none) none)
  (cond (decide (ix < 1) == false) none (cond (decide (ix < 1) == false) none (cond (decide (ix < 1)) (some (CS.mk [(AV.bool (false))] [])) none)))) := by kernel_rfl
theorem k14_eq (ix : Int) (tm : Int) (st : Int) (kd : Int) (cl : Int) (rq : Int) (fr : Int) (ct : Int) (d : List Nat) (nd : Int) (bh : Int) (bl : Int) (nl : Bool) (n : Nat) (f : Nat → Nat → AV) (hy0 : (Nat.ble n 1000000) = true) : k14 ix tm st kd cl rq fr ct d nd bh bl nl n f k14_p = (cond (decide (ix < 1))
  (some (CS.mk [(AV.bool (false))] []))
  (cond (decide (ix > 4611686018427387840))
  (some (CS.mk [(AV.bool (false))] []))
  (cond (decide (tm < 1))
  (some (CS.mk [(AV.bool (false))] []))
  (cond (decide (tm > 4611686018427387904))
  (some (CS.mk [(AV.bool (false))] []))
  (cond (decide (st < 1))
  (some (CS.mk [(AV.bool (false))] []))
  (cond (decide (st > 4611686018427387904))
  (some (CS.mk [(AV.bool (false))] []))
  (cond (kd == 1)
  (cond (askR cl rq fr ct bl)
  (cond ((↑(List.length d) : Int) != IntKind.wrap IntKind.i64 (8 * IntKind.wrap IntKind.i64 ct))
  (some (CS.mk [(AV.bool (false))] []))
  (cond (kd == 2)
  (cond (cl == 0 && (rq == 0 && (fr == 0 && (ct == 0 && true) && true)))
  (cond (d == bytesOf { data := #[] })
  (cond (kd != 1)
  (cond (kd != 2)
  (some (CS.mk [(AV.bool (false))] []))
  (cond (decide ((↑n : Int) > bh))
  (some (CS.mk [(AV.bool (false))] []))
  (cond (decide (IntKind.wrap IntKind.u64 (↑n : Int) ≥ ix))
  (some (CS.mk [(AV.bool (false))] []))
  (cond (allA askR f bl n)
  (some (CS.mk [(AV.bool (true))] []))
  (some (CS.mk [(AV.bool (false))] []))))))
  (cond (decide ((↑n : Int) > bh))
  (some (CS.mk [(AV.bool (false))] []))
  (cond (decide (IntKind.wrap IntKind.u64 (↑n : Int) ≥ ix))
  (some (CS.mk [(AV.bool (false))] []))
  (cond (allA askR f bl n)
  (some (CS.mk [(AV.bool (true))] []))
  (some (CS.mk [(AV.bool (false))] []))))))
  (some (CS.mk [(AV.bool (false))] [])))
  (some (CS.mk [(AV.bool (false))] [])))
  (cond (kd != 1)
  (cond (kd != 2)
  (some (CS.mk [(AV.bool (false))] []))
  (cond (decide ((↑n : Int) > bh))
  (some (CS.mk [(AV.bool (false))] []))
  (cond (decide (IntKind.wrap IntKind.u64 (↑n : Int) ≥ ix))
  (some (CS.mk [(AV.bool (false))] []))
  (cond (allA askR f bl n)
  (some (CS.mk [(AV.bool (true))] []))
  (some (CS.mk [(AV.bool (false))] []))))))
  (cond (decide ((↑n : Int) > bh))
  (some (CS.mk [(AV.bool (false))] []))
  (cond (decide (IntKind.wrap IntKind.u64 (↑n : Int) ≥ ix))
  (some (CS.mk [(AV.bool (false))] []))
  (cond (allA askR f bl n)
  (some (CS.mk [(AV.bool (true))] []))
  (some (CS.mk [(AV.bool (false))] []))))))))
  (some (CS.mk [(AV.bool (false))] [])))
  (cond (kd == 2)
  (cond (cl == 0 && (rq == 0 && (fr == 0 && (ct == 0 && true) && true)))
  (cond (d == bytesOf { data := #[] })
  (cond (kd != 1)
  (cond (kd != 2)
  (some (CS.mk [(AV.bool (false))] []))
  (cond (decide ((↑n : Int) > bh))
  (some (CS.mk [(AV.bool (false))] []))
  (cond (decide (IntKind.wrap IntKind.u64 (↑n : Int) ≥ ix))
  (some (CS.mk [(AV.bool (false))] []))
  (cond (allA askR f bl n)
  (some (CS.mk [(AV.bool (true))] []))
  (some (CS.mk [(AV.bool (false))] []))))))
  (cond (decide ((↑n : Int) > bh))
  (some (CS.mk [(AV.bool (false))] []))
  (cond (decide (IntKind.wrap IntKind.u64 (↑n : Int) ≥ ix))
  (some (CS.mk [(AV.bool (false))] []))
  (cond (allA askR f bl n)
  (some (CS.mk [(AV.bool (true))] []))
  (some (CS.mk [(AV.bool (false))] []))))))
  (some (CS.mk [(AV.bool (false))] [])))
  (some (CS.mk [(AV.bool (false))] [])))
  (cond (kd != 1)
  (cond (kd != 2)
  (some (CS.mk [(AV.bool (false))] []))
  (cond (decide ((↑n : Int) > bh))
  (some (CS.mk [(AV.bool (false))] []))
  (cond (decide (IntKind.wrap IntKind.u64 (↑n : Int) ≥ ix))
  (some (CS.mk [(AV.bool (false))] []))
  (cond (allA askR f bl n)
  (some (CS.mk [(AV.bool (true))] []))
  (some (CS.mk [(AV.bool (false))] []))))))
  (cond (decide ((↑n : Int) > bh))
  (some (CS.mk [(AV.bool (false))] []))
  (cond (decide (IntKind.wrap IntKind.u64 (↑n : Int) ≥ ix))
  (some (CS.mk [(AV.bool (false))] []))
  (cond (allA askR f bl n)
  (some (CS.mk [(AV.bool (true))] []))
  (some (CS.mk [(AV.bool (false))] [])))))))))))))) := by
  rw [k14_is]
  try simp only [hy0, eq_self, decide_true, beq_self_eq_true, Nat.beq_refl, ble_self, Int.le_refl, Nat.le_refl]
  cases (decide (ix < 1)) with
  | true =>
    rfl
  | false =>
    cases (decide (ix > 4611686018427387840)) with
    | true =>
      rfl
    | false =>
      cases (decide (tm < 1)) with
      | true =>
        rfl
      | false =>
        cases (decide (tm > 4611686018427387904)) with
        | true =>
          rfl
        | false =>
          cases (decide (st < 1)) with
          | true =>
            rfl
          | false =>
            cases (decide (st > 4611686018427387904)) with
            | true =>
              rfl
            | false =>
              cases (kd == 1) with
              | true =>
                cases (askR cl rq fr ct bl) with
                | true =>
                  cases ((↑(List.length d) : Int) != IntKind.wrap IntKind.i64 (8 * IntKind.wrap IntKind.i64 ct)) with
                  | true =>
                    rfl
                  | false =>
                    cases (kd == 2) with
                    | true =>
                      cases (cl == 0 && (rq == 0 && (fr == 0 && (ct == 0 && true) && true))) with
                      | true =>
                        cases (d == bytesOf { data := #[] }) with
                        | true =>
                          cases (kd != 1) with
                          | true =>
                            cases (kd != 2) with
                            | true =>
                              rfl
                            | false =>
                              cases (decide ((↑n : Int) > bh)) with
                              | true =>
                                rfl
                              | false =>
                                cases (decide (IntKind.wrap IntKind.u64 (↑n : Int) ≥ ix)) with
                                | true =>
                                  rfl
                                | false =>
                                  cases (allA askR f bl n) with
                                  | true =>
                                    rfl
                                  | false =>
                                    rfl
                          | false =>
                            cases (decide ((↑n : Int) > bh)) with
                            | true =>
                              rfl
                            | false =>
                              cases (decide (IntKind.wrap IntKind.u64 (↑n : Int) ≥ ix)) with
                              | true =>
                                rfl
                              | false =>
                                cases (allA askR f bl n) with
                                | true =>
                                  rfl
                                | false =>
                                  rfl
                        | false =>
                          rfl
                      | false =>
                        rfl
                    | false =>
                      cases (kd != 1) with
                      | true =>
                        cases (kd != 2) with
                        | true =>
                          rfl
                        | false =>
                          cases (decide ((↑n : Int) > bh)) with
                          | true =>
                            rfl
                          | false =>
                            cases (decide (IntKind.wrap IntKind.u64 (↑n : Int) ≥ ix)) with
                            | true =>
                              rfl
                            | false =>
                              cases (allA askR f bl n) with
                              | true =>
                                rfl
                              | false =>
                                rfl
                      | false =>
                        cases (decide ((↑n : Int) > bh)) with
                        | true =>
                          rfl
                        | false =>
                          cases (decide (IntKind.wrap IntKind.u64 (↑n : Int) ≥ ix)) with
                          | true =>
                            rfl
                          | false =>
                            cases (allA askR f bl n) with
                            | true =>
                              rfl
                            | false =>
                              rfl
                | false =>
                  rfl
              | false =>
                cases (kd == 2) with
                | true =>
                  cases (cl == 0 && (rq == 0 && (fr == 0 && (ct == 0 && true) && true))) with
                  | true =>
                    cases (d == bytesOf { data := #[] }) with
                    | true =>
                      cases (kd != 1) with
                      | true =>
                        cases (kd != 2) with
                        | true =>
                          rfl
                        | false =>
                          cases (decide ((↑n : Int) > bh)) with
                          | true =>
                            rfl
                          | false =>
                            cases (decide (IntKind.wrap IntKind.u64 (↑n : Int) ≥ ix)) with
                            | true =>
                              rfl
                            | false =>
                              cases (allA askR f bl n) with
                              | true =>
                                rfl
                              | false =>
                                rfl
                      | false =>
                        cases (decide ((↑n : Int) > bh)) with
                        | true =>
                          rfl
                        | false =>
                          cases (decide (IntKind.wrap IntKind.u64 (↑n : Int) ≥ ix)) with
                          | true =>
                            rfl
                          | false =>
                            cases (allA askR f bl n) with
                            | true =>
                              rfl
                            | false =>
                              rfl
                    | false =>
                      rfl
                  | false =>
                    rfl
                | false =>
                  cases (kd != 1) with
                  | true =>
                    cases (kd != 2) with
                    | true =>
                      rfl
                    | false =>
                      cases (decide ((↑n : Int) > bh)) with
                      | true =>
                        rfl
                      | false =>
                        cases (decide (IntKind.wrap IntKind.u64 (↑n : Int) ≥ ix)) with
                        | true =>
                          rfl
                        | false =>
                          cases (allA askR f bl n) with
                          | true =>
                            rfl
                          | false =>
                            rfl
                  | false =>
                    cases (decide ((↑n : Int) > bh)) with
                    | true =>
                      rfl
                    | false =>
                      cases (decide (IntKind.wrap IntKind.u64 (↑n : Int) ≥ ix)) with
                      | true =>
                        rfl
                      | false =>
                        cases (allA askR f bl n) with
                        | true =>
                          rfl
                        | false =>
                          rfl

noncomputable def k17 (ix : Int) (tm : Int) (st : Int) (kd : Int) (cl : Int) (rq : Int) (fr : Int) (ct : Int) (d : List Nat) (ix2 : Int) (tm2 : Int) (st2 : Int) (kd2 : Int) (cl2 : Int) (rq2 : Int) (fr2 : Int) (ct2 : Int) (d2 : List Nat) (nl : Bool) (nl2 : Bool) (n : Nat) (m : Nat) (f : Nat → Nat → AV) (g : Nat → Nat → AV) (π : Plan) : Option CS := callC (E6) (1000) (17) (0) (.keep) ([]) π (a17 ix tm st kd cl rq fr ct d ix2 tm2 st2 kd2 cl2 rq2 fr2 ct2 d2 nl nl2 n m f g)
def k17_p : Plan := (.fork (.must true (.must true (.must true (.must true (.must true (.fork (.must true (.must true (.must true (.must true (.must true (.fork (.must true (.must true (.fork (.must true (.must true (.must true (.must true (.must true (.fork (.must true (.must true (.must true (.must true (.must true (.must true (.must true (.must true (.must true (.must true (.must true (.must true (.must true (.must true (.must true (.must true (.must true (.reck 1 (.must true (.must true (.must true (.must true (.must true (.must true (.must true (.must true (.must true (.must true (.must true (.must true (.reck 1 (.must true (.must true (.must true (.must true (.must true (.must true (.must true (.must true (.must true (.must true (.must true (.must true (.reck 1 (.must true (.must true (.must true (.must true (.must true (.fork (.must true (.must true (.must true (.must true (.fork (.must true .stop) (.must true (.must true (.must true (.reck 2 (.must true (.reck 1 (.must true (.must true (.must true (.fork (.must true .stop) (.must true .stop)))))))))))))))) (.must false (.must false (.must false (.must false (.must false .stop))))))))))))))))))))))))))))))))))))))))))))))))))))))) (.must false (.must false (.must false (.must false (.must false (.must true (.must true (.must true (.must true (.must true (.must true (.must true (.must true (.must true (.must true (.reck 1 (.must true (.must true (.must true (.must true (.must true (.must true (.must true (.must true (.must true (.must true (.must true (.must true (.reck 1 (.must true (.must true (.must true (.must true (.must true (.must true (.must true (.must true (.must true (.must true (.must true (.must true (.reck 1 (.must true (.must true (.must true (.must true (.must true .stop))))))))))))))))))))))))))))))))))))))))))))))))))))) (.must false (.must false (.must false (.must false (.must false (.reck 6 (.must true (.must true (.must true .stop)))))))))))) (.must false (.must false (.must false .stop))))))))) (.must false (.must false (.must false (.must false (.must false .stop))))))))))) (.must false (.must false (.must false (.must false (.must false .stop))))))
theorem k17_is (ix : Int) (tm : Int) (st : Int) (kd : Int) (cl : Int) (rq : Int) (fr : Int) (ct : Int) (d : List Nat) (ix2 : Int) (tm2 : Int) (st2 : Int) (kd2 : Int) (cl2 : Int) (rq2 : Int) (fr2 : Int) (ct2 : Int) (d2 : List Nat) (nl : Bool) (nl2 : Bool) (n : Nat) (m : Nat) (f : Nat → Nat → AV) (g : Nat → Nat → AV) : k17 ix tm st kd cl rq fr ct d ix2 tm2 st2 kd2 cl2 rq2 fr2 ct2 d2 nl nl2 n m f g k17_p = (cond ((ix == ix2) == true)
  (cond ((ix == ix2) == true) (cond ((ix == ix2) == true) (cond ((ix == ix2) == true) (cond ((ix == ix2) == true) (cond (ix == ix2) (cond ((tm == tm2) == true)
  (cond ((tm == tm2) == true) (cond ((tm == tm2) == true) (cond ((tm == tm2) == true) (cond ((tm == tm2) == true) (cond (tm == tm2) (cond ((st == st2) == true)
  (cond ((st == st2) == true) (cond ((st == st2) == true) (cond ((kd == kd2) == true)
  (cond ((kd == kd2) == true) (cond ((kd == kd2) == true) (cond ((kd == kd2) == true) (cond ((kd == kd2) == true) (cond (kd == kd2) (cond ((cl == cl2 && (rq == rq2 && (fr == fr2 && (ct == ct2 && true) && true))) == true)
  (cond ((cl == cl2 && (rq == rq2 && (fr == fr2 && (ct == ct2 && true) && true))) == true) (cond ((cl == cl2 && (rq == rq2 && (fr == fr2 && (ct == ct2 && true) && true))) == true) (cond ((cl == cl2 && (rq == rq2 && (fr == fr2 && (ct == ct2 && true) && true))) == true) (cond ((cl == cl2 && (rq == rq2 && (fr == fr2 && (ct == ct2 && true) && true))) == true) (cond (cl == cl2 && (rq == rq2 && (fr == fr2 && (ct == ct2 && true) && true))) (cond (d2 == d2) (cond (d == d) (cond (decide (ix2 = ix2)) (cond (decide (tm2 = tm2)) (cond (decide (st2 = st2)) (cond (decide (kd2 = kd2)) (cond (decide (cl2 = cl2)) (cond (decide (rq2 = rq2)) (cond (decide (fr2 = fr2)) (cond (decide (ct2 = ct2)) (cond (d2 == d2) (cond (nl2 == nl2) (cond (Nat.beq m m) (cond (Nat.beq m m) (cond (decide (ix2 = ix2)) (cond (decide (tm2 = tm2)) (cond (decide (st2 = st2)) (cond (decide (kd2 = kd2)) (cond (decide (cl2 = cl2)) (cond (decide (rq2 = rq2)) (cond (decide (fr2 = fr2)) (cond (decide (ct2 = ct2)) (cond (d2 == d2) (cond (nl2 == nl2) (cond (Nat.beq m m) (cond (Nat.beq m m) (cond (decide (ix = ix)) (cond (decide (tm = tm)) (cond (decide (st = st)) (cond (decide (kd = kd)) (cond (decide (cl = cl)) (cond (decide (rq = rq)) (cond (decide (fr = fr)) (cond (decide (ct = ct)) (cond (d == d) (cond (nl == nl) (cond (Nat.beq n n) (cond (Nat.beq n n) (cond (decide (kd2 = kd2)) (cond (decide (kd = kd)) (cond (st == st2) (cond ((d == d2) == true)
  (cond ((d == d2) == true) (cond ((d == d2) == true) (cond ((d == d2) == true) (cond ((d == d2) == true) (cond ((↑n : Int) != (↑m : Int))
  (cond (d == d2) (some (CS.mk [(AV.bool (false))] [])) none)
  (cond (decide (n = n)) (cond (decide (m = m)) (cond (decide ((↑n : Int) = (↑n : Int))) (cond (decide (n = n)) (cond (decide (m = m)) (cond (!(↑n : Int) != (↑m : Int)) (cond (Nat.ble n 1000000) (cond (allE f g n)
  (cond (d == d2) (some (CS.mk [(AV.bool (true))] [])) none)
  (cond (d == d2) (some (CS.mk [(AV.bool (false))] [])) none)) none) none) none) none) none) none) none)) none) none) none) none)
  (cond ((d == d2) == true) none (cond ((d == d2) == true) none (cond ((d == d2) == true) none (cond ((d == d2) == true) none (cond (d == d2) none (some (CS.mk [(AV.bool (false))] [])))))))) none) none) none) none) none) none) none) none) none) none) none) none) none) none) none) none) none) none) none) none) none) none) none) none) none) none) none) none) none) none) none) none) none) none) none) none) none) none) none) none) none) none) none) none) none) none)
  (cond ((cl == cl2 && (rq == rq2 && (fr == fr2 && (ct == ct2 && true) && true))) == true) none (cond ((cl == cl2 && (rq == rq2 && (fr == fr2 && (ct == ct2 && true) && true))) == true) none (cond ((cl == cl2 && (rq == rq2 && (fr == fr2 && (ct == ct2 && true) && true))) == true) none (cond ((cl == cl2 && (rq == rq2 && (fr == fr2 && (ct == ct2 && true) && true))) == true) none (cond (cl == cl2 && (rq == rq2 && (fr == fr2 && (ct == ct2 && true) && true))) none (cond (decide (ix2 = ix2)) (cond (decide (tm2 = tm2)) (cond (decide (st2 = st2)) (cond (decide (kd2 = kd2)) (cond (decide (cl2 = cl2)) (cond (decide (rq2 = rq2)) (cond (decide (fr2 = fr2)) (cond (decide (ct2 = ct2)) (cond (d2 == d2) (cond (nl2 == nl2) (cond (Nat.beq m m) (cond (Nat.beq m m) (cond (decide (ix2 = ix2)) (cond (decide (tm2 = tm2)) (cond (decide (st2 = st2)) (cond (decide (kd2 = kd2)) (cond (decide (cl2 = cl2)) (cond (decide (rq2 = rq2)) (cond (decide (fr2 = fr2)) (cond (decide (ct2 = ct2)) (cond (d2 == d2) (cond (nl2 == nl2) (cond (Nat.beq m m) (cond (Nat.beq m m) (cond (decide (ix = ix)) (cond (decide (tm = tm)) (cond (decide (st = st)) (cond (decide (kd = kd)) (cond (decide (cl = cl)) (cond (decide (rq = rq)) (cond (decide (fr = fr)) (cond (decide (ct = ct)) (cond (d == d) (cond (nl == nl) (cond (Nat.beq n n) (cond (Nat.beq n n) (cond (decide (kd2 = kd2)) (cond (decide (kd = kd)) (cond (st == st2) (some (CS.mk [(AV.bool (false))] [])) none) none) none) none) none) none) none) none) none) none) none) none) none) none) none) none) none) none) none) none) none) none) none) none) none) none) none) none) none) none) none) none) none) none) none) none) none) none) none))))))) none) none) none) none) none)
  (cond ((kd == kd2) == true) none (cond ((kd == kd2) == true) none (cond ((kd == kd2) == true) none (cond ((kd == kd2) == true) none (cond (kd == kd2) none (cond (decide (kd2 = kd2)) (cond (decide (kd = kd)) (cond (st == st2) (some (CS.mk [(AV.bool (false))] [])) none) none) none))))))) none) none)
  (cond ((st == st2) == true) none (cond ((st == st2) == true) none (cond (st == st2) none (some (CS.mk [(AV.bool (false))] [])))))) none) none) none) none) none)
  (cond ((tm == tm2) == true) none (cond ((tm == tm2) == true) none (cond ((tm == tm2) == true) none (cond ((tm == tm2) == true) none (cond (tm == tm2) none (some (CS.mk [(AV.bool (false))] [])))))))) none) none) none) none) none)
  (cond ((ix == ix2) == true) none (cond ((ix == ix2) == true) none (cond ((ix == ix2) == true) none (cond ((ix == ix2) == true) none (cond (ix == ix2) none (some (CS.mk [(AV.bool (false))] [])))))))) := by kernel_rfl
theorem k17_eq (ix : Int) (tm : Int) (st : Int) (kd : Int) (cl : Int) (rq : Int) (fr : Int) (ct : Int) (d : List Nat) (ix2 : Int) (tm2 : Int) (st2 : Int) (kd2 : Int) (cl2 : Int) (rq2 : Int) (fr2 : Int) (ct2 : Int) (d2 : List Nat) (nl : Bool) (nl2 : Bool) (n : Nat) (m : Nat) (f : Nat → Nat → AV) (g : Nat → Nat → AV) (hy0 : (Nat.ble n 1000000) = true) : k17 ix tm st kd cl rq fr ct d ix2 tm2 st2 kd2 cl2 rq2 fr2 ct2 d2 nl nl2 n m f g k17_p = (cond (ix == ix2)
  (cond (tm == tm2)
  (cond (st == st2)
  (cond (kd == kd2)
  (cond (cl == cl2 && (rq == rq2 && (fr == fr2 && (ct == ct2 && true) && true)))
  (cond (d == d2)
  (cond ((↑n : Int) != (↑m : Int))
  (some (CS.mk [(AV.bool (false))] []))
  (cond (allE f g n)
  (some (CS.mk [(AV.bool (true))] []))
  (some (CS.mk [(AV.bool (false))] []))))
  (some (CS.mk [(AV.bool (false))] [])))
  (some (CS.mk [(AV.bool (false))] [])))
  (some (CS.mk [(AV.bool (false))] [])))
  (some (CS.mk [(AV.bool (false))] [])))
  (some (CS.mk [(AV.bool (false))] [])))
  (some (CS.mk [(AV.bool (false))] []))) := by
  rw [k17_is]
  try simp only [hy0, eq_self, decide_true, beq_self_eq_true, Nat.beq_refl, ble_self, Int.le_refl, Nat.le_refl]
  cases (ix == ix2) with
  | true =>
    cases (tm == tm2) with
    | true =>
      cases (st == st2) with
      | true =>
        cases (kd == kd2) with
        | true =>
          cases (cl == cl2 && (rq == rq2 && (fr == fr2 && (ct == ct2 && true) && true))) with
          | true =>
            cases (d == d2) with
            | true =>
              cases ((↑n : Int) != (↑m : Int)) with
              | true =>
                rfl
              | false =>
                cases (allE f g n) with
                | true =>
                  rfl
                | false =>
                  rfl
            | false =>
              rfl
          | false =>
            rfl
        | false =>
          rfl
      | false =>
        rfl
    | false =>
      rfl
  | false =>
    rfl

noncomputable def k18 (ix : Int) (tm : Int) (st : Int) (kd : Int) (cl : Int) (rq : Int) (fr : Int) (ct : Int) (d : List Nat) (ix2 : Int) (tm2 : Int) (st2 : Int) (kd2 : Int) (cl2 : Int) (rq2 : Int) (fr2 : Int) (ct2 : Int) (d2 : List Nat) (nl : Bool) (nl2 : Bool) (n : Nat) (m : Nat) (f : Nat → Nat → AV) (g : Nat → Nat → AV) (π : Plan) : Option CS := callC (E6) (1000) (18) (0) (.keep) ([]) π (a17 ix tm st kd cl rq fr ct d ix2 tm2 st2 kd2 cl2 rq2 fr2 ct2 d2 nl nl2 n m f g)
def k18_p : Plan := (.fork (.must true (.must true (.must true (.must true (.must true (.fork (.must true (.must true (.must true (.must true (.must true (.must true (.must true (.must true (.must true (.must true (.must true (.must true (.must true (.must true (.must true (.must true (.must true (.reck 1 (.must true (.must true (.must true (.must true (.must true (.must true (.must true (.must true (.must true (.must true (.must true (.must true (.reck 1 (.must true (.must true (.must true (.must true (.must true (.must true (.must true (.must true (.must true (.must true (.must true (.must true (.reck 1 (.must true (.must true (.must true (.must true (.fork (.must true (.must true (.must true (.must true (.must false (.fork (.must true (.must true (.must true (.must true (.must false (.fork (.must true (.must true (.must true (.must true (.must false (.fork (.must true (.must true (.must true (.must true (.must true (.must true (.must false (.fork .stop (.reck 1 (.must true (.must true (.reck 1 (.must true (.reck 1 (.must true (.must true (.must true (.fork .stop .stop)))))))))))))))))) (.must false (.must false (.must false (.must false (.must false (.must false (.must true .stop))))))))))))) (.must false (.must false (.must false (.must false (.must true .stop))))))))))) (.must false (.must false (.must false (.must false (.must true .stop))))))))))) (.must false (.must false (.must false (.must false (.must true .stop)))))))))))))))))))))))))))))))))))))))))))))))))))))) (.must false (.must false (.must false (.must false (.must false (.must true (.must true (.must true (.must true (.must true (.must true (.must true (.must true (.must true (.must true (.reck 1 (.must true (.must true (.must true (.must true (.must true (.must true (.must true (.must true (.must true (.must true (.must true (.must true (.reck 1 (.must true (.must true (.must true (.must true (.must true (.must true (.must true (.must true (.must true (.must true (.must true (.must true (.reck 1 (.must true (.must true (.must true (.must true .stop)))))))))))))))))))))))))))))))))))))))))))))))))))) (.must false (.must false (.must false (.must false (.must false (.reck 6 (.must true (.must true .stop)))))))))
theorem k18_is (ix : Int) (tm : Int) (st : Int) (kd : Int) (cl : Int) (rq : Int) (fr : Int) (ct : Int) (d : List Nat) (ix2 : Int) (tm2 : Int) (st2 : Int) (kd2 : Int) (cl2 : Int) (rq2 : Int) (fr2 : Int) (ct2 : Int) (d2 : List Nat) (nl : Bool) (nl2 : Bool) (n : Nat) (m : Nat) (f : Nat → Nat → AV) (g : Nat → Nat → AV) : k18 ix tm st kd cl rq fr ct d ix2 tm2 st2 kd2 cl2 rq2 fr2 ct2 d2 nl nl2 n m f g k18_p = (cond ((kd == kd2) == true)
  (cond ((kd == kd2) == true) (cond ((kd == kd2) == true) (cond ((kd == kd2) == true) (cond ((kd == kd2) == true) (cond (kd == kd2) (cond ((cl == cl2 && (rq == rq2 && (fr == fr2 && (ct == ct2 && true) && true))) == true)
  (cond ((cl == cl2 && (rq == rq2 && (fr == fr2 && (ct == ct2 && true) && true))) == true) (cond ((cl == cl2 && (rq == rq2 && (fr == fr2 && (ct == ct2 && true) && true))) == true) (cond ((cl == cl2 && (rq == rq2 && (fr == fr2 && (ct == ct2 && true) && true))) == true) (cond ((cl == cl2 && (rq == rq2 && (fr == fr2 && (ct == ct2 && true) && true))) == true) (cond (cl == cl2 && (rq == rq2 && (fr == fr2 && (ct == ct2 && true) && true))) (cond (d2 == d2) (cond (d == d) (cond (decide (ix2 = ix2)) (cond (decide (tm2 = tm2)) (cond (decide (st2 = st2)) (cond (decide (kd2 = kd2)) (cond (decide (cl2 = cl2)) (cond (decide (rq2 = rq2)) (cond (decide (fr2 = fr2)) (cond (decide (ct2 = ct2)) (cond (d2 == d2) (cond (nl2 == nl2) (cond (Nat.beq m m) (cond (Nat.beq m m) (cond (decide (ix2 = ix2)) (cond (decide (tm2 = tm2)) (cond (decide (st2 = st2)) (cond (decide (kd2 = kd2)) (cond (decide (cl2 = cl2)) (cond (decide (rq2 = rq2)) (cond (decide (fr2 = fr2)) (cond (decide (ct2 = ct2)) (cond (d2 == d2) (cond (nl2 == nl2) (cond (Nat.beq m m) (cond (Nat.beq m m) (cond (decide (ix = ix)) (cond (decide (tm = tm)) (cond (decide (st = st)) (cond (decide (kd = kd)) (cond (decide (cl = cl)) (cond (decide (rq = rq)) (cond (decide (fr = fr)) (cond (decide (ct = ct)) (cond (d == d) (cond (nl == nl) (cond (Nat.beq n n) (cond (Nat.beq n n) (cond (decide (kd2 = kd2)) (cond (decide (kd = kd)) (cond ((!d == d2) == false)
  (cond ((!d == d2) == false) (cond ((!d == d2) == false) (cond ((!d == d2) == false) (cond ((!d == d2) == false) (cond (!d == d2) none (cond ((ix != ix2) == false)
  (cond ((ix != ix2) == false) (cond ((ix != ix2) == false) (cond ((ix != ix2) == false) (cond ((ix != ix2) == false) (cond (ix != ix2) none (cond ((tm != tm2) == false)
  (cond ((tm != tm2) == false) (cond ((tm != tm2) == false) (cond ((tm != tm2) == false) (cond ((tm != tm2) == false) (cond (tm != tm2) none (cond ((st != st2) == false)
  (cond ((st != st2) == false) (cond ((st != st2) == false) (cond ((st != st2) == false) (cond ((st != st2) == false) (cond ((st != st2) == false) (cond ((st != st2) == false) (cond (st != st2) none (cond ((↑n : Int) != (↑m : Int))
  (some (CS.mk [(AV.bool (false))] []))
  (cond (decide (n = n)) (cond (decide (m = m)) (cond (decide (n = n)) (cond (decide (m = m)) (cond (!(↑n : Int) != (↑m : Int)) (cond (Nat.ble n 1000000) (cond (allE f g n)
  (some (CS.mk [(AV.bool (true))] []))
  (some (CS.mk [(AV.bool (false))] []))) none) none) none) none) none) none))) none) none) none) none) none) none)
  (cond ((st != st2) == false) none (cond ((st != st2) == false) none (cond ((st != st2) == false) none (cond ((st != st2) == false) none (cond ((st != st2) == false) none (cond ((st != st2) == false) none (cond (st != st2) (some (CS.mk [(AV.bool (false))] [])) none))))))))) none) none) none) none)
  (cond ((tm != tm2) == false) none (cond ((tm != tm2) == false) none (cond ((tm != tm2) == false) none (cond ((tm != tm2) == false) none (cond (tm != tm2) (some (CS.mk [(AV.bool (false))] [])) none))))))) none) none) none) none)
  (cond ((ix != ix2) == false) none (cond ((ix != ix2) == false) none (cond ((ix != ix2) == false) none (cond ((ix != ix2) == false) none (cond (ix != ix2) (some (CS.mk [(AV.bool (false))] [])) none))))))) none) none) none) none)
  (cond ((!d == d2) == false) none (cond ((!d == d2) == false) none (cond ((!d == d2) == false) none (cond ((!d == d2) == false) none (cond (!d == d2) (some (CS.mk [(AV.bool (false))] [])) none)))))) none) none) none) none) none) none) none) none) none) none) none) none) none) none) none) none) none) none) none) none) none) none) none) none) none) none) none) none) none) none) none) none) none) none) none) none) none) none) none) none) none) none) none) none) none)
  (cond ((cl == cl2 && (rq == rq2 && (fr == fr2 && (ct == ct2 && true) && true))) == true) none (cond ((cl == cl2 && (rq == rq2 && (fr == fr2 && (ct == ct2 && true) && true))) == true) none (cond ((cl == cl2 && (rq == rq2 && (fr == fr2 && (ct == ct2 && true) && true))) == true) none (cond ((cl == cl2 && (rq == rq2 && (fr == fr2 && (ct == ct2 && true) && true))) == true) none (cond (cl == cl2 && (rq == rq2 && (fr == fr2 && (ct == ct2 && true) && true))) none (cond (decide (ix2 = ix2)) (cond (decide (tm2 = tm2)) (cond (decide (st2 = st2)) (cond (decide (kd2 = kd2)) (cond (decide (cl2 = cl2)) (cond (decide (rq2 = rq2)) (cond (decide (fr2 = fr2)) (cond (decide (ct2 = ct2)) (cond (d2 == d2) (cond (nl2 == nl2) (cond (Nat.beq m m) (cond (Nat.beq m m) (cond (decide (ix2 = ix2)) (cond (decide (tm2 = tm2)) (cond (decide (st2 = st2)) (cond (decide (kd2 = kd2)) (cond (decide (cl2 = cl2)) (cond (decide (rq2 = rq2)) (cond (decide (fr2 = fr2)) (cond (decide (ct2 = ct2)) (cond (d2 == d2) (cond (nl2 == nl2) (cond (Nat.beq m m) (cond (Nat.beq m m) (cond (decide (ix = ix)) (cond (decide (tm = tm)) (cond (decide (st = st)) (cond (decide (kd = kd)) (cond (decide (cl = cl)) (cond (decide (rq = rq)) (cond (decide (fr = fr)) (cond (decide (ct = ct)) (cond (d == d) (cond (nl == nl) (cond (Nat.beq n n) (cond (Nat.beq n n) (cond (decide (kd2 = kd2)) (cond (decide (kd = kd)) (some (CS.mk [(AV.bool (false))] [])) none) none) none) none) none) none) none) none) none) none) none) none) none) none) none) none) none) none) none) none) none) none) none) none) none) none) none) none) none) none) none) none) none) none) none) none) none) none))))))) none) none) none) none) none)
  (cond ((kd == kd2) == true) none (cond ((kd == kd2) == true) none (cond ((kd == kd2) == true) none (cond ((kd == kd2) == true) none (cond (kd == kd2) none (cond (decide (kd2 = kd2)) (cond (decide (kd = kd)) (some (CS.mk [(AV.bool (false))] [])) none) none))))))) := by kernel_rfl
theorem k18_eq (ix : Int) (tm : Int) (st : Int) (kd : Int) (cl : Int) (rq : Int) (fr : Int) (ct : Int) (d : List Nat) (ix2 : Int) (tm2 : Int) (st2 : Int) (kd2 : Int) (cl2 : Int) (rq2 : Int) (fr2 : Int) (ct2 : Int) (d2 : List Nat) (nl : Bool) (nl2 : Bool) (n : Nat) (m : Nat) (f : Nat → Nat → AV) (g : Nat → Nat → AV) (hy0 : (Nat.ble n 1000000) = true) : k18 ix tm st kd cl rq fr ct d ix2 tm2 st2 kd2 cl2 rq2 fr2 ct2 d2 nl nl2 n m f g k18_p = (cond (kd == kd2)
  (cond (cl == cl2 && (rq == rq2 && (fr == fr2 && (ct == ct2 && true) && true)))
  (cond (d == d2)
  (cond (ix != ix2)
  (some (CS.mk [(AV.bool (false))] []))
  (cond (tm != tm2)
  (some (CS.mk [(AV.bool (false))] []))
  (cond (st != st2)
  (some (CS.mk [(AV.bool (false))] []))
  (cond ((↑n : Int) != (↑m : Int))
  (some (CS.mk [(AV.bool (false))] []))
  (cond (allE f g n)
  (some (CS.mk [(AV.bool (true))] []))
  (some (CS.mk [(AV.bool (false))] [])))))))
  (some (CS.mk [(AV.bool (false))] [])))
  (some (CS.mk [(AV.bool (false))] [])))
  (some (CS.mk [(AV.bool (false))] []))) := by
  rw [k18_is]
  try simp only [hy0, eq_self, decide_true, beq_self_eq_true, Nat.beq_refl, ble_self, Int.le_refl, Nat.le_refl]
  cases (kd == kd2) with
  | true =>
    cases (cl == cl2 && (rq == rq2 && (fr == fr2 && (ct == ct2 && true) && true))) with
    | true =>
      cases (d == d2) with
      | true =>
        cases (ix != ix2) with
        | true =>
          rfl
        | false =>
          cases (tm != tm2) with
          | true =>
            rfl
          | false =>
            cases (st != st2) with
            | true =>
              rfl
            | false =>
              cases ((↑n : Int) != (↑m : Int)) with
              | true =>
                rfl
              | false =>
                cases (allE f g n) with
                | true =>
                  rfl
                | false =>
                  rfl
      | false =>
        rfl
    | false =>
      rfl
  | false =>
    rfl

noncomputable def k19 (ix : Int) (tm : Int) (st : Int) (kd : Int) (cl : Int) (rq : Int) (fr : Int) (ct : Int) (d : List Nat) (ix2 : Int) (tm2 : Int) (st2 : Int) (kd2 : Int) (cl2 : Int) (rq2 : Int) (fr2 : Int) (ct2 : Int) (d2 : List Nat) (nl : Bool) (nl2 : Bool) (n : Nat) (m : Nat) (f : Nat → Nat → AV) (g : Nat → Nat → AV) (π : Plan) : Option CS := callC (E6) (1000) (19) (0) (.keep) ([]) π (a17 ix tm st kd cl rq fr ct d ix2 tm2 st2 kd2 cl2 rq2 fr2 ct2 d2 nl nl2 n m f g)
def k19_p : Plan := (.fork (.must true (.must true (.must true (.must true (.must true (.fork (.must true (.must true (.must true (.must true (.must true (.must true (.must true (.must true (.must true (.must true (.must true (.must true (.must true (.must true (.must true (.must true (.must true (.reck 1 (.must true (.must true (.must true (.must true (.must true (.must true (.must true (.must true (.must true (.must true (.must true (.must true (.reck 1 (.must true (.must true (.must true (.must true (.must true (.must true (.must true (.must true (.must true (.must true (.must true (.must true (.reck 1 (.must true (.must true (.must true (.must true .stop)))))))))))))))))))))))))))))))))))))))))))))))) (.must false (.must false (.must false (.must false (.must false (.must true (.must true (.must true (.must true (.must true (.must true (.must true (.must true (.must true (.must true (.reck 1 (.must true (.must true (.must true (.must true (.must true (.must true (.must true (.must true (.must true (.must true (.must true (.must true (.reck 1 (.must true (.must true (.must true (.must true (.must true (.must true (.must true (.must true (.must true (.must true (.must true (.must true (.reck 1 (.must true (.must true (.must true (.must true .stop)))))))))))))))))))))))))))))))))))))))))))))))))))) (.must false (.must false (.must false (.must false (.must false (.reck 6 (.must true (.must true .stop)))))))))
theorem k19_is (ix : Int) (tm : Int) (st : Int) (kd : Int) (cl : Int) (rq : Int) (fr : Int) (ct : Int) (d : List Nat) (ix2 : Int) (tm2 : Int) (st2 : Int) (kd2 : Int) (cl2 : Int) (rq2 : Int) (fr2 : Int) (ct2 : Int) (d2 : List Nat) (nl : Bool) (nl2 : Bool) (n : Nat) (m : Nat) (f : Nat → Nat → AV) (g : Nat → Nat → AV) : k19 ix tm st kd cl rq fr ct d ix2 tm2 st2 kd2 cl2 rq2 fr2 ct2 d2 nl nl2 n m f g k19_p = (cond ((kd == kd2) == true)
  (cond ((kd == kd2) == true) (cond ((kd == kd2) == true) (cond ((kd == kd2) == true) (cond ((kd == kd2) == true) (cond (kd == kd2) (cond ((cl == cl2 && (rq == rq2 && (fr == fr2 && (ct == ct2 && true) && true))) == true)
  (cond ((cl == cl2 && (rq == rq2 && (fr == fr2 && (ct == ct2 && true) && true))) == true) (cond ((cl == cl2 && (rq == rq2 && (fr == fr2 && (ct == ct2 && true) && true))) == true) (cond ((cl == cl2 && (rq == rq2 && (fr == fr2 && (ct == ct2 && true) && true))) == true) (cond ((cl == cl2 && (rq == rq2 && (fr == fr2 && (ct == ct2 && true) && true))) == true) (cond (cl == cl2 && (rq == rq2 && (fr == fr2 && (ct == ct2 && true) && true))) (cond (d2 == d2) (cond (d == d) (cond (decide (ix2 = ix2)) (cond (decide (tm2 = tm2)) (cond (decide (st2 = st2)) (cond (decide (kd2 = kd2)) (cond (decide (cl2 = cl2)) (cond (decide (rq2 = rq2)) (cond (decide (fr2 = fr2)) (cond (decide (ct2 = ct2)) (cond (d2 == d2) (cond (nl2 == nl2) (cond (Nat.beq m m) (cond (Nat.beq m m) (cond (decide (ix2 = ix2)) (cond (decide (tm2 = tm2)) (cond (decide (st2 = st2)) (cond (decide (kd2 = kd2)) (cond (decide (cl2 = cl2)) (cond (decide (rq2 = rq2)) (cond (decide (fr2 = fr2)) (cond (decide (ct2 = ct2)) (cond (d2 == d2) (cond (nl2 == nl2) (cond (Nat.beq m m) (cond (Nat.beq m m) (cond (decide (ix = ix)) (cond (decide (tm = tm)) (cond (decide (st = st)) (cond (decide (kd = kd)) (cond (decide (cl = cl)) (cond (decide (rq = rq)) (cond (decide (fr = fr)) (cond (decide (ct = ct)) (cond (d == d) (cond (nl == nl) (cond (Nat.beq n n) (cond (Nat.beq n n) (cond (decide (kd2 = kd2)) (cond (decide (kd = kd)) (some (CS.mk [(AV.bool (d == d2))] [])) none) none) none) none) none) none) none) none) none) none) none) none) none) none) none) none) none) none) none) none) none) none) none) none) none) none) none) none) none) none) none) none) none) none) none) none) none) none) none) none) none) none) none) none) none)
  (cond ((cl == cl2 && (rq == rq2 && (fr == fr2 && (ct == ct2 && true) && true))) == true) none (cond ((cl == cl2 && (rq == rq2 && (fr == fr2 && (ct == ct2 && true) && true))) == true) none (cond ((cl == cl2 && (rq == rq2 && (fr == fr2 && (ct == ct2 && true) && true))) == true) none (cond ((cl == cl2 && (rq == rq2 && (fr == fr2 && (ct == ct2 && true) && true))) == true) none (cond (cl == cl2 && (rq == rq2 && (fr == fr2 && (ct == ct2 && true) && true))) none (cond (decide (ix2 = ix2)) (cond (decide (tm2 = tm2)) (cond (decide (st2 = st2)) (cond (decide (kd2 = kd2)) (cond (decide (cl2 = cl2)) (cond (decide (rq2 = rq2)) (cond (decide (fr2 = fr2)) (cond (decide (ct2 = ct2)) (cond (d2 == d2) (cond (nl2 == nl2) (cond (Nat.beq m m) (cond (Nat.beq m m) (cond (decide (ix2 = ix2)) (cond (decide (tm2 = tm2)) (cond (decide (st2 = st2)) (cond (decide (kd2 = kd2)) (cond (decide (cl2 = cl2)) (cond (decide (rq2 = rq2)) (cond (decide (fr2 = fr2)) (cond (decide (ct2 = ct2)) (cond (d2 == d2) (cond (nl2 == nl2) (cond (Nat.beq m m) (cond (Nat.beq m m) (cond (decide (ix = ix)) (cond (decide (tm = tm)) (cond (decide (st = st)) (cond (decide (kd = kd)) (cond (decide (cl = cl)) (cond (decide (rq = rq)) (cond (decide (fr = fr)) (cond (decide (ct = ct)) (cond (d == d) (cond (nl == nl) (cond (Nat.beq n n) (cond (Nat.beq n n) (cond (decide (kd2 = kd2)) (cond (decide (kd = kd)) (some (CS.mk [(AV.bool (false))] [])) none) none) none) none) none) none) none) none) none) none) none) none) none) none) none) none) none) none) none) none) none) none) none) none) none) none) none) none) none) none) none) none) none) none) none) none) none) none))))))) none) none) none) none) none)
  (cond ((kd == kd2) == true) none (cond ((kd == kd2) == true) none (cond ((kd == kd2) == true) none (cond ((kd == kd2) == true) none (cond (kd == kd2) none (cond (decide (kd2 = kd2)) (cond (decide (kd = kd)) (some (CS.mk [(AV.bool (false))] [])) none) none))))))) := by kernel_rfl
theorem k19_eq (ix : Int) (tm : Int) (st : Int) (kd : Int) (cl : Int) (rq : Int) (fr : Int) (ct : Int) (d : List Nat) (ix2 : Int) (tm2 : Int) (st2 : Int) (kd2 : Int) (cl2 : Int) (rq2 : Int) (fr2 : Int) (ct2 : Int) (d2 : List Nat) (nl : Bool) (nl2 : Bool) (n : Nat) (m : Nat) (f : Nat → Nat → AV) (g : Nat → Nat → AV) : k19 ix tm st kd cl rq fr ct d ix2 tm2 st2 kd2 cl2 rq2 fr2 ct2 d2 nl nl2 n m f g k19_p = (cond (kd == kd2)
  (cond (cl == cl2 && (rq == rq2 && (fr == fr2 && (ct == ct2 && true) && true)))
  (some (CS.mk [(AV.bool (d == d2))] []))
  (some (CS.mk [(AV.bool (false))] [])))
  (some (CS.mk [(AV.bool (false))] []))) := by
  rw [k19_is]
  try simp only [eq_self, decide_true, beq_self_eq_true, Nat.beq_refl, ble_self, Int.le_refl, Nat.le_refl]
  cases (kd == kd2) with
  | true =>
    cases (cl == cl2 && (rq == rq2 && (fr == fr2 && (ct == ct2 && true) && true))) with
    | true =>
      rfl
    | false =>
      rfl
  | false =>
    rfl

noncomputable def k20 (ix : Int) (tm : Int) (st : Int) (kd : Int) (cl : Int) (rq : Int) (fr : Int) (ct : Int) (d : List Nat) (ix2 : Int) (tm2 : Int) (st2 : Int) (kd2 : Int) (cl2 : Int) (rq2 : Int) (fr2 : Int) (ct2 : Int) (d2 : List Nat) (nl : Bool) (nl2 : Bool) (n : Nat) (m : Nat) (f : Nat → Nat → AV) (g : Nat → Nat → AV) (π : Plan) : Option CS := callC (E6) (1000) (20) (0) (.keep) ([]) π (a17 ix tm st kd cl rq fr ct d ix2 tm2 st2 kd2 cl2 rq2 fr2 ct2 d2 nl nl2 n m f g)
def k20_p : Plan := (.fork (.must true (.must true (.must true (.must true (.must true (.fork (.must true (.must true (.must true (.must true (.must true (.must true (.must true (.must true (.must true (.must true (.must true (.must true (.must true (.must true (.must true (.must true (.must true (.reck 1 (.must true (.must true (.must true (.must true (.must true (.must true (.must true (.must true (.must true (.must true (.must true (.must true (.reck 1 (.must true (.must true (.must true (.must true (.must true (.must true (.must true (.must true (.must true (.must true (.must true (.must true (.reck 1 (.must true (.must true (.must true (.must true .stop)))))))))))))))))))))))))))))))))))))))))))))))) (.must false (.must false (.must false (.must false (.must false (.must true (.must true (.must true (.must true (.must true (.must true (.must true (.must true (.must true (.must true (.reck 1 (.must true (.must true (.must true (.must true (.must true (.must true (.must true (.must true (.must true (.must true (.must true (.must true (.reck 1 (.must true (.must true (.must true (.must true (.must true (.must true (.must true (.must true (.must true (.must true (.must true (.must true (.reck 1 (.must true (.must true (.must true (.must true .stop)))))))))))))))))))))))))))))))))))))))))))))))))))) (.must false (.must false (.must false (.must false (.must false (.reck 6 (.must true (.must true .stop)))))))))
theorem k20_is (ix : Int) (tm : Int) (st : Int) (kd : Int) (cl : Int) (rq : Int) (fr : Int) (ct : Int) (d : List Nat) (ix2 : Int) (tm2 : Int) (st2 : Int) (kd2 : Int) (cl2 : Int) (rq2 : Int) (fr2 : Int) (ct2 : Int) (d2 : List Nat) (nl : Bool) (nl2 : Bool) (n : Nat) (m : Nat) (f : Nat → Nat → AV) (g : Nat → Nat → AV) : k20 ix tm st kd cl rq fr ct d ix2 tm2 st2 kd2 cl2 rq2 fr2 ct2 d2 nl nl2 n m f g k20_p = (cond ((kd == kd2) == true)
  (cond ((kd == kd2) == true) (cond ((kd == kd2) == true) (cond ((kd == kd2) == true) (cond ((kd == kd2) == true) (cond (kd == kd2) (cond ((cl == cl2 && (rq == rq2 && (fr == fr2 && (ct == ct2 && true) && true))) == true)
  (cond ((cl == cl2 && (rq == rq2 && (fr == fr2 && (ct == ct2 && true) && true))) == true) (cond ((cl == cl2 && (rq == rq2 && (fr == fr2 && (ct == ct2 && true) && true))) == true) (cond ((cl == cl2 && (rq == rq2 && (fr == fr2 && (ct == ct2 && true) && true))) == true) (cond ((cl == cl2 && (rq == rq2 && (fr == fr2 && (ct == ct2 && true) && true))) == true) (cond (cl == cl2 && (rq == rq2 && (fr == fr2 && (ct == ct2 && true) && true))) (cond (d2 == d2) (cond (d == d) (cond (decide (ix2 = ix2)) (cond (decide (tm2 = tm2)) (cond (decide (st2 = st2)) (cond (decide (kd2 = kd2)) (cond (decide (cl2 = cl2)) (cond (decide (rq2 = rq2)) (cond (decide (fr2 = fr2)) (cond (decide (ct2 = ct2)) (cond (d2 == d2) (cond (nl2 == nl2) (cond (Nat.beq m m) (cond (Nat.beq m m) (cond (decide (ix2 = ix2)) (cond (decide (tm2 = tm2)) (cond (decide (st2 = st2)) (cond (decide (kd2 = kd2)) (cond (decide (cl2 = cl2)) (cond (decide (rq2 = rq2)) (cond (decide (fr2 = fr2)) (cond (decide (ct2 = ct2)) (cond (d2 == d2) (cond (nl2 == nl2) (cond (Nat.beq m m) (cond (Nat.beq m m) (cond (decide (ix = ix)) (cond (decide (tm = tm)) (cond (decide (st = st)) (cond (decide (kd = kd)) (cond (decide (cl = cl)) (cond (decide (rq = rq)) (cond (decide (fr = fr)) (cond (decide (ct = ct)) (cond (d == d) (cond (nl == nl) (cond (Nat.beq n n) (cond (Nat.beq n n) (cond (decide (kd2 = kd2)) (cond (decide (kd = kd)) (some (CS.mk [(AV.bool (d == d2))] [])) none) none) none) none) none) none) none) none) none) none) none) none) none) none) none) none) none) none) none) none) none) none) none) none) none) none) none) none) none) none) none) none) none) none) none) none) none) none) none) none) none) none) none) none) none)
  (cond ((cl == cl2 && (rq == rq2 && (fr == fr2 && (ct == ct2 && true) && true))) == true) none (cond ((cl == cl2 && (rq == rq2 && (fr == fr2 && (ct == ct2 && true) && true))) == true) none (cond ((cl == cl2 && (rq == rq2 && (fr == fr2 && (ct == ct2 && true) && true))) == true) none (cond ((cl == cl2 && (rq == rq2 && (fr == fr2 && (ct == ct2 && true) && true))) == true) none (cond (cl == cl2 && (rq == rq2 && (fr == fr2 && (ct == ct2 && true) && true))) none (cond (decide (ix2 = ix2)) (cond (decide (tm2 = tm2)) (cond (decide (st2 = st2)) (cond (decide (kd2 = kd2)) (cond (decide (cl2 = cl2)) (cond (decide (rq2 = rq2)) (cond (decide (fr2 = fr2)) (cond (decide (ct2 = ct2)) (cond (d2 == d2) (cond (nl2 == nl2) (cond (Nat.beq m m) (cond (Nat.beq m m) (cond (decide (ix2 = ix2)) (cond (decide (tm2 = tm2)) (cond (decide (st2 = st2)) (cond (decide (kd2 = kd2)) (cond (decide (cl2 = cl2)) (cond (decide (rq2 = rq2)) (cond (decide (fr2 = fr2)) (cond (decide (ct2 = ct2)) (cond (d2 == d2) (cond (nl2 == nl2) (cond (Nat.beq m m) (cond (Nat.beq m m) (cond (decide (ix = ix)) (cond (decide (tm = tm)) (cond (decide (st = st)) (cond (decide (kd = kd)) (cond (decide (cl = cl)) (cond (decide (rq = rq)) (cond (decide (fr = fr)) (cond (decide (ct = ct)) (cond (d == d) (cond (nl == nl) (cond (Nat.beq n n) (cond (Nat.beq n n) (cond (decide (kd2 = kd2)) (cond (decide (kd = kd)) (some (CS.mk [(AV.bool (false))] [])) none) none) none) none) none) none) none) none) none) none) none) none) none) none) none) none) none) none) none) none) none) none) none) none) none) none) none) none) none) none) none) none) none) none) none) none) none) none))))))) none) none) none) none) none)
  (cond ((kd == kd2) == true) none (cond ((kd == kd2) == true) none (cond ((kd == kd2) == true) none (cond ((kd == kd2) == true) none (cond (kd == kd2) none (cond (decide (kd2 = kd2)) (cond (decide (kd = kd)) (some (CS.mk [(AV.bool (false))] [])) none) none))))))) := by kernel_rfl
theorem k20_eq (ix : Int) (tm : Int) (st : Int) (kd : Int) (cl : Int) (rq : Int) (fr : Int) (ct : Int) (d : List Nat) (ix2 : Int) (tm2 : Int) (st2 : Int) (kd2 : Int) (cl2 : Int) (rq2 : Int) (fr2 : Int) (ct2 : Int) (d2 : List Nat) (nl : Bool) (nl2 : Bool) (n : Nat) (m : Nat) (f : Nat → Nat → AV) (g : Nat → Nat → AV) : k20 ix tm st kd cl rq fr ct d ix2 tm2 st2 kd2 cl2 rq2 fr2 ct2 d2 nl nl2 n m f g k20_p = (cond (kd == kd2)
  (cond (cl == cl2 && (rq == rq2 && (fr == fr2 && (ct == ct2 && true) && true)))
  (some (CS.mk [(AV.bool (d == d2))] []))
  (some (CS.mk [(AV.bool (false))] [])))
  (some (CS.mk [(AV.bool (false))] []))) := by
  rw [k20_is]
  try simp only [eq_self, decide_true, beq_self_eq_true, Nat.beq_refl, ble_self, Int.le_refl, Nat.le_refl]
  cases (kd == kd2) with
  | true =>
    cases (cl == cl2 && (rq == rq2 && (fr == fr2 && (ct == ct2 && true) && true))) with
    | true =>
      rfl
    | false =>
      rfl
  | false =>
    rfl
end Go.Proofs.Ytjoojpnbhmhalab.entryTells
