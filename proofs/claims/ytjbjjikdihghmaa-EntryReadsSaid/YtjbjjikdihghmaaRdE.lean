/- Entries, read: loops: what the machine reckons. -/
import Derived.Test.YtjbjjikdihghmaaRdC
set_option linter.unusedSimpArgs false
set_option linter.unusedVariables false
set_option maxRecDepth 20000
namespace Go.Proofs.Ytjbjjikdihghmaa.entry
open Go Go.RowKit Go.Proofs.Ytjbjjikdihghmaa.Bm
abbrev shL : List Sh := [.int .u64, .int .u64, .int .u32, .int .u32]
def lE : List PV := [.keep, .keep, .keep, .keep, .keep, .keep, .keep, .keep, .keep, .asl shL]
def b10 : List AV := [.bad, .bad, .bad, .bad, .bad, .bad, .bad, .bad, .bad, .bad]
/-- Looks, read. -/
def lookF (f : Nat → Nat → AV) (off i : Nat) : Nat → AV
  | 0 => .int .u64 (val f (off + 24 * i) 8)
  | 1 => .int .u64 (val f (off + 24 * i + 8) 8)
  | 2 => .int .u32 (IntKind.wrap .u32 (val f (off + 24 * i + 16) 4))
  | _ => .int .u32 (IntKind.wrap .u32 (val f (off + 24 * i + 20) 4))
def h14 : Pat := ⟨54, [(0, .keep), (2, .keep), (3, .keep), (37, .keep), (38, .keep)], [pR, [], lE]⟩
def x14 : List (Ex × Pat) := [(.exit 0, ⟨54, [(0, .keep), (2, .keep), (3, .keep)], [pR]⟩)]
def h15 : Pat := ⟨66, [(0, .keep), (2, .keep), (3, .keep), (5, .keep), (6, .keep)], [pRR, [], lE]⟩
def x15 : List (Ex × Pat) := [(.exit 0, ⟨66, [(0, .keep), (2, .keep), (3, .keep)], [pRR]⟩)]
def c14t (nl : Bool) (off : Nat) (N : Nat) (f : Nat → Nat → AV) (ix : Int) (tm : Int) (st : Int) (kd : Int) (cl : Int) (rq : Int) (fr : Int) (ct : Int) (d : List Nat) (n : Int) (i : Nat) : CS :=
  ⟨[.ptr 0 0, .ptr 1 0, .ptr 2 0, .int .i64 n, .int .i64 (i : Nat)], [some (.cells [.osl nl 3 off (N - off) (N - off) 1 true, .bool false] true), some (.cells [.bad, .bad, .bad, .bad, .bad, .bad, .bad, .bad, .bad, .bad] true), some (.cells [.int .u64 ix, .int .u64 tm, .int .u64 st, .int .i64 kd, .int .u64 cl, .int .u64 rq, .int .u32 fr, .int .u32 ct, .str d, .nilSlice] true), some (.tarr shB N f false), none]⟩
def c14f (nl : Bool) (off : Nat) (N : Nat) (f : Nat → Nat → AV) (ix : Int) (tm : Int) (st : Int) (kd : Int) (cl : Int) (rq : Int) (fr : Int) (ct : Int) (d : List Nat) (m : Nat) (g : Nat → Nat → AV) (n : Int) (i : Nat) : CS :=
  ⟨[.ptr 0 0, .ptr 1 0, .ptr 2 0, .int .i64 n, .int .i64 (i : Nat)], [some (.cells [.osl nl 3 off (N - off) (N - off) 1 true, .bool false] true), some (.cells [.bad, .bad, .bad, .bad, .bad, .bad, .bad, .bad, .bad, .bad] true), some (.cells [.int .u64 ix, .int .u64 tm, .int .u64 st, .int .i64 kd, .int .u64 cl, .int .u64 rq, .int .u32 fr, .int .u32 ct, .str d, .osl false 4 0 m m 4 true] true), some (.tarr shB N f false), some (.tarr shL m g true)]⟩
def c14b (n : Int) (i : Nat) : CS :=
  ⟨[.ptr 0 0, .ptr 1 0, .ptr 2 0, .int .i64 n, .int .i64 (i : Nat)], [some (.cells [.nilSlice, .bool true] true), some (.cells [.bad, .bad, .bad, .bad, .bad, .bad, .bad, .bad, .bad, .bad] true), some (.cells [.bad, .bad, .bad, .bad, .bad, .bad, .bad, .bad, .bad, .bad] true), none, none]⟩
def c15t (nl : Bool) (a : Nat) (N : Nat) (f : Nat → Nat → AV) (ix : Int) (tm : Int) (st : Int) (kd : Int) (cl : Int) (rq : Int) (fr : Int) (ct : Int) (d : List Nat) (n : Int) (i : Nat) : CS :=
  ⟨[.ptr 0 0, .ptr 1 0, .ptr 2 0, .int .u64 n, .int .u64 (i : Nat)], [some (.cells [.osl nl 3 0 N N 1 true, .int .i64 (a : Nat), .bool false] true), some (.cells [.bad, .bad, .bad, .bad, .bad, .bad, .bad, .bad, .bad, .bad] true), some (.cells [.int .u64 ix, .int .u64 tm, .int .u64 st, .int .i64 kd, .int .u64 cl, .int .u64 rq, .int .u32 fr, .int .u32 ct, .str d, .nilSlice] true), some (.tarr shB N f false), none]⟩
def c15f (nl : Bool) (a : Nat) (N : Nat) (f : Nat → Nat → AV) (ix : Int) (tm : Int) (st : Int) (kd : Int) (cl : Int) (rq : Int) (fr : Int) (ct : Int) (d : List Nat) (m : Nat) (g : Nat → Nat → AV) (n : Int) (i : Nat) : CS :=
  ⟨[.ptr 0 0, .ptr 1 0, .ptr 2 0, .int .u64 n, .int .u64 (i : Nat)], [some (.cells [.osl nl 3 0 N N 1 true, .int .i64 (a : Nat), .bool false] true), some (.cells [.bad, .bad, .bad, .bad, .bad, .bad, .bad, .bad, .bad, .bad] true), some (.cells [.int .u64 ix, .int .u64 tm, .int .u64 st, .int .i64 kd, .int .u64 cl, .int .u64 rq, .int .u32 fr, .int .u32 ct, .str d, .osl false 4 0 m m 4 true] true), some (.tarr shB N f false), some (.tarr shL m g true)]⟩
def c15b (nl : Bool) (N : Nat) (f : Nat → Nat → AV) (n : Int) (i : Nat) : CS :=
  ⟨[.ptr 0 0, .ptr 1 0, .ptr 2 0, .int .u64 n, .int .u64 (i : Nat)], [some (.cells [.osl nl 3 0 N N 1 true, .bad, .bool true] true), some (.cells [.bad, .bad, .bad, .bad, .bad, .bad, .bad, .bad, .bad, .bad] true), some (.cells [.bad, .bad, .bad, .bad, .bad, .bad, .bad, .bad, .bad, .bad] true), some (.tarr shB N f false), none]⟩
noncomputable def FAIL14  : CS := ⟨[.ptr 0 0, .ptr 1 0, .ptr 2 0], [some (.cells [.osl true 3 0 0 0 1 true, .bool true] true), some (.cells b10 true), some (.cells b10 true), some (.tarr shB 0 (fun _ _ => .bad) true)]⟩
noncomputable def r14o (c : CS) : T (Nat × CS) := match c with
  | ⟨[.ptr 0 0, .ptr 1 0, .ptr 2 0, .int .i64 n, .int .i64 z0], [some (.cells [.osl nl 3 off l l2 1 true, .bool false] true), some (.cells [_, _, _, _, _, _, _, _, _, _] true), some (.cells [.int .u64 ix, .int .u64 tm, .int .u64 st, .int .i64 kd, .int .u64 cl, .int .u64 rq, .int .u32 fr, .int .u32 ct, .str d, .osl z1 4 _ _ _ 4 _] true), some (.tarr sh N f false), some _]⟩ =>
    chkT [decide (z0 = 0), decide (l = N - off), decide (l2 = N - off), z1, shBeq sh shB, okB f N, Nat.ble off N, Nat.ble N 1000000, !(decide (n > 64))]
      (.ask (Nat.beq n.toNat 0) (.ret (1, ⟨[.ptr 0 0, .ptr 1 0, .ptr 2 0], [some (.cells [.osl nl 3 off (N - off) (N - off) 1 true, .bool false] true), some (.cells b10 true), some (.cells [.int .u64 ix, .int .u64 tm, .int .u64 st, .int .i64 kd, .int .u64 cl, .int .u64 rq, .int .u32 fr, .int .u32 ct, .str d, .nilSlice] true), some (.tarr shB N f false)]⟩)) (.ask (Nat.blt N (off + 24 * n.toNat)) (.ret (1, FAIL14))
        (.ret (1, ⟨[.ptr 0 0, .ptr 1 0, .ptr 2 0], [some (.cells [.osl nl 3 (off + 24 * n.toNat) (N - (off + 24 * n.toNat)) (N - (off + 24 * n.toNat)) 1 true, .bool false] true), some (.cells b10 true), some (.cells [.int .u64 ix, .int .u64 tm, .int .u64 st, .int .i64 kd, .int .u64 cl, .int .u64 rq, .int .u32 fr, .int .u32 ct, .str d, .osl false 4 0 n.toNat n.toNat 4 true] true), some (.tarr shB N f false), some (.tarr shL n.toNat (lookF f off) true)]⟩))))
  | _ => .fail
noncomputable def r14f (c : CS) : T (Nat × CS) := match c with
  | ⟨[.ptr 0 0, .ptr 1 0, .ptr 2 0, .int .i64 n, .int .i64 z0], [some (.cells [.osl z 3 _ _ _ 1 _, .bool true] true), some (.cells [_, _, _, _, _, _, _, _, _, _] true), some (.cells [_, _, _, _, _, _, _, _, _, _] true), some _, some _]⟩ =>
    chkT [decide (z0 = 0), z] (.ret (1, FAIL14))
  | _ => .fail
noncomputable def r14 (c : CS) : T (Nat × CS) := cond (badP c) (r14f c) (r14o c)
noncomputable def FAIL15 (nl : Bool) (N : Nat) (f : Nat → Nat → AV) : CS := ⟨[.ptr 0 0, .ptr 1 0, .ptr 2 0], [some (.cells [.osl nl 3 0 N N 1 true, .bad, .bool true] true), some (.cells b10 true), some (.cells b10 true), some (.tarr shB N f false)]⟩
noncomputable def r15o (c : CS) : T (Nat × CS) := match c with
  | ⟨[.ptr 0 0, .ptr 1 0, .ptr 2 0, .int .u64 n, .int .u64 z0], [some (.cells [.osl nl 3 0 l l2 1 true, .int .i64 (.ofNat a), .bool false] true), some (.cells [_, _, _, _, _, _, _, _, _, _] true), some (.cells [.int .u64 ix, .int .u64 tm, .int .u64 st, .int .i64 kd, .int .u64 cl, .int .u64 rq, .int .u32 fr, .int .u32 ct, .str d, .osl z1 4 _ _ _ 4 _] true), some (.tarr sh N f false), some _]⟩ =>
    chkT [decide (z0 = 0), decide (l = N), decide (l2 = N), z1, shBeq sh shB, okB f N, Nat.ble a N, Nat.ble N 1000000, !(decide (n > 64))]
      (.ask (Nat.beq n.toNat 0) (.ret (1, ⟨[.ptr 0 0, .ptr 1 0, .ptr 2 0], [some (.cells [.osl nl 3 0 N N 1 true, .int .i64 (a : Nat), .bool false] true), some (.cells b10 true), some (.cells [.int .u64 ix, .int .u64 tm, .int .u64 st, .int .i64 kd, .int .u64 cl, .int .u64 rq, .int .u32 fr, .int .u32 ct, .str d, .nilSlice] true), some (.tarr shB N f false)]⟩)) (.ask (Nat.blt N (a + 24 * n.toNat)) (.ret (1, FAIL15 nl N f))
        (.ret (1, ⟨[.ptr 0 0, .ptr 1 0, .ptr 2 0], [some (.cells [.osl nl 3 0 N N 1 true, .int .i64 ((a + 24 * n.toNat) : Nat), .bool false] true), some (.cells b10 true), some (.cells [.int .u64 ix, .int .u64 tm, .int .u64 st, .int .i64 kd, .int .u64 cl, .int .u64 rq, .int .u32 fr, .int .u32 ct, .str d, .osl false 4 0 n.toNat n.toNat 4 true] true), some (.tarr shB N f false), some (.tarr shL n.toNat (lookF f a) true)]⟩))))
  | _ => .fail
noncomputable def r15f (c : CS) : T (Nat × CS) := match c with
  | ⟨[.ptr 0 0, .ptr 1 0, .ptr 2 0, .int .u64 n, .int .u64 z0], [some (.cells [.osl nl 3 0 l l2 1 true, _, .bool true] true), some (.cells [_, _, _, _, _, _, _, _, _, _] true), some (.cells [_, _, _, _, _, _, _, _, _, _] true), some (.tarr sh N f false), some _]⟩ =>
    chkT [decide (z0 = 0), decide (l = N), decide (l2 = N), shBeq sh shB] (.ret (1, FAIL15 nl N f))
  | _ => .fail
noncomputable def r15 (c : CS) : T (Nat × CS) := cond (badP c) (r15f c) (r15o c)
noncomputable def F6 : Env := addL F5 14 0 1000012 h14 x14 1 r14
noncomputable def F7 : Env := addL F6 15 0 1000013 h15 x15 1 r15
noncomputable def s14t (nl : Bool) (off : Nat) (N : Nat) (f : Nat → Nat → AV) (ix : Int) (tm : Int) (st : Int) (kd : Int) (cl : Int) (rq : Int) (fr : Int) (ct : Int) (d : List Nat) (n : Int) (i : Nat) (π : Plan) : Option (Nat × CS) := stepC (F5) (1000) (loopC F5 14 0) (1) (h14) ((.normal, h14) :: x14) π (c14t nl off N f ix tm st kd cl rq fr ct d n i)
def s14t_p : Plan := (.fork (.reck 6 (.must true (.must true (.reck 2 (.fork (.fork (.fork (.fork .stop (.fork .stop (.fork .stop (.fork .stop .stop)))) .stop) .stop) .stop))))) .stop)
theorem s14t_is (nl : Bool) (off : Nat) (N : Nat) (f : Nat → Nat → AV) (ix : Int) (tm : Int) (st : Int) (kd : Int) (cl : Int) (rq : Int) (fr : Int) (ct : Int) (d : List Nat) (n : Int) (i : Nat) : s14t nl off N f ix tm st kd cl rq fr ct d n i s14t_p = (cond (decide ((↑i : Int) < n))
  (cond (decide (N - off = N - off)) (cond (decide (N - off = N - off)) (cond ((okB f (N)))
  (cond (Nat.ble off N)
  (cond (Nat.ble N 1000000)
  (cond (Nat.blt N (off + 8))
  (some (0, (CS.mk [(AV.ptr (0) (0)), (AV.ptr (1) (0)), (AV.ptr (2) (0)), (AV.int IntKind.i64 (n)), (AV.int IntKind.i64 (IntKind.wrap IntKind.i64 ((↑i : Int) + 1)))] [some (AObj.cells [(AV.osl (true) (3) (0) (0) (0) (1) (true)), (AV.bool (true))] true), some (AObj.cells [AV.bad, AV.bad, AV.bad, AV.bad, AV.bad, AV.bad, AV.bad, AV.bad, AV.bad, AV.bad] true), some (AObj.cells [(AV.int IntKind.u64 (ix)), (AV.int IntKind.u64 (tm)), (AV.int IntKind.u64 (st)), (AV.int IntKind.i64 (kd)), (AV.int IntKind.u64 (cl)), (AV.int IntKind.u64 (rq)), (AV.int IntKind.u32 (fr)), (AV.int IntKind.u32 (ct)), (AV.str (d)), (AV.osl (false) (4) (0) (1) (1) (4) (true))] true), some (AObj.tarr [Sh.int IntKind.u8] (0) (fun p_ q_ => AV.bad) true), some (AObj.tarr [Sh.int IntKind.u64, Sh.int IntKind.u64, Sh.int IntKind.u32, Sh.int IntKind.u32] (1) (rowsOf (4) [(AV.int IntKind.u64 (0)), (AV.int IntKind.u64 (0)), (AV.int IntKind.u32 (0)), (AV.int IntKind.u32 (0))] (1)) true)])))
  (cond (Nat.blt N (off + 16))
  (some (0, (CS.mk [(AV.ptr (0) (0)), (AV.ptr (1) (0)), (AV.ptr (2) (0)), (AV.int IntKind.i64 (n)), (AV.int IntKind.i64 (IntKind.wrap IntKind.i64 ((↑i : Int) + 1)))] [some (AObj.cells [(AV.osl (true) (3) (0) (0) (0) (1) (true)), (AV.bool (true))] true), some (AObj.cells [AV.bad, AV.bad, AV.bad, AV.bad, AV.bad, AV.bad, AV.bad, AV.bad, AV.bad, AV.bad] true), some (AObj.cells [(AV.int IntKind.u64 (ix)), (AV.int IntKind.u64 (tm)), (AV.int IntKind.u64 (st)), (AV.int IntKind.i64 (kd)), (AV.int IntKind.u64 (cl)), (AV.int IntKind.u64 (rq)), (AV.int IntKind.u32 (fr)), (AV.int IntKind.u32 (ct)), (AV.str (d)), (AV.osl (false) (4) (0) (1) (1) (4) (true))] true), some (AObj.tarr [Sh.int IntKind.u8] (0) (fun p_ q_ => AV.bad) true), some (AObj.tarr [Sh.int IntKind.u64, Sh.int IntKind.u64, Sh.int IntKind.u32, Sh.int IntKind.u32] (1) (rowsOf (4) [(AV.int IntKind.u64 ((val f (off) (8)))), (AV.int IntKind.u64 (0)), (AV.int IntKind.u32 (0)), (AV.int IntKind.u32 (0))] (1)) true)])))
  (cond (Nat.blt N (off + 20))
  (some (0, (CS.mk [(AV.ptr (0) (0)), (AV.ptr (1) (0)), (AV.ptr (2) (0)), (AV.int IntKind.i64 (n)), (AV.int IntKind.i64 (IntKind.wrap IntKind.i64 ((↑i : Int) + 1)))] [some (AObj.cells [(AV.osl (true) (3) (0) (0) (0) (1) (true)), (AV.bool (true))] true), some (AObj.cells [AV.bad, AV.bad, AV.bad, AV.bad, AV.bad, AV.bad, AV.bad, AV.bad, AV.bad, AV.bad] true), some (AObj.cells [(AV.int IntKind.u64 (ix)), (AV.int IntKind.u64 (tm)), (AV.int IntKind.u64 (st)), (AV.int IntKind.i64 (kd)), (AV.int IntKind.u64 (cl)), (AV.int IntKind.u64 (rq)), (AV.int IntKind.u32 (fr)), (AV.int IntKind.u32 (ct)), (AV.str (d)), (AV.osl (false) (4) (0) (1) (1) (4) (true))] true), some (AObj.tarr [Sh.int IntKind.u8] (0) (fun p_ q_ => AV.bad) true), some (AObj.tarr [Sh.int IntKind.u64, Sh.int IntKind.u64, Sh.int IntKind.u32, Sh.int IntKind.u32] (1) (rowsOf (4) [(AV.int IntKind.u64 ((val f (off) (8)))), (AV.int IntKind.u64 ((val f (off + 8) (8)))), (AV.int IntKind.u32 (0)), (AV.int IntKind.u32 (0))] (1)) true)])))
  (cond (Nat.blt N (off + 24))
  (some (0, (CS.mk [(AV.ptr (0) (0)), (AV.ptr (1) (0)), (AV.ptr (2) (0)), (AV.int IntKind.i64 (n)), (AV.int IntKind.i64 (IntKind.wrap IntKind.i64 ((↑i : Int) + 1)))] [some (AObj.cells [(AV.osl (true) (3) (0) (0) (0) (1) (true)), (AV.bool (true))] true), some (AObj.cells [AV.bad, AV.bad, AV.bad, AV.bad, AV.bad, AV.bad, AV.bad, AV.bad, AV.bad, AV.bad] true), some (AObj.cells [(AV.int IntKind.u64 (ix)), (AV.int IntKind.u64 (tm)), (AV.int IntKind.u64 (st)), (AV.int IntKind.i64 (kd)), (AV.int IntKind.u64 (cl)), (AV.int IntKind.u64 (rq)), (AV.int IntKind.u32 (fr)), (AV.int IntKind.u32 (ct)), (AV.str (d)), (AV.osl (false) (4) (0) (1) (1) (4) (true))] true), some (AObj.tarr [Sh.int IntKind.u8] (0) (fun p_ q_ => AV.bad) true), some (AObj.tarr [Sh.int IntKind.u64, Sh.int IntKind.u64, Sh.int IntKind.u32, Sh.int IntKind.u32] (1) (rowsOf (4) [(AV.int IntKind.u64 ((val f (off) (8)))), (AV.int IntKind.u64 ((val f (off + 8) (8)))), (AV.int IntKind.u32 (IntKind.wrap IntKind.u32 (val f (off + 16) 4))), (AV.int IntKind.u32 (0))] (1)) true)])))
  (some (0, (CS.mk [(AV.ptr (0) (0)), (AV.ptr (1) (0)), (AV.ptr (2) (0)), (AV.int IntKind.i64 (n)), (AV.int IntKind.i64 (IntKind.wrap IntKind.i64 ((↑i : Int) + 1)))] [some (AObj.cells [(AV.osl (nl) (3) (off + 24) (N - (off + 24)) (N - (off + 24)) (1) (true)), (AV.bool (false))] true), some (AObj.cells [AV.bad, AV.bad, AV.bad, AV.bad, AV.bad, AV.bad, AV.bad, AV.bad, AV.bad, AV.bad] true), some (AObj.cells [(AV.int IntKind.u64 (ix)), (AV.int IntKind.u64 (tm)), (AV.int IntKind.u64 (st)), (AV.int IntKind.i64 (kd)), (AV.int IntKind.u64 (cl)), (AV.int IntKind.u64 (rq)), (AV.int IntKind.u32 (fr)), (AV.int IntKind.u32 (ct)), (AV.str (d)), (AV.osl (false) (4) (0) (1) (1) (4) (true))] true), some (AObj.tarr [Sh.int IntKind.u8] (N) f false), some (AObj.tarr [Sh.int IntKind.u64, Sh.int IntKind.u64, Sh.int IntKind.u32, Sh.int IntKind.u32] (1) (rowsOf (4) [(AV.int IntKind.u64 ((val f (off) (8)))), (AV.int IntKind.u64 ((val f (off + 8) (8)))), (AV.int IntKind.u32 (IntKind.wrap IntKind.u32 (val f (off + 16) 4))), (AV.int IntKind.u32 (IntKind.wrap IntKind.u32 (val f (off + 20) 4)))] (1)) true)])))))))
  none)
  none)
  none) none) none)
  (some (1, (CS.mk [(AV.ptr (0) (0)), (AV.ptr (1) (0)), (AV.ptr (2) (0))] [some (AObj.cells [(AV.osl (nl) (3) (off) (N - off) (N - off) (1) (true)), (AV.bool (false))] true), some (AObj.cells [AV.bad, AV.bad, AV.bad, AV.bad, AV.bad, AV.bad, AV.bad, AV.bad, AV.bad, AV.bad] true), some (AObj.cells [(AV.int IntKind.u64 (ix)), (AV.int IntKind.u64 (tm)), (AV.int IntKind.u64 (st)), (AV.int IntKind.i64 (kd)), (AV.int IntKind.u64 (cl)), (AV.int IntKind.u64 (rq)), (AV.int IntKind.u32 (fr)), (AV.int IntKind.u32 (ct)), (AV.str (d)), AV.nilSlice] true), some (AObj.tarr [Sh.int IntKind.u8] (N) f false)])))) := by kernel_rfl
theorem s14t_eq (nl : Bool) (off : Nat) (N : Nat) (f : Nat → Nat → AV) (ix : Int) (tm : Int) (st : Int) (kd : Int) (cl : Int) (rq : Int) (fr : Int) (ct : Int) (d : List Nat) (n : Int) (i : Nat) : s14t nl off N f ix tm st kd cl rq fr ct d n i s14t_p = (cond (decide ((↑i : Int) < n))
  (cond (okB f (N))
  (cond (Nat.ble off N)
  (cond (Nat.ble N 1000000)
  (cond (Nat.blt N (off + 8))
  (some (0, (CS.mk [(AV.ptr (0) (0)), (AV.ptr (1) (0)), (AV.ptr (2) (0)), (AV.int IntKind.i64 (n)), (AV.int IntKind.i64 (IntKind.wrap IntKind.i64 ((↑i : Int) + 1)))] [some (AObj.cells [(AV.osl (true) (3) (0) (0) (0) (1) (true)), (AV.bool (true))] true), some (AObj.cells [AV.bad, AV.bad, AV.bad, AV.bad, AV.bad, AV.bad, AV.bad, AV.bad, AV.bad, AV.bad] true), some (AObj.cells [(AV.int IntKind.u64 (ix)), (AV.int IntKind.u64 (tm)), (AV.int IntKind.u64 (st)), (AV.int IntKind.i64 (kd)), (AV.int IntKind.u64 (cl)), (AV.int IntKind.u64 (rq)), (AV.int IntKind.u32 (fr)), (AV.int IntKind.u32 (ct)), (AV.str (d)), (AV.osl (false) (4) (0) (1) (1) (4) (true))] true), some (AObj.tarr [Sh.int IntKind.u8] (0) (fun p_ q_ => AV.bad) true), some (AObj.tarr [Sh.int IntKind.u64, Sh.int IntKind.u64, Sh.int IntKind.u32, Sh.int IntKind.u32] (1) (rowsOf (4) [(AV.int IntKind.u64 (0)), (AV.int IntKind.u64 (0)), (AV.int IntKind.u32 (0)), (AV.int IntKind.u32 (0))] (1)) true)])))
  (cond (Nat.blt N (off + 16))
  (some (0, (CS.mk [(AV.ptr (0) (0)), (AV.ptr (1) (0)), (AV.ptr (2) (0)), (AV.int IntKind.i64 (n)), (AV.int IntKind.i64 (IntKind.wrap IntKind.i64 ((↑i : Int) + 1)))] [some (AObj.cells [(AV.osl (true) (3) (0) (0) (0) (1) (true)), (AV.bool (true))] true), some (AObj.cells [AV.bad, AV.bad, AV.bad, AV.bad, AV.bad, AV.bad, AV.bad, AV.bad, AV.bad, AV.bad] true), some (AObj.cells [(AV.int IntKind.u64 (ix)), (AV.int IntKind.u64 (tm)), (AV.int IntKind.u64 (st)), (AV.int IntKind.i64 (kd)), (AV.int IntKind.u64 (cl)), (AV.int IntKind.u64 (rq)), (AV.int IntKind.u32 (fr)), (AV.int IntKind.u32 (ct)), (AV.str (d)), (AV.osl (false) (4) (0) (1) (1) (4) (true))] true), some (AObj.tarr [Sh.int IntKind.u8] (0) (fun p_ q_ => AV.bad) true), some (AObj.tarr [Sh.int IntKind.u64, Sh.int IntKind.u64, Sh.int IntKind.u32, Sh.int IntKind.u32] (1) (rowsOf (4) [(AV.int IntKind.u64 ((val f (off) (8)))), (AV.int IntKind.u64 (0)), (AV.int IntKind.u32 (0)), (AV.int IntKind.u32 (0))] (1)) true)])))
  (cond (Nat.blt N (off + 20))
  (some (0, (CS.mk [(AV.ptr (0) (0)), (AV.ptr (1) (0)), (AV.ptr (2) (0)), (AV.int IntKind.i64 (n)), (AV.int IntKind.i64 (IntKind.wrap IntKind.i64 ((↑i : Int) + 1)))] [some (AObj.cells [(AV.osl (true) (3) (0) (0) (0) (1) (true)), (AV.bool (true))] true), some (AObj.cells [AV.bad, AV.bad, AV.bad, AV.bad, AV.bad, AV.bad, AV.bad, AV.bad, AV.bad, AV.bad] true), some (AObj.cells [(AV.int IntKind.u64 (ix)), (AV.int IntKind.u64 (tm)), (AV.int IntKind.u64 (st)), (AV.int IntKind.i64 (kd)), (AV.int IntKind.u64 (cl)), (AV.int IntKind.u64 (rq)), (AV.int IntKind.u32 (fr)), (AV.int IntKind.u32 (ct)), (AV.str (d)), (AV.osl (false) (4) (0) (1) (1) (4) (true))] true), some (AObj.tarr [Sh.int IntKind.u8] (0) (fun p_ q_ => AV.bad) true), some (AObj.tarr [Sh.int IntKind.u64, Sh.int IntKind.u64, Sh.int IntKind.u32, Sh.int IntKind.u32] (1) (rowsOf (4) [(AV.int IntKind.u64 ((val f (off) (8)))), (AV.int IntKind.u64 ((val f (off + 8) (8)))), (AV.int IntKind.u32 (0)), (AV.int IntKind.u32 (0))] (1)) true)])))
  (cond (Nat.blt N (off + 24))
  (some (0, (CS.mk [(AV.ptr (0) (0)), (AV.ptr (1) (0)), (AV.ptr (2) (0)), (AV.int IntKind.i64 (n)), (AV.int IntKind.i64 (IntKind.wrap IntKind.i64 ((↑i : Int) + 1)))] [some (AObj.cells [(AV.osl (true) (3) (0) (0) (0) (1) (true)), (AV.bool (true))] true), some (AObj.cells [AV.bad, AV.bad, AV.bad, AV.bad, AV.bad, AV.bad, AV.bad, AV.bad, AV.bad, AV.bad] true), some (AObj.cells [(AV.int IntKind.u64 (ix)), (AV.int IntKind.u64 (tm)), (AV.int IntKind.u64 (st)), (AV.int IntKind.i64 (kd)), (AV.int IntKind.u64 (cl)), (AV.int IntKind.u64 (rq)), (AV.int IntKind.u32 (fr)), (AV.int IntKind.u32 (ct)), (AV.str (d)), (AV.osl (false) (4) (0) (1) (1) (4) (true))] true), some (AObj.tarr [Sh.int IntKind.u8] (0) (fun p_ q_ => AV.bad) true), some (AObj.tarr [Sh.int IntKind.u64, Sh.int IntKind.u64, Sh.int IntKind.u32, Sh.int IntKind.u32] (1) (rowsOf (4) [(AV.int IntKind.u64 ((val f (off) (8)))), (AV.int IntKind.u64 ((val f (off + 8) (8)))), (AV.int IntKind.u32 (IntKind.wrap IntKind.u32 (val f (off + 16) 4))), (AV.int IntKind.u32 (0))] (1)) true)])))
  (some (0, (CS.mk [(AV.ptr (0) (0)), (AV.ptr (1) (0)), (AV.ptr (2) (0)), (AV.int IntKind.i64 (n)), (AV.int IntKind.i64 (IntKind.wrap IntKind.i64 ((↑i : Int) + 1)))] [some (AObj.cells [(AV.osl (nl) (3) (off + 24) (N - (off + 24)) (N - (off + 24)) (1) (true)), (AV.bool (false))] true), some (AObj.cells [AV.bad, AV.bad, AV.bad, AV.bad, AV.bad, AV.bad, AV.bad, AV.bad, AV.bad, AV.bad] true), some (AObj.cells [(AV.int IntKind.u64 (ix)), (AV.int IntKind.u64 (tm)), (AV.int IntKind.u64 (st)), (AV.int IntKind.i64 (kd)), (AV.int IntKind.u64 (cl)), (AV.int IntKind.u64 (rq)), (AV.int IntKind.u32 (fr)), (AV.int IntKind.u32 (ct)), (AV.str (d)), (AV.osl (false) (4) (0) (1) (1) (4) (true))] true), some (AObj.tarr [Sh.int IntKind.u8] (N) f false), some (AObj.tarr [Sh.int IntKind.u64, Sh.int IntKind.u64, Sh.int IntKind.u32, Sh.int IntKind.u32] (1) (rowsOf (4) [(AV.int IntKind.u64 ((val f (off) (8)))), (AV.int IntKind.u64 ((val f (off + 8) (8)))), (AV.int IntKind.u32 (IntKind.wrap IntKind.u32 (val f (off + 16) 4))), (AV.int IntKind.u32 (IntKind.wrap IntKind.u32 (val f (off + 20) 4)))] (1)) true)])))))))
  none)
  none)
  none)
  (some (1, (CS.mk [(AV.ptr (0) (0)), (AV.ptr (1) (0)), (AV.ptr (2) (0))] [some (AObj.cells [(AV.osl (nl) (3) (off) (N - off) (N - off) (1) (true)), (AV.bool (false))] true), some (AObj.cells [AV.bad, AV.bad, AV.bad, AV.bad, AV.bad, AV.bad, AV.bad, AV.bad, AV.bad, AV.bad] true), some (AObj.cells [(AV.int IntKind.u64 (ix)), (AV.int IntKind.u64 (tm)), (AV.int IntKind.u64 (st)), (AV.int IntKind.i64 (kd)), (AV.int IntKind.u64 (cl)), (AV.int IntKind.u64 (rq)), (AV.int IntKind.u32 (fr)), (AV.int IntKind.u32 (ct)), (AV.str (d)), AV.nilSlice] true), some (AObj.tarr [Sh.int IntKind.u8] (N) f false)])))) := by
  rw [s14t_is]
  try simp only [eq_self, decide_true, beq_self_eq_true, Nat.beq_refl, ble_self, Int.le_refl, Nat.le_refl]
  cases (decide ((↑i : Int) < n)) with
  | true =>
    cases (okB f (N)) with
    | true =>
      cases (Nat.ble off N) with
      | true =>
        cases (Nat.ble N 1000000) with
        | true =>
          cases (Nat.blt N (off + 8)) with
          | true =>
            rfl
          | false =>
            cases (Nat.blt N (off + 16)) with
            | true =>
              rfl
            | false =>
              cases (Nat.blt N (off + 20)) with
              | true =>
                rfl
              | false =>
                cases (Nat.blt N (off + 24)) with
                | true =>
                  rfl
                | false =>
                  rfl
        | false =>
          rfl
      | false =>
        rfl
    | false =>
      rfl
  | false =>
    rfl

noncomputable def s14f (nl : Bool) (off : Nat) (N : Nat) (f : Nat → Nat → AV) (ix : Int) (tm : Int) (st : Int) (kd : Int) (cl : Int) (rq : Int) (fr : Int) (ct : Int) (d : List Nat) (m : Nat) (g : Nat → Nat → AV) (n : Int) (i : Nat) (π : Plan) : Option (Nat × CS) := stepC (F5) (1000) (loopC F5 14 0) (1) (h14) ((.normal, h14) :: x14) π (c14f nl off N f ix tm st kd cl rq fr ct d m g n i)
def s14f_p : Plan := (.fork (.reck 6 (.must true (.must true (.reck 2 (.fork (.fork (.fork (.fork (.reck 2 (.must false (.fork (.fork (.reck 2 (.must true (.must true (.reck 2 (.must true (.must true .stop)))))) .stop) .stop))) (.fork (.reck 2 (.must false (.fork (.fork (.reck 2 (.must true (.must true (.reck 2 (.must true (.must true .stop)))))) .stop) .stop))) (.fork (.reck 2 (.must false (.fork (.fork (.reck 2 (.must true (.must true (.reck 2 (.must true (.must true .stop)))))) .stop) .stop))) (.fork (.reck 2 (.must false (.fork (.fork (.reck 2 (.must true (.must true (.reck 2 (.must true (.must true .stop)))))) .stop) .stop))) (.reck 1 (.must false (.fork (.fork (.reck 2 (.must true (.must true (.reck 2 (.must true (.must true .stop)))))) .stop) .stop))))))) .stop) .stop) .stop))))) .stop)
theorem s14f_is (nl : Bool) (off : Nat) (N : Nat) (f : Nat → Nat → AV) (ix : Int) (tm : Int) (st : Int) (kd : Int) (cl : Int) (rq : Int) (fr : Int) (ct : Int) (d : List Nat) (m : Nat) (g : Nat → Nat → AV) (n : Int) (i : Nat) : s14f nl off N f ix tm st kd cl rq fr ct d m g n i s14f_p = (cond (decide ((↑i : Int) < n))
  (cond (decide (N - off = N - off)) (cond (decide (N - off = N - off)) (cond ((okB f (N)))
  (cond (Nat.ble off N)
  (cond (Nat.ble N 1000000)
  (cond (Nat.blt N (off + 8))
  (cond (Nat.ble ((m) + (1)) (m)) none (cond (growB (24) (m + 1))
  (cond (Nat.ble (0 + m) m)
  (cond (Nat.beq m m) (cond (Nat.beq m m) (cond (Nat.beq m m) (cond (Nat.beq m m) (some (0, (CS.mk [(AV.ptr (0) (0)), (AV.ptr (1) (0)), (AV.ptr (2) (0)), (AV.int IntKind.i64 (n)), (AV.int IntKind.i64 (IntKind.wrap IntKind.i64 ((↑i : Int) + 1)))] [some (AObj.cells [(AV.osl (true) (3) (0) (0) (0) (1) (true)), (AV.bool (true))] true), some (AObj.cells [AV.bad, AV.bad, AV.bad, AV.bad, AV.bad, AV.bad, AV.bad, AV.bad, AV.bad, AV.bad] true), some (AObj.cells [(AV.int IntKind.u64 (ix)), (AV.int IntKind.u64 (tm)), (AV.int IntKind.u64 (st)), (AV.int IntKind.i64 (kd)), (AV.int IntKind.u64 (cl)), (AV.int IntKind.u64 (rq)), (AV.int IntKind.u32 (fr)), (AV.int IntKind.u32 (ct)), (AV.str (d)), (AV.osl (false) (4) (0) (m + 1) (m + 1) (4) (true))] true), some (AObj.tarr [Sh.int IntKind.u8] (0) (fun p_ q_ => AV.bad) true), some (AObj.tarr [Sh.int IntKind.u64, Sh.int IntKind.u64, Sh.int IntKind.u32, Sh.int IntKind.u32] (m + 1) (fjoin (fun p_ q_ => g (0 + p_) q_) (m) (rowsOf (4) [(AV.int IntKind.u64 (0)), (AV.int IntKind.u64 (0)), (AV.int IntKind.u32 (0)), (AV.int IntKind.u32 (0))] (1))) true)]))) none) none) none) none)
  none)
  none))
  (cond (Nat.blt N (off + 16))
  (cond (Nat.ble ((m) + (1)) (m)) none (cond (growB (24) (m + 1))
  (cond (Nat.ble (0 + m) m)
  (cond (Nat.beq m m) (cond (Nat.beq m m) (cond (Nat.beq m m) (cond (Nat.beq m m) (some (0, (CS.mk [(AV.ptr (0) (0)), (AV.ptr (1) (0)), (AV.ptr (2) (0)), (AV.int IntKind.i64 (n)), (AV.int IntKind.i64 (IntKind.wrap IntKind.i64 ((↑i : Int) + 1)))] [some (AObj.cells [(AV.osl (true) (3) (0) (0) (0) (1) (true)), (AV.bool (true))] true), some (AObj.cells [AV.bad, AV.bad, AV.bad, AV.bad, AV.bad, AV.bad, AV.bad, AV.bad, AV.bad, AV.bad] true), some (AObj.cells [(AV.int IntKind.u64 (ix)), (AV.int IntKind.u64 (tm)), (AV.int IntKind.u64 (st)), (AV.int IntKind.i64 (kd)), (AV.int IntKind.u64 (cl)), (AV.int IntKind.u64 (rq)), (AV.int IntKind.u32 (fr)), (AV.int IntKind.u32 (ct)), (AV.str (d)), (AV.osl (false) (4) (0) (m + 1) (m + 1) (4) (true))] true), some (AObj.tarr [Sh.int IntKind.u8] (0) (fun p_ q_ => AV.bad) true), some (AObj.tarr [Sh.int IntKind.u64, Sh.int IntKind.u64, Sh.int IntKind.u32, Sh.int IntKind.u32] (m + 1) (fjoin (fun p_ q_ => g (0 + p_) q_) (m) (rowsOf (4) [(AV.int IntKind.u64 ((val f (off) (8)))), (AV.int IntKind.u64 (0)), (AV.int IntKind.u32 (0)), (AV.int IntKind.u32 (0))] (1))) true)]))) none) none) none) none)
  none)
  none))
  (cond (Nat.blt N (off + 20))
  (cond (Nat.ble ((m) + (1)) (m)) none (cond (growB (24) (m + 1))
  (cond (Nat.ble (0 + m) m)
  (cond (Nat.beq m m) (cond (Nat.beq m m) (cond (Nat.beq m m) (cond (Nat.beq m m) (some (0, (CS.mk [(AV.ptr (0) (0)), (AV.ptr (1) (0)), (AV.ptr (2) (0)), (AV.int IntKind.i64 (n)), (AV.int IntKind.i64 (IntKind.wrap IntKind.i64 ((↑i : Int) + 1)))] [some (AObj.cells [(AV.osl (true) (3) (0) (0) (0) (1) (true)), (AV.bool (true))] true), some (AObj.cells [AV.bad, AV.bad, AV.bad, AV.bad, AV.bad, AV.bad, AV.bad, AV.bad, AV.bad, AV.bad] true), some (AObj.cells [(AV.int IntKind.u64 (ix)), (AV.int IntKind.u64 (tm)), (AV.int IntKind.u64 (st)), (AV.int IntKind.i64 (kd)), (AV.int IntKind.u64 (cl)), (AV.int IntKind.u64 (rq)), (AV.int IntKind.u32 (fr)), (AV.int IntKind.u32 (ct)), (AV.str (d)), (AV.osl (false) (4) (0) (m + 1) (m + 1) (4) (true))] true), some (AObj.tarr [Sh.int IntKind.u8] (0) (fun p_ q_ => AV.bad) true), some (AObj.tarr [Sh.int IntKind.u64, Sh.int IntKind.u64, Sh.int IntKind.u32, Sh.int IntKind.u32] (m + 1) (fjoin (fun p_ q_ => g (0 + p_) q_) (m) (rowsOf (4) [(AV.int IntKind.u64 ((val f (off) (8)))), (AV.int IntKind.u64 ((val f (off + 8) (8)))), (AV.int IntKind.u32 (0)), (AV.int IntKind.u32 (0))] (1))) true)]))) none) none) none) none)
  none)
  none))
  (cond (Nat.blt N (off + 24))
  (cond (Nat.ble ((m) + (1)) (m)) none (cond (growB (24) (m + 1))
  (cond (Nat.ble (0 + m) m)
  (cond (Nat.beq m m) (cond (Nat.beq m m) (cond (Nat.beq m m) (cond (Nat.beq m m) (some (0, (CS.mk [(AV.ptr (0) (0)), (AV.ptr (1) (0)), (AV.ptr (2) (0)), (AV.int IntKind.i64 (n)), (AV.int IntKind.i64 (IntKind.wrap IntKind.i64 ((↑i : Int) + 1)))] [some (AObj.cells [(AV.osl (true) (3) (0) (0) (0) (1) (true)), (AV.bool (true))] true), some (AObj.cells [AV.bad, AV.bad, AV.bad, AV.bad, AV.bad, AV.bad, AV.bad, AV.bad, AV.bad, AV.bad] true), some (AObj.cells [(AV.int IntKind.u64 (ix)), (AV.int IntKind.u64 (tm)), (AV.int IntKind.u64 (st)), (AV.int IntKind.i64 (kd)), (AV.int IntKind.u64 (cl)), (AV.int IntKind.u64 (rq)), (AV.int IntKind.u32 (fr)), (AV.int IntKind.u32 (ct)), (AV.str (d)), (AV.osl (false) (4) (0) (m + 1) (m + 1) (4) (true))] true), some (AObj.tarr [Sh.int IntKind.u8] (0) (fun p_ q_ => AV.bad) true), some (AObj.tarr [Sh.int IntKind.u64, Sh.int IntKind.u64, Sh.int IntKind.u32, Sh.int IntKind.u32] (m + 1) (fjoin (fun p_ q_ => g (0 + p_) q_) (m) (rowsOf (4) [(AV.int IntKind.u64 ((val f (off) (8)))), (AV.int IntKind.u64 ((val f (off + 8) (8)))), (AV.int IntKind.u32 (IntKind.wrap IntKind.u32 (val f (off + 16) 4))), (AV.int IntKind.u32 (0))] (1))) true)]))) none) none) none) none)
  none)
  none))
  (cond (Nat.ble ((m) + (1)) (m)) none (cond (growB (24) (m + 1))
  (cond (Nat.ble (0 + m) m)
  (cond (Nat.beq m m) (cond (Nat.beq m m) (cond (Nat.beq m m) (cond (Nat.beq m m) (some (0, (CS.mk [(AV.ptr (0) (0)), (AV.ptr (1) (0)), (AV.ptr (2) (0)), (AV.int IntKind.i64 (n)), (AV.int IntKind.i64 (IntKind.wrap IntKind.i64 ((↑i : Int) + 1)))] [some (AObj.cells [(AV.osl (nl) (3) (off + 24) (N - (off + 24)) (N - (off + 24)) (1) (true)), (AV.bool (false))] true), some (AObj.cells [AV.bad, AV.bad, AV.bad, AV.bad, AV.bad, AV.bad, AV.bad, AV.bad, AV.bad, AV.bad] true), some (AObj.cells [(AV.int IntKind.u64 (ix)), (AV.int IntKind.u64 (tm)), (AV.int IntKind.u64 (st)), (AV.int IntKind.i64 (kd)), (AV.int IntKind.u64 (cl)), (AV.int IntKind.u64 (rq)), (AV.int IntKind.u32 (fr)), (AV.int IntKind.u32 (ct)), (AV.str (d)), (AV.osl (false) (4) (0) (m + 1) (m + 1) (4) (true))] true), some (AObj.tarr [Sh.int IntKind.u8] (N) f false), some (AObj.tarr [Sh.int IntKind.u64, Sh.int IntKind.u64, Sh.int IntKind.u32, Sh.int IntKind.u32] (m + 1) (fjoin (fun p_ q_ => g (0 + p_) q_) (m) (rowsOf (4) [(AV.int IntKind.u64 ((val f (off) (8)))), (AV.int IntKind.u64 ((val f (off + 8) (8)))), (AV.int IntKind.u32 (IntKind.wrap IntKind.u32 (val f (off + 16) 4))), (AV.int IntKind.u32 (IntKind.wrap IntKind.u32 (val f (off + 20) 4)))] (1))) true)]))) none) none) none) none)
  none)
  none))))))
  none)
  none)
  none) none) none)
  (some (1, (CS.mk [(AV.ptr (0) (0)), (AV.ptr (1) (0)), (AV.ptr (2) (0))] [some (AObj.cells [(AV.osl (nl) (3) (off) (N - off) (N - off) (1) (true)), (AV.bool (false))] true), some (AObj.cells [AV.bad, AV.bad, AV.bad, AV.bad, AV.bad, AV.bad, AV.bad, AV.bad, AV.bad, AV.bad] true), some (AObj.cells [(AV.int IntKind.u64 (ix)), (AV.int IntKind.u64 (tm)), (AV.int IntKind.u64 (st)), (AV.int IntKind.i64 (kd)), (AV.int IntKind.u64 (cl)), (AV.int IntKind.u64 (rq)), (AV.int IntKind.u32 (fr)), (AV.int IntKind.u32 (ct)), (AV.str (d)), (AV.osl (false) (4) (0) (m) (m) (4) (true))] true), some (AObj.tarr [Sh.int IntKind.u8] (N) f false), some (AObj.tarr [Sh.int IntKind.u64, Sh.int IntKind.u64, Sh.int IntKind.u32, Sh.int IntKind.u32] (m) g true)])))) := by kernel_rfl
theorem s14f_eq (nl : Bool) (off : Nat) (N : Nat) (f : Nat → Nat → AV) (ix : Int) (tm : Int) (st : Int) (kd : Int) (cl : Int) (rq : Int) (fr : Int) (ct : Int) (d : List Nat) (m : Nat) (g : Nat → Nat → AV) (n : Int) (i : Nat) : s14f nl off N f ix tm st kd cl rq fr ct d m g n i s14f_p = (cond (decide ((↑i : Int) < n))
  (cond (okB f (N))
  (cond (Nat.ble off N)
  (cond (Nat.ble N 1000000)
  (cond (Nat.blt N (off + 8))
  (cond (Nat.ble ((m) + (1)) (m)) none (cond (growB (24) (m + 1))
  (cond (Nat.ble (0 + m) m)
  (some (0, (CS.mk [(AV.ptr (0) (0)), (AV.ptr (1) (0)), (AV.ptr (2) (0)), (AV.int IntKind.i64 (n)), (AV.int IntKind.i64 (IntKind.wrap IntKind.i64 ((↑i : Int) + 1)))] [some (AObj.cells [(AV.osl (true) (3) (0) (0) (0) (1) (true)), (AV.bool (true))] true), some (AObj.cells [AV.bad, AV.bad, AV.bad, AV.bad, AV.bad, AV.bad, AV.bad, AV.bad, AV.bad, AV.bad] true), some (AObj.cells [(AV.int IntKind.u64 (ix)), (AV.int IntKind.u64 (tm)), (AV.int IntKind.u64 (st)), (AV.int IntKind.i64 (kd)), (AV.int IntKind.u64 (cl)), (AV.int IntKind.u64 (rq)), (AV.int IntKind.u32 (fr)), (AV.int IntKind.u32 (ct)), (AV.str (d)), (AV.osl (false) (4) (0) (m + 1) (m + 1) (4) (true))] true), some (AObj.tarr [Sh.int IntKind.u8] (0) (fun p_ q_ => AV.bad) true), some (AObj.tarr [Sh.int IntKind.u64, Sh.int IntKind.u64, Sh.int IntKind.u32, Sh.int IntKind.u32] (m + 1) (fjoin (fun p_ q_ => g (0 + p_) q_) (m) (rowsOf (4) [(AV.int IntKind.u64 (0)), (AV.int IntKind.u64 (0)), (AV.int IntKind.u32 (0)), (AV.int IntKind.u32 (0))] (1))) true)])))
  none)
  none))
  (cond (Nat.blt N (off + 16))
  (cond (Nat.ble ((m) + (1)) (m)) none (cond (growB (24) (m + 1))
  (cond (Nat.ble (0 + m) m)
  (some (0, (CS.mk [(AV.ptr (0) (0)), (AV.ptr (1) (0)), (AV.ptr (2) (0)), (AV.int IntKind.i64 (n)), (AV.int IntKind.i64 (IntKind.wrap IntKind.i64 ((↑i : Int) + 1)))] [some (AObj.cells [(AV.osl (true) (3) (0) (0) (0) (1) (true)), (AV.bool (true))] true), some (AObj.cells [AV.bad, AV.bad, AV.bad, AV.bad, AV.bad, AV.bad, AV.bad, AV.bad, AV.bad, AV.bad] true), some (AObj.cells [(AV.int IntKind.u64 (ix)), (AV.int IntKind.u64 (tm)), (AV.int IntKind.u64 (st)), (AV.int IntKind.i64 (kd)), (AV.int IntKind.u64 (cl)), (AV.int IntKind.u64 (rq)), (AV.int IntKind.u32 (fr)), (AV.int IntKind.u32 (ct)), (AV.str (d)), (AV.osl (false) (4) (0) (m + 1) (m + 1) (4) (true))] true), some (AObj.tarr [Sh.int IntKind.u8] (0) (fun p_ q_ => AV.bad) true), some (AObj.tarr [Sh.int IntKind.u64, Sh.int IntKind.u64, Sh.int IntKind.u32, Sh.int IntKind.u32] (m + 1) (fjoin (fun p_ q_ => g (0 + p_) q_) (m) (rowsOf (4) [(AV.int IntKind.u64 ((val f (off) (8)))), (AV.int IntKind.u64 (0)), (AV.int IntKind.u32 (0)), (AV.int IntKind.u32 (0))] (1))) true)])))
  none)
  none))
  (cond (Nat.blt N (off + 20))
  (cond (Nat.ble ((m) + (1)) (m)) none (cond (growB (24) (m + 1))
  (cond (Nat.ble (0 + m) m)
  (some (0, (CS.mk [(AV.ptr (0) (0)), (AV.ptr (1) (0)), (AV.ptr (2) (0)), (AV.int IntKind.i64 (n)), (AV.int IntKind.i64 (IntKind.wrap IntKind.i64 ((↑i : Int) + 1)))] [some (AObj.cells [(AV.osl (true) (3) (0) (0) (0) (1) (true)), (AV.bool (true))] true), some (AObj.cells [AV.bad, AV.bad, AV.bad, AV.bad, AV.bad, AV.bad, AV.bad, AV.bad, AV.bad, AV.bad] true), some (AObj.cells [(AV.int IntKind.u64 (ix)), (AV.int IntKind.u64 (tm)), (AV.int IntKind.u64 (st)), (AV.int IntKind.i64 (kd)), (AV.int IntKind.u64 (cl)), (AV.int IntKind.u64 (rq)), (AV.int IntKind.u32 (fr)), (AV.int IntKind.u32 (ct)), (AV.str (d)), (AV.osl (false) (4) (0) (m + 1) (m + 1) (4) (true))] true), some (AObj.tarr [Sh.int IntKind.u8] (0) (fun p_ q_ => AV.bad) true), some (AObj.tarr [Sh.int IntKind.u64, Sh.int IntKind.u64, Sh.int IntKind.u32, Sh.int IntKind.u32] (m + 1) (fjoin (fun p_ q_ => g (0 + p_) q_) (m) (rowsOf (4) [(AV.int IntKind.u64 ((val f (off) (8)))), (AV.int IntKind.u64 ((val f (off + 8) (8)))), (AV.int IntKind.u32 (0)), (AV.int IntKind.u32 (0))] (1))) true)])))
  none)
  none))
  (cond (Nat.blt N (off + 24))
  (cond (Nat.ble ((m) + (1)) (m)) none (cond (growB (24) (m + 1))
  (cond (Nat.ble (0 + m) m)
  (some (0, (CS.mk [(AV.ptr (0) (0)), (AV.ptr (1) (0)), (AV.ptr (2) (0)), (AV.int IntKind.i64 (n)), (AV.int IntKind.i64 (IntKind.wrap IntKind.i64 ((↑i : Int) + 1)))] [some (AObj.cells [(AV.osl (true) (3) (0) (0) (0) (1) (true)), (AV.bool (true))] true), some (AObj.cells [AV.bad, AV.bad, AV.bad, AV.bad, AV.bad, AV.bad, AV.bad, AV.bad, AV.bad, AV.bad] true), some (AObj.cells [(AV.int IntKind.u64 (ix)), (AV.int IntKind.u64 (tm)), (AV.int IntKind.u64 (st)), (AV.int IntKind.i64 (kd)), (AV.int IntKind.u64 (cl)), (AV.int IntKind.u64 (rq)), (AV.int IntKind.u32 (fr)), (AV.int IntKind.u32 (ct)), (AV.str (d)), (AV.osl (false) (4) (0) (m + 1) (m + 1) (4) (true))] true), some (AObj.tarr [Sh.int IntKind.u8] (0) (fun p_ q_ => AV.bad) true), some (AObj.tarr [Sh.int IntKind.u64, Sh.int IntKind.u64, Sh.int IntKind.u32, Sh.int IntKind.u32] (m + 1) (fjoin (fun p_ q_ => g (0 + p_) q_) (m) (rowsOf (4) [(AV.int IntKind.u64 ((val f (off) (8)))), (AV.int IntKind.u64 ((val f (off + 8) (8)))), (AV.int IntKind.u32 (IntKind.wrap IntKind.u32 (val f (off + 16) 4))), (AV.int IntKind.u32 (0))] (1))) true)])))
  none)
  none))
  (cond (Nat.ble ((m) + (1)) (m)) none (cond (growB (24) (m + 1))
  (cond (Nat.ble (0 + m) m)
  (some (0, (CS.mk [(AV.ptr (0) (0)), (AV.ptr (1) (0)), (AV.ptr (2) (0)), (AV.int IntKind.i64 (n)), (AV.int IntKind.i64 (IntKind.wrap IntKind.i64 ((↑i : Int) + 1)))] [some (AObj.cells [(AV.osl (nl) (3) (off + 24) (N - (off + 24)) (N - (off + 24)) (1) (true)), (AV.bool (false))] true), some (AObj.cells [AV.bad, AV.bad, AV.bad, AV.bad, AV.bad, AV.bad, AV.bad, AV.bad, AV.bad, AV.bad] true), some (AObj.cells [(AV.int IntKind.u64 (ix)), (AV.int IntKind.u64 (tm)), (AV.int IntKind.u64 (st)), (AV.int IntKind.i64 (kd)), (AV.int IntKind.u64 (cl)), (AV.int IntKind.u64 (rq)), (AV.int IntKind.u32 (fr)), (AV.int IntKind.u32 (ct)), (AV.str (d)), (AV.osl (false) (4) (0) (m + 1) (m + 1) (4) (true))] true), some (AObj.tarr [Sh.int IntKind.u8] (N) f false), some (AObj.tarr [Sh.int IntKind.u64, Sh.int IntKind.u64, Sh.int IntKind.u32, Sh.int IntKind.u32] (m + 1) (fjoin (fun p_ q_ => g (0 + p_) q_) (m) (rowsOf (4) [(AV.int IntKind.u64 ((val f (off) (8)))), (AV.int IntKind.u64 ((val f (off + 8) (8)))), (AV.int IntKind.u32 (IntKind.wrap IntKind.u32 (val f (off + 16) 4))), (AV.int IntKind.u32 (IntKind.wrap IntKind.u32 (val f (off + 20) 4)))] (1))) true)])))
  none)
  none))))))
  none)
  none)
  none)
  (some (1, (CS.mk [(AV.ptr (0) (0)), (AV.ptr (1) (0)), (AV.ptr (2) (0))] [some (AObj.cells [(AV.osl (nl) (3) (off) (N - off) (N - off) (1) (true)), (AV.bool (false))] true), some (AObj.cells [AV.bad, AV.bad, AV.bad, AV.bad, AV.bad, AV.bad, AV.bad, AV.bad, AV.bad, AV.bad] true), some (AObj.cells [(AV.int IntKind.u64 (ix)), (AV.int IntKind.u64 (tm)), (AV.int IntKind.u64 (st)), (AV.int IntKind.i64 (kd)), (AV.int IntKind.u64 (cl)), (AV.int IntKind.u64 (rq)), (AV.int IntKind.u32 (fr)), (AV.int IntKind.u32 (ct)), (AV.str (d)), (AV.osl (false) (4) (0) (m) (m) (4) (true))] true), some (AObj.tarr [Sh.int IntKind.u8] (N) f false), some (AObj.tarr [Sh.int IntKind.u64, Sh.int IntKind.u64, Sh.int IntKind.u32, Sh.int IntKind.u32] (m) g true)])))) := by
  rw [s14f_is]
  try simp only [eq_self, decide_true, beq_self_eq_true, Nat.beq_refl, ble_self, Int.le_refl, Nat.le_refl]
  cases (decide ((↑i : Int) < n)) with
  | true =>
    cases (okB f (N)) with
    | true =>
      cases (Nat.ble off N) with
      | true =>
        cases (Nat.ble N 1000000) with
        | true =>
          cases (Nat.blt N (off + 8)) with
          | true =>
            cases (growB (24) (m + 1)) with
            | true =>
              cases (Nat.ble (0 + m) m) with
              | true =>
                rfl
              | false =>
                rfl
            | false =>
              rfl
          | false =>
            cases (Nat.blt N (off + 16)) with
            | true =>
              cases (growB (24) (m + 1)) with
              | true =>
                cases (Nat.ble (0 + m) m) with
                | true =>
                  rfl
                | false =>
                  rfl
              | false =>
                rfl
            | false =>
              cases (Nat.blt N (off + 20)) with
              | true =>
                cases (growB (24) (m + 1)) with
                | true =>
                  cases (Nat.ble (0 + m) m) with
                  | true =>
                    rfl
                  | false =>
                    rfl
                | false =>
                  rfl
              | false =>
                cases (Nat.blt N (off + 24)) with
                | true =>
                  cases (growB (24) (m + 1)) with
                  | true =>
                    cases (Nat.ble (0 + m) m) with
                    | true =>
                      rfl
                    | false =>
                      rfl
                  | false =>
                    rfl
                | false =>
                  cases (growB (24) (m + 1)) with
                  | true =>
                    cases (Nat.ble (0 + m) m) with
                    | true =>
                      rfl
                    | false =>
                      rfl
                  | false =>
                    rfl
        | false =>
          rfl
      | false =>
        rfl
    | false =>
      rfl
  | false =>
    rfl

noncomputable def s14b (n : Int) (i : Nat) (π : Plan) : Option (Nat × CS) := stepC (F5) (1000) (loopC F5 14 0) (1) (h14) ((.normal, h14) :: x14) π (c14b n i)
def s14b_p : Plan := (.fork .stop .stop)
theorem s14b_is (n : Int) (i : Nat) : s14b n i s14b_p = (cond (decide ((↑i : Int) < n))
  (some (1, (CS.mk [(AV.ptr (0) (0)), (AV.ptr (1) (0)), (AV.ptr (2) (0))] [some (AObj.cells [(AV.osl (true) (3) (0) (0) (0) (1) (true)), (AV.bool (true))] true), some (AObj.cells [AV.bad, AV.bad, AV.bad, AV.bad, AV.bad, AV.bad, AV.bad, AV.bad, AV.bad, AV.bad] true), some (AObj.cells [AV.bad, AV.bad, AV.bad, AV.bad, AV.bad, AV.bad, AV.bad, AV.bad, AV.bad, AV.bad] true), some (AObj.tarr [Sh.int IntKind.u8] (0) (fun p_ q_ => AV.bad) true)])))
  (some (1, (CS.mk [(AV.ptr (0) (0)), (AV.ptr (1) (0)), (AV.ptr (2) (0))] [some (AObj.cells [(AV.osl (true) (3) (0) (0) (0) (1) (true)), (AV.bool (true))] true), some (AObj.cells [AV.bad, AV.bad, AV.bad, AV.bad, AV.bad, AV.bad, AV.bad, AV.bad, AV.bad, AV.bad] true), some (AObj.cells [AV.bad, AV.bad, AV.bad, AV.bad, AV.bad, AV.bad, AV.bad, AV.bad, AV.bad, AV.bad] true), some (AObj.tarr [Sh.int IntKind.u8] (0) (fun p_ q_ => AV.bad) true)])))) := by kernel_rfl
theorem s14b_eq (n : Int) (i : Nat) : s14b n i s14b_p = (cond (decide ((↑i : Int) < n))
  (some (1, (CS.mk [(AV.ptr (0) (0)), (AV.ptr (1) (0)), (AV.ptr (2) (0))] [some (AObj.cells [(AV.osl (true) (3) (0) (0) (0) (1) (true)), (AV.bool (true))] true), some (AObj.cells [AV.bad, AV.bad, AV.bad, AV.bad, AV.bad, AV.bad, AV.bad, AV.bad, AV.bad, AV.bad] true), some (AObj.cells [AV.bad, AV.bad, AV.bad, AV.bad, AV.bad, AV.bad, AV.bad, AV.bad, AV.bad, AV.bad] true), some (AObj.tarr [Sh.int IntKind.u8] (0) (fun p_ q_ => AV.bad) true)])))
  (some (1, (CS.mk [(AV.ptr (0) (0)), (AV.ptr (1) (0)), (AV.ptr (2) (0))] [some (AObj.cells [(AV.osl (true) (3) (0) (0) (0) (1) (true)), (AV.bool (true))] true), some (AObj.cells [AV.bad, AV.bad, AV.bad, AV.bad, AV.bad, AV.bad, AV.bad, AV.bad, AV.bad, AV.bad] true), some (AObj.cells [AV.bad, AV.bad, AV.bad, AV.bad, AV.bad, AV.bad, AV.bad, AV.bad, AV.bad, AV.bad] true), some (AObj.tarr [Sh.int IntKind.u8] (0) (fun p_ q_ => AV.bad) true)])))) := by
  rw [s14b_is]

noncomputable def s15t (nl : Bool) (a : Nat) (N : Nat) (f : Nat → Nat → AV) (ix : Int) (tm : Int) (st : Int) (kd : Int) (cl : Int) (rq : Int) (fr : Int) (ct : Int) (d : List Nat) (n : Int) (i : Nat) (π : Plan) : Option (Nat × CS) := stepC (F6) (1000) (loopC F6 15 0) (1) (h15) ((.normal, h15) :: x15) π (c15t nl a N f ix tm st kd cl rq fr ct d n i)
def s15t_p : Plan := (.fork (.must true (.must true (.must true (.must true (.must true (.reck 1 (.must true (.reck 2 (.must true (.fork (.fork (.fork (.fork .stop (.fork .stop (.fork .stop (.fork .stop .stop)))) .stop) .stop) .stop)))))))))) (.must false (.must false (.must false (.must false (.must false .stop))))))
theorem s15t_is (nl : Bool) (a : Nat) (N : Nat) (f : Nat → Nat → AV) (ix : Int) (tm : Int) (st : Int) (kd : Int) (cl : Int) (rq : Int) (fr : Int) (ct : Int) (d : List Nat) (n : Int) (i : Nat) : s15t nl a N f ix tm st kd cl rq fr ct d n i s15t_p = (cond (decide ((↑i : Int) < n) == true)
  (cond (decide ((↑i : Int) < n) == true) (cond (decide ((↑i : Int) < n) == true) (cond (decide ((↑i : Int) < n) == true) (cond (decide ((↑i : Int) < n) == true) (cond (decide ((↑i : Int) < n)) (cond (decide (N = N)) (cond (decide (N = N)) (cond ((okB f (N)))
  (cond (Nat.ble a N)
  (cond (Nat.ble N 1000000)
  (cond (Nat.blt N (a + 8))
  (some (0, (CS.mk [(AV.ptr (0) (0)), (AV.ptr (1) (0)), (AV.ptr (2) (0)), (AV.int IntKind.u64 (n)), (AV.int IntKind.u64 (IntKind.wrap IntKind.u64 ((↑i : Int) + 1)))] [some (AObj.cells [(AV.osl (nl) (3) (0) (N) (N) (1) (true)), AV.bad, (AV.bool (true))] true), some (AObj.cells [AV.bad, AV.bad, AV.bad, AV.bad, AV.bad, AV.bad, AV.bad, AV.bad, AV.bad, AV.bad] true), some (AObj.cells [(AV.int IntKind.u64 (ix)), (AV.int IntKind.u64 (tm)), (AV.int IntKind.u64 (st)), (AV.int IntKind.i64 (kd)), (AV.int IntKind.u64 (cl)), (AV.int IntKind.u64 (rq)), (AV.int IntKind.u32 (fr)), (AV.int IntKind.u32 (ct)), (AV.str (d)), (AV.osl (false) (4) (0) (1) (1) (4) (true))] true), some (AObj.tarr [Sh.int IntKind.u8] (N) f false), some (AObj.tarr [Sh.int IntKind.u64, Sh.int IntKind.u64, Sh.int IntKind.u32, Sh.int IntKind.u32] (1) (rowsOf (4) [(AV.int IntKind.u64 (0)), (AV.int IntKind.u64 (0)), (AV.int IntKind.u32 (0)), (AV.int IntKind.u32 (0))] (1)) true)])))
  (cond (Nat.blt N (a + 16))
  (some (0, (CS.mk [(AV.ptr (0) (0)), (AV.ptr (1) (0)), (AV.ptr (2) (0)), (AV.int IntKind.u64 (n)), (AV.int IntKind.u64 (IntKind.wrap IntKind.u64 ((↑i : Int) + 1)))] [some (AObj.cells [(AV.osl (nl) (3) (0) (N) (N) (1) (true)), AV.bad, (AV.bool (true))] true), some (AObj.cells [AV.bad, AV.bad, AV.bad, AV.bad, AV.bad, AV.bad, AV.bad, AV.bad, AV.bad, AV.bad] true), some (AObj.cells [(AV.int IntKind.u64 (ix)), (AV.int IntKind.u64 (tm)), (AV.int IntKind.u64 (st)), (AV.int IntKind.i64 (kd)), (AV.int IntKind.u64 (cl)), (AV.int IntKind.u64 (rq)), (AV.int IntKind.u32 (fr)), (AV.int IntKind.u32 (ct)), (AV.str (d)), (AV.osl (false) (4) (0) (1) (1) (4) (true))] true), some (AObj.tarr [Sh.int IntKind.u8] (N) f false), some (AObj.tarr [Sh.int IntKind.u64, Sh.int IntKind.u64, Sh.int IntKind.u32, Sh.int IntKind.u32] (1) (rowsOf (4) [(AV.int IntKind.u64 ((val f (a) (8)))), (AV.int IntKind.u64 (0)), (AV.int IntKind.u32 (0)), (AV.int IntKind.u32 (0))] (1)) true)])))
  (cond (Nat.blt N (a + 20))
  (some (0, (CS.mk [(AV.ptr (0) (0)), (AV.ptr (1) (0)), (AV.ptr (2) (0)), (AV.int IntKind.u64 (n)), (AV.int IntKind.u64 (IntKind.wrap IntKind.u64 ((↑i : Int) + 1)))] [some (AObj.cells [(AV.osl (nl) (3) (0) (N) (N) (1) (true)), AV.bad, (AV.bool (true))] true), some (AObj.cells [AV.bad, AV.bad, AV.bad, AV.bad, AV.bad, AV.bad, AV.bad, AV.bad, AV.bad, AV.bad] true), some (AObj.cells [(AV.int IntKind.u64 (ix)), (AV.int IntKind.u64 (tm)), (AV.int IntKind.u64 (st)), (AV.int IntKind.i64 (kd)), (AV.int IntKind.u64 (cl)), (AV.int IntKind.u64 (rq)), (AV.int IntKind.u32 (fr)), (AV.int IntKind.u32 (ct)), (AV.str (d)), (AV.osl (false) (4) (0) (1) (1) (4) (true))] true), some (AObj.tarr [Sh.int IntKind.u8] (N) f false), some (AObj.tarr [Sh.int IntKind.u64, Sh.int IntKind.u64, Sh.int IntKind.u32, Sh.int IntKind.u32] (1) (rowsOf (4) [(AV.int IntKind.u64 ((val f (a) (8)))), (AV.int IntKind.u64 ((val f (a + 8) (8)))), (AV.int IntKind.u32 (0)), (AV.int IntKind.u32 (0))] (1)) true)])))
  (cond (Nat.blt N (a + 24))
  (some (0, (CS.mk [(AV.ptr (0) (0)), (AV.ptr (1) (0)), (AV.ptr (2) (0)), (AV.int IntKind.u64 (n)), (AV.int IntKind.u64 (IntKind.wrap IntKind.u64 ((↑i : Int) + 1)))] [some (AObj.cells [(AV.osl (nl) (3) (0) (N) (N) (1) (true)), AV.bad, (AV.bool (true))] true), some (AObj.cells [AV.bad, AV.bad, AV.bad, AV.bad, AV.bad, AV.bad, AV.bad, AV.bad, AV.bad, AV.bad] true), some (AObj.cells [(AV.int IntKind.u64 (ix)), (AV.int IntKind.u64 (tm)), (AV.int IntKind.u64 (st)), (AV.int IntKind.i64 (kd)), (AV.int IntKind.u64 (cl)), (AV.int IntKind.u64 (rq)), (AV.int IntKind.u32 (fr)), (AV.int IntKind.u32 (ct)), (AV.str (d)), (AV.osl (false) (4) (0) (1) (1) (4) (true))] true), some (AObj.tarr [Sh.int IntKind.u8] (N) f false), some (AObj.tarr [Sh.int IntKind.u64, Sh.int IntKind.u64, Sh.int IntKind.u32, Sh.int IntKind.u32] (1) (rowsOf (4) [(AV.int IntKind.u64 ((val f (a) (8)))), (AV.int IntKind.u64 ((val f (a + 8) (8)))), (AV.int IntKind.u32 (IntKind.wrap IntKind.u32 (val f (a + 16) 4))), (AV.int IntKind.u32 (0))] (1)) true)])))
  (some (0, (CS.mk [(AV.ptr (0) (0)), (AV.ptr (1) (0)), (AV.ptr (2) (0)), (AV.int IntKind.u64 (n)), (AV.int IntKind.u64 (IntKind.wrap IntKind.u64 ((↑i : Int) + 1)))] [some (AObj.cells [(AV.osl (nl) (3) (0) (N) (N) (1) (true)), (AV.int IntKind.i64 ((↑(a + 24) : Int))), (AV.bool (false))] true), some (AObj.cells [AV.bad, AV.bad, AV.bad, AV.bad, AV.bad, AV.bad, AV.bad, AV.bad, AV.bad, AV.bad] true), some (AObj.cells [(AV.int IntKind.u64 (ix)), (AV.int IntKind.u64 (tm)), (AV.int IntKind.u64 (st)), (AV.int IntKind.i64 (kd)), (AV.int IntKind.u64 (cl)), (AV.int IntKind.u64 (rq)), (AV.int IntKind.u32 (fr)), (AV.int IntKind.u32 (ct)), (AV.str (d)), (AV.osl (false) (4) (0) (1) (1) (4) (true))] true), some (AObj.tarr [Sh.int IntKind.u8] (N) f false), some (AObj.tarr [Sh.int IntKind.u64, Sh.int IntKind.u64, Sh.int IntKind.u32, Sh.int IntKind.u32] (1) (rowsOf (4) [(AV.int IntKind.u64 ((val f (a) (8)))), (AV.int IntKind.u64 ((val f (a + 8) (8)))), (AV.int IntKind.u32 (IntKind.wrap IntKind.u32 (val f (a + 16) 4))), (AV.int IntKind.u32 (IntKind.wrap IntKind.u32 (val f (a + 20) 4)))] (1)) true)])))))))
  none)
  none)
  none) none) none) none) none) none) none) none)
  (cond (decide ((↑i : Int) < n) == true) none (cond (decide ((↑i : Int) < n) == true) none (cond (decide ((↑i : Int) < n) == true) none (cond (decide ((↑i : Int) < n) == true) none (cond (decide ((↑i : Int) < n)) none (some (1, (CS.mk [(AV.ptr (0) (0)), (AV.ptr (1) (0)), (AV.ptr (2) (0))] [some (AObj.cells [(AV.osl (nl) (3) (0) (N) (N) (1) (true)), (AV.int IntKind.i64 ((↑a : Int))), (AV.bool (false))] true), some (AObj.cells [AV.bad, AV.bad, AV.bad, AV.bad, AV.bad, AV.bad, AV.bad, AV.bad, AV.bad, AV.bad] true), some (AObj.cells [(AV.int IntKind.u64 (ix)), (AV.int IntKind.u64 (tm)), (AV.int IntKind.u64 (st)), (AV.int IntKind.i64 (kd)), (AV.int IntKind.u64 (cl)), (AV.int IntKind.u64 (rq)), (AV.int IntKind.u32 (fr)), (AV.int IntKind.u32 (ct)), (AV.str (d)), AV.nilSlice] true), some (AObj.tarr [Sh.int IntKind.u8] (N) f false)]))))))))) := by kernel_rfl
theorem s15t_eq (nl : Bool) (a : Nat) (N : Nat) (f : Nat → Nat → AV) (ix : Int) (tm : Int) (st : Int) (kd : Int) (cl : Int) (rq : Int) (fr : Int) (ct : Int) (d : List Nat) (n : Int) (i : Nat) : s15t nl a N f ix tm st kd cl rq fr ct d n i s15t_p = (cond (decide ((↑i : Int) < n))
  (cond (okB f (N))
  (cond (Nat.ble a N)
  (cond (Nat.ble N 1000000)
  (cond (Nat.blt N (a + 8))
  (some (0, (CS.mk [(AV.ptr (0) (0)), (AV.ptr (1) (0)), (AV.ptr (2) (0)), (AV.int IntKind.u64 (n)), (AV.int IntKind.u64 (IntKind.wrap IntKind.u64 ((↑i : Int) + 1)))] [some (AObj.cells [(AV.osl (nl) (3) (0) (N) (N) (1) (true)), AV.bad, (AV.bool (true))] true), some (AObj.cells [AV.bad, AV.bad, AV.bad, AV.bad, AV.bad, AV.bad, AV.bad, AV.bad, AV.bad, AV.bad] true), some (AObj.cells [(AV.int IntKind.u64 (ix)), (AV.int IntKind.u64 (tm)), (AV.int IntKind.u64 (st)), (AV.int IntKind.i64 (kd)), (AV.int IntKind.u64 (cl)), (AV.int IntKind.u64 (rq)), (AV.int IntKind.u32 (fr)), (AV.int IntKind.u32 (ct)), (AV.str (d)), (AV.osl (false) (4) (0) (1) (1) (4) (true))] true), some (AObj.tarr [Sh.int IntKind.u8] (N) f false), some (AObj.tarr [Sh.int IntKind.u64, Sh.int IntKind.u64, Sh.int IntKind.u32, Sh.int IntKind.u32] (1) (rowsOf (4) [(AV.int IntKind.u64 (0)), (AV.int IntKind.u64 (0)), (AV.int IntKind.u32 (0)), (AV.int IntKind.u32 (0))] (1)) true)])))
  (cond (Nat.blt N (a + 16))
  (some (0, (CS.mk [(AV.ptr (0) (0)), (AV.ptr (1) (0)), (AV.ptr (2) (0)), (AV.int IntKind.u64 (n)), (AV.int IntKind.u64 (IntKind.wrap IntKind.u64 ((↑i : Int) + 1)))] [some (AObj.cells [(AV.osl (nl) (3) (0) (N) (N) (1) (true)), AV.bad, (AV.bool (true))] true), some (AObj.cells [AV.bad, AV.bad, AV.bad, AV.bad, AV.bad, AV.bad, AV.bad, AV.bad, AV.bad, AV.bad] true), some (AObj.cells [(AV.int IntKind.u64 (ix)), (AV.int IntKind.u64 (tm)), (AV.int IntKind.u64 (st)), (AV.int IntKind.i64 (kd)), (AV.int IntKind.u64 (cl)), (AV.int IntKind.u64 (rq)), (AV.int IntKind.u32 (fr)), (AV.int IntKind.u32 (ct)), (AV.str (d)), (AV.osl (false) (4) (0) (1) (1) (4) (true))] true), some (AObj.tarr [Sh.int IntKind.u8] (N) f false), some (AObj.tarr [Sh.int IntKind.u64, Sh.int IntKind.u64, Sh.int IntKind.u32, Sh.int IntKind.u32] (1) (rowsOf (4) [(AV.int IntKind.u64 ((val f (a) (8)))), (AV.int IntKind.u64 (0)), (AV.int IntKind.u32 (0)), (AV.int IntKind.u32 (0))] (1)) true)])))
  (cond (Nat.blt N (a + 20))
  (some (0, (CS.mk [(AV.ptr (0) (0)), (AV.ptr (1) (0)), (AV.ptr (2) (0)), (AV.int IntKind.u64 (n)), (AV.int IntKind.u64 (IntKind.wrap IntKind.u64 ((↑i : Int) + 1)))] [some (AObj.cells [(AV.osl (nl) (3) (0) (N) (N) (1) (true)), AV.bad, (AV.bool (true))] true), some (AObj.cells [AV.bad, AV.bad, AV.bad, AV.bad, AV.bad, AV.bad, AV.bad, AV.bad, AV.bad, AV.bad] true), some (AObj.cells [(AV.int IntKind.u64 (ix)), (AV.int IntKind.u64 (tm)), (AV.int IntKind.u64 (st)), (AV.int IntKind.i64 (kd)), (AV.int IntKind.u64 (cl)), (AV.int IntKind.u64 (rq)), (AV.int IntKind.u32 (fr)), (AV.int IntKind.u32 (ct)), (AV.str (d)), (AV.osl (false) (4) (0) (1) (1) (4) (true))] true), some (AObj.tarr [Sh.int IntKind.u8] (N) f false), some (AObj.tarr [Sh.int IntKind.u64, Sh.int IntKind.u64, Sh.int IntKind.u32, Sh.int IntKind.u32] (1) (rowsOf (4) [(AV.int IntKind.u64 ((val f (a) (8)))), (AV.int IntKind.u64 ((val f (a + 8) (8)))), (AV.int IntKind.u32 (0)), (AV.int IntKind.u32 (0))] (1)) true)])))
  (cond (Nat.blt N (a + 24))
  (some (0, (CS.mk [(AV.ptr (0) (0)), (AV.ptr (1) (0)), (AV.ptr (2) (0)), (AV.int IntKind.u64 (n)), (AV.int IntKind.u64 (IntKind.wrap IntKind.u64 ((↑i : Int) + 1)))] [some (AObj.cells [(AV.osl (nl) (3) (0) (N) (N) (1) (true)), AV.bad, (AV.bool (true))] true), some (AObj.cells [AV.bad, AV.bad, AV.bad, AV.bad, AV.bad, AV.bad, AV.bad, AV.bad, AV.bad, AV.bad] true), some (AObj.cells [(AV.int IntKind.u64 (ix)), (AV.int IntKind.u64 (tm)), (AV.int IntKind.u64 (st)), (AV.int IntKind.i64 (kd)), (AV.int IntKind.u64 (cl)), (AV.int IntKind.u64 (rq)), (AV.int IntKind.u32 (fr)), (AV.int IntKind.u32 (ct)), (AV.str (d)), (AV.osl (false) (4) (0) (1) (1) (4) (true))] true), some (AObj.tarr [Sh.int IntKind.u8] (N) f false), some (AObj.tarr [Sh.int IntKind.u64, Sh.int IntKind.u64, Sh.int IntKind.u32, Sh.int IntKind.u32] (1) (rowsOf (4) [(AV.int IntKind.u64 ((val f (a) (8)))), (AV.int IntKind.u64 ((val f (a + 8) (8)))), (AV.int IntKind.u32 (IntKind.wrap IntKind.u32 (val f (a + 16) 4))), (AV.int IntKind.u32 (0))] (1)) true)])))
  (some (0, (CS.mk [(AV.ptr (0) (0)), (AV.ptr (1) (0)), (AV.ptr (2) (0)), (AV.int IntKind.u64 (n)), (AV.int IntKind.u64 (IntKind.wrap IntKind.u64 ((↑i : Int) + 1)))] [some (AObj.cells [(AV.osl (nl) (3) (0) (N) (N) (1) (true)), (AV.int IntKind.i64 ((↑(a + 24) : Int))), (AV.bool (false))] true), some (AObj.cells [AV.bad, AV.bad, AV.bad, AV.bad, AV.bad, AV.bad, AV.bad, AV.bad, AV.bad, AV.bad] true), some (AObj.cells [(AV.int IntKind.u64 (ix)), (AV.int IntKind.u64 (tm)), (AV.int IntKind.u64 (st)), (AV.int IntKind.i64 (kd)), (AV.int IntKind.u64 (cl)), (AV.int IntKind.u64 (rq)), (AV.int IntKind.u32 (fr)), (AV.int IntKind.u32 (ct)), (AV.str (d)), (AV.osl (false) (4) (0) (1) (1) (4) (true))] true), some (AObj.tarr [Sh.int IntKind.u8] (N) f false), some (AObj.tarr [Sh.int IntKind.u64, Sh.int IntKind.u64, Sh.int IntKind.u32, Sh.int IntKind.u32] (1) (rowsOf (4) [(AV.int IntKind.u64 ((val f (a) (8)))), (AV.int IntKind.u64 ((val f (a + 8) (8)))), (AV.int IntKind.u32 (IntKind.wrap IntKind.u32 (val f (a + 16) 4))), (AV.int IntKind.u32 (IntKind.wrap IntKind.u32 (val f (a + 20) 4)))] (1)) true)])))))))
  none)
  none)
  none)
  (some (1, (CS.mk [(AV.ptr (0) (0)), (AV.ptr (1) (0)), (AV.ptr (2) (0))] [some (AObj.cells [(AV.osl (nl) (3) (0) (N) (N) (1) (true)), (AV.int IntKind.i64 ((↑a : Int))), (AV.bool (false))] true), some (AObj.cells [AV.bad, AV.bad, AV.bad, AV.bad, AV.bad, AV.bad, AV.bad, AV.bad, AV.bad, AV.bad] true), some (AObj.cells [(AV.int IntKind.u64 (ix)), (AV.int IntKind.u64 (tm)), (AV.int IntKind.u64 (st)), (AV.int IntKind.i64 (kd)), (AV.int IntKind.u64 (cl)), (AV.int IntKind.u64 (rq)), (AV.int IntKind.u32 (fr)), (AV.int IntKind.u32 (ct)), (AV.str (d)), AV.nilSlice] true), some (AObj.tarr [Sh.int IntKind.u8] (N) f false)])))) := by
  rw [s15t_is]
  try simp only [eq_self, decide_true, beq_self_eq_true, Nat.beq_refl, ble_self, Int.le_refl, Nat.le_refl]
  cases (decide ((↑i : Int) < n)) with
  | true =>
    cases (okB f (N)) with
    | true =>
      cases (Nat.ble a N) with
      | true =>
        cases (Nat.ble N 1000000) with
        | true =>
          cases (Nat.blt N (a + 8)) with
          | true =>
            rfl
          | false =>
            cases (Nat.blt N (a + 16)) with
            | true =>
              rfl
            | false =>
              cases (Nat.blt N (a + 20)) with
              | true =>
                rfl
              | false =>
                cases (Nat.blt N (a + 24)) with
                | true =>
                  rfl
                | false =>
                  rfl
        | false =>
          rfl
      | false =>
        rfl
    | false =>
      rfl
  | false =>
    rfl

noncomputable def s15f (nl : Bool) (a : Nat) (N : Nat) (f : Nat → Nat → AV) (ix : Int) (tm : Int) (st : Int) (kd : Int) (cl : Int) (rq : Int) (fr : Int) (ct : Int) (d : List Nat) (m : Nat) (g : Nat → Nat → AV) (n : Int) (i : Nat) (π : Plan) : Option (Nat × CS) := stepC (F6) (1000) (loopC F6 15 0) (1) (h15) ((.normal, h15) :: x15) π (c15f nl a N f ix tm st kd cl rq fr ct d m g n i)
def s15f_p : Plan := (.fork (.must true (.must true (.must true (.must true (.must true (.reck 1 (.must true (.reck 2 (.must true (.fork (.fork (.fork (.fork (.reck 1 (.must false (.fork (.fork (.reck 2 (.must true (.must true (.reck 2 (.must true (.must true .stop)))))) .stop) .stop))) (.fork (.reck 1 (.must false (.fork (.fork (.reck 2 (.must true (.must true (.reck 2 (.must true (.must true .stop)))))) .stop) .stop))) (.fork (.reck 1 (.must false (.fork (.fork (.reck 2 (.must true (.must true (.reck 2 (.must true (.must true .stop)))))) .stop) .stop))) (.fork (.reck 1 (.must false (.fork (.fork (.reck 2 (.must true (.must true (.reck 2 (.must true (.must true .stop)))))) .stop) .stop))) (.reck 1 (.must false (.fork (.fork (.reck 2 (.must true (.must true (.reck 2 (.must true (.must true .stop)))))) .stop) .stop))))))) .stop) .stop) .stop)))))))))) (.must false (.must false (.must false (.must false (.must false .stop))))))
theorem s15f_is (nl : Bool) (a : Nat) (N : Nat) (f : Nat → Nat → AV) (ix : Int) (tm : Int) (st : Int) (kd : Int) (cl : Int) (rq : Int) (fr : Int) (ct : Int) (d : List Nat) (m : Nat) (g : Nat → Nat → AV) (n : Int) (i : Nat) : s15f nl a N f ix tm st kd cl rq fr ct d m g n i s15f_p = (cond (decide ((↑i : Int) < n) == true)
  (cond (decide ((↑i : Int) < n) == true) (cond (decide ((↑i : Int) < n) == true) (cond (decide ((↑i : Int) < n) == true) (cond (decide ((↑i : Int) < n) == true) (cond (decide ((↑i : Int) < n)) (cond (decide (N = N)) (cond (decide (N = N)) (cond ((okB f (N)))
  (cond (Nat.ble a N)
  (cond (Nat.ble N 1000000)
  (cond (Nat.blt N (a + 8))
  (cond (Nat.ble ((m) + (1)) (m)) none (cond (growB (24) (m + 1))
  (cond (Nat.ble (0 + m) m)
  (cond (Nat.beq m m) (cond (Nat.beq m m) (cond (Nat.beq m m) (cond (Nat.beq m m) (some (0, (CS.mk [(AV.ptr (0) (0)), (AV.ptr (1) (0)), (AV.ptr (2) (0)), (AV.int IntKind.u64 (n)), (AV.int IntKind.u64 (IntKind.wrap IntKind.u64 ((↑i : Int) + 1)))] [some (AObj.cells [(AV.osl (nl) (3) (0) (N) (N) (1) (true)), AV.bad, (AV.bool (true))] true), some (AObj.cells [AV.bad, AV.bad, AV.bad, AV.bad, AV.bad, AV.bad, AV.bad, AV.bad, AV.bad, AV.bad] true), some (AObj.cells [(AV.int IntKind.u64 (ix)), (AV.int IntKind.u64 (tm)), (AV.int IntKind.u64 (st)), (AV.int IntKind.i64 (kd)), (AV.int IntKind.u64 (cl)), (AV.int IntKind.u64 (rq)), (AV.int IntKind.u32 (fr)), (AV.int IntKind.u32 (ct)), (AV.str (d)), (AV.osl (false) (4) (0) (m + 1) (m + 1) (4) (true))] true), some (AObj.tarr [Sh.int IntKind.u8] (N) f false), some (AObj.tarr [Sh.int IntKind.u64, Sh.int IntKind.u64, Sh.int IntKind.u32, Sh.int IntKind.u32] (m + 1) (fjoin (fun p_ q_ => g (0 + p_) q_) (m) (rowsOf (4) [(AV.int IntKind.u64 (0)), (AV.int IntKind.u64 (0)), (AV.int IntKind.u32 (0)), (AV.int IntKind.u32 (0))] (1))) true)]))) none) none) none) none)
  none)
  none))
  (cond (Nat.blt N (a + 16))
  (cond (Nat.ble ((m) + (1)) (m)) none (cond (growB (24) (m + 1))
  (cond (Nat.ble (0 + m) m)
  (cond (Nat.beq m m) (cond (Nat.beq m m) (cond (Nat.beq m m) (cond (Nat.beq m m) (some (0, (CS.mk [(AV.ptr (0) (0)), (AV.ptr (1) (0)), (AV.ptr (2) (0)), (AV.int IntKind.u64 (n)), (AV.int IntKind.u64 (IntKind.wrap IntKind.u64 ((↑i : Int) + 1)))] [some (AObj.cells [(AV.osl (nl) (3) (0) (N) (N) (1) (true)), AV.bad, (AV.bool (true))] true), some (AObj.cells [AV.bad, AV.bad, AV.bad, AV.bad, AV.bad, AV.bad, AV.bad, AV.bad, AV.bad, AV.bad] true), some (AObj.cells [(AV.int IntKind.u64 (ix)), (AV.int IntKind.u64 (tm)), (AV.int IntKind.u64 (st)), (AV.int IntKind.i64 (kd)), (AV.int IntKind.u64 (cl)), (AV.int IntKind.u64 (rq)), (AV.int IntKind.u32 (fr)), (AV.int IntKind.u32 (ct)), (AV.str (d)), (AV.osl (false) (4) (0) (m + 1) (m + 1) (4) (true))] true), some (AObj.tarr [Sh.int IntKind.u8] (N) f false), some (AObj.tarr [Sh.int IntKind.u64, Sh.int IntKind.u64, Sh.int IntKind.u32, Sh.int IntKind.u32] (m + 1) (fjoin (fun p_ q_ => g (0 + p_) q_) (m) (rowsOf (4) [(AV.int IntKind.u64 ((val f (a) (8)))), (AV.int IntKind.u64 (0)), (AV.int IntKind.u32 (0)), (AV.int IntKind.u32 (0))] (1))) true)]))) none) none) none) none)
  none)
  none))
  (cond (Nat.blt N (a + 20))
  (cond (Nat.ble ((m) + (1)) (m)) none (cond (growB (24) (m + 1))
  (cond (Nat.ble (0 + m) m)
  (cond (Nat.beq m m) (cond (Nat.beq m m) (cond (Nat.beq m m) (cond (Nat.beq m m) (some (0, (CS.mk [(AV.ptr (0) (0)), (AV.ptr (1) (0)), (AV.ptr (2) (0)), (AV.int IntKind.u64 (n)), (AV.int IntKind.u64 (IntKind.wrap IntKind.u64 ((↑i : Int) + 1)))] [some (AObj.cells [(AV.osl (nl) (3) (0) (N) (N) (1) (true)), AV.bad, (AV.bool (true))] true), some (AObj.cells [AV.bad, AV.bad, AV.bad, AV.bad, AV.bad, AV.bad, AV.bad, AV.bad, AV.bad, AV.bad] true), some (AObj.cells [(AV.int IntKind.u64 (ix)), (AV.int IntKind.u64 (tm)), (AV.int IntKind.u64 (st)), (AV.int IntKind.i64 (kd)), (AV.int IntKind.u64 (cl)), (AV.int IntKind.u64 (rq)), (AV.int IntKind.u32 (fr)), (AV.int IntKind.u32 (ct)), (AV.str (d)), (AV.osl (false) (4) (0) (m + 1) (m + 1) (4) (true))] true), some (AObj.tarr [Sh.int IntKind.u8] (N) f false), some (AObj.tarr [Sh.int IntKind.u64, Sh.int IntKind.u64, Sh.int IntKind.u32, Sh.int IntKind.u32] (m + 1) (fjoin (fun p_ q_ => g (0 + p_) q_) (m) (rowsOf (4) [(AV.int IntKind.u64 ((val f (a) (8)))), (AV.int IntKind.u64 ((val f (a + 8) (8)))), (AV.int IntKind.u32 (0)), (AV.int IntKind.u32 (0))] (1))) true)]))) none) none) none) none)
  none)
  none))
  (cond (Nat.blt N (a + 24))
  (cond (Nat.ble ((m) + (1)) (m)) none (cond (growB (24) (m + 1))
  (cond (Nat.ble (0 + m) m)
  (cond (Nat.beq m m) (cond (Nat.beq m m) (cond (Nat.beq m m) (cond (Nat.beq m m) (some (0, (CS.mk [(AV.ptr (0) (0)), (AV.ptr (1) (0)), (AV.ptr (2) (0)), (AV.int IntKind.u64 (n)), (AV.int IntKind.u64 (IntKind.wrap IntKind.u64 ((↑i : Int) + 1)))] [some (AObj.cells [(AV.osl (nl) (3) (0) (N) (N) (1) (true)), AV.bad, (AV.bool (true))] true), some (AObj.cells [AV.bad, AV.bad, AV.bad, AV.bad, AV.bad, AV.bad, AV.bad, AV.bad, AV.bad, AV.bad] true), some (AObj.cells [(AV.int IntKind.u64 (ix)), (AV.int IntKind.u64 (tm)), (AV.int IntKind.u64 (st)), (AV.int IntKind.i64 (kd)), (AV.int IntKind.u64 (cl)), (AV.int IntKind.u64 (rq)), (AV.int IntKind.u32 (fr)), (AV.int IntKind.u32 (ct)), (AV.str (d)), (AV.osl (false) (4) (0) (m + 1) (m + 1) (4) (true))] true), some (AObj.tarr [Sh.int IntKind.u8] (N) f false), some (AObj.tarr [Sh.int IntKind.u64, Sh.int IntKind.u64, Sh.int IntKind.u32, Sh.int IntKind.u32] (m + 1) (fjoin (fun p_ q_ => g (0 + p_) q_) (m) (rowsOf (4) [(AV.int IntKind.u64 ((val f (a) (8)))), (AV.int IntKind.u64 ((val f (a + 8) (8)))), (AV.int IntKind.u32 (IntKind.wrap IntKind.u32 (val f (a + 16) 4))), (AV.int IntKind.u32 (0))] (1))) true)]))) none) none) none) none)
  none)
  none))
  (cond (Nat.ble ((m) + (1)) (m)) none (cond (growB (24) (m + 1))
  (cond (Nat.ble (0 + m) m)
  (cond (Nat.beq m m) (cond (Nat.beq m m) (cond (Nat.beq m m) (cond (Nat.beq m m) (some (0, (CS.mk [(AV.ptr (0) (0)), (AV.ptr (1) (0)), (AV.ptr (2) (0)), (AV.int IntKind.u64 (n)), (AV.int IntKind.u64 (IntKind.wrap IntKind.u64 ((↑i : Int) + 1)))] [some (AObj.cells [(AV.osl (nl) (3) (0) (N) (N) (1) (true)), (AV.int IntKind.i64 ((↑(a + 24) : Int))), (AV.bool (false))] true), some (AObj.cells [AV.bad, AV.bad, AV.bad, AV.bad, AV.bad, AV.bad, AV.bad, AV.bad, AV.bad, AV.bad] true), some (AObj.cells [(AV.int IntKind.u64 (ix)), (AV.int IntKind.u64 (tm)), (AV.int IntKind.u64 (st)), (AV.int IntKind.i64 (kd)), (AV.int IntKind.u64 (cl)), (AV.int IntKind.u64 (rq)), (AV.int IntKind.u32 (fr)), (AV.int IntKind.u32 (ct)), (AV.str (d)), (AV.osl (false) (4) (0) (m + 1) (m + 1) (4) (true))] true), some (AObj.tarr [Sh.int IntKind.u8] (N) f false), some (AObj.tarr [Sh.int IntKind.u64, Sh.int IntKind.u64, Sh.int IntKind.u32, Sh.int IntKind.u32] (m + 1) (fjoin (fun p_ q_ => g (0 + p_) q_) (m) (rowsOf (4) [(AV.int IntKind.u64 ((val f (a) (8)))), (AV.int IntKind.u64 ((val f (a + 8) (8)))), (AV.int IntKind.u32 (IntKind.wrap IntKind.u32 (val f (a + 16) 4))), (AV.int IntKind.u32 (IntKind.wrap IntKind.u32 (val f (a + 20) 4)))] (1))) true)]))) none) none) none) none)
  none)
  none))))))
  none)
  none)
  none) none) none) none) none) none) none) none)
  (cond (decide ((↑i : Int) < n) == true) none (cond (decide ((↑i : Int) < n) == true) none (cond (decide ((↑i : Int) < n) == true) none (cond (decide ((↑i : Int) < n) == true) none (cond (decide ((↑i : Int) < n)) none (some (1, (CS.mk [(AV.ptr (0) (0)), (AV.ptr (1) (0)), (AV.ptr (2) (0))] [some (AObj.cells [(AV.osl (nl) (3) (0) (N) (N) (1) (true)), (AV.int IntKind.i64 ((↑a : Int))), (AV.bool (false))] true), some (AObj.cells [AV.bad, AV.bad, AV.bad, AV.bad, AV.bad, AV.bad, AV.bad, AV.bad, AV.bad, AV.bad] true), some (AObj.cells [(AV.int IntKind.u64 (ix)), (AV.int IntKind.u64 (tm)), (AV.int IntKind.u64 (st)), (AV.int IntKind.i64 (kd)), (AV.int IntKind.u64 (cl)), (AV.int IntKind.u64 (rq)), (AV.int IntKind.u32 (fr)), (AV.int IntKind.u32 (ct)), (AV.str (d)), (AV.osl (false) (4) (0) (m) (m) (4) (true))] true), some (AObj.tarr [Sh.int IntKind.u8] (N) f false), some (AObj.tarr [Sh.int IntKind.u64, Sh.int IntKind.u64, Sh.int IntKind.u32, Sh.int IntKind.u32] (m) g true)]))))))))) := by kernel_rfl
theorem s15f_eq (nl : Bool) (a : Nat) (N : Nat) (f : Nat → Nat → AV) (ix : Int) (tm : Int) (st : Int) (kd : Int) (cl : Int) (rq : Int) (fr : Int) (ct : Int) (d : List Nat) (m : Nat) (g : Nat → Nat → AV) (n : Int) (i : Nat) : s15f nl a N f ix tm st kd cl rq fr ct d m g n i s15f_p = (cond (decide ((↑i : Int) < n))
  (cond (okB f (N))
  (cond (Nat.ble a N)
  (cond (Nat.ble N 1000000)
  (cond (Nat.blt N (a + 8))
  (cond (Nat.ble ((m) + (1)) (m)) none (cond (growB (24) (m + 1))
  (cond (Nat.ble (0 + m) m)
  (some (0, (CS.mk [(AV.ptr (0) (0)), (AV.ptr (1) (0)), (AV.ptr (2) (0)), (AV.int IntKind.u64 (n)), (AV.int IntKind.u64 (IntKind.wrap IntKind.u64 ((↑i : Int) + 1)))] [some (AObj.cells [(AV.osl (nl) (3) (0) (N) (N) (1) (true)), AV.bad, (AV.bool (true))] true), some (AObj.cells [AV.bad, AV.bad, AV.bad, AV.bad, AV.bad, AV.bad, AV.bad, AV.bad, AV.bad, AV.bad] true), some (AObj.cells [(AV.int IntKind.u64 (ix)), (AV.int IntKind.u64 (tm)), (AV.int IntKind.u64 (st)), (AV.int IntKind.i64 (kd)), (AV.int IntKind.u64 (cl)), (AV.int IntKind.u64 (rq)), (AV.int IntKind.u32 (fr)), (AV.int IntKind.u32 (ct)), (AV.str (d)), (AV.osl (false) (4) (0) (m + 1) (m + 1) (4) (true))] true), some (AObj.tarr [Sh.int IntKind.u8] (N) f false), some (AObj.tarr [Sh.int IntKind.u64, Sh.int IntKind.u64, Sh.int IntKind.u32, Sh.int IntKind.u32] (m + 1) (fjoin (fun p_ q_ => g (0 + p_) q_) (m) (rowsOf (4) [(AV.int IntKind.u64 (0)), (AV.int IntKind.u64 (0)), (AV.int IntKind.u32 (0)), (AV.int IntKind.u32 (0))] (1))) true)])))
  none)
  none))
  (cond (Nat.blt N (a + 16))
  (cond (Nat.ble ((m) + (1)) (m)) none (cond (growB (24) (m + 1))
  (cond (Nat.ble (0 + m) m)
  (some (0, (CS.mk [(AV.ptr (0) (0)), (AV.ptr (1) (0)), (AV.ptr (2) (0)), (AV.int IntKind.u64 (n)), (AV.int IntKind.u64 (IntKind.wrap IntKind.u64 ((↑i : Int) + 1)))] [some (AObj.cells [(AV.osl (nl) (3) (0) (N) (N) (1) (true)), AV.bad, (AV.bool (true))] true), some (AObj.cells [AV.bad, AV.bad, AV.bad, AV.bad, AV.bad, AV.bad, AV.bad, AV.bad, AV.bad, AV.bad] true), some (AObj.cells [(AV.int IntKind.u64 (ix)), (AV.int IntKind.u64 (tm)), (AV.int IntKind.u64 (st)), (AV.int IntKind.i64 (kd)), (AV.int IntKind.u64 (cl)), (AV.int IntKind.u64 (rq)), (AV.int IntKind.u32 (fr)), (AV.int IntKind.u32 (ct)), (AV.str (d)), (AV.osl (false) (4) (0) (m + 1) (m + 1) (4) (true))] true), some (AObj.tarr [Sh.int IntKind.u8] (N) f false), some (AObj.tarr [Sh.int IntKind.u64, Sh.int IntKind.u64, Sh.int IntKind.u32, Sh.int IntKind.u32] (m + 1) (fjoin (fun p_ q_ => g (0 + p_) q_) (m) (rowsOf (4) [(AV.int IntKind.u64 ((val f (a) (8)))), (AV.int IntKind.u64 (0)), (AV.int IntKind.u32 (0)), (AV.int IntKind.u32 (0))] (1))) true)])))
  none)
  none))
  (cond (Nat.blt N (a + 20))
  (cond (Nat.ble ((m) + (1)) (m)) none (cond (growB (24) (m + 1))
  (cond (Nat.ble (0 + m) m)
  (some (0, (CS.mk [(AV.ptr (0) (0)), (AV.ptr (1) (0)), (AV.ptr (2) (0)), (AV.int IntKind.u64 (n)), (AV.int IntKind.u64 (IntKind.wrap IntKind.u64 ((↑i : Int) + 1)))] [some (AObj.cells [(AV.osl (nl) (3) (0) (N) (N) (1) (true)), AV.bad, (AV.bool (true))] true), some (AObj.cells [AV.bad, AV.bad, AV.bad, AV.bad, AV.bad, AV.bad, AV.bad, AV.bad, AV.bad, AV.bad] true), some (AObj.cells [(AV.int IntKind.u64 (ix)), (AV.int IntKind.u64 (tm)), (AV.int IntKind.u64 (st)), (AV.int IntKind.i64 (kd)), (AV.int IntKind.u64 (cl)), (AV.int IntKind.u64 (rq)), (AV.int IntKind.u32 (fr)), (AV.int IntKind.u32 (ct)), (AV.str (d)), (AV.osl (false) (4) (0) (m + 1) (m + 1) (4) (true))] true), some (AObj.tarr [Sh.int IntKind.u8] (N) f false), some (AObj.tarr [Sh.int IntKind.u64, Sh.int IntKind.u64, Sh.int IntKind.u32, Sh.int IntKind.u32] (m + 1) (fjoin (fun p_ q_ => g (0 + p_) q_) (m) (rowsOf (4) [(AV.int IntKind.u64 ((val f (a) (8)))), (AV.int IntKind.u64 ((val f (a + 8) (8)))), (AV.int IntKind.u32 (0)), (AV.int IntKind.u32 (0))] (1))) true)])))
  none)
  none))
  (cond (Nat.blt N (a + 24))
  (cond (Nat.ble ((m) + (1)) (m)) none (cond (growB (24) (m + 1))
  (cond (Nat.ble (0 + m) m)
  (some (0, (CS.mk [(AV.ptr (0) (0)), (AV.ptr (1) (0)), (AV.ptr (2) (0)), (AV.int IntKind.u64 (n)), (AV.int IntKind.u64 (IntKind.wrap IntKind.u64 ((↑i : Int) + 1)))] [some (AObj.cells [(AV.osl (nl) (3) (0) (N) (N) (1) (true)), AV.bad, (AV.bool (true))] true), some (AObj.cells [AV.bad, AV.bad, AV.bad, AV.bad, AV.bad, AV.bad, AV.bad, AV.bad, AV.bad, AV.bad] true), some (AObj.cells [(AV.int IntKind.u64 (ix)), (AV.int IntKind.u64 (tm)), (AV.int IntKind.u64 (st)), (AV.int IntKind.i64 (kd)), (AV.int IntKind.u64 (cl)), (AV.int IntKind.u64 (rq)), (AV.int IntKind.u32 (fr)), (AV.int IntKind.u32 (ct)), (AV.str (d)), (AV.osl (false) (4) (0) (m + 1) (m + 1) (4) (true))] true), some (AObj.tarr [Sh.int IntKind.u8] (N) f false), some (AObj.tarr [Sh.int IntKind.u64, Sh.int IntKind.u64, Sh.int IntKind.u32, Sh.int IntKind.u32] (m + 1) (fjoin (fun p_ q_ => g (0 + p_) q_) (m) (rowsOf (4) [(AV.int IntKind.u64 ((val f (a) (8)))), (AV.int IntKind.u64 ((val f (a + 8) (8)))), (AV.int IntKind.u32 (IntKind.wrap IntKind.u32 (val f (a + 16) 4))), (AV.int IntKind.u32 (0))] (1))) true)])))
  none)
  none))
  (cond (Nat.ble ((m) + (1)) (m)) none (cond (growB (24) (m + 1))
  (cond (Nat.ble (0 + m) m)
  (some (0, (CS.mk [(AV.ptr (0) (0)), (AV.ptr (1) (0)), (AV.ptr (2) (0)), (AV.int IntKind.u64 (n)), (AV.int IntKind.u64 (IntKind.wrap IntKind.u64 ((↑i : Int) + 1)))] [some (AObj.cells [(AV.osl (nl) (3) (0) (N) (N) (1) (true)), (AV.int IntKind.i64 ((↑(a + 24) : Int))), (AV.bool (false))] true), some (AObj.cells [AV.bad, AV.bad, AV.bad, AV.bad, AV.bad, AV.bad, AV.bad, AV.bad, AV.bad, AV.bad] true), some (AObj.cells [(AV.int IntKind.u64 (ix)), (AV.int IntKind.u64 (tm)), (AV.int IntKind.u64 (st)), (AV.int IntKind.i64 (kd)), (AV.int IntKind.u64 (cl)), (AV.int IntKind.u64 (rq)), (AV.int IntKind.u32 (fr)), (AV.int IntKind.u32 (ct)), (AV.str (d)), (AV.osl (false) (4) (0) (m + 1) (m + 1) (4) (true))] true), some (AObj.tarr [Sh.int IntKind.u8] (N) f false), some (AObj.tarr [Sh.int IntKind.u64, Sh.int IntKind.u64, Sh.int IntKind.u32, Sh.int IntKind.u32] (m + 1) (fjoin (fun p_ q_ => g (0 + p_) q_) (m) (rowsOf (4) [(AV.int IntKind.u64 ((val f (a) (8)))), (AV.int IntKind.u64 ((val f (a + 8) (8)))), (AV.int IntKind.u32 (IntKind.wrap IntKind.u32 (val f (a + 16) 4))), (AV.int IntKind.u32 (IntKind.wrap IntKind.u32 (val f (a + 20) 4)))] (1))) true)])))
  none)
  none))))))
  none)
  none)
  none)
  (some (1, (CS.mk [(AV.ptr (0) (0)), (AV.ptr (1) (0)), (AV.ptr (2) (0))] [some (AObj.cells [(AV.osl (nl) (3) (0) (N) (N) (1) (true)), (AV.int IntKind.i64 ((↑a : Int))), (AV.bool (false))] true), some (AObj.cells [AV.bad, AV.bad, AV.bad, AV.bad, AV.bad, AV.bad, AV.bad, AV.bad, AV.bad, AV.bad] true), some (AObj.cells [(AV.int IntKind.u64 (ix)), (AV.int IntKind.u64 (tm)), (AV.int IntKind.u64 (st)), (AV.int IntKind.i64 (kd)), (AV.int IntKind.u64 (cl)), (AV.int IntKind.u64 (rq)), (AV.int IntKind.u32 (fr)), (AV.int IntKind.u32 (ct)), (AV.str (d)), (AV.osl (false) (4) (0) (m) (m) (4) (true))] true), some (AObj.tarr [Sh.int IntKind.u8] (N) f false), some (AObj.tarr [Sh.int IntKind.u64, Sh.int IntKind.u64, Sh.int IntKind.u32, Sh.int IntKind.u32] (m) g true)])))) := by
  rw [s15f_is]
  try simp only [eq_self, decide_true, beq_self_eq_true, Nat.beq_refl, ble_self, Int.le_refl, Nat.le_refl]
  cases (decide ((↑i : Int) < n)) with
  | true =>
    cases (okB f (N)) with
    | true =>
      cases (Nat.ble a N) with
      | true =>
        cases (Nat.ble N 1000000) with
        | true =>
          cases (Nat.blt N (a + 8)) with
          | true =>
            cases (growB (24) (m + 1)) with
            | true =>
              cases (Nat.ble (0 + m) m) with
              | true =>
                rfl
              | false =>
                rfl
            | false =>
              rfl
          | false =>
            cases (Nat.blt N (a + 16)) with
            | true =>
              cases (growB (24) (m + 1)) with
              | true =>
                cases (Nat.ble (0 + m) m) with
                | true =>
                  rfl
                | false =>
                  rfl
              | false =>
                rfl
            | false =>
              cases (Nat.blt N (a + 20)) with
              | true =>
                cases (growB (24) (m + 1)) with
                | true =>
                  cases (Nat.ble (0 + m) m) with
                  | true =>
                    rfl
                  | false =>
                    rfl
                | false =>
                  rfl
              | false =>
                cases (Nat.blt N (a + 24)) with
                | true =>
                  cases (growB (24) (m + 1)) with
                  | true =>
                    cases (Nat.ble (0 + m) m) with
                    | true =>
                      rfl
                    | false =>
                      rfl
                  | false =>
                    rfl
                | false =>
                  cases (growB (24) (m + 1)) with
                  | true =>
                    cases (Nat.ble (0 + m) m) with
                    | true =>
                      rfl
                    | false =>
                      rfl
                  | false =>
                    rfl
        | false =>
          rfl
      | false =>
        rfl
    | false =>
      rfl
  | false =>
    rfl

noncomputable def s15b (nl : Bool) (N : Nat) (f : Nat → Nat → AV) (n : Int) (i : Nat) (π : Plan) : Option (Nat × CS) := stepC (F6) (1000) (loopC F6 15 0) (1) (h15) ((.normal, h15) :: x15) π (c15b nl N f n i)
def s15b_p : Plan := (.fork (.must true (.must true (.must true (.must true (.must true .stop))))) (.must false (.must false (.must false (.must false (.must false .stop))))))
theorem s15b_is (nl : Bool) (N : Nat) (f : Nat → Nat → AV) (n : Int) (i : Nat) : s15b nl N f n i s15b_p = (cond (decide ((↑i : Int) < n) == true)
  (cond (decide ((↑i : Int) < n) == true) (cond (decide ((↑i : Int) < n) == true) (cond (decide ((↑i : Int) < n) == true) (cond (decide ((↑i : Int) < n) == true) (cond (decide ((↑i : Int) < n)) (some (1, (CS.mk [(AV.ptr (0) (0)), (AV.ptr (1) (0)), (AV.ptr (2) (0))] [some (AObj.cells [(AV.osl (nl) (3) (0) (N) (N) (1) (true)), AV.bad, (AV.bool (true))] true), some (AObj.cells [AV.bad, AV.bad, AV.bad, AV.bad, AV.bad, AV.bad, AV.bad, AV.bad, AV.bad, AV.bad] true), some (AObj.cells [AV.bad, AV.bad, AV.bad, AV.bad, AV.bad, AV.bad, AV.bad, AV.bad, AV.bad, AV.bad] true), some (AObj.tarr [Sh.int IntKind.u8] (N) f false)]))) none) none) none) none) none)
  (cond (decide ((↑i : Int) < n) == true) none (cond (decide ((↑i : Int) < n) == true) none (cond (decide ((↑i : Int) < n) == true) none (cond (decide ((↑i : Int) < n) == true) none (cond (decide ((↑i : Int) < n)) none (some (1, (CS.mk [(AV.ptr (0) (0)), (AV.ptr (1) (0)), (AV.ptr (2) (0))] [some (AObj.cells [(AV.osl (nl) (3) (0) (N) (N) (1) (true)), AV.bad, (AV.bool (true))] true), some (AObj.cells [AV.bad, AV.bad, AV.bad, AV.bad, AV.bad, AV.bad, AV.bad, AV.bad, AV.bad, AV.bad] true), some (AObj.cells [AV.bad, AV.bad, AV.bad, AV.bad, AV.bad, AV.bad, AV.bad, AV.bad, AV.bad, AV.bad] true), some (AObj.tarr [Sh.int IntKind.u8] (N) f false)]))))))))) := by kernel_rfl
theorem s15b_eq (nl : Bool) (N : Nat) (f : Nat → Nat → AV) (n : Int) (i : Nat) : s15b nl N f n i s15b_p = (cond (decide ((↑i : Int) < n))
  (some (1, (CS.mk [(AV.ptr (0) (0)), (AV.ptr (1) (0)), (AV.ptr (2) (0))] [some (AObj.cells [(AV.osl (nl) (3) (0) (N) (N) (1) (true)), AV.bad, (AV.bool (true))] true), some (AObj.cells [AV.bad, AV.bad, AV.bad, AV.bad, AV.bad, AV.bad, AV.bad, AV.bad, AV.bad, AV.bad] true), some (AObj.cells [AV.bad, AV.bad, AV.bad, AV.bad, AV.bad, AV.bad, AV.bad, AV.bad, AV.bad, AV.bad] true), some (AObj.tarr [Sh.int IntKind.u8] (N) f false)])))
  (some (1, (CS.mk [(AV.ptr (0) (0)), (AV.ptr (1) (0)), (AV.ptr (2) (0))] [some (AObj.cells [(AV.osl (nl) (3) (0) (N) (N) (1) (true)), AV.bad, (AV.bool (true))] true), some (AObj.cells [AV.bad, AV.bad, AV.bad, AV.bad, AV.bad, AV.bad, AV.bad, AV.bad, AV.bad, AV.bad] true), some (AObj.cells [AV.bad, AV.bad, AV.bad, AV.bad, AV.bad, AV.bad, AV.bad, AV.bad, AV.bad, AV.bad] true), some (AObj.tarr [Sh.int IntKind.u8] (N) f false)])))) := by
  rw [s15b_is]
  try simp only [eq_self, decide_true, beq_self_eq_true, Nat.beq_refl, ble_self, Int.le_refl, Nat.le_refl]
  cases (decide ((↑i : Int) < n)) with
  | true =>
    rfl
  | false =>
    rfl
def p14 (c : CS) : Plan := match c.os with
  | [_, _, some (.cells [_, _, _, _, _, _, _, _, _, .nilSlice] _), _, _] => s14t_p
  | [_, _, some (.cells [_, _, _, _, _, _, _, _, _, .bad] _), _, _] => s14b_p
  | _ => s14f_p
def p15 (c : CS) : Plan := match c.os with
  | [_, _, some (.cells [_, _, _, _, _, _, _, _, _, .nilSlice] _), _, _] => s15t_p
  | [_, _, some (.cells [_, _, _, _, _, _, _, _, _, .bad] _), _, _] => s15b_p
  | _ => s15f_p
end Go.Proofs.Ytjbjjikdihghmaa.entry
