/- Bytes, read: what the machine reckons. -/
import Derived.Test.YtjbjjikdihghmaaOcA
set_option linter.unusedSimpArgs false
set_option linter.unusedVariables false
set_option maxRecDepth 20000
namespace Go.Proofs.Ytjbjjikdihghmaa.entry
open Go Go.RowKit Go.Proofs.Ytjbjjikdihghmaa.Bm
/-- A number out of bytes. -/
def val (f : Nat → Nat → AV) : Nat → Nat → Int
  | _, 0 => 0
  | o, k + 1 => (f o 0).toI + 256 * val f (o + 1) k
theorem okE : ∃ q : (Nat → Nat → AV) → Nat → Bool, q = fun f n => (List.range n).all fun i => decide (0 ≤ (f i 0).toI) && decide ((f i 0).toI < 256) := ⟨_, rfl⟩
/-- Is all of an array bytes (not unfolded by the kernel). -/
noncomputable def okB : (Nat → Nat → AV) → Nat → Bool := Classical.choose okE
theorem okB_eq (f : Nat → Nat → AV) (n : Nat) : okB f n = (List.range n).all fun i => decide (0 ≤ (f i 0).toI) && decide ((f i 0).toI < 256) := by
  rw [show okB = _ from Classical.choose_spec okE]
noncomputable def Eb (β : BinOp → IntKind → Int → Int → Int) : Env := { E1 with bits := β }
def h32 : Pat := ⟨38, [(5, .keep), (6, .keep), (23, .asl shB), (24, .keep), (25, .keep)], []⟩
def x32 : List (Ex × Pat) := [(.exit 0, ⟨38, [(5, .keep)], []⟩)]
def h36 : Pat := ⟨36, [(5, .asl shB), (6, .keep), (7, .keep)], []⟩
def x36 : List (Ex × Pat) := [(.exit 0, ⟨36, [(6, .keep)], []⟩)]
def c32 (v : Int) (nl : Bool) (off : Nat) (n : Nat) (N : Nat) (f : Nat → Nat → AV) (rw : Bool) (i : Nat) : CS :=
  ⟨[.int .u64 v, (.func (.func 43) [] []), .osl nl 0 off n n 1 true, .int .i64 (n : Nat), .int .i64 (i : Nat)], [some (.tarr shB N f rw)]⟩
def c36 (nl : Bool) (off : Nat) (n : Nat) (N : Nat) (f : Nat → Nat → AV) (rw : Bool) (v : Int) (i : Int) : CS :=
  ⟨[.osl nl 0 off n n 1 true, .int .u64 v, .int .i64 i], [some (.tarr shB N f rw)]⟩
noncomputable def r32B  (nl : Bool) (off : Nat) (n : Nat) (N : Nat) (f : Nat → Nat → AV) (rw : Bool) : T (Nat × CS) :=
  chkT [okB f N, Nat.ble n 8, Nat.ble (off + n) N] (.ret (1, ⟨[.int .u64 (val f off n)], []⟩))
noncomputable def r32  (c : CS) : T (Nat × CS) := match c with
  | ⟨[.int .u64 z_1, (.func (.func 43) [] []), .osl nl 0 off n z_2 1 true, .int .i64 z_3, .int .i64 z_4], [some (.tarr sh_5 N f rw)]⟩ => chkT [decide (0 = z_1), decide (n = z_2), decide ((n : Nat) = z_3), decide (0 = z_4), shBeq sh_5 shB] (r32B  nl off n N f rw)
  | _ => .fail
noncomputable def r36B  (nl : Bool) (off : Nat) (n : Nat) (N : Nat) (f : Nat → Nat → AV) (rw : Bool) : T (Nat × CS) :=
  chkT [okB f N, Nat.ble n 8, Nat.ble (off + n) N] (.ret (1, ⟨[.int .u64 (val f off n)], []⟩))
noncomputable def r36  (c : CS) : T (Nat × CS) := match c with
  | ⟨[.osl nl 0 off n z_1 1 true, .int .u64 z_2, .int .i64 z_3], [some (.tarr sh_4 N f rw)]⟩ => chkT [decide (n = z_1), decide (0 = z_2), decide ((IntKind.wrap .i64 ((n : Int) - 1)) = z_3), shBeq sh_4 shB] (r36B  nl off n N f rw)
  | _ => .fail
noncomputable def F1 : Env := addL E1 32 0 1000010 h32 x32 0 r32
noncomputable def F2 : Env := addL F1 36 0 1000011 h36 x36 0 r36
def failP : List (Option AObj) := [some (.cells [.osl true 1 0 0 0 1 true, .bool true] true), some (.tarr shB 0 (fun _ _ => .bad) true)]
def okP (nl : Bool) (off N : Nat) (f : Nat → Nat → AV) : List (Option AObj) := [some (.cells [.osl nl 1 off (N - off) (N - off) 1 true, .bool false] true), some (.tarr shB N f false)]
def rdX (nl : Bool) (N : Nat) (f : Nat → Nat → AV) : List (Option AObj) := [some (.cells [.osl nl 1 0 N N 1 true, .bad, .bool true] true), some (.tarr shB N f false)]
def rdR (nl : Bool) (a N : Nat) (f : Nat → Nat → AV) : List (Option AObj) := [some (.cells [.osl nl 1 0 N N 1 true, .int .i64 (a : Nat), .bool false] true), some (.tarr shB N f false)]
/-- A text out of bytes. -/
def strV (f : Nat → Nat → AV) (o n : Nat) : List Nat := (List.range n).map fun i => (byteAt f (o + i)).toNat
def pR : List PV := [.asl shB, .keep]
def pRR : List PV := [.asl shB, .keep, .keep]
def a32 (nl : Bool) (off : Nat) (N : Nat) (f : Nat → Nat → AV) (w : Int) : CS :=
  ⟨[.ptr 0 0, .int .i64 w], [some (.cells [.osl nl 1 off (N - off) (N - off) 1 true, .bool false] true), some (.tarr shB N f false)]⟩
def a32f (w : Int) : CS :=
  ⟨[.ptr 0 0, .int .i64 w], [some (.cells [.nilSlice, .bool true] true), none]⟩
def a36 (nl : Bool) (a : Nat) (N : Nat) (f : Nat → Nat → AV) (w : Int) : CS :=
  ⟨[.ptr 0 0, .int .i64 w], [some (.cells [.osl nl 1 0 N N 1 true, .int .i64 (a : Nat), .bool false] true), some (.tarr shB N f false)]⟩
def a36f (nl : Bool) (N : Nat) (f : Nat → Nat → AV) (w : Int) : CS :=
  ⟨[.ptr 0 0, .int .i64 w], [some (.cells [.osl nl 1 0 N N 1 true, .bad, .bool true] true), some (.tarr shB N f false)]⟩
noncomputable def q32oB  (nl : Bool) (off : Nat) (N : Nat) (f : Nat → Nat → AV) (w : Int) : T (CS) :=
  chkT [!(decide (w < 1)), !(decide (w > 8)), okB f N, Nat.ble off N, Nat.ble N 1000000] (.ask (Nat.blt N (off + w.toNat)) (.ret ⟨[.int .u64 0], failP⟩) (.ret ⟨[.int .u64 (val f off w.toNat)], okP nl (off + w.toNat) N f⟩))
noncomputable def q32o  (c : CS) : T (CS) := match c with
  | ⟨[.ptr 0 0, .int .i64 w], [some (.cells [.osl nl 1 off z_1 z_2 1 true, .bool z_3] true), some (.tarr sh_4 N f false)]⟩ => chkT [decide ((N - off) = z_1), decide ((N - off) = z_2), decide (false = z_3), shBeq sh_4 shB] (q32oB  nl off N f w)
  | _ => .fail
noncomputable def q36oB  (nl : Bool) (a : Nat) (N : Nat) (f : Nat → Nat → AV) (w : Int) : T (CS) :=
  chkT [!(decide (w < 1)), !(decide (w > 8)), okB f N, Nat.ble a N, Nat.ble N 1000000] (.ask (Nat.blt N (a + w.toNat)) (.ret ⟨[.int .u64 0], rdX nl N f⟩) (.ret ⟨[.int .u64 (val f a w.toNat)], rdR nl (a + w.toNat) N f⟩))
noncomputable def q36o  (c : CS) : T (CS) := match c with
  | ⟨[.ptr 0 0, .int .i64 w], [some (.cells [.osl nl 1 0 N z_1 1 true, .int .i64 (.ofNat a), .bool z_2] true), some (.tarr sh_3 z_4 f false)]⟩ => chkT [decide (N = z_1), decide (false = z_2), shBeq sh_3 shB, decide (N = z_4)] (q36oB  nl a N f w)
  | _ => .fail
noncomputable def q32f (c : CS) : T CS := match c with
  | ⟨[.ptr 0 0, .int .i64 w], [some (.cells [.osl z 1 _ _ _ 1 _, .bool true] true), some _]⟩ => chkT [z, !(decide (w < 1)), !(decide (w > 8))] (.ret ⟨[.int .u64 0], failP⟩)
  | _ => .fail
noncomputable def q36f (c : CS) : T CS := match c with
  | ⟨[.ptr 0 0, .int .i64 w], [some (.cells [.osl nl 1 0 N N' 1 true, _, .bool true] true), some (.tarr sh M f false)]⟩ => chkT [!(decide (w < 1)), !(decide (w > 8)), decide (N = N'), decide (N = M), shBeq sh shB] (.ret ⟨[.int .u64 0], rdX nl N f⟩)
  | _ => .fail
/-- Has it failed. -/
def badP (c : CS) : Bool := match c.os with
  | some (.cells [_, .bool b] _) :: _ => b
  | some (.cells [_, _, .bool b] _) :: _ => b
  | _ => false
noncomputable def q32 (c : CS) : T CS := cond (badP c) (q32f c) (q32o c)
noncomputable def q36 (c : CS) : T CS := cond (badP c) (q36f c) (q36o c)
noncomputable def F3 : Env := addF (addF F2 32 ⟨fiRun [.keep, .keep] [pR] 1 q32⟩) 36 ⟨fiRun [.keep, .keep] [pRR] 1 q36⟩
noncomputable def s32 (β : BinOp → IntKind → Int → Int → Int) (v : Int) (nl : Bool) (off : Nat) (n : Nat) (N : Nat) (f : Nat → Nat → AV) (rw : Bool) (i : Nat) (π : Plan) : Option (Nat × CS) := stepC (Eb β) (300) (loopC E1 32 0) (0) (h32) ((.normal, h32) :: x32) π (c32 v nl off n N f rw i)
def s32_p : Plan := (.fork (.reck 1 (.must true (.fork (.fork .stop .stop) .stop))) .stop)
theorem s32_is (β : Go.BinOp → Go.IntKind → Int → Int → Int) (v : Int) (nl : Bool) (off : Nat) (n : Nat) (N : Nat) (f : Nat → Nat → AV) (rw : Bool) (i : Nat) : s32 β v nl off n N f rw i s32_p = (cond (decide ((↑i : Int) < (↑n : Int)))
  (cond (decide ((↑i : Int) < (↑n : Int))) (cond (Nat.blt (off + Int.toNat (↑i : Int)) N)
  (cond (!decide (IntKind.wrap IntKind.i64 (8 * (↑i : Int)) < 0))
  (some (0, (CS.mk [(AV.int IntKind.u64 (β BinOp.or IntKind.u64 v (IntKind.wrap IntKind.u64 (IntKind.wrap IntKind.u64 (AV.toI (f (off + Int.toNat (↑i : Int)) 0)) * 2 ^ min (Int.toNat (IntKind.wrap IntKind.i64 (8 * (↑i : Int)))) (IntKind.bits IntKind.u64))))), (AV.func (Fn.func 43) [] []), (AV.osl (nl) (0) (off) (n) (n) (1) (true)), (AV.int IntKind.i64 ((↑n : Int))), (AV.int IntKind.i64 (IntKind.wrap IntKind.i64 ((↑i : Int) + 1)))] [some (AObj.tarr [Sh.int IntKind.u8] (N) f rw)])))
  none)
  none) none)
  (some (1, (CS.mk [(AV.int IntKind.u64 (v))] [])))) := by kernel_rfl
theorem s32_eq (β : Go.BinOp → Go.IntKind → Int → Int → Int) (v : Int) (nl : Bool) (off : Nat) (n : Nat) (N : Nat) (f : Nat → Nat → AV) (rw : Bool) (i : Nat) : s32 β v nl off n N f rw i s32_p = (cond (decide ((↑i : Int) < (↑n : Int)))
  (cond (Nat.blt (off + Int.toNat (↑i : Int)) N)
  (cond (decide (IntKind.wrap IntKind.i64 (8 * (↑i : Int)) < 0))
  none
  (some (0, (CS.mk [(AV.int IntKind.u64 (β BinOp.or IntKind.u64 v (IntKind.wrap IntKind.u64 (IntKind.wrap IntKind.u64 (AV.toI (f (off + Int.toNat (↑i : Int)) 0)) * 2 ^ min (Int.toNat (IntKind.wrap IntKind.i64 (8 * (↑i : Int)))) (IntKind.bits IntKind.u64))))), (AV.func (Fn.func 43) [] []), (AV.osl (nl) (0) (off) (n) (n) (1) (true)), (AV.int IntKind.i64 ((↑n : Int))), (AV.int IntKind.i64 (IntKind.wrap IntKind.i64 ((↑i : Int) + 1)))] [some (AObj.tarr [Sh.int IntKind.u8] (N) f rw)]))))
  none)
  (some (1, (CS.mk [(AV.int IntKind.u64 (v))] [])))) := by
  rw [s32_is]
  try simp only [eq_self, decide_true, beq_self_eq_true, Nat.beq_refl, ble_self, Int.le_refl, Nat.le_refl]
  cases (decide ((↑i : Int) < (↑n : Int))) with
  | true =>
    cases (Nat.blt (off + Int.toNat (↑i : Int)) N) with
    | true =>
      cases (decide (IntKind.wrap IntKind.i64 (8 * (↑i : Int)) < 0)) with
      | true =>
        rfl
      | false =>
        rfl
    | false =>
      rfl
  | false =>
    rfl

noncomputable def s36 (nl : Bool) (off : Nat) (n : Nat) (N : Nat) (f : Nat → Nat → AV) (rw : Bool) (v : Int) (i : Int) (π : Plan) : Option (Nat × CS) := stepC (F1) (300) (loopC F1 36 0) (0) (h36) ((.normal, h36) :: x36) π (c36 nl off n N f rw v i)
def s36_p : Plan := (.fork (.fork (.fork (.fork .stop .stop) .stop) .stop) .stop)
theorem s36_is (nl : Bool) (off : Nat) (n : Nat) (N : Nat) (f : Nat → Nat → AV) (rw : Bool) (v : Int) (i : Int) : s36 nl off n N f rw v i s36_p = (cond (decide (i ≥ 0))
  (cond (decide (0 ≤ i))
  (cond (decide (i < (↑n : Int)))
  (cond (Nat.blt (off + Int.toNat i) N)
  (some (0, (CS.mk [(AV.osl (nl) (0) (off) (n) (n) (1) (true)), (AV.int IntKind.u64 (IntKind.wrap IntKind.u64 (IntKind.wrap IntKind.u64 (256 * v) + IntKind.wrap IntKind.u64 (AV.toI (f (off + Int.toNat i) 0))))), (AV.int IntKind.i64 (IntKind.wrap IntKind.i64 (i - 1)))] [some (AObj.tarr [Sh.int IntKind.u8] (N) f rw)])))
  none)
  none)
  none)
  (some (1, (CS.mk [(AV.int IntKind.u64 (v))] [])))) := by kernel_rfl
theorem s36_eq (nl : Bool) (off : Nat) (n : Nat) (N : Nat) (f : Nat → Nat → AV) (rw : Bool) (v : Int) (i : Int) : s36 nl off n N f rw v i s36_p = (cond (decide (i ≥ 0))
  (cond (decide (0 ≤ i))
  (cond (decide (i < (↑n : Int)))
  (cond (Nat.blt (off + Int.toNat i) N)
  (some (0, (CS.mk [(AV.osl (nl) (0) (off) (n) (n) (1) (true)), (AV.int IntKind.u64 (IntKind.wrap IntKind.u64 (IntKind.wrap IntKind.u64 (256 * v) + IntKind.wrap IntKind.u64 (AV.toI (f (off + Int.toNat i) 0))))), (AV.int IntKind.i64 (IntKind.wrap IntKind.i64 (i - 1)))] [some (AObj.tarr [Sh.int IntKind.u8] (N) f rw)])))
  none)
  none)
  none)
  (some (1, (CS.mk [(AV.int IntKind.u64 (v))] [])))) := by
  rw [s36_is]

noncomputable def k32 (nl : Bool) (off : Nat) (N : Nat) (f : Nat → Nat → AV) (w : Int) (π : Plan) : Option CS := callC (F2) (1000) (32) (1) (.keep) ([pR]) π (a32 nl off N f w)
def k32_p : Plan := (.reck 1 (.fork (.must true (.must false (.fork .stop (.fork (.must true (.must true (.must true (.must true (.must true (.must true (.must false (.fork (.must true (.must true (.must true (.must false (.reck 2 (.fork (.fork (.must true (.must true (.must true (.reck 1 (.must true (.must true (.reck 2 (.fork (.fork (.fork .stop .stop) .stop) .stop)))))))) .stop) .stop)))))) (.must false (.must false (.must false (.must true (.reck 6 (.fork .stop .stop)))))))))))))) (.must false (.must false (.must false (.must false (.must false (.must false (.must true (.reck 11 (.fork .stop .stop))))))))))))) (.must false (.must true .stop))))
theorem k32_is (nl : Bool) (off : Nat) (N : Nat) (f : Nat → Nat → AV) (w : Int) : k32 nl off N f w k32_p = (cond (decide (w < 1) == false)
  (cond (decide (w < 1) == false) (cond (decide (w < 1)) none (cond (decide (w > 8))
  (some (CS.mk [(AV.int IntKind.u64 (0))] [some (AObj.cells [(AV.osl (true) (1) (0) (0) (0) (1) (true)), (AV.bool (true))] true), some (AObj.tarr [Sh.int IntKind.u8] (0) (fun p_ q_ => AV.bad) true)]))
  (cond (decide (w < 0) == false)
  (cond (decide (w < 0) == false) (cond (decide (w < 0) == false) (cond (decide (w < 0) == false) (cond (decide (w < 0) == false) (cond (decide (w < 0) == false) (cond (decide (w < 0) == false) (cond (decide (w < 0)) none (cond (decide (w > (↑(N - off) : Int)) == false)
  (cond (decide (w > (↑(N - off) : Int)) == false) (cond (decide (w > (↑(N - off) : Int)) == false) (cond (decide (w > (↑(N - off) : Int)) == false) (cond (decide (w > (↑(N - off) : Int))) none (cond (Nat.ble (Int.toNat w) (N - off))
  (cond (decide (0 ≤ w))
  (cond (Nat.ble (Int.toNat w) (N - off)) (cond (Nat.ble (N - off) (N - off)) (cond (decide (0 ≤ w)) (cond (decide (Int.toNat w - 0 = Int.toNat w - 0)) (cond (decide ((↑(Int.toNat w - 0) : Int) = (↑(Int.toNat w - 0) : Int))) (cond ((okB f (N)))
  (cond (Nat.ble (Int.toNat w - 0) 8)
  (cond (Nat.ble (off + 0 + (Int.toNat w - 0)) N)
  (some (CS.mk [(AV.int IntKind.u64 ((val f (off + 0) (Int.toNat w - 0))))] [some (AObj.cells [(AV.osl (nl) (1) (off + Int.toNat w) (N - off - Int.toNat w) (N - off - Int.toNat w) (1) (true)), (AV.bool (false))] true), some (AObj.tarr [Sh.int IntKind.u8] (N) f false)]))
  none)
  none)
  none) none) none) none) none) none)
  none)
  none)) none) none) none)
  (cond (decide (w > (↑(N - off) : Int)) == false) none (cond (decide (w > (↑(N - off) : Int)) == false) none (cond (decide (w > (↑(N - off) : Int)) == false) none (cond (decide (w > (↑(N - off) : Int))) (cond ((okB (fun p_ q_ => AV.bad) (0)))
  (some (CS.mk [(AV.int IntKind.u64 ((val (fun p_ q_ => AV.bad) (0) (0))))] [some (AObj.cells [(AV.osl (true) (1) (0) (0) (0) (1) (true)), (AV.bool (true))] true), some (AObj.tarr [Sh.int IntKind.u8] (0) (fun p_ q_ => AV.bad) true)]))
  none) none)))))) none) none) none) none) none) none)
  (cond (decide (w < 0) == false) none (cond (decide (w < 0) == false) none (cond (decide (w < 0) == false) none (cond (decide (w < 0) == false) none (cond (decide (w < 0) == false) none (cond (decide (w < 0) == false) none (cond (decide (w < 0)) (cond ((okB (fun p_ q_ => AV.bad) (0)))
  (some (CS.mk [(AV.int IntKind.u64 ((val (fun p_ q_ => AV.bad) (0) (0))))] [some (AObj.cells [(AV.osl (true) (1) (0) (0) (0) (1) (true)), (AV.bool (true))] true), some (AObj.tarr [Sh.int IntKind.u8] (0) (fun p_ q_ => AV.bad) true)]))
  none) none)))))))))) none)
  (cond (decide (w < 1) == false) none (cond (decide (w < 1)) (some (CS.mk [(AV.int IntKind.u64 (0))] [some (AObj.cells [(AV.osl (true) (1) (0) (0) (0) (1) (true)), (AV.bool (true))] true), some (AObj.tarr [Sh.int IntKind.u8] (0) (fun p_ q_ => AV.bad) true)])) none))) := by kernel_rfl
theorem k32_eq (nl : Bool) (off : Nat) (N : Nat) (f : Nat → Nat → AV) (w : Int) : k32 nl off N f w k32_p = (cond (decide (w < 1))
  (some (CS.mk [(AV.int IntKind.u64 (0))] [some (AObj.cells [(AV.osl (true) (1) (0) (0) (0) (1) (true)), (AV.bool (true))] true), some (AObj.tarr [Sh.int IntKind.u8] (0) (fun p_ q_ => AV.bad) true)]))
  (cond (decide (w > 8))
  (some (CS.mk [(AV.int IntKind.u64 (0))] [some (AObj.cells [(AV.osl (true) (1) (0) (0) (0) (1) (true)), (AV.bool (true))] true), some (AObj.tarr [Sh.int IntKind.u8] (0) (fun p_ q_ => AV.bad) true)]))
  (cond (decide (w < 0))
  (cond (okB (fun p_ q_ => AV.bad) (0))
  (some (CS.mk [(AV.int IntKind.u64 ((val (fun p_ q_ => AV.bad) (0) (0))))] [some (AObj.cells [(AV.osl (true) (1) (0) (0) (0) (1) (true)), (AV.bool (true))] true), some (AObj.tarr [Sh.int IntKind.u8] (0) (fun p_ q_ => AV.bad) true)]))
  none)
  (cond (decide (w > (↑(N - off) : Int)))
  (cond (okB (fun p_ q_ => AV.bad) (0))
  (some (CS.mk [(AV.int IntKind.u64 ((val (fun p_ q_ => AV.bad) (0) (0))))] [some (AObj.cells [(AV.osl (true) (1) (0) (0) (0) (1) (true)), (AV.bool (true))] true), some (AObj.tarr [Sh.int IntKind.u8] (0) (fun p_ q_ => AV.bad) true)]))
  none)
  (cond (Nat.ble (Int.toNat w) (N - off))
  (cond (decide (0 ≤ w))
  (cond (okB f (N))
  (cond (Nat.ble (Int.toNat w - 0) 8)
  (cond (Nat.ble (off + 0 + (Int.toNat w - 0)) N)
  (some (CS.mk [(AV.int IntKind.u64 ((val f (off + 0) (Int.toNat w - 0))))] [some (AObj.cells [(AV.osl (nl) (1) (off + Int.toNat w) (N - off - Int.toNat w) (N - off - Int.toNat w) (1) (true)), (AV.bool (false))] true), some (AObj.tarr [Sh.int IntKind.u8] (N) f false)]))
  none)
  none)
  none)
  none)
  none))))) := by
  rw [k32_is]
  try simp only [eq_self, decide_true, beq_self_eq_true, Nat.beq_refl, ble_self, Int.le_refl, Nat.le_refl]
  cases (decide (w < 1)) with
  | true =>
    rfl
  | false =>
    cases (decide (w > 8)) with
    | true =>
      rfl
    | false =>
      cases (decide (w < 0)) with
      | true =>
        cases (okB (fun p_ q_ => AV.bad) (0)) with
        | true =>
          rfl
        | false =>
          rfl
      | false =>
        cases (decide (w > (↑(N - off) : Int))) with
        | true =>
          cases (okB (fun p_ q_ => AV.bad) (0)) with
          | true =>
            rfl
          | false =>
            rfl
        | false =>
          cases (Nat.ble (Int.toNat w) (N - off)) with
          | true =>
            cases (decide (0 ≤ w)) with
            | true =>
              cases (okB f (N)) with
              | true =>
                cases (Nat.ble (Int.toNat w - 0) 8) with
                | true =>
                  cases (Nat.ble (off + 0 + (Int.toNat w - 0)) N) with
                  | true =>
                    rfl
                  | false =>
                    rfl
                | false =>
                  rfl
              | false =>
                rfl
            | false =>
              rfl
          | false =>
            rfl

noncomputable def k32f (w : Int) (π : Plan) : Option CS := callC (F2) (1000) (32) (1) (.keep) ([pR]) π (a32f w)
def k32f_p : Plan := (.reck 1 (.fork (.must true (.must false (.fork .stop (.fork (.must true (.must true (.must true (.must true (.must true (.must true (.must false (.fork (.must true (.must true (.must true (.must false (.reck 6 (.fork .stop .stop)))))) (.must false (.must false (.must false (.must true (.reck 6 (.fork .stop .stop)))))))))))))) (.must false (.must false (.must false (.must false (.must false (.must false (.must true (.reck 11 (.fork .stop .stop))))))))))))) (.must false (.must true .stop))))
theorem k32f_is (w : Int) : k32f w k32f_p = (cond (decide (w < 1) == false)
  (cond (decide (w < 1) == false) (cond (decide (w < 1)) none (cond (decide (w > 8))
  (some (CS.mk [(AV.int IntKind.u64 (0))] [some (AObj.cells [(AV.osl (true) (1) (0) (0) (0) (1) (true)), (AV.bool (true))] true), some (AObj.tarr [Sh.int IntKind.u8] (0) (fun p_ q_ => AV.bad) true)]))
  (cond (decide (w < 0) == false)
  (cond (decide (w < 0) == false) (cond (decide (w < 0) == false) (cond (decide (w < 0) == false) (cond (decide (w < 0) == false) (cond (decide (w < 0) == false) (cond (decide (w < 0) == false) (cond (decide (w < 0)) none (cond (decide (w > 0) == false)
  (cond (decide (w > 0) == false) (cond (decide (w > 0) == false) (cond (decide (w > 0) == false) (cond (decide (w > 0)) none (cond ((okB (fun p_ q_ => AV.bad) (0)))
  (some (CS.mk [(AV.int IntKind.u64 ((val (fun p_ q_ => AV.bad) (0) (0))))] [some (AObj.cells [(AV.osl (true) (1) (0) (0) (0) (1) (true)), (AV.bool (true))] true), some (AObj.tarr [Sh.int IntKind.u8] (0) (fun p_ q_ => AV.bad) true)]))
  none)) none) none) none)
  (cond (decide (w > 0) == false) none (cond (decide (w > 0) == false) none (cond (decide (w > 0) == false) none (cond (decide (w > 0)) (cond ((okB (fun p_ q_ => AV.bad) (0)))
  (some (CS.mk [(AV.int IntKind.u64 ((val (fun p_ q_ => AV.bad) (0) (0))))] [some (AObj.cells [(AV.osl (true) (1) (0) (0) (0) (1) (true)), (AV.bool (true))] true), some (AObj.tarr [Sh.int IntKind.u8] (0) (fun p_ q_ => AV.bad) true)]))
  none) none)))))) none) none) none) none) none) none)
  (cond (decide (w < 0) == false) none (cond (decide (w < 0) == false) none (cond (decide (w < 0) == false) none (cond (decide (w < 0) == false) none (cond (decide (w < 0) == false) none (cond (decide (w < 0) == false) none (cond (decide (w < 0)) (cond ((okB (fun p_ q_ => AV.bad) (0)))
  (some (CS.mk [(AV.int IntKind.u64 ((val (fun p_ q_ => AV.bad) (0) (0))))] [some (AObj.cells [(AV.osl (true) (1) (0) (0) (0) (1) (true)), (AV.bool (true))] true), some (AObj.tarr [Sh.int IntKind.u8] (0) (fun p_ q_ => AV.bad) true)]))
  none) none)))))))))) none)
  (cond (decide (w < 1) == false) none (cond (decide (w < 1)) (some (CS.mk [(AV.int IntKind.u64 (0))] [some (AObj.cells [(AV.osl (true) (1) (0) (0) (0) (1) (true)), (AV.bool (true))] true), some (AObj.tarr [Sh.int IntKind.u8] (0) (fun p_ q_ => AV.bad) true)])) none))) := by kernel_rfl
theorem k32f_eq (w : Int) : k32f w k32f_p = (cond (decide (w < 1))
  (some (CS.mk [(AV.int IntKind.u64 (0))] [some (AObj.cells [(AV.osl (true) (1) (0) (0) (0) (1) (true)), (AV.bool (true))] true), some (AObj.tarr [Sh.int IntKind.u8] (0) (fun p_ q_ => AV.bad) true)]))
  (cond (decide (w > 8))
  (some (CS.mk [(AV.int IntKind.u64 (0))] [some (AObj.cells [(AV.osl (true) (1) (0) (0) (0) (1) (true)), (AV.bool (true))] true), some (AObj.tarr [Sh.int IntKind.u8] (0) (fun p_ q_ => AV.bad) true)]))
  (cond (decide (w < 0))
  (cond (okB (fun p_ q_ => AV.bad) (0))
  (some (CS.mk [(AV.int IntKind.u64 ((val (fun p_ q_ => AV.bad) (0) (0))))] [some (AObj.cells [(AV.osl (true) (1) (0) (0) (0) (1) (true)), (AV.bool (true))] true), some (AObj.tarr [Sh.int IntKind.u8] (0) (fun p_ q_ => AV.bad) true)]))
  none)
  (cond (decide (w > 0))
  (cond (okB (fun p_ q_ => AV.bad) (0))
  (some (CS.mk [(AV.int IntKind.u64 ((val (fun p_ q_ => AV.bad) (0) (0))))] [some (AObj.cells [(AV.osl (true) (1) (0) (0) (0) (1) (true)), (AV.bool (true))] true), some (AObj.tarr [Sh.int IntKind.u8] (0) (fun p_ q_ => AV.bad) true)]))
  none)
  (cond (okB (fun p_ q_ => AV.bad) (0))
  (some (CS.mk [(AV.int IntKind.u64 ((val (fun p_ q_ => AV.bad) (0) (0))))] [some (AObj.cells [(AV.osl (true) (1) (0) (0) (0) (1) (true)), (AV.bool (true))] true), some (AObj.tarr [Sh.int IntKind.u8] (0) (fun p_ q_ => AV.bad) true)]))
  none))))) := by
  rw [k32f_is]
  try simp only [eq_self, decide_true, beq_self_eq_true, Nat.beq_refl, ble_self, Int.le_refl, Nat.le_refl]
  cases (decide (w < 1)) with
  | true =>
    rfl
  | false =>
    cases (decide (w > 8)) with
    | true =>
      rfl
    | false =>
      cases (decide (w < 0)) with
      | true =>
        cases (okB (fun p_ q_ => AV.bad) (0)) with
        | true =>
          rfl
        | false =>
          rfl
      | false =>
        cases (decide (w > 0)) with
        | true =>
          cases (okB (fun p_ q_ => AV.bad) (0)) with
          | true =>
            rfl
          | false =>
            rfl
        | false =>
          cases (okB (fun p_ q_ => AV.bad) (0)) with
          | true =>
            rfl
          | false =>
            rfl

noncomputable def k36 (nl : Bool) (a : Nat) (N : Nat) (f : Nat → Nat → AV) (w : Int) (π : Plan) : Option CS := callC (F2) (1000) (36) (1) (.keep) ([pRR]) π (a36 nl a N f w)
def k36_p : Plan := (.fork (.must true (.must false (.fork .stop (.fork (.must true (.must true (.reck 1 (.must true (.must true (.must true (.reck 1 (.must true (.must true (.must true (.must false (.fork (.reck 5 (.fork .stop .stop)) (.reck 1 (.fork (.fork (.reck 1 (.fork (.must true (.must true (.reck 1 (.must true (.must true (.must true (.must true (.must true (.must true (.must true (.must true (.reck 1 (.must true (.must true (.must true (.reck 1 (.must true (.reck 1 (.fork (.fork (.fork .stop .stop) .stop) .stop))))))))))))))))))) .stop)) .stop) .stop)))))))))))))) (.must false (.must false (.must false (.must true (.reck 6 (.fork .stop .stop)))))))))) (.must false (.must true .stop)))
theorem k36_is (nl : Bool) (a : Nat) (N : Nat) (f : Nat → Nat → AV) (w : Int) : k36 nl a N f w k36_p = (cond (decide (w < 1) == false)
  (cond (decide (w < 1) == false) (cond (decide (w < 1)) none (cond (decide (w > 8))
  (some (CS.mk [(AV.int IntKind.u64 (0))] [some (AObj.cells [(AV.osl (nl) (1) (0) (N) (N) (1) (true)), (AV.int IntKind.i64 ((↑a : Int))), (AV.bool (true))] true), some (AObj.tarr [Sh.int IntKind.u8] (N) f false)]))
  (cond (decide (w < 0) == false)
  (cond (decide (w < 0) == false) (cond (decide (w < 0) == false) (cond (decide ((↑a : Int) = (↑a : Int))) (cond (decide ((↑N : Int) = (↑N : Int))) (cond (nl == nl) (cond (Nat.beq N N) (cond (Nat.beq N N) (cond (decide (w < 0) == false) (cond (decide (w < 0)) none (cond (decide (w > IntKind.wrap IntKind.i64 ((↑N : Int) - (↑a : Int))))
  (cond ((okB (fun p_ q_ => AV.bad) (0)))
  (some (CS.mk [(AV.int IntKind.u64 ((val (fun p_ q_ => AV.bad) (0) (0))))] [some (AObj.cells [(AV.osl (nl) (1) (0) (N) (N) (1) (true)), (AV.int IntKind.i64 ((↑a : Int))), (AV.bool (true))] true), some (AObj.tarr [Sh.int IntKind.u8] (N) f false)]))
  none)
  (cond (Nat.ble (Int.toNat (↑a : Int)) (Int.toNat (IntKind.wrap IntKind.i64 ((↑a : Int) + w))))
  (cond (Nat.ble (Int.toNat (IntKind.wrap IntKind.i64 ((↑a : Int) + w))) N)
  (cond (decide (0 ≤ IntKind.wrap IntKind.i64 ((↑a : Int) + w)))
  (cond (Nat.ble (Int.toNat (↑a : Int)) (Int.toNat (IntKind.wrap IntKind.i64 ((↑a : Int) + w)))) (cond (Nat.ble (Int.toNat (IntKind.wrap IntKind.i64 ((↑a : Int) + w))) N) (cond (decide (0 ≤ IntKind.wrap IntKind.i64 ((↑a : Int) + w))) (cond (nl == nl) (cond (Nat.beq (0 + Int.toNat (↑a : Int)) (0 + Int.toNat (↑a : Int))) (cond (Nat.beq (Int.toNat (IntKind.wrap IntKind.i64 ((↑a : Int) + w)) - Int.toNat (↑a : Int)) (Int.toNat (IntKind.wrap IntKind.i64 ((↑a : Int) + w)) - Int.toNat (↑a : Int))) (cond (Nat.beq (N - Int.toNat (↑a : Int)) (N - Int.toNat (↑a : Int))) (cond (decide ((↑a : Int) = (↑a : Int))) (cond (decide ((↑a : Int) = (↑a : Int))) (cond (nl == nl) (cond (Nat.beq N N) (cond (Nat.beq N N) (cond (decide (Int.toNat (IntKind.wrap IntKind.i64 ((↑a : Int) + w)) - Int.toNat (↑a : Int) = Int.toNat (IntKind.wrap IntKind.i64 ((↑a : Int) + w)) - Int.toNat (↑a : Int))) (cond (decide (IntKind.wrap IntKind.i64 ((↑(Int.toNat (IntKind.wrap IntKind.i64 ((↑a : Int) + w)) - Int.toNat (↑a : Int)) : Int) - 1) = IntKind.wrap IntKind.i64 ((↑(Int.toNat (IntKind.wrap IntKind.i64 ((↑a : Int) + w)) - Int.toNat (↑a : Int)) : Int) - 1))) (cond ((okB f (N)))
  (cond (Nat.ble (Int.toNat (IntKind.wrap IntKind.i64 ((↑a : Int) + w)) - Int.toNat (↑a : Int)) 8)
  (cond (Nat.ble (0 + Int.toNat (↑a : Int) + (Int.toNat (IntKind.wrap IntKind.i64 ((↑a : Int) + w)) - Int.toNat (↑a : Int))) N)
  (some (CS.mk [(AV.int IntKind.u64 ((val f (0 + Int.toNat (↑a : Int)) (Int.toNat (IntKind.wrap IntKind.i64 ((↑a : Int) + w)) - Int.toNat (↑a : Int)))))] [some (AObj.cells [(AV.osl (nl) (1) (0) (N) (N) (1) (true)), (AV.int IntKind.i64 (IntKind.wrap IntKind.i64 ((↑a : Int) + w))), (AV.bool (false))] true), some (AObj.tarr [Sh.int IntKind.u8] (N) f false)]))
  none)
  none)
  none) none) none) none) none) none) none) none) none) none) none) none) none) none) none)
  none)
  none)
  none))) none) none) none) none) none) none) none) none)
  (cond (decide (w < 0) == false) none (cond (decide (w < 0) == false) none (cond (decide (w < 0) == false) none (cond (decide (w < 0)) (cond ((okB (fun p_ q_ => AV.bad) (0)))
  (some (CS.mk [(AV.int IntKind.u64 ((val (fun p_ q_ => AV.bad) (0) (0))))] [some (AObj.cells [(AV.osl (nl) (1) (0) (N) (N) (1) (true)), (AV.int IntKind.i64 ((↑a : Int))), (AV.bool (true))] true), some (AObj.tarr [Sh.int IntKind.u8] (N) f false)]))
  none) none))))))) none)
  (cond (decide (w < 1) == false) none (cond (decide (w < 1)) (some (CS.mk [(AV.int IntKind.u64 (0))] [some (AObj.cells [(AV.osl (nl) (1) (0) (N) (N) (1) (true)), (AV.int IntKind.i64 ((↑a : Int))), (AV.bool (true))] true), some (AObj.tarr [Sh.int IntKind.u8] (N) f false)])) none))) := by kernel_rfl
theorem k36_eq (nl : Bool) (a : Nat) (N : Nat) (f : Nat → Nat → AV) (w : Int) : k36 nl a N f w k36_p = (cond (decide (w < 1))
  (some (CS.mk [(AV.int IntKind.u64 (0))] [some (AObj.cells [(AV.osl (nl) (1) (0) (N) (N) (1) (true)), (AV.int IntKind.i64 ((↑a : Int))), (AV.bool (true))] true), some (AObj.tarr [Sh.int IntKind.u8] (N) f false)]))
  (cond (decide (w > 8))
  (some (CS.mk [(AV.int IntKind.u64 (0))] [some (AObj.cells [(AV.osl (nl) (1) (0) (N) (N) (1) (true)), (AV.int IntKind.i64 ((↑a : Int))), (AV.bool (true))] true), some (AObj.tarr [Sh.int IntKind.u8] (N) f false)]))
  (cond (decide (w < 0))
  (cond (okB (fun p_ q_ => AV.bad) (0))
  (some (CS.mk [(AV.int IntKind.u64 ((val (fun p_ q_ => AV.bad) (0) (0))))] [some (AObj.cells [(AV.osl (nl) (1) (0) (N) (N) (1) (true)), (AV.int IntKind.i64 ((↑a : Int))), (AV.bool (true))] true), some (AObj.tarr [Sh.int IntKind.u8] (N) f false)]))
  none)
  (cond (decide (w > IntKind.wrap IntKind.i64 ((↑N : Int) - (↑a : Int))))
  (cond (okB (fun p_ q_ => AV.bad) (0))
  (some (CS.mk [(AV.int IntKind.u64 ((val (fun p_ q_ => AV.bad) (0) (0))))] [some (AObj.cells [(AV.osl (nl) (1) (0) (N) (N) (1) (true)), (AV.int IntKind.i64 ((↑a : Int))), (AV.bool (true))] true), some (AObj.tarr [Sh.int IntKind.u8] (N) f false)]))
  none)
  (cond (Nat.ble (Int.toNat (↑a : Int)) (Int.toNat (IntKind.wrap IntKind.i64 ((↑a : Int) + w))))
  (cond (Nat.ble (Int.toNat (IntKind.wrap IntKind.i64 ((↑a : Int) + w))) N)
  (cond (decide (0 ≤ IntKind.wrap IntKind.i64 ((↑a : Int) + w)))
  (cond (okB f (N))
  (cond (Nat.ble (Int.toNat (IntKind.wrap IntKind.i64 ((↑a : Int) + w)) - Int.toNat (↑a : Int)) 8)
  (cond (Nat.ble (0 + Int.toNat (↑a : Int) + (Int.toNat (IntKind.wrap IntKind.i64 ((↑a : Int) + w)) - Int.toNat (↑a : Int))) N)
  (some (CS.mk [(AV.int IntKind.u64 ((val f (0 + Int.toNat (↑a : Int)) (Int.toNat (IntKind.wrap IntKind.i64 ((↑a : Int) + w)) - Int.toNat (↑a : Int)))))] [some (AObj.cells [(AV.osl (nl) (1) (0) (N) (N) (1) (true)), (AV.int IntKind.i64 (IntKind.wrap IntKind.i64 ((↑a : Int) + w))), (AV.bool (false))] true), some (AObj.tarr [Sh.int IntKind.u8] (N) f false)]))
  none)
  none)
  none)
  none)
  none)
  none))))) := by
  rw [k36_is]
  try simp only [eq_self, decide_true, beq_self_eq_true, Nat.beq_refl, ble_self, Int.le_refl, Nat.le_refl]
  cases (decide (w < 1)) with
  | true =>
    rfl
  | false =>
    cases (decide (w > 8)) with
    | true =>
      rfl
    | false =>
      cases (decide (w < 0)) with
      | true =>
        cases (okB (fun p_ q_ => AV.bad) (0)) with
        | true =>
          rfl
        | false =>
          rfl
      | false =>
        cases (decide (w > IntKind.wrap IntKind.i64 ((↑N : Int) - (↑a : Int)))) with
        | true =>
          cases (okB (fun p_ q_ => AV.bad) (0)) with
          | true =>
            rfl
          | false =>
            rfl
        | false =>
          cases (Nat.ble (Int.toNat (↑a : Int)) (Int.toNat (IntKind.wrap IntKind.i64 ((↑a : Int) + w)))) with
          | true =>
            cases (Nat.ble (Int.toNat (IntKind.wrap IntKind.i64 ((↑a : Int) + w))) N) with
            | true =>
              cases (decide (0 ≤ IntKind.wrap IntKind.i64 ((↑a : Int) + w))) with
              | true =>
                cases (okB f (N)) with
                | true =>
                  cases (Nat.ble (Int.toNat (IntKind.wrap IntKind.i64 ((↑a : Int) + w)) - Int.toNat (↑a : Int)) 8) with
                  | true =>
                    cases (Nat.ble (0 + Int.toNat (↑a : Int) + (Int.toNat (IntKind.wrap IntKind.i64 ((↑a : Int) + w)) - Int.toNat (↑a : Int))) N) with
                    | true =>
                      rfl
                    | false =>
                      rfl
                  | false =>
                    rfl
                | false =>
                  rfl
              | false =>
                rfl
            | false =>
              rfl
          | false =>
            rfl

noncomputable def k36f (nl : Bool) (N : Nat) (f : Nat → Nat → AV) (w : Int) (π : Plan) : Option CS := callC (F2) (1000) (36) (1) (.keep) ([pRR]) π (a36f nl N f w)
def k36f_p : Plan := (.fork (.must true (.must false (.fork .stop (.fork (.must true (.must true (.reck 1 (.must true (.must false (.fork (.reck 5 (.fork .stop .stop)) (.reck 5 (.fork .stop .stop)))))))) (.must false (.must false (.must false (.must true (.reck 6 (.fork .stop .stop)))))))))) (.must false (.must true .stop)))
theorem k36f_is (nl : Bool) (N : Nat) (f : Nat → Nat → AV) (w : Int) : k36f nl N f w k36f_p = (cond (decide (w < 1) == false)
  (cond (decide (w < 1) == false) (cond (decide (w < 1)) none (cond (decide (w > 8))
  (some (CS.mk [(AV.int IntKind.u64 (0))] [some (AObj.cells [(AV.osl (nl) (1) (0) (N) (N) (1) (true)), AV.bad, (AV.bool (true))] true), some (AObj.tarr [Sh.int IntKind.u8] (N) f false)]))
  (cond (decide (w < 0) == false)
  (cond (decide (w < 0) == false) (cond (decide (w < 0) == false) (cond (decide (w < 0) == false) (cond (decide (w < 0)) none (cond (decide (w > 0))
  (cond ((okB (fun p_ q_ => AV.bad) (0)))
  (some (CS.mk [(AV.int IntKind.u64 ((val (fun p_ q_ => AV.bad) (0) (0))))] [some (AObj.cells [(AV.osl (nl) (1) (0) (N) (N) (1) (true)), AV.bad, (AV.bool (true))] true), some (AObj.tarr [Sh.int IntKind.u8] (N) f false)]))
  none)
  (cond ((okB (fun p_ q_ => AV.bad) (0)))
  (some (CS.mk [(AV.int IntKind.u64 ((val (fun p_ q_ => AV.bad) (0) (0))))] [some (AObj.cells [(AV.osl (nl) (1) (0) (N) (N) (1) (true)), AV.bad, (AV.bool (true))] true), some (AObj.tarr [Sh.int IntKind.u8] (N) f false)]))
  none))) none) none) none)
  (cond (decide (w < 0) == false) none (cond (decide (w < 0) == false) none (cond (decide (w < 0) == false) none (cond (decide (w < 0)) (cond ((okB (fun p_ q_ => AV.bad) (0)))
  (some (CS.mk [(AV.int IntKind.u64 ((val (fun p_ q_ => AV.bad) (0) (0))))] [some (AObj.cells [(AV.osl (nl) (1) (0) (N) (N) (1) (true)), AV.bad, (AV.bool (true))] true), some (AObj.tarr [Sh.int IntKind.u8] (N) f false)]))
  none) none))))))) none)
  (cond (decide (w < 1) == false) none (cond (decide (w < 1)) (some (CS.mk [(AV.int IntKind.u64 (0))] [some (AObj.cells [(AV.osl (nl) (1) (0) (N) (N) (1) (true)), AV.bad, (AV.bool (true))] true), some (AObj.tarr [Sh.int IntKind.u8] (N) f false)])) none))) := by kernel_rfl
theorem k36f_eq (nl : Bool) (N : Nat) (f : Nat → Nat → AV) (w : Int) : k36f nl N f w k36f_p = (cond (decide (w < 1))
  (some (CS.mk [(AV.int IntKind.u64 (0))] [some (AObj.cells [(AV.osl (nl) (1) (0) (N) (N) (1) (true)), AV.bad, (AV.bool (true))] true), some (AObj.tarr [Sh.int IntKind.u8] (N) f false)]))
  (cond (decide (w > 8))
  (some (CS.mk [(AV.int IntKind.u64 (0))] [some (AObj.cells [(AV.osl (nl) (1) (0) (N) (N) (1) (true)), AV.bad, (AV.bool (true))] true), some (AObj.tarr [Sh.int IntKind.u8] (N) f false)]))
  (cond (decide (w < 0))
  (cond (okB (fun p_ q_ => AV.bad) (0))
  (some (CS.mk [(AV.int IntKind.u64 ((val (fun p_ q_ => AV.bad) (0) (0))))] [some (AObj.cells [(AV.osl (nl) (1) (0) (N) (N) (1) (true)), AV.bad, (AV.bool (true))] true), some (AObj.tarr [Sh.int IntKind.u8] (N) f false)]))
  none)
  (cond (decide (w > 0))
  (cond (okB (fun p_ q_ => AV.bad) (0))
  (some (CS.mk [(AV.int IntKind.u64 ((val (fun p_ q_ => AV.bad) (0) (0))))] [some (AObj.cells [(AV.osl (nl) (1) (0) (N) (N) (1) (true)), AV.bad, (AV.bool (true))] true), some (AObj.tarr [Sh.int IntKind.u8] (N) f false)]))
  none)
  (cond (okB (fun p_ q_ => AV.bad) (0))
  (some (CS.mk [(AV.int IntKind.u64 ((val (fun p_ q_ => AV.bad) (0) (0))))] [some (AObj.cells [(AV.osl (nl) (1) (0) (N) (N) (1) (true)), AV.bad, (AV.bool (true))] true), some (AObj.tarr [Sh.int IntKind.u8] (N) f false)]))
  none))))) := by
  rw [k36f_is]
  try simp only [eq_self, decide_true, beq_self_eq_true, Nat.beq_refl, ble_self, Int.le_refl, Nat.le_refl]
  cases (decide (w < 1)) with
  | true =>
    rfl
  | false =>
    cases (decide (w > 8)) with
    | true =>
      rfl
    | false =>
      cases (decide (w < 0)) with
      | true =>
        cases (okB (fun p_ q_ => AV.bad) (0)) with
        | true =>
          rfl
        | false =>
          rfl
      | false =>
        cases (decide (w > 0)) with
        | true =>
          cases (okB (fun p_ q_ => AV.bad) (0)) with
          | true =>
            rfl
          | false =>
            rfl
        | false =>
          cases (okB (fun p_ q_ => AV.bad) (0)) with
          | true =>
            rfl
          | false =>
            rfl
end Go.Proofs.Ytjbjjikdihghmaa.entry
