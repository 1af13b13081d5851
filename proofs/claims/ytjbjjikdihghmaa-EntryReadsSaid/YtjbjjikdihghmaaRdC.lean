/- Texts and looks, read: what the machine reckons. -/
import Derived.Test.YtjbjjikdihghmaaRdA
set_option linter.unusedSimpArgs false
set_option linter.unusedVariables false
set_option maxRecDepth 20000
namespace Go.Proofs.Ytjbjjikdihghmaa.entry
open Go Go.RowKit Go.Proofs.Ytjbjjikdihghmaa.Bm
def rk (nl : Bool) (off : Nat) (N : Nat) (f : Nat → Nat → AV) : CS :=
  ⟨[.ptr 0 0], [some (.cells [.osl nl 1 off (N - off) (N - off) 1 true, .bool false] true), some (.tarr shB N f false)]⟩
def rf  : CS :=
  ⟨[.ptr 0 0], [some (.cells [.nilSlice, .bool true] true), none]⟩
def rr (nl : Bool) (a : Nat) (N : Nat) (f : Nat → Nat → AV) : CS :=
  ⟨[.ptr 0 0], [some (.cells [.osl nl 1 0 N N 1 true, .int .i64 (a : Nat), .bool false] true), some (.tarr shB N f false)]⟩
def rb (nl : Bool) (N : Nat) (f : Nat → Nat → AV) : CS :=
  ⟨[.ptr 0 0], [some (.cells [.osl nl 1 0 N N 1 true, .bad, .bool true] true), some (.tarr shB N f false)]⟩
noncomputable def q34oB  (nl : Bool) (off : Nat) (N : Nat) (f : Nat → Nat → AV) : T (CS) :=
  chkT [okB f N, Nat.ble off N, Nat.ble N 1000000, cond nl (Nat.beq N 0) true] (.ask (Nat.blt N (off + 2)) (.ret ⟨[.str []], failP⟩) (.ask (decide (val f off 2 > 16384)) (.ret ⟨[.str []], failP⟩) (.ask (Nat.blt N (off + 2 + (val f off 2).toNat)) (.ret ⟨[.str []], failP⟩) (.ret ⟨[.str (strV f (off + 2) (val f off 2).toNat)], okP nl (off + 2 + (val f off 2).toNat) N f⟩))))
noncomputable def q34o  (c : CS) : T (CS) := match c with
  | ⟨[.ptr 0 0], [some (.cells [.osl nl 1 off z_1 z_2 1 true, .bool z_3] true), some (.tarr sh_4 N f false)]⟩ => chkT [decide ((N - off) = z_1), decide ((N - off) = z_2), decide (false = z_3), shBeq sh_4 shB] (q34oB  nl off N f)
  | _ => .fail
noncomputable def q38oB  (nl : Bool) (a : Nat) (N : Nat) (f : Nat → Nat → AV) : T (CS) :=
  chkT [okB f N, Nat.ble a N, Nat.ble N 1000000] (.ask (Nat.blt N (a + 2)) (.ret ⟨[.str []], rdX nl N f⟩) (.ask (decide (val f a 2 > 16384)) (.ret ⟨[.str []], rdX nl N f⟩) (.ask (Nat.blt N (a + 2 + (val f a 2).toNat)) (.ret ⟨[.str []], rdX nl N f⟩) (.ret ⟨[.str (strV f (a + 2) (val f a 2).toNat)], rdR nl (a + 2 + (val f a 2).toNat) N f⟩))))
noncomputable def q38o  (c : CS) : T (CS) := match c with
  | ⟨[.ptr 0 0], [some (.cells [.osl nl 1 0 N z_1 1 true, .int .i64 (.ofNat a), .bool z_2] true), some (.tarr sh_3 z_4 f false)]⟩ => chkT [decide (N = z_1), decide (false = z_2), shBeq sh_3 shB, decide (N = z_4)] (q38oB  nl a N f)
  | _ => .fail
noncomputable def q33oB  (nl : Bool) (off : Nat) (N : Nat) (f : Nat → Nat → AV) : T (CS) :=
  chkT [okB f N, Nat.ble off N, Nat.ble N 1000000] (.ask (Nat.blt N (off + 8)) (.ret ⟨[.agg [.int .u64 0, .int .u64 0, .int .u32 0, .int .u32 0]], failP⟩) (.ask (Nat.blt N (off + 16)) (.ret ⟨[.agg [.int .u64 (val f off 8), .int .u64 0, .int .u32 0, .int .u32 0]], failP⟩) (.ask (Nat.blt N (off + 20)) (.ret ⟨[.agg [.int .u64 (val f off 8), .int .u64 (val f (off + 8) 8), .int .u32 0, .int .u32 0]], failP⟩) (.ask (Nat.blt N (off + 24)) (.ret ⟨[.agg [.int .u64 (val f off 8), .int .u64 (val f (off + 8) 8), .int .u32 (IntKind.wrap .u32 (val f (off + 16) 4)), .int .u32 0]], failP⟩) (.ret ⟨[.agg [.int .u64 (val f off 8), .int .u64 (val f (off + 8) 8), .int .u32 (IntKind.wrap .u32 (val f (off + 16) 4)), .int .u32 (IntKind.wrap .u32 (val f (off + 20) 4))]], okP nl (off + 24) N f⟩)))))
noncomputable def q33o  (c : CS) : T (CS) := match c with
  | ⟨[.ptr 0 0], [some (.cells [.osl nl 1 off z_1 z_2 1 true, .bool z_3] true), some (.tarr sh_4 N f false)]⟩ => chkT [decide ((N - off) = z_1), decide ((N - off) = z_2), decide (false = z_3), shBeq sh_4 shB] (q33oB  nl off N f)
  | _ => .fail
noncomputable def q37oB  (nl : Bool) (a : Nat) (N : Nat) (f : Nat → Nat → AV) : T (CS) :=
  chkT [okB f N, Nat.ble a N, Nat.ble N 1000000] (.ask (Nat.blt N (a + 8)) (.ret ⟨[.agg [.int .u64 0, .int .u64 0, .int .u32 0, .int .u32 0]], rdX nl N f⟩) (.ask (Nat.blt N (a + 16)) (.ret ⟨[.agg [.int .u64 (val f a 8), .int .u64 0, .int .u32 0, .int .u32 0]], rdX nl N f⟩) (.ask (Nat.blt N (a + 20)) (.ret ⟨[.agg [.int .u64 (val f a 8), .int .u64 (val f (a + 8) 8), .int .u32 0, .int .u32 0]], rdX nl N f⟩) (.ask (Nat.blt N (a + 24)) (.ret ⟨[.agg [.int .u64 (val f a 8), .int .u64 (val f (a + 8) 8), .int .u32 (IntKind.wrap .u32 (val f (a + 16) 4)), .int .u32 0]], rdX nl N f⟩) (.ret ⟨[.agg [.int .u64 (val f a 8), .int .u64 (val f (a + 8) 8), .int .u32 (IntKind.wrap .u32 (val f (a + 16) 4)), .int .u32 (IntKind.wrap .u32 (val f (a + 20) 4))]], rdR nl (a + 24) N f⟩)))))
noncomputable def q37o  (c : CS) : T (CS) := match c with
  | ⟨[.ptr 0 0], [some (.cells [.osl nl 1 0 N z_1 1 true, .int .i64 (.ofNat a), .bool z_2] true), some (.tarr sh_3 z_4 f false)]⟩ => chkT [decide (N = z_1), decide (false = z_2), shBeq sh_3 shB, decide (N = z_4)] (q37oB  nl a N f)
  | _ => .fail
noncomputable def q34f (c : CS) : T CS := match c with
  | ⟨[.ptr 0 0], [some (.cells [.osl z 1 _ _ _ 1 _, .bool true] true), some _]⟩ => chkT [z] (.ret ⟨[.str []], failP⟩)
  | _ => .fail
noncomputable def q33f (c : CS) : T CS := match c with
  | ⟨[.ptr 0 0], [some (.cells [.osl z 1 _ _ _ 1 _, .bool true] true), some _]⟩ => chkT [z] (.ret ⟨[.agg [.int .u64 0, .int .u64 0, .int .u32 0, .int .u32 0]], failP⟩)
  | _ => .fail
noncomputable def q38f (c : CS) : T CS := match c with
  | ⟨[.ptr 0 0], [some (.cells [.osl nl 1 0 N N' 1 true, _, .bool true] true), some (.tarr sh M f false)]⟩ => chkT [decide (N = N'), decide (N = M), shBeq sh shB] (.ret ⟨[.str []], rdX nl N f⟩)
  | _ => .fail
noncomputable def q37f (c : CS) : T CS := match c with
  | ⟨[.ptr 0 0], [some (.cells [.osl nl 1 0 N N' 1 true, _, .bool true] true), some (.tarr sh M f false)]⟩ => chkT [decide (N = N'), decide (N = M), shBeq sh shB] (.ret ⟨[.agg [.int .u64 0, .int .u64 0, .int .u32 0, .int .u32 0]], rdX nl N f⟩)
  | _ => .fail
noncomputable def q34 (c : CS) : T CS := cond (badP c) (q34f c) (q34o c)
noncomputable def q38 (c : CS) : T CS := cond (badP c) (q38f c) (q38o c)
noncomputable def q33 (c : CS) : T CS := cond (badP c) (q33f c) (q33o c)
noncomputable def q37 (c : CS) : T CS := cond (badP c) (q37f c) (q37o c)
noncomputable def F4 : Env := addF (addF F3 34 ⟨fiRun [.keep] [pR] 1 q34⟩) 38 ⟨fiRun [.keep] [pRR] 1 q38⟩
noncomputable def F5 : Env := addF (addF F4 33 ⟨fiRun [.keep] [pR] 1 q33⟩) 37 ⟨fiRun [.keep] [pRR] 1 q37⟩
noncomputable def k34 (nl : Bool) (off : Nat) (N : Nat) (f : Nat → Nat → AV) (π : Plan) : Option CS := callC (F3) (1000) (34) (1) (.keep) ([pR]) π (rk nl off N f)
def k34_p : Plan := (.must true (.must true (.reck 4 (.fork (.fork (.fork (.fork .stop (.fork (.reck 2 (.fork (.must true (.must true (.must true (.must true (.must true (.must true (.must false (.fork (.must true (.must true (.must true (.must false .stop)))) (.must false (.must false (.must false (.must true .stop)))))))))))) (.must false (.must false (.must false (.must false (.must false (.must false (.must true .stop))))))))) (.reck 1 (.fork (.must true (.must true (.must true (.must true (.must true (.must true (.must false (.fork (.must true (.must true (.must true (.must false (.reck 2 (.fork (.fork (.must true (.must true (.must true (.fork .stop (.fork (.fork .stop .stop) (.fork (.fork (.fork (.fork .stop .stop) .stop) .stop) .stop)))))) .stop) .stop)))))) (.must false (.must false (.must false (.must true .stop)))))))))))) (.must false (.must false (.must false (.must false (.must false (.must false (.must true .stop))))))))))) .stop) .stop) .stop))))
theorem k34_is (nl : Bool) (off : Nat) (N : Nat) (f : Nat → Nat → AV) : k34 nl off N f k34_p = (cond (decide (N - off = N - off)) (cond (decide (N - off = N - off)) (cond ((okB f (N)))
  (cond (Nat.ble off N)
  (cond (Nat.ble N 1000000)
  (cond (Nat.blt N (off + Int.toNat 2))
  (some (CS.mk [(AV.str ([]))] [some (AObj.cells [(AV.osl (true) (1) (0) (0) (0) (1) (true)), (AV.bool (true))] true), some (AObj.tarr [Sh.int IntKind.u8] (0) (fun p_ q_ => AV.bad) true)]))
  (cond (decide (val f off (Int.toNat 2) > 16384))
  (cond (decide (IntKind.wrap IntKind.i64 (val f off (Int.toNat 2)) < 0) == false)
  (cond (decide (IntKind.wrap IntKind.i64 (val f off (Int.toNat 2)) < 0) == false) (cond (decide (IntKind.wrap IntKind.i64 (val f off (Int.toNat 2)) < 0) == false) (cond (decide (IntKind.wrap IntKind.i64 (val f off (Int.toNat 2)) < 0) == false) (cond (decide (IntKind.wrap IntKind.i64 (val f off (Int.toNat 2)) < 0) == false) (cond (decide (IntKind.wrap IntKind.i64 (val f off (Int.toNat 2)) < 0) == false) (cond (decide (IntKind.wrap IntKind.i64 (val f off (Int.toNat 2)) < 0) == false) (cond (decide (IntKind.wrap IntKind.i64 (val f off (Int.toNat 2)) < 0)) none (cond (decide (IntKind.wrap IntKind.i64 (val f off (Int.toNat 2)) > 0) == false)
  (cond (decide (IntKind.wrap IntKind.i64 (val f off (Int.toNat 2)) > 0) == false) (cond (decide (IntKind.wrap IntKind.i64 (val f off (Int.toNat 2)) > 0) == false) (cond (decide (IntKind.wrap IntKind.i64 (val f off (Int.toNat 2)) > 0) == false) (cond (decide (IntKind.wrap IntKind.i64 (val f off (Int.toNat 2)) > 0)) none (some (CS.mk [(AV.str ([]))] [some (AObj.cells [(AV.osl (true) (1) (0) (0) (0) (1) (true)), (AV.bool (true))] true), some (AObj.tarr [Sh.int IntKind.u8] (0) (fun p_ q_ => AV.bad) true)]))) none) none) none)
  (cond (decide (IntKind.wrap IntKind.i64 (val f off (Int.toNat 2)) > 0) == false) none (cond (decide (IntKind.wrap IntKind.i64 (val f off (Int.toNat 2)) > 0) == false) none (cond (decide (IntKind.wrap IntKind.i64 (val f off (Int.toNat 2)) > 0) == false) none (cond (decide (IntKind.wrap IntKind.i64 (val f off (Int.toNat 2)) > 0)) (some (CS.mk [(AV.str ([]))] [some (AObj.cells [(AV.osl (true) (1) (0) (0) (0) (1) (true)), (AV.bool (true))] true), some (AObj.tarr [Sh.int IntKind.u8] (0) (fun p_ q_ => AV.bad) true)])) none)))))) none) none) none) none) none) none)
  (cond (decide (IntKind.wrap IntKind.i64 (val f off (Int.toNat 2)) < 0) == false) none (cond (decide (IntKind.wrap IntKind.i64 (val f off (Int.toNat 2)) < 0) == false) none (cond (decide (IntKind.wrap IntKind.i64 (val f off (Int.toNat 2)) < 0) == false) none (cond (decide (IntKind.wrap IntKind.i64 (val f off (Int.toNat 2)) < 0) == false) none (cond (decide (IntKind.wrap IntKind.i64 (val f off (Int.toNat 2)) < 0) == false) none (cond (decide (IntKind.wrap IntKind.i64 (val f off (Int.toNat 2)) < 0) == false) none (cond (decide (IntKind.wrap IntKind.i64 (val f off (Int.toNat 2)) < 0)) (some (CS.mk [(AV.str ([]))] [some (AObj.cells [(AV.osl (true) (1) (0) (0) (0) (1) (true)), (AV.bool (true))] true), some (AObj.tarr [Sh.int IntKind.u8] (0) (fun p_ q_ => AV.bad) true)])) none))))))))
  (cond (decide (IntKind.wrap IntKind.i64 (val f off (Int.toNat 2)) < 0) == false)
  (cond (decide (IntKind.wrap IntKind.i64 (val f off (Int.toNat 2)) < 0) == false) (cond (decide (IntKind.wrap IntKind.i64 (val f off (Int.toNat 2)) < 0) == false) (cond (decide (IntKind.wrap IntKind.i64 (val f off (Int.toNat 2)) < 0) == false) (cond (decide (IntKind.wrap IntKind.i64 (val f off (Int.toNat 2)) < 0) == false) (cond (decide (IntKind.wrap IntKind.i64 (val f off (Int.toNat 2)) < 0) == false) (cond (decide (IntKind.wrap IntKind.i64 (val f off (Int.toNat 2)) < 0) == false) (cond (decide (IntKind.wrap IntKind.i64 (val f off (Int.toNat 2)) < 0)) none (cond (decide (IntKind.wrap IntKind.i64 (val f off (Int.toNat 2)) > (↑(N - (off + Int.toNat 2)) : Int)) == false)
  (cond (decide (IntKind.wrap IntKind.i64 (val f off (Int.toNat 2)) > (↑(N - (off + Int.toNat 2)) : Int)) == false) (cond (decide (IntKind.wrap IntKind.i64 (val f off (Int.toNat 2)) > (↑(N - (off + Int.toNat 2)) : Int)) == false) (cond (decide (IntKind.wrap IntKind.i64 (val f off (Int.toNat 2)) > (↑(N - (off + Int.toNat 2)) : Int)) == false) (cond (decide (IntKind.wrap IntKind.i64 (val f off (Int.toNat 2)) > (↑(N - (off + Int.toNat 2)) : Int))) none (cond (Nat.ble (Int.toNat (IntKind.wrap IntKind.i64 (val f off (Int.toNat 2)))) (N - (off + Int.toNat 2)))
  (cond (decide (0 ≤ IntKind.wrap IntKind.i64 (val f off (Int.toNat 2))))
  (cond (Nat.ble (Int.toNat (IntKind.wrap IntKind.i64 (val f off (Int.toNat 2)))) (N - (off + Int.toNat 2))) (cond (Nat.ble (N - (off + Int.toNat 2)) (N - (off + Int.toNat 2))) (cond (decide (0 ≤ IntKind.wrap IntKind.i64 (val f off (Int.toNat 2)))) (cond (nl)
  (some (CS.mk [(AV.str ([]))] [some (AObj.cells [(AV.osl (nl) (1) (off + Int.toNat 2 + Int.toNat (IntKind.wrap IntKind.i64 (val f off (Int.toNat 2)))) (N - (off + Int.toNat 2) - Int.toNat (IntKind.wrap IntKind.i64 (val f off (Int.toNat 2)))) (N - (off + Int.toNat 2) - Int.toNat (IntKind.wrap IntKind.i64 (val f off (Int.toNat 2)))) (1) (true)), (AV.bool (false))] true), some (AObj.tarr [Sh.int IntKind.u8] (N) f false)]))
  (cond (Nat.beq (Int.toNat (IntKind.wrap IntKind.i64 (val f off (Int.toNat 2))) - 0) 0)
  (cond (Nat.ble (off + Int.toNat 2 + 0 + (Int.toNat (IntKind.wrap IntKind.i64 (val f off (Int.toNat 2))) - 0)) N)
  (some (CS.mk [(AV.str ([]))] [some (AObj.cells [(AV.osl (nl) (1) (off + Int.toNat 2 + Int.toNat (IntKind.wrap IntKind.i64 (val f off (Int.toNat 2)))) (N - (off + Int.toNat 2) - Int.toNat (IntKind.wrap IntKind.i64 (val f off (Int.toNat 2)))) (N - (off + Int.toNat 2) - Int.toNat (IntKind.wrap IntKind.i64 (val f off (Int.toNat 2)))) (1) (true)), (AV.bool (false))] true), some (AObj.tarr [Sh.int IntKind.u8] (N) f false)]))
  none)
  (cond (growB (1) (0 + (Int.toNat (IntKind.wrap IntKind.i64 (val f off (Int.toNat 2))) - 0)))
  (cond (Nat.ble (off + Int.toNat 2 + 0 + (Int.toNat (IntKind.wrap IntKind.i64 (val f off (Int.toNat 2))) - 0)) N)
  (cond (Nat.ble (0 + (0 + (Int.toNat (IntKind.wrap IntKind.i64 (val f off (Int.toNat 2))) - 0))) (0 + (Int.toNat (IntKind.wrap IntKind.i64 (val f off (Int.toNat 2))) - 0)))
  (cond (List.all (List.range (0 + (Int.toNat (IntKind.wrap IntKind.i64 (val f off (Int.toNat 2))) - 0))) fun i => decide (0 ≤ byteAt (fjoin (fun x x_1 => AV.bad) 0 fun i j => f (off + Int.toNat 2 + 0 + i) j) (0 + i)) && decide (byteAt (fjoin (fun x x_1 => AV.bad) 0 fun i j => f (off + Int.toNat 2 + 0 + i) j) (0 + i) < 256))
  (some (CS.mk [(AV.str (List.map (fun i => Int.toNat (byteAt (fjoin (fun x x_1 => AV.bad) 0 fun i j => f (off + Int.toNat 2 + 0 + i) j) (0 + i))) (List.range (0 + (Int.toNat (IntKind.wrap IntKind.i64 (val f off (Int.toNat 2))) - 0)))))] [some (AObj.cells [(AV.osl (nl) (1) (off + Int.toNat 2 + Int.toNat (IntKind.wrap IntKind.i64 (val f off (Int.toNat 2)))) (N - (off + Int.toNat 2) - Int.toNat (IntKind.wrap IntKind.i64 (val f off (Int.toNat 2)))) (N - (off + Int.toNat 2) - Int.toNat (IntKind.wrap IntKind.i64 (val f off (Int.toNat 2)))) (1) (true)), (AV.bool (false))] true), some (AObj.tarr [Sh.int IntKind.u8] (N) f false)]))
  none)
  none)
  none)
  none))) none) none) none)
  none)
  none)) none) none) none)
  (cond (decide (IntKind.wrap IntKind.i64 (val f off (Int.toNat 2)) > (↑(N - (off + Int.toNat 2)) : Int)) == false) none (cond (decide (IntKind.wrap IntKind.i64 (val f off (Int.toNat 2)) > (↑(N - (off + Int.toNat 2)) : Int)) == false) none (cond (decide (IntKind.wrap IntKind.i64 (val f off (Int.toNat 2)) > (↑(N - (off + Int.toNat 2)) : Int)) == false) none (cond (decide (IntKind.wrap IntKind.i64 (val f off (Int.toNat 2)) > (↑(N - (off + Int.toNat 2)) : Int))) (some (CS.mk [(AV.str ([]))] [some (AObj.cells [(AV.osl (true) (1) (0) (0) (0) (1) (true)), (AV.bool (true))] true), some (AObj.tarr [Sh.int IntKind.u8] (0) (fun p_ q_ => AV.bad) true)])) none)))))) none) none) none) none) none) none)
  (cond (decide (IntKind.wrap IntKind.i64 (val f off (Int.toNat 2)) < 0) == false) none (cond (decide (IntKind.wrap IntKind.i64 (val f off (Int.toNat 2)) < 0) == false) none (cond (decide (IntKind.wrap IntKind.i64 (val f off (Int.toNat 2)) < 0) == false) none (cond (decide (IntKind.wrap IntKind.i64 (val f off (Int.toNat 2)) < 0) == false) none (cond (decide (IntKind.wrap IntKind.i64 (val f off (Int.toNat 2)) < 0) == false) none (cond (decide (IntKind.wrap IntKind.i64 (val f off (Int.toNat 2)) < 0) == false) none (cond (decide (IntKind.wrap IntKind.i64 (val f off (Int.toNat 2)) < 0)) (some (CS.mk [(AV.str ([]))] [some (AObj.cells [(AV.osl (true) (1) (0) (0) (0) (1) (true)), (AV.bool (true))] true), some (AObj.tarr [Sh.int IntKind.u8] (0) (fun p_ q_ => AV.bad) true)])) none))))))))))
  none)
  none)
  none) none) none) := by kernel_rfl
theorem k34_eq (nl : Bool) (off : Nat) (N : Nat) (f : Nat → Nat → AV) : k34 nl off N f k34_p = (cond (okB f (N))
  (cond (Nat.ble off N)
  (cond (Nat.ble N 1000000)
  (cond (Nat.blt N (off + Int.toNat 2))
  (some (CS.mk [(AV.str ([]))] [some (AObj.cells [(AV.osl (true) (1) (0) (0) (0) (1) (true)), (AV.bool (true))] true), some (AObj.tarr [Sh.int IntKind.u8] (0) (fun p_ q_ => AV.bad) true)]))
  (cond (decide (val f off (Int.toNat 2) > 16384))
  (cond (decide (IntKind.wrap IntKind.i64 (val f off (Int.toNat 2)) < 0))
  (some (CS.mk [(AV.str ([]))] [some (AObj.cells [(AV.osl (true) (1) (0) (0) (0) (1) (true)), (AV.bool (true))] true), some (AObj.tarr [Sh.int IntKind.u8] (0) (fun p_ q_ => AV.bad) true)]))
  (cond (decide (IntKind.wrap IntKind.i64 (val f off (Int.toNat 2)) > 0))
  (some (CS.mk [(AV.str ([]))] [some (AObj.cells [(AV.osl (true) (1) (0) (0) (0) (1) (true)), (AV.bool (true))] true), some (AObj.tarr [Sh.int IntKind.u8] (0) (fun p_ q_ => AV.bad) true)]))
  (some (CS.mk [(AV.str ([]))] [some (AObj.cells [(AV.osl (true) (1) (0) (0) (0) (1) (true)), (AV.bool (true))] true), some (AObj.tarr [Sh.int IntKind.u8] (0) (fun p_ q_ => AV.bad) true)]))))
  (cond (decide (IntKind.wrap IntKind.i64 (val f off (Int.toNat 2)) < 0))
  (some (CS.mk [(AV.str ([]))] [some (AObj.cells [(AV.osl (true) (1) (0) (0) (0) (1) (true)), (AV.bool (true))] true), some (AObj.tarr [Sh.int IntKind.u8] (0) (fun p_ q_ => AV.bad) true)]))
  (cond (decide (IntKind.wrap IntKind.i64 (val f off (Int.toNat 2)) > (↑(N - (off + Int.toNat 2)) : Int)))
  (some (CS.mk [(AV.str ([]))] [some (AObj.cells [(AV.osl (true) (1) (0) (0) (0) (1) (true)), (AV.bool (true))] true), some (AObj.tarr [Sh.int IntKind.u8] (0) (fun p_ q_ => AV.bad) true)]))
  (cond (Nat.ble (Int.toNat (IntKind.wrap IntKind.i64 (val f off (Int.toNat 2)))) (N - (off + Int.toNat 2)))
  (cond (decide (0 ≤ IntKind.wrap IntKind.i64 (val f off (Int.toNat 2))))
  (cond (nl)
  (some (CS.mk [(AV.str ([]))] [some (AObj.cells [(AV.osl (nl) (1) (off + Int.toNat 2 + Int.toNat (IntKind.wrap IntKind.i64 (val f off (Int.toNat 2)))) (N - (off + Int.toNat 2) - Int.toNat (IntKind.wrap IntKind.i64 (val f off (Int.toNat 2)))) (N - (off + Int.toNat 2) - Int.toNat (IntKind.wrap IntKind.i64 (val f off (Int.toNat 2)))) (1) (true)), (AV.bool (false))] true), some (AObj.tarr [Sh.int IntKind.u8] (N) f false)]))
  (cond (Nat.beq (Int.toNat (IntKind.wrap IntKind.i64 (val f off (Int.toNat 2))) - 0) 0)
  (cond (Nat.ble (off + Int.toNat 2 + 0 + (Int.toNat (IntKind.wrap IntKind.i64 (val f off (Int.toNat 2))) - 0)) N)
  (some (CS.mk [(AV.str ([]))] [some (AObj.cells [(AV.osl (nl) (1) (off + Int.toNat 2 + Int.toNat (IntKind.wrap IntKind.i64 (val f off (Int.toNat 2)))) (N - (off + Int.toNat 2) - Int.toNat (IntKind.wrap IntKind.i64 (val f off (Int.toNat 2)))) (N - (off + Int.toNat 2) - Int.toNat (IntKind.wrap IntKind.i64 (val f off (Int.toNat 2)))) (1) (true)), (AV.bool (false))] true), some (AObj.tarr [Sh.int IntKind.u8] (N) f false)]))
  none)
  (cond (growB (1) (0 + (Int.toNat (IntKind.wrap IntKind.i64 (val f off (Int.toNat 2))) - 0)))
  (cond (Nat.ble (off + Int.toNat 2 + 0 + (Int.toNat (IntKind.wrap IntKind.i64 (val f off (Int.toNat 2))) - 0)) N)
  (cond (Nat.ble (0 + (0 + (Int.toNat (IntKind.wrap IntKind.i64 (val f off (Int.toNat 2))) - 0))) (0 + (Int.toNat (IntKind.wrap IntKind.i64 (val f off (Int.toNat 2))) - 0)))
  (cond (List.all (List.range (0 + (Int.toNat (IntKind.wrap IntKind.i64 (val f off (Int.toNat 2))) - 0))) fun i => decide (0 ≤ byteAt (fjoin (fun x x_1 => AV.bad) 0 fun i j => f (off + Int.toNat 2 + 0 + i) j) (0 + i)) && decide (byteAt (fjoin (fun x x_1 => AV.bad) 0 fun i j => f (off + Int.toNat 2 + 0 + i) j) (0 + i) < 256))
  (some (CS.mk [(AV.str (List.map (fun i => Int.toNat (byteAt (fjoin (fun x x_1 => AV.bad) 0 fun i j => f (off + Int.toNat 2 + 0 + i) j) (0 + i))) (List.range (0 + (Int.toNat (IntKind.wrap IntKind.i64 (val f off (Int.toNat 2))) - 0)))))] [some (AObj.cells [(AV.osl (nl) (1) (off + Int.toNat 2 + Int.toNat (IntKind.wrap IntKind.i64 (val f off (Int.toNat 2)))) (N - (off + Int.toNat 2) - Int.toNat (IntKind.wrap IntKind.i64 (val f off (Int.toNat 2)))) (N - (off + Int.toNat 2) - Int.toNat (IntKind.wrap IntKind.i64 (val f off (Int.toNat 2)))) (1) (true)), (AV.bool (false))] true), some (AObj.tarr [Sh.int IntKind.u8] (N) f false)]))
  none)
  none)
  none)
  none)))
  none)
  none)))))
  none)
  none)
  none) := by
  rw [k34_is]
  try simp only [eq_self, decide_true, beq_self_eq_true, Nat.beq_refl, ble_self, Int.le_refl, Nat.le_refl]
  cases (okB f (N)) with
  | true =>
    cases (Nat.ble off N) with
    | true =>
      cases (Nat.ble N 1000000) with
      | true =>
        cases (Nat.blt N (off + Int.toNat 2)) with
        | true =>
          rfl
        | false =>
          cases (decide (val f off (Int.toNat 2) > 16384)) with
          | true =>
            cases (decide (IntKind.wrap IntKind.i64 (val f off (Int.toNat 2)) < 0)) with
            | true =>
              rfl
            | false =>
              cases (decide (IntKind.wrap IntKind.i64 (val f off (Int.toNat 2)) > 0)) with
              | true =>
                rfl
              | false =>
                rfl
          | false =>
            cases (decide (IntKind.wrap IntKind.i64 (val f off (Int.toNat 2)) < 0)) with
            | true =>
              rfl
            | false =>
              cases (decide (IntKind.wrap IntKind.i64 (val f off (Int.toNat 2)) > (↑(N - (off + Int.toNat 2)) : Int))) with
              | true =>
                rfl
              | false =>
                cases (Nat.ble (Int.toNat (IntKind.wrap IntKind.i64 (val f off (Int.toNat 2)))) (N - (off + Int.toNat 2))) with
                | true =>
                  cases (decide (0 ≤ IntKind.wrap IntKind.i64 (val f off (Int.toNat 2)))) with
                  | true =>
                    cases (nl) with
                    | true =>
                      rfl
                    | false =>
                      cases (Nat.beq (Int.toNat (IntKind.wrap IntKind.i64 (val f off (Int.toNat 2))) - 0) 0) with
                      | true =>
                        cases (Nat.ble (off + Int.toNat 2 + 0 + (Int.toNat (IntKind.wrap IntKind.i64 (val f off (Int.toNat 2))) - 0)) N) with
                        | true =>
                          rfl
                        | false =>
                          rfl
                      | false =>
                        cases (growB (1) (0 + (Int.toNat (IntKind.wrap IntKind.i64 (val f off (Int.toNat 2))) - 0))) with
                        | true =>
                          cases (Nat.ble (off + Int.toNat 2 + 0 + (Int.toNat (IntKind.wrap IntKind.i64 (val f off (Int.toNat 2))) - 0)) N) with
                          | true =>
                            cases (Nat.ble (0 + (0 + (Int.toNat (IntKind.wrap IntKind.i64 (val f off (Int.toNat 2))) - 0))) (0 + (Int.toNat (IntKind.wrap IntKind.i64 (val f off (Int.toNat 2))) - 0))) with
                            | true =>
                              cases (List.all (List.range (0 + (Int.toNat (IntKind.wrap IntKind.i64 (val f off (Int.toNat 2))) - 0))) fun i => decide (0 ≤ byteAt (fjoin (fun x x_1 => AV.bad) 0 fun i j => f (off + Int.toNat 2 + 0 + i) j) (0 + i)) && decide (byteAt (fjoin (fun x x_1 => AV.bad) 0 fun i j => f (off + Int.toNat 2 + 0 + i) j) (0 + i) < 256)) with
                              | true =>
                                rfl
                              | false =>
                                rfl
                            | false =>
                              rfl
                          | false =>
                            rfl
                        | false =>
                          rfl
                  | false =>
                    rfl
                | false =>
                  rfl
      | false =>
        rfl
    | false =>
      rfl
  | false =>
    rfl

noncomputable def k34f  (π : Plan) : Option CS := callC (F3) (1000) (34) (1) (.keep) ([pR]) π (rf)
def k34f_p : Plan := .stop
theorem k34f_is : k34f k34f_p = (some (CS.mk [(AV.str ([]))] [some (AObj.cells [(AV.osl (true) (1) (0) (0) (0) (1) (true)), (AV.bool (true))] true), some (AObj.tarr [Sh.int IntKind.u8] (0) (fun p_ q_ => AV.bad) true)])) := by kernel_rfl
theorem k34f_eq : k34f k34f_p = (some (CS.mk [(AV.str ([]))] [some (AObj.cells [(AV.osl (true) (1) (0) (0) (0) (1) (true)), (AV.bool (true))] true), some (AObj.tarr [Sh.int IntKind.u8] (0) (fun p_ q_ => AV.bad) true)])) := by
  rw [k34f_is]

noncomputable def k38 (nl : Bool) (a : Nat) (N : Nat) (f : Nat → Nat → AV) (π : Plan) : Option CS := callC (F3) (1000) (38) (1) (.keep) ([pRR]) π (rr nl a N f)
def k38_p : Plan := (.must true (.reck 2 (.must true (.reck 2 (.fork (.fork (.fork (.fork .stop (.fork (.fork (.must true (.must true (.reck 1 (.must true (.must false (.fork .stop .stop)))))) (.must false (.must false (.must false (.must true .stop))))) (.fork (.must true (.must true (.reck 1 (.must true (.must true (.must true (.reck 1 (.must true (.must true (.must true (.must false (.fork .stop (.reck 1 (.fork (.fork (.reck 1 (.fork (.must true (.must true (.reck 1 (.must true (.must true (.must true (.must true (.must true (.must true (.must true (.must true (.reck 1 (.must true (.must true (.fork (.fork .stop .stop) .stop))))))))))))))) .stop)) .stop) .stop)))))))))))))) (.must false (.must false (.must false (.must true .stop))))))) .stop) .stop) .stop)))))
theorem k38_is (nl : Bool) (a : Nat) (N : Nat) (f : Nat → Nat → AV) : k38 nl a N f k38_p = (cond (decide (N = N)) (cond (decide (N = N)) (cond ((okB f (N)))
  (cond (Nat.ble a N)
  (cond (Nat.ble N 1000000)
  (cond (Nat.blt N (a + Int.toNat 2))
  (some (CS.mk [(AV.str ([]))] [some (AObj.cells [(AV.osl (nl) (1) (0) (N) (N) (1) (true)), AV.bad, (AV.bool (true))] true), some (AObj.tarr [Sh.int IntKind.u8] (N) f false)]))
  (cond (decide (val f a (Int.toNat 2) > 16384))
  (cond (decide (IntKind.wrap IntKind.i64 (val f a (Int.toNat 2)) < 0) == false)
  (cond (decide (IntKind.wrap IntKind.i64 (val f a (Int.toNat 2)) < 0) == false) (cond (decide (IntKind.wrap IntKind.i64 (val f a (Int.toNat 2)) < 0) == false) (cond (decide (IntKind.wrap IntKind.i64 (val f a (Int.toNat 2)) < 0) == false) (cond (decide (IntKind.wrap IntKind.i64 (val f a (Int.toNat 2)) < 0)) none (cond (decide (IntKind.wrap IntKind.i64 (val f a (Int.toNat 2)) > 0))
  (some (CS.mk [(AV.str ([]))] [some (AObj.cells [(AV.osl (nl) (1) (0) (N) (N) (1) (true)), (AV.int IntKind.i64 ((↑(a + Int.toNat 2) : Int))), (AV.bool (true))] true), some (AObj.tarr [Sh.int IntKind.u8] (N) f false)]))
  (some (CS.mk [(AV.str ([]))] [some (AObj.cells [(AV.osl (nl) (1) (0) (N) (N) (1) (true)), (AV.int IntKind.i64 ((↑(a + Int.toNat 2) : Int))), (AV.bool (true))] true), some (AObj.tarr [Sh.int IntKind.u8] (N) f false)])))) none) none) none)
  (cond (decide (IntKind.wrap IntKind.i64 (val f a (Int.toNat 2)) < 0) == false) none (cond (decide (IntKind.wrap IntKind.i64 (val f a (Int.toNat 2)) < 0) == false) none (cond (decide (IntKind.wrap IntKind.i64 (val f a (Int.toNat 2)) < 0) == false) none (cond (decide (IntKind.wrap IntKind.i64 (val f a (Int.toNat 2)) < 0)) (some (CS.mk [(AV.str ([]))] [some (AObj.cells [(AV.osl (nl) (1) (0) (N) (N) (1) (true)), (AV.int IntKind.i64 ((↑(a + Int.toNat 2) : Int))), (AV.bool (true))] true), some (AObj.tarr [Sh.int IntKind.u8] (N) f false)])) none)))))
  (cond (decide (IntKind.wrap IntKind.i64 (val f a (Int.toNat 2)) < 0) == false)
  (cond (decide (IntKind.wrap IntKind.i64 (val f a (Int.toNat 2)) < 0) == false) (cond (decide (IntKind.wrap IntKind.i64 (val f a (Int.toNat 2)) < 0) == false) (cond (decide ((↑(a + Int.toNat 2) : Int) = (↑(a + Int.toNat 2) : Int))) (cond (decide ((↑N : Int) = (↑N : Int))) (cond (nl == nl) (cond (Nat.beq N N) (cond (Nat.beq N N) (cond (decide (IntKind.wrap IntKind.i64 (val f a (Int.toNat 2)) < 0) == false) (cond (decide (IntKind.wrap IntKind.i64 (val f a (Int.toNat 2)) < 0)) none (cond (decide (IntKind.wrap IntKind.i64 (val f a (Int.toNat 2)) > IntKind.wrap IntKind.i64 ((↑N : Int) - (↑(a + Int.toNat 2) : Int))))
  (some (CS.mk [(AV.str ([]))] [some (AObj.cells [(AV.osl (nl) (1) (0) (N) (N) (1) (true)), (AV.int IntKind.i64 ((↑(a + Int.toNat 2) : Int))), (AV.bool (true))] true), some (AObj.tarr [Sh.int IntKind.u8] (N) f false)]))
  (cond (Nat.ble (Int.toNat (↑(a + Int.toNat 2) : Int)) (Int.toNat (IntKind.wrap IntKind.i64 ((↑(a + Int.toNat 2) : Int) + IntKind.wrap IntKind.i64 (val f a (Int.toNat 2))))))
  (cond (Nat.ble (Int.toNat (IntKind.wrap IntKind.i64 ((↑(a + Int.toNat 2) : Int) + IntKind.wrap IntKind.i64 (val f a (Int.toNat 2))))) N)
  (cond (decide (0 ≤ IntKind.wrap IntKind.i64 ((↑(a + Int.toNat 2) : Int) + IntKind.wrap IntKind.i64 (val f a (Int.toNat 2)))))
  (cond (Nat.ble (Int.toNat (↑(a + Int.toNat 2) : Int)) (Int.toNat (IntKind.wrap IntKind.i64 ((↑(a + Int.toNat 2) : Int) + IntKind.wrap IntKind.i64 (val f a (Int.toNat 2)))))) (cond (Nat.ble (Int.toNat (IntKind.wrap IntKind.i64 ((↑(a + Int.toNat 2) : Int) + IntKind.wrap IntKind.i64 (val f a (Int.toNat 2))))) N) (cond (decide (0 ≤ IntKind.wrap IntKind.i64 ((↑(a + Int.toNat 2) : Int) + IntKind.wrap IntKind.i64 (val f a (Int.toNat 2))))) (cond (nl == nl) (cond (Nat.beq (0 + Int.toNat (↑(a + Int.toNat 2) : Int)) (0 + Int.toNat (↑(a + Int.toNat 2) : Int))) (cond (Nat.beq (Int.toNat (IntKind.wrap IntKind.i64 ((↑(a + Int.toNat 2) : Int) + IntKind.wrap IntKind.i64 (val f a (Int.toNat 2)))) - Int.toNat (↑(a + Int.toNat 2) : Int)) (Int.toNat (IntKind.wrap IntKind.i64 ((↑(a + Int.toNat 2) : Int) + IntKind.wrap IntKind.i64 (val f a (Int.toNat 2)))) - Int.toNat (↑(a + Int.toNat 2) : Int))) (cond (Nat.beq (N - Int.toNat (↑(a + Int.toNat 2) : Int)) (N - Int.toNat (↑(a + Int.toNat 2) : Int))) (cond (decide ((↑(a + Int.toNat 2) : Int) = (↑(a + Int.toNat 2) : Int))) (cond (decide ((↑(a + Int.toNat 2) : Int) = (↑(a + Int.toNat 2) : Int))) (cond (nl == nl) (cond (Nat.beq N N) (cond (Nat.beq N N) (cond (Nat.ble (0 + Int.toNat (↑(a + Int.toNat 2) : Int) + (Int.toNat (IntKind.wrap IntKind.i64 ((↑(a + Int.toNat 2) : Int) + IntKind.wrap IntKind.i64 (val f a (Int.toNat 2)))) - Int.toNat (↑(a + Int.toNat 2) : Int))) N)
  (cond (List.all (List.range (Int.toNat (IntKind.wrap IntKind.i64 ((↑(a + Int.toNat 2) : Int) + IntKind.wrap IntKind.i64 (val f a (Int.toNat 2)))) - Int.toNat (↑(a + Int.toNat 2) : Int))) fun i => decide (0 ≤ byteAt f (0 + Int.toNat (↑(a + Int.toNat 2) : Int) + i)) && decide (byteAt f (0 + Int.toNat (↑(a + Int.toNat 2) : Int) + i) < 256))
  (some (CS.mk [(AV.str (List.map (fun i => Int.toNat (byteAt f (0 + Int.toNat (↑(a + Int.toNat 2) : Int) + i))) (List.range (Int.toNat (IntKind.wrap IntKind.i64 ((↑(a + Int.toNat 2) : Int) + IntKind.wrap IntKind.i64 (val f a (Int.toNat 2)))) - Int.toNat (↑(a + Int.toNat 2) : Int)))))] [some (AObj.cells [(AV.osl (nl) (1) (0) (N) (N) (1) (true)), (AV.int IntKind.i64 (IntKind.wrap IntKind.i64 ((↑(a + Int.toNat 2) : Int) + IntKind.wrap IntKind.i64 (val f a (Int.toNat 2))))), (AV.bool (false))] true), some (AObj.tarr [Sh.int IntKind.u8] (N) f false)]))
  none)
  none) none) none) none) none) none) none) none) none) none) none) none) none)
  none)
  none)
  none))) none) none) none) none) none) none) none) none)
  (cond (decide (IntKind.wrap IntKind.i64 (val f a (Int.toNat 2)) < 0) == false) none (cond (decide (IntKind.wrap IntKind.i64 (val f a (Int.toNat 2)) < 0) == false) none (cond (decide (IntKind.wrap IntKind.i64 (val f a (Int.toNat 2)) < 0) == false) none (cond (decide (IntKind.wrap IntKind.i64 (val f a (Int.toNat 2)) < 0)) (some (CS.mk [(AV.str ([]))] [some (AObj.cells [(AV.osl (nl) (1) (0) (N) (N) (1) (true)), (AV.int IntKind.i64 ((↑(a + Int.toNat 2) : Int))), (AV.bool (true))] true), some (AObj.tarr [Sh.int IntKind.u8] (N) f false)])) none)))))))
  none)
  none)
  none) none) none) := by kernel_rfl
theorem k38_eq (nl : Bool) (a : Nat) (N : Nat) (f : Nat → Nat → AV) : k38 nl a N f k38_p = (cond (okB f (N))
  (cond (Nat.ble a N)
  (cond (Nat.ble N 1000000)
  (cond (Nat.blt N (a + Int.toNat 2))
  (some (CS.mk [(AV.str ([]))] [some (AObj.cells [(AV.osl (nl) (1) (0) (N) (N) (1) (true)), AV.bad, (AV.bool (true))] true), some (AObj.tarr [Sh.int IntKind.u8] (N) f false)]))
  (cond (decide (val f a (Int.toNat 2) > 16384))
  (cond (decide (IntKind.wrap IntKind.i64 (val f a (Int.toNat 2)) < 0))
  (some (CS.mk [(AV.str ([]))] [some (AObj.cells [(AV.osl (nl) (1) (0) (N) (N) (1) (true)), (AV.int IntKind.i64 ((↑(a + Int.toNat 2) : Int))), (AV.bool (true))] true), some (AObj.tarr [Sh.int IntKind.u8] (N) f false)]))
  (cond (decide (IntKind.wrap IntKind.i64 (val f a (Int.toNat 2)) > 0))
  (some (CS.mk [(AV.str ([]))] [some (AObj.cells [(AV.osl (nl) (1) (0) (N) (N) (1) (true)), (AV.int IntKind.i64 ((↑(a + Int.toNat 2) : Int))), (AV.bool (true))] true), some (AObj.tarr [Sh.int IntKind.u8] (N) f false)]))
  (some (CS.mk [(AV.str ([]))] [some (AObj.cells [(AV.osl (nl) (1) (0) (N) (N) (1) (true)), (AV.int IntKind.i64 ((↑(a + Int.toNat 2) : Int))), (AV.bool (true))] true), some (AObj.tarr [Sh.int IntKind.u8] (N) f false)]))))
  (cond (decide (IntKind.wrap IntKind.i64 (val f a (Int.toNat 2)) < 0))
  (some (CS.mk [(AV.str ([]))] [some (AObj.cells [(AV.osl (nl) (1) (0) (N) (N) (1) (true)), (AV.int IntKind.i64 ((↑(a + Int.toNat 2) : Int))), (AV.bool (true))] true), some (AObj.tarr [Sh.int IntKind.u8] (N) f false)]))
  (cond (decide (IntKind.wrap IntKind.i64 (val f a (Int.toNat 2)) > IntKind.wrap IntKind.i64 ((↑N : Int) - (↑(a + Int.toNat 2) : Int))))
  (some (CS.mk [(AV.str ([]))] [some (AObj.cells [(AV.osl (nl) (1) (0) (N) (N) (1) (true)), (AV.int IntKind.i64 ((↑(a + Int.toNat 2) : Int))), (AV.bool (true))] true), some (AObj.tarr [Sh.int IntKind.u8] (N) f false)]))
  (cond (Nat.ble (Int.toNat (↑(a + Int.toNat 2) : Int)) (Int.toNat (IntKind.wrap IntKind.i64 ((↑(a + Int.toNat 2) : Int) + IntKind.wrap IntKind.i64 (val f a (Int.toNat 2))))))
  (cond (Nat.ble (Int.toNat (IntKind.wrap IntKind.i64 ((↑(a + Int.toNat 2) : Int) + IntKind.wrap IntKind.i64 (val f a (Int.toNat 2))))) N)
  (cond (decide (0 ≤ IntKind.wrap IntKind.i64 ((↑(a + Int.toNat 2) : Int) + IntKind.wrap IntKind.i64 (val f a (Int.toNat 2)))))
  (cond (Nat.ble (0 + Int.toNat (↑(a + Int.toNat 2) : Int) + (Int.toNat (IntKind.wrap IntKind.i64 ((↑(a + Int.toNat 2) : Int) + IntKind.wrap IntKind.i64 (val f a (Int.toNat 2)))) - Int.toNat (↑(a + Int.toNat 2) : Int))) N)
  (cond (List.all (List.range (Int.toNat (IntKind.wrap IntKind.i64 ((↑(a + Int.toNat 2) : Int) + IntKind.wrap IntKind.i64 (val f a (Int.toNat 2)))) - Int.toNat (↑(a + Int.toNat 2) : Int))) fun i => decide (0 ≤ byteAt f (0 + Int.toNat (↑(a + Int.toNat 2) : Int) + i)) && decide (byteAt f (0 + Int.toNat (↑(a + Int.toNat 2) : Int) + i) < 256))
  (some (CS.mk [(AV.str (List.map (fun i => Int.toNat (byteAt f (0 + Int.toNat (↑(a + Int.toNat 2) : Int) + i))) (List.range (Int.toNat (IntKind.wrap IntKind.i64 ((↑(a + Int.toNat 2) : Int) + IntKind.wrap IntKind.i64 (val f a (Int.toNat 2)))) - Int.toNat (↑(a + Int.toNat 2) : Int)))))] [some (AObj.cells [(AV.osl (nl) (1) (0) (N) (N) (1) (true)), (AV.int IntKind.i64 (IntKind.wrap IntKind.i64 ((↑(a + Int.toNat 2) : Int) + IntKind.wrap IntKind.i64 (val f a (Int.toNat 2))))), (AV.bool (false))] true), some (AObj.tarr [Sh.int IntKind.u8] (N) f false)]))
  none)
  none)
  none)
  none)
  none)))))
  none)
  none)
  none) := by
  rw [k38_is]
  try simp only [eq_self, decide_true, beq_self_eq_true, Nat.beq_refl, ble_self, Int.le_refl, Nat.le_refl]
  cases (okB f (N)) with
  | true =>
    cases (Nat.ble a N) with
    | true =>
      cases (Nat.ble N 1000000) with
      | true =>
        cases (Nat.blt N (a + Int.toNat 2)) with
        | true =>
          rfl
        | false =>
          cases (decide (val f a (Int.toNat 2) > 16384)) with
          | true =>
            cases (decide (IntKind.wrap IntKind.i64 (val f a (Int.toNat 2)) < 0)) with
            | true =>
              rfl
            | false =>
              cases (decide (IntKind.wrap IntKind.i64 (val f a (Int.toNat 2)) > 0)) with
              | true =>
                rfl
              | false =>
                rfl
          | false =>
            cases (decide (IntKind.wrap IntKind.i64 (val f a (Int.toNat 2)) < 0)) with
            | true =>
              rfl
            | false =>
              cases (decide (IntKind.wrap IntKind.i64 (val f a (Int.toNat 2)) > IntKind.wrap IntKind.i64 ((↑N : Int) - (↑(a + Int.toNat 2) : Int)))) with
              | true =>
                rfl
              | false =>
                cases (Nat.ble (Int.toNat (↑(a + Int.toNat 2) : Int)) (Int.toNat (IntKind.wrap IntKind.i64 ((↑(a + Int.toNat 2) : Int) + IntKind.wrap IntKind.i64 (val f a (Int.toNat 2)))))) with
                | true =>
                  cases (Nat.ble (Int.toNat (IntKind.wrap IntKind.i64 ((↑(a + Int.toNat 2) : Int) + IntKind.wrap IntKind.i64 (val f a (Int.toNat 2))))) N) with
                  | true =>
                    cases (decide (0 ≤ IntKind.wrap IntKind.i64 ((↑(a + Int.toNat 2) : Int) + IntKind.wrap IntKind.i64 (val f a (Int.toNat 2))))) with
                    | true =>
                      cases (Nat.ble (0 + Int.toNat (↑(a + Int.toNat 2) : Int) + (Int.toNat (IntKind.wrap IntKind.i64 ((↑(a + Int.toNat 2) : Int) + IntKind.wrap IntKind.i64 (val f a (Int.toNat 2)))) - Int.toNat (↑(a + Int.toNat 2) : Int))) N) with
                      | true =>
                        cases (List.all (List.range (Int.toNat (IntKind.wrap IntKind.i64 ((↑(a + Int.toNat 2) : Int) + IntKind.wrap IntKind.i64 (val f a (Int.toNat 2)))) - Int.toNat (↑(a + Int.toNat 2) : Int))) fun i => decide (0 ≤ byteAt f (0 + Int.toNat (↑(a + Int.toNat 2) : Int) + i)) && decide (byteAt f (0 + Int.toNat (↑(a + Int.toNat 2) : Int) + i) < 256)) with
                        | true =>
                          rfl
                        | false =>
                          rfl
                      | false =>
                        rfl
                    | false =>
                      rfl
                  | false =>
                    rfl
                | false =>
                  rfl
      | false =>
        rfl
    | false =>
      rfl
  | false =>
    rfl

noncomputable def k38f (nl : Bool) (N : Nat) (f : Nat → Nat → AV) (π : Plan) : Option CS := callC (F3) (1000) (38) (1) (.keep) ([pRR]) π (rb nl N f)
def k38f_p : Plan := (.reck 2 (.must true (.must true .stop)))
theorem k38f_is (nl : Bool) (N : Nat) (f : Nat → Nat → AV) : k38f nl N f k38f_p = (cond (decide (N = N)) (cond (decide (N = N)) (some (CS.mk [(AV.str ([]))] [some (AObj.cells [(AV.osl (nl) (1) (0) (N) (N) (1) (true)), AV.bad, (AV.bool (true))] true), some (AObj.tarr [Sh.int IntKind.u8] (N) f false)])) none) none) := by kernel_rfl
theorem k38f_eq (nl : Bool) (N : Nat) (f : Nat → Nat → AV) : k38f nl N f k38f_p = (some (CS.mk [(AV.str ([]))] [some (AObj.cells [(AV.osl (nl) (1) (0) (N) (N) (1) (true)), AV.bad, (AV.bool (true))] true), some (AObj.tarr [Sh.int IntKind.u8] (N) f false)])) := by
  rw [k38f_is]
  try simp only [eq_self, decide_true, beq_self_eq_true, Nat.beq_refl, ble_self, Int.le_refl, Nat.le_refl]
  rfl

noncomputable def k33 (nl : Bool) (off : Nat) (N : Nat) (f : Nat → Nat → AV) (π : Plan) : Option CS := callC (F4) (1000) (33) (1) (.keep) ([pR]) π (rk nl off N f)
def k33_p : Plan := (.must true (.must true (.reck 4 (.fork (.fork (.fork (.fork .stop (.must true (.must true (.reck 4 (.must true (.fork (.must true (.fork .stop (.must true (.must true (.reck 4 (.must true (.fork (.must true (.fork .stop (.must true (.must true (.reck 4 (.must true (.fork (.must true (.fork .stop .stop)) .stop))))))) .stop))))))) .stop)))))) .stop) .stop) .stop))))
theorem k33_is (nl : Bool) (off : Nat) (N : Nat) (f : Nat → Nat → AV) : k33 nl off N f k33_p = (cond (decide (N - off = N - off)) (cond (decide (N - off = N - off)) (cond ((okB f (N)))
  (cond (Nat.ble off N)
  (cond (Nat.ble N 1000000)
  (cond (Nat.blt N (off + Int.toNat 8))
  (some (CS.mk [(AV.agg [(AV.int IntKind.u64 (0)), (AV.int IntKind.u64 (0)), (AV.int IntKind.u32 (0)), (AV.int IntKind.u32 (0))])] [some (AObj.cells [(AV.osl (true) (1) (0) (0) (0) (1) (true)), (AV.bool (true))] true), some (AObj.tarr [Sh.int IntKind.u8] (0) (fun p_ q_ => AV.bad) true)]))
  (cond (decide (N - (off + Int.toNat 8) = N - (off + Int.toNat 8))) (cond (decide (N - (off + Int.toNat 8) = N - (off + Int.toNat 8))) (cond ((okB f (N))) (cond (Nat.ble (off + Int.toNat 8) N)
  (cond (Nat.ble N 1000000) (cond (Nat.blt N (off + Int.toNat 8 + Int.toNat 8))
  (some (CS.mk [(AV.agg [(AV.int IntKind.u64 ((val f (off) (8)))), (AV.int IntKind.u64 (0)), (AV.int IntKind.u32 (0)), (AV.int IntKind.u32 (0))])] [some (AObj.cells [(AV.osl (true) (1) (0) (0) (0) (1) (true)), (AV.bool (true))] true), some (AObj.tarr [Sh.int IntKind.u8] (0) (fun p_ q_ => AV.bad) true)]))
  (cond (decide (N - (off + Int.toNat 8 + Int.toNat 8) = N - (off + Int.toNat 8 + Int.toNat 8))) (cond (decide (N - (off + Int.toNat 8 + Int.toNat 8) = N - (off + Int.toNat 8 + Int.toNat 8))) (cond ((okB f (N))) (cond (Nat.ble (off + Int.toNat 8 + Int.toNat 8) N)
  (cond (Nat.ble N 1000000) (cond (Nat.blt N (off + Int.toNat 8 + Int.toNat 8 + Int.toNat 4))
  (some (CS.mk [(AV.agg [(AV.int IntKind.u64 ((val f (off) (8)))), (AV.int IntKind.u64 ((val f (off + Int.toNat 8) (8)))), (AV.int IntKind.u32 (0)), (AV.int IntKind.u32 (0))])] [some (AObj.cells [(AV.osl (true) (1) (0) (0) (0) (1) (true)), (AV.bool (true))] true), some (AObj.tarr [Sh.int IntKind.u8] (0) (fun p_ q_ => AV.bad) true)]))
  (cond (decide (N - (off + Int.toNat 8 + Int.toNat 8 + Int.toNat 4) = N - (off + Int.toNat 8 + Int.toNat 8 + Int.toNat 4))) (cond (decide (N - (off + Int.toNat 8 + Int.toNat 8 + Int.toNat 4) = N - (off + Int.toNat 8 + Int.toNat 8 + Int.toNat 4))) (cond ((okB f (N))) (cond (Nat.ble (off + Int.toNat 8 + Int.toNat 8 + Int.toNat 4) N)
  (cond (Nat.ble N 1000000) (cond (Nat.blt N (off + Int.toNat 8 + Int.toNat 8 + Int.toNat 4 + Int.toNat 4))
  (some (CS.mk [(AV.agg [(AV.int IntKind.u64 ((val f (off) (8)))), (AV.int IntKind.u64 ((val f (off + Int.toNat 8) (8)))), (AV.int IntKind.u32 (IntKind.wrap IntKind.u32 (val f (off + Int.toNat 8 + Int.toNat 8) (Int.toNat 4)))), (AV.int IntKind.u32 (0))])] [some (AObj.cells [(AV.osl (true) (1) (0) (0) (0) (1) (true)), (AV.bool (true))] true), some (AObj.tarr [Sh.int IntKind.u8] (0) (fun p_ q_ => AV.bad) true)]))
  (some (CS.mk [(AV.agg [(AV.int IntKind.u64 ((val f (off) (8)))), (AV.int IntKind.u64 ((val f (off + Int.toNat 8) (8)))), (AV.int IntKind.u32 (IntKind.wrap IntKind.u32 (val f (off + Int.toNat 8 + Int.toNat 8) (Int.toNat 4)))), (AV.int IntKind.u32 (IntKind.wrap IntKind.u32 (val f (off + Int.toNat 8 + Int.toNat 8 + Int.toNat 4) (Int.toNat 4))))])] [some (AObj.cells [(AV.osl (nl) (1) (off + Int.toNat 8 + Int.toNat 8 + Int.toNat 4 + Int.toNat 4) (N - (off + Int.toNat 8 + Int.toNat 8 + Int.toNat 4 + Int.toNat 4)) (N - (off + Int.toNat 8 + Int.toNat 8 + Int.toNat 4 + Int.toNat 4)) (1) (true)), (AV.bool (false))] true), some (AObj.tarr [Sh.int IntKind.u8] (N) f false)]))) none)
  none) none) none) none)) none)
  none) none) none) none)) none)
  none) none) none) none))
  none)
  none)
  none) none) none) := by kernel_rfl
theorem k33_eq (nl : Bool) (off : Nat) (N : Nat) (f : Nat → Nat → AV) : k33 nl off N f k33_p = (cond (okB f (N))
  (cond (Nat.ble off N)
  (cond (Nat.ble N 1000000)
  (cond (Nat.blt N (off + Int.toNat 8))
  (some (CS.mk [(AV.agg [(AV.int IntKind.u64 (0)), (AV.int IntKind.u64 (0)), (AV.int IntKind.u32 (0)), (AV.int IntKind.u32 (0))])] [some (AObj.cells [(AV.osl (true) (1) (0) (0) (0) (1) (true)), (AV.bool (true))] true), some (AObj.tarr [Sh.int IntKind.u8] (0) (fun p_ q_ => AV.bad) true)]))
  (cond (Nat.ble (off + Int.toNat 8) N)
  (cond (Nat.blt N (off + Int.toNat 8 + Int.toNat 8))
  (some (CS.mk [(AV.agg [(AV.int IntKind.u64 ((val f (off) (8)))), (AV.int IntKind.u64 (0)), (AV.int IntKind.u32 (0)), (AV.int IntKind.u32 (0))])] [some (AObj.cells [(AV.osl (true) (1) (0) (0) (0) (1) (true)), (AV.bool (true))] true), some (AObj.tarr [Sh.int IntKind.u8] (0) (fun p_ q_ => AV.bad) true)]))
  (cond (Nat.ble (off + Int.toNat 8 + Int.toNat 8) N)
  (cond (Nat.blt N (off + Int.toNat 8 + Int.toNat 8 + Int.toNat 4))
  (some (CS.mk [(AV.agg [(AV.int IntKind.u64 ((val f (off) (8)))), (AV.int IntKind.u64 ((val f (off + Int.toNat 8) (8)))), (AV.int IntKind.u32 (0)), (AV.int IntKind.u32 (0))])] [some (AObj.cells [(AV.osl (true) (1) (0) (0) (0) (1) (true)), (AV.bool (true))] true), some (AObj.tarr [Sh.int IntKind.u8] (0) (fun p_ q_ => AV.bad) true)]))
  (cond (Nat.ble (off + Int.toNat 8 + Int.toNat 8 + Int.toNat 4) N)
  (cond (Nat.blt N (off + Int.toNat 8 + Int.toNat 8 + Int.toNat 4 + Int.toNat 4))
  (some (CS.mk [(AV.agg [(AV.int IntKind.u64 ((val f (off) (8)))), (AV.int IntKind.u64 ((val f (off + Int.toNat 8) (8)))), (AV.int IntKind.u32 (IntKind.wrap IntKind.u32 (val f (off + Int.toNat 8 + Int.toNat 8) (Int.toNat 4)))), (AV.int IntKind.u32 (0))])] [some (AObj.cells [(AV.osl (true) (1) (0) (0) (0) (1) (true)), (AV.bool (true))] true), some (AObj.tarr [Sh.int IntKind.u8] (0) (fun p_ q_ => AV.bad) true)]))
  (some (CS.mk [(AV.agg [(AV.int IntKind.u64 ((val f (off) (8)))), (AV.int IntKind.u64 ((val f (off + Int.toNat 8) (8)))), (AV.int IntKind.u32 (IntKind.wrap IntKind.u32 (val f (off + Int.toNat 8 + Int.toNat 8) (Int.toNat 4)))), (AV.int IntKind.u32 (IntKind.wrap IntKind.u32 (val f (off + Int.toNat 8 + Int.toNat 8 + Int.toNat 4) (Int.toNat 4))))])] [some (AObj.cells [(AV.osl (nl) (1) (off + Int.toNat 8 + Int.toNat 8 + Int.toNat 4 + Int.toNat 4) (N - (off + Int.toNat 8 + Int.toNat 8 + Int.toNat 4 + Int.toNat 4)) (N - (off + Int.toNat 8 + Int.toNat 8 + Int.toNat 4 + Int.toNat 4)) (1) (true)), (AV.bool (false))] true), some (AObj.tarr [Sh.int IntKind.u8] (N) f false)])))
  none))
  none))
  none))
  none)
  none)
  none) := by
  rw [k33_is]
  try simp only [eq_self, decide_true, beq_self_eq_true, Nat.beq_refl, ble_self, Int.le_refl, Nat.le_refl]
  cases (okB f (N)) with
  | true =>
    cases (Nat.ble off N) with
    | true =>
      cases (Nat.ble N 1000000) with
      | true =>
        cases (Nat.blt N (off + Int.toNat 8)) with
        | true =>
          rfl
        | false =>
          cases (Nat.ble (off + Int.toNat 8) N) with
          | true =>
            cases (Nat.blt N (off + Int.toNat 8 + Int.toNat 8)) with
            | true =>
              rfl
            | false =>
              cases (Nat.ble (off + Int.toNat 8 + Int.toNat 8) N) with
              | true =>
                cases (Nat.blt N (off + Int.toNat 8 + Int.toNat 8 + Int.toNat 4)) with
                | true =>
                  rfl
                | false =>
                  cases (Nat.ble (off + Int.toNat 8 + Int.toNat 8 + Int.toNat 4) N) with
                  | true =>
                    cases (Nat.blt N (off + Int.toNat 8 + Int.toNat 8 + Int.toNat 4 + Int.toNat 4)) with
                    | true =>
                      rfl
                    | false =>
                      rfl
                  | false =>
                    rfl
              | false =>
                rfl
          | false =>
            rfl
      | false =>
        rfl
    | false =>
      rfl
  | false =>
    rfl

noncomputable def k33f  (π : Plan) : Option CS := callC (F4) (1000) (33) (1) (.keep) ([pR]) π (rf)
def k33f_p : Plan := .stop
theorem k33f_is : k33f k33f_p = (some (CS.mk [(AV.agg [(AV.int IntKind.u64 (0)), (AV.int IntKind.u64 (0)), (AV.int IntKind.u32 (0)), (AV.int IntKind.u32 (0))])] [some (AObj.cells [(AV.osl (true) (1) (0) (0) (0) (1) (true)), (AV.bool (true))] true), some (AObj.tarr [Sh.int IntKind.u8] (0) (fun p_ q_ => AV.bad) true)])) := by kernel_rfl
theorem k33f_eq : k33f k33f_p = (some (CS.mk [(AV.agg [(AV.int IntKind.u64 (0)), (AV.int IntKind.u64 (0)), (AV.int IntKind.u32 (0)), (AV.int IntKind.u32 (0))])] [some (AObj.cells [(AV.osl (true) (1) (0) (0) (0) (1) (true)), (AV.bool (true))] true), some (AObj.tarr [Sh.int IntKind.u8] (0) (fun p_ q_ => AV.bad) true)])) := by
  rw [k33f_is]

noncomputable def k37 (nl : Bool) (a : Nat) (N : Nat) (f : Nat → Nat → AV) (π : Plan) : Option CS := callC (F4) (1000) (37) (1) (.keep) ([pRR]) π (rr nl a N f)
def k37_p : Plan := (.must true (.reck 2 (.must true (.reck 2 (.fork (.fork (.fork (.fork (.reck 2 (.must true (.must true (.reck 3 (.must true (.must true (.reck 3 (.must true (.must true .stop))))))))) (.must true (.reck 2 (.must true (.reck 2 (.must true (.fork (.must true (.fork (.reck 2 (.must true (.must true (.reck 3 (.must true (.must true .stop)))))) (.must true (.reck 2 (.must true (.reck 2 (.must true (.fork (.must true (.fork (.reck 2 (.must true (.must true .stop))) (.must true (.reck 2 (.must true (.reck 2 (.must true (.fork (.must true (.fork .stop .stop)) .stop)))))))) .stop)))))))) .stop))))))) .stop) .stop) .stop)))))
theorem k37_is (nl : Bool) (a : Nat) (N : Nat) (f : Nat → Nat → AV) : k37 nl a N f k37_p = (cond (decide (N = N)) (cond (decide (N = N)) (cond ((okB f (N)))
  (cond (Nat.ble a N)
  (cond (Nat.ble N 1000000)
  (cond (Nat.blt N (a + Int.toNat 8))
  (cond (decide (N = N)) (cond (decide (N = N)) (cond (decide (N = N)) (cond (decide (N = N)) (cond (decide (N = N)) (cond (decide (N = N)) (some (CS.mk [(AV.agg [(AV.int IntKind.u64 (0)), (AV.int IntKind.u64 (0)), (AV.int IntKind.u32 (0)), (AV.int IntKind.u32 (0))])] [some (AObj.cells [(AV.osl (nl) (1) (0) (N) (N) (1) (true)), AV.bad, (AV.bool (true))] true), some (AObj.tarr [Sh.int IntKind.u8] (N) f false)])) none) none) none) none) none) none)
  (cond (decide (N = N)) (cond (decide (N = N)) (cond ((okB f (N))) (cond (Nat.ble (a + Int.toNat 8) N)
  (cond (Nat.ble N 1000000) (cond (Nat.blt N (a + Int.toNat 8 + Int.toNat 8))
  (cond (decide (N = N)) (cond (decide (N = N)) (cond (decide (N = N)) (cond (decide (N = N)) (some (CS.mk [(AV.agg [(AV.int IntKind.u64 ((val f (a) (8)))), (AV.int IntKind.u64 (0)), (AV.int IntKind.u32 (0)), (AV.int IntKind.u32 (0))])] [some (AObj.cells [(AV.osl (nl) (1) (0) (N) (N) (1) (true)), AV.bad, (AV.bool (true))] true), some (AObj.tarr [Sh.int IntKind.u8] (N) f false)])) none) none) none) none)
  (cond (decide (N = N)) (cond (decide (N = N)) (cond ((okB f (N))) (cond (Nat.ble (a + Int.toNat 8 + Int.toNat 8) N)
  (cond (Nat.ble N 1000000) (cond (Nat.blt N (a + Int.toNat 8 + Int.toNat 8 + Int.toNat 4))
  (cond (decide (N = N)) (cond (decide (N = N)) (some (CS.mk [(AV.agg [(AV.int IntKind.u64 ((val f (a) (8)))), (AV.int IntKind.u64 ((val f (a + Int.toNat 8) (8)))), (AV.int IntKind.u32 (0)), (AV.int IntKind.u32 (0))])] [some (AObj.cells [(AV.osl (nl) (1) (0) (N) (N) (1) (true)), AV.bad, (AV.bool (true))] true), some (AObj.tarr [Sh.int IntKind.u8] (N) f false)])) none) none)
  (cond (decide (N = N)) (cond (decide (N = N)) (cond ((okB f (N))) (cond (Nat.ble (a + Int.toNat 8 + Int.toNat 8 + Int.toNat 4) N)
  (cond (Nat.ble N 1000000) (cond (Nat.blt N (a + Int.toNat 8 + Int.toNat 8 + Int.toNat 4 + Int.toNat 4))
  (some (CS.mk [(AV.agg [(AV.int IntKind.u64 ((val f (a) (8)))), (AV.int IntKind.u64 ((val f (a + Int.toNat 8) (8)))), (AV.int IntKind.u32 (IntKind.wrap IntKind.u32 (val f (a + Int.toNat 8 + Int.toNat 8) (Int.toNat 4)))), (AV.int IntKind.u32 (0))])] [some (AObj.cells [(AV.osl (nl) (1) (0) (N) (N) (1) (true)), AV.bad, (AV.bool (true))] true), some (AObj.tarr [Sh.int IntKind.u8] (N) f false)]))
  (some (CS.mk [(AV.agg [(AV.int IntKind.u64 ((val f (a) (8)))), (AV.int IntKind.u64 ((val f (a + Int.toNat 8) (8)))), (AV.int IntKind.u32 (IntKind.wrap IntKind.u32 (val f (a + Int.toNat 8 + Int.toNat 8) (Int.toNat 4)))), (AV.int IntKind.u32 (IntKind.wrap IntKind.u32 (val f (a + Int.toNat 8 + Int.toNat 8 + Int.toNat 4) (Int.toNat 4))))])] [some (AObj.cells [(AV.osl (nl) (1) (0) (N) (N) (1) (true)), (AV.int IntKind.i64 ((↑(a + Int.toNat 8 + Int.toNat 8 + Int.toNat 4 + Int.toNat 4) : Int))), (AV.bool (false))] true), some (AObj.tarr [Sh.int IntKind.u8] (N) f false)]))) none)
  none) none) none) none)) none)
  none) none) none) none)) none)
  none) none) none) none))
  none)
  none)
  none) none) none) := by kernel_rfl
theorem k37_eq (nl : Bool) (a : Nat) (N : Nat) (f : Nat → Nat → AV) : k37 nl a N f k37_p = (cond (okB f (N))
  (cond (Nat.ble a N)
  (cond (Nat.ble N 1000000)
  (cond (Nat.blt N (a + Int.toNat 8))
  (some (CS.mk [(AV.agg [(AV.int IntKind.u64 (0)), (AV.int IntKind.u64 (0)), (AV.int IntKind.u32 (0)), (AV.int IntKind.u32 (0))])] [some (AObj.cells [(AV.osl (nl) (1) (0) (N) (N) (1) (true)), AV.bad, (AV.bool (true))] true), some (AObj.tarr [Sh.int IntKind.u8] (N) f false)]))
  (cond (Nat.ble (a + Int.toNat 8) N)
  (cond (Nat.blt N (a + Int.toNat 8 + Int.toNat 8))
  (some (CS.mk [(AV.agg [(AV.int IntKind.u64 ((val f (a) (8)))), (AV.int IntKind.u64 (0)), (AV.int IntKind.u32 (0)), (AV.int IntKind.u32 (0))])] [some (AObj.cells [(AV.osl (nl) (1) (0) (N) (N) (1) (true)), AV.bad, (AV.bool (true))] true), some (AObj.tarr [Sh.int IntKind.u8] (N) f false)]))
  (cond (Nat.ble (a + Int.toNat 8 + Int.toNat 8) N)
  (cond (Nat.blt N (a + Int.toNat 8 + Int.toNat 8 + Int.toNat 4))
  (some (CS.mk [(AV.agg [(AV.int IntKind.u64 ((val f (a) (8)))), (AV.int IntKind.u64 ((val f (a + Int.toNat 8) (8)))), (AV.int IntKind.u32 (0)), (AV.int IntKind.u32 (0))])] [some (AObj.cells [(AV.osl (nl) (1) (0) (N) (N) (1) (true)), AV.bad, (AV.bool (true))] true), some (AObj.tarr [Sh.int IntKind.u8] (N) f false)]))
  (cond (Nat.ble (a + Int.toNat 8 + Int.toNat 8 + Int.toNat 4) N)
  (cond (Nat.blt N (a + Int.toNat 8 + Int.toNat 8 + Int.toNat 4 + Int.toNat 4))
  (some (CS.mk [(AV.agg [(AV.int IntKind.u64 ((val f (a) (8)))), (AV.int IntKind.u64 ((val f (a + Int.toNat 8) (8)))), (AV.int IntKind.u32 (IntKind.wrap IntKind.u32 (val f (a + Int.toNat 8 + Int.toNat 8) (Int.toNat 4)))), (AV.int IntKind.u32 (0))])] [some (AObj.cells [(AV.osl (nl) (1) (0) (N) (N) (1) (true)), AV.bad, (AV.bool (true))] true), some (AObj.tarr [Sh.int IntKind.u8] (N) f false)]))
  (some (CS.mk [(AV.agg [(AV.int IntKind.u64 ((val f (a) (8)))), (AV.int IntKind.u64 ((val f (a + Int.toNat 8) (8)))), (AV.int IntKind.u32 (IntKind.wrap IntKind.u32 (val f (a + Int.toNat 8 + Int.toNat 8) (Int.toNat 4)))), (AV.int IntKind.u32 (IntKind.wrap IntKind.u32 (val f (a + Int.toNat 8 + Int.toNat 8 + Int.toNat 4) (Int.toNat 4))))])] [some (AObj.cells [(AV.osl (nl) (1) (0) (N) (N) (1) (true)), (AV.int IntKind.i64 ((↑(a + Int.toNat 8 + Int.toNat 8 + Int.toNat 4 + Int.toNat 4) : Int))), (AV.bool (false))] true), some (AObj.tarr [Sh.int IntKind.u8] (N) f false)])))
  none))
  none))
  none))
  none)
  none)
  none) := by
  rw [k37_is]
  try simp only [eq_self, decide_true, beq_self_eq_true, Nat.beq_refl, ble_self, Int.le_refl, Nat.le_refl]
  cases (okB f (N)) with
  | true =>
    cases (Nat.ble a N) with
    | true =>
      cases (Nat.ble N 1000000) with
      | true =>
        cases (Nat.blt N (a + Int.toNat 8)) with
        | true =>
          rfl
        | false =>
          cases (Nat.ble (a + Int.toNat 8) N) with
          | true =>
            cases (Nat.blt N (a + Int.toNat 8 + Int.toNat 8)) with
            | true =>
              rfl
            | false =>
              cases (Nat.ble (a + Int.toNat 8 + Int.toNat 8) N) with
              | true =>
                cases (Nat.blt N (a + Int.toNat 8 + Int.toNat 8 + Int.toNat 4)) with
                | true =>
                  rfl
                | false =>
                  cases (Nat.ble (a + Int.toNat 8 + Int.toNat 8 + Int.toNat 4) N) with
                  | true =>
                    cases (Nat.blt N (a + Int.toNat 8 + Int.toNat 8 + Int.toNat 4 + Int.toNat 4)) with
                    | true =>
                      rfl
                    | false =>
                      rfl
                  | false =>
                    rfl
              | false =>
                rfl
          | false =>
            rfl
      | false =>
        rfl
    | false =>
      rfl
  | false =>
    rfl

noncomputable def k37f (nl : Bool) (N : Nat) (f : Nat → Nat → AV) (π : Plan) : Option CS := callC (F4) (1000) (37) (1) (.keep) ([pRR]) π (rb nl N f)
def k37f_p : Plan := (.reck 2 (.must true (.must true (.reck 3 (.must true (.must true (.reck 3 (.must true (.must true (.reck 3 (.must true (.must true .stop))))))))))))
theorem k37f_is (nl : Bool) (N : Nat) (f : Nat → Nat → AV) : k37f nl N f k37f_p = (cond (decide (N = N)) (cond (decide (N = N)) (cond (decide (N = N)) (cond (decide (N = N)) (cond (decide (N = N)) (cond (decide (N = N)) (cond (decide (N = N)) (cond (decide (N = N)) (some (CS.mk [(AV.agg [(AV.int IntKind.u64 (0)), (AV.int IntKind.u64 (0)), (AV.int IntKind.u32 (0)), (AV.int IntKind.u32 (0))])] [some (AObj.cells [(AV.osl (nl) (1) (0) (N) (N) (1) (true)), AV.bad, (AV.bool (true))] true), some (AObj.tarr [Sh.int IntKind.u8] (N) f false)])) none) none) none) none) none) none) none) none) := by kernel_rfl
theorem k37f_eq (nl : Bool) (N : Nat) (f : Nat → Nat → AV) : k37f nl N f k37f_p = (some (CS.mk [(AV.agg [(AV.int IntKind.u64 (0)), (AV.int IntKind.u64 (0)), (AV.int IntKind.u32 (0)), (AV.int IntKind.u32 (0))])] [some (AObj.cells [(AV.osl (nl) (1) (0) (N) (N) (1) (true)), AV.bad, (AV.bool (true))] true), some (AObj.tarr [Sh.int IntKind.u8] (N) f false)])) := by
  rw [k37f_is]
  try simp only [eq_self, decide_true, beq_self_eq_true, Nat.beq_refl, ble_self, Int.le_refl, Nat.le_refl]
  rfl
end Go.Proofs.Ytjbjjikdihghmaa.entry
