/- Entries, read: what the machine reckons. -/
import Derived.Test.YtjbjjikdihghmaaRdE
set_option linter.unusedSimpArgs false
set_option linter.unusedVariables false
set_option maxRecDepth 20000
namespace Go.Proofs.Ytjbjjikdihghmaa.entry
open Go Go.RowKit Go.Proofs.Ytjbjjikdihghmaa.Bm
def tlen (f : Nat → Nat → AV) (off : Nat) : Nat := (val f (off + 49) 2).toNat
def bnum (f : Nat → Nat → AV) (off : Nat) : Nat := (val f (off + (51 + tlen f off)) 1).toNat
def eEnd (f : Nat → Nat → AV) (off : Nat) : Nat := off + (51 + (tlen f off + (1 + 24 * bnum f off)))
theorem entE : ∃ q : (Nat → Nat → AV) → Nat → Nat → Bool, q = fun f off N => decide (off + 51 ≤ N) && (decide (tlen f off ≤ 16384) && (decide (off + (51 + (tlen f off + 1)) ≤ N) && (decide (bnum f off ≤ 64) && decide (eEnd f off ≤ N)))) := ⟨_, rfl⟩
/-- Does an entry stand there (not unfolded by the kernel). -/
noncomputable def entOK : (Nat → Nat → AV) → Nat → Nat → Bool := Classical.choose entE
theorem entOK_eq (f : Nat → Nat → AV) (off N : Nat) : entOK f off N = (decide (off + 51 ≤ N) && (decide (tlen f off ≤ 16384) && (decide (off + (51 + (tlen f off + 1)) ≤ N) && (decide (bnum f off ≤ 64) && decide (eEnd f off ≤ N))))) := by
  rw [show entOK = _ from Classical.choose_spec entE]
/-- The entry. -/
def eVal (f : Nat → Nat → AV) (off : Nat) (b : AV) : AV := .agg [.int .u64 (val f off 8), .int .u64 (val f (off + 8) 8), .int .u64 (val f (off + 16) 8), .int .i64 (IntKind.wrap .i64 (val f (off + 24) 1)), .int .u64 (val f (off + 25) 8), .int .u64 (val f (off + 33) 8),
  .int .u32 (IntKind.wrap .u32 (val f (off + 41) 4)), .int .u32 (IntKind.wrap .u32 (val f (off + 45) 4)), .str (strV f (off + 51) (tlen f off)), b]
def eZero : AV := .agg [.int .u64 0, .int .u64 0, .int .u64 0, .int .i64 0, .int .u64 0, .int .u64 0, .int .u32 0, .int .u32 0, .str [], .nilSlice]
noncomputable def q14oB  (nl : Bool) (off : Nat) (N : Nat) (f : Nat → Nat → AV) : T (CS) :=
  chkT [okB f N, Nat.ble off N, Nat.ble N 1000000, cond nl (Nat.beq N 0) true] (.ask (entOK f off N) (.ask (Nat.beq (bnum f off) 0) (.ret ⟨[eVal f off .nilSlice], [some (.cells [.osl nl 1 (eEnd f off) (N - (eEnd f off)) (N - (eEnd f off)) 1 true, .bool false] true)] ++ [some (.tarr shB N f false)]⟩) (.ret ⟨[eVal f off (.tsl 1 0 (bnum f off) (bnum f off) 4 true)], [some (.cells [.osl nl 2 (eEnd f off) (N - (eEnd f off)) (N - (eEnd f off)) 1 true, .bool false] true)] ++ [some (.tarr shL (bnum f off) (lookF f (off + (51 + (tlen f off + 1)))) true), some (.tarr shB N f false)]⟩)) (.ret ⟨[eZero], failP⟩))
noncomputable def q14o  (c : CS) : T (CS) := match c with
  | ⟨[.ptr 0 0], [some (.cells [.osl nl 1 off z_1 z_2 1 true, .bool z_3] true), some (.tarr sh_4 N f false)]⟩ => chkT [decide ((N - off) = z_1), decide ((N - off) = z_2), decide (false = z_3), shBeq sh_4 shB] (q14oB  nl off N f)
  | _ => .fail
noncomputable def q15oB  (nl : Bool) (a : Nat) (N : Nat) (f : Nat → Nat → AV) : T (CS) :=
  chkT [okB f N, Nat.ble a N, Nat.ble N 1000000] (.ask (entOK f a N) (.ask (Nat.beq (bnum f a) 0) (.ret ⟨[eVal f a .nilSlice], [some (.cells [.osl nl 1 0 N N 1 true, .int .i64 ((eEnd f a) : Nat), .bool false] true)] ++ [some (.tarr shB N f false)]⟩) (.ret ⟨[eVal f a (.tsl 1 0 (bnum f a) (bnum f a) 4 true)], [some (.cells [.osl nl 2 0 N N 1 true, .int .i64 ((eEnd f a) : Nat), .bool false] true)] ++ [some (.tarr shL (bnum f a) (lookF f (a + (51 + (tlen f a + 1)))) true), some (.tarr shB N f false)]⟩)) (.ret ⟨[eZero], rdX nl N f⟩))
noncomputable def q15o  (c : CS) : T (CS) := match c with
  | ⟨[.ptr 0 0], [some (.cells [.osl nl 1 0 N z_1 1 true, .int .i64 (.ofNat a), .bool z_2] true), some (.tarr sh_3 z_4 f false)]⟩ => chkT [decide (N = z_1), decide (false = z_2), shBeq sh_3 shB, decide (N = z_4)] (q15oB  nl a N f)
  | _ => .fail
noncomputable def F8 : Env := addF (addF F7 14 ⟨fiRun [.keep] [pR] 1 q14o⟩) 15 ⟨fiRun [.keep] [pRR] 1 q15o⟩
noncomputable def k14 (nl : Bool) (off : Nat) (N : Nat) (f : Nat → Nat → AV) (π : Plan) : Option CS := callC (F7) (1000) (14) (1) (.keep) ([pR]) π (rk nl off N f)
def k14_p : Plan := (.must true (.must true (.reck 4 (.fork (.fork (.fork (.fork .stop (.must true (.must true (.reck 4 (.must true (.fork (.must true (.fork .stop (.must true (.must true (.reck 4 (.must true (.fork (.must true (.fork .stop (.must true (.must true (.reck 4 (.must true (.fork (.must true (.fork .stop (.must true (.must true (.reck 2 (.must true (.fork (.must true (.fork .stop (.fork (.reck 9 (.must true .stop)) (.fork (.reck 7 (.must true (.must true (.must true .stop)))) (.fork (.reck 1 (.must true (.reck 1 (.must true (.reck 1 (.must true (.reck 1 (.must true (.must true (.must true .stop)))))))))) (.must true (.must true (.must true (.must true (.must true (.must true (.must true (.must true (.must true (.must true (.must true (.reck 2 (.must true (.fork (.must true (.fork (.fork .stop (.fork .stop (.fork .stop (.must true (.must true (.reck 4 (.must true (.fork (.must true (.fork .stop (.fork .stop (.reck 1 (.must true (.must true (.reck 2 (.must true (.fork (.must true (.must true (.fork .stop (.fork .stop .stop)))) .stop))))))))) .stop)))))))) .stop)) .stop))))))))))))))))))) .stop))))))) .stop))))))) .stop))))))) .stop)))))) .stop) .stop) .stop))))
theorem k14_is (nl : Bool) (off : Nat) (N : Nat) (f : Nat → Nat → AV) : k14 nl off N f k14_p = (cond (decide (N - off = N - off)) (cond (decide (N - off = N - off)) (cond ((okB f (N)))
  (cond (Nat.ble off N)
  (cond (Nat.ble N 1000000)
  (cond (Nat.blt N (off + Int.toNat 8))
  (some (CS.mk [(AV.agg [(AV.int IntKind.u64 (0)), (AV.int IntKind.u64 (0)), (AV.int IntKind.u64 (0)), (AV.int IntKind.i64 (0)), (AV.int IntKind.u64 (0)), (AV.int IntKind.u64 (0)), (AV.int IntKind.u32 (0)), (AV.int IntKind.u32 (0)), (AV.str (bytesOf { data := #[] })), AV.nilSlice])] [some (AObj.cells [(AV.osl (true) (1) (0) (0) (0) (1) (true)), (AV.bool (true))] true), some (AObj.tarr [Sh.int IntKind.u8] (0) (fun p_ q_ => AV.bad) true)]))
  (cond (decide (N - (off + Int.toNat 8) = N - (off + Int.toNat 8))) (cond (decide (N - (off + Int.toNat 8) = N - (off + Int.toNat 8))) (cond ((okB f (N))) (cond (Nat.ble (off + Int.toNat 8) N)
  (cond (Nat.ble N 1000000) (cond (Nat.blt N (off + Int.toNat 8 + Int.toNat 8))
  (some (CS.mk [(AV.agg [(AV.int IntKind.u64 (0)), (AV.int IntKind.u64 (0)), (AV.int IntKind.u64 (0)), (AV.int IntKind.i64 (0)), (AV.int IntKind.u64 (0)), (AV.int IntKind.u64 (0)), (AV.int IntKind.u32 (0)), (AV.int IntKind.u32 (0)), (AV.str (bytesOf { data := #[] })), AV.nilSlice])] [some (AObj.cells [(AV.osl (true) (1) (0) (0) (0) (1) (true)), (AV.bool (true))] true), some (AObj.tarr [Sh.int IntKind.u8] (0) (fun p_ q_ => AV.bad) true)]))
  (cond (decide (N - (off + Int.toNat 8 + Int.toNat 8) = N - (off + Int.toNat 8 + Int.toNat 8))) (cond (decide (N - (off + Int.toNat 8 + Int.toNat 8) = N - (off + Int.toNat 8 + Int.toNat 8))) (cond ((okB f (N))) (cond (Nat.ble (off + Int.toNat 8 + Int.toNat 8) N)
  (cond (Nat.ble N 1000000) (cond (Nat.blt N (off + Int.toNat 8 + Int.toNat 8 + Int.toNat 8))
  (some (CS.mk [(AV.agg [(AV.int IntKind.u64 (0)), (AV.int IntKind.u64 (0)), (AV.int IntKind.u64 (0)), (AV.int IntKind.i64 (0)), (AV.int IntKind.u64 (0)), (AV.int IntKind.u64 (0)), (AV.int IntKind.u32 (0)), (AV.int IntKind.u32 (0)), (AV.str (bytesOf { data := #[] })), AV.nilSlice])] [some (AObj.cells [(AV.osl (true) (1) (0) (0) (0) (1) (true)), (AV.bool (true))] true), some (AObj.tarr [Sh.int IntKind.u8] (0) (fun p_ q_ => AV.bad) true)]))
  (cond (decide (N - (off + Int.toNat 8 + Int.toNat 8 + Int.toNat 8) = N - (off + Int.toNat 8 + Int.toNat 8 + Int.toNat 8))) (cond (decide (N - (off + Int.toNat 8 + Int.toNat 8 + Int.toNat 8) = N - (off + Int.toNat 8 + Int.toNat 8 + Int.toNat 8))) (cond ((okB f (N))) (cond (Nat.ble (off + Int.toNat 8 + Int.toNat 8 + Int.toNat 8) N)
  (cond (Nat.ble N 1000000) (cond (Nat.blt N (off + Int.toNat 8 + Int.toNat 8 + Int.toNat 8 + Int.toNat 1))
  (some (CS.mk [(AV.agg [(AV.int IntKind.u64 (0)), (AV.int IntKind.u64 (0)), (AV.int IntKind.u64 (0)), (AV.int IntKind.i64 (0)), (AV.int IntKind.u64 (0)), (AV.int IntKind.u64 (0)), (AV.int IntKind.u32 (0)), (AV.int IntKind.u32 (0)), (AV.str (bytesOf { data := #[] })), AV.nilSlice])] [some (AObj.cells [(AV.osl (true) (1) (0) (0) (0) (1) (true)), (AV.bool (true))] true), some (AObj.tarr [Sh.int IntKind.u8] (0) (fun p_ q_ => AV.bad) true)]))
  (cond (decide (N - (off + Int.toNat 8 + Int.toNat 8 + Int.toNat 8 + Int.toNat 1) = N - (off + Int.toNat 8 + Int.toNat 8 + Int.toNat 8 + Int.toNat 1))) (cond (decide (N - (off + Int.toNat 8 + Int.toNat 8 + Int.toNat 8 + Int.toNat 1) = N - (off + Int.toNat 8 + Int.toNat 8 + Int.toNat 8 + Int.toNat 1))) (cond ((okB f (N))) (cond (Nat.ble (off + Int.toNat 8 + Int.toNat 8 + Int.toNat 8 + Int.toNat 1) N)
  (cond (Nat.ble N 1000000) (cond (Nat.blt N (off + Int.toNat 8 + Int.toNat 8 + Int.toNat 8 + Int.toNat 1 + 8))
  (some (CS.mk [(AV.agg [(AV.int IntKind.u64 (0)), (AV.int IntKind.u64 (0)), (AV.int IntKind.u64 (0)), (AV.int IntKind.i64 (0)), (AV.int IntKind.u64 (0)), (AV.int IntKind.u64 (0)), (AV.int IntKind.u32 (0)), (AV.int IntKind.u32 (0)), (AV.str (bytesOf { data := #[] })), AV.nilSlice])] [some (AObj.cells [(AV.osl (true) (1) (0) (0) (0) (1) (true)), (AV.bool (true))] true), some (AObj.tarr [Sh.int IntKind.u8] (0) (fun p_ q_ => AV.bad) true)]))
  (cond (Nat.blt N (off + Int.toNat 8 + Int.toNat 8 + Int.toNat 8 + Int.toNat 1 + 16))
  (cond (decide (val f (off + Int.toNat 8 + Int.toNat 8 + Int.toNat 8 + Int.toNat 1) 8 = val f (off + Int.toNat 8 + Int.toNat 8 + Int.toNat 8 + Int.toNat 1) 8)) (some (CS.mk [(AV.agg [(AV.int IntKind.u64 (0)), (AV.int IntKind.u64 (0)), (AV.int IntKind.u64 (0)), (AV.int IntKind.i64 (0)), (AV.int IntKind.u64 (0)), (AV.int IntKind.u64 (0)), (AV.int IntKind.u32 (0)), (AV.int IntKind.u32 (0)), (AV.str (bytesOf { data := #[] })), AV.nilSlice])] [some (AObj.cells [(AV.osl (true) (1) (0) (0) (0) (1) (true)), (AV.bool (true))] true), some (AObj.tarr [Sh.int IntKind.u8] (0) (fun p_ q_ => AV.bad) true)])) none)
  (cond (Nat.blt N (off + Int.toNat 8 + Int.toNat 8 + Int.toNat 8 + Int.toNat 1 + 20))
  (cond (decide (val f (off + Int.toNat 8 + Int.toNat 8 + Int.toNat 8 + Int.toNat 1 + 8) 8 = val f (off + Int.toNat 8 + Int.toNat 8 + Int.toNat 8 + Int.toNat 1 + 8) 8)) (cond (decide (val f (off + Int.toNat 8 + Int.toNat 8 + Int.toNat 8 + Int.toNat 1 + 8) 8 = val f (off + Int.toNat 8 + Int.toNat 8 + Int.toNat 8 + Int.toNat 1 + 8) 8)) (cond (decide (val f (off + Int.toNat 8 + Int.toNat 8 + Int.toNat 8 + Int.toNat 1) 8 = val f (off + Int.toNat 8 + Int.toNat 8 + Int.toNat 8 + Int.toNat 1) 8)) (some (CS.mk [(AV.agg [(AV.int IntKind.u64 (0)), (AV.int IntKind.u64 (0)), (AV.int IntKind.u64 (0)), (AV.int IntKind.i64 (0)), (AV.int IntKind.u64 (0)), (AV.int IntKind.u64 (0)), (AV.int IntKind.u32 (0)), (AV.int IntKind.u32 (0)), (AV.str (bytesOf { data := #[] })), AV.nilSlice])] [some (AObj.cells [(AV.osl (true) (1) (0) (0) (0) (1) (true)), (AV.bool (true))] true), some (AObj.tarr [Sh.int IntKind.u8] (0) (fun p_ q_ => AV.bad) true)])) none) none) none)
  (cond (Nat.blt N (off + Int.toNat 8 + Int.toNat 8 + Int.toNat 8 + Int.toNat 1 + 24))
  (cond (decide (IntKind.wrap IntKind.u32 (val f (off + Int.toNat 8 + Int.toNat 8 + Int.toNat 8 + Int.toNat 1 + 16) 4) = IntKind.wrap IntKind.u32 (val f (off + Int.toNat 8 + Int.toNat 8 + Int.toNat 8 + Int.toNat 1 + 16) 4))) (cond (decide (IntKind.wrap IntKind.u32 (val f (off + Int.toNat 8 + Int.toNat 8 + Int.toNat 8 + Int.toNat 1 + 16) 4) = IntKind.wrap IntKind.u32 (val f (off + Int.toNat 8 + Int.toNat 8 + Int.toNat 8 + Int.toNat 1 + 16) 4))) (cond (decide (IntKind.wrap IntKind.u32 (val f (off + Int.toNat 8 + Int.toNat 8 + Int.toNat 8 + Int.toNat 1 + 16) 4) = IntKind.wrap IntKind.u32 (val f (off + Int.toNat 8 + Int.toNat 8 + Int.toNat 8 + Int.toNat 1 + 16) 4))) (cond (decide (val f (off + Int.toNat 8 + Int.toNat 8 + Int.toNat 8 + Int.toNat 1 + 8) 8 = val f (off + Int.toNat 8 + Int.toNat 8 + Int.toNat 8 + Int.toNat 1 + 8) 8)) (cond (decide (val f (off + Int.toNat 8 + Int.toNat 8 + Int.toNat 8 + Int.toNat 1 + 8) 8 = val f (off + Int.toNat 8 + Int.toNat 8 + Int.toNat 8 + Int.toNat 1 + 8) 8)) (cond (decide (val f (off + Int.toNat 8 + Int.toNat 8 + Int.toNat 8 + Int.toNat 1) 8 = val f (off + Int.toNat 8 + Int.toNat 8 + Int.toNat 8 + Int.toNat 1) 8)) (some (CS.mk [(AV.agg [(AV.int IntKind.u64 (0)), (AV.int IntKind.u64 (0)), (AV.int IntKind.u64 (0)), (AV.int IntKind.i64 (0)), (AV.int IntKind.u64 (0)), (AV.int IntKind.u64 (0)), (AV.int IntKind.u32 (0)), (AV.int IntKind.u32 (0)), (AV.str (bytesOf { data := #[] })), AV.nilSlice])] [some (AObj.cells [(AV.osl (true) (1) (0) (0) (0) (1) (true)), (AV.bool (true))] true), some (AObj.tarr [Sh.int IntKind.u8] (0) (fun p_ q_ => AV.bad) true)])) none) none) none) none) none) none)
  (cond (decide (IntKind.wrap IntKind.u32 (val f (off + Int.toNat 8 + Int.toNat 8 + Int.toNat 8 + Int.toNat 1 + 16) 4) = IntKind.wrap IntKind.u32 (val f (off + Int.toNat 8 + Int.toNat 8 + Int.toNat 8 + Int.toNat 1 + 16) 4))) (cond (decide (IntKind.wrap IntKind.u32 (val f (off + Int.toNat 8 + Int.toNat 8 + Int.toNat 8 + Int.toNat 1 + 20) 4) = IntKind.wrap IntKind.u32 (val f (off + Int.toNat 8 + Int.toNat 8 + Int.toNat 8 + Int.toNat 1 + 20) 4))) (cond (decide (IntKind.wrap IntKind.u32 (val f (off + Int.toNat 8 + Int.toNat 8 + Int.toNat 8 + Int.toNat 1 + 16) 4) = IntKind.wrap IntKind.u32 (val f (off + Int.toNat 8 + Int.toNat 8 + Int.toNat 8 + Int.toNat 1 + 16) 4))) (cond (decide (IntKind.wrap IntKind.u32 (val f (off + Int.toNat 8 + Int.toNat 8 + Int.toNat 8 + Int.toNat 1 + 20) 4) = IntKind.wrap IntKind.u32 (val f (off + Int.toNat 8 + Int.toNat 8 + Int.toNat 8 + Int.toNat 1 + 20) 4))) (cond (decide (IntKind.wrap IntKind.u32 (val f (off + Int.toNat 8 + Int.toNat 8 + Int.toNat 8 + Int.toNat 1 + 16) 4) = IntKind.wrap IntKind.u32 (val f (off + Int.toNat 8 + Int.toNat 8 + Int.toNat 8 + Int.toNat 1 + 16) 4))) (cond (decide (IntKind.wrap IntKind.u32 (val f (off + Int.toNat 8 + Int.toNat 8 + Int.toNat 8 + Int.toNat 1 + 20) 4) = IntKind.wrap IntKind.u32 (val f (off + Int.toNat 8 + Int.toNat 8 + Int.toNat 8 + Int.toNat 1 + 20) 4))) (cond (decide (val f (off + Int.toNat 8 + Int.toNat 8 + Int.toNat 8 + Int.toNat 1 + 8) 8 = val f (off + Int.toNat 8 + Int.toNat 8 + Int.toNat 8 + Int.toNat 1 + 8) 8)) (cond (decide (val f (off + Int.toNat 8 + Int.toNat 8 + Int.toNat 8 + Int.toNat 1 + 8) 8 = val f (off + Int.toNat 8 + Int.toNat 8 + Int.toNat 8 + Int.toNat 1 + 8) 8)) (cond (decide (val f (off + Int.toNat 8 + Int.toNat 8 + Int.toNat 8 + Int.toNat 1) 8 = val f (off + Int.toNat 8 + Int.toNat 8 + Int.toNat 8 + Int.toNat 1) 8)) (cond (decide (N - (off + Int.toNat 8 + Int.toNat 8 + Int.toNat 8 + Int.toNat 1 + 24) = N - (off + Int.toNat 8 + Int.toNat 8 + Int.toNat 8 + Int.toNat 1 + 24))) (cond (decide (N - (off + Int.toNat 8 + Int.toNat 8 + Int.toNat 8 + Int.toNat 1 + 24) = N - (off + Int.toNat 8 + Int.toNat 8 + Int.toNat 8 + Int.toNat 1 + 24))) (cond ((okB f (N))) (cond (Nat.ble (off + Int.toNat 8 + Int.toNat 8 + Int.toNat 8 + Int.toNat 1 + 24) N)
  (cond (Nat.ble N 1000000) (cond (bif nl then Nat.beq N 0 else true)
  (cond (Nat.blt N (off + Int.toNat 8 + Int.toNat 8 + Int.toNat 8 + Int.toNat 1 + 24 + 2))
  (some (CS.mk [(AV.agg [(AV.int IntKind.u64 (0)), (AV.int IntKind.u64 (0)), (AV.int IntKind.u64 (0)), (AV.int IntKind.i64 (0)), (AV.int IntKind.u64 (0)), (AV.int IntKind.u64 (0)), (AV.int IntKind.u32 (0)), (AV.int IntKind.u32 (0)), (AV.str (bytesOf { data := #[] })), AV.nilSlice])] [some (AObj.cells [(AV.osl (true) (1) (0) (0) (0) (1) (true)), (AV.bool (true))] true), some (AObj.tarr [Sh.int IntKind.u8] (0) (fun p_ q_ => AV.bad) true)]))
  (cond (decide (val f (off + Int.toNat 8 + Int.toNat 8 + Int.toNat 8 + Int.toNat 1 + 24) 2 > 16384))
  (some (CS.mk [(AV.agg [(AV.int IntKind.u64 (0)), (AV.int IntKind.u64 (0)), (AV.int IntKind.u64 (0)), (AV.int IntKind.i64 (0)), (AV.int IntKind.u64 (0)), (AV.int IntKind.u64 (0)), (AV.int IntKind.u32 (0)), (AV.int IntKind.u32 (0)), (AV.str (bytesOf { data := #[] })), AV.nilSlice])] [some (AObj.cells [(AV.osl (true) (1) (0) (0) (0) (1) (true)), (AV.bool (true))] true), some (AObj.tarr [Sh.int IntKind.u8] (0) (fun p_ q_ => AV.bad) true)]))
  (cond (Nat.blt N (off + Int.toNat 8 + Int.toNat 8 + Int.toNat 8 + Int.toNat 1 + 24 + 2 + Int.toNat (val f (off + Int.toNat 8 + Int.toNat 8 + Int.toNat 8 + Int.toNat 1 + 24) 2)))
  (some (CS.mk [(AV.agg [(AV.int IntKind.u64 (0)), (AV.int IntKind.u64 (0)), (AV.int IntKind.u64 (0)), (AV.int IntKind.i64 (0)), (AV.int IntKind.u64 (0)), (AV.int IntKind.u64 (0)), (AV.int IntKind.u32 (0)), (AV.int IntKind.u32 (0)), (AV.str (bytesOf { data := #[] })), AV.nilSlice])] [some (AObj.cells [(AV.osl (true) (1) (0) (0) (0) (1) (true)), (AV.bool (true))] true), some (AObj.tarr [Sh.int IntKind.u8] (0) (fun p_ q_ => AV.bad) true)]))
  (cond (decide (N - (off + Int.toNat 8 + Int.toNat 8 + Int.toNat 8 + Int.toNat 1 + 24 + 2 + Int.toNat (val f (off + Int.toNat 8 + Int.toNat 8 + Int.toNat 8 + Int.toNat 1 + 24) 2)) = N - (off + Int.toNat 8 + Int.toNat 8 + Int.toNat 8 + Int.toNat 1 + 24 + 2 + Int.toNat (val f (off + Int.toNat 8 + Int.toNat 8 + Int.toNat 8 + Int.toNat 1 + 24) 2)))) (cond (decide (N - (off + Int.toNat 8 + Int.toNat 8 + Int.toNat 8 + Int.toNat 1 + 24 + 2 + Int.toNat (val f (off + Int.toNat 8 + Int.toNat 8 + Int.toNat 8 + Int.toNat 1 + 24) 2)) = N - (off + Int.toNat 8 + Int.toNat 8 + Int.toNat 8 + Int.toNat 1 + 24 + 2 + Int.toNat (val f (off + Int.toNat 8 + Int.toNat 8 + Int.toNat 8 + Int.toNat 1 + 24) 2)))) (cond ((okB f (N))) (cond (Nat.ble (off + Int.toNat 8 + Int.toNat 8 + Int.toNat 8 + Int.toNat 1 + 24 + 2 + Int.toNat (val f (off + Int.toNat 8 + Int.toNat 8 + Int.toNat 8 + Int.toNat 1 + 24) 2)) N)
  (cond (Nat.ble N 1000000) (cond (Nat.blt N (off + Int.toNat 8 + Int.toNat 8 + Int.toNat 8 + Int.toNat 1 + 24 + 2 + Int.toNat (val f (off + Int.toNat 8 + Int.toNat 8 + Int.toNat 8 + Int.toNat 1 + 24) 2) + Int.toNat 1))
  (some (CS.mk [(AV.agg [(AV.int IntKind.u64 (0)), (AV.int IntKind.u64 (0)), (AV.int IntKind.u64 (0)), (AV.int IntKind.i64 (0)), (AV.int IntKind.u64 (0)), (AV.int IntKind.u64 (0)), (AV.int IntKind.u32 (0)), (AV.int IntKind.u32 (0)), (AV.str (bytesOf { data := #[] })), AV.nilSlice])] [some (AObj.cells [(AV.osl (true) (1) (0) (0) (0) (1) (true)), (AV.bool (true))] true), some (AObj.tarr [Sh.int IntKind.u8] (0) (fun p_ q_ => AV.bad) true)]))
  (cond (decide (IntKind.wrap IntKind.i64 (val f (off + Int.toNat 8 + Int.toNat 8 + Int.toNat 8 + Int.toNat 1 + 24 + 2 + Int.toNat (val f (off + Int.toNat 8 + Int.toNat 8 + Int.toNat 8 + Int.toNat 1 + 24) 2)) (Int.toNat 1)) > 64))
  (some (CS.mk [(AV.agg [(AV.int IntKind.u64 (0)), (AV.int IntKind.u64 (0)), (AV.int IntKind.u64 (0)), (AV.int IntKind.i64 (0)), (AV.int IntKind.u64 (0)), (AV.int IntKind.u64 (0)), (AV.int IntKind.u32 (0)), (AV.int IntKind.u32 (0)), (AV.str (bytesOf { data := #[] })), AV.nilSlice])] [some (AObj.cells [(AV.osl (true) (1) (0) (0) (0) (1) (true)), (AV.bool (true))] true), some (AObj.tarr [Sh.int IntKind.u8] (0) (fun p_ q_ => AV.bad) true)]))
  (cond (decide (N - (off + Int.toNat 8 + Int.toNat 8 + Int.toNat 8 + Int.toNat 1 + 24 + 2 + Int.toNat (val f (off + Int.toNat 8 + Int.toNat 8 + Int.toNat 8 + Int.toNat 1 + 24) 2) + Int.toNat 1) = N - (off + Int.toNat 8 + Int.toNat 8 + Int.toNat 8 + Int.toNat 1 + 24 + 2 + Int.toNat (val f (off + Int.toNat 8 + Int.toNat 8 + Int.toNat 8 + Int.toNat 1 + 24) 2) + Int.toNat 1))) (cond (decide (N - (off + Int.toNat 8 + Int.toNat 8 + Int.toNat 8 + Int.toNat 1 + 24 + 2 + Int.toNat (val f (off + Int.toNat 8 + Int.toNat 8 + Int.toNat 8 + Int.toNat 1 + 24) 2) + Int.toNat 1) = N - (off + Int.toNat 8 + Int.toNat 8 + Int.toNat 8 + Int.toNat 1 + 24 + 2 + Int.toNat (val f (off + Int.toNat 8 + Int.toNat 8 + Int.toNat 8 + Int.toNat 1 + 24) 2) + Int.toNat 1))) (cond ((okB f (N))) (cond (Nat.ble (off + Int.toNat 8 + Int.toNat 8 + Int.toNat 8 + Int.toNat 1 + 24 + 2 + Int.toNat (val f (off + Int.toNat 8 + Int.toNat 8 + Int.toNat 8 + Int.toNat 1 + 24) 2) + Int.toNat 1) N)
  (cond (Nat.ble N 1000000) (cond (!decide (IntKind.wrap IntKind.i64 (val f (off + Int.toNat 8 + Int.toNat 8 + Int.toNat 8 + Int.toNat 1 + 24 + 2 + Int.toNat (val f (off + Int.toNat 8 + Int.toNat 8 + Int.toNat 8 + Int.toNat 1 + 24) 2)) (Int.toNat 1)) > 64)) (cond (Nat.beq (Int.toNat (IntKind.wrap IntKind.i64 (val f (off + Int.toNat 8 + Int.toNat 8 + Int.toNat 8 + Int.toNat 1 + 24 + 2 + Int.toNat (val f (off + Int.toNat 8 + Int.toNat 8 + Int.toNat 8 + Int.toNat 1 + 24) 2)) (Int.toNat 1)))) 0)
  (some (CS.mk [(AV.agg [(AV.int IntKind.u64 ((val f (off) (8)))), (AV.int IntKind.u64 ((val f (off + Int.toNat 8) (8)))), (AV.int IntKind.u64 ((val f (off + Int.toNat 8 + Int.toNat 8) (8)))), (AV.int IntKind.i64 (IntKind.wrap IntKind.i64 (val f (off + Int.toNat 8 + Int.toNat 8 + Int.toNat 8) (Int.toNat 1)))), (AV.int IntKind.u64 ((val f (off + Int.toNat 8 + Int.toNat 8 + Int.toNat 8 + Int.toNat 1) (8)))), (AV.int IntKind.u64 ((val f (off + Int.toNat 8 + Int.toNat 8 + Int.toNat 8 + Int.toNat 1 + 8) (8)))), (AV.int IntKind.u32 (IntKind.wrap IntKind.u32 (val f (off + Int.toNat 8 + Int.toNat 8 + Int.toNat 8 + Int.toNat 1 + 16) 4))), (AV.int IntKind.u32 (IntKind.wrap IntKind.u32 (val f (off + Int.toNat 8 + Int.toNat 8 + Int.toNat 8 + Int.toNat 1 + 20) 4))), (AV.str ((strV f (off + Int.toNat 8 + Int.toNat 8 + Int.toNat 8 + Int.toNat 1 + 24 + 2) (Int.toNat (val f (off + Int.toNat 8 + Int.toNat 8 + Int.toNat 8 + Int.toNat 1 + 24) 2))))), AV.nilSlice])] [some (AObj.cells [(AV.osl (nl) (1) (off + Int.toNat 8 + Int.toNat 8 + Int.toNat 8 + Int.toNat 1 + 24 + 2 + Int.toNat (val f (off + Int.toNat 8 + Int.toNat 8 + Int.toNat 8 + Int.toNat 1 + 24) 2) + Int.toNat 1) (N - (off + Int.toNat 8 + Int.toNat 8 + Int.toNat 8 + Int.toNat 1 + 24 + 2 + Int.toNat (val f (off + Int.toNat 8 + Int.toNat 8 + Int.toNat 8 + Int.toNat 1 + 24) 2) + Int.toNat 1)) (N - (off + Int.toNat 8 + Int.toNat 8 + Int.toNat 8 + Int.toNat 1 + 24 + 2 + Int.toNat (val f (off + Int.toNat 8 + Int.toNat 8 + Int.toNat 8 + Int.toNat 1 + 24) 2) + Int.toNat 1)) (1) (true)), (AV.bool (false))] true), some (AObj.tarr [Sh.int IntKind.u8] (N) f false)]))
  (cond (Nat.blt N (off + Int.toNat 8 + Int.toNat 8 + Int.toNat 8 + Int.toNat 1 + 24 + 2 + Int.toNat (val f (off + Int.toNat 8 + Int.toNat 8 + Int.toNat 8 + Int.toNat 1 + 24) 2) + Int.toNat 1 + 24 * Int.toNat (IntKind.wrap IntKind.i64 (val f (off + Int.toNat 8 + Int.toNat 8 + Int.toNat 8 + Int.toNat 1 + 24 + 2 + Int.toNat (val f (off + Int.toNat 8 + Int.toNat 8 + Int.toNat 8 + Int.toNat 1 + 24) 2)) (Int.toNat 1)))))
  (some (CS.mk [(AV.agg [(AV.int IntKind.u64 (0)), (AV.int IntKind.u64 (0)), (AV.int IntKind.u64 (0)), (AV.int IntKind.i64 (0)), (AV.int IntKind.u64 (0)), (AV.int IntKind.u64 (0)), (AV.int IntKind.u32 (0)), (AV.int IntKind.u32 (0)), (AV.str (bytesOf { data := #[] })), AV.nilSlice])] [some (AObj.cells [(AV.osl (true) (1) (0) (0) (0) (1) (true)), (AV.bool (true))] true), some (AObj.tarr [Sh.int IntKind.u8] (0) (fun p_ q_ => AV.bad) true)]))
  (some (CS.mk [(AV.agg [(AV.int IntKind.u64 ((val f (off) (8)))), (AV.int IntKind.u64 ((val f (off + Int.toNat 8) (8)))), (AV.int IntKind.u64 ((val f (off + Int.toNat 8 + Int.toNat 8) (8)))), (AV.int IntKind.i64 (IntKind.wrap IntKind.i64 (val f (off + Int.toNat 8 + Int.toNat 8 + Int.toNat 8) (Int.toNat 1)))), (AV.int IntKind.u64 ((val f (off + Int.toNat 8 + Int.toNat 8 + Int.toNat 8 + Int.toNat 1) (8)))), (AV.int IntKind.u64 ((val f (off + Int.toNat 8 + Int.toNat 8 + Int.toNat 8 + Int.toNat 1 + 8) (8)))), (AV.int IntKind.u32 (IntKind.wrap IntKind.u32 (val f (off + Int.toNat 8 + Int.toNat 8 + Int.toNat 8 + Int.toNat 1 + 16) 4))), (AV.int IntKind.u32 (IntKind.wrap IntKind.u32 (val f (off + Int.toNat 8 + Int.toNat 8 + Int.toNat 8 + Int.toNat 1 + 20) 4))), (AV.str ((strV f (off + Int.toNat 8 + Int.toNat 8 + Int.toNat 8 + Int.toNat 1 + 24 + 2) (Int.toNat (val f (off + Int.toNat 8 + Int.toNat 8 + Int.toNat 8 + Int.toNat 1 + 24) 2))))), (AV.tsl (1) (0) (Int.toNat (IntKind.wrap IntKind.i64 (val f (off + Int.toNat 8 + Int.toNat 8 + Int.toNat 8 + Int.toNat 1 + 24 + 2 + Int.toNat (val f (off + Int.toNat 8 + Int.toNat 8 + Int.toNat 8 + Int.toNat 1 + 24) 2)) (Int.toNat 1)))) (Int.toNat (IntKind.wrap IntKind.i64 (val f (off + Int.toNat 8 + Int.toNat 8 + Int.toNat 8 + Int.toNat 1 + 24 + 2 + Int.toNat (val f (off + Int.toNat 8 + Int.toNat 8 + Int.toNat 8 + Int.toNat 1 + 24) 2)) (Int.toNat 1)))) (4) (true))])] [some (AObj.cells [(AV.osl (nl) (2) (off + Int.toNat 8 + Int.toNat 8 + Int.toNat 8 + Int.toNat 1 + 24 + 2 + Int.toNat (val f (off + Int.toNat 8 + Int.toNat 8 + Int.toNat 8 + Int.toNat 1 + 24) 2) + Int.toNat 1 + 24 * Int.toNat (IntKind.wrap IntKind.i64 (val f (off + Int.toNat 8 + Int.toNat 8 + Int.toNat 8 + Int.toNat 1 + 24 + 2 + Int.toNat (val f (off + Int.toNat 8 + Int.toNat 8 + Int.toNat 8 + Int.toNat 1 + 24) 2)) (Int.toNat 1)))) (N - (off + Int.toNat 8 + Int.toNat 8 + Int.toNat 8 + Int.toNat 1 + 24 + 2 + Int.toNat (val f (off + Int.toNat 8 + Int.toNat 8 + Int.toNat 8 + Int.toNat 1 + 24) 2) + Int.toNat 1 + 24 * Int.toNat (IntKind.wrap IntKind.i64 (val f (off + Int.toNat 8 + Int.toNat 8 + Int.toNat 8 + Int.toNat 1 + 24 + 2 + Int.toNat (val f (off + Int.toNat 8 + Int.toNat 8 + Int.toNat 8 + Int.toNat 1 + 24) 2)) (Int.toNat 1))))) (N - (off + Int.toNat 8 + Int.toNat 8 + Int.toNat 8 + Int.toNat 1 + 24 + 2 + Int.toNat (val f (off + Int.toNat 8 + Int.toNat 8 + Int.toNat 8 + Int.toNat 1 + 24) 2) + Int.toNat 1 + 24 * Int.toNat (IntKind.wrap IntKind.i64 (val f (off + Int.toNat 8 + Int.toNat 8 + Int.toNat 8 + Int.toNat 1 + 24 + 2 + Int.toNat (val f (off + Int.toNat 8 + Int.toNat 8 + Int.toNat 8 + Int.toNat 1 + 24) 2)) (Int.toNat 1))))) (1) (true)), (AV.bool (false))] true), some (AObj.tarr [Sh.int IntKind.u64, Sh.int IntKind.u64, Sh.int IntKind.u32, Sh.int IntKind.u32] (Int.toNat (IntKind.wrap IntKind.i64 (val f (off + Int.toNat 8 + Int.toNat 8 + Int.toNat 8 + Int.toNat 1 + 24 + 2 + Int.toNat (val f (off + Int.toNat 8 + Int.toNat 8 + Int.toNat 8 + Int.toNat 1 + 24) 2)) (Int.toNat 1)))) (lookF f (off + Int.toNat 8 + Int.toNat 8 + Int.toNat 8 + Int.toNat 1 + 24 + 2 + Int.toNat (val f (off + Int.toNat 8 + Int.toNat 8 + Int.toNat 8 + Int.toNat 1 + 24) 2) + Int.toNat 1)) true), some (AObj.tarr [Sh.int IntKind.u8] (N) f false)])))) none) none)
  none) none) none) none))) none)
  none) none) none) none))))
  none) none)
  none) none) none) none) none) none) none) none) none) none) none) none) none))))) none)
  none) none) none) none)) none)
  none) none) none) none)) none)
  none) none) none) none)) none)
  none) none) none) none))
  none)
  none)
  none) none) none) := by kernel_rfl
theorem k14_eq (nl : Bool) (off : Nat) (N : Nat) (f : Nat → Nat → AV) : k14 nl off N f k14_p = (cond (okB f (N))
  (cond (Nat.ble off N)
  (cond (Nat.ble N 1000000)
  (cond (Nat.blt N (off + Int.toNat 8))
  (some (CS.mk [(AV.agg [(AV.int IntKind.u64 (0)), (AV.int IntKind.u64 (0)), (AV.int IntKind.u64 (0)), (AV.int IntKind.i64 (0)), (AV.int IntKind.u64 (0)), (AV.int IntKind.u64 (0)), (AV.int IntKind.u32 (0)), (AV.int IntKind.u32 (0)), (AV.str (bytesOf { data := #[] })), AV.nilSlice])] [some (AObj.cells [(AV.osl (true) (1) (0) (0) (0) (1) (true)), (AV.bool (true))] true), some (AObj.tarr [Sh.int IntKind.u8] (0) (fun p_ q_ => AV.bad) true)]))
  (cond (Nat.ble (off + Int.toNat 8) N)
  (cond (Nat.blt N (off + Int.toNat 8 + Int.toNat 8))
  (some (CS.mk [(AV.agg [(AV.int IntKind.u64 (0)), (AV.int IntKind.u64 (0)), (AV.int IntKind.u64 (0)), (AV.int IntKind.i64 (0)), (AV.int IntKind.u64 (0)), (AV.int IntKind.u64 (0)), (AV.int IntKind.u32 (0)), (AV.int IntKind.u32 (0)), (AV.str (bytesOf { data := #[] })), AV.nilSlice])] [some (AObj.cells [(AV.osl (true) (1) (0) (0) (0) (1) (true)), (AV.bool (true))] true), some (AObj.tarr [Sh.int IntKind.u8] (0) (fun p_ q_ => AV.bad) true)]))
  (cond (Nat.ble (off + Int.toNat 8 + Int.toNat 8) N)
  (cond (Nat.blt N (off + Int.toNat 8 + Int.toNat 8 + Int.toNat 8))
  (some (CS.mk [(AV.agg [(AV.int IntKind.u64 (0)), (AV.int IntKind.u64 (0)), (AV.int IntKind.u64 (0)), (AV.int IntKind.i64 (0)), (AV.int IntKind.u64 (0)), (AV.int IntKind.u64 (0)), (AV.int IntKind.u32 (0)), (AV.int IntKind.u32 (0)), (AV.str (bytesOf { data := #[] })), AV.nilSlice])] [some (AObj.cells [(AV.osl (true) (1) (0) (0) (0) (1) (true)), (AV.bool (true))] true), some (AObj.tarr [Sh.int IntKind.u8] (0) (fun p_ q_ => AV.bad) true)]))
  (cond (Nat.ble (off + Int.toNat 8 + Int.toNat 8 + Int.toNat 8) N)
  (cond (Nat.blt N (off + Int.toNat 8 + Int.toNat 8 + Int.toNat 8 + Int.toNat 1))
  (some (CS.mk [(AV.agg [(AV.int IntKind.u64 (0)), (AV.int IntKind.u64 (0)), (AV.int IntKind.u64 (0)), (AV.int IntKind.i64 (0)), (AV.int IntKind.u64 (0)), (AV.int IntKind.u64 (0)), (AV.int IntKind.u32 (0)), (AV.int IntKind.u32 (0)), (AV.str (bytesOf { data := #[] })), AV.nilSlice])] [some (AObj.cells [(AV.osl (true) (1) (0) (0) (0) (1) (true)), (AV.bool (true))] true), some (AObj.tarr [Sh.int IntKind.u8] (0) (fun p_ q_ => AV.bad) true)]))
  (cond (Nat.ble (off + Int.toNat 8 + Int.toNat 8 + Int.toNat 8 + Int.toNat 1) N)
  (cond (Nat.blt N (off + Int.toNat 8 + Int.toNat 8 + Int.toNat 8 + Int.toNat 1 + 8))
  (some (CS.mk [(AV.agg [(AV.int IntKind.u64 (0)), (AV.int IntKind.u64 (0)), (AV.int IntKind.u64 (0)), (AV.int IntKind.i64 (0)), (AV.int IntKind.u64 (0)), (AV.int IntKind.u64 (0)), (AV.int IntKind.u32 (0)), (AV.int IntKind.u32 (0)), (AV.str (bytesOf { data := #[] })), AV.nilSlice])] [some (AObj.cells [(AV.osl (true) (1) (0) (0) (0) (1) (true)), (AV.bool (true))] true), some (AObj.tarr [Sh.int IntKind.u8] (0) (fun p_ q_ => AV.bad) true)]))
  (cond (Nat.blt N (off + Int.toNat 8 + Int.toNat 8 + Int.toNat 8 + Int.toNat 1 + 16))
  (some (CS.mk [(AV.agg [(AV.int IntKind.u64 (0)), (AV.int IntKind.u64 (0)), (AV.int IntKind.u64 (0)), (AV.int IntKind.i64 (0)), (AV.int IntKind.u64 (0)), (AV.int IntKind.u64 (0)), (AV.int IntKind.u32 (0)), (AV.int IntKind.u32 (0)), (AV.str (bytesOf { data := #[] })), AV.nilSlice])] [some (AObj.cells [(AV.osl (true) (1) (0) (0) (0) (1) (true)), (AV.bool (true))] true), some (AObj.tarr [Sh.int IntKind.u8] (0) (fun p_ q_ => AV.bad) true)]))
  (cond (Nat.blt N (off + Int.toNat 8 + Int.toNat 8 + Int.toNat 8 + Int.toNat 1 + 20))
  (some (CS.mk [(AV.agg [(AV.int IntKind.u64 (0)), (AV.int IntKind.u64 (0)), (AV.int IntKind.u64 (0)), (AV.int IntKind.i64 (0)), (AV.int IntKind.u64 (0)), (AV.int IntKind.u64 (0)), (AV.int IntKind.u32 (0)), (AV.int IntKind.u32 (0)), (AV.str (bytesOf { data := #[] })), AV.nilSlice])] [some (AObj.cells [(AV.osl (true) (1) (0) (0) (0) (1) (true)), (AV.bool (true))] true), some (AObj.tarr [Sh.int IntKind.u8] (0) (fun p_ q_ => AV.bad) true)]))
  (cond (Nat.blt N (off + Int.toNat 8 + Int.toNat 8 + Int.toNat 8 + Int.toNat 1 + 24))
  (some (CS.mk [(AV.agg [(AV.int IntKind.u64 (0)), (AV.int IntKind.u64 (0)), (AV.int IntKind.u64 (0)), (AV.int IntKind.i64 (0)), (AV.int IntKind.u64 (0)), (AV.int IntKind.u64 (0)), (AV.int IntKind.u32 (0)), (AV.int IntKind.u32 (0)), (AV.str (bytesOf { data := #[] })), AV.nilSlice])] [some (AObj.cells [(AV.osl (true) (1) (0) (0) (0) (1) (true)), (AV.bool (true))] true), some (AObj.tarr [Sh.int IntKind.u8] (0) (fun p_ q_ => AV.bad) true)]))
  (cond (Nat.ble (off + Int.toNat 8 + Int.toNat 8 + Int.toNat 8 + Int.toNat 1 + 24) N)
  (cond (bif nl then Nat.beq N 0 else true)
  (cond (Nat.blt N (off + Int.toNat 8 + Int.toNat 8 + Int.toNat 8 + Int.toNat 1 + 24 + 2))
  (some (CS.mk [(AV.agg [(AV.int IntKind.u64 (0)), (AV.int IntKind.u64 (0)), (AV.int IntKind.u64 (0)), (AV.int IntKind.i64 (0)), (AV.int IntKind.u64 (0)), (AV.int IntKind.u64 (0)), (AV.int IntKind.u32 (0)), (AV.int IntKind.u32 (0)), (AV.str (bytesOf { data := #[] })), AV.nilSlice])] [some (AObj.cells [(AV.osl (true) (1) (0) (0) (0) (1) (true)), (AV.bool (true))] true), some (AObj.tarr [Sh.int IntKind.u8] (0) (fun p_ q_ => AV.bad) true)]))
  (cond (decide (val f (off + Int.toNat 8 + Int.toNat 8 + Int.toNat 8 + Int.toNat 1 + 24) 2 > 16384))
  (some (CS.mk [(AV.agg [(AV.int IntKind.u64 (0)), (AV.int IntKind.u64 (0)), (AV.int IntKind.u64 (0)), (AV.int IntKind.i64 (0)), (AV.int IntKind.u64 (0)), (AV.int IntKind.u64 (0)), (AV.int IntKind.u32 (0)), (AV.int IntKind.u32 (0)), (AV.str (bytesOf { data := #[] })), AV.nilSlice])] [some (AObj.cells [(AV.osl (true) (1) (0) (0) (0) (1) (true)), (AV.bool (true))] true), some (AObj.tarr [Sh.int IntKind.u8] (0) (fun p_ q_ => AV.bad) true)]))
  (cond (Nat.blt N (off + Int.toNat 8 + Int.toNat 8 + Int.toNat 8 + Int.toNat 1 + 24 + 2 + Int.toNat (val f (off + Int.toNat 8 + Int.toNat 8 + Int.toNat 8 + Int.toNat 1 + 24) 2)))
  (some (CS.mk [(AV.agg [(AV.int IntKind.u64 (0)), (AV.int IntKind.u64 (0)), (AV.int IntKind.u64 (0)), (AV.int IntKind.i64 (0)), (AV.int IntKind.u64 (0)), (AV.int IntKind.u64 (0)), (AV.int IntKind.u32 (0)), (AV.int IntKind.u32 (0)), (AV.str (bytesOf { data := #[] })), AV.nilSlice])] [some (AObj.cells [(AV.osl (true) (1) (0) (0) (0) (1) (true)), (AV.bool (true))] true), some (AObj.tarr [Sh.int IntKind.u8] (0) (fun p_ q_ => AV.bad) true)]))
  (cond (Nat.ble (off + Int.toNat 8 + Int.toNat 8 + Int.toNat 8 + Int.toNat 1 + 24 + 2 + Int.toNat (val f (off + Int.toNat 8 + Int.toNat 8 + Int.toNat 8 + Int.toNat 1 + 24) 2)) N)
  (cond (Nat.blt N (off + Int.toNat 8 + Int.toNat 8 + Int.toNat 8 + Int.toNat 1 + 24 + 2 + Int.toNat (val f (off + Int.toNat 8 + Int.toNat 8 + Int.toNat 8 + Int.toNat 1 + 24) 2) + Int.toNat 1))
  (some (CS.mk [(AV.agg [(AV.int IntKind.u64 (0)), (AV.int IntKind.u64 (0)), (AV.int IntKind.u64 (0)), (AV.int IntKind.i64 (0)), (AV.int IntKind.u64 (0)), (AV.int IntKind.u64 (0)), (AV.int IntKind.u32 (0)), (AV.int IntKind.u32 (0)), (AV.str (bytesOf { data := #[] })), AV.nilSlice])] [some (AObj.cells [(AV.osl (true) (1) (0) (0) (0) (1) (true)), (AV.bool (true))] true), some (AObj.tarr [Sh.int IntKind.u8] (0) (fun p_ q_ => AV.bad) true)]))
  (cond (decide (IntKind.wrap IntKind.i64 (val f (off + Int.toNat 8 + Int.toNat 8 + Int.toNat 8 + Int.toNat 1 + 24 + 2 + Int.toNat (val f (off + Int.toNat 8 + Int.toNat 8 + Int.toNat 8 + Int.toNat 1 + 24) 2)) (Int.toNat 1)) > 64))
  (some (CS.mk [(AV.agg [(AV.int IntKind.u64 (0)), (AV.int IntKind.u64 (0)), (AV.int IntKind.u64 (0)), (AV.int IntKind.i64 (0)), (AV.int IntKind.u64 (0)), (AV.int IntKind.u64 (0)), (AV.int IntKind.u32 (0)), (AV.int IntKind.u32 (0)), (AV.str (bytesOf { data := #[] })), AV.nilSlice])] [some (AObj.cells [(AV.osl (true) (1) (0) (0) (0) (1) (true)), (AV.bool (true))] true), some (AObj.tarr [Sh.int IntKind.u8] (0) (fun p_ q_ => AV.bad) true)]))
  (cond (Nat.ble (off + Int.toNat 8 + Int.toNat 8 + Int.toNat 8 + Int.toNat 1 + 24 + 2 + Int.toNat (val f (off + Int.toNat 8 + Int.toNat 8 + Int.toNat 8 + Int.toNat 1 + 24) 2) + Int.toNat 1) N)
  (cond (Nat.beq (Int.toNat (IntKind.wrap IntKind.i64 (val f (off + Int.toNat 8 + Int.toNat 8 + Int.toNat 8 + Int.toNat 1 + 24 + 2 + Int.toNat (val f (off + Int.toNat 8 + Int.toNat 8 + Int.toNat 8 + Int.toNat 1 + 24) 2)) (Int.toNat 1)))) 0)
  (some (CS.mk [(AV.agg [(AV.int IntKind.u64 ((val f (off) (8)))), (AV.int IntKind.u64 ((val f (off + Int.toNat 8) (8)))), (AV.int IntKind.u64 ((val f (off + Int.toNat 8 + Int.toNat 8) (8)))), (AV.int IntKind.i64 (IntKind.wrap IntKind.i64 (val f (off + Int.toNat 8 + Int.toNat 8 + Int.toNat 8) (Int.toNat 1)))), (AV.int IntKind.u64 ((val f (off + Int.toNat 8 + Int.toNat 8 + Int.toNat 8 + Int.toNat 1) (8)))), (AV.int IntKind.u64 ((val f (off + Int.toNat 8 + Int.toNat 8 + Int.toNat 8 + Int.toNat 1 + 8) (8)))), (AV.int IntKind.u32 (IntKind.wrap IntKind.u32 (val f (off + Int.toNat 8 + Int.toNat 8 + Int.toNat 8 + Int.toNat 1 + 16) 4))), (AV.int IntKind.u32 (IntKind.wrap IntKind.u32 (val f (off + Int.toNat 8 + Int.toNat 8 + Int.toNat 8 + Int.toNat 1 + 20) 4))), (AV.str ((strV f (off + Int.toNat 8 + Int.toNat 8 + Int.toNat 8 + Int.toNat 1 + 24 + 2) (Int.toNat (val f (off + Int.toNat 8 + Int.toNat 8 + Int.toNat 8 + Int.toNat 1 + 24) 2))))), AV.nilSlice])] [some (AObj.cells [(AV.osl (nl) (1) (off + Int.toNat 8 + Int.toNat 8 + Int.toNat 8 + Int.toNat 1 + 24 + 2 + Int.toNat (val f (off + Int.toNat 8 + Int.toNat 8 + Int.toNat 8 + Int.toNat 1 + 24) 2) + Int.toNat 1) (N - (off + Int.toNat 8 + Int.toNat 8 + Int.toNat 8 + Int.toNat 1 + 24 + 2 + Int.toNat (val f (off + Int.toNat 8 + Int.toNat 8 + Int.toNat 8 + Int.toNat 1 + 24) 2) + Int.toNat 1)) (N - (off + Int.toNat 8 + Int.toNat 8 + Int.toNat 8 + Int.toNat 1 + 24 + 2 + Int.toNat (val f (off + Int.toNat 8 + Int.toNat 8 + Int.toNat 8 + Int.toNat 1 + 24) 2) + Int.toNat 1)) (1) (true)), (AV.bool (false))] true), some (AObj.tarr [Sh.int IntKind.u8] (N) f false)]))
  (cond (Nat.blt N (off + Int.toNat 8 + Int.toNat 8 + Int.toNat 8 + Int.toNat 1 + 24 + 2 + Int.toNat (val f (off + Int.toNat 8 + Int.toNat 8 + Int.toNat 8 + Int.toNat 1 + 24) 2) + Int.toNat 1 + 24 * Int.toNat (IntKind.wrap IntKind.i64 (val f (off + Int.toNat 8 + Int.toNat 8 + Int.toNat 8 + Int.toNat 1 + 24 + 2 + Int.toNat (val f (off + Int.toNat 8 + Int.toNat 8 + Int.toNat 8 + Int.toNat 1 + 24) 2)) (Int.toNat 1)))))
  (some (CS.mk [(AV.agg [(AV.int IntKind.u64 (0)), (AV.int IntKind.u64 (0)), (AV.int IntKind.u64 (0)), (AV.int IntKind.i64 (0)), (AV.int IntKind.u64 (0)), (AV.int IntKind.u64 (0)), (AV.int IntKind.u32 (0)), (AV.int IntKind.u32 (0)), (AV.str (bytesOf { data := #[] })), AV.nilSlice])] [some (AObj.cells [(AV.osl (true) (1) (0) (0) (0) (1) (true)), (AV.bool (true))] true), some (AObj.tarr [Sh.int IntKind.u8] (0) (fun p_ q_ => AV.bad) true)]))
  (some (CS.mk [(AV.agg [(AV.int IntKind.u64 ((val f (off) (8)))), (AV.int IntKind.u64 ((val f (off + Int.toNat 8) (8)))), (AV.int IntKind.u64 ((val f (off + Int.toNat 8 + Int.toNat 8) (8)))), (AV.int IntKind.i64 (IntKind.wrap IntKind.i64 (val f (off + Int.toNat 8 + Int.toNat 8 + Int.toNat 8) (Int.toNat 1)))), (AV.int IntKind.u64 ((val f (off + Int.toNat 8 + Int.toNat 8 + Int.toNat 8 + Int.toNat 1) (8)))), (AV.int IntKind.u64 ((val f (off + Int.toNat 8 + Int.toNat 8 + Int.toNat 8 + Int.toNat 1 + 8) (8)))), (AV.int IntKind.u32 (IntKind.wrap IntKind.u32 (val f (off + Int.toNat 8 + Int.toNat 8 + Int.toNat 8 + Int.toNat 1 + 16) 4))), (AV.int IntKind.u32 (IntKind.wrap IntKind.u32 (val f (off + Int.toNat 8 + Int.toNat 8 + Int.toNat 8 + Int.toNat 1 + 20) 4))), (AV.str ((strV f (off + Int.toNat 8 + Int.toNat 8 + Int.toNat 8 + Int.toNat 1 + 24 + 2) (Int.toNat (val f (off + Int.toNat 8 + Int.toNat 8 + Int.toNat 8 + Int.toNat 1 + 24) 2))))), (AV.tsl (1) (0) (Int.toNat (IntKind.wrap IntKind.i64 (val f (off + Int.toNat 8 + Int.toNat 8 + Int.toNat 8 + Int.toNat 1 + 24 + 2 + Int.toNat (val f (off + Int.toNat 8 + Int.toNat 8 + Int.toNat 8 + Int.toNat 1 + 24) 2)) (Int.toNat 1)))) (Int.toNat (IntKind.wrap IntKind.i64 (val f (off + Int.toNat 8 + Int.toNat 8 + Int.toNat 8 + Int.toNat 1 + 24 + 2 + Int.toNat (val f (off + Int.toNat 8 + Int.toNat 8 + Int.toNat 8 + Int.toNat 1 + 24) 2)) (Int.toNat 1)))) (4) (true))])] [some (AObj.cells [(AV.osl (nl) (2) (off + Int.toNat 8 + Int.toNat 8 + Int.toNat 8 + Int.toNat 1 + 24 + 2 + Int.toNat (val f (off + Int.toNat 8 + Int.toNat 8 + Int.toNat 8 + Int.toNat 1 + 24) 2) + Int.toNat 1 + 24 * Int.toNat (IntKind.wrap IntKind.i64 (val f (off + Int.toNat 8 + Int.toNat 8 + Int.toNat 8 + Int.toNat 1 + 24 + 2 + Int.toNat (val f (off + Int.toNat 8 + Int.toNat 8 + Int.toNat 8 + Int.toNat 1 + 24) 2)) (Int.toNat 1)))) (N - (off + Int.toNat 8 + Int.toNat 8 + Int.toNat 8 + Int.toNat 1 + 24 + 2 + Int.toNat (val f (off + Int.toNat 8 + Int.toNat 8 + Int.toNat 8 + Int.toNat 1 + 24) 2) + Int.toNat 1 + 24 * Int.toNat (IntKind.wrap IntKind.i64 (val f (off + Int.toNat 8 + Int.toNat 8 + Int.toNat 8 + Int.toNat 1 + 24 + 2 + Int.toNat (val f (off + Int.toNat 8 + Int.toNat 8 + Int.toNat 8 + Int.toNat 1 + 24) 2)) (Int.toNat 1))))) (N - (off + Int.toNat 8 + Int.toNat 8 + Int.toNat 8 + Int.toNat 1 + 24 + 2 + Int.toNat (val f (off + Int.toNat 8 + Int.toNat 8 + Int.toNat 8 + Int.toNat 1 + 24) 2) + Int.toNat 1 + 24 * Int.toNat (IntKind.wrap IntKind.i64 (val f (off + Int.toNat 8 + Int.toNat 8 + Int.toNat 8 + Int.toNat 1 + 24 + 2 + Int.toNat (val f (off + Int.toNat 8 + Int.toNat 8 + Int.toNat 8 + Int.toNat 1 + 24) 2)) (Int.toNat 1))))) (1) (true)), (AV.bool (false))] true), some (AObj.tarr [Sh.int IntKind.u64, Sh.int IntKind.u64, Sh.int IntKind.u32, Sh.int IntKind.u32] (Int.toNat (IntKind.wrap IntKind.i64 (val f (off + Int.toNat 8 + Int.toNat 8 + Int.toNat 8 + Int.toNat 1 + 24 + 2 + Int.toNat (val f (off + Int.toNat 8 + Int.toNat 8 + Int.toNat 8 + Int.toNat 1 + 24) 2)) (Int.toNat 1)))) (lookF f (off + Int.toNat 8 + Int.toNat 8 + Int.toNat 8 + Int.toNat 1 + 24 + 2 + Int.toNat (val f (off + Int.toNat 8 + Int.toNat 8 + Int.toNat 8 + Int.toNat 1 + 24) 2) + Int.toNat 1)) true), some (AObj.tarr [Sh.int IntKind.u8] (N) f false)]))))
  none)))
  none))))
  none)
  none)))))
  none))
  none))
  none))
  none))
  none)
  none)
  none) := by
  rw [k14_is]
  try simp only [eq_self, decide_true, beq_self_eq_true, Nat.beq_refl, ble_self, Int.le_refl, Nat.le_refl]
  cases (okB f (N)) with
  | true =>
    cases (Nat.ble off N) with
    | true =>
      cases (Nat.ble N 1000000) with
      | true =>
        cases (Nat.blt N (off + Int.toNat 8)) with
        | true =>
          rfl
        | false =>
          cases (Nat.ble (off + Int.toNat 8) N) with
          | true =>
            cases (Nat.blt N (off + Int.toNat 8 + Int.toNat 8)) with
            | true =>
              rfl
            | false =>
              cases (Nat.ble (off + Int.toNat 8 + Int.toNat 8) N) with
              | true =>
                cases (Nat.blt N (off + Int.toNat 8 + Int.toNat 8 + Int.toNat 8)) with
                | true =>
                  rfl
                | false =>
                  cases (Nat.ble (off + Int.toNat 8 + Int.toNat 8 + Int.toNat 8) N) with
                  | true =>
                    cases (Nat.blt N (off + Int.toNat 8 + Int.toNat 8 + Int.toNat 8 + Int.toNat 1)) with
                    | true =>
                      rfl
                    | false =>
                      cases (Nat.ble (off + Int.toNat 8 + Int.toNat 8 + Int.toNat 8 + Int.toNat 1) N) with
                      | true =>
                        cases (Nat.blt N (off + Int.toNat 8 + Int.toNat 8 + Int.toNat 8 + Int.toNat 1 + 8)) with
                        | true =>
                          rfl
                        | false =>
                          cases (Nat.blt N (off + Int.toNat 8 + Int.toNat 8 + Int.toNat 8 + Int.toNat 1 + 16)) with
                          | true =>
                            rfl
                          | false =>
                            cases (Nat.blt N (off + Int.toNat 8 + Int.toNat 8 + Int.toNat 8 + Int.toNat 1 + 20)) with
                            | true =>
                              rfl
                            | false =>
                              cases (Nat.blt N (off + Int.toNat 8 + Int.toNat 8 + Int.toNat 8 + Int.toNat 1 + 24)) with
                              | true =>
                                rfl
                              | false =>
                                cases (Nat.ble (off + Int.toNat 8 + Int.toNat 8 + Int.toNat 8 + Int.toNat 1 + 24) N) with
                                | true =>
                                  cases (bif nl then Nat.beq N 0 else true) with
                                  | true =>
                                    cases (Nat.blt N (off + Int.toNat 8 + Int.toNat 8 + Int.toNat 8 + Int.toNat 1 + 24 + 2)) with
                                    | true =>
                                      rfl
                                    | false =>
                                      cases (decide (val f (off + Int.toNat 8 + Int.toNat 8 + Int.toNat 8 + Int.toNat 1 + 24) 2 > 16384)) with
                                      | true =>
                                        rfl
                                      | false =>
                                        cases (Nat.blt N (off + Int.toNat 8 + Int.toNat 8 + Int.toNat 8 + Int.toNat 1 + 24 + 2 + Int.toNat (val f (off + Int.toNat 8 + Int.toNat 8 + Int.toNat 8 + Int.toNat 1 + 24) 2))) with
                                        | true =>
                                          rfl
                                        | false =>
                                          cases (Nat.ble (off + Int.toNat 8 + Int.toNat 8 + Int.toNat 8 + Int.toNat 1 + 24 + 2 + Int.toNat (val f (off + Int.toNat 8 + Int.toNat 8 + Int.toNat 8 + Int.toNat 1 + 24) 2)) N) with
                                          | true =>
                                            cases (Nat.blt N (off + Int.toNat 8 + Int.toNat 8 + Int.toNat 8 + Int.toNat 1 + 24 + 2 + Int.toNat (val f (off + Int.toNat 8 + Int.toNat 8 + Int.toNat 8 + Int.toNat 1 + 24) 2) + Int.toNat 1)) with
                                            | true =>
                                              rfl
                                            | false =>
                                              cases (decide (IntKind.wrap IntKind.i64 (val f (off + Int.toNat 8 + Int.toNat 8 + Int.toNat 8 + Int.toNat 1 + 24 + 2 + Int.toNat (val f (off + Int.toNat 8 + Int.toNat 8 + Int.toNat 8 + Int.toNat 1 + 24) 2)) (Int.toNat 1)) > 64)) with
                                              | true =>
                                                rfl
                                              | false =>
                                                cases (Nat.ble (off + Int.toNat 8 + Int.toNat 8 + Int.toNat 8 + Int.toNat 1 + 24 + 2 + Int.toNat (val f (off + Int.toNat 8 + Int.toNat 8 + Int.toNat 8 + Int.toNat 1 + 24) 2) + Int.toNat 1) N) with
                                                | true =>
                                                  cases (Nat.beq (Int.toNat (IntKind.wrap IntKind.i64 (val f (off + Int.toNat 8 + Int.toNat 8 + Int.toNat 8 + Int.toNat 1 + 24 + 2 + Int.toNat (val f (off + Int.toNat 8 + Int.toNat 8 + Int.toNat 8 + Int.toNat 1 + 24) 2)) (Int.toNat 1)))) 0) with
                                                  | true =>
                                                    rfl
                                                  | false =>
                                                    cases (Nat.blt N (off + Int.toNat 8 + Int.toNat 8 + Int.toNat 8 + Int.toNat 1 + 24 + 2 + Int.toNat (val f (off + Int.toNat 8 + Int.toNat 8 + Int.toNat 8 + Int.toNat 1 + 24) 2) + Int.toNat 1 + 24 * Int.toNat (IntKind.wrap IntKind.i64 (val f (off + Int.toNat 8 + Int.toNat 8 + Int.toNat 8 + Int.toNat 1 + 24 + 2 + Int.toNat (val f (off + Int.toNat 8 + Int.toNat 8 + Int.toNat 8 + Int.toNat 1 + 24) 2)) (Int.toNat 1))))) with
                                                    | true =>
                                                      rfl
                                                    | false =>
                                                      rfl
                                                | false =>
                                                  rfl
                                          | false =>
                                            rfl
                                  | false =>
                                    rfl
                                | false =>
                                  rfl
                      | false =>
                        rfl
                  | false =>
                    rfl
              | false =>
                rfl
          | false =>
            rfl
      | false =>
        rfl
    | false =>
      rfl
  | false =>
    rfl

noncomputable def k15 (nl : Bool) (a : Nat) (N : Nat) (f : Nat → Nat → AV) (π : Plan) : Option CS := callC (F7) (1000) (15) (1) (.keep) ([pRR]) π (rr nl a N f)
def k15_p : Plan := (.must true (.reck 2 (.must true (.reck 2 (.fork (.fork (.fork (.fork (.reck 2 (.must true (.must true (.reck 3 (.must true (.must true (.reck 3 (.must true (.must true (.reck 1 (.must true (.must true (.reck 1 (.must true (.must true (.reck 3 (.must true (.must true (.reck 3 (.must true (.must true .stop))))))))))))))))))))) (.must true (.reck 2 (.must true (.reck 2 (.must true (.fork (.must true (.fork (.reck 2 (.must true (.must true (.reck 3 (.must true (.must true (.reck 1 (.must true (.must true (.reck 1 (.must true (.must true (.reck 3 (.must true (.must true (.reck 3 (.must true (.must true .stop)))))))))))))))))) (.must true (.reck 2 (.must true (.reck 2 (.must true (.fork (.must true (.fork (.reck 2 (.must true (.must true (.reck 1 (.must true (.must true (.reck 1 (.must true (.must true (.reck 3 (.must true (.must true (.reck 3 (.must true (.must true .stop))))))))))))))) (.must true (.reck 2 (.must true (.reck 2 (.must true (.fork (.must true (.fork (.must true (.must true (.reck 1 (.must true (.must true (.reck 3 (.must true (.must true (.reck 3 (.must true (.must true .stop))))))))))) (.must true (.reck 2 (.must true (.must true (.fork (.must true (.fork (.must true (.must true (.reck 3 (.must true (.must true (.reck 3 (.must true (.must true .stop)))))))) (.fork (.must true (.must true (.reck 3 (.must true (.must true (.reck 3 (.must true (.must true .stop)))))))) (.fork (.must true (.must true (.reck 3 (.must true (.must true (.reck 3 (.must true (.must true .stop)))))))) (.fork (.must true (.must true (.reck 3 (.must true (.must true (.reck 3 (.must true (.must true .stop)))))))) (.must true (.reck 2 (.must true (.must true (.fork (.must true (.fork (.reck 2 (.must true (.must true (.reck 3 (.must true (.must true .stop)))))) (.fork (.reck 2 (.must true (.must true (.reck 3 (.must true (.must true .stop)))))) (.fork (.reck 2 (.must true (.must true (.reck 3 (.must true (.must true .stop)))))) (.must true (.reck 2 (.must true (.reck 2 (.must true (.fork (.must true (.fork (.reck 2 (.must true (.must true .stop))) (.fork (.reck 1 (.must true (.must true .stop))) (.reck 1 (.must true (.must true (.reck 2 (.must true (.fork (.must true (.must true (.fork .stop (.fork .stop .stop)))) .stop))))))))) .stop)))))))))) .stop)))))))))) .stop))))))) .stop)))))))) .stop)))))))) .stop))))))) .stop) .stop) .stop)))))
theorem k15_is (nl : Bool) (a : Nat) (N : Nat) (f : Nat → Nat → AV) : k15 nl a N f k15_p = (cond (decide (N = N)) (cond (decide (N = N)) (cond ((okB f (N)))
  (cond (Nat.ble a N)
  (cond (Nat.ble N 1000000)
  (cond (Nat.blt N (a + Int.toNat 8))
  (cond (decide (N = N)) (cond (decide (N = N)) (cond (decide (N = N)) (cond (decide (N = N)) (cond (decide (N = N)) (cond (decide (N = N)) (cond (decide (N = N)) (cond (decide (N = N)) (cond (decide (N = N)) (cond (decide (N = N)) (cond (decide (N = N)) (cond (decide (N = N)) (cond (decide (N = N)) (cond (decide (N = N)) (some (CS.mk [(AV.agg [(AV.int IntKind.u64 (0)), (AV.int IntKind.u64 (0)), (AV.int IntKind.u64 (0)), (AV.int IntKind.i64 (0)), (AV.int IntKind.u64 (0)), (AV.int IntKind.u64 (0)), (AV.int IntKind.u32 (0)), (AV.int IntKind.u32 (0)), (AV.str (bytesOf { data := #[] })), AV.nilSlice])] [some (AObj.cells [(AV.osl (nl) (1) (0) (N) (N) (1) (true)), AV.bad, (AV.bool (true))] true), some (AObj.tarr [Sh.int IntKind.u8] (N) f false)])) none) none) none) none) none) none) none) none) none) none) none) none) none) none)
  (cond (decide (N = N)) (cond (decide (N = N)) (cond ((okB f (N))) (cond (Nat.ble (a + Int.toNat 8) N)
  (cond (Nat.ble N 1000000) (cond (Nat.blt N (a + Int.toNat 8 + Int.toNat 8))
  (cond (decide (N = N)) (cond (decide (N = N)) (cond (decide (N = N)) (cond (decide (N = N)) (cond (decide (N = N)) (cond (decide (N = N)) (cond (decide (N = N)) (cond (decide (N = N)) (cond (decide (N = N)) (cond (decide (N = N)) (cond (decide (N = N)) (cond (decide (N = N)) (some (CS.mk [(AV.agg [(AV.int IntKind.u64 (0)), (AV.int IntKind.u64 (0)), (AV.int IntKind.u64 (0)), (AV.int IntKind.i64 (0)), (AV.int IntKind.u64 (0)), (AV.int IntKind.u64 (0)), (AV.int IntKind.u32 (0)), (AV.int IntKind.u32 (0)), (AV.str (bytesOf { data := #[] })), AV.nilSlice])] [some (AObj.cells [(AV.osl (nl) (1) (0) (N) (N) (1) (true)), AV.bad, (AV.bool (true))] true), some (AObj.tarr [Sh.int IntKind.u8] (N) f false)])) none) none) none) none) none) none) none) none) none) none) none) none)
  (cond (decide (N = N)) (cond (decide (N = N)) (cond ((okB f (N))) (cond (Nat.ble (a + Int.toNat 8 + Int.toNat 8) N)
  (cond (Nat.ble N 1000000) (cond (Nat.blt N (a + Int.toNat 8 + Int.toNat 8 + Int.toNat 8))
  (cond (decide (N = N)) (cond (decide (N = N)) (cond (decide (N = N)) (cond (decide (N = N)) (cond (decide (N = N)) (cond (decide (N = N)) (cond (decide (N = N)) (cond (decide (N = N)) (cond (decide (N = N)) (cond (decide (N = N)) (some (CS.mk [(AV.agg [(AV.int IntKind.u64 (0)), (AV.int IntKind.u64 (0)), (AV.int IntKind.u64 (0)), (AV.int IntKind.i64 (0)), (AV.int IntKind.u64 (0)), (AV.int IntKind.u64 (0)), (AV.int IntKind.u32 (0)), (AV.int IntKind.u32 (0)), (AV.str (bytesOf { data := #[] })), AV.nilSlice])] [some (AObj.cells [(AV.osl (nl) (1) (0) (N) (N) (1) (true)), AV.bad, (AV.bool (true))] true), some (AObj.tarr [Sh.int IntKind.u8] (N) f false)])) none) none) none) none) none) none) none) none) none) none)
  (cond (decide (N = N)) (cond (decide (N = N)) (cond ((okB f (N))) (cond (Nat.ble (a + Int.toNat 8 + Int.toNat 8 + Int.toNat 8) N)
  (cond (Nat.ble N 1000000) (cond (Nat.blt N (a + Int.toNat 8 + Int.toNat 8 + Int.toNat 8 + Int.toNat 1))
  (cond (decide (N = N)) (cond (decide (N = N)) (cond (decide (N = N)) (cond (decide (N = N)) (cond (decide (N = N)) (cond (decide (N = N)) (cond (decide (N = N)) (cond (decide (N = N)) (some (CS.mk [(AV.agg [(AV.int IntKind.u64 (0)), (AV.int IntKind.u64 (0)), (AV.int IntKind.u64 (0)), (AV.int IntKind.i64 (0)), (AV.int IntKind.u64 (0)), (AV.int IntKind.u64 (0)), (AV.int IntKind.u32 (0)), (AV.int IntKind.u32 (0)), (AV.str (bytesOf { data := #[] })), AV.nilSlice])] [some (AObj.cells [(AV.osl (nl) (1) (0) (N) (N) (1) (true)), AV.bad, (AV.bool (true))] true), some (AObj.tarr [Sh.int IntKind.u8] (N) f false)])) none) none) none) none) none) none) none) none)
  (cond (decide (N = N)) (cond (decide (N = N)) (cond ((okB f (N))) (cond (Nat.ble (a + Int.toNat 8 + Int.toNat 8 + Int.toNat 8 + Int.toNat 1) N)
  (cond (Nat.ble N 1000000) (cond (Nat.blt N (a + Int.toNat 8 + Int.toNat 8 + Int.toNat 8 + Int.toNat 1 + 8))
  (cond (decide (N = N)) (cond (decide (N = N)) (cond (decide (N = N)) (cond (decide (N = N)) (cond (decide (N = N)) (cond (decide (N = N)) (some (CS.mk [(AV.agg [(AV.int IntKind.u64 (0)), (AV.int IntKind.u64 (0)), (AV.int IntKind.u64 (0)), (AV.int IntKind.i64 (0)), (AV.int IntKind.u64 (0)), (AV.int IntKind.u64 (0)), (AV.int IntKind.u32 (0)), (AV.int IntKind.u32 (0)), (AV.str (bytesOf { data := #[] })), AV.nilSlice])] [some (AObj.cells [(AV.osl (nl) (1) (0) (N) (N) (1) (true)), AV.bad, (AV.bool (true))] true), some (AObj.tarr [Sh.int IntKind.u8] (N) f false)])) none) none) none) none) none) none)
  (cond (Nat.blt N (a + Int.toNat 8 + Int.toNat 8 + Int.toNat 8 + Int.toNat 1 + 16))
  (cond (decide (N = N)) (cond (decide (N = N)) (cond (decide (N = N)) (cond (decide (N = N)) (cond (decide (N = N)) (cond (decide (N = N)) (some (CS.mk [(AV.agg [(AV.int IntKind.u64 (0)), (AV.int IntKind.u64 (0)), (AV.int IntKind.u64 (0)), (AV.int IntKind.i64 (0)), (AV.int IntKind.u64 (0)), (AV.int IntKind.u64 (0)), (AV.int IntKind.u32 (0)), (AV.int IntKind.u32 (0)), (AV.str (bytesOf { data := #[] })), AV.nilSlice])] [some (AObj.cells [(AV.osl (nl) (1) (0) (N) (N) (1) (true)), AV.bad, (AV.bool (true))] true), some (AObj.tarr [Sh.int IntKind.u8] (N) f false)])) none) none) none) none) none) none)
  (cond (Nat.blt N (a + Int.toNat 8 + Int.toNat 8 + Int.toNat 8 + Int.toNat 1 + 20))
  (cond (decide (N = N)) (cond (decide (N = N)) (cond (decide (N = N)) (cond (decide (N = N)) (cond (decide (N = N)) (cond (decide (N = N)) (some (CS.mk [(AV.agg [(AV.int IntKind.u64 (0)), (AV.int IntKind.u64 (0)), (AV.int IntKind.u64 (0)), (AV.int IntKind.i64 (0)), (AV.int IntKind.u64 (0)), (AV.int IntKind.u64 (0)), (AV.int IntKind.u32 (0)), (AV.int IntKind.u32 (0)), (AV.str (bytesOf { data := #[] })), AV.nilSlice])] [some (AObj.cells [(AV.osl (nl) (1) (0) (N) (N) (1) (true)), AV.bad, (AV.bool (true))] true), some (AObj.tarr [Sh.int IntKind.u8] (N) f false)])) none) none) none) none) none) none)
  (cond (Nat.blt N (a + Int.toNat 8 + Int.toNat 8 + Int.toNat 8 + Int.toNat 1 + 24))
  (cond (decide (N = N)) (cond (decide (N = N)) (cond (decide (N = N)) (cond (decide (N = N)) (cond (decide (N = N)) (cond (decide (N = N)) (some (CS.mk [(AV.agg [(AV.int IntKind.u64 (0)), (AV.int IntKind.u64 (0)), (AV.int IntKind.u64 (0)), (AV.int IntKind.i64 (0)), (AV.int IntKind.u64 (0)), (AV.int IntKind.u64 (0)), (AV.int IntKind.u32 (0)), (AV.int IntKind.u32 (0)), (AV.str (bytesOf { data := #[] })), AV.nilSlice])] [some (AObj.cells [(AV.osl (nl) (1) (0) (N) (N) (1) (true)), AV.bad, (AV.bool (true))] true), some (AObj.tarr [Sh.int IntKind.u8] (N) f false)])) none) none) none) none) none) none)
  (cond (decide (N = N)) (cond (decide (N = N)) (cond ((okB f (N))) (cond (Nat.ble (a + Int.toNat 8 + Int.toNat 8 + Int.toNat 8 + Int.toNat 1 + 24) N)
  (cond (Nat.ble N 1000000) (cond (Nat.blt N (a + Int.toNat 8 + Int.toNat 8 + Int.toNat 8 + Int.toNat 1 + 24 + 2))
  (cond (decide (N = N)) (cond (decide (N = N)) (cond (decide (N = N)) (cond (decide (N = N)) (some (CS.mk [(AV.agg [(AV.int IntKind.u64 (0)), (AV.int IntKind.u64 (0)), (AV.int IntKind.u64 (0)), (AV.int IntKind.i64 (0)), (AV.int IntKind.u64 (0)), (AV.int IntKind.u64 (0)), (AV.int IntKind.u32 (0)), (AV.int IntKind.u32 (0)), (AV.str (bytesOf { data := #[] })), AV.nilSlice])] [some (AObj.cells [(AV.osl (nl) (1) (0) (N) (N) (1) (true)), AV.bad, (AV.bool (true))] true), some (AObj.tarr [Sh.int IntKind.u8] (N) f false)])) none) none) none) none)
  (cond (decide (val f (a + Int.toNat 8 + Int.toNat 8 + Int.toNat 8 + Int.toNat 1 + 24) 2 > 16384))
  (cond (decide (N = N)) (cond (decide (N = N)) (cond (decide (N = N)) (cond (decide (N = N)) (some (CS.mk [(AV.agg [(AV.int IntKind.u64 (0)), (AV.int IntKind.u64 (0)), (AV.int IntKind.u64 (0)), (AV.int IntKind.i64 (0)), (AV.int IntKind.u64 (0)), (AV.int IntKind.u64 (0)), (AV.int IntKind.u32 (0)), (AV.int IntKind.u32 (0)), (AV.str (bytesOf { data := #[] })), AV.nilSlice])] [some (AObj.cells [(AV.osl (nl) (1) (0) (N) (N) (1) (true)), AV.bad, (AV.bool (true))] true), some (AObj.tarr [Sh.int IntKind.u8] (N) f false)])) none) none) none) none)
  (cond (Nat.blt N (a + Int.toNat 8 + Int.toNat 8 + Int.toNat 8 + Int.toNat 1 + 24 + 2 + Int.toNat (val f (a + Int.toNat 8 + Int.toNat 8 + Int.toNat 8 + Int.toNat 1 + 24) 2)))
  (cond (decide (N = N)) (cond (decide (N = N)) (cond (decide (N = N)) (cond (decide (N = N)) (some (CS.mk [(AV.agg [(AV.int IntKind.u64 (0)), (AV.int IntKind.u64 (0)), (AV.int IntKind.u64 (0)), (AV.int IntKind.i64 (0)), (AV.int IntKind.u64 (0)), (AV.int IntKind.u64 (0)), (AV.int IntKind.u32 (0)), (AV.int IntKind.u32 (0)), (AV.str (bytesOf { data := #[] })), AV.nilSlice])] [some (AObj.cells [(AV.osl (nl) (1) (0) (N) (N) (1) (true)), AV.bad, (AV.bool (true))] true), some (AObj.tarr [Sh.int IntKind.u8] (N) f false)])) none) none) none) none)
  (cond (decide (N = N)) (cond (decide (N = N)) (cond ((okB f (N))) (cond (Nat.ble (a + Int.toNat 8 + Int.toNat 8 + Int.toNat 8 + Int.toNat 1 + 24 + 2 + Int.toNat (val f (a + Int.toNat 8 + Int.toNat 8 + Int.toNat 8 + Int.toNat 1 + 24) 2)) N)
  (cond (Nat.ble N 1000000) (cond (Nat.blt N (a + Int.toNat 8 + Int.toNat 8 + Int.toNat 8 + Int.toNat 1 + 24 + 2 + Int.toNat (val f (a + Int.toNat 8 + Int.toNat 8 + Int.toNat 8 + Int.toNat 1 + 24) 2) + Int.toNat 1))
  (cond (decide (N = N)) (cond (decide (N = N)) (some (CS.mk [(AV.agg [(AV.int IntKind.u64 (0)), (AV.int IntKind.u64 (0)), (AV.int IntKind.u64 (0)), (AV.int IntKind.i64 (0)), (AV.int IntKind.u64 (0)), (AV.int IntKind.u64 (0)), (AV.int IntKind.u32 (0)), (AV.int IntKind.u32 (0)), (AV.str (bytesOf { data := #[] })), AV.nilSlice])] [some (AObj.cells [(AV.osl (nl) (1) (0) (N) (N) (1) (true)), AV.bad, (AV.bool (true))] true), some (AObj.tarr [Sh.int IntKind.u8] (N) f false)])) none) none)
  (cond (decide (val f (a + Int.toNat 8 + Int.toNat 8 + Int.toNat 8 + Int.toNat 1 + 24 + 2 + Int.toNat (val f (a + Int.toNat 8 + Int.toNat 8 + Int.toNat 8 + Int.toNat 1 + 24) 2)) (Int.toNat 1) > 64))
  (cond (decide (N = N)) (cond (decide (N = N)) (some (CS.mk [(AV.agg [(AV.int IntKind.u64 (0)), (AV.int IntKind.u64 (0)), (AV.int IntKind.u64 (0)), (AV.int IntKind.i64 (0)), (AV.int IntKind.u64 (0)), (AV.int IntKind.u64 (0)), (AV.int IntKind.u32 (0)), (AV.int IntKind.u32 (0)), (AV.str (bytesOf { data := #[] })), AV.nilSlice])] [some (AObj.cells [(AV.osl (nl) (1) (0) (N) (N) (1) (true)), AV.bad, (AV.bool (true))] true), some (AObj.tarr [Sh.int IntKind.u8] (N) f false)])) none) none)
  (cond (decide (N = N)) (cond (decide (N = N)) (cond ((okB f (N))) (cond (Nat.ble (a + Int.toNat 8 + Int.toNat 8 + Int.toNat 8 + Int.toNat 1 + 24 + 2 + Int.toNat (val f (a + Int.toNat 8 + Int.toNat 8 + Int.toNat 8 + Int.toNat 1 + 24) 2) + Int.toNat 1) N)
  (cond (Nat.ble N 1000000) (cond (!decide (val f (a + Int.toNat 8 + Int.toNat 8 + Int.toNat 8 + Int.toNat 1 + 24 + 2 + Int.toNat (val f (a + Int.toNat 8 + Int.toNat 8 + Int.toNat 8 + Int.toNat 1 + 24) 2)) (Int.toNat 1) > 64)) (cond (Nat.beq (Int.toNat (val f (a + Int.toNat 8 + Int.toNat 8 + Int.toNat 8 + Int.toNat 1 + 24 + 2 + Int.toNat (val f (a + Int.toNat 8 + Int.toNat 8 + Int.toNat 8 + Int.toNat 1 + 24) 2)) (Int.toNat 1))) 0)
  (some (CS.mk [(AV.agg [(AV.int IntKind.u64 ((val f (a) (8)))), (AV.int IntKind.u64 ((val f (a + Int.toNat 8) (8)))), (AV.int IntKind.u64 ((val f (a + Int.toNat 8 + Int.toNat 8) (8)))), (AV.int IntKind.i64 (IntKind.wrap IntKind.i64 (val f (a + Int.toNat 8 + Int.toNat 8 + Int.toNat 8) (Int.toNat 1)))), (AV.int IntKind.u64 ((val f (a + Int.toNat 8 + Int.toNat 8 + Int.toNat 8 + Int.toNat 1) (8)))), (AV.int IntKind.u64 ((val f (a + Int.toNat 8 + Int.toNat 8 + Int.toNat 8 + Int.toNat 1 + 8) (8)))), (AV.int IntKind.u32 (IntKind.wrap IntKind.u32 (val f (a + Int.toNat 8 + Int.toNat 8 + Int.toNat 8 + Int.toNat 1 + 16) 4))), (AV.int IntKind.u32 (IntKind.wrap IntKind.u32 (val f (a + Int.toNat 8 + Int.toNat 8 + Int.toNat 8 + Int.toNat 1 + 20) 4))), (AV.str ((strV f (a + Int.toNat 8 + Int.toNat 8 + Int.toNat 8 + Int.toNat 1 + 24 + 2) (Int.toNat (val f (a + Int.toNat 8 + Int.toNat 8 + Int.toNat 8 + Int.toNat 1 + 24) 2))))), AV.nilSlice])] [some (AObj.cells [(AV.osl (nl) (1) (0) (N) (N) (1) (true)), (AV.int IntKind.i64 ((↑(a + Int.toNat 8 + Int.toNat 8 + Int.toNat 8 + Int.toNat 1 + 24 + 2 + Int.toNat (val f (a + Int.toNat 8 + Int.toNat 8 + Int.toNat 8 + Int.toNat 1 + 24) 2) + Int.toNat 1) : Int))), (AV.bool (false))] true), some (AObj.tarr [Sh.int IntKind.u8] (N) f false)]))
  (cond (Nat.blt N (a + Int.toNat 8 + Int.toNat 8 + Int.toNat 8 + Int.toNat 1 + 24 + 2 + Int.toNat (val f (a + Int.toNat 8 + Int.toNat 8 + Int.toNat 8 + Int.toNat 1 + 24) 2) + Int.toNat 1 + 24 * Int.toNat (val f (a + Int.toNat 8 + Int.toNat 8 + Int.toNat 8 + Int.toNat 1 + 24 + 2 + Int.toNat (val f (a + Int.toNat 8 + Int.toNat 8 + Int.toNat 8 + Int.toNat 1 + 24) 2)) (Int.toNat 1))))
  (some (CS.mk [(AV.agg [(AV.int IntKind.u64 (0)), (AV.int IntKind.u64 (0)), (AV.int IntKind.u64 (0)), (AV.int IntKind.i64 (0)), (AV.int IntKind.u64 (0)), (AV.int IntKind.u64 (0)), (AV.int IntKind.u32 (0)), (AV.int IntKind.u32 (0)), (AV.str (bytesOf { data := #[] })), AV.nilSlice])] [some (AObj.cells [(AV.osl (nl) (1) (0) (N) (N) (1) (true)), AV.bad, (AV.bool (true))] true), some (AObj.tarr [Sh.int IntKind.u8] (N) f false)]))
  (some (CS.mk [(AV.agg [(AV.int IntKind.u64 ((val f (a) (8)))), (AV.int IntKind.u64 ((val f (a + Int.toNat 8) (8)))), (AV.int IntKind.u64 ((val f (a + Int.toNat 8 + Int.toNat 8) (8)))), (AV.int IntKind.i64 (IntKind.wrap IntKind.i64 (val f (a + Int.toNat 8 + Int.toNat 8 + Int.toNat 8) (Int.toNat 1)))), (AV.int IntKind.u64 ((val f (a + Int.toNat 8 + Int.toNat 8 + Int.toNat 8 + Int.toNat 1) (8)))), (AV.int IntKind.u64 ((val f (a + Int.toNat 8 + Int.toNat 8 + Int.toNat 8 + Int.toNat 1 + 8) (8)))), (AV.int IntKind.u32 (IntKind.wrap IntKind.u32 (val f (a + Int.toNat 8 + Int.toNat 8 + Int.toNat 8 + Int.toNat 1 + 16) 4))), (AV.int IntKind.u32 (IntKind.wrap IntKind.u32 (val f (a + Int.toNat 8 + Int.toNat 8 + Int.toNat 8 + Int.toNat 1 + 20) 4))), (AV.str ((strV f (a + Int.toNat 8 + Int.toNat 8 + Int.toNat 8 + Int.toNat 1 + 24 + 2) (Int.toNat (val f (a + Int.toNat 8 + Int.toNat 8 + Int.toNat 8 + Int.toNat 1 + 24) 2))))), (AV.tsl (1) (0) (Int.toNat (val f (a + Int.toNat 8 + Int.toNat 8 + Int.toNat 8 + Int.toNat 1 + 24 + 2 + Int.toNat (val f (a + Int.toNat 8 + Int.toNat 8 + Int.toNat 8 + Int.toNat 1 + 24) 2)) (Int.toNat 1))) (Int.toNat (val f (a + Int.toNat 8 + Int.toNat 8 + Int.toNat 8 + Int.toNat 1 + 24 + 2 + Int.toNat (val f (a + Int.toNat 8 + Int.toNat 8 + Int.toNat 8 + Int.toNat 1 + 24) 2)) (Int.toNat 1))) (4) (true))])] [some (AObj.cells [(AV.osl (nl) (2) (0) (N) (N) (1) (true)), (AV.int IntKind.i64 ((↑(a + Int.toNat 8 + Int.toNat 8 + Int.toNat 8 + Int.toNat 1 + 24 + 2 + Int.toNat (val f (a + Int.toNat 8 + Int.toNat 8 + Int.toNat 8 + Int.toNat 1 + 24) 2) + Int.toNat 1 + 24 * Int.toNat (val f (a + Int.toNat 8 + Int.toNat 8 + Int.toNat 8 + Int.toNat 1 + 24 + 2 + Int.toNat (val f (a + Int.toNat 8 + Int.toNat 8 + Int.toNat 8 + Int.toNat 1 + 24) 2)) (Int.toNat 1))) : Int))), (AV.bool (false))] true), some (AObj.tarr [Sh.int IntKind.u64, Sh.int IntKind.u64, Sh.int IntKind.u32, Sh.int IntKind.u32] (Int.toNat (val f (a + Int.toNat 8 + Int.toNat 8 + Int.toNat 8 + Int.toNat 1 + 24 + 2 + Int.toNat (val f (a + Int.toNat 8 + Int.toNat 8 + Int.toNat 8 + Int.toNat 1 + 24) 2)) (Int.toNat 1))) (lookF f (a + Int.toNat 8 + Int.toNat 8 + Int.toNat 8 + Int.toNat 1 + 24 + 2 + Int.toNat (val f (a + Int.toNat 8 + Int.toNat 8 + Int.toNat 8 + Int.toNat 1 + 24) 2) + Int.toNat 1)) true), some (AObj.tarr [Sh.int IntKind.u8] (N) f false)])))) none) none)
  none) none) none) none))) none)
  none) none) none) none)))) none)
  none) none) none) none))))) none)
  none) none) none) none)) none)
  none) none) none) none)) none)
  none) none) none) none)) none)
  none) none) none) none))
  none)
  none)
  none) none) none) := by kernel_rfl
theorem k15_eq (nl : Bool) (a : Nat) (N : Nat) (f : Nat → Nat → AV) : k15 nl a N f k15_p = (cond (okB f (N))
  (cond (Nat.ble a N)
  (cond (Nat.ble N 1000000)
  (cond (Nat.blt N (a + Int.toNat 8))
  (some (CS.mk [(AV.agg [(AV.int IntKind.u64 (0)), (AV.int IntKind.u64 (0)), (AV.int IntKind.u64 (0)), (AV.int IntKind.i64 (0)), (AV.int IntKind.u64 (0)), (AV.int IntKind.u64 (0)), (AV.int IntKind.u32 (0)), (AV.int IntKind.u32 (0)), (AV.str (bytesOf { data := #[] })), AV.nilSlice])] [some (AObj.cells [(AV.osl (nl) (1) (0) (N) (N) (1) (true)), AV.bad, (AV.bool (true))] true), some (AObj.tarr [Sh.int IntKind.u8] (N) f false)]))
  (cond (Nat.ble (a + Int.toNat 8) N)
  (cond (Nat.blt N (a + Int.toNat 8 + Int.toNat 8))
  (some (CS.mk [(AV.agg [(AV.int IntKind.u64 (0)), (AV.int IntKind.u64 (0)), (AV.int IntKind.u64 (0)), (AV.int IntKind.i64 (0)), (AV.int IntKind.u64 (0)), (AV.int IntKind.u64 (0)), (AV.int IntKind.u32 (0)), (AV.int IntKind.u32 (0)), (AV.str (bytesOf { data := #[] })), AV.nilSlice])] [some (AObj.cells [(AV.osl (nl) (1) (0) (N) (N) (1) (true)), AV.bad, (AV.bool (true))] true), some (AObj.tarr [Sh.int IntKind.u8] (N) f false)]))
  (cond (Nat.ble (a + Int.toNat 8 + Int.toNat 8) N)
  (cond (Nat.blt N (a + Int.toNat 8 + Int.toNat 8 + Int.toNat 8))
  (some (CS.mk [(AV.agg [(AV.int IntKind.u64 (0)), (AV.int IntKind.u64 (0)), (AV.int IntKind.u64 (0)), (AV.int IntKind.i64 (0)), (AV.int IntKind.u64 (0)), (AV.int IntKind.u64 (0)), (AV.int IntKind.u32 (0)), (AV.int IntKind.u32 (0)), (AV.str (bytesOf { data := #[] })), AV.nilSlice])] [some (AObj.cells [(AV.osl (nl) (1) (0) (N) (N) (1) (true)), AV.bad, (AV.bool (true))] true), some (AObj.tarr [Sh.int IntKind.u8] (N) f false)]))
  (cond (Nat.ble (a + Int.toNat 8 + Int.toNat 8 + Int.toNat 8) N)
  (cond (Nat.blt N (a + Int.toNat 8 + Int.toNat 8 + Int.toNat 8 + Int.toNat 1))
  (some (CS.mk [(AV.agg [(AV.int IntKind.u64 (0)), (AV.int IntKind.u64 (0)), (AV.int IntKind.u64 (0)), (AV.int IntKind.i64 (0)), (AV.int IntKind.u64 (0)), (AV.int IntKind.u64 (0)), (AV.int IntKind.u32 (0)), (AV.int IntKind.u32 (0)), (AV.str (bytesOf { data := #[] })), AV.nilSlice])] [some (AObj.cells [(AV.osl (nl) (1) (0) (N) (N) (1) (true)), AV.bad, (AV.bool (true))] true), some (AObj.tarr [Sh.int IntKind.u8] (N) f false)]))
  (cond (Nat.ble (a + Int.toNat 8 + Int.toNat 8 + Int.toNat 8 + Int.toNat 1) N)
  (cond (Nat.blt N (a + Int.toNat 8 + Int.toNat 8 + Int.toNat 8 + Int.toNat 1 + 8))
  (some (CS.mk [(AV.agg [(AV.int IntKind.u64 (0)), (AV.int IntKind.u64 (0)), (AV.int IntKind.u64 (0)), (AV.int IntKind.i64 (0)), (AV.int IntKind.u64 (0)), (AV.int IntKind.u64 (0)), (AV.int IntKind.u32 (0)), (AV.int IntKind.u32 (0)), (AV.str (bytesOf { data := #[] })), AV.nilSlice])] [some (AObj.cells [(AV.osl (nl) (1) (0) (N) (N) (1) (true)), AV.bad, (AV.bool (true))] true), some (AObj.tarr [Sh.int IntKind.u8] (N) f false)]))
  (cond (Nat.blt N (a + Int.toNat 8 + Int.toNat 8 + Int.toNat 8 + Int.toNat 1 + 16))
  (some (CS.mk [(AV.agg [(AV.int IntKind.u64 (0)), (AV.int IntKind.u64 (0)), (AV.int IntKind.u64 (0)), (AV.int IntKind.i64 (0)), (AV.int IntKind.u64 (0)), (AV.int IntKind.u64 (0)), (AV.int IntKind.u32 (0)), (AV.int IntKind.u32 (0)), (AV.str (bytesOf { data := #[] })), AV.nilSlice])] [some (AObj.cells [(AV.osl (nl) (1) (0) (N) (N) (1) (true)), AV.bad, (AV.bool (true))] true), some (AObj.tarr [Sh.int IntKind.u8] (N) f false)]))
  (cond (Nat.blt N (a + Int.toNat 8 + Int.toNat 8 + Int.toNat 8 + Int.toNat 1 + 20))
  (some (CS.mk [(AV.agg [(AV.int IntKind.u64 (0)), (AV.int IntKind.u64 (0)), (AV.int IntKind.u64 (0)), (AV.int IntKind.i64 (0)), (AV.int IntKind.u64 (0)), (AV.int IntKind.u64 (0)), (AV.int IntKind.u32 (0)), (AV.int IntKind.u32 (0)), (AV.str (bytesOf { data := #[] })), AV.nilSlice])] [some (AObj.cells [(AV.osl (nl) (1) (0) (N) (N) (1) (true)), AV.bad, (AV.bool (true))] true), some (AObj.tarr [Sh.int IntKind.u8] (N) f false)]))
  (cond (Nat.blt N (a + Int.toNat 8 + Int.toNat 8 + Int.toNat 8 + Int.toNat 1 + 24))
  (some (CS.mk [(AV.agg [(AV.int IntKind.u64 (0)), (AV.int IntKind.u64 (0)), (AV.int IntKind.u64 (0)), (AV.int IntKind.i64 (0)), (AV.int IntKind.u64 (0)), (AV.int IntKind.u64 (0)), (AV.int IntKind.u32 (0)), (AV.int IntKind.u32 (0)), (AV.str (bytesOf { data := #[] })), AV.nilSlice])] [some (AObj.cells [(AV.osl (nl) (1) (0) (N) (N) (1) (true)), AV.bad, (AV.bool (true))] true), some (AObj.tarr [Sh.int IntKind.u8] (N) f false)]))
  (cond (Nat.ble (a + Int.toNat 8 + Int.toNat 8 + Int.toNat 8 + Int.toNat 1 + 24) N)
  (cond (Nat.blt N (a + Int.toNat 8 + Int.toNat 8 + Int.toNat 8 + Int.toNat 1 + 24 + 2))
  (some (CS.mk [(AV.agg [(AV.int IntKind.u64 (0)), (AV.int IntKind.u64 (0)), (AV.int IntKind.u64 (0)), (AV.int IntKind.i64 (0)), (AV.int IntKind.u64 (0)), (AV.int IntKind.u64 (0)), (AV.int IntKind.u32 (0)), (AV.int IntKind.u32 (0)), (AV.str (bytesOf { data := #[] })), AV.nilSlice])] [some (AObj.cells [(AV.osl (nl) (1) (0) (N) (N) (1) (true)), AV.bad, (AV.bool (true))] true), some (AObj.tarr [Sh.int IntKind.u8] (N) f false)]))
  (cond (decide (val f (a + Int.toNat 8 + Int.toNat 8 + Int.toNat 8 + Int.toNat 1 + 24) 2 > 16384))
  (some (CS.mk [(AV.agg [(AV.int IntKind.u64 (0)), (AV.int IntKind.u64 (0)), (AV.int IntKind.u64 (0)), (AV.int IntKind.i64 (0)), (AV.int IntKind.u64 (0)), (AV.int IntKind.u64 (0)), (AV.int IntKind.u32 (0)), (AV.int IntKind.u32 (0)), (AV.str (bytesOf { data := #[] })), AV.nilSlice])] [some (AObj.cells [(AV.osl (nl) (1) (0) (N) (N) (1) (true)), AV.bad, (AV.bool (true))] true), some (AObj.tarr [Sh.int IntKind.u8] (N) f false)]))
  (cond (Nat.blt N (a + Int.toNat 8 + Int.toNat 8 + Int.toNat 8 + Int.toNat 1 + 24 + 2 + Int.toNat (val f (a + Int.toNat 8 + Int.toNat 8 + Int.toNat 8 + Int.toNat 1 + 24) 2)))
  (some (CS.mk [(AV.agg [(AV.int IntKind.u64 (0)), (AV.int IntKind.u64 (0)), (AV.int IntKind.u64 (0)), (AV.int IntKind.i64 (0)), (AV.int IntKind.u64 (0)), (AV.int IntKind.u64 (0)), (AV.int IntKind.u32 (0)), (AV.int IntKind.u32 (0)), (AV.str (bytesOf { data := #[] })), AV.nilSlice])] [some (AObj.cells [(AV.osl (nl) (1) (0) (N) (N) (1) (true)), AV.bad, (AV.bool (true))] true), some (AObj.tarr [Sh.int IntKind.u8] (N) f false)]))
  (cond (Nat.ble (a + Int.toNat 8 + Int.toNat 8 + Int.toNat 8 + Int.toNat 1 + 24 + 2 + Int.toNat (val f (a + Int.toNat 8 + Int.toNat 8 + Int.toNat 8 + Int.toNat 1 + 24) 2)) N)
  (cond (Nat.blt N (a + Int.toNat 8 + Int.toNat 8 + Int.toNat 8 + Int.toNat 1 + 24 + 2 + Int.toNat (val f (a + Int.toNat 8 + Int.toNat 8 + Int.toNat 8 + Int.toNat 1 + 24) 2) + Int.toNat 1))
  (some (CS.mk [(AV.agg [(AV.int IntKind.u64 (0)), (AV.int IntKind.u64 (0)), (AV.int IntKind.u64 (0)), (AV.int IntKind.i64 (0)), (AV.int IntKind.u64 (0)), (AV.int IntKind.u64 (0)), (AV.int IntKind.u32 (0)), (AV.int IntKind.u32 (0)), (AV.str (bytesOf { data := #[] })), AV.nilSlice])] [some (AObj.cells [(AV.osl (nl) (1) (0) (N) (N) (1) (true)), AV.bad, (AV.bool (true))] true), some (AObj.tarr [Sh.int IntKind.u8] (N) f false)]))
  (cond (decide (val f (a + Int.toNat 8 + Int.toNat 8 + Int.toNat 8 + Int.toNat 1 + 24 + 2 + Int.toNat (val f (a + Int.toNat 8 + Int.toNat 8 + Int.toNat 8 + Int.toNat 1 + 24) 2)) (Int.toNat 1) > 64))
  (some (CS.mk [(AV.agg [(AV.int IntKind.u64 (0)), (AV.int IntKind.u64 (0)), (AV.int IntKind.u64 (0)), (AV.int IntKind.i64 (0)), (AV.int IntKind.u64 (0)), (AV.int IntKind.u64 (0)), (AV.int IntKind.u32 (0)), (AV.int IntKind.u32 (0)), (AV.str (bytesOf { data := #[] })), AV.nilSlice])] [some (AObj.cells [(AV.osl (nl) (1) (0) (N) (N) (1) (true)), AV.bad, (AV.bool (true))] true), some (AObj.tarr [Sh.int IntKind.u8] (N) f false)]))
  (cond (Nat.ble (a + Int.toNat 8 + Int.toNat 8 + Int.toNat 8 + Int.toNat 1 + 24 + 2 + Int.toNat (val f (a + Int.toNat 8 + Int.toNat 8 + Int.toNat 8 + Int.toNat 1 + 24) 2) + Int.toNat 1) N)
  (cond (Nat.beq (Int.toNat (val f (a + Int.toNat 8 + Int.toNat 8 + Int.toNat 8 + Int.toNat 1 + 24 + 2 + Int.toNat (val f (a + Int.toNat 8 + Int.toNat 8 + Int.toNat 8 + Int.toNat 1 + 24) 2)) (Int.toNat 1))) 0)
  (some (CS.mk [(AV.agg [(AV.int IntKind.u64 ((val f (a) (8)))), (AV.int IntKind.u64 ((val f (a + Int.toNat 8) (8)))), (AV.int IntKind.u64 ((val f (a + Int.toNat 8 + Int.toNat 8) (8)))), (AV.int IntKind.i64 (IntKind.wrap IntKind.i64 (val f (a + Int.toNat 8 + Int.toNat 8 + Int.toNat 8) (Int.toNat 1)))), (AV.int IntKind.u64 ((val f (a + Int.toNat 8 + Int.toNat 8 + Int.toNat 8 + Int.toNat 1) (8)))), (AV.int IntKind.u64 ((val f (a + Int.toNat 8 + Int.toNat 8 + Int.toNat 8 + Int.toNat 1 + 8) (8)))), (AV.int IntKind.u32 (IntKind.wrap IntKind.u32 (val f (a + Int.toNat 8 + Int.toNat 8 + Int.toNat 8 + Int.toNat 1 + 16) 4))), (AV.int IntKind.u32 (IntKind.wrap IntKind.u32 (val f (a + Int.toNat 8 + Int.toNat 8 + Int.toNat 8 + Int.toNat 1 + 20) 4))), (AV.str ((strV f (a + Int.toNat 8 + Int.toNat 8 + Int.toNat 8 + Int.toNat 1 + 24 + 2) (Int.toNat (val f (a + Int.toNat 8 + Int.toNat 8 + Int.toNat 8 + Int.toNat 1 + 24) 2))))), AV.nilSlice])] [some (AObj.cells [(AV.osl (nl) (1) (0) (N) (N) (1) (true)), (AV.int IntKind.i64 ((↑(a + Int.toNat 8 + Int.toNat 8 + Int.toNat 8 + Int.toNat 1 + 24 + 2 + Int.toNat (val f (a + Int.toNat 8 + Int.toNat 8 + Int.toNat 8 + Int.toNat 1 + 24) 2) + Int.toNat 1) : Int))), (AV.bool (false))] true), some (AObj.tarr [Sh.int IntKind.u8] (N) f false)]))
  (cond (Nat.blt N (a + Int.toNat 8 + Int.toNat 8 + Int.toNat 8 + Int.toNat 1 + 24 + 2 + Int.toNat (val f (a + Int.toNat 8 + Int.toNat 8 + Int.toNat 8 + Int.toNat 1 + 24) 2) + Int.toNat 1 + 24 * Int.toNat (val f (a + Int.toNat 8 + Int.toNat 8 + Int.toNat 8 + Int.toNat 1 + 24 + 2 + Int.toNat (val f (a + Int.toNat 8 + Int.toNat 8 + Int.toNat 8 + Int.toNat 1 + 24) 2)) (Int.toNat 1))))
  (some (CS.mk [(AV.agg [(AV.int IntKind.u64 (0)), (AV.int IntKind.u64 (0)), (AV.int IntKind.u64 (0)), (AV.int IntKind.i64 (0)), (AV.int IntKind.u64 (0)), (AV.int IntKind.u64 (0)), (AV.int IntKind.u32 (0)), (AV.int IntKind.u32 (0)), (AV.str (bytesOf { data := #[] })), AV.nilSlice])] [some (AObj.cells [(AV.osl (nl) (1) (0) (N) (N) (1) (true)), AV.bad, (AV.bool (true))] true), some (AObj.tarr [Sh.int IntKind.u8] (N) f false)]))
  (some (CS.mk [(AV.agg [(AV.int IntKind.u64 ((val f (a) (8)))), (AV.int IntKind.u64 ((val f (a + Int.toNat 8) (8)))), (AV.int IntKind.u64 ((val f (a + Int.toNat 8 + Int.toNat 8) (8)))), (AV.int IntKind.i64 (IntKind.wrap IntKind.i64 (val f (a + Int.toNat 8 + Int.toNat 8 + Int.toNat 8) (Int.toNat 1)))), (AV.int IntKind.u64 ((val f (a + Int.toNat 8 + Int.toNat 8 + Int.toNat 8 + Int.toNat 1) (8)))), (AV.int IntKind.u64 ((val f (a + Int.toNat 8 + Int.toNat 8 + Int.toNat 8 + Int.toNat 1 + 8) (8)))), (AV.int IntKind.u32 (IntKind.wrap IntKind.u32 (val f (a + Int.toNat 8 + Int.toNat 8 + Int.toNat 8 + Int.toNat 1 + 16) 4))), (AV.int IntKind.u32 (IntKind.wrap IntKind.u32 (val f (a + Int.toNat 8 + Int.toNat 8 + Int.toNat 8 + Int.toNat 1 + 20) 4))), (AV.str ((strV f (a + Int.toNat 8 + Int.toNat 8 + Int.toNat 8 + Int.toNat 1 + 24 + 2) (Int.toNat (val f (a + Int.toNat 8 + Int.toNat 8 + Int.toNat 8 + Int.toNat 1 + 24) 2))))), (AV.tsl (1) (0) (Int.toNat (val f (a + Int.toNat 8 + Int.toNat 8 + Int.toNat 8 + Int.toNat 1 + 24 + 2 + Int.toNat (val f (a + Int.toNat 8 + Int.toNat 8 + Int.toNat 8 + Int.toNat 1 + 24) 2)) (Int.toNat 1))) (Int.toNat (val f (a + Int.toNat 8 + Int.toNat 8 + Int.toNat 8 + Int.toNat 1 + 24 + 2 + Int.toNat (val f (a + Int.toNat 8 + Int.toNat 8 + Int.toNat 8 + Int.toNat 1 + 24) 2)) (Int.toNat 1))) (4) (true))])] [some (AObj.cells [(AV.osl (nl) (2) (0) (N) (N) (1) (true)), (AV.int IntKind.i64 ((↑(a + Int.toNat 8 + Int.toNat 8 + Int.toNat 8 + Int.toNat 1 + 24 + 2 + Int.toNat (val f (a + Int.toNat 8 + Int.toNat 8 + Int.toNat 8 + Int.toNat 1 + 24) 2) + Int.toNat 1 + 24 * Int.toNat (val f (a + Int.toNat 8 + Int.toNat 8 + Int.toNat 8 + Int.toNat 1 + 24 + 2 + Int.toNat (val f (a + Int.toNat 8 + Int.toNat 8 + Int.toNat 8 + Int.toNat 1 + 24) 2)) (Int.toNat 1))) : Int))), (AV.bool (false))] true), some (AObj.tarr [Sh.int IntKind.u64, Sh.int IntKind.u64, Sh.int IntKind.u32, Sh.int IntKind.u32] (Int.toNat (val f (a + Int.toNat 8 + Int.toNat 8 + Int.toNat 8 + Int.toNat 1 + 24 + 2 + Int.toNat (val f (a + Int.toNat 8 + Int.toNat 8 + Int.toNat 8 + Int.toNat 1 + 24) 2)) (Int.toNat 1))) (lookF f (a + Int.toNat 8 + Int.toNat 8 + Int.toNat 8 + Int.toNat 1 + 24 + 2 + Int.toNat (val f (a + Int.toNat 8 + Int.toNat 8 + Int.toNat 8 + Int.toNat 1 + 24) 2) + Int.toNat 1)) true), some (AObj.tarr [Sh.int IntKind.u8] (N) f false)]))))
  none)))
  none))))
  none)))))
  none))
  none))
  none))
  none))
  none)
  none)
  none) := by
  rw [k15_is]
  try simp only [eq_self, decide_true, beq_self_eq_true, Nat.beq_refl, ble_self, Int.le_refl, Nat.le_refl]
  cases (okB f (N)) with
  | true =>
    cases (Nat.ble a N) with
    | true =>
      cases (Nat.ble N 1000000) with
      | true =>
        cases (Nat.blt N (a + Int.toNat 8)) with
        | true =>
          rfl
        | false =>
          cases (Nat.ble (a + Int.toNat 8) N) with
          | true =>
            cases (Nat.blt N (a + Int.toNat 8 + Int.toNat 8)) with
            | true =>
              rfl
            | false =>
              cases (Nat.ble (a + Int.toNat 8 + Int.toNat 8) N) with
              | true =>
                cases (Nat.blt N (a + Int.toNat 8 + Int.toNat 8 + Int.toNat 8)) with
                | true =>
                  rfl
                | false =>
                  cases (Nat.ble (a + Int.toNat 8 + Int.toNat 8 + Int.toNat 8) N) with
                  | true =>
                    cases (Nat.blt N (a + Int.toNat 8 + Int.toNat 8 + Int.toNat 8 + Int.toNat 1)) with
                    | true =>
                      rfl
                    | false =>
                      cases (Nat.ble (a + Int.toNat 8 + Int.toNat 8 + Int.toNat 8 + Int.toNat 1) N) with
                      | true =>
                        cases (Nat.blt N (a + Int.toNat 8 + Int.toNat 8 + Int.toNat 8 + Int.toNat 1 + 8)) with
                        | true =>
                          rfl
                        | false =>
                          cases (Nat.blt N (a + Int.toNat 8 + Int.toNat 8 + Int.toNat 8 + Int.toNat 1 + 16)) with
                          | true =>
                            rfl
                          | false =>
                            cases (Nat.blt N (a + Int.toNat 8 + Int.toNat 8 + Int.toNat 8 + Int.toNat 1 + 20)) with
                            | true =>
                              rfl
                            | false =>
                              cases (Nat.blt N (a + Int.toNat 8 + Int.toNat 8 + Int.toNat 8 + Int.toNat 1 + 24)) with
                              | true =>
                                rfl
                              | false =>
                                cases (Nat.ble (a + Int.toNat 8 + Int.toNat 8 + Int.toNat 8 + Int.toNat 1 + 24) N) with
                                | true =>
                                  cases (Nat.blt N (a + Int.toNat 8 + Int.toNat 8 + Int.toNat 8 + Int.toNat 1 + 24 + 2)) with
                                  | true =>
                                    rfl
                                  | false =>
                                    cases (decide (val f (a + Int.toNat 8 + Int.toNat 8 + Int.toNat 8 + Int.toNat 1 + 24) 2 > 16384)) with
                                    | true =>
                                      rfl
                                    | false =>
                                      cases (Nat.blt N (a + Int.toNat 8 + Int.toNat 8 + Int.toNat 8 + Int.toNat 1 + 24 + 2 + Int.toNat (val f (a + Int.toNat 8 + Int.toNat 8 + Int.toNat 8 + Int.toNat 1 + 24) 2))) with
                                      | true =>
                                        rfl
                                      | false =>
                                        cases (Nat.ble (a + Int.toNat 8 + Int.toNat 8 + Int.toNat 8 + Int.toNat 1 + 24 + 2 + Int.toNat (val f (a + Int.toNat 8 + Int.toNat 8 + Int.toNat 8 + Int.toNat 1 + 24) 2)) N) with
                                        | true =>
                                          cases (Nat.blt N (a + Int.toNat 8 + Int.toNat 8 + Int.toNat 8 + Int.toNat 1 + 24 + 2 + Int.toNat (val f (a + Int.toNat 8 + Int.toNat 8 + Int.toNat 8 + Int.toNat 1 + 24) 2) + Int.toNat 1)) with
                                          | true =>
                                            rfl
                                          | false =>
                                            cases (decide (val f (a + Int.toNat 8 + Int.toNat 8 + Int.toNat 8 + Int.toNat 1 + 24 + 2 + Int.toNat (val f (a + Int.toNat 8 + Int.toNat 8 + Int.toNat 8 + Int.toNat 1 + 24) 2)) (Int.toNat 1) > 64)) with
                                            | true =>
                                              rfl
                                            | false =>
                                              cases (Nat.ble (a + Int.toNat 8 + Int.toNat 8 + Int.toNat 8 + Int.toNat 1 + 24 + 2 + Int.toNat (val f (a + Int.toNat 8 + Int.toNat 8 + Int.toNat 8 + Int.toNat 1 + 24) 2) + Int.toNat 1) N) with
                                              | true =>
                                                cases (Nat.beq (Int.toNat (val f (a + Int.toNat 8 + Int.toNat 8 + Int.toNat 8 + Int.toNat 1 + 24 + 2 + Int.toNat (val f (a + Int.toNat 8 + Int.toNat 8 + Int.toNat 8 + Int.toNat 1 + 24) 2)) (Int.toNat 1))) 0) with
                                                | true =>
                                                  rfl
                                                | false =>
                                                  cases (Nat.blt N (a + Int.toNat 8 + Int.toNat 8 + Int.toNat 8 + Int.toNat 1 + 24 + 2 + Int.toNat (val f (a + Int.toNat 8 + Int.toNat 8 + Int.toNat 8 + Int.toNat 1 + 24) 2) + Int.toNat 1 + 24 * Int.toNat (val f (a + Int.toNat 8 + Int.toNat 8 + Int.toNat 8 + Int.toNat 1 + 24 + 2 + Int.toNat (val f (a + Int.toNat 8 + Int.toNat 8 + Int.toNat 8 + Int.toNat 1 + 24) 2)) (Int.toNat 1)))) with
                                                  | true =>
                                                    rfl
                                                  | false =>
                                                    rfl
                                              | false =>
                                                rfl
                                        | false =>
                                          rfl
                                | false =>
                                  rfl
                      | false =>
                        rfl
                  | false =>
                    rfl
              | false =>
                rfl
          | false =>
            rfl
      | false =>
        rfl
    | false =>
      rfl
  | false =>
    rfl
end Go.Proofs.Ytjbjjikdihghmaa.entry
