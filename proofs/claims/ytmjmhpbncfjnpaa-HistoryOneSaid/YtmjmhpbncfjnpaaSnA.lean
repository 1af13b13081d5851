/- Part 1 of the texts that YtmjmhpbncfjnpaaLawOne needs: an abstract machine, and what it reckons. No condition. -/
import Derived.Test.YtmjmhpbncfjnpaaRows
import Derived.Test.YtmjmhpbncfjnpaaBmVq
import Derived.KernelRfl
section
set_option linter.unusedSimpArgs false
set_option linter.unusedVariables false
set_option maxRecDepth 20000
namespace Go.Proofs.Ytmjmhpbncfjnpaa.history
open Go Go.RowKit Go.Proofs.Ytmjmhpbncfjnpaa.Bm
noncomputable def E0 : Env := mkEnv Try.prog 100 58
noncomputable def E1 : Env := { E0 with tyd := fun t => Nat.beq t 4 || Nat.beq t 5 }
abbrev shO : List Sh := [.int .u64, .bool, .int .u32, .int .u32, .str, .int .i64, .int .i64, .bool]
abbrev shK : List Sh := [.int .u32, .str]
abbrev shB : List Sh := [.bool]
def pF : List PV := [.asl shO, .keep, .keep]
structure Opn where
 cl : Int
 w : Bool
 fr : Int
 ct : Int
 d : List Nat
 b : Int
 e : Int
 nv : Bool
def Opn.cell (x : Opn) : Nat → AV
 | 0 => .int .u64 x.cl
 | 1 => .bool x.w
 | 2 => .int .u32 x.fr
 | 3 => .int .u32 x.ct
 | 4 => .str x.d
 | 5 => .int .i64 x.b
 | 6 => .int .i64 x.e
 | _ => .bool x.nv
def nilO : Opn := ⟨0, false, 0, 0, [], 0, 0, false⟩
def finO (L : List Opn) (i j : Nat) : AV := (L.getD i nilO).cell j
def opAt (f : Nat → Nat → AV) (i : Nat) : Opn := ⟨(f i 0).toI, (f i 1).toB, (f i 2).toI, (f i 3).toI, (f i 4).toS, (f i 5).toI, (f i 6).toI, (f i 7).toB⟩
def rdO (f : Nat → Nat → AV) (n : Nat) : List Opn := (List.range n).map (opAt f)
def mayO (x : Opn) : Bool := !x.nv && (x.w || x.e != 0)
def doO (x : Opn) (s : List Nat) : Option (List Nat) := cond x.w (some (s.take (8 * x.fr).toNat ++ x.d ++ s.drop (8 * (x.fr + x.ct)).toNat)) (cond ((s.drop (8 * x.fr).toNat).take (8 * x.ct).toNat == x.d) (some s) none)
def nextB (f : Nat → Nat → AV) (n must i d : Nat) : Bool := okFrom (fun k => !(!(Nat.beq k i) && (Nat.testBit must k && (!(Nat.testBit d k) && decide ((f k 6).toI ≤ (f i 5).toI))))) 0 n
abbrev Sn := (AV → Bool) × (AV → Nat → AV)
def keyS (d : Nat) (s : List Nat) : AV := .agg [.int .u32 (d : Int), .str s]
def seenS (σ : Sn) (d : Nat) (s : List Nat) : Bool := AV.toB (cond (σ.1 (keyS d s)) (σ.2 (keyS d s) 0) (.bool false))
def putS (σ : Sn) (d : Nat) (s : List Nat) : Sn := (fun x => cond (AV.beq x (keyS d s)) true (σ.1 x), fun x j => cond (AV.beq x (keyS d s)) (getAt [.bool true] j) (σ.2 x j))
def goS (f : Nat → Nat → AV) (n must : Nat) (rec : Sn → Nat → List Nat → Bool × Sn) (d : Nat) (s : List Nat) : Nat → Nat → Sn → Bool × Sn
 | 0, _, σ => (false, σ)
 | j + 1, i, σ => cond (Nat.testBit d i || !(nextB f n must i d)) (goS f n must rec d s j (i + 1) σ) (match doO (opAt f i) s with
   | none => goS f n must rec d s j (i + 1) σ
   | some s' => cond (rec σ (d ||| 2 ^ i) s').1 (true, (rec σ (d ||| 2 ^ i) s').2) (goS f n must rec d s j (i + 1) (rec σ (d ||| 2 ^ i) s').2))
def findS (f : Nat → Nat → AV) (n must : Nat) : Nat → Sn → Nat → List Nat → Bool × Sn
 | 0, σ, d, _ => (Nat.beq (d &&& must) must, σ)
 | k + 1, σ, d, s => cond (Nat.beq (d &&& must) must) (true, σ) (cond (seenS σ d s) (false, σ) (goS f n must (findS f n must k) d s n 0 (putS σ d s)))
def leftN (d : Nat) : Nat → Nat
 | 0 => 0
 | n + 1 => leftN d n + cond (Nat.testBit d n) 0 1
def h28 : Pat := ⟨54, [(0, .keep), (1, .keep), (2, .keep), (13, .asl shO), (14, .keep), (15, .keep)], [pF]⟩
def x28 : List (Ex × Pat) := [(.exit 0, ⟨54, [], []⟩), (.ret, ⟨54, [(6, .keep)], []⟩)]
def c28 (n : Nat) (f : Nat → Nat → AV) (mu : Nat) (hs : AV → Bool) (hf : AV → Nat → AV) (i : Nat) (d : Nat) (k : Nat) : CS :=
 ⟨[.ptr 0 0, .int .i64 (i : Nat), .int .u32 (d : Nat), .osl false 1 0 n n 8 true, .int .i64 (n : Nat), .int .i64 (k : Nat)], [some (.cells [.osl false 1 0 n n 8 true, .int .u32 (mu : Nat), .map 2] false), some (.tarr shO n f false), some (.omap shK shB true false [.bool false] hs hf false)]⟩
def a29 (n : Nat) (f : Nat → Nat → AV) (mu : Nat) (hs : AV → Bool) (hf : AV → Nat → AV) (i : Nat) (s : List Nat) : CS :=
 ⟨[.ptr 0 0, .int .i64 (i : Nat), .str s], [some (.cells [.osl false 1 0 n n 8 true, .int .u32 (mu : Nat), .map 2] false), some (.tarr shO n f false), some (.omap shK shB true false [.bool false] hs hf false)]⟩
def a28 (n : Nat) (f : Nat → Nat → AV) (mu : Nat) (hs : AV → Bool) (hf : AV → Nat → AV) (i : Nat) (d : Nat) : CS :=
 ⟨[.ptr 0 0, .int .i64 (i : Nat), .int .u32 (d : Nat)], [some (.cells [.osl false 1 0 n n 8 true, .int .u32 (mu : Nat), .map 2] false), some (.tarr shO n f false), some (.omap shK shB true false [.bool false] hs hf false)]⟩
theorem nextVE : ∃ q : (Nat → Nat → AV) → Nat → Nat → Nat → Nat → Bool, q = nextB := ⟨_, rfl⟩
noncomputable def nextV : (Nat → Nat → AV) → Nat → Nat → Nat → Nat → Bool := Classical.choose nextVE
theorem nextV_eq : nextV = nextB := Classical.choose_spec nextVE
def doF (f : Nat → Nat → AV) (i : Nat) (s : List Nat) : Option (List Nat) := doO (opAt f i) s
def okD (f : Nat → Nat → AV) (n L : Nat) : Bool := decide (L ≤ 1000) && okFrom (fun t => decide (0 ≤ (opAt f t).fr) && (decide (1 ≤ (opAt f t).ct) && (decide (8 * ((opAt f t).fr + (opAt f t).ct) ≤ (L : Int)) && decide (((opAt f t).d.length : Int) = 8 * (opAt f t).ct)))) 0 n
theorem doVE : ∃ q : (Nat → Nat → AV) → Nat → List Nat → Option (List Nat), q = doF := ⟨_, rfl⟩
noncomputable def doV : (Nat → Nat → AV) → Nat → List Nat → Option (List Nat) := Classical.choose doVE
theorem doV_eq : doV = doF := Classical.choose_spec doVE
theorem okDVE : ∃ q : (Nat → Nat → AV) → Nat → Nat → Bool, q = okD := ⟨_, rfl⟩
noncomputable def okDV : (Nat → Nat → AV) → Nat → Nat → Bool := Classical.choose okDVE
theorem okDV_eq : okDV = okD := Classical.choose_spec okDVE
noncomputable def r28B  (n : Nat) (f : Nat → Nat → AV) (mu : Nat) (hs : AV → Bool) (hf : AV → Nat → AV) (i : Nat) (d : Nat) : T (Nat × CS) :=
 chkT [Nat.ble n 16, Nat.blt i n, Nat.blt mu 65536, Nat.blt d 65536] (.ask (nextV f n mu i d) (.ret (1, ⟨[], []⟩)) (.ret (2, ⟨[.bool false], []⟩)))
noncomputable def r28  (c : CS) : T (Nat × CS) := match c with
 | ⟨[.ptr 0 0, .int .i64 (.ofNat i), .int .u32 (.ofNat d), .osl z_1 1 0 n z_2 8 true, .int .i64 z_3, .int .i64 z_4], [some (.cells [.osl z_5 1 0 z_6 z_7 8 true, .int .u32 (.ofNat mu), .map 2] false), some (.tarr sh_8 z_9 f false), some (.omap sh_10 sh_11 true false sz_12 hs hf false)]⟩ => chkT [decide (false = z_1), decide (n = z_2), decide ((n : Nat) = z_3), decide (0 = z_4), decide (false = z_5), decide (n = z_6), decide (n = z_7), shBeq sh_8 shO, decide (n = z_9), shBeq sh_10 shK, shBeq sh_11 shB, AV.beqL sz_12 [.bool false]] (r28B  n f mu hs hf i d)
 | _ => .fail
noncomputable def E2 : Env := addL E1 28 0 1000000 h28 x28 0 r28
def b28 (n : Nat) (f : Nat → Nat → AV) (mu : Nat) (hs : AV → Bool) (hf : AV → Nat → AV) (i : Int) (d : Nat) : CS :=
 ⟨[.ptr 0 0, .int .i64 i, .int .u32 (d : Nat)], [some (.cells [.osl false 1 0 n n 8 true, .int .u32 (mu : Nat), .map 2] false), some (.tarr shO n f false), some (.omap shK shB true false [.bool false] hs hf false)]⟩
def b29 (n : Nat) (f : Nat → Nat → AV) (mu : Nat) (hs : AV → Bool) (hf : AV → Nat → AV) (i : Int) (s : List Nat) : CS :=
 ⟨[.ptr 0 0, .int .i64 i, .str s], [some (.cells [.osl false 1 0 n n 8 true, .int .u32 (mu : Nat), .map 2] false), some (.tarr shO n f false), some (.omap shK shB true false [.bool false] hs hf false)]⟩
noncomputable def f28B  (n : Nat) (f : Nat → Nat → AV) (mu : Nat) (hs : AV → Bool) (hf : AV → Nat → AV) (i : Int) (d : Nat) : T (CS) :=
 chkT [Nat.ble n 16, decide (0 ≤ i), Nat.blt i.toNat n, Nat.blt mu 65536, Nat.blt d 65536] (.ret ⟨[.bool (nextV f n mu i.toNat d)], []⟩)
noncomputable def f28  (c : CS) : T (CS) := match c with
 | ⟨[.ptr 0 0, .int .i64 i, .int .u32 (.ofNat d)], [some (.cells [.osl z_1 1 0 n z_2 8 true, .int .u32 (.ofNat mu), .map 2] false), some (.tarr sh_3 z_4 f false), some (.omap sh_5 sh_6 true false sz_7 hs hf false)]⟩ => chkT [decide (false = z_1), decide (n = z_2), shBeq sh_3 shO, decide (n = z_4), shBeq sh_5 shK, shBeq sh_6 shB, AV.beqL sz_7 [.bool false]] (f28B  n f mu hs hf i d)
 | _ => .fail
noncomputable def f29B  (n : Nat) (f : Nat → Nat → AV) (mu : Nat) (hs : AV → Bool) (hf : AV → Nat → AV) (i : Int) (s : List Nat) : T (CS) :=
 chkT [decide (0 ≤ i), Nat.blt i.toNat n, okDV f n s.length] (.ask (doV f i.toNat s).isSome (.ret ⟨[.tuple [.str ((doV f i.toNat s).getD []), .bool true]], []⟩) (.ret ⟨[.tuple [.str s, .bool false]], []⟩))
noncomputable def f29  (c : CS) : T (CS) := match c with
 | ⟨[.ptr 0 0, .int .i64 i, .str s], [some (.cells [.osl z_1 1 0 n z_2 8 true, .int .u32 (.ofNat mu), .map 2] false), some (.tarr sh_3 z_4 f false), some (.omap sh_5 sh_6 true false sz_7 hs hf false)]⟩ => chkT [decide (false = z_1), decide (n = z_2), shBeq sh_3 shO, decide (n = z_4), shBeq sh_5 shK, shBeq sh_6 shB, AV.beqL sz_7 [.bool false]] (f29B  n f mu hs hf i s)
 | _ => .fail
noncomputable def E3 : Env := addF (addF E2 28 ⟨frRun [.keep, .keep, .keep] [pF] f28⟩) 29 ⟨frRun [.keep, .keep, .keep] [pF] f29⟩
noncomputable def s28 (n : Nat) (f : Nat → Nat → AV) (mu : Nat) (hs : AV → Bool) (hf : AV → Nat → AV) (i : Nat) (d : Nat) (k : Nat) (π : Plan) : Option (Nat × CS) := stepC (E1) (400) (loopC E1 28 0) (0) (h28) ((.normal, h28) :: x28) π (c28 n f mu hs hf i d k)
def s28_p : Plan := (.fork (.reck 1 (.must true (.fork (.reck 1 (.fork (.must true (.must true (.must true (.must true (.must true (.must true (.must true (.fork (.must true (.must true (.must true (.must true (.fork (.must true (.must true (.must true (.must true (.must true (.must true (.must true (.reck 1 (.fork (.must true (.must true (.fork (.must true (.must true (.must true (.must true (.reck 2 (.must true (.must true (.must true (.must true (.fork .stop .stop)))))))))) .stop))) .stop))))))))) (.must false (.must false (.must false (.must false (.must false (.must false (.must false (.must false (.must false (.must false (.must false (.must true .stop))))))))))))))))) (.must false (.must false (.must false (.must false (.reck 12 (.must true .stop)))))))))))))) (.must false (.must false (.must false (.must false (.must false (.must false (.must false .stop))))))))) .stop))) .stop)
theorem s28_is (n : Nat) (f : Nat → Nat → AV) (mu : Nat) (hs : AV → Bool) (hf : AV → Nat → AV) (i : Nat) (d : Nat) (k : Nat) : s28 n f mu hs hf i d k s28_p = (cond (decide ((↑k : Int) < (↑n : Int)))
 (cond (decide ((↑k : Int) < (↑n : Int))) (cond (Nat.blt (0 + Int.toNat (↑k : Int)) n)
 (cond (((↑k : Int) != (↑i : Int)) == true)
 (cond (((↑k : Int) != (↑i : Int)) == true) (cond (((↑k : Int) != (↑i : Int)) == true) (cond (((↑k : Int) != (↑i : Int)) == true) (cond (((↑k : Int) != (↑i : Int)) == true) (cond (((↑k : Int) != (↑i : Int)) == true) (cond (((↑k : Int) != (↑i : Int)) == true) (cond ((↑k : Int) != (↑i : Int)) (cond ((Env.bits E1 BinOp.and IntKind.u32 (↑mu : Int) (IntKind.wrap IntKind.u32 (1 * 2 ^ min (Int.toNat (↑k : Int)) (IntKind.bits IntKind.u32))) != 0) == true)
 (cond ((Env.bits E1 BinOp.and IntKind.u32 (↑mu : Int) (IntKind.wrap IntKind.u32 (1 * 2 ^ min (Int.toNat (↑k : Int)) (IntKind.bits IntKind.u32))) != 0) == true) (cond ((Env.bits E1 BinOp.and IntKind.u32 (↑mu : Int) (IntKind.wrap IntKind.u32 (1 * 2 ^ min (Int.toNat (↑k : Int)) (IntKind.bits IntKind.u32))) != 0) == true) (cond ((Env.bits E1 BinOp.and IntKind.u32 (↑mu : Int) (IntKind.wrap IntKind.u32 (1 * 2 ^ min (Int.toNat (↑k : Int)) (IntKind.bits IntKind.u32))) != 0) == true) (cond (Env.bits E1 BinOp.and IntKind.u32 (↑mu : Int) (IntKind.wrap IntKind.u32 (1 * 2 ^ min (Int.toNat (↑k : Int)) (IntKind.bits IntKind.u32))) != 0) (cond ((Env.bits E1 BinOp.and IntKind.u32 (↑d : Int) (IntKind.wrap IntKind.u32 (1 * 2 ^ min (Int.toNat (↑k : Int)) (IntKind.bits IntKind.u32))) == 0) == true)
 (cond ((Env.bits E1 BinOp.and IntKind.u32 (↑d : Int) (IntKind.wrap IntKind.u32 (1 * 2 ^ min (Int.toNat (↑k : Int)) (IntKind.bits IntKind.u32))) == 0) == true) (cond ((Env.bits E1 BinOp.and IntKind.u32 (↑d : Int) (IntKind.wrap IntKind.u32 (1 * 2 ^ min (Int.toNat (↑k : Int)) (IntKind.bits IntKind.u32))) == 0) == true) (cond ((Env.bits E1 BinOp.and IntKind.u32 (↑d : Int) (IntKind.wrap IntKind.u32 (1 * 2 ^ min (Int.toNat (↑k : Int)) (IntKind.bits IntKind.u32))) == 0) == true) (cond ((Env.bits E1 BinOp.and IntKind.u32 (↑d : Int) (IntKind.wrap IntKind.u32 (1 * 2 ^ min (Int.toNat (↑k : Int)) (IntKind.bits IntKind.u32))) == 0) == true) (cond ((Env.bits E1 BinOp.and IntKind.u32 (↑d : Int) (IntKind.wrap IntKind.u32 (1 * 2 ^ min (Int.toNat (↑k : Int)) (IntKind.bits IntKind.u32))) == 0) == true) (cond ((Env.bits E1 BinOp.and IntKind.u32 (↑d : Int) (IntKind.wrap IntKind.u32 (1 * 2 ^ min (Int.toNat (↑k : Int)) (IntKind.bits IntKind.u32))) == 0) == true) (cond ((Env.bits E1 BinOp.and IntKind.u32 (↑d : Int) (IntKind.wrap IntKind.u32 (1 * 2 ^ min (Int.toNat (↑k : Int)) (IntKind.bits IntKind.u32))) == 0) == true) (cond (decide ((↑i : Int) < (↑n : Int)))
 (cond ((Env.bits E1 BinOp.and IntKind.u32 (↑d : Int) (IntKind.wrap IntKind.u32 (1 * 2 ^ min (Int.toNat (↑k : Int)) (IntKind.bits IntKind.u32))) == 0) == true) (cond ((Env.bits E1 BinOp.and IntKind.u32 (↑d : Int) (IntKind.wrap IntKind.u32 (1 * 2 ^ min (Int.toNat (↑k : Int)) (IntKind.bits IntKind.u32))) == 0) == true) (cond (Nat.blt (0 + Int.toNat (↑i : Int)) n)
 (cond ((Env.bits E1 BinOp.and IntKind.u32 (↑d : Int) (IntKind.wrap IntKind.u32 (1 * 2 ^ min (Int.toNat (↑k : Int)) (IntKind.bits IntKind.u32))) == 0) == true) (cond (Env.bits E1 BinOp.and IntKind.u32 (↑d : Int) (IntKind.wrap IntKind.u32 (1 * 2 ^ min (Int.toNat (↑k : Int)) (IntKind.bits IntKind.u32))) == 0) (cond (Nat.blt (0 + Int.toNat (↑i : Int)) n) (cond (decide (AV.toI (f (0 + Int.toNat (↑i : Int)) (5)) = AV.toI (f (0 + Int.toNat (↑i : Int)) (5)))) (cond (Nat.beq n n) (cond (Nat.beq n n) (cond (decide (AV.toI (f (0 + Int.toNat (↑k : Int)) (6)) = AV.toI (f (0 + Int.toNat (↑k : Int)) (6)))) (cond (decide ((↑mu : Int) = (↑mu : Int))) (cond (decide (AV.toI (f (0 + Int.toNat (↑k : Int)) (6)) ≤ AV.toI (f (0 + Int.toNat (↑i : Int)) (5))))
 (some (2, (CS.mk [(AV.bool (false))] [])))
 (some (0, (CS.mk [(AV.ptr (0) (0)), (AV.int IntKind.i64 ((↑i : Int))), (AV.int IntKind.u32 ((↑d : Int))), (AV.osl (false) (1) (0) (n) (n) (8) (true)), (AV.int IntKind.i64 ((↑n : Int))), (AV.int IntKind.i64 (IntKind.wrap IntKind.i64 ((↑k : Int) + 1)))] [some (AObj.cells [(AV.osl (false) (1) (0) (n) (n) (8) (true)), (AV.int IntKind.u32 ((↑mu : Int))), (AV.map (2))] false), some (AObj.tarr shO (n) f false), some (AObj.omap shK shB true false [(AV.bool (false))] hs hf false)])))) none) none) none) none) none) none) none) none)
 none) none) none)
 none) none) none) none) none) none) none) none)
 (cond ((Env.bits E1 BinOp.and IntKind.u32 (↑d : Int) (IntKind.wrap IntKind.u32 (1 * 2 ^ min (Int.toNat (↑k : Int)) (IntKind.bits IntKind.u32))) == 0) == true) none (cond ((Env.bits E1 BinOp.and IntKind.u32 (↑d : Int) (IntKind.wrap IntKind.u32 (1 * 2 ^ min (Int.toNat (↑k : Int)) (IntKind.bits IntKind.u32))) == 0) == true) none (cond ((Env.bits E1 BinOp.and IntKind.u32 (↑d : Int) (IntKind.wrap IntKind.u32 (1 * 2 ^ min (Int.toNat (↑k : Int)) (IntKind.bits IntKind.u32))) == 0) == true) none (cond ((Env.bits E1 BinOp.and IntKind.u32 (↑d : Int) (IntKind.wrap IntKind.u32 (1 * 2 ^ min (Int.toNat (↑k : Int)) (IntKind.bits IntKind.u32))) == 0) == true) none (cond ((Env.bits E1 BinOp.and IntKind.u32 (↑d : Int) (IntKind.wrap IntKind.u32 (1 * 2 ^ min (Int.toNat (↑k : Int)) (IntKind.bits IntKind.u32))) == 0) == true) none (cond ((Env.bits E1 BinOp.and IntKind.u32 (↑d : Int) (IntKind.wrap IntKind.u32 (1 * 2 ^ min (Int.toNat (↑k : Int)) (IntKind.bits IntKind.u32))) == 0) == true) none (cond ((Env.bits E1 BinOp.and IntKind.u32 (↑d : Int) (IntKind.wrap IntKind.u32 (1 * 2 ^ min (Int.toNat (↑k : Int)) (IntKind.bits IntKind.u32))) == 0) == true) none (cond ((Env.bits E1 BinOp.and IntKind.u32 (↑d : Int) (IntKind.wrap IntKind.u32 (1 * 2 ^ min (Int.toNat (↑k : Int)) (IntKind.bits IntKind.u32))) == 0) == true) none (cond ((Env.bits E1 BinOp.and IntKind.u32 (↑d : Int) (IntKind.wrap IntKind.u32 (1 * 2 ^ min (Int.toNat (↑k : Int)) (IntKind.bits IntKind.u32))) == 0) == true) none (cond ((Env.bits E1 BinOp.and IntKind.u32 (↑d : Int) (IntKind.wrap IntKind.u32 (1 * 2 ^ min (Int.toNat (↑k : Int)) (IntKind.bits IntKind.u32))) == 0) == true) none (cond (Env.bits E1 BinOp.and IntKind.u32 (↑d : Int) (IntKind.wrap IntKind.u32 (1 * 2 ^ min (Int.toNat (↑k : Int)) (IntKind.bits IntKind.u32))) == 0) none (cond (decide ((↑mu : Int) = (↑mu : Int))) (some (0, (CS.mk [(AV.ptr (0) (0)), (AV.int IntKind.i64 ((↑i : Int))), (AV.int IntKind.u32 ((↑d : Int))), (AV.osl (false) (1) (0) (n) (n) (8) (true)), (AV.int IntKind.i64 ((↑n : Int))), (AV.int IntKind.i64 (IntKind.wrap IntKind.i64 ((↑k : Int) + 1)))] [some (AObj.cells [(AV.osl (false) (1) (0) (n) (n) (8) (true)), (AV.int IntKind.u32 ((↑mu : Int))), (AV.map (2))] false), some (AObj.tarr shO (n) f false), some (AObj.omap shK shB true false [(AV.bool (false))] hs hf false)]))) none))))))))))))) none) none) none) none)
 (cond ((Env.bits E1 BinOp.and IntKind.u32 (↑mu : Int) (IntKind.wrap IntKind.u32 (1 * 2 ^ min (Int.toNat (↑k : Int)) (IntKind.bits IntKind.u32))) != 0) == true) none (cond ((Env.bits E1 BinOp.and IntKind.u32 (↑mu : Int) (IntKind.wrap IntKind.u32 (1 * 2 ^ min (Int.toNat (↑k : Int)) (IntKind.bits IntKind.u32))) != 0) == true) none (cond ((Env.bits E1 BinOp.and IntKind.u32 (↑mu : Int) (IntKind.wrap IntKind.u32 (1 * 2 ^ min (Int.toNat (↑k : Int)) (IntKind.bits IntKind.u32))) != 0) == true) none (cond (Env.bits E1 BinOp.and IntKind.u32 (↑mu : Int) (IntKind.wrap IntKind.u32 (1 * 2 ^ min (Int.toNat (↑k : Int)) (IntKind.bits IntKind.u32))) != 0) none (cond (decide ((↑mu : Int) = (↑mu : Int))) (some (0, (CS.mk [(AV.ptr (0) (0)), (AV.int IntKind.i64 ((↑i : Int))), (AV.int IntKind.u32 ((↑d : Int))), (AV.osl (false) (1) (0) (n) (n) (8) (true)), (AV.int IntKind.i64 ((↑n : Int))), (AV.int IntKind.i64 (IntKind.wrap IntKind.i64 ((↑k : Int) + 1)))] [some (AObj.cells [(AV.osl (false) (1) (0) (n) (n) (8) (true)), (AV.int IntKind.u32 ((↑mu : Int))), (AV.map (2))] false), some (AObj.tarr shO (n) f false), some (AObj.omap shK shB true false [(AV.bool (false))] hs hf false)]))) none)))))) none) none) none) none) none) none) none)
 (cond (((↑k : Int) != (↑i : Int)) == true) none (cond (((↑k : Int) != (↑i : Int)) == true) none (cond (((↑k : Int) != (↑i : Int)) == true) none (cond (((↑k : Int) != (↑i : Int)) == true) none (cond (((↑k : Int) != (↑i : Int)) == true) none (cond (((↑k : Int) != (↑i : Int)) == true) none (cond ((↑k : Int) != (↑i : Int)) none (some (0, (CS.mk [(AV.ptr (0) (0)), (AV.int IntKind.i64 ((↑i : Int))), (AV.int IntKind.u32 ((↑d : Int))), (AV.osl (false) (1) (0) (n) (n) (8) (true)), (AV.int IntKind.i64 ((↑n : Int))), (AV.int IntKind.i64 (IntKind.wrap IntKind.i64 ((↑k : Int) + 1)))] [some (AObj.cells [(AV.osl (false) (1) (0) (n) (n) (8) (true)), (AV.int IntKind.u32 ((↑mu : Int))), (AV.map (2))] false), some (AObj.tarr shO (n) f false), some (AObj.omap shK shB true false [(AV.bool (false))] hs hf false)])))))))))))
 none) none)
 (some (1, (CS.mk [] [])))) := by kernel_rfl
theorem s28_eq (n : Nat) (f : Nat → Nat → AV) (mu : Nat) (hs : AV → Bool) (hf : AV → Nat → AV) (i : Nat) (d : Nat) (k : Nat) : s28 n f mu hs hf i d k s28_p = (cond (decide ((↑k : Int) < (↑n : Int)))
 (cond (Nat.blt (0 + Int.toNat (↑k : Int)) n)
 (cond ((↑k : Int) != (↑i : Int))
 (cond (Env.bits E1 BinOp.and IntKind.u32 (↑mu : Int) (IntKind.wrap IntKind.u32 (1 * 2 ^ min (Int.toNat (↑k : Int)) (IntKind.bits IntKind.u32))) != 0)
 (cond (Env.bits E1 BinOp.and IntKind.u32 (↑d : Int) (IntKind.wrap IntKind.u32 (1 * 2 ^ min (Int.toNat (↑k : Int)) (IntKind.bits IntKind.u32))) == 0)
 (cond (decide ((↑i : Int) < (↑n : Int)))
 (cond (Nat.blt (0 + Int.toNat (↑i : Int)) n)
 (cond (decide (AV.toI (f (0 + Int.toNat (↑k : Int)) (6)) ≤ AV.toI (f (0 + Int.toNat (↑i : Int)) (5))))
 (some (2, (CS.mk [(AV.bool (false))] [])))
 (some (0, (CS.mk [(AV.ptr (0) (0)), (AV.int IntKind.i64 ((↑i : Int))), (AV.int IntKind.u32 ((↑d : Int))), (AV.osl (false) (1) (0) (n) (n) (8) (true)), (AV.int IntKind.i64 ((↑n : Int))), (AV.int IntKind.i64 (IntKind.wrap IntKind.i64 ((↑k : Int) + 1)))] [some (AObj.cells [(AV.osl (false) (1) (0) (n) (n) (8) (true)), (AV.int IntKind.u32 ((↑mu : Int))), (AV.map (2))] false), some (AObj.tarr shO (n) f false), some (AObj.omap shK shB true false [(AV.bool (false))] hs hf false)]))))
 none)
 none)
 (some (0, (CS.mk [(AV.ptr (0) (0)), (AV.int IntKind.i64 ((↑i : Int))), (AV.int IntKind.u32 ((↑d : Int))), (AV.osl (false) (1) (0) (n) (n) (8) (true)), (AV.int IntKind.i64 ((↑n : Int))), (AV.int IntKind.i64 (IntKind.wrap IntKind.i64 ((↑k : Int) + 1)))] [some (AObj.cells [(AV.osl (false) (1) (0) (n) (n) (8) (true)), (AV.int IntKind.u32 ((↑mu : Int))), (AV.map (2))] false), some (AObj.tarr shO (n) f false), some (AObj.omap shK shB true false [(AV.bool (false))] hs hf false)]))))
 (some (0, (CS.mk [(AV.ptr (0) (0)), (AV.int IntKind.i64 ((↑i : Int))), (AV.int IntKind.u32 ((↑d : Int))), (AV.osl (false) (1) (0) (n) (n) (8) (true)), (AV.int IntKind.i64 ((↑n : Int))), (AV.int IntKind.i64 (IntKind.wrap IntKind.i64 ((↑k : Int) + 1)))] [some (AObj.cells [(AV.osl (false) (1) (0) (n) (n) (8) (true)), (AV.int IntKind.u32 ((↑mu : Int))), (AV.map (2))] false), some (AObj.tarr shO (n) f false), some (AObj.omap shK shB true false [(AV.bool (false))] hs hf false)]))))
 (some (0, (CS.mk [(AV.ptr (0) (0)), (AV.int IntKind.i64 ((↑i : Int))), (AV.int IntKind.u32 ((↑d : Int))), (AV.osl (false) (1) (0) (n) (n) (8) (true)), (AV.int IntKind.i64 ((↑n : Int))), (AV.int IntKind.i64 (IntKind.wrap IntKind.i64 ((↑k : Int) + 1)))] [some (AObj.cells [(AV.osl (false) (1) (0) (n) (n) (8) (true)), (AV.int IntKind.u32 ((↑mu : Int))), (AV.map (2))] false), some (AObj.tarr shO (n) f false), some (AObj.omap shK shB true false [(AV.bool (false))] hs hf false)]))))
 none)
 (some (1, (CS.mk [] [])))) := by
 rw [s28_is]
 try simp only [eq_self, decide_true, beq_self_eq_true, Nat.beq_refl, ble_self, Int.le_refl, Nat.le_refl]
 cases (decide ((↑k : Int) < (↑n : Int))) with
 | true =>
   cases (Nat.blt (0 + Int.toNat (↑k : Int)) n) with
   | true =>
     cases ((↑k : Int) != (↑i : Int)) with
     | true =>
       cases (Env.bits E1 BinOp.and IntKind.u32 (↑mu : Int) (IntKind.wrap IntKind.u32 (1 * 2 ^ min (Int.toNat (↑k : Int)) (IntKind.bits IntKind.u32))) != 0) with
       | true =>
         cases (Env.bits E1 BinOp.and IntKind.u32 (↑d : Int) (IntKind.wrap IntKind.u32 (1 * 2 ^ min (Int.toNat (↑k : Int)) (IntKind.bits IntKind.u32))) == 0) with
         | true =>
           cases (decide ((↑i : Int) < (↑n : Int))) with
           | true =>
             cases (Nat.blt (0 + Int.toNat (↑i : Int)) n) with
             | true =>
               cases (decide (AV.toI (f (0 + Int.toNat (↑k : Int)) (6)) ≤ AV.toI (f (0 + Int.toNat (↑i : Int)) (5)))) with
               | true =>
                 rfl
               | false =>
                 rfl
             | false =>
               rfl
           | false =>
             rfl
         | false =>
           rfl
       | false =>
         rfl
     | false =>
       rfl
   | false =>
     rfl
 | false =>
   rfl
noncomputable def k29 (n : Nat) (f : Nat → Nat → AV) (mu : Nat) (hs : AV → Bool) (hf : AV → Nat → AV) (i : Nat) (s : List Nat) (π : Plan) : Option CS := callC (E1) (1500) (29) (0) (.keep) ([pF]) π (a29 n f mu hs hf i s)
def k29_p : Plan := (.reck 1 (.fork (.fork (.fork (.reck 1 (.fork (.must true (.must true (.must true (.must true (.must true (.reck 2 (.must true (.reck 16 (.must true (.must true (.must true (.must true (.fork .stop (.fork .stop (.reck 1 (.fork (.fork (.fork (.fork (.must true (.fork (.fork (.must true (.must true (.must true (.must true (.must true (.must true (.reck 1 (.must true (.must true (.must true (.must true .stop))))))))))) .stop) .stop)) .stop) .stop) .stop) .stop)))))))))))))))) (.must false (.must false (.must false (.must false (.must false (.reck 2 (.must true (.reck 16 (.must true (.must true (.must true (.must true .stop)))))))))))))) (.fork (.fork (.fork (.fork (.must true (.must true (.must true (.must true (.must true (.must true (.must true (.must true .stop)))))))) .stop) .stop) .stop) .stop)) .stop) .stop))
theorem k29_is (n : Nat) (f : Nat → Nat → AV) (mu : Nat) (hs : AV → Bool) (hf : AV → Nat → AV) (i : Nat) (s : List Nat) : k29 n f mu hs hf i s k29_p = (cond (decide ((↑i : Int) < (↑n : Int)))
 (cond (Nat.blt (0 + Int.toNat (↑i : Int)) n)
 (cond (AV.toB (f (0 + Int.toNat (↑i : Int)) (1)))
 (cond (decide (AV.toI (f (0 + Int.toNat (↑i : Int)) (3)) > 0) == true)
 (cond (decide (AV.toI (f (0 + Int.toNat (↑i : Int)) (3)) > 0) == true) (cond (decide (AV.toI (f (0 + Int.toNat (↑i : Int)) (3)) > 0) == true) (cond (decide (AV.toI (f (0 + Int.toNat (↑i : Int)) (3)) > 0) == true) (cond (decide (AV.toI (f (0 + Int.toNat (↑i : Int)) (3)) > 0) == true) (cond (decide (AV.toI (f (0 + Int.toNat (↑i : Int)) (3)) > 0)) (cond (s == s) (cond (decide (AV.toI (f (0 + Int.toNat (↑i : Int)) (2)) = AV.toI (f (0 + Int.toNat (↑i : Int)) (2)))) (cond (decide (AV.toI (f (0 + Int.toNat (↑i : Int)) (3)) = AV.toI (f (0 + Int.toNat (↑i : Int)) (3)))) (cond (decide (AV.toI (f (0 + Int.toNat (↑i : Int)) (2)) = AV.toI (f (0 + Int.toNat (↑i : Int)) (2)))) (cond (decide (AV.toI (f (0 + Int.toNat (↑i : Int)) (3)) = AV.toI (f (0 + Int.toNat (↑i : Int)) (3)))) (cond (!decide (IntKind.wrap IntKind.u64 (IntKind.wrap IntKind.u64 (AV.toI (f (0 + Int.toNat (↑i : Int)) (2))) + IntKind.wrap IntKind.u64 (AV.toI (f (0 + Int.toNat (↑i : Int)) (3)))) ≤ IntKind.wrap IntKind.u64 (IntKind.wrap IntKind.u32 (IntKind.wrap IntKind.i64 (Int.tdiv (↑(List.length s) : Int) 8)))))
 (some (CS.mk [(AV.tuple [(AV.str (s)), (AV.bool (false))])] []))
 (cond ((↑(List.length (AV.toS (f (0 + Int.toNat (↑i : Int)) (4)))) : Int) != IntKind.wrap IntKind.i64 (8 * IntKind.wrap IntKind.i64 (AV.toI (f (0 + Int.toNat (↑i : Int)) (3)))))
 (some (CS.mk [(AV.tuple [(AV.str (s)), (AV.bool (false))])] []))
 (cond (Nat.ble (Int.toNat (IntKind.wrap IntKind.i64 (IntKind.wrap IntKind.i64 (AV.toI (f (0 + Int.toNat (↑i : Int)) (2))) * 8))) (List.length s))
 (cond (decide (0 ≤ IntKind.wrap IntKind.i64 (IntKind.wrap IntKind.i64 (AV.toI (f (0 + Int.toNat (↑i : Int)) (2))) * 8)))
 (cond (Nat.ble (List.length (List.take (Int.toNat (IntKind.wrap IntKind.i64 (IntKind.wrap IntKind.i64 (AV.toI (f (0 + Int.toNat (↑i : Int)) (2))) * 8)) - 0) (List.drop 0 s)) + List.length (AV.toS (f (0 + Int.toNat (↑i : Int)) (4)))) 140737488355328)
 (cond (Nat.ble (Int.toNat (IntKind.wrap IntKind.i64 (IntKind.wrap IntKind.i64 (IntKind.wrap IntKind.i64 (AV.toI (f (0 + Int.toNat (↑i : Int)) (2))) * 8) + (↑(List.length (AV.toS (f (0 + Int.toNat (↑i : Int)) (4)))) : Int)))) (List.length s))
 (cond (Nat.ble (List.length s) (List.length s)) (cond (decide (0 ≤ IntKind.wrap IntKind.i64 (IntKind.wrap IntKind.i64 (IntKind.wrap IntKind.i64 (AV.toI (f (0 + Int.toNat (↑i : Int)) (2))) * 8) + (↑(List.length (AV.toS (f (0 + Int.toNat (↑i : Int)) (4)))) : Int))))
 (cond (Nat.ble (List.length (List.take (Int.toNat (IntKind.wrap IntKind.i64 (IntKind.wrap IntKind.i64 (AV.toI (f (0 + Int.toNat (↑i : Int)) (2))) * 8)) - 0) (List.drop 0 s) ++ AV.toS (f (0 + Int.toNat (↑i : Int)) (4))) + List.length (List.take (List.length s - Int.toNat (IntKind.wrap IntKind.i64 (IntKind.wrap IntKind.i64 (IntKind.wrap IntKind.i64 (AV.toI (f (0 + Int.toNat (↑i : Int)) (2))) * 8) + (↑(List.length (AV.toS (f (0 + Int.toNat (↑i : Int)) (4)))) : Int)))) (List.drop (Int.toNat (IntKind.wrap IntKind.i64 (IntKind.wrap IntKind.i64 (IntKind.wrap IntKind.i64 (AV.toI (f (0 + Int.toNat (↑i : Int)) (2))) * 8) + (↑(List.length (AV.toS (f (0 + Int.toNat (↑i : Int)) (4)))) : Int)))) s))) 140737488355328)
 (cond (Nat.ble (Int.toNat (IntKind.wrap IntKind.i64 (IntKind.wrap IntKind.i64 (IntKind.wrap IntKind.i64 (AV.toI (f (0 + Int.toNat (↑i : Int)) (2))) * 8) + (↑(List.length (AV.toS (f (0 + Int.toNat (↑i : Int)) (4)))) : Int)))) (List.length s)) (cond (Nat.ble (List.length s) (List.length s)) (cond (decide (0 ≤ IntKind.wrap IntKind.i64 (IntKind.wrap IntKind.i64 (IntKind.wrap IntKind.i64 (AV.toI (f (0 + Int.toNat (↑i : Int)) (2))) * 8) + (↑(List.length (AV.toS (f (0 + Int.toNat (↑i : Int)) (4)))) : Int)))) (cond (List.take (List.length s - Int.toNat (IntKind.wrap IntKind.i64 (IntKind.wrap IntKind.i64 (IntKind.wrap IntKind.i64 (AV.toI (f (0 + Int.toNat (↑i : Int)) (2))) * 8) + (↑(List.length (AV.toS (f (0 + Int.toNat (↑i : Int)) (4)))) : Int)))) (List.drop (Int.toNat (IntKind.wrap IntKind.i64 (IntKind.wrap IntKind.i64 (IntKind.wrap IntKind.i64 (AV.toI (f (0 + Int.toNat (↑i : Int)) (2))) * 8) + (↑(List.length (AV.toS (f (0 + Int.toNat (↑i : Int)) (4)))) : Int)))) s) == List.take (List.length s - Int.toNat (IntKind.wrap IntKind.i64 (IntKind.wrap IntKind.i64 (IntKind.wrap IntKind.i64 (AV.toI (f (0 + Int.toNat (↑i : Int)) (2))) * 8) + (↑(List.length (AV.toS (f (0 + Int.toNat (↑i : Int)) (4)))) : Int)))) (List.drop (Int.toNat (IntKind.wrap IntKind.i64 (IntKind.wrap IntKind.i64 (IntKind.wrap IntKind.i64 (AV.toI (f (0 + Int.toNat (↑i : Int)) (2))) * 8) + (↑(List.length (AV.toS (f (0 + Int.toNat (↑i : Int)) (4)))) : Int)))) s)) (cond (decide ((↑(List.length (AV.toS (f (0 + Int.toNat (↑i : Int)) (4)))) : Int) = (↑(List.length (AV.toS (f (0 + Int.toNat (↑i : Int)) (4)))) : Int))) (cond (s == s) (cond (Nat.ble (Int.toNat (IntKind.wrap IntKind.i64 (IntKind.wrap IntKind.i64 (AV.toI (f (0 + Int.toNat (↑i : Int)) (2))) * 8))) (List.length s)) (cond (decide (0 ≤ IntKind.wrap IntKind.i64 (IntKind.wrap IntKind.i64 (AV.toI (f (0 + Int.toNat (↑i : Int)) (2))) * 8))) (cond (List.take (Int.toNat (IntKind.wrap IntKind.i64 (IntKind.wrap IntKind.i64 (AV.toI (f (0 + Int.toNat (↑i : Int)) (2))) * 8)) - 0) (List.drop 0 s) == List.take (Int.toNat (IntKind.wrap IntKind.i64 (IntKind.wrap IntKind.i64 (AV.toI (f (0 + Int.toNat (↑i : Int)) (2))) * 8)) - 0) (List.drop 0 s)) (cond (s == s) (some (CS.mk [(AV.tuple [(AV.str (List.take (Int.toNat (IntKind.wrap IntKind.i64 (IntKind.wrap IntKind.i64 (AV.toI (f (0 + Int.toNat (↑i : Int)) (2))) * 8)) - 0) (List.drop 0 s) ++ AV.toS (f (0 + Int.toNat (↑i : Int)) (4)) ++ List.take (List.length s - Int.toNat (IntKind.wrap IntKind.i64 (IntKind.wrap IntKind.i64 (IntKind.wrap IntKind.i64 (AV.toI (f (0 + Int.toNat (↑i : Int)) (2))) * 8) + (↑(List.length (AV.toS (f (0 + Int.toNat (↑i : Int)) (4)))) : Int)))) (List.drop (Int.toNat (IntKind.wrap IntKind.i64 (IntKind.wrap IntKind.i64 (IntKind.wrap IntKind.i64 (AV.toI (f (0 + Int.toNat (↑i : Int)) (2))) * 8) + (↑(List.length (AV.toS (f (0 + Int.toNat (↑i : Int)) (4)))) : Int)))) s))), (AV.bool (true))])] [])) none) none) none) none) none) none) none) none) none) none)
 none)
 none) none)
 none)
 none)
 none)
 none))) none) none) none) none) none) none) none) none) none) none)
 (cond (decide (AV.toI (f (0 + Int.toNat (↑i : Int)) (3)) > 0) == true) none (cond (decide (AV.toI (f (0 + Int.toNat (↑i : Int)) (3)) > 0) == true) none (cond (decide (AV.toI (f (0 + Int.toNat (↑i : Int)) (3)) > 0) == true) none (cond (decide (AV.toI (f (0 + Int.toNat (↑i : Int)) (3)) > 0) == true) none (cond (decide (AV.toI (f (0 + Int.toNat (↑i : Int)) (3)) > 0)) none (cond (s == s) (cond (decide (AV.toI (f (0 + Int.toNat (↑i : Int)) (2)) = AV.toI (f (0 + Int.toNat (↑i : Int)) (2)))) (cond (decide (AV.toI (f (0 + Int.toNat (↑i : Int)) (3)) = AV.toI (f (0 + Int.toNat (↑i : Int)) (3)))) (cond (decide (AV.toI (f (0 + Int.toNat (↑i : Int)) (2)) = AV.toI (f (0 + Int.toNat (↑i : Int)) (2)))) (cond (decide (AV.toI (f (0 + Int.toNat (↑i : Int)) (3)) = AV.toI (f (0 + Int.toNat (↑i : Int)) (3)))) (some (CS.mk [(AV.tuple [(AV.str (s)), (AV.bool (false))])] [])) none) none) none) none) none)))))))
 (cond (Nat.ble (Int.toNat (IntKind.wrap IntKind.i64 (IntKind.wrap IntKind.i64 (AV.toI (f (0 + Int.toNat (↑i : Int)) (2))) * 8))) (Int.toNat (IntKind.wrap IntKind.i64 (IntKind.wrap IntKind.i64 (IntKind.wrap IntKind.i64 (AV.toI (f (0 + Int.toNat (↑i : Int)) (2))) * 8) + (↑(List.length (AV.toS (f (0 + Int.toNat (↑i : Int)) (4)))) : Int)))))
 (cond (Nat.ble (Int.toNat (IntKind.wrap IntKind.i64 (IntKind.wrap IntKind.i64 (IntKind.wrap IntKind.i64 (AV.toI (f (0 + Int.toNat (↑i : Int)) (2))) * 8) + (↑(List.length (AV.toS (f (0 + Int.toNat (↑i : Int)) (4)))) : Int)))) (List.length s))
 (cond (decide (0 ≤ IntKind.wrap IntKind.i64 (IntKind.wrap IntKind.i64 (AV.toI (f (0 + Int.toNat (↑i : Int)) (2))) * 8)))
 (cond (decide (0 ≤ IntKind.wrap IntKind.i64 (IntKind.wrap IntKind.i64 (IntKind.wrap IntKind.i64 (AV.toI (f (0 + Int.toNat (↑i : Int)) (2))) * 8) + (↑(List.length (AV.toS (f (0 + Int.toNat (↑i : Int)) (4)))) : Int))))
 (cond (AV.toS (f (0 + Int.toNat (↑i : Int)) (4)) == AV.toS (f (0 + Int.toNat (↑i : Int)) (4))) (cond (Nat.ble (Int.toNat (IntKind.wrap IntKind.i64 (IntKind.wrap IntKind.i64 (AV.toI (f (0 + Int.toNat (↑i : Int)) (2))) * 8))) (Int.toNat (IntKind.wrap IntKind.i64 (IntKind.wrap IntKind.i64 (IntKind.wrap IntKind.i64 (AV.toI (f (0 + Int.toNat (↑i : Int)) (2))) * 8) + (↑(List.length (AV.toS (f (0 + Int.toNat (↑i : Int)) (4)))) : Int))))) (cond (Nat.ble (Int.toNat (IntKind.wrap IntKind.i64 (IntKind.wrap IntKind.i64 (IntKind.wrap IntKind.i64 (AV.toI (f (0 + Int.toNat (↑i : Int)) (2))) * 8) + (↑(List.length (AV.toS (f (0 + Int.toNat (↑i : Int)) (4)))) : Int)))) (List.length s)) (cond (decide (0 ≤ IntKind.wrap IntKind.i64 (IntKind.wrap IntKind.i64 (AV.toI (f (0 + Int.toNat (↑i : Int)) (2))) * 8))) (cond (decide (0 ≤ IntKind.wrap IntKind.i64 (IntKind.wrap IntKind.i64 (IntKind.wrap IntKind.i64 (AV.toI (f (0 + Int.toNat (↑i : Int)) (2))) * 8) + (↑(List.length (AV.toS (f (0 + Int.toNat (↑i : Int)) (4)))) : Int)))) (cond (List.take (Int.toNat (IntKind.wrap IntKind.i64 (IntKind.wrap IntKind.i64 (IntKind.wrap IntKind.i64 (AV.toI (f (0 + Int.toNat (↑i : Int)) (2))) * 8) + (↑(List.length (AV.toS (f (0 + Int.toNat (↑i : Int)) (4)))) : Int))) - Int.toNat (IntKind.wrap IntKind.i64 (IntKind.wrap IntKind.i64 (AV.toI (f (0 + Int.toNat (↑i : Int)) (2))) * 8))) (List.drop (Int.toNat (IntKind.wrap IntKind.i64 (IntKind.wrap IntKind.i64 (AV.toI (f (0 + Int.toNat (↑i : Int)) (2))) * 8))) s) == List.take (Int.toNat (IntKind.wrap IntKind.i64 (IntKind.wrap IntKind.i64 (IntKind.wrap IntKind.i64 (AV.toI (f (0 + Int.toNat (↑i : Int)) (2))) * 8) + (↑(List.length (AV.toS (f (0 + Int.toNat (↑i : Int)) (4)))) : Int))) - Int.toNat (IntKind.wrap IntKind.i64 (IntKind.wrap IntKind.i64 (AV.toI (f (0 + Int.toNat (↑i : Int)) (2))) * 8))) (List.drop (Int.toNat (IntKind.wrap IntKind.i64 (IntKind.wrap IntKind.i64 (AV.toI (f (0 + Int.toNat (↑i : Int)) (2))) * 8))) s)) (cond (decide ((↑(List.length (AV.toS (f (0 + Int.toNat (↑i : Int)) (4)))) : Int) = (↑(List.length (AV.toS (f (0 + Int.toNat (↑i : Int)) (4)))) : Int))) (cond (AV.toS (f (0 + Int.toNat (↑i : Int)) (4)) == AV.toS (f (0 + Int.toNat (↑i : Int)) (4))) (some (CS.mk [(AV.tuple [(AV.str (s)), (AV.bool (List.take (Int.toNat (IntKind.wrap IntKind.i64 (IntKind.wrap IntKind.i64 (IntKind.wrap IntKind.i64 (AV.toI (f (0 + Int.toNat (↑i : Int)) (2))) * 8) + (↑(List.length (AV.toS (f (0 + Int.toNat (↑i : Int)) (4)))) : Int))) - Int.toNat (IntKind.wrap IntKind.i64 (IntKind.wrap IntKind.i64 (AV.toI (f (0 + Int.toNat (↑i : Int)) (2))) * 8))) (List.drop (Int.toNat (IntKind.wrap IntKind.i64 (IntKind.wrap IntKind.i64 (AV.toI (f (0 + Int.toNat (↑i : Int)) (2))) * 8))) s) == AV.toS (f (0 + Int.toNat (↑i : Int)) (4))))])] [])) none) none) none) none) none) none) none) none)
 none)
 none)
 none)
 none))
 none)
 none) := by kernel_rfl
theorem k29_eq (n : Nat) (f : Nat → Nat → AV) (mu : Nat) (hs : AV → Bool) (hf : AV → Nat → AV) (i : Nat) (s : List Nat) : k29 n f mu hs hf i s k29_p = (cond (decide ((↑i : Int) < (↑n : Int)))
 (cond (Nat.blt (0 + Int.toNat (↑i : Int)) n)
 (cond (AV.toB (f (0 + Int.toNat (↑i : Int)) (1)))
 (cond (decide (AV.toI (f (0 + Int.toNat (↑i : Int)) (3)) > 0))
 (cond (decide (IntKind.wrap IntKind.u64 (IntKind.wrap IntKind.u64 (AV.toI (f (0 + Int.toNat (↑i : Int)) (2))) + IntKind.wrap IntKind.u64 (AV.toI (f (0 + Int.toNat (↑i : Int)) (3)))) ≤ IntKind.wrap IntKind.u64 (IntKind.wrap IntKind.u32 (IntKind.wrap IntKind.i64 (Int.tdiv (↑(List.length s) : Int) 8)))))
 (cond ((↑(List.length (AV.toS (f (0 + Int.toNat (↑i : Int)) (4)))) : Int) != IntKind.wrap IntKind.i64 (8 * IntKind.wrap IntKind.i64 (AV.toI (f (0 + Int.toNat (↑i : Int)) (3)))))
 (some (CS.mk [(AV.tuple [(AV.str (s)), (AV.bool (false))])] []))
 (cond (Nat.ble (Int.toNat (IntKind.wrap IntKind.i64 (IntKind.wrap IntKind.i64 (AV.toI (f (0 + Int.toNat (↑i : Int)) (2))) * 8))) (List.length s))
 (cond (decide (0 ≤ IntKind.wrap IntKind.i64 (IntKind.wrap IntKind.i64 (AV.toI (f (0 + Int.toNat (↑i : Int)) (2))) * 8)))
 (cond (Nat.ble (List.length (List.take (Int.toNat (IntKind.wrap IntKind.i64 (IntKind.wrap IntKind.i64 (AV.toI (f (0 + Int.toNat (↑i : Int)) (2))) * 8)) - 0) (List.drop 0 s)) + List.length (AV.toS (f (0 + Int.toNat (↑i : Int)) (4)))) 140737488355328)
 (cond (Nat.ble (Int.toNat (IntKind.wrap IntKind.i64 (IntKind.wrap IntKind.i64 (IntKind.wrap IntKind.i64 (AV.toI (f (0 + Int.toNat (↑i : Int)) (2))) * 8) + (↑(List.length (AV.toS (f (0 + Int.toNat (↑i : Int)) (4)))) : Int)))) (List.length s))
 (cond (decide (0 ≤ IntKind.wrap IntKind.i64 (IntKind.wrap IntKind.i64 (IntKind.wrap IntKind.i64 (AV.toI (f (0 + Int.toNat (↑i : Int)) (2))) * 8) + (↑(List.length (AV.toS (f (0 + Int.toNat (↑i : Int)) (4)))) : Int))))
 (cond (Nat.ble (List.length (List.take (Int.toNat (IntKind.wrap IntKind.i64 (IntKind.wrap IntKind.i64 (AV.toI (f (0 + Int.toNat (↑i : Int)) (2))) * 8)) - 0) (List.drop 0 s) ++ AV.toS (f (0 + Int.toNat (↑i : Int)) (4))) + List.length (List.take (List.length s - Int.toNat (IntKind.wrap IntKind.i64 (IntKind.wrap IntKind.i64 (IntKind.wrap IntKind.i64 (AV.toI (f (0 + Int.toNat (↑i : Int)) (2))) * 8) + (↑(List.length (AV.toS (f (0 + Int.toNat (↑i : Int)) (4)))) : Int)))) (List.drop (Int.toNat (IntKind.wrap IntKind.i64 (IntKind.wrap IntKind.i64 (IntKind.wrap IntKind.i64 (AV.toI (f (0 + Int.toNat (↑i : Int)) (2))) * 8) + (↑(List.length (AV.toS (f (0 + Int.toNat (↑i : Int)) (4)))) : Int)))) s))) 140737488355328)
 (some (CS.mk [(AV.tuple [(AV.str (List.take (Int.toNat (IntKind.wrap IntKind.i64 (IntKind.wrap IntKind.i64 (AV.toI (f (0 + Int.toNat (↑i : Int)) (2))) * 8)) - 0) (List.drop 0 s) ++ AV.toS (f (0 + Int.toNat (↑i : Int)) (4)) ++ List.take (List.length s - Int.toNat (IntKind.wrap IntKind.i64 (IntKind.wrap IntKind.i64 (IntKind.wrap IntKind.i64 (AV.toI (f (0 + Int.toNat (↑i : Int)) (2))) * 8) + (↑(List.length (AV.toS (f (0 + Int.toNat (↑i : Int)) (4)))) : Int)))) (List.drop (Int.toNat (IntKind.wrap IntKind.i64 (IntKind.wrap IntKind.i64 (IntKind.wrap IntKind.i64 (AV.toI (f (0 + Int.toNat (↑i : Int)) (2))) * 8) + (↑(List.length (AV.toS (f (0 + Int.toNat (↑i : Int)) (4)))) : Int)))) s))), (AV.bool (true))])] []))
 none)
 none)
 none)
 none)
 none)
 none))
 (some (CS.mk [(AV.tuple [(AV.str (s)), (AV.bool (false))])] [])))
 (some (CS.mk [(AV.tuple [(AV.str (s)), (AV.bool (false))])] [])))
 (cond (Nat.ble (Int.toNat (IntKind.wrap IntKind.i64 (IntKind.wrap IntKind.i64 (AV.toI (f (0 + Int.toNat (↑i : Int)) (2))) * 8))) (Int.toNat (IntKind.wrap IntKind.i64 (IntKind.wrap IntKind.i64 (IntKind.wrap IntKind.i64 (AV.toI (f (0 + Int.toNat (↑i : Int)) (2))) * 8) + (↑(List.length (AV.toS (f (0 + Int.toNat (↑i : Int)) (4)))) : Int)))))
 (cond (Nat.ble (Int.toNat (IntKind.wrap IntKind.i64 (IntKind.wrap IntKind.i64 (IntKind.wrap IntKind.i64 (AV.toI (f (0 + Int.toNat (↑i : Int)) (2))) * 8) + (↑(List.length (AV.toS (f (0 + Int.toNat (↑i : Int)) (4)))) : Int)))) (List.length s))
 (cond (decide (0 ≤ IntKind.wrap IntKind.i64 (IntKind.wrap IntKind.i64 (AV.toI (f (0 + Int.toNat (↑i : Int)) (2))) * 8)))
 (cond (decide (0 ≤ IntKind.wrap IntKind.i64 (IntKind.wrap IntKind.i64 (IntKind.wrap IntKind.i64 (AV.toI (f (0 + Int.toNat (↑i : Int)) (2))) * 8) + (↑(List.length (AV.toS (f (0 + Int.toNat (↑i : Int)) (4)))) : Int))))
 (some (CS.mk [(AV.tuple [(AV.str (s)), (AV.bool (List.take (Int.toNat (IntKind.wrap IntKind.i64 (IntKind.wrap IntKind.i64 (IntKind.wrap IntKind.i64 (AV.toI (f (0 + Int.toNat (↑i : Int)) (2))) * 8) + (↑(List.length (AV.toS (f (0 + Int.toNat (↑i : Int)) (4)))) : Int))) - Int.toNat (IntKind.wrap IntKind.i64 (IntKind.wrap IntKind.i64 (AV.toI (f (0 + Int.toNat (↑i : Int)) (2))) * 8))) (List.drop (Int.toNat (IntKind.wrap IntKind.i64 (IntKind.wrap IntKind.i64 (AV.toI (f (0 + Int.toNat (↑i : Int)) (2))) * 8))) s) == AV.toS (f (0 + Int.toNat (↑i : Int)) (4))))])] []))
 none)
 none)
 none)
 none))
 none)
 none) := by
 rw [k29_is]
 try simp only [eq_self, decide_true, beq_self_eq_true, Nat.beq_refl, ble_self, Int.le_refl, Nat.le_refl]
 cases (decide ((↑i : Int) < (↑n : Int))) with
 | true =>
   cases (Nat.blt (0 + Int.toNat (↑i : Int)) n) with
   | true =>
     cases (AV.toB (f (0 + Int.toNat (↑i : Int)) (1))) with
     | true =>
       cases (decide (AV.toI (f (0 + Int.toNat (↑i : Int)) (3)) > 0)) with
       | true =>
         cases (decide (IntKind.wrap IntKind.u64 (IntKind.wrap IntKind.u64 (AV.toI (f (0 + Int.toNat (↑i : Int)) (2))) + IntKind.wrap IntKind.u64 (AV.toI (f (0 + Int.toNat (↑i : Int)) (3)))) ≤ IntKind.wrap IntKind.u64 (IntKind.wrap IntKind.u32 (IntKind.wrap IntKind.i64 (Int.tdiv (↑(List.length s) : Int) 8))))) with
         | true =>
           cases ((↑(List.length (AV.toS (f (0 + Int.toNat (↑i : Int)) (4)))) : Int) != IntKind.wrap IntKind.i64 (8 * IntKind.wrap IntKind.i64 (AV.toI (f (0 + Int.toNat (↑i : Int)) (3))))) with
           | true =>
             rfl
           | false =>
             cases (Nat.ble (Int.toNat (IntKind.wrap IntKind.i64 (IntKind.wrap IntKind.i64 (AV.toI (f (0 + Int.toNat (↑i : Int)) (2))) * 8))) (List.length s)) with
             | true =>
               cases (decide (0 ≤ IntKind.wrap IntKind.i64 (IntKind.wrap IntKind.i64 (AV.toI (f (0 + Int.toNat (↑i : Int)) (2))) * 8))) with
               | true =>
                 cases (Nat.ble (List.length (List.take (Int.toNat (IntKind.wrap IntKind.i64 (IntKind.wrap IntKind.i64 (AV.toI (f (0 + Int.toNat (↑i : Int)) (2))) * 8)) - 0) (List.drop 0 s)) + List.length (AV.toS (f (0 + Int.toNat (↑i : Int)) (4)))) 140737488355328) with
                 | true =>
                   cases (Nat.ble (Int.toNat (IntKind.wrap IntKind.i64 (IntKind.wrap IntKind.i64 (IntKind.wrap IntKind.i64 (AV.toI (f (0 + Int.toNat (↑i : Int)) (2))) * 8) + (↑(List.length (AV.toS (f (0 + Int.toNat (↑i : Int)) (4)))) : Int)))) (List.length s)) with
                   | true =>
                     cases (decide (0 ≤ IntKind.wrap IntKind.i64 (IntKind.wrap IntKind.i64 (IntKind.wrap IntKind.i64 (AV.toI (f (0 + Int.toNat (↑i : Int)) (2))) * 8) + (↑(List.length (AV.toS (f (0 + Int.toNat (↑i : Int)) (4)))) : Int)))) with
                     | true =>
                       cases (Nat.ble (List.length (List.take (Int.toNat (IntKind.wrap IntKind.i64 (IntKind.wrap IntKind.i64 (AV.toI (f (0 + Int.toNat (↑i : Int)) (2))) * 8)) - 0) (List.drop 0 s) ++ AV.toS (f (0 + Int.toNat (↑i : Int)) (4))) + List.length (List.take (List.length s - Int.toNat (IntKind.wrap IntKind.i64 (IntKind.wrap IntKind.i64 (IntKind.wrap IntKind.i64 (AV.toI (f (0 + Int.toNat (↑i : Int)) (2))) * 8) + (↑(List.length (AV.toS (f (0 + Int.toNat (↑i : Int)) (4)))) : Int)))) (List.drop (Int.toNat (IntKind.wrap IntKind.i64 (IntKind.wrap IntKind.i64 (IntKind.wrap IntKind.i64 (AV.toI (f (0 + Int.toNat (↑i : Int)) (2))) * 8) + (↑(List.length (AV.toS (f (0 + Int.toNat (↑i : Int)) (4)))) : Int)))) s))) 140737488355328) with
                       | true =>
                         rfl
                       | false =>
                         rfl
                     | false =>
                       rfl
                   | false =>
                     rfl
                 | false =>
                   rfl
               | false =>
                 rfl
             | false =>
               rfl
         | false =>
           rfl
       | false =>
         rfl
     | false =>
       cases (Nat.ble (Int.toNat (IntKind.wrap IntKind.i64 (IntKind.wrap IntKind.i64 (AV.toI (f (0 + Int.toNat (↑i : Int)) (2))) * 8))) (Int.toNat (IntKind.wrap IntKind.i64 (IntKind.wrap IntKind.i64 (IntKind.wrap IntKind.i64 (AV.toI (f (0 + Int.toNat (↑i : Int)) (2))) * 8) + (↑(List.length (AV.toS (f (0 + Int.toNat (↑i : Int)) (4)))) : Int))))) with
       | true =>
         cases (Nat.ble (Int.toNat (IntKind.wrap IntKind.i64 (IntKind.wrap IntKind.i64 (IntKind.wrap IntKind.i64 (AV.toI (f (0 + Int.toNat (↑i : Int)) (2))) * 8) + (↑(List.length (AV.toS (f (0 + Int.toNat (↑i : Int)) (4)))) : Int)))) (List.length s)) with
         | true =>
           cases (decide (0 ≤ IntKind.wrap IntKind.i64 (IntKind.wrap IntKind.i64 (AV.toI (f (0 + Int.toNat (↑i : Int)) (2))) * 8))) with
           | true =>
             cases (decide (0 ≤ IntKind.wrap IntKind.i64 (IntKind.wrap IntKind.i64 (IntKind.wrap IntKind.i64 (AV.toI (f (0 + Int.toNat (↑i : Int)) (2))) * 8) + (↑(List.length (AV.toS (f (0 + Int.toNat (↑i : Int)) (4)))) : Int)))) with
             | true =>
               rfl
             | false =>
               rfl
           | false =>
             rfl
         | false =>
           rfl
       | false =>
         rfl
   | false =>
     rfl
 | false =>
   rfl
noncomputable def k28 (n : Nat) (f : Nat → Nat → AV) (mu : Nat) (hs : AV → Bool) (hf : AV → Nat → AV) (i : Nat) (d : Nat) (π : Plan) : Option CS := callC (E2) (1500) (28) (0) (.keep) ([pF]) π (a28 n f mu hs hf i d)
def k28_p : Plan := (.reck 1 (.must true (.must true (.reck 2 (.must true (.must true (.reck 1 (.must true (.reck 3 (.fork (.fork (.fork (.fork (.fork .stop .stop) .stop) .stop) .stop) .stop))))))))))
theorem k28_is (n : Nat) (f : Nat → Nat → AV) (mu : Nat) (hs : AV → Bool) (hf : AV → Nat → AV) (i : Nat) (d : Nat) : k28 n f mu hs hf i d k28_p = (cond (decide (n = n)) (cond (decide ((↑n : Int) = (↑n : Int))) (cond (decide (n = n)) (cond (decide (n = n)) (cond (decide (n = n)) (cond (Nat.ble n 16)
 (cond (Nat.blt i n)
 (cond (Nat.blt mu 65536)
 (cond (Nat.blt d 65536)
 (cond ((nextV f (n) (mu) (i) (d)))
 (some (CS.mk [(AV.bool (true))] []))
 (some (CS.mk [(AV.bool (false))] [])))
 none)
 none)
 none)
 none) none) none) none) none) none) := by kernel_rfl
theorem k28_eq (n : Nat) (f : Nat → Nat → AV) (mu : Nat) (hs : AV → Bool) (hf : AV → Nat → AV) (i : Nat) (d : Nat) : k28 n f mu hs hf i d k28_p = (cond (Nat.ble n 16)
 (cond (Nat.blt i n)
 (cond (Nat.blt mu 65536)
 (cond (Nat.blt d 65536)
 (cond (nextV f (n) (mu) (i) (d))
 (some (CS.mk [(AV.bool (true))] []))
 (some (CS.mk [(AV.bool (false))] [])))
 none)
 none)
 none)
 none) := by
 rw [k28_is]
 try simp only [eq_self, decide_true, beq_self_eq_true, Nat.beq_refl, ble_self, Int.le_refl, Nat.le_refl]
 cases (Nat.ble n 16) with
 | true =>
   cases (Nat.blt i n) with
   | true =>
     cases (Nat.blt mu 65536) with
     | true =>
       cases (Nat.blt d 65536) with
       | true =>
         cases (nextV f (n) (mu) (i) (d)) with
         | true =>
           rfl
         | false =>
           rfl
       | false =>
         rfl
     | false =>
       rfl
   | false =>
     rfl
 | false =>
   rfl
end Go.Proofs.Ytmjmhpbncfjnpaa.history
end
section
set_option linter.unusedSimpArgs false
set_option linter.unusedVariables false
set_option maxRecDepth 20000
namespace Go.Proofs.Ytmjmhpbncfjnpaa.history
open Go Go.RowKit Go.Proofs.Ytmjmhpbncfjnpaa.Bm
theorem r28_inv  {c : CS} {r : Nat × CS} (h : (r28  c).run = some r) : ∃ n f mu hs hf i d, c = c28 n f mu hs hf i d 0 ∧ (r28B  n f mu hs hf i d).run = some r := by
 unfold r28 at h
 split at h
 ·rename_i i d z_1 n z_2 z_3 z_4 z_5 z_6 z_7 mu sh_8 z_9 f sh_10 sh_11 sz_12 hs hf
  obtain ⟨hc, hb⟩ := chkT_run h
  have h0 := hc 0 _ rfl
  have h0 := of_decide_eq_true h0; subst h0
  have h1 := hc 1 _ rfl
  have h1 := of_decide_eq_true h1; subst h1
  have h2 := hc 2 _ rfl
  have h2 := of_decide_eq_true h2; subst h2
  have h3 := hc 3 _ rfl
  have h3 := of_decide_eq_true h3; subst h3
  have h4 := hc 4 _ rfl
  have h4 := of_decide_eq_true h4; subst h4
  have h5 := hc 5 _ rfl
  have h5 := of_decide_eq_true h5; subst h5
  have h6 := hc 6 _ rfl
  have h6 := of_decide_eq_true h6; subst h6
  have h7 := hc 7 _ rfl
  have h7 := (shBeq_eq h7).symm; subst h7
  have h8 := hc 8 _ rfl
  have h8 := of_decide_eq_true h8; subst h8
  have h9 := hc 9 _ rfl
  have h9 := (shBeq_eq h9).symm; subst h9
  have h10 := hc 10 _ rfl
  have h10 := (shBeq_eq h10).symm; subst h10
  have h11 := hc 11 _ rfl
  have h11 := AV.eq_of_beqL _ _ h11; subst h11
  exact ⟨n, f, mu, hs, hf, i, d, rfl, hb⟩
 ·cases h
theorem f28_inv  {c : CS} {r : CS} (h : (f28  c).run = some r) : ∃ n f mu hs hf i d, c = b28 n f mu hs hf i d ∧ (f28B  n f mu hs hf i d).run = some r := by
 unfold f28 at h
 split at h
 ·rename_i i d z_1 n z_2 mu sh_3 z_4 f sh_5 sh_6 sz_7 hs hf
  obtain ⟨hc, hb⟩ := chkT_run h
  have h0 := hc 0 _ rfl
  have h0 := of_decide_eq_true h0; subst h0
  have h1 := hc 1 _ rfl
  have h1 := of_decide_eq_true h1; subst h1
  have h2 := hc 2 _ rfl
  have h2 := (shBeq_eq h2).symm; subst h2
  have h3 := hc 3 _ rfl
  have h3 := of_decide_eq_true h3; subst h3
  have h4 := hc 4 _ rfl
  have h4 := (shBeq_eq h4).symm; subst h4
  have h5 := hc 5 _ rfl
  have h5 := (shBeq_eq h5).symm; subst h5
  have h6 := hc 6 _ rfl
  have h6 := AV.eq_of_beqL _ _ h6; subst h6
  exact ⟨n, f, mu, hs, hf, i, d, rfl, hb⟩
 ·cases h
theorem f29_inv  {c : CS} {r : CS} (h : (f29  c).run = some r) : ∃ n f mu hs hf i s, c = b29 n f mu hs hf i s ∧ (f29B  n f mu hs hf i s).run = some r := by
 unfold f29 at h
 split at h
 ·rename_i i s z_1 n z_2 mu sh_3 z_4 f sh_5 sh_6 sz_7 hs hf
  obtain ⟨hc, hb⟩ := chkT_run h
  have h0 := hc 0 _ rfl
  have h0 := of_decide_eq_true h0; subst h0
  have h1 := hc 1 _ rfl
  have h1 := of_decide_eq_true h1; subst h1
  have h2 := hc 2 _ rfl
  have h2 := (shBeq_eq h2).symm; subst h2
  have h3 := hc 3 _ rfl
  have h3 := of_decide_eq_true h3; subst h3
  have h4 := hc 4 _ rfl
  have h4 := (shBeq_eq h4).symm; subst h4
  have h5 := hc 5 _ rfl
  have h5 := (shBeq_eq h5).symm; subst h5
  have h6 := hc 6 _ rfl
  have h6 := AV.eq_of_beqL _ _ h6; subst h6
  exact ⟨n, f, mu, hs, hf, i, s, rfl, hb⟩
 ·cases h
theorem ble_t {n m : Nat} (h : n ≤ m) : Nat.ble n m = true := Nat.ble_eq_true_of_le h
theorem ble_f {n m : Nat} (h : ¬ n ≤ m) : Nat.ble n m = false := by rw [ble_iff, decide_eq_false h]
theorem le_of {n m : Nat} (h : Nat.ble n m = true) : n ≤ m := Nat.le_of_ble_eq_true h
theorem lt1 {i n : Nat} (h : i < n) : decide ((i : Int) < (n : Int)) = true := decide_eq_true (by omega)
theorem lt0 (n : Nat) : decide ((n : Int) < (n : Int)) = false := decide_eq_false (by omega)
theorem blt_t {n m : Nat} (h : n < m) : Nat.blt n m = true := by rw [blt_iff]; exact decide_eq_true h
theorem blt_f {n m : Nat} (h : ¬ n < m) : Nat.blt n m = false := by rw [blt_iff]; exact decide_eq_false h
theorem lt_of {n m : Nat} (h : Nat.blt n m = true) : n < m := by rw [blt_iff] at h; exact of_decide_eq_true h
theorem not_lt {a b : Int} (h : (!(decide (a < b))) = true) : b ≤ a := by
 cases hd : decide (a < b) with
 | true => rw [hd] at h; cases h
 | false => have := of_decide_eq_false hd; omega
theorem not_gt {a b : Int} (h : (!(decide (a > b))) = true) : a ≤ b := by
 cases hd : decide (a > b) with
 | true => rw [hd] at h; cases h
 | false => have := of_decide_eq_false hd; omega
theorem wrapi {m : Nat} (h : m < 9223372036854775808) : IntKind.i64.wrap (m : Int) = (m : Int) := by
 have e : IntKind.i64.wrap (m : Int) = if (m : Int) % 18446744073709551616 ≥ 9223372036854775808 then (m : Int) % 18446744073709551616 - 18446744073709551616 else (m : Int) % 18446744073709551616 := by
  unfold IntKind.wrap
  simp [IntKind.bits, IntKind.signed]
 rw [e]
 split <;> omega
theorem wi1 {i n : Nat} (h : i < n) (hn : n ≤ 9223372036854775807) : IntKind.wrap .i64 ((i : Int) + 1) = ((i + 1 : Nat) : Int) := by
 have := wrapi (m := i + 1) (by omega)
 simpa using this
theorem wu {a : Nat} (h : a < 18446744073709551616) : IntKind.wrap .u64 (a : Int) = (a : Int) := wrap_u64 (Int.natCast_nonneg _) (by omega)
theorem wi {a : Nat} (h : a < 9223372036854775808) : IntKind.wrap .i64 (a : Int) = (a : Int) := wrapi h
theorem w8 {a : Nat} (h : a < 1000000000000) : IntKind.wrap .i64 (8 * (a : Int)) = ((8 * a : Nat) : Int) := by
 have := wrapi (m := 8 * a) (by omega)
 simpa using this
theorem w8r {a : Nat} (h : a < 1000000000000) : IntKind.wrap .i64 ((a : Int) * 8) = ((8 * a : Nat) : Int) := by
 rw [Int.mul_comm]; exact w8 h
theorem wad {a b : Nat} (h : a + b < 9223372036854775808) : IntKind.wrap .i64 ((a : Int) + (b : Int)) = ((a + b : Nat) : Int) := by
 have := wrapi h
 simpa using this
theorem wadu {a b : Nat} (h : a + b < 18446744073709551616) : IntKind.wrap .u64 ((a : Int) + (b : Int)) = ((a + b : Nat) : Int) := by
 have := wu h
 simpa using this
theorem w32 {a : Nat} (h : a < 4294967296) : IntKind.wrap .u32 (a : Int) = (a : Int) := by
 have e : IntKind.wrap .u32 (a : Int) = (a : Int) % 4294967296 := by
  unfold IntKind.wrap
  simp [IntKind.bits, IntKind.signed]
 rw [e]; omega
theorem ask_ret {A : Type} {b : Bool} {k1 k2 : Nat} {x y : A} {r : Nat × A} (h : (T.ask b (.ret (k1, x)) (.ret (k2, y))).run = some r) : r = (cond b k1 k2, cond b x y) := by
 cases b <;> simpa [T.run] using h.symm
theorem ask_scan {b : Bool} {x y : CS} {r : Nat × CS} (h : (T.ask b (.ret (1, x)) (.ret (2, y))).run = some r) : r = cond b (1, x) (2, y) := by
 cases b <;> simpa [T.run] using h.symm
theorem tdiv8 {L : Nat} (h : L ≤ 1000) : IntKind.wrap .u64 (IntKind.wrap .u32 (IntKind.wrap .i64 (Int.tdiv (L : Int) 8))) = ((L / 8 : Nat) : Int) := by
 have e : Int.tdiv (L : Int) 8 = ((L / 8 : Nat) : Int) := by rw [Int.tdiv_eq_ediv_of_nonneg (Int.natCast_nonneg _)]; rfl
 rw [e, wi (by omega), w32 (by omega), wu (by omega)]
theorem take_rest (s : List Nat) (k : Nat) : List.take (s.length - k) (List.drop k s) = List.drop k s := by
 rw [List.take_of_length_le]; rw [List.length_drop]; exact Nat.le_refl _
theorem take_first (s : List Nat) (k : Nat) : List.take (k - 0) (List.drop 0 s) = List.take k s := rfl
theorem q0 : Bm.Good Try.prog E0 := good0 (by kernel_rfl) (by kernel_rfl) (by kernel_rfl)
theorem q1 : Bm.Good Try.prog E1 := q0.bits
theorem vec32 {a : Nat} (h : a < 4294967296) : (BitVec.ofInt 32 (a : Int)).toNat = a := by
 rw [BitVec.toNat_ofInt]
 have : ((2 ^ 32 : Nat) : Int) = 4294967296 := by decide
 rw [this]; omega
theorem band {a b : Nat} (ha : a < 4294967296) (hb : b < 4294967296) : bitsR .and .u32 (a : Int) (b : Int) = ((a &&& b : Nat) : Int) := by
 simp only [bitsR, bits2]
 show IntKind.u32.wrap (((BitVec.ofInt 32 (a : Int) &&& BitVec.ofInt 32 (b : Int)).toNat : Nat) : Int) = _
 rw [BitVec.toNat_and, vec32 ha, vec32 hb, w32 (Nat.lt_of_le_of_lt Nat.and_le_left ha)]
theorem p32 : (4294967296 : Nat) = 2 ^ 32 := by decide
theorem bor {a b : Nat} (ha : a < 4294967296) (hb : b < 4294967296) : bitsR .or .u32 (a : Int) (b : Int) = ((a ||| b : Nat) : Int) := by
 simp only [bitsR, bits2]
 show IntKind.u32.wrap (((BitVec.ofInt 32 (a : Int) ||| BitVec.ofInt 32 (b : Int)).toNat : Nat) : Int) = _
 have hlt : a ||| b < 4294967296 := by
  rw [p32] at *
  exact Nat.or_lt_two_pow ha hb
 rw [BitVec.toNat_or, vec32 ha, vec32 hb, w32 hlt]
theorem pow_lt {k : Nat} (h : k < 32) : 2 ^ k < 4294967296 := by
 rw [p32]; exact Nat.pow_lt_pow_right (by omega) h
theorem bit_is {k : Nat} (hk : k < 32) : IntKind.wrap .u32 (1 * 2 ^ min k (IntKind.bits .u32)) = ((2 ^ k : Nat) : Int) := by
 have e : min k IntKind.u32.bits = k := by
  rw [show IntKind.u32.bits = 32 from rfl]; omega
 rw [e, Int.one_mul]
 have e2 : ((2 : Int) ^ k) = ((2 ^ k : Nat) : Int) := by rw [Int.natCast_pow]; rfl
 rw [e2]; exact w32 (pow_lt hk)
theorem and_pow (a k : Nat) : Nat.beq (a &&& 2 ^ k) 0 = !(Nat.testBit a k) := by
 cases hb : Nat.testBit a k with
 | true =>
   rw [beq_iff]
   refine decide_eq_false fun h => ?_
   have h2 : Nat.testBit (a &&& 2 ^ k) k = false := by rw [h]; exact Nat.zero_testBit k
   rw [Nat.testBit_and, hb, Nat.testBit_two_pow_self] at h2
   cases h2
 | false =>
   have h : a &&& 2 ^ k = 0 := Nat.eq_of_testBit_eq fun i => by
    rw [Nat.testBit_and, Nat.testBit_two_pow, Nat.zero_testBit]
    by_cases hi : k = i
    ·subst hi; rw [hb]; rfl
    ·rw [decide_eq_false hi, Bool.and_false]
   rw [h]; rfl
theorem tst {a k : Nat} (ha : a < 4294967296) (hk : k < 32) : (bitsR .and .u32 (a : Int) ((2 ^ k : Nat) : Int) != 0) = Nat.testBit a k := by
 rw [band ha (pow_lt hk)]
 have := and_pow a k
 cases hb : Nat.testBit a k with
 | true =>
   rw [hb] at this
   rw [bne_iff_ne]
   intro h
   have h : (a &&& 2 ^ k) = 0 := by omega
   rw [h] at this; cases this
 | false =>
   rw [hb] at this
   have h := Nat.eq_of_beq_eq_true this
   rw [h]; rfl
theorem tst0 {a k : Nat} (ha : a < 4294967296) (hk : k < 32) : (bitsR .and .u32 (a : Int) ((2 ^ k : Nat) : Int) == 0) = !(Nat.testBit a k) := by
 have h1 := tst ha hk
 have h2 : (bitsR .and .u32 (a : Int) ((2 ^ k : Nat) : Int) != 0) = !(bitsR .and .u32 (a : Int) ((2 ^ k : Nat) : Int) == 0) := rfl
 rw [h2] at h1
 rw [← h1, Bool.not_not]
theorem ne_nat (k i : Nat) : ((k : Int) != (i : Int)) = !(Nat.beq k i) := by
 by_cases h : k = i
 ·subst h; simp
 ·rw [show Nat.beq k i = false by rw [beq_iff]; exact decide_eq_false h, Bool.not_false, bne_iff_ne]; omega
theorem i28 (c : CS) (r : Nat × CS) (h : (r28 c).run = some r) : Loops (stepC E1 400 (loopC E1 28 0) 0 h28 ((.normal, h28) :: x28) s28_p) c r.1 r.2 := by
 obtain ⟨n, f, mu, hs, hf, i, d, rfl, hb⟩ := r28_inv h
 obtain ⟨hn, hb2⟩ := chkT_run hb
 have hi := lt_of (hn 1 _ rfl)
 have hm := lt_of (hn 2 _ rfl)
 have hd := lt_of (hn 3 _ rfl)
 have hn := le_of (hn 0 _ rfl)
 have hr := ask_ret hb2; subst hr; clear h hb hb2
 rw [nextV_eq]
 let q : Nat → Bool := fun k => !(!(Nat.beq k i) && (Nat.testBit mu k && (!(Nat.testBit d k) && decide ((f k 6).toI ≤ (f i 5).toI))))
 refine Loops.inv (C := fun (k : Nat) => c28 n f mu hs hf i d k) (fun k => k ≤ n ∧ ∀ j, j < k → q j = true) (fun k => n - k) (fun _ => (cond (nextB f n mu i d) 1 2, cond (nextB f n mu i d) ⟨[], []⟩ ⟨[.bool false], []⟩)) (fun k hk => ?_) 0 ⟨Nat.zero_le _, fun j hj => absurd hj (Nat.not_lt_zero _)⟩
 obtain ⟨h1, h2⟩ := hk
 by_cases hk : k = n
 ·subst hk
  have e := s28_eq k f mu hs hf i d k
  rw [lt0] at e
  rw [show nextB f k mu i d = true from okFrom_iff.2 fun j hj => by rw [Nat.zero_add]; exact h2 j hj]
  exact .inr ⟨_, 0, e, rfl, Seen.refl _⟩
 ·have hk : k < n := by omega
  have bad : q k = false → nextB f n mu i d = false := fun hq => by
   rw [Bool.eq_false_iff]; intro ho
   have := okFrom_iff.1 ho k hk
   rw [Nat.zero_add] at this
   rw [show q k = true from this] at hq; cases hq
  have good : q k = true → k + 1 ≤ n ∧ ∀ j, j < k + 1 → q j = true := fun hq => ⟨by omega, fun j hj => by
   by_cases hj' : j = k
   ·subst hj'; exact hq
   ·exact h2 j (by omega)⟩
  have e := s28_eq n f mu hs hf i d k
  rw [lt1 hk, ix_, ix_, blt_t hk, lt1 hi, blt_t hi, Int.toNat_natCast, bit_is (show k < 32 by omega), show Env.bits E1 = bitsR from q1.env.bits, tst (show mu < 4294967296 by omega) (show k < 32 by omega), tst0 (show d < 4294967296 by omega) (show k < 32 by omega), ne_nat, wrap_i64s (by omega)] at e
  have hq : q k = !(!(Nat.beq k i) && (Nat.testBit mu k && (!(Nat.testBit d k) && decide ((f k 6).toI ≤ (f i 5).toI)))) := rfl
  cases b1 : Nat.beq k i <;> cases b2 : Nat.testBit mu k <;> cases b3 : Nat.testBit d k <;> cases b4 : decide ((f k 6).toI ≤ (f i 5).toI) <;> rw [b1, b2, b3, b4] at hq <;> rw [b1, b2, b3, b4] at e
  all_goals first
   | exact .inl ⟨_, k + 1, e, Seen.refl _, good hq, by show n - (k + 1) < n - k; omega, rfl⟩
   | (rw [bad hq]; exact .inr ⟨_, 1, e, rfl, Seen.refl _⟩)
theorem q2 : Bm.Good Try.prog E2 := q1.addS (by kernel_rfl) rfl (by decide) (by decide) rfl i28
theorem j28 (c c' : CS) (h : (f28 c).run = some c') : ∃ m pr ros π, callC E2 m 28 0 pr ros π c = some c' := by
 obtain ⟨n, f, mu, hs, hf, i, d, rfl, hb⟩ := f28_inv h
 obtain ⟨hn, hb2⟩ := chkT_run hb
 have h0 := of_decide_eq_true (hn 1 _ rfl)
 obtain ⟨t, rfl⟩ := Int.eq_ofNat_of_zero_le h0
 have e := k28_eq n f mu hs hf t d
 rw [hn 0 _ rfl, show Nat.blt t n = true from hn 2 _ rfl, hn 3 _ rfl, hn 4 _ rfl] at e
 refine ⟨1500, .keep, [pF], k28_p, e.trans (Eq.trans ?_ hb2)⟩
 show _ = some (CS.mk [.bool (nextV f n mu t d)] [])
 cases nextV f n mu t d <;> rfl
structure DoOK (f : Nat → Nat → AV) (L t a b : Nat) : Prop where
 fr : (f t 2).toI = (a : Int)
 ct : (f t 3).toI = (b : Int)
 one : 1 ≤ b
 le : 8 * (a + b) ≤ L
 len : (f t 4).toS.length = 8 * b
theorem okD_at {f : Nat → Nat → AV} {n L : Nat} (h : okDV f n L = true) : L ≤ 1000 ∧ ∀ t, t < n → ∃ a b : Nat, DoOK f L t a b := by
 rw [okDV_eq] at h
 simp only [okD, Bool.and_eq_true] at h
 refine ⟨of_decide_eq_true h.1, fun t ht => ?_⟩
 have h2 := okFrom_iff.1 h.2 t ht
 rw [Nat.zero_add] at h2
 simp only [Bool.and_eq_true] at h2
 obtain ⟨h3, h5, h6, h7⟩ := h2
 have h3 : 0 ≤ (f t 2).toI := of_decide_eq_true h3
 have h5 : 1 ≤ (f t 3).toI := of_decide_eq_true h5
 have h6 : 8 * ((f t 2).toI + (f t 3).toI) ≤ (L : Int) := of_decide_eq_true h6
 have h7 : ((f t 4).toS.length : Int) = 8 * (f t 3).toI := of_decide_eq_true h7
 obtain ⟨a, ha⟩ := Int.eq_ofNat_of_zero_le h3
 obtain ⟨b, hb⟩ := Int.eq_ofNat_of_zero_le (show 0 ≤ (f t 3).toI by omega)
 exact ⟨a, b, ha, hb, by omega, by omega, by omega⟩
theorem doO_eq {f : Nat → Nat → AV} {L t a b : Nat} (h : DoOK f L t a b) (s : List Nat) : doO (opAt f t) s = cond (f t 1).toB (some (s.take (8 * a) ++ (f t 4).toS ++ s.drop (8 * a + 8 * b))) (cond ((s.drop (8 * a)).take (8 * b) == (f t 4).toS) (some s) none) := by
 show cond (f t 1).toB (some (s.take (8 * (f t 2).toI).toNat ++ (f t 4).toS ++ s.drop (8 * ((f t 2).toI + (f t 3).toI)).toNat)) (cond ((s.drop (8 * (f t 2).toI).toNat).take (8 * (f t 3).toI).toNat == (f t 4).toS) (some s) none) = _
 rw [h.fr, h.ct, show (8 * (a : Int)).toNat = 8 * a by omega, show (8 * (b : Int)).toNat = 8 * b by omega, show (8 * ((a : Int) + (b : Int))).toNat = 8 * a + 8 * b by omega]
theorem doO_len {f : Nat → Nat → AV} {L t a b : Nat} (h : DoOK f L t a b) {s s' : List Nat} (hs : s.length = L) (hd : doO (opAt f t) s = some s') : s'.length = L := by
 rw [doO_eq h] at hd
 have := h.le
 have := h.len
 cases hw : (f t 1).toB with
 | true =>
   rw [hw] at hd
   simp only [cond_true, Option.some.injEq] at hd; subst hd
   simp only [List.length_append, List.length_take, List.length_drop]
   omega
 | false =>
   rw [hw] at hd
   simp only [cond_false] at hd
   cases hq : ((s.drop (8 * a)).take (8 * b) == (f t 4).toS) with
   | true =>
     rw [hq] at hd
     simp only [cond_true, Option.some.injEq] at hd; subst hd
     exact hs
   | false => rw [hq] at hd; cases hd
theorem k29_at {n : Nat} {f : Nat → Nat → AV} {mu : Nat} {hs : AV → Bool} {hf : AV → Nat → AV} {t a b : Nat} {s : List Nat} (hi : t < n) (hL : s.length ≤ 1000) (ok : DoOK f s.length t a b) :
  k29 n f mu hs hf t s k29_p = cond (f t 1).toB (some (CS.mk [.tuple [.str (s.take (8 * a) ++ (f t 4).toS ++ s.drop (8 * a + 8 * b)), .bool true]] [])) (some (CS.mk [.tuple [.str s, .bool ((s.drop (8 * a)).take (8 * b) == (f t 4).toS)]] [])) := by
 have hle := ok.le
 have hlen := ok.len
 have hone := ok.one
 rw [k29_eq, lt1 hi, ix_, blt_t hi, ok.fr, ok.ct, wu (a := a) (by omega), wu (a := b) (by omega), wadu (a := a) (b := b) (by omega), tdiv8 (by omega), wi (a := a) (by omega), wi (a := b) (by omega), w8 (a := b) (by omega), w8r (a := a) (by omega), hlen, wad (a := 8 * a) (b := 8 * b) (by omega), Int.toNat_natCast, Int.toNat_natCast]
 rw [decide_eq_true (show 0 ≤ ((8 * a : Nat) : Int) by omega), decide_eq_true (show 0 ≤ ((8 * a + 8 * b : Nat) : Int) by omega), ble_t (show 8 * a ≤ s.length by omega), ble_t (show 8 * a + 8 * b ≤ s.length by omega), ble_t (show 8 * a ≤ 8 * a + 8 * b by omega), take_rest, take_first, show 8 * a + 8 * b - 8 * a = 8 * b by omega]
 rw [decide_eq_true (show (b : Int) > 0 by omega), decide_eq_true (show ((a + b : Nat) : Int) ≤ ((s.length / 8 : Nat) : Int) by omega), show (((8 * b : Nat) : Int) != ((8 * b : Nat) : Int)) = false from bne_self_eq_false' ..]
 rw [ble_t (show (List.take (8 * a) s).length + 8 * b ≤ 140737488355328 by rw [List.length_take]; omega), ble_t (show (List.take (8 * a) s ++ (f t 4).toS).length + (List.drop (8 * a + 8 * b) s).length ≤ 140737488355328 by rw [List.length_append, List.length_take, List.length_drop]; omega)]
 cases (f t 1).toB <;> simp only [cond_true, cond_false]
theorem j29 (c c' : CS) (h : (f29 c).run = some c') : ∃ m pr ros π, callC E1 m 29 0 pr ros π c = some c' := by
 obtain ⟨n, f, mu, hs, hf, i, s, rfl, hb⟩ := f29_inv h
 obtain ⟨hn, hb2⟩ := chkT_run hb
 have h0 := of_decide_eq_true (hn 0 _ rfl)
 obtain ⟨t, rfl⟩ := Int.eq_ofNat_of_zero_le h0
 have hi : t < n := lt_of (hn 1 _ rfl)
 obtain ⟨hL, hat⟩ := okD_at (hn 2 _ rfl)
 obtain ⟨a, b, ok⟩ := hat t hi
 have hdo := doO_eq ok s
 have e := k29_at (mu := mu) (hs := hs) (hf := hf) hi hL ok
 clear hn h hb
 have hd : doV f (Int.toNat (t : Int)) s = cond (f t 1).toB (some (s.take (8 * a) ++ (f t 4).toS ++ s.drop (8 * a + 8 * b))) (cond ((s.drop (8 * a)).take (8 * b) == (f t 4).toS) (some s) none) := by
  rw [doV_eq]; exact hdo
 rw [hd] at hb2
 refine ⟨1500, .keep, [pF], k29_p, e.trans ?_⟩
 clear e hd hdo
 rw [← hb2]
 cases (f t 1).toB with
 | true => rfl
 | false => cases ((s.drop (8 * a)).take (8 * b) == (f t 4).toS) <;> rfl
theorem q3 : Bm.Good Try.prog E3 := (q2.addR q2 (by kernel_rfl) j28).addR q1 (by kernel_rfl) j29
end Go.Proofs.Ytmjmhpbncfjnpaa.history
end
section
set_option linter.unusedSimpArgs false
set_option linter.unusedVariables false
set_option maxRecDepth 20000
namespace Go.Proofs.Ytmjmhpbncfjnpaa.history
open Go Go.RowKit Go.Proofs.Ytmjmhpbncfjnpaa.Bm
theorem findVE : ∃ q : (Nat → Nat → AV) → Nat → Nat → Nat → Sn → Nat → List Nat → Bool × Sn, q = findS := ⟨_, rfl⟩
noncomputable def findV : (Nat → Nat → AV) → Nat → Nat → Nat → Sn → Nat → List Nat → Bool × Sn := Classical.choose findVE
theorem findV_eq : findV = findS := Classical.choose_spec findVE
theorem leftVE : ∃ q : Nat → Nat → Nat, q = leftN := ⟨_, rfl⟩
noncomputable def leftV : Nat → Nat → Nat := Classical.choose leftVE
theorem leftV_eq : leftV = leftN := Classical.choose_spec leftVE
def a18 (nl : Bool) (n : Nat) (f : Nat → Nat → AV) (mu : Nat) (hs : AV → Bool) (hf : AV → Nat → AV) (d : Int) (s : List Nat) : CS :=
 ⟨[.ptr 0 0, .agg [.int .u32 d, .str s]], [some (.cells [.osl nl 1 0 n n 8 true, .int .u32 (mu : Nat), .map 2] true), some (.tarr shO n f true), some (.omap shK shB true false [.bool false] hs hf true)]⟩
noncomputable def f18B (rk : Nat) (nl : Bool) (n : Nat) (f : Nat → Nat → AV) (mu : Nat) (hs : AV → Bool) (hf : AV → Nat → AV) (d : Int) (s : List Nat) : T (CS) :=
 chkT [Nat.ble n 16, Nat.blt mu 65536, decide (0 ≤ d), Nat.blt d.toNat 65536, okDV f n s.length, (!nl || Nat.beq n 0), Nat.blt (leftV d.toNat n) rk] (.ask nl (.ret ⟨[.bool (findV f n mu (leftV d.toNat n + 1) (hs, hf) d.toNat s).1], [some (.cells [.osl true 1 0 0 0 8 true, .int .u32 (mu : Nat), .map 2] true), some (.tarr shO 0 f true), some (.omap shK shB true false [.bool false] (findV f n mu (leftV d.toNat n + 1) (hs, hf) d.toNat s).2.1 (findV f n mu (leftV d.toNat n + 1) (hs, hf) d.toNat s).2.2 true)]⟩) (.ret ⟨[.bool (findV f n mu (leftV d.toNat n + 1) (hs, hf) d.toNat s).1], [some (.cells [.osl false 1 0 n n 8 true, .int .u32 (mu : Nat), .map 2] true), some (.tarr shO n f true), some (.omap shK shB true false [.bool false] (findV f n mu (leftV d.toNat n + 1) (hs, hf) d.toNat s).2.1 (findV f n mu (leftV d.toNat n + 1) (hs, hf) d.toNat s).2.2 true)]⟩))
noncomputable def f18 (rk : Nat) (c : CS) : T (CS) := match c with
 | ⟨[.ptr 0 0, .agg [.int .u32 d, .str s]], [some (.cells [.osl nl 1 0 n z_1 8 true, .int .u32 (.ofNat mu), .map 2] true), some (.tarr sh_2 z_3 f true), some (.omap sh_4 sh_5 true false sz_6 hs hf true)]⟩ => chkT [decide (n = z_1), shBeq sh_2 shO, decide (n = z_3), shBeq sh_4 shK, shBeq sh_5 shB, AV.beqL sz_6 [.bool false]] (f18B rk nl n f mu hs hf d s)
 | _ => .fail
noncomputable def Er (rk : Nat) : Env := addF E3 18 ⟨fiRun [.keep, .keep] [pF] 1 (f18 rk)⟩
def pth : List Bool := [true]
def hd18 : Pat := ⟨77, [(0, .keep), (3, .keep)], [pF]⟩
def h18 : Pat := ⟨77, [(0, .keep), (3, .keep), (5, .keep)], [pF]⟩
def x18 : List (Ex × Pat) := [(.ret, ⟨77, [(4, .keep)], [pF]⟩)]
def g0 (n : Nat) (f : Nat → Nat → AV) (mu : Nat) (hs : AV → Bool) (hf : AV → Nat → AV) (d : Nat) (s : List Nat) : CS :=
 ⟨[.ptr 0 0, .ptr 1 0], [some (.cells [.osl false 2 0 n n 8 true, .int .u32 (mu : Nat), .map 3] true), some (.cells [.int .u32 (d : Nat), .str s] true), some (.tarr shO n f true), some (.omap shK shB true false [.bool false] hs hf true)]⟩
def g1 (n : Nat) (f : Nat → Nat → AV) (mu : Nat) (hs : AV → Bool) (hf : AV → Nat → AV) (d : Nat) (s : List Nat) (i : Int) : CS :=
 ⟨[.ptr 0 0, .ptr 1 0, .int .i64 i], [some (.cells [.osl false 2 0 n n 8 true, .int .u32 (mu : Nat), .map 3] true), some (.cells [.int .u32 (d : Nat), .str s] true), some (.tarr shO n f true), some (.omap shK shB true false [.bool false] hs hf true)]⟩
noncomputable def rGB (rk : Nat) (n : Nat) (f : Nat → Nat → AV) (mu : Nat) (hs : AV → Bool) (hf : AV → Nat → AV) (d : Nat) (s : List Nat) : T (Nat × CS) :=
 chkT [Nat.ble n 16, Nat.blt mu 65536, Nat.blt d 65536, okDV f n s.length, Nat.ble (leftV d n) rk] (.ret (0, ⟨[.bool (findV f n mu (leftV d n + 1) (hs, hf) d s).1], [some (.cells [.osl false 1 0 n n 8 true, .int .u32 (mu : Nat), .map 2] true), some (.tarr shO n f true), some (.omap shK shB true false [.bool false] (findV f n mu (leftV d n + 1) (hs, hf) d s).2.1 (findV f n mu (leftV d n + 1) (hs, hf) d s).2.2 true)]⟩))
noncomputable def rG (rk : Nat) (c : CS) : T (Nat × CS) := match c with
 | ⟨[.ptr 0 0, .ptr 1 0], [some (.cells [.osl z_1 2 0 n z_2 8 true, .int .u32 (.ofNat mu), .map 3] true), some (.cells [.int .u32 (.ofNat d), .str s] true), some (.tarr sh_3 z_4 f true), some (.omap sh_5 sh_6 true false sz_7 hs hf true)]⟩ => chkT [decide (false = z_1), decide (n = z_2), shBeq sh_3 shO, decide (n = z_4), shBeq sh_5 shK, shBeq sh_6 shB, AV.beqL sz_7 [.bool false]] (rGB rk n f mu hs hf d s)
 | _ => .fail
noncomputable def Eg (rk : Nat) : Env := addB E3 18 pth 1000001 hd18 x18 1 (rG rk)
def a18n (n : Nat) (f : Nat → Nat → AV) (mu : Nat) (hs : AV → Bool) (hf : AV → Nat → AV) (d : Nat) (s : List Nat) : CS :=
 ⟨[.ptr 0 0, .agg [.int .u32 (d : Nat), .str s]], [some (.cells [.osl false 1 0 n n 8 true, .int .u32 (mu : Nat), .map 2] true), some (.tarr shO n f true), some (.omap shK shB true false [.bool false] hs hf true)]⟩
def a18z (mu : Nat) (hs : AV → Bool) (hf : AV → Nat → AV) (d : Nat) (s : List Nat) : CS :=
 ⟨[.ptr 0 0, .agg [.int .u32 (d : Nat), .str s]], [some (.cells [.nilSlice, .int .u32 (mu : Nat), .map 2] true), none, some (.omap shK shB true false [.bool false] hs hf true)]⟩
noncomputable def sg0 (rk : Nat) (n : Nat) (f : Nat → Nat → AV) (mu : Nat) (hs : AV → Bool) (hf : AV → Nat → AV) (d : Nat) (s : List Nat) (π : Plan) : Option (Nat × CS) := stepC (Er rk) (600) (scopeC (Er rk) 18 pth) (1) (hd18) ((.goto 0, h18) :: x18) π (g0 n f mu hs hf d s)
def sg0_p : Plan := (.must true (.must true (.must true (.fork .stop (.must true (.must true (.must true (.fork .stop (.must true (.must true (.fork .stop (.reck 1 (.fork (.must true (.must true (.must true (.must true (.reck 1 (.must true (.reck 1 (.must true (.reck 3 (.fork (.reck 1 (.fork (.fork (.fork (.must true (.must false (.fork .stop (.reck 1 (.must true (.reck 1 (.must true (.reck 4 (.must true (.fork (.fork (.reck 8 (.must true (.reck 1 (.must true (.reck 3 (.must true (.must true (.reck 1 (.fork (.fork (.reck 1 (.fork (.reck 4 (.fork .stop .stop)) .stop)) .stop) .stop))))))))) .stop) .stop)))))))))) .stop) .stop) .stop)) .stop)))))))))) (.must false (.must false (.must false (.must false (.must false (.must true .stop)))))))))))))))))))
theorem sg0_is (rk : Nat) (n : Nat) (f : Nat → Nat → AV) (mu : Nat) (hs : AV → Bool) (hf : AV → Nat → AV) (d : Nat) (s : List Nat) : sg0 rk n f mu hs hf d s sg0_p = (cond (decide ((↑mu : Int) = (↑mu : Int))) (cond (decide ((↑mu : Int) = (↑mu : Int))) (cond (decide ((↑d : Int) = (↑d : Int))) (cond (Env.bits (Er rk) BinOp.and IntKind.u32 (↑d : Int) (↑mu : Int) == (↑mu : Int))
 (some (1, (CS.mk [(AV.bool (true))] [some (AObj.cells [(AV.osl (false) (1) (0) (n) (n) (8) (true)), (AV.int IntKind.u32 ((↑mu : Int))), (AV.map (2))] true), some (AObj.tarr shO (n) f true), some (AObj.omap shK shB true false [(AV.bool (false))] hs hf true)])))
 (cond (AV.toB (bif hs (AV.agg [AV.int IntKind.u32 (↑d : Int), AV.str s]) then hf (AV.agg [AV.int IntKind.u32 (↑d : Int), AV.str s]) 0 else AV.bool false) == AV.toB (bif hs (AV.agg [AV.int IntKind.u32 (↑d : Int), AV.str s]) then hf (AV.agg [AV.int IntKind.u32 (↑d : Int), AV.str s]) 0 else AV.bool false)) (cond (decide ((↑d : Int) = (↑d : Int))) (cond (s == s) (cond (AV.toB (bif hs (AV.agg [AV.int IntKind.u32 (↑d : Int), AV.str s]) then hf (AV.agg [AV.int IntKind.u32 (↑d : Int), AV.str s]) 0 else AV.bool false))
 (some (1, (CS.mk [(AV.bool (false))] [some (AObj.cells [(AV.osl (false) (1) (0) (n) (n) (8) (true)), (AV.int IntKind.u32 ((↑mu : Int))), (AV.map (2))] true), some (AObj.tarr shO (n) f true), some (AObj.omap shK shB true false [(AV.bool (false))] hs hf true)])))
 (cond (decide ((↑d : Int) = (↑d : Int))) (cond (s == s) (cond (IntKind.wrap IntKind.i64 (-1 + 1) == (↑n : Int))
 (some (1, (CS.mk [(AV.bool (false))] [some (AObj.cells [(AV.osl (false) (1) (0) (n) (n) (8) (true)), (AV.int IntKind.u32 ((↑mu : Int))), (AV.map (2))] true), some (AObj.tarr shO (n) f true), some (AObj.omap shK shB true false [(AV.bool (false))] (fun x_ => (cond (AV.beq x_ (AV.agg [(AV.int IntKind.u32 ((↑d : Int))), (AV.str (s))])) (true) (hs x_))) (fun x_ j_ => (cond (AV.beq x_ (AV.agg [(AV.int IntKind.u32 ((↑d : Int))), (AV.str (s))])) (getAt [(AV.bool (true))] j_) (hf x_ j_))) true)])))
 (cond ((Env.bits (Er rk) BinOp.and IntKind.u32 (↑d : Int) (IntKind.wrap IntKind.u32 (1 * 2 ^ min (Int.toNat (IntKind.wrap IntKind.i64 (-1 + 1))) (IntKind.bits IntKind.u32))) != 0) == false)
 (cond ((Env.bits (Er rk) BinOp.and IntKind.u32 (↑d : Int) (IntKind.wrap IntKind.u32 (1 * 2 ^ min (Int.toNat (IntKind.wrap IntKind.i64 (-1 + 1))) (IntKind.bits IntKind.u32))) != 0) == false) (cond ((Env.bits (Er rk) BinOp.and IntKind.u32 (↑d : Int) (IntKind.wrap IntKind.u32 (1 * 2 ^ min (Int.toNat (IntKind.wrap IntKind.i64 (-1 + 1))) (IntKind.bits IntKind.u32))) != 0) == false) (cond ((Env.bits (Er rk) BinOp.and IntKind.u32 (↑d : Int) (IntKind.wrap IntKind.u32 (1 * 2 ^ min (Int.toNat (IntKind.wrap IntKind.i64 (-1 + 1))) (IntKind.bits IntKind.u32))) != 0) == false) (cond ((Env.bits (Er rk) BinOp.and IntKind.u32 (↑d : Int) (IntKind.wrap IntKind.u32 (1 * 2 ^ min (Int.toNat (IntKind.wrap IntKind.i64 (-1 + 1))) (IntKind.bits IntKind.u32))) != 0) == false) (cond (decide (n = n)) (cond (decide (n = n)) (cond (Nat.ble n 16)
 (cond (Nat.blt (Int.toNat (IntKind.wrap IntKind.i64 (-1 + 1))) n)
 (cond (Nat.blt mu 65536)
 (cond (Nat.blt d 65536)
 (cond ((Env.bits (Er rk) BinOp.and IntKind.u32 (↑d : Int) (IntKind.wrap IntKind.u32 (1 * 2 ^ min (Int.toNat (IntKind.wrap IntKind.i64 (-1 + 1))) (IntKind.bits IntKind.u32))) != 0) == false) (cond (Env.bits (Er rk) BinOp.and IntKind.u32 (↑d : Int) (IntKind.wrap IntKind.u32 (1 * 2 ^ min (Int.toNat (IntKind.wrap IntKind.i64 (-1 + 1))) (IntKind.bits IntKind.u32))) != 0) none (cond (!nextV f n mu (Int.toNat (IntKind.wrap IntKind.i64 (-1 + 1))) d)
 (some (0, (CS.mk [(AV.ptr (0) (0)), (AV.ptr (1) (0)), (AV.int IntKind.i64 (0))] [some (AObj.cells [(AV.osl (false) (2) (0) (n) (n) (8) (true)), (AV.int IntKind.u32 ((↑mu : Int))), (AV.map (3))] true), some (AObj.cells [(AV.int IntKind.u32 ((↑d : Int))), (AV.str (s))] true), some (AObj.tarr shO (n) f true), some (AObj.omap shK shB true false [(AV.bool (false))] (fun x_ => (cond (AV.beq x_ (AV.agg [(AV.int IntKind.u32 ((↑d : Int))), (AV.str (s))])) (true) (hs x_))) (fun x_ j_ => (cond (AV.beq x_ (AV.agg [(AV.int IntKind.u32 ((↑d : Int))), (AV.str (s))])) (getAt [(AV.bool (true))] j_) (hf x_ j_))) true)])))
 (cond (decide (n = n)) (cond (decide (n = n)) (cond (Nat.blt (Int.toNat (IntKind.wrap IntKind.i64 (-1 + 1))) n) (cond ((okDV f (n) (List.length s)))
 (cond (Option.isSome (doV f (Int.toNat (IntKind.wrap IntKind.i64 (-1 + 1))) s))
 (cond (decide (n = n)) (cond (decide (n = n)) (cond (Nat.ble n 16) (cond (Nat.blt mu 65536) (cond (Nat.blt (Int.toNat (Env.bits (Er rk) BinOp.or IntKind.u32 (↑d : Int) (IntKind.wrap IntKind.u32 (1 * 2 ^ min (Int.toNat (IntKind.wrap IntKind.i64 (-1 + 1))) (IntKind.bits IntKind.u32))))) 65536)
 (cond ((okDV f (n) (List.length (Option.getD (doV f (Int.toNat (IntKind.wrap IntKind.i64 (-1 + 1))) s) []))))
 (cond (Nat.blt (leftV (Int.toNat (Env.bits (Er rk) BinOp.or IntKind.u32 (↑d : Int) (IntKind.wrap IntKind.u32 (1 * 2 ^ min (Int.toNat (IntKind.wrap IntKind.i64 (-1 + 1))) (IntKind.bits IntKind.u32))))) n) rk)
 (cond (!Prod.fst (findV f n mu (leftV (Int.toNat (Env.bits (Er rk) BinOp.or IntKind.u32 (↑d : Int) (IntKind.wrap IntKind.u32 (1 * 2 ^ min (Int.toNat (IntKind.wrap IntKind.i64 (-1 + 1))) (IntKind.bits IntKind.u32))))) n + 1) (fun x => bif AV.beq x (AV.agg [AV.int IntKind.u32 (↑d : Int), AV.str s]) then true else hs x, fun x j => bif AV.beq x (AV.agg [AV.int IntKind.u32 (↑d : Int), AV.str s]) then getAt [AV.bool true] j else hf x j) (Int.toNat (Env.bits (Er rk) BinOp.or IntKind.u32 (↑d : Int) (IntKind.wrap IntKind.u32 (1 * 2 ^ min (Int.toNat (IntKind.wrap IntKind.i64 (-1 + 1))) (IntKind.bits IntKind.u32))))) (Option.getD (doV f (Int.toNat (IntKind.wrap IntKind.i64 (-1 + 1))) s) [])))
 (some (0, (CS.mk [(AV.ptr (0) (0)), (AV.ptr (1) (0)), (AV.int IntKind.i64 (0))] [some (AObj.cells [(AV.osl (false) (2) (0) (n) (n) (8) (true)), (AV.int IntKind.u32 ((↑mu : Int))), (AV.map (3))] true), some (AObj.cells [(AV.int IntKind.u32 ((↑d : Int))), (AV.str (s))] true), some (AObj.tarr shO (n) f true), some (AObj.omap shK shB true false [(AV.bool (false))] (Prod.fst (Prod.snd (findV f n mu (leftV (Int.toNat (Env.bits (Er rk) BinOp.or IntKind.u32 (↑d : Int) (IntKind.wrap IntKind.u32 (1 * 2 ^ min (Int.toNat (IntKind.wrap IntKind.i64 (-1 + 1))) (IntKind.bits IntKind.u32))))) n + 1) (fun x => bif AV.beq x (AV.agg [AV.int IntKind.u32 (↑d : Int), AV.str s]) then true else hs x, fun x j => bif AV.beq x (AV.agg [AV.int IntKind.u32 (↑d : Int), AV.str s]) then getAt [AV.bool true] j else hf x j) (Int.toNat (Env.bits (Er rk) BinOp.or IntKind.u32 (↑d : Int) (IntKind.wrap IntKind.u32 (1 * 2 ^ min (Int.toNat (IntKind.wrap IntKind.i64 (-1 + 1))) (IntKind.bits IntKind.u32))))) (Option.getD (doV f (Int.toNat (IntKind.wrap IntKind.i64 (-1 + 1))) s) [])))) (Prod.snd (Prod.snd (findV f n mu (leftV (Int.toNat (Env.bits (Er rk) BinOp.or IntKind.u32 (↑d : Int) (IntKind.wrap IntKind.u32 (1 * 2 ^ min (Int.toNat (IntKind.wrap IntKind.i64 (-1 + 1))) (IntKind.bits IntKind.u32))))) n + 1) (fun x => bif AV.beq x (AV.agg [AV.int IntKind.u32 (↑d : Int), AV.str s]) then true else hs x, fun x j => bif AV.beq x (AV.agg [AV.int IntKind.u32 (↑d : Int), AV.str s]) then getAt [AV.bool true] j else hf x j) (Int.toNat (Env.bits (Er rk) BinOp.or IntKind.u32 (↑d : Int) (IntKind.wrap IntKind.u32 (1 * 2 ^ min (Int.toNat (IntKind.wrap IntKind.i64 (-1 + 1))) (IntKind.bits IntKind.u32))))) (Option.getD (doV f (Int.toNat (IntKind.wrap IntKind.i64 (-1 + 1))) s) [])))) true)])))
 (some (1, (CS.mk [(AV.bool (true))] [some (AObj.cells [(AV.osl (false) (1) (0) (n) (n) (8) (true)), (AV.int IntKind.u32 ((↑mu : Int))), (AV.map (2))] true), some (AObj.tarr shO (n) f true), some (AObj.omap shK shB true false [(AV.bool (false))] (Prod.fst (Prod.snd (findV f n mu (leftV (Int.toNat (Env.bits (Er rk) BinOp.or IntKind.u32 (↑d : Int) (IntKind.wrap IntKind.u32 (1 * 2 ^ min (Int.toNat (IntKind.wrap IntKind.i64 (-1 + 1))) (IntKind.bits IntKind.u32))))) n + 1) (fun x => bif AV.beq x (AV.agg [AV.int IntKind.u32 (↑d : Int), AV.str s]) then true else hs x, fun x j => bif AV.beq x (AV.agg [AV.int IntKind.u32 (↑d : Int), AV.str s]) then getAt [AV.bool true] j else hf x j) (Int.toNat (Env.bits (Er rk) BinOp.or IntKind.u32 (↑d : Int) (IntKind.wrap IntKind.u32 (1 * 2 ^ min (Int.toNat (IntKind.wrap IntKind.i64 (-1 + 1))) (IntKind.bits IntKind.u32))))) (Option.getD (doV f (Int.toNat (IntKind.wrap IntKind.i64 (-1 + 1))) s) [])))) (Prod.snd (Prod.snd (findV f n mu (leftV (Int.toNat (Env.bits (Er rk) BinOp.or IntKind.u32 (↑d : Int) (IntKind.wrap IntKind.u32 (1 * 2 ^ min (Int.toNat (IntKind.wrap IntKind.i64 (-1 + 1))) (IntKind.bits IntKind.u32))))) n + 1) (fun x => bif AV.beq x (AV.agg [AV.int IntKind.u32 (↑d : Int), AV.str s]) then true else hs x, fun x j => bif AV.beq x (AV.agg [AV.int IntKind.u32 (↑d : Int), AV.str s]) then getAt [AV.bool true] j else hf x j) (Int.toNat (Env.bits (Er rk) BinOp.or IntKind.u32 (↑d : Int) (IntKind.wrap IntKind.u32 (1 * 2 ^ min (Int.toNat (IntKind.wrap IntKind.i64 (-1 + 1))) (IntKind.bits IntKind.u32))))) (Option.getD (doV f (Int.toNat (IntKind.wrap IntKind.i64 (-1 + 1))) s) [])))) true)]))))
 none)
 none)
 none) none) none) none) none)
 (some (0, (CS.mk [(AV.ptr (0) (0)), (AV.ptr (1) (0)), (AV.int IntKind.i64 (0))] [some (AObj.cells [(AV.osl (false) (2) (0) (n) (n) (8) (true)), (AV.int IntKind.u32 ((↑mu : Int))), (AV.map (3))] true), some (AObj.cells [(AV.int IntKind.u32 ((↑d : Int))), (AV.str (s))] true), some (AObj.tarr shO (n) f true), some (AObj.omap shK shB true false [(AV.bool (false))] (fun x_ => (cond (AV.beq x_ (AV.agg [(AV.int IntKind.u32 ((↑d : Int))), (AV.str (s))])) (true) (hs x_))) (fun x_ j_ => (cond (AV.beq x_ (AV.agg [(AV.int IntKind.u32 ((↑d : Int))), (AV.str (s))])) (getAt [(AV.bool (true))] j_) (hf x_ j_))) true)]))))
 none) none) none) none))) none)
 none)
 none)
 none)
 none) none) none) none) none) none) none)
 (cond ((Env.bits (Er rk) BinOp.and IntKind.u32 (↑d : Int) (IntKind.wrap IntKind.u32 (1 * 2 ^ min (Int.toNat (IntKind.wrap IntKind.i64 (-1 + 1))) (IntKind.bits IntKind.u32))) != 0) == false) none (cond ((Env.bits (Er rk) BinOp.and IntKind.u32 (↑d : Int) (IntKind.wrap IntKind.u32 (1 * 2 ^ min (Int.toNat (IntKind.wrap IntKind.i64 (-1 + 1))) (IntKind.bits IntKind.u32))) != 0) == false) none (cond ((Env.bits (Er rk) BinOp.and IntKind.u32 (↑d : Int) (IntKind.wrap IntKind.u32 (1 * 2 ^ min (Int.toNat (IntKind.wrap IntKind.i64 (-1 + 1))) (IntKind.bits IntKind.u32))) != 0) == false) none (cond ((Env.bits (Er rk) BinOp.and IntKind.u32 (↑d : Int) (IntKind.wrap IntKind.u32 (1 * 2 ^ min (Int.toNat (IntKind.wrap IntKind.i64 (-1 + 1))) (IntKind.bits IntKind.u32))) != 0) == false) none (cond ((Env.bits (Er rk) BinOp.and IntKind.u32 (↑d : Int) (IntKind.wrap IntKind.u32 (1 * 2 ^ min (Int.toNat (IntKind.wrap IntKind.i64 (-1 + 1))) (IntKind.bits IntKind.u32))) != 0) == false) none (cond (Env.bits (Er rk) BinOp.and IntKind.u32 (↑d : Int) (IntKind.wrap IntKind.u32 (1 * 2 ^ min (Int.toNat (IntKind.wrap IntKind.i64 (-1 + 1))) (IntKind.bits IntKind.u32))) != 0) (some (0, (CS.mk [(AV.ptr (0) (0)), (AV.ptr (1) (0)), (AV.int IntKind.i64 (0))] [some (AObj.cells [(AV.osl (false) (2) (0) (n) (n) (8) (true)), (AV.int IntKind.u32 ((↑mu : Int))), (AV.map (3))] true), some (AObj.cells [(AV.int IntKind.u32 ((↑d : Int))), (AV.str (s))] true), some (AObj.tarr shO (n) f true), some (AObj.omap shK shB true false [(AV.bool (false))] (fun x_ => (cond (AV.beq x_ (AV.agg [(AV.int IntKind.u32 ((↑d : Int))), (AV.str (s))])) (true) (hs x_))) (fun x_ j_ => (cond (AV.beq x_ (AV.agg [(AV.int IntKind.u32 ((↑d : Int))), (AV.str (s))])) (getAt [(AV.bool (true))] j_) (hf x_ j_))) true)]))) none)))))))) none) none)) none) none) none)) none) none) none) := by kernel_rfl
theorem sg0_eq (rk : Nat) (n : Nat) (f : Nat → Nat → AV) (mu : Nat) (hs : AV → Bool) (hf : AV → Nat → AV) (d : Nat) (s : List Nat) : sg0 rk n f mu hs hf d s sg0_p = (cond (Env.bits (Er rk) BinOp.and IntKind.u32 (↑d : Int) (↑mu : Int) == (↑mu : Int))
 (some (1, (CS.mk [(AV.bool (true))] [some (AObj.cells [(AV.osl (false) (1) (0) (n) (n) (8) (true)), (AV.int IntKind.u32 ((↑mu : Int))), (AV.map (2))] true), some (AObj.tarr shO (n) f true), some (AObj.omap shK shB true false [(AV.bool (false))] hs hf true)])))
 (cond (AV.toB (bif hs (AV.agg [AV.int IntKind.u32 (↑d : Int), AV.str s]) then hf (AV.agg [AV.int IntKind.u32 (↑d : Int), AV.str s]) 0 else AV.bool false))
 (some (1, (CS.mk [(AV.bool (false))] [some (AObj.cells [(AV.osl (false) (1) (0) (n) (n) (8) (true)), (AV.int IntKind.u32 ((↑mu : Int))), (AV.map (2))] true), some (AObj.tarr shO (n) f true), some (AObj.omap shK shB true false [(AV.bool (false))] hs hf true)])))
 (cond (IntKind.wrap IntKind.i64 (-1 + 1) == (↑n : Int))
 (some (1, (CS.mk [(AV.bool (false))] [some (AObj.cells [(AV.osl (false) (1) (0) (n) (n) (8) (true)), (AV.int IntKind.u32 ((↑mu : Int))), (AV.map (2))] true), some (AObj.tarr shO (n) f true), some (AObj.omap shK shB true false [(AV.bool (false))] (fun x_ => (cond (AV.beq x_ (AV.agg [(AV.int IntKind.u32 ((↑d : Int))), (AV.str (s))])) (true) (hs x_))) (fun x_ j_ => (cond (AV.beq x_ (AV.agg [(AV.int IntKind.u32 ((↑d : Int))), (AV.str (s))])) (getAt [(AV.bool (true))] j_) (hf x_ j_))) true)])))
 (cond (Env.bits (Er rk) BinOp.and IntKind.u32 (↑d : Int) (IntKind.wrap IntKind.u32 (1 * 2 ^ min (Int.toNat (IntKind.wrap IntKind.i64 (-1 + 1))) (IntKind.bits IntKind.u32))) != 0)
 (some (0, (CS.mk [(AV.ptr (0) (0)), (AV.ptr (1) (0)), (AV.int IntKind.i64 (0))] [some (AObj.cells [(AV.osl (false) (2) (0) (n) (n) (8) (true)), (AV.int IntKind.u32 ((↑mu : Int))), (AV.map (3))] true), some (AObj.cells [(AV.int IntKind.u32 ((↑d : Int))), (AV.str (s))] true), some (AObj.tarr shO (n) f true), some (AObj.omap shK shB true false [(AV.bool (false))] (fun x_ => (cond (AV.beq x_ (AV.agg [(AV.int IntKind.u32 ((↑d : Int))), (AV.str (s))])) (true) (hs x_))) (fun x_ j_ => (cond (AV.beq x_ (AV.agg [(AV.int IntKind.u32 ((↑d : Int))), (AV.str (s))])) (getAt [(AV.bool (true))] j_) (hf x_ j_))) true)])))
 (cond (Nat.ble n 16)
 (cond (Nat.blt (Int.toNat (IntKind.wrap IntKind.i64 (-1 + 1))) n)
 (cond (Nat.blt mu 65536)
 (cond (Nat.blt d 65536)
 (cond (nextV f n mu (Int.toNat (IntKind.wrap IntKind.i64 (-1 + 1))) d)
 (cond (okDV f (n) (List.length s))
 (cond (Option.isSome (doV f (Int.toNat (IntKind.wrap IntKind.i64 (-1 + 1))) s))
 (cond (Nat.blt (Int.toNat (Env.bits (Er rk) BinOp.or IntKind.u32 (↑d : Int) (IntKind.wrap IntKind.u32 (1 * 2 ^ min (Int.toNat (IntKind.wrap IntKind.i64 (-1 + 1))) (IntKind.bits IntKind.u32))))) 65536)
 (cond (okDV f (n) (List.length (Option.getD (doV f (Int.toNat (IntKind.wrap IntKind.i64 (-1 + 1))) s) [])))
 (cond (Nat.blt (leftV (Int.toNat (Env.bits (Er rk) BinOp.or IntKind.u32 (↑d : Int) (IntKind.wrap IntKind.u32 (1 * 2 ^ min (Int.toNat (IntKind.wrap IntKind.i64 (-1 + 1))) (IntKind.bits IntKind.u32))))) n) rk)
 (cond (Prod.fst (findV f n mu (leftV (Int.toNat (Env.bits (Er rk) BinOp.or IntKind.u32 (↑d : Int) (IntKind.wrap IntKind.u32 (1 * 2 ^ min (Int.toNat (IntKind.wrap IntKind.i64 (-1 + 1))) (IntKind.bits IntKind.u32))))) n + 1) (fun x => bif AV.beq x (AV.agg [AV.int IntKind.u32 (↑d : Int), AV.str s]) then true else hs x, fun x j => bif AV.beq x (AV.agg [AV.int IntKind.u32 (↑d : Int), AV.str s]) then getAt [AV.bool true] j else hf x j) (Int.toNat (Env.bits (Er rk) BinOp.or IntKind.u32 (↑d : Int) (IntKind.wrap IntKind.u32 (1 * 2 ^ min (Int.toNat (IntKind.wrap IntKind.i64 (-1 + 1))) (IntKind.bits IntKind.u32))))) (Option.getD (doV f (Int.toNat (IntKind.wrap IntKind.i64 (-1 + 1))) s) [])))
 (some (1, (CS.mk [(AV.bool (true))] [some (AObj.cells [(AV.osl (false) (1) (0) (n) (n) (8) (true)), (AV.int IntKind.u32 ((↑mu : Int))), (AV.map (2))] true), some (AObj.tarr shO (n) f true), some (AObj.omap shK shB true false [(AV.bool (false))] (Prod.fst (Prod.snd (findV f n mu (leftV (Int.toNat (Env.bits (Er rk) BinOp.or IntKind.u32 (↑d : Int) (IntKind.wrap IntKind.u32 (1 * 2 ^ min (Int.toNat (IntKind.wrap IntKind.i64 (-1 + 1))) (IntKind.bits IntKind.u32))))) n + 1) (fun x => bif AV.beq x (AV.agg [AV.int IntKind.u32 (↑d : Int), AV.str s]) then true else hs x, fun x j => bif AV.beq x (AV.agg [AV.int IntKind.u32 (↑d : Int), AV.str s]) then getAt [AV.bool true] j else hf x j) (Int.toNat (Env.bits (Er rk) BinOp.or IntKind.u32 (↑d : Int) (IntKind.wrap IntKind.u32 (1 * 2 ^ min (Int.toNat (IntKind.wrap IntKind.i64 (-1 + 1))) (IntKind.bits IntKind.u32))))) (Option.getD (doV f (Int.toNat (IntKind.wrap IntKind.i64 (-1 + 1))) s) [])))) (Prod.snd (Prod.snd (findV f n mu (leftV (Int.toNat (Env.bits (Er rk) BinOp.or IntKind.u32 (↑d : Int) (IntKind.wrap IntKind.u32 (1 * 2 ^ min (Int.toNat (IntKind.wrap IntKind.i64 (-1 + 1))) (IntKind.bits IntKind.u32))))) n + 1) (fun x => bif AV.beq x (AV.agg [AV.int IntKind.u32 (↑d : Int), AV.str s]) then true else hs x, fun x j => bif AV.beq x (AV.agg [AV.int IntKind.u32 (↑d : Int), AV.str s]) then getAt [AV.bool true] j else hf x j) (Int.toNat (Env.bits (Er rk) BinOp.or IntKind.u32 (↑d : Int) (IntKind.wrap IntKind.u32 (1 * 2 ^ min (Int.toNat (IntKind.wrap IntKind.i64 (-1 + 1))) (IntKind.bits IntKind.u32))))) (Option.getD (doV f (Int.toNat (IntKind.wrap IntKind.i64 (-1 + 1))) s) [])))) true)])))
 (some (0, (CS.mk [(AV.ptr (0) (0)), (AV.ptr (1) (0)), (AV.int IntKind.i64 (0))] [some (AObj.cells [(AV.osl (false) (2) (0) (n) (n) (8) (true)), (AV.int IntKind.u32 ((↑mu : Int))), (AV.map (3))] true), some (AObj.cells [(AV.int IntKind.u32 ((↑d : Int))), (AV.str (s))] true), some (AObj.tarr shO (n) f true), some (AObj.omap shK shB true false [(AV.bool (false))] (Prod.fst (Prod.snd (findV f n mu (leftV (Int.toNat (Env.bits (Er rk) BinOp.or IntKind.u32 (↑d : Int) (IntKind.wrap IntKind.u32 (1 * 2 ^ min (Int.toNat (IntKind.wrap IntKind.i64 (-1 + 1))) (IntKind.bits IntKind.u32))))) n + 1) (fun x => bif AV.beq x (AV.agg [AV.int IntKind.u32 (↑d : Int), AV.str s]) then true else hs x, fun x j => bif AV.beq x (AV.agg [AV.int IntKind.u32 (↑d : Int), AV.str s]) then getAt [AV.bool true] j else hf x j) (Int.toNat (Env.bits (Er rk) BinOp.or IntKind.u32 (↑d : Int) (IntKind.wrap IntKind.u32 (1 * 2 ^ min (Int.toNat (IntKind.wrap IntKind.i64 (-1 + 1))) (IntKind.bits IntKind.u32))))) (Option.getD (doV f (Int.toNat (IntKind.wrap IntKind.i64 (-1 + 1))) s) [])))) (Prod.snd (Prod.snd (findV f n mu (leftV (Int.toNat (Env.bits (Er rk) BinOp.or IntKind.u32 (↑d : Int) (IntKind.wrap IntKind.u32 (1 * 2 ^ min (Int.toNat (IntKind.wrap IntKind.i64 (-1 + 1))) (IntKind.bits IntKind.u32))))) n + 1) (fun x => bif AV.beq x (AV.agg [AV.int IntKind.u32 (↑d : Int), AV.str s]) then true else hs x, fun x j => bif AV.beq x (AV.agg [AV.int IntKind.u32 (↑d : Int), AV.str s]) then getAt [AV.bool true] j else hf x j) (Int.toNat (Env.bits (Er rk) BinOp.or IntKind.u32 (↑d : Int) (IntKind.wrap IntKind.u32 (1 * 2 ^ min (Int.toNat (IntKind.wrap IntKind.i64 (-1 + 1))) (IntKind.bits IntKind.u32))))) (Option.getD (doV f (Int.toNat (IntKind.wrap IntKind.i64 (-1 + 1))) s) [])))) true)]))))
 none)
 none)
 none)
 (some (0, (CS.mk [(AV.ptr (0) (0)), (AV.ptr (1) (0)), (AV.int IntKind.i64 (0))] [some (AObj.cells [(AV.osl (false) (2) (0) (n) (n) (8) (true)), (AV.int IntKind.u32 ((↑mu : Int))), (AV.map (3))] true), some (AObj.cells [(AV.int IntKind.u32 ((↑d : Int))), (AV.str (s))] true), some (AObj.tarr shO (n) f true), some (AObj.omap shK shB true false [(AV.bool (false))] (fun x_ => (cond (AV.beq x_ (AV.agg [(AV.int IntKind.u32 ((↑d : Int))), (AV.str (s))])) (true) (hs x_))) (fun x_ j_ => (cond (AV.beq x_ (AV.agg [(AV.int IntKind.u32 ((↑d : Int))), (AV.str (s))])) (getAt [(AV.bool (true))] j_) (hf x_ j_))) true)]))))
 none)
 (some (0, (CS.mk [(AV.ptr (0) (0)), (AV.ptr (1) (0)), (AV.int IntKind.i64 (0))] [some (AObj.cells [(AV.osl (false) (2) (0) (n) (n) (8) (true)), (AV.int IntKind.u32 ((↑mu : Int))), (AV.map (3))] true), some (AObj.cells [(AV.int IntKind.u32 ((↑d : Int))), (AV.str (s))] true), some (AObj.tarr shO (n) f true), some (AObj.omap shK shB true false [(AV.bool (false))] (fun x_ => (cond (AV.beq x_ (AV.agg [(AV.int IntKind.u32 ((↑d : Int))), (AV.str (s))])) (true) (hs x_))) (fun x_ j_ => (cond (AV.beq x_ (AV.agg [(AV.int IntKind.u32 ((↑d : Int))), (AV.str (s))])) (getAt [(AV.bool (true))] j_) (hf x_ j_))) true)]))))
 none)
 none)
 none)
 none))))) := by
 rw [sg0_is]
 try simp only [eq_self, decide_true, beq_self_eq_true, Nat.beq_refl, ble_self, Int.le_refl, Nat.le_refl]
 cases (Env.bits (Er rk) BinOp.and IntKind.u32 (↑d : Int) (↑mu : Int) == (↑mu : Int)) with
 | true =>
   rfl
 | false =>
   cases (AV.toB (bif hs (AV.agg [AV.int IntKind.u32 (↑d : Int), AV.str s]) then hf (AV.agg [AV.int IntKind.u32 (↑d : Int), AV.str s]) 0 else AV.bool false)) with
   | true =>
     rfl
   | false =>
     cases (IntKind.wrap IntKind.i64 (-1 + 1) == (↑n : Int)) with
     | true =>
       rfl
     | false =>
       cases (Env.bits (Er rk) BinOp.and IntKind.u32 (↑d : Int) (IntKind.wrap IntKind.u32 (1 * 2 ^ min (Int.toNat (IntKind.wrap IntKind.i64 (-1 + 1))) (IntKind.bits IntKind.u32))) != 0) with
       | true =>
         rfl
       | false =>
         cases (Nat.ble n 16) with
         | true =>
           cases (Nat.blt (Int.toNat (IntKind.wrap IntKind.i64 (-1 + 1))) n) with
           | true =>
             cases (Nat.blt mu 65536) with
             | true =>
               cases (Nat.blt d 65536) with
               | true =>
                 cases (nextV f n mu (Int.toNat (IntKind.wrap IntKind.i64 (-1 + 1))) d) with
                 | true =>
                   cases (okDV f (n) (List.length s)) with
                   | true =>
                     cases (Option.isSome (doV f (Int.toNat (IntKind.wrap IntKind.i64 (-1 + 1))) s)) with
                     | true =>
                       cases (Nat.blt (Int.toNat (Env.bits (Er rk) BinOp.or IntKind.u32 (↑d : Int) (IntKind.wrap IntKind.u32 (1 * 2 ^ min (Int.toNat (IntKind.wrap IntKind.i64 (-1 + 1))) (IntKind.bits IntKind.u32))))) 65536) with
                       | true =>
                         cases (okDV f (n) (List.length (Option.getD (doV f (Int.toNat (IntKind.wrap IntKind.i64 (-1 + 1))) s) []))) with
                         | true =>
                           cases (Nat.blt (leftV (Int.toNat (Env.bits (Er rk) BinOp.or IntKind.u32 (↑d : Int) (IntKind.wrap IntKind.u32 (1 * 2 ^ min (Int.toNat (IntKind.wrap IntKind.i64 (-1 + 1))) (IntKind.bits IntKind.u32))))) n) rk) with
                           | true =>
                             cases (Prod.fst (findV f n mu (leftV (Int.toNat (Env.bits (Er rk) BinOp.or IntKind.u32 (↑d : Int) (IntKind.wrap IntKind.u32 (1 * 2 ^ min (Int.toNat (IntKind.wrap IntKind.i64 (-1 + 1))) (IntKind.bits IntKind.u32))))) n + 1) (fun x => bif AV.beq x (AV.agg [AV.int IntKind.u32 (↑d : Int), AV.str s]) then true else hs x, fun x j => bif AV.beq x (AV.agg [AV.int IntKind.u32 (↑d : Int), AV.str s]) then getAt [AV.bool true] j else hf x j) (Int.toNat (Env.bits (Er rk) BinOp.or IntKind.u32 (↑d : Int) (IntKind.wrap IntKind.u32 (1 * 2 ^ min (Int.toNat (IntKind.wrap IntKind.i64 (-1 + 1))) (IntKind.bits IntKind.u32))))) (Option.getD (doV f (Int.toNat (IntKind.wrap IntKind.i64 (-1 + 1))) s) []))) with
                             | true =>
                               rfl
                             | false =>
                               rfl
                           | false =>
                             rfl
                         | false =>
                           rfl
                       | false =>
                         rfl
                     | false =>
                       rfl
                   | false =>
                     rfl
                 | false =>
                   rfl
               | false =>
                 rfl
             | false =>
               rfl
           | false =>
             rfl
         | false =>
           rfl
noncomputable def sg1 (rk : Nat) (n : Nat) (f : Nat → Nat → AV) (mu : Nat) (hs : AV → Bool) (hf : AV → Nat → AV) (d : Nat) (s : List Nat) (i : Int) (π : Plan) : Option (Nat × CS) := stepC (Er rk) (600) (restC (Er rk) 18 pth 0) (1) (h18) ((.goto 0, h18) :: x18) π (g1 n f mu hs hf d s i)
def sg1_p : Plan := (.fork .stop (.fork (.fork (.must true (.must true (.must true (.must true (.reck 1 (.must true (.reck 1 (.must true (.reck 3 (.fork (.fork (.fork (.fork (.fork (.must true (.must false (.fork .stop (.reck 1 (.must true (.reck 1 (.must true (.reck 3 (.must true (.must true (.fork (.fork (.reck 8 (.must true (.reck 1 (.must true (.reck 3 (.must true (.must true (.reck 1 (.fork (.fork (.reck 1 (.fork (.reck 4 (.fork .stop .stop)) .stop)) .stop) .stop))))))))) .stop) .stop))))))))))) .stop) .stop) .stop) .stop) .stop)))))))))) (.must false (.must false (.must false (.must false (.must false (.must true .stop))))))) .stop))
theorem sg1_is (rk : Nat) (n : Nat) (f : Nat → Nat → AV) (mu : Nat) (hs : AV → Bool) (hf : AV → Nat → AV) (d : Nat) (s : List Nat) (i : Int) : sg1 rk n f mu hs hf d s i sg1_p = (cond (IntKind.wrap IntKind.i64 (i + 1) == (↑n : Int))
 (some (1, (CS.mk [(AV.bool (false))] [some (AObj.cells [(AV.osl (false) (1) (0) (n) (n) (8) (true)), (AV.int IntKind.u32 ((↑mu : Int))), (AV.map (2))] true), some (AObj.tarr shO (n) f true), some (AObj.omap shK shB true false [(AV.bool (false))] hs hf true)])))
 (cond (!decide (IntKind.wrap IntKind.i64 (i + 1) < 0))
 (cond ((Env.bits (Er rk) BinOp.and IntKind.u32 (↑d : Int) (IntKind.wrap IntKind.u32 (1 * 2 ^ min (Int.toNat (IntKind.wrap IntKind.i64 (i + 1))) (IntKind.bits IntKind.u32))) != 0) == false)
 (cond ((Env.bits (Er rk) BinOp.and IntKind.u32 (↑d : Int) (IntKind.wrap IntKind.u32 (1 * 2 ^ min (Int.toNat (IntKind.wrap IntKind.i64 (i + 1))) (IntKind.bits IntKind.u32))) != 0) == false) (cond ((Env.bits (Er rk) BinOp.and IntKind.u32 (↑d : Int) (IntKind.wrap IntKind.u32 (1 * 2 ^ min (Int.toNat (IntKind.wrap IntKind.i64 (i + 1))) (IntKind.bits IntKind.u32))) != 0) == false) (cond ((Env.bits (Er rk) BinOp.and IntKind.u32 (↑d : Int) (IntKind.wrap IntKind.u32 (1 * 2 ^ min (Int.toNat (IntKind.wrap IntKind.i64 (i + 1))) (IntKind.bits IntKind.u32))) != 0) == false) (cond ((Env.bits (Er rk) BinOp.and IntKind.u32 (↑d : Int) (IntKind.wrap IntKind.u32 (1 * 2 ^ min (Int.toNat (IntKind.wrap IntKind.i64 (i + 1))) (IntKind.bits IntKind.u32))) != 0) == false) (cond (decide (n = n)) (cond (decide (n = n)) (cond (Nat.ble n 16)
 (cond (decide (0 ≤ IntKind.wrap IntKind.i64 (i + 1)))
 (cond (Nat.blt (Int.toNat (IntKind.wrap IntKind.i64 (i + 1))) n)
 (cond (Nat.blt mu 65536)
 (cond (Nat.blt d 65536)
 (cond ((Env.bits (Er rk) BinOp.and IntKind.u32 (↑d : Int) (IntKind.wrap IntKind.u32 (1 * 2 ^ min (Int.toNat (IntKind.wrap IntKind.i64 (i + 1))) (IntKind.bits IntKind.u32))) != 0) == false) (cond (Env.bits (Er rk) BinOp.and IntKind.u32 (↑d : Int) (IntKind.wrap IntKind.u32 (1 * 2 ^ min (Int.toNat (IntKind.wrap IntKind.i64 (i + 1))) (IntKind.bits IntKind.u32))) != 0) none (cond (!nextV f n mu (Int.toNat (IntKind.wrap IntKind.i64 (i + 1))) d)
 (some (0, (CS.mk [(AV.ptr (0) (0)), (AV.ptr (1) (0)), (AV.int IntKind.i64 (IntKind.wrap IntKind.i64 (i + 1)))] [some (AObj.cells [(AV.osl (false) (2) (0) (n) (n) (8) (true)), (AV.int IntKind.u32 ((↑mu : Int))), (AV.map (3))] true), some (AObj.cells [(AV.int IntKind.u32 ((↑d : Int))), (AV.str (s))] true), some (AObj.tarr shO (n) f true), some (AObj.omap shK shB true false [(AV.bool (false))] hs hf true)])))
 (cond (decide (n = n)) (cond (decide (n = n)) (cond (decide (0 ≤ IntKind.wrap IntKind.i64 (i + 1))) (cond (Nat.blt (Int.toNat (IntKind.wrap IntKind.i64 (i + 1))) n) (cond ((okDV f (n) (List.length s)))
 (cond (Option.isSome (doV f (Int.toNat (IntKind.wrap IntKind.i64 (i + 1))) s))
 (cond (decide (n = n)) (cond (decide (n = n)) (cond (Nat.ble n 16) (cond (Nat.blt mu 65536) (cond (Nat.blt (Int.toNat (Env.bits (Er rk) BinOp.or IntKind.u32 (↑d : Int) (IntKind.wrap IntKind.u32 (1 * 2 ^ min (Int.toNat (IntKind.wrap IntKind.i64 (i + 1))) (IntKind.bits IntKind.u32))))) 65536)
 (cond ((okDV f (n) (List.length (Option.getD (doV f (Int.toNat (IntKind.wrap IntKind.i64 (i + 1))) s) []))))
 (cond (Nat.blt (leftV (Int.toNat (Env.bits (Er rk) BinOp.or IntKind.u32 (↑d : Int) (IntKind.wrap IntKind.u32 (1 * 2 ^ min (Int.toNat (IntKind.wrap IntKind.i64 (i + 1))) (IntKind.bits IntKind.u32))))) n) rk)
 (cond (!Prod.fst (findV f n mu (leftV (Int.toNat (Env.bits (Er rk) BinOp.or IntKind.u32 (↑d : Int) (IntKind.wrap IntKind.u32 (1 * 2 ^ min (Int.toNat (IntKind.wrap IntKind.i64 (i + 1))) (IntKind.bits IntKind.u32))))) n + 1) (hs, hf) (Int.toNat (Env.bits (Er rk) BinOp.or IntKind.u32 (↑d : Int) (IntKind.wrap IntKind.u32 (1 * 2 ^ min (Int.toNat (IntKind.wrap IntKind.i64 (i + 1))) (IntKind.bits IntKind.u32))))) (Option.getD (doV f (Int.toNat (IntKind.wrap IntKind.i64 (i + 1))) s) [])))
 (some (0, (CS.mk [(AV.ptr (0) (0)), (AV.ptr (1) (0)), (AV.int IntKind.i64 (IntKind.wrap IntKind.i64 (i + 1)))] [some (AObj.cells [(AV.osl (false) (2) (0) (n) (n) (8) (true)), (AV.int IntKind.u32 ((↑mu : Int))), (AV.map (3))] true), some (AObj.cells [(AV.int IntKind.u32 ((↑d : Int))), (AV.str (s))] true), some (AObj.tarr shO (n) f true), some (AObj.omap shK shB true false [(AV.bool (false))] (Prod.fst (Prod.snd (findV f n mu (leftV (Int.toNat (Env.bits (Er rk) BinOp.or IntKind.u32 (↑d : Int) (IntKind.wrap IntKind.u32 (1 * 2 ^ min (Int.toNat (IntKind.wrap IntKind.i64 (i + 1))) (IntKind.bits IntKind.u32))))) n + 1) (hs, hf) (Int.toNat (Env.bits (Er rk) BinOp.or IntKind.u32 (↑d : Int) (IntKind.wrap IntKind.u32 (1 * 2 ^ min (Int.toNat (IntKind.wrap IntKind.i64 (i + 1))) (IntKind.bits IntKind.u32))))) (Option.getD (doV f (Int.toNat (IntKind.wrap IntKind.i64 (i + 1))) s) [])))) (Prod.snd (Prod.snd (findV f n mu (leftV (Int.toNat (Env.bits (Er rk) BinOp.or IntKind.u32 (↑d : Int) (IntKind.wrap IntKind.u32 (1 * 2 ^ min (Int.toNat (IntKind.wrap IntKind.i64 (i + 1))) (IntKind.bits IntKind.u32))))) n + 1) (hs, hf) (Int.toNat (Env.bits (Er rk) BinOp.or IntKind.u32 (↑d : Int) (IntKind.wrap IntKind.u32 (1 * 2 ^ min (Int.toNat (IntKind.wrap IntKind.i64 (i + 1))) (IntKind.bits IntKind.u32))))) (Option.getD (doV f (Int.toNat (IntKind.wrap IntKind.i64 (i + 1))) s) [])))) true)])))
 (some (1, (CS.mk [(AV.bool (true))] [some (AObj.cells [(AV.osl (false) (1) (0) (n) (n) (8) (true)), (AV.int IntKind.u32 ((↑mu : Int))), (AV.map (2))] true), some (AObj.tarr shO (n) f true), some (AObj.omap shK shB true false [(AV.bool (false))] (Prod.fst (Prod.snd (findV f n mu (leftV (Int.toNat (Env.bits (Er rk) BinOp.or IntKind.u32 (↑d : Int) (IntKind.wrap IntKind.u32 (1 * 2 ^ min (Int.toNat (IntKind.wrap IntKind.i64 (i + 1))) (IntKind.bits IntKind.u32))))) n + 1) (hs, hf) (Int.toNat (Env.bits (Er rk) BinOp.or IntKind.u32 (↑d : Int) (IntKind.wrap IntKind.u32 (1 * 2 ^ min (Int.toNat (IntKind.wrap IntKind.i64 (i + 1))) (IntKind.bits IntKind.u32))))) (Option.getD (doV f (Int.toNat (IntKind.wrap IntKind.i64 (i + 1))) s) [])))) (Prod.snd (Prod.snd (findV f n mu (leftV (Int.toNat (Env.bits (Er rk) BinOp.or IntKind.u32 (↑d : Int) (IntKind.wrap IntKind.u32 (1 * 2 ^ min (Int.toNat (IntKind.wrap IntKind.i64 (i + 1))) (IntKind.bits IntKind.u32))))) n + 1) (hs, hf) (Int.toNat (Env.bits (Er rk) BinOp.or IntKind.u32 (↑d : Int) (IntKind.wrap IntKind.u32 (1 * 2 ^ min (Int.toNat (IntKind.wrap IntKind.i64 (i + 1))) (IntKind.bits IntKind.u32))))) (Option.getD (doV f (Int.toNat (IntKind.wrap IntKind.i64 (i + 1))) s) [])))) true)]))))
 none)
 none)
 none) none) none) none) none)
 (some (0, (CS.mk [(AV.ptr (0) (0)), (AV.ptr (1) (0)), (AV.int IntKind.i64 (IntKind.wrap IntKind.i64 (i + 1)))] [some (AObj.cells [(AV.osl (false) (2) (0) (n) (n) (8) (true)), (AV.int IntKind.u32 ((↑mu : Int))), (AV.map (3))] true), some (AObj.cells [(AV.int IntKind.u32 ((↑d : Int))), (AV.str (s))] true), some (AObj.tarr shO (n) f true), some (AObj.omap shK shB true false [(AV.bool (false))] hs hf true)]))))
 none) none) none) none) none))) none)
 none)
 none)
 none)
 none)
 none) none) none) none) none) none) none)
 (cond ((Env.bits (Er rk) BinOp.and IntKind.u32 (↑d : Int) (IntKind.wrap IntKind.u32 (1 * 2 ^ min (Int.toNat (IntKind.wrap IntKind.i64 (i + 1))) (IntKind.bits IntKind.u32))) != 0) == false) none (cond ((Env.bits (Er rk) BinOp.and IntKind.u32 (↑d : Int) (IntKind.wrap IntKind.u32 (1 * 2 ^ min (Int.toNat (IntKind.wrap IntKind.i64 (i + 1))) (IntKind.bits IntKind.u32))) != 0) == false) none (cond ((Env.bits (Er rk) BinOp.and IntKind.u32 (↑d : Int) (IntKind.wrap IntKind.u32 (1 * 2 ^ min (Int.toNat (IntKind.wrap IntKind.i64 (i + 1))) (IntKind.bits IntKind.u32))) != 0) == false) none (cond ((Env.bits (Er rk) BinOp.and IntKind.u32 (↑d : Int) (IntKind.wrap IntKind.u32 (1 * 2 ^ min (Int.toNat (IntKind.wrap IntKind.i64 (i + 1))) (IntKind.bits IntKind.u32))) != 0) == false) none (cond ((Env.bits (Er rk) BinOp.and IntKind.u32 (↑d : Int) (IntKind.wrap IntKind.u32 (1 * 2 ^ min (Int.toNat (IntKind.wrap IntKind.i64 (i + 1))) (IntKind.bits IntKind.u32))) != 0) == false) none (cond (Env.bits (Er rk) BinOp.and IntKind.u32 (↑d : Int) (IntKind.wrap IntKind.u32 (1 * 2 ^ min (Int.toNat (IntKind.wrap IntKind.i64 (i + 1))) (IntKind.bits IntKind.u32))) != 0) (some (0, (CS.mk [(AV.ptr (0) (0)), (AV.ptr (1) (0)), (AV.int IntKind.i64 (IntKind.wrap IntKind.i64 (i + 1)))] [some (AObj.cells [(AV.osl (false) (2) (0) (n) (n) (8) (true)), (AV.int IntKind.u32 ((↑mu : Int))), (AV.map (3))] true), some (AObj.cells [(AV.int IntKind.u32 ((↑d : Int))), (AV.str (s))] true), some (AObj.tarr shO (n) f true), some (AObj.omap shK shB true false [(AV.bool (false))] hs hf true)]))) none)))))))
 none)) := by kernel_rfl
theorem sg1_eq (rk : Nat) (n : Nat) (f : Nat → Nat → AV) (mu : Nat) (hs : AV → Bool) (hf : AV → Nat → AV) (d : Nat) (s : List Nat) (i : Int) : sg1 rk n f mu hs hf d s i sg1_p = (cond (IntKind.wrap IntKind.i64 (i + 1) == (↑n : Int))
 (some (1, (CS.mk [(AV.bool (false))] [some (AObj.cells [(AV.osl (false) (1) (0) (n) (n) (8) (true)), (AV.int IntKind.u32 ((↑mu : Int))), (AV.map (2))] true), some (AObj.tarr shO (n) f true), some (AObj.omap shK shB true false [(AV.bool (false))] hs hf true)])))
 (cond (decide (IntKind.wrap IntKind.i64 (i + 1) < 0))
 none
 (cond (Env.bits (Er rk) BinOp.and IntKind.u32 (↑d : Int) (IntKind.wrap IntKind.u32 (1 * 2 ^ min (Int.toNat (IntKind.wrap IntKind.i64 (i + 1))) (IntKind.bits IntKind.u32))) != 0)
 (some (0, (CS.mk [(AV.ptr (0) (0)), (AV.ptr (1) (0)), (AV.int IntKind.i64 (IntKind.wrap IntKind.i64 (i + 1)))] [some (AObj.cells [(AV.osl (false) (2) (0) (n) (n) (8) (true)), (AV.int IntKind.u32 ((↑mu : Int))), (AV.map (3))] true), some (AObj.cells [(AV.int IntKind.u32 ((↑d : Int))), (AV.str (s))] true), some (AObj.tarr shO (n) f true), some (AObj.omap shK shB true false [(AV.bool (false))] hs hf true)])))
 (cond (Nat.ble n 16)
 (cond (decide (0 ≤ IntKind.wrap IntKind.i64 (i + 1)))
 (cond (Nat.blt (Int.toNat (IntKind.wrap IntKind.i64 (i + 1))) n)
 (cond (Nat.blt mu 65536)
 (cond (Nat.blt d 65536)
 (cond (nextV f n mu (Int.toNat (IntKind.wrap IntKind.i64 (i + 1))) d)
 (cond (okDV f (n) (List.length s))
 (cond (Option.isSome (doV f (Int.toNat (IntKind.wrap IntKind.i64 (i + 1))) s))
 (cond (Nat.blt (Int.toNat (Env.bits (Er rk) BinOp.or IntKind.u32 (↑d : Int) (IntKind.wrap IntKind.u32 (1 * 2 ^ min (Int.toNat (IntKind.wrap IntKind.i64 (i + 1))) (IntKind.bits IntKind.u32))))) 65536)
 (cond (okDV f (n) (List.length (Option.getD (doV f (Int.toNat (IntKind.wrap IntKind.i64 (i + 1))) s) [])))
 (cond (Nat.blt (leftV (Int.toNat (Env.bits (Er rk) BinOp.or IntKind.u32 (↑d : Int) (IntKind.wrap IntKind.u32 (1 * 2 ^ min (Int.toNat (IntKind.wrap IntKind.i64 (i + 1))) (IntKind.bits IntKind.u32))))) n) rk)
 (cond (Prod.fst (findV f n mu (leftV (Int.toNat (Env.bits (Er rk) BinOp.or IntKind.u32 (↑d : Int) (IntKind.wrap IntKind.u32 (1 * 2 ^ min (Int.toNat (IntKind.wrap IntKind.i64 (i + 1))) (IntKind.bits IntKind.u32))))) n + 1) (hs, hf) (Int.toNat (Env.bits (Er rk) BinOp.or IntKind.u32 (↑d : Int) (IntKind.wrap IntKind.u32 (1 * 2 ^ min (Int.toNat (IntKind.wrap IntKind.i64 (i + 1))) (IntKind.bits IntKind.u32))))) (Option.getD (doV f (Int.toNat (IntKind.wrap IntKind.i64 (i + 1))) s) [])))
 (some (1, (CS.mk [(AV.bool (true))] [some (AObj.cells [(AV.osl (false) (1) (0) (n) (n) (8) (true)), (AV.int IntKind.u32 ((↑mu : Int))), (AV.map (2))] true), some (AObj.tarr shO (n) f true), some (AObj.omap shK shB true false [(AV.bool (false))] (Prod.fst (Prod.snd (findV f n mu (leftV (Int.toNat (Env.bits (Er rk) BinOp.or IntKind.u32 (↑d : Int) (IntKind.wrap IntKind.u32 (1 * 2 ^ min (Int.toNat (IntKind.wrap IntKind.i64 (i + 1))) (IntKind.bits IntKind.u32))))) n + 1) (hs, hf) (Int.toNat (Env.bits (Er rk) BinOp.or IntKind.u32 (↑d : Int) (IntKind.wrap IntKind.u32 (1 * 2 ^ min (Int.toNat (IntKind.wrap IntKind.i64 (i + 1))) (IntKind.bits IntKind.u32))))) (Option.getD (doV f (Int.toNat (IntKind.wrap IntKind.i64 (i + 1))) s) [])))) (Prod.snd (Prod.snd (findV f n mu (leftV (Int.toNat (Env.bits (Er rk) BinOp.or IntKind.u32 (↑d : Int) (IntKind.wrap IntKind.u32 (1 * 2 ^ min (Int.toNat (IntKind.wrap IntKind.i64 (i + 1))) (IntKind.bits IntKind.u32))))) n + 1) (hs, hf) (Int.toNat (Env.bits (Er rk) BinOp.or IntKind.u32 (↑d : Int) (IntKind.wrap IntKind.u32 (1 * 2 ^ min (Int.toNat (IntKind.wrap IntKind.i64 (i + 1))) (IntKind.bits IntKind.u32))))) (Option.getD (doV f (Int.toNat (IntKind.wrap IntKind.i64 (i + 1))) s) [])))) true)])))
 (some (0, (CS.mk [(AV.ptr (0) (0)), (AV.ptr (1) (0)), (AV.int IntKind.i64 (IntKind.wrap IntKind.i64 (i + 1)))] [some (AObj.cells [(AV.osl (false) (2) (0) (n) (n) (8) (true)), (AV.int IntKind.u32 ((↑mu : Int))), (AV.map (3))] true), some (AObj.cells [(AV.int IntKind.u32 ((↑d : Int))), (AV.str (s))] true), some (AObj.tarr shO (n) f true), some (AObj.omap shK shB true false [(AV.bool (false))] (Prod.fst (Prod.snd (findV f n mu (leftV (Int.toNat (Env.bits (Er rk) BinOp.or IntKind.u32 (↑d : Int) (IntKind.wrap IntKind.u32 (1 * 2 ^ min (Int.toNat (IntKind.wrap IntKind.i64 (i + 1))) (IntKind.bits IntKind.u32))))) n + 1) (hs, hf) (Int.toNat (Env.bits (Er rk) BinOp.or IntKind.u32 (↑d : Int) (IntKind.wrap IntKind.u32 (1 * 2 ^ min (Int.toNat (IntKind.wrap IntKind.i64 (i + 1))) (IntKind.bits IntKind.u32))))) (Option.getD (doV f (Int.toNat (IntKind.wrap IntKind.i64 (i + 1))) s) [])))) (Prod.snd (Prod.snd (findV f n mu (leftV (Int.toNat (Env.bits (Er rk) BinOp.or IntKind.u32 (↑d : Int) (IntKind.wrap IntKind.u32 (1 * 2 ^ min (Int.toNat (IntKind.wrap IntKind.i64 (i + 1))) (IntKind.bits IntKind.u32))))) n + 1) (hs, hf) (Int.toNat (Env.bits (Er rk) BinOp.or IntKind.u32 (↑d : Int) (IntKind.wrap IntKind.u32 (1 * 2 ^ min (Int.toNat (IntKind.wrap IntKind.i64 (i + 1))) (IntKind.bits IntKind.u32))))) (Option.getD (doV f (Int.toNat (IntKind.wrap IntKind.i64 (i + 1))) s) [])))) true)]))))
 none)
 none)
 none)
 (some (0, (CS.mk [(AV.ptr (0) (0)), (AV.ptr (1) (0)), (AV.int IntKind.i64 (IntKind.wrap IntKind.i64 (i + 1)))] [some (AObj.cells [(AV.osl (false) (2) (0) (n) (n) (8) (true)), (AV.int IntKind.u32 ((↑mu : Int))), (AV.map (3))] true), some (AObj.cells [(AV.int IntKind.u32 ((↑d : Int))), (AV.str (s))] true), some (AObj.tarr shO (n) f true), some (AObj.omap shK shB true false [(AV.bool (false))] hs hf true)]))))
 none)
 (some (0, (CS.mk [(AV.ptr (0) (0)), (AV.ptr (1) (0)), (AV.int IntKind.i64 (IntKind.wrap IntKind.i64 (i + 1)))] [some (AObj.cells [(AV.osl (false) (2) (0) (n) (n) (8) (true)), (AV.int IntKind.u32 ((↑mu : Int))), (AV.map (3))] true), some (AObj.cells [(AV.int IntKind.u32 ((↑d : Int))), (AV.str (s))] true), some (AObj.tarr shO (n) f true), some (AObj.omap shK shB true false [(AV.bool (false))] hs hf true)]))))
 none)
 none)
 none)
 none)
 none)))) := by
 rw [sg1_is]
 try simp only [eq_self, decide_true, beq_self_eq_true, Nat.beq_refl, ble_self, Int.le_refl, Nat.le_refl]
 cases (IntKind.wrap IntKind.i64 (i + 1) == (↑n : Int)) with
 | true =>
   rfl
 | false =>
   cases (decide (IntKind.wrap IntKind.i64 (i + 1) < 0)) with
   | true =>
     rfl
   | false =>
     cases (Env.bits (Er rk) BinOp.and IntKind.u32 (↑d : Int) (IntKind.wrap IntKind.u32 (1 * 2 ^ min (Int.toNat (IntKind.wrap IntKind.i64 (i + 1))) (IntKind.bits IntKind.u32))) != 0) with
     | true =>
       rfl
     | false =>
       cases (Nat.ble n 16) with
       | true =>
         cases (decide (0 ≤ IntKind.wrap IntKind.i64 (i + 1))) with
         | true =>
           cases (Nat.blt (Int.toNat (IntKind.wrap IntKind.i64 (i + 1))) n) with
           | true =>
             cases (Nat.blt mu 65536) with
             | true =>
               cases (Nat.blt d 65536) with
               | true =>
                 cases (nextV f n mu (Int.toNat (IntKind.wrap IntKind.i64 (i + 1))) d) with
                 | true =>
                   cases (okDV f (n) (List.length s)) with
                   | true =>
                     cases (Option.isSome (doV f (Int.toNat (IntKind.wrap IntKind.i64 (i + 1))) s)) with
                     | true =>
                       cases (Nat.blt (Int.toNat (Env.bits (Er rk) BinOp.or IntKind.u32 (↑d : Int) (IntKind.wrap IntKind.u32 (1 * 2 ^ min (Int.toNat (IntKind.wrap IntKind.i64 (i + 1))) (IntKind.bits IntKind.u32))))) 65536) with
                       | true =>
                         cases (okDV f (n) (List.length (Option.getD (doV f (Int.toNat (IntKind.wrap IntKind.i64 (i + 1))) s) []))) with
                         | true =>
                           cases (Nat.blt (leftV (Int.toNat (Env.bits (Er rk) BinOp.or IntKind.u32 (↑d : Int) (IntKind.wrap IntKind.u32 (1 * 2 ^ min (Int.toNat (IntKind.wrap IntKind.i64 (i + 1))) (IntKind.bits IntKind.u32))))) n) rk) with
                           | true =>
                             cases (Prod.fst (findV f n mu (leftV (Int.toNat (Env.bits (Er rk) BinOp.or IntKind.u32 (↑d : Int) (IntKind.wrap IntKind.u32 (1 * 2 ^ min (Int.toNat (IntKind.wrap IntKind.i64 (i + 1))) (IntKind.bits IntKind.u32))))) n + 1) (hs, hf) (Int.toNat (Env.bits (Er rk) BinOp.or IntKind.u32 (↑d : Int) (IntKind.wrap IntKind.u32 (1 * 2 ^ min (Int.toNat (IntKind.wrap IntKind.i64 (i + 1))) (IntKind.bits IntKind.u32))))) (Option.getD (doV f (Int.toNat (IntKind.wrap IntKind.i64 (i + 1))) s) []))) with
                             | true =>
                               rfl
                             | false =>
                               rfl
                           | false =>
                             rfl
                         | false =>
                           rfl
                       | false =>
                         rfl
                     | false =>
                       rfl
                   | false =>
                     rfl
                 | false =>
                   rfl
               | false =>
                 rfl
             | false =>
               rfl
           | false =>
             rfl
         | false =>
           rfl
       | false =>
         rfl
noncomputable def k18 (rk : Nat) (n : Nat) (f : Nat → Nat → AV) (mu : Nat) (hs : AV → Bool) (hf : AV → Nat → AV) (d : Nat) (s : List Nat) (π : Plan) : Option CS := callC (Eg rk) (1500) (18) (1) (.keep) ([pF]) π (a18n n f mu hs hf d s)
def k18_p : Plan := (.reck 1 (.must true (.reck 1 (.must true (.reck 3 (.fork (.fork (.fork (.fork (.fork .stop .stop) .stop) .stop) .stop) .stop))))))
theorem k18_is (rk : Nat) (n : Nat) (f : Nat → Nat → AV) (mu : Nat) (hs : AV → Bool) (hf : AV → Nat → AV) (d : Nat) (s : List Nat) : k18 rk n f mu hs hf d s k18_p = (cond (decide (n = n)) (cond (decide (n = n)) (cond (Nat.ble n 16)
 (cond (Nat.blt mu 65536)
 (cond (Nat.blt d 65536)
 (cond ((okDV f (n) (List.length s)))
 (cond (Nat.ble (leftV d n) rk)
 (some (CS.mk [(AV.bool (Prod.fst (findV f n mu (leftV d n + 1) (hs, hf) d s)))] [some (AObj.cells [(AV.osl (false) (1) (0) (n) (n) (8) (true)), (AV.int IntKind.u32 ((↑mu : Int))), (AV.map (2))] true), some (AObj.tarr shO (n) f true), some (AObj.omap shK shB true false [(AV.bool (false))] (Prod.fst (Prod.snd (findV f n mu (leftV d n + 1) (hs, hf) d s))) (Prod.snd (Prod.snd (findV f n mu (leftV d n + 1) (hs, hf) d s))) true)]))
 none)
 none)
 none)
 none)
 none) none) none) := by kernel_rfl
theorem k18_eq (rk : Nat) (n : Nat) (f : Nat → Nat → AV) (mu : Nat) (hs : AV → Bool) (hf : AV → Nat → AV) (d : Nat) (s : List Nat) : k18 rk n f mu hs hf d s k18_p = (cond (Nat.ble n 16)
 (cond (Nat.blt mu 65536)
 (cond (Nat.blt d 65536)
 (cond (okDV f (n) (List.length s))
 (cond (Nat.ble (leftV d n) rk)
 (some (CS.mk [(AV.bool (Prod.fst (findV f n mu (leftV d n + 1) (hs, hf) d s)))] [some (AObj.cells [(AV.osl (false) (1) (0) (n) (n) (8) (true)), (AV.int IntKind.u32 ((↑mu : Int))), (AV.map (2))] true), some (AObj.tarr shO (n) f true), some (AObj.omap shK shB true false [(AV.bool (false))] (Prod.fst (Prod.snd (findV f n mu (leftV d n + 1) (hs, hf) d s))) (Prod.snd (Prod.snd (findV f n mu (leftV d n + 1) (hs, hf) d s))) true)]))
 none)
 none)
 none)
 none)
 none) := by
 rw [k18_is]
 try simp only [eq_self, decide_true, beq_self_eq_true, Nat.beq_refl, ble_self, Int.le_refl, Nat.le_refl]
 cases (Nat.ble n 16) with
 | true =>
   cases (Nat.blt mu 65536) with
   | true =>
     cases (Nat.blt d 65536) with
     | true =>
       cases (okDV f (n) (List.length s)) with
       | true =>
         cases (Nat.ble (leftV d n) rk) with
         | true =>
           rfl
         | false =>
           rfl
       | false =>
         rfl
     | false =>
       rfl
   | false =>
     rfl
 | false =>
   rfl
noncomputable def k18z (mu : Nat) (hs : AV → Bool) (hf : AV → Nat → AV) (d : Nat) (s : List Nat) (π : Plan) : Option CS := callC (E3) (1500) (18) (1) (.keep) ([pF]) π (a18z mu hs hf d s)
def k18z_p : Plan := (.must true (.must true (.must true (.fork .stop (.must true (.must true (.must true (.fork .stop (.must true (.must true .stop))))))))))
theorem k18z_is (mu : Nat) (hs : AV → Bool) (hf : AV → Nat → AV) (d : Nat) (s : List Nat) : k18z mu hs hf d s k18z_p = (cond (decide ((↑mu : Int) = (↑mu : Int))) (cond (decide ((↑mu : Int) = (↑mu : Int))) (cond (decide ((↑d : Int) = (↑d : Int))) (cond (Env.bits E3 BinOp.and IntKind.u32 (↑d : Int) (↑mu : Int) == (↑mu : Int))
 (some (CS.mk [(AV.bool (true))] [some (AObj.cells [(AV.osl (true) (1) (0) (0) (0) (8) (true)), (AV.int IntKind.u32 ((↑mu : Int))), (AV.map (2))] true), some (AObj.tarr shO (0) (fun p_ q_ => AV.bad) true), some (AObj.omap shK shB true false [(AV.bool (false))] hs hf true)]))
 (cond (AV.toB (bif hs (AV.agg [AV.int IntKind.u32 (↑d : Int), AV.str s]) then hf (AV.agg [AV.int IntKind.u32 (↑d : Int), AV.str s]) 0 else AV.bool false) == AV.toB (bif hs (AV.agg [AV.int IntKind.u32 (↑d : Int), AV.str s]) then hf (AV.agg [AV.int IntKind.u32 (↑d : Int), AV.str s]) 0 else AV.bool false)) (cond (decide ((↑d : Int) = (↑d : Int))) (cond (s == s) (cond (AV.toB (bif hs (AV.agg [AV.int IntKind.u32 (↑d : Int), AV.str s]) then hf (AV.agg [AV.int IntKind.u32 (↑d : Int), AV.str s]) 0 else AV.bool false))
 (some (CS.mk [(AV.bool (false))] [some (AObj.cells [(AV.osl (true) (1) (0) (0) (0) (8) (true)), (AV.int IntKind.u32 ((↑mu : Int))), (AV.map (2))] true), some (AObj.tarr shO (0) (fun p_ q_ => AV.bad) true), some (AObj.omap shK shB true false [(AV.bool (false))] hs hf true)]))
 (cond (decide ((↑d : Int) = (↑d : Int))) (cond (s == s) (some (CS.mk [(AV.bool (false))] [some (AObj.cells [(AV.osl (true) (1) (0) (0) (0) (8) (true)), (AV.int IntKind.u32 ((↑mu : Int))), (AV.map (2))] true), some (AObj.tarr shO (0) (fun p_ q_ => AV.bad) true), some (AObj.omap shK shB true false [(AV.bool (false))] (fun x_ => (cond (AV.beq x_ (AV.agg [(AV.int IntKind.u32 ((↑d : Int))), (AV.str (s))])) (true) (hs x_))) (fun x_ j_ => (cond (AV.beq x_ (AV.agg [(AV.int IntKind.u32 ((↑d : Int))), (AV.str (s))])) (getAt [(AV.bool (true))] j_) (hf x_ j_))) true)])) none) none)) none) none) none)) none) none) none) := by kernel_rfl
theorem k18z_eq (mu : Nat) (hs : AV → Bool) (hf : AV → Nat → AV) (d : Nat) (s : List Nat) : k18z mu hs hf d s k18z_p = (cond (Env.bits E3 BinOp.and IntKind.u32 (↑d : Int) (↑mu : Int) == (↑mu : Int))
 (some (CS.mk [(AV.bool (true))] [some (AObj.cells [(AV.osl (true) (1) (0) (0) (0) (8) (true)), (AV.int IntKind.u32 ((↑mu : Int))), (AV.map (2))] true), some (AObj.tarr shO (0) (fun p_ q_ => AV.bad) true), some (AObj.omap shK shB true false [(AV.bool (false))] hs hf true)]))
 (cond (AV.toB (bif hs (AV.agg [AV.int IntKind.u32 (↑d : Int), AV.str s]) then hf (AV.agg [AV.int IntKind.u32 (↑d : Int), AV.str s]) 0 else AV.bool false))
 (some (CS.mk [(AV.bool (false))] [some (AObj.cells [(AV.osl (true) (1) (0) (0) (0) (8) (true)), (AV.int IntKind.u32 ((↑mu : Int))), (AV.map (2))] true), some (AObj.tarr shO (0) (fun p_ q_ => AV.bad) true), some (AObj.omap shK shB true false [(AV.bool (false))] hs hf true)]))
 (some (CS.mk [(AV.bool (false))] [some (AObj.cells [(AV.osl (true) (1) (0) (0) (0) (8) (true)), (AV.int IntKind.u32 ((↑mu : Int))), (AV.map (2))] true), some (AObj.tarr shO (0) (fun p_ q_ => AV.bad) true), some (AObj.omap shK shB true false [(AV.bool (false))] (fun x_ => (cond (AV.beq x_ (AV.agg [(AV.int IntKind.u32 ((↑d : Int))), (AV.str (s))])) (true) (hs x_))) (fun x_ j_ => (cond (AV.beq x_ (AV.agg [(AV.int IntKind.u32 ((↑d : Int))), (AV.str (s))])) (getAt [(AV.bool (true))] j_) (hf x_ j_))) true)])))) := by
 rw [k18z_is]
 try simp only [eq_self, decide_true, beq_self_eq_true, Nat.beq_refl, ble_self, Int.le_refl, Nat.le_refl]
 cases (Env.bits E3 BinOp.and IntKind.u32 (↑d : Int) (↑mu : Int) == (↑mu : Int)) with
 | true =>
   rfl
 | false =>
   cases (AV.toB (bif hs (AV.agg [AV.int IntKind.u32 (↑d : Int), AV.str s]) then hf (AV.agg [AV.int IntKind.u32 (↑d : Int), AV.str s]) 0 else AV.bool false)) with
   | true =>
     rfl
   | false =>
     rfl
end Go.Proofs.Ytmjmhpbncfjnpaa.history
end
section
set_option linter.unusedSimpArgs false
set_option linter.unusedVariables false
set_option maxRecDepth 20000
namespace Go.Proofs.Ytmjmhpbncfjnpaa.history
open Go Go.RowKit Go.Proofs.Ytmjmhpbncfjnpaa.Bm
theorem f18_inv {rk : Nat} {c : CS} {r : CS} (h : (f18 rk c).run = some r) : ∃ nl n f mu hs hf d s, c = a18 nl n f mu hs hf d s ∧ (f18B rk nl n f mu hs hf d s).run = some r := by
 unfold f18 at h
 split at h
 ·rename_i d s nl n z_1 mu sh_2 z_3 f sh_4 sh_5 sz_6 hs hf
  obtain ⟨hc, hb⟩ := chkT_run h
  have h0 := hc 0 _ rfl
  have h0 := of_decide_eq_true h0; subst h0
  have h1 := hc 1 _ rfl
  have h1 := (shBeq_eq h1).symm; subst h1
  have h2 := hc 2 _ rfl
  have h2 := of_decide_eq_true h2; subst h2
  have h3 := hc 3 _ rfl
  have h3 := (shBeq_eq h3).symm; subst h3
  have h4 := hc 4 _ rfl
  have h4 := (shBeq_eq h4).symm; subst h4
  have h5 := hc 5 _ rfl
  have h5 := AV.eq_of_beqL _ _ h5; subst h5
  exact ⟨nl, n, f, mu, hs, hf, d, s, rfl, hb⟩
 ·cases h
theorem rG_inv {rk : Nat} {c : CS} {r : Nat × CS} (h : (rG rk c).run = some r) : ∃ n f mu hs hf d s, c = g0 n f mu hs hf d s ∧ (rGB rk n f mu hs hf d s).run = some r := by
 unfold rG at h
 split at h
 ·rename_i z_1 n z_2 mu d s sh_3 z_4 f sh_5 sh_6 sz_7 hs hf
  obtain ⟨hc, hb⟩ := chkT_run h
  have h0 := hc 0 _ rfl
  have h0 := of_decide_eq_true h0; subst h0
  have h1 := hc 1 _ rfl
  have h1 := of_decide_eq_true h1; subst h1
  have h2 := hc 2 _ rfl
  have h2 := (shBeq_eq h2).symm; subst h2
  have h3 := hc 3 _ rfl
  have h3 := of_decide_eq_true h3; subst h3
  have h4 := hc 4 _ rfl
  have h4 := (shBeq_eq h4).symm; subst h4
  have h5 := hc 5 _ rfl
  have h5 := (shBeq_eq h5).symm; subst h5
  have h6 := hc 6 _ rfl
  have h6 := AV.eq_of_beqL _ _ h6; subst h6
  exact ⟨n, f, mu, hs, hf, d, s, rfl, hb⟩
 ·cases h
theorem testBit_or_self (d t : Nat) : Nat.testBit (d ||| 2 ^ t) t = true := by
 rw [Nat.testBit_or, Nat.testBit_two_pow_self, Bool.or_true]
theorem testBit_or_ne {d t k : Nat} (h : t ≠ k) : Nat.testBit (d ||| 2 ^ t) k = Nat.testBit d k := by
 rw [Nat.testBit_or, Nat.testBit_two_pow, decide_eq_false h, Bool.or_false]
theorem left_or_ge {d t : Nat} : ∀ {n : Nat}, n ≤ t → leftN (d ||| 2 ^ t) n = leftN d n
 | 0, _ => rfl
 | n + 1, h => by
   simp only [leftN]
   rw [left_or_ge (n := n) (by omega), testBit_or_ne (by omega)]
theorem left_or {d t : Nat} (hb : Nat.testBit d t = false) : ∀ {n : Nat}, t < n → leftN (d ||| 2 ^ t) n + 1 = leftN d n
 | 0, h => by omega
 | n + 1, h => by
   simp only [leftN]
   by_cases ht : t = n
   ·subst ht
    rw [left_or_ge (Nat.le_refl _), testBit_or_self, hb]; rfl
   ·have := left_or hb (n := n) (by omega)
    rw [testBit_or_ne ht]
    omega
theorem or_small {d t : Nat} (hd : d < 65536) (ht : t < 16) : d ||| 2 ^ t < 65536 := by
 have p : (65536 : Nat) = 2 ^ 16 := by decide
 rw [p] at *
 exact Nat.or_lt_two_pow hd (Nat.pow_lt_pow_right (by omega) ht)
def retF (n : Nat) (f : Nat → Nat → AV) (mu : Nat) (b : Bool) (σ : Sn) : CS := ⟨[.bool b], [some (.cells [.osl false 1 0 n n 8 true, .int .u32 (mu : Nat), .map 2] true), some (.tarr shO n f true), some (.omap shK shB true false [.bool false] σ.1 σ.2 true)]⟩
noncomputable abbrev stpG (rk : Nat) (c : CS) : Option (Nat × CS) := stepC (Er rk) 600 (restC (Er rk) 18 pth 0) 1 h18 ((.goto 0, h18) :: x18) sg1_p c
structure Known (n : Nat) (f : Nat → Nat → AV) (mu rk d : Nat) (s : List Nat) : Prop where
 n16 : n ≤ 16
 mu16 : mu < 65536
 d16 : d < 65536
 ok : okDV f n s.length = true
 left : leftN d n ≤ rk
theorem wrapz : IntKind.wrap .i64 (-1 + 1) = 0 := by decide
theorem round18 {n : Nat} {f : Nat → Nat → AV} {mu rk d : Nat} {s : List Nat} (q : Bm.Good Try.prog (Er rk)) (K : Known n f mu rk d s) (t : Nat) (ht : t ≤ n) (σ : Sn) :
  (∃ (c1 : CS) (t' : Nat) (σ' : Sn), stpG rk (g1 n f mu σ.1 σ.2 d s ((t : Int) - 1)) = some (0, c1) ∧ Seen c1 (g1 n f mu σ'.1 σ'.2 d s ((t' : Int) - 1)) ∧ t' ≤ n ∧ n - t' < n - t ∧
    goS f n mu (findS f n mu (leftN d n)) d s (n - t') t' σ' = goS f n mu (findS f n mu (leftN d n)) d s (n - t) t σ) ∨
  (stpG rk (g1 n f mu σ.1 σ.2 d s ((t : Int) - 1)) = some (1, retF n f mu (goS f n mu (findS f n mu (leftN d n)) d s (n - t) t σ).1 (goS f n mu (findS f n mu (leftN d n)) d s (n - t) t σ).2)) := by
 have k1 := K.n16
 have k2 := K.mu16
 have k3 := K.d16
 have hw : IntKind.wrap .i64 ((t : Int) - 1 + 1) = (t : Int) := by
  rw [show (t : Int) - 1 + 1 = (t : Int) by omega]
  exact wi (by omega)
 have e := sg1_eq rk n f mu σ.1 σ.2 d s ((t : Int) - 1)
 rw [hw] at e
 by_cases hn : t = n
 ·subst hn
  refine .inr ?_
  rw [Nat.sub_self]
  rw [show ((t : Int) == (t : Int)) = true from beq_self_eq_true _] at e
  exact e
 ·have ht : t < n := by omega
  obtain ⟨hL, hat⟩ := okD_at K.ok
  obtain ⟨a, b, ok⟩ := hat t ht
  have hbits : Env.bits (Er rk) = bitsR := q.env.bits
  have e0 : ((t : Int) == (n : Int)) = false := by rw [beq_eq_false_iff_ne]; omega
  obtain ⟨j, hj⟩ : ∃ j, n - t = j + 1 := ⟨n - t - 1, by omega⟩
  have hj' : n - (t + 1) = j := by omega
  rw [e0, decide_eq_false (show ¬ ((t : Int) < 0) by omega), hbits, Int.toNat_natCast, bit_is (show t < 32 by omega), tst (show d < 4294967296 by omega) (show t < 32 by omega), ble_t k1, decide_eq_true (show (0 : Int) ≤ (t : Int) by omega), blt_t ht, blt_t k2, blt_t k3, K.ok, bor (show d < 4294967296 by omega) (pow_lt (show t < 32 by omega)), Int.toNat_natCast, blt_t (or_small k3 (show t < 16 by omega)), nextV_eq, doV_eq, findV_eq, leftV_eq] at e
  rw [hj]
  -- the state behind, when one goes on
  have on : ∀ (σ' : Sn), Seen (CS.mk [(AV.ptr 0 0), (AV.ptr 1 0), (.int .i64 (t : Int))] [some (.cells [.osl false 2 0 n n 8 true, .int .u32 (mu : Nat), .map 3] true), some (.cells [.int .u32 (d : Nat), .str s] true), some (.tarr shO n f true), some (.omap shK shB true false [.bool false] σ'.1 σ'.2 true)]) (g1 n f mu σ'.1 σ'.2 d s (((t + 1 : Nat) : Int) - 1)) := fun σ' => by
   rw [show ((t + 1 : Nat) : Int) - 1 = (t : Int) by omega]
   exact Seen.refl _
  cases hb : Nat.testBit d t with
  | true =>
    rw [hb] at e
    refine .inl ⟨_, t + 1, σ, e, on σ, by omega, by omega, ?_⟩
    rw [hj']
    simp only [goS, hb, Bool.true_or, cond_true]
  | false =>
    rw [hb] at e
    simp only [cond_false, cond_true] at e
    cases hx : nextB f n mu t d with
    | false =>
      rw [hx] at e
      refine .inl ⟨_, t + 1, σ, e, on σ, by omega, by omega, ?_⟩
      rw [hj']
      simp only [goS, hb, hx, Bool.false_or, Bool.not_false, cond_true]
    | true =>
      rw [hx] at e
      simp only [cond_true] at e
      cases hd : doO (opAt f t) s with
      | none =>
        rw [show doF f t s = none from hd] at e
        refine .inl ⟨_, t + 1, σ, e, on σ, by omega, by omega, ?_⟩
        rw [hj']
        simp only [goS, hb, hx, hd, Bool.false_or, Bool.not_true, cond_false]
      | some s' =>
        have hlen := doO_len ok rfl hd
        have hl := left_or hb ht
        have hkl := K.left
        rw [show doF f t s = some s' from hd] at e
        rw [show (some s').isSome = true from rfl, show (some s').getD [] = s' from rfl, hlen, K.ok, blt_t (show leftN (d ||| 2 ^ t) n < rk by omega), hl] at e
        simp only [cond_true] at e
        cases hr : (findS f n mu (leftN d n) (σ.1, σ.2) (d ||| 2 ^ t) s').1 with
        | true =>
          rw [hr] at e
          refine .inr (e.trans ?_)
          simp only [goS, hb, hx, hd, Bool.false_or, Bool.not_true, cond_false]
          rw [show (findS f n mu (leftN d n) σ (d ||| 2 ^ t) s').1 = true from hr]
          rfl
        | false =>
          rw [hr] at e
          refine .inl ⟨_, t + 1, (findS f n mu (leftN d n) (σ.1, σ.2) (d ||| 2 ^ t) s').2, e, on _, by omega, by omega, ?_⟩
          rw [hj']
          simp only [goS, hb, hx, hd, Bool.false_or, Bool.not_true, cond_false]
          rw [show (findS f n mu (leftN d n) σ (d ||| 2 ^ t) s').1 = false from hr]
          rfl
theorem loops18 {n : Nat} {f : Nat → Nat → AV} {mu rk d : Nat} {s : List Nat} (q : Bm.Good Try.prog (Er rk)) (K : Known n f mu rk d s) (t : Nat) (ht : t ≤ n) (σ : Sn) :
  Loops (stpG rk) (g1 n f mu σ.1 σ.2 d s ((t : Int) - 1)) 1 (retF n f mu (goS f n mu (findS f n mu (leftN d n)) d s (n - t) t σ).1 (goS f n mu (findS f n mu (leftN d n)) d s (n - t) t σ).2) :=
 Loops.inv (X := Nat × Sn) (C := fun p => g1 n f mu p.2.1 p.2.2 d s ((p.1 : Int) - 1)) (fun p => p.1 ≤ n) (fun p => n - p.1)
  (fun p => (1, retF n f mu (goS f n mu (findS f n mu (leftN d n)) d s (n - p.1) p.1 p.2).1 (goS f n mu (findS f n mu (leftN d n)) d s (n - p.1) p.1 p.2).2))
  (fun p hp => by
    rcases round18 q K p.1 hp p.2 with ⟨c1, t', σ', z1, z2, z3, z4, z5⟩ | z
    ·exact .inl ⟨c1, (t', σ'), z1, z2, z3, z4, by simp only [z5]⟩
    ·exact .inr ⟨_, 0, z, rfl, Seen.refl _⟩) (t, σ) ht
theorem start18 (rk n : Nat) (f : Nat → Nat → AV) (mu : Nat) (hs : AV → Bool) (hf : AV → Nat → AV) (d : Nat) (s : List Nat) :
  sg0 rk n f mu hs hf d s sg0_p = cond (Env.bits (Er rk) BinOp.and IntKind.u32 (d : Int) (mu : Int) == (mu : Int)) (some (1, retF n f mu true (hs, hf)))
   (cond (seenS (hs, hf) d s) (some (1, retF n f mu false (hs, hf))) (stpG rk (g1 n f mu (putS (hs, hf) d s).1 (putS (hs, hf) d s).2 d s (-1)))) := by
 rw [sg0_eq]
 show _ = cond _ _ (cond _ _ (sg1 rk n f mu (putS (hs, hf) d s).1 (putS (hs, hf) d s).2 d s (-1) sg1_p))
 rw [sg1_eq]
 simp only [wrapz]
 rfl
theorem mask_is {E : Env} (hb : Env.bits E = bitsR) {d mu : Nat} (h1 : d < 65536) (h2 : mu < 65536) : (Env.bits E BinOp.and IntKind.u32 (d : Int) (mu : Int) == (mu : Int)) = Nat.beq (d &&& mu) mu := by
 rw [hb, band (by omega) (by omega)]
 by_cases h : d &&& mu = mu
 ·rw [h, Nat.beq_refl]; exact beq_self_eq_true _
 ·rw [show Nat.beq (d &&& mu) mu = false by rw [beq_iff]; exact decide_eq_false h, beq_eq_false_iff_ne]; omega
theorem il18 (rk : Nat) (q : Bm.Good Try.prog (Er rk)) (c : CS) (r : Nat × CS) (h : (rG rk c).run = some r) : GotoC (Er rk) 18 pth 0 1 hd18 h18 x18 c r.1 r.2 := by
 obtain ⟨n, f, mu, hs, hf, d, s, rfl, hb⟩ := rG_inv h
 obtain ⟨hn, hb2⟩ := chkT_run hb
 have b1 := le_of (hn 0 _ rfl)
 have b2 := lt_of (hn 1 _ rfl)
 have b3 := lt_of (hn 2 _ rfl)
 have b4 := hn 3 _ rfl
 have b5 := hn 4 _ rfl
 clear h hb hn
 rw [leftV_eq] at b5
 have b5 := le_of b5
 rw [findV_eq, leftV_eq] at hb2
 simp only [T.run, Option.some.injEq] at hb2; subst hb2
 have K : Known n f mu rk d s := ⟨b1, b2, b3, b4, b5⟩
 have e := start18 rk n f mu hs hf d s
 rw [mask_is q.env.bits b3 b2] at e
 show GotoC (Er rk) 18 pth 0 1 hd18 h18 x18 _ 0 (retF n f mu (findS f n mu (leftN d n + 1) (hs, hf) d s).1 (findS f n mu (leftN d n + 1) (hs, hf) d s).2)
 simp only [findS]
 cases hm : Nat.beq (d &&& mu) mu with
 | true =>
   rw [hm] at e
   exact ⟨600, 600, _, _, sg0_p, Seen.refl _, .inl ⟨e, Seen.refl _⟩⟩
 | false =>
   cases hse : seenS (hs, hf) d s with
   | true =>
     rw [hm, hse] at e
     exact ⟨600, 600, _, _, sg0_p, Seen.refl _, .inl ⟨e, Seen.refl _⟩⟩
   | false =>
     rw [hm, hse] at e
     simp only [cond_false] at e ⊢
     rcases round18 q K 0 (Nat.zero_le _) (putS (hs, hf) d s) with ⟨c1, t', σ', z1, z2, z3, z4, z5⟩ | z
     ·have hl := loops18 q K t' z3 σ'
      rw [z5, Nat.sub_zero] at hl
      exact ⟨600, 600, _, c1, sg0_p, Seen.refl _, .inr ⟨e.trans z1, _, fun _ => sg1_p, z2, hl⟩⟩
     ·rw [Nat.sub_zero] at z
      exact ⟨600, 600, _, _, sg0_p, Seen.refl _, .inl ⟨e.trans z, Seen.refl _⟩⟩
theorem qEg (rk : Nat) (q : Bm.Good Try.prog (Er rk)) : Bm.Good Try.prog (Eg rk) := q3.addH q rfl rfl (by kernel_rfl) (by kernel_rfl) rfl (by decide) rfl (il18 rk q)
theorem j18 (rk : Nat) (q : Bm.Good Try.prog (Er rk)) (c c' : CS) (h : (f18 (rk + 1) c).run = some c') : CallC Try.prog 18 1 c c' := by
 obtain ⟨nl, n, f, mu, hs, hf, d, s, rfl, hb⟩ := f18_inv h
 obtain ⟨hn, hb2⟩ := chkT_run hb
 have b1 := hn 0 _ rfl
 have b2 := hn 1 _ rfl
 have b0 := of_decide_eq_true (hn 2 _ rfl)
 obtain ⟨d, rfl⟩ := Int.eq_ofNat_of_zero_le b0
 have b3 : Nat.blt d 65536 = true := hn 3 _ rfl
 have b4 := hn 4 _ rfl
 have b5 := hn 5 _ rfl
 have b6 : Nat.blt (leftV d n) (rk + 1) = true := hn 6 _ rfl
 clear h hb hn
 rw [findV_eq, leftV_eq] at hb2
 rw [leftV_eq] at b6
 cases nl with
 | true =>
   have hz : n = 0 := by simpa using b5
   subst hz
   simp only [T.run, cond_true, Option.some.injEq, Int.toNat_natCast] at hb2; subst hb2
   have e := k18z_eq mu hs hf d s
   rw [mask_is q3.env.bits (lt_of b3) (lt_of b2)] at e
   have see0 : Seen (a18 true 0 f mu hs hf d s) (a18z mu hs hf d s) := Seen.mk' (SeenVs.refl _) (.cons (SeenO.cells (.cons SeenV.nil (SeenVs.refl _))) (.skip (SeenOs.refl _)))
   have seeZ : ∀ (b : Bool) (σ : Sn), Seen ⟨[.bool b], [some (.cells [.osl true 1 0 0 0 8 true, .int .u32 (mu : Nat), .map 2] true), some (.tarr shO 0 (fun _ _ => .bad) true), some (.omap shK shB true false [.bool false] σ.1 σ.2 true)]⟩
     ⟨[.bool b], [some (.cells [.osl true 1 0 0 0 8 true, .int .u32 (mu : Nat), .map 2] true), some (.tarr shO 0 f true), some (.omap shK shB true false [.bool false] σ.1 σ.2 true)]⟩ := fun b σ =>
    Seen.mk' (SeenVs.refl _) (SeenOs.same (.cons (SeenO.arr fun i hi => absurd hi (Nat.not_lt_zero _)) (SeenOs.refl _)))
   show CallC Try.prog 18 1 _ ⟨[.bool (findS f 0 mu (leftN d 0 + 1) (hs, hf) d s).1], [some (.cells [.osl true 1 0 0 0 8 true, .int .u32 (mu : Nat), .map 2] true), some (.tarr shO 0 f true), some (.omap shK shB true false [.bool false] (findS f 0 mu (leftN d 0 + 1) (hs, hf) d s).2.1 (findS f 0 mu (leftN d 0 + 1) (hs, hf) d s).2.2 true)]⟩
   simp only [leftN, findS, goS]
   cases hm : Nat.beq (d &&& mu) mu with
   | true =>
     rw [hm] at e
     exact q3.callC (m := 1500) (pr := .keep) (ros := [pF]) (π := k18z_p) see0 e (seeZ true (hs, hf))
   | false =>
     cases hse : seenS (hs, hf) d s with
     | true =>
       rw [hm, show AV.toB (cond (hs (.agg [.int .u32 (d : Int), .str s])) (hf (.agg [.int .u32 (d : Int), .str s]) 0) (.bool false)) = true from hse] at e
       exact q3.callC (m := 1500) (pr := .keep) (ros := [pF]) (π := k18z_p) see0 e (seeZ false (hs, hf))
     | false =>
       rw [hm, show AV.toB (cond (hs (.agg [.int .u32 (d : Int), .str s])) (hf (.agg [.int .u32 (d : Int), .str s]) 0) (.bool false)) = false from hse] at e
       exact q3.callC (m := 1500) (pr := .keep) (ros := [pF]) (π := k18z_p) see0 e (seeZ false (putS (hs, hf) d s))
 | false =>
   simp only [T.run, cond_false, Option.some.injEq, Int.toNat_natCast] at hb2; subst hb2
   have b6 := lt_of b6
   have e := k18_eq rk n f mu hs hf d s
   rw [b1, b2, b3, b4, leftV_eq, ble_t (show leftN d n ≤ rk by omega), findV_eq] at e
   exact (qEg rk q).callC (m := 1500) (pr := .keep) (ros := [pF]) (π := k18_p) (Seen.refl _) e (Seen.refl _)
theorem qEr : ∀ rk, Bm.Good Try.prog (Er rk)
 | 0 => q3.addC (by kernel_rfl) fun c c' h => by
   obtain ⟨nl, n, f, mu, hs, hf, d, s, rfl, hb⟩ := f18_inv h
   obtain ⟨hn, _⟩ := chkT_run hb
   have := lt_of (hn 6 _ rfl)
   omega
 | rk + 1 => q3.addC (by kernel_rfl) (j18 rk (qEr rk))
end Go.Proofs.Ytmjmhpbncfjnpaa.history
end
section
set_option linter.unusedSimpArgs false
set_option linter.unusedVariables false
set_option maxRecDepth 20000
namespace Go.Proofs.Ytmjmhpbncfjnpaa.history
open Go Go.RowKit Go.Proofs.Ytmjmhpbncfjnpaa.Bm
def anyF (P : Nat → Bool) : Nat → Nat → Bool
 | 0, _ => false
 | j + 1, i => P i || anyF P j (i + 1)
theorem anyF_iff {P : Nat → Bool} : ∀ {j i : Nat}, anyF P j i = true ↔ ∃ t, i ≤ t ∧ t < i + j ∧ P t = true
 | 0, i => by simp [anyF]; intro t h1 h2; omega
 | j + 1, i => by
   simp only [anyF, Bool.or_eq_true, anyF_iff (j := j)]
   constructor
   ·rintro (h | ⟨t, h1, h2, h3⟩)
    ·exact ⟨i, Nat.le_refl _, by omega, h⟩
    ·exact ⟨t, by omega, by omega, h3⟩
   ·rintro ⟨t, h1, h2, h3⟩
    by_cases ht : t = i
    ·subst ht; exact .inl h3
    ·exact .inr ⟨t, by omega, by omega, h3⟩
def canB (f : Nat → Nat → AV) (n mu : Nat) : Nat → Nat → List Nat → Bool
 | 0, d, _ => Nat.beq (d &&& mu) mu
 | k + 1, d, s => Nat.beq (d &&& mu) mu || anyF (fun i => !(Nat.testBit d i) && (nextB f n mu i d && (match doO (opAt f i) s with
   | none => false
   | some s' => canB f n mu k (d ||| 2 ^ i) s'))) n 0
def canD (f : Nat → Nat → AV) (n mu d : Nat) (s : List Nat) : Bool := canB f n mu (leftN d n + 1) d s
def stepP (f : Nat → Nat → AV) (n mu d : Nat) (s : List Nat) (i : Nat) : Bool := !(Nat.testBit d i) && (nextB f n mu i d && (match doO (opAt f i) s with
  | none => false
  | some s' => canD f n mu (d ||| 2 ^ i) s'))
theorem anyF_congr {P Q : Nat → Bool} : ∀ {j i : Nat}, (∀ t, i ≤ t → t < i + j → P t = Q t) → anyF P j i = anyF Q j i
 | 0, _, _ => rfl
 | j + 1, i, h => by
   simp only [anyF]
   rw [h i (Nat.le_refl _) (by omega), anyF_congr fun t h1 h2 => h t (by omega) (by omega)]
theorem canD_eq (f : Nat → Nat → AV) (n mu d : Nat) (s : List Nat) : canD f n mu d s = (Nat.beq (d &&& mu) mu || anyF (stepP f n mu d s) n 0) := by
 unfold canD
 simp only [canB]
 congr 1
 refine anyF_congr fun t _ ht => ?_
 unfold stepP
 cases hb : Nat.testBit d t with
 | true => rfl
 | false =>
   simp only [Bool.not_false, Bool.true_and]
   congr 1
   cases doO (opAt f t) s with
   | none => rfl
   | some s' =>
     show canB f n mu (leftN d n) _ s' = canB f n mu (leftN (d ||| 2 ^ t) n + 1) _ s'
     rw [left_or hb (by omega)]
theorem key_beq (d d' : Nat) (s s' : List Nat) : AV.beq (keyS d' s') (keyS d s) = (decide (d' = d) && (s' == s)) := by
 unfold keyS
 simp only [AV.beq, AV.beqL, decide_true, Bool.true_and, Bool.and_true]
 congr 1
 exact decide_eq_decide.2 (by omega)
theorem seen_put (σ : Sn) (d d' : Nat) (s s' : List Nat) : seenS (putS σ d s) d' s' = (decide (d' = d) && (s' == s) || seenS σ d' s') := by
 unfold seenS putS
 simp only [key_beq]
 cases (decide (d' = d) && (s' == s)) with
 | true => rfl
 | false => rfl
def Ok (f : Nat → Nat → AV) (n mu : Nat) (σ : Sn) (k : Nat) : Prop := ∀ d s, seenS σ d s = true → leftN d n ≤ k → canD f n mu d s = false
def Does (f : Nat → Nat → AV) (n mu : Nat) (r : Bool × Sn) (σ : Sn) (k : Nat) (b : Bool) : Prop := r.1 = b ∧ (r.1 = false → Ok f n mu r.2 k ∧ ∀ d s, k < leftN d n → seenS r.2 d s = seenS σ d s)
theorem go_does {f : Nat → Nat → AV} {n mu k : Nat} {d : Nat} {s : List Nat} (hk : leftN d n = k + 1) (ih : ∀ d' s' σ, leftN d' n = k → Ok f n mu σ k → Does f n mu (findS f n mu (k + 1) σ d' s') σ k (canD f n mu d' s')) :
  ∀ (j i : Nat) (σ : Sn), i + j = n → Ok f n mu σ k → Does f n mu (goS f n mu (findS f n mu (k + 1)) d s j i σ) σ k (anyF (stepP f n mu d s) j i)
 | 0, i, σ, hn, hO => ⟨rfl, fun _ => ⟨hO, fun _ _ _ => rfl⟩⟩
 | j + 1, i, σ, hn, hO => by
   have next := go_does (s := s) hk ih j (i + 1) σ (by omega) hO
   simp only [goS, anyF]
   unfold stepP
   cases hb : Nat.testBit d i with
   | true => simp only [Bool.true_or, cond_true, Bool.not_true, Bool.false_and, Bool.false_or]; exact next
   | false =>
     cases hx : nextB f n mu i d with
     | false => simp only [Bool.not_false, Bool.or_true, cond_true, Bool.false_and, Bool.and_false, Bool.false_or]; exact next
     | true =>
       simp only [Bool.not_true, Bool.or_false, cond_false, Bool.not_false, Bool.true_and]
       cases hd : doO (opAt f i) s with
       | none => simp only [Bool.false_or]; exact next
       | some s' =>
         simp only []
         have hl := left_or hb (n := n) (show i < n by omega)
         obtain ⟨r1, r2⟩ := ih (d ||| 2 ^ i) s' σ (by omega) hO
         rw [← r1]
         cases hr : (findS f n mu (k + 1) σ (d ||| 2 ^ i) s').1 with
         | true =>
           simp only [cond_true, Bool.true_or]
           exact ⟨rfl, fun h => by cases h⟩
         | false =>
           obtain ⟨o1, o2⟩ := r2 hr
           simp only [cond_false, Bool.false_or]
           obtain ⟨n1, n2⟩ := go_does (s := s) hk ih j (i + 1) (findS f n mu (k + 1) σ (d ||| 2 ^ i) s').2 (by omega) o1
           exact ⟨n1, fun h => ⟨(n2 h).1, fun d' s'' hlt => ((n2 h).2 d' s'' hlt).trans (o2 d' s'' hlt)⟩⟩
theorem go_none {f : Nat → Nat → AV} {n mu : Nat} {rec : Sn → Nat → List Nat → Bool × Sn} {d : Nat} {s : List Nat} (hk : leftN d n = 0) : ∀ (j i : Nat) (σ : Sn), i + j = n → goS f n mu rec d s j i σ = (false, σ) ∧ anyF (stepP f n mu d s) j i = false
 | 0, i, σ, hn => ⟨rfl, rfl⟩
 | j + 1, i, σ, hn => by
   obtain ⟨h1, h2⟩ := go_none (rec := rec) (mu := mu) (f := f) (s := s) hk j (i + 1) σ (by omega)
   have hb : Nat.testBit d i = true := by
    cases hb : Nat.testBit d i with
    | true => rfl
    | false =>
      have := left_or hb (n := n) (show i < n by omega)
      omega
   simp only [goS, anyF]
   unfold stepP
   rw [hb]
   simp only [Bool.true_or, cond_true, Bool.not_true, Bool.false_and, Bool.false_or]
   exact ⟨h1, h2⟩
theorem find_does {f : Nat → Nat → AV} {n mu : Nat} : ∀ (k : Nat) (d : Nat) (s : List Nat) (σ : Sn), leftN d n = k → Ok f n mu σ k → Does f n mu (findS f n mu (k + 1) σ d s) σ k (canD f n mu d s) := by
 intro k
 induction k with
 | zero =>
   intro d s σ hk hO
   rw [canD_eq]
   show Does f n mu (cond (Nat.beq (d &&& mu) mu) (true, σ) (cond (seenS σ d s) (false, σ) (goS f n mu (findS f n mu 0) d s n 0 (putS σ d s)))) σ 0 _
   cases hm : Nat.beq (d &&& mu) mu with
   | true => exact ⟨rfl, fun h => by cases h⟩
   | false =>
     obtain ⟨_, g2⟩ := go_none (rec := findS f n mu 0) (f := f) (mu := mu) (s := s) hk n 0 σ (by omega)
     have hc : canD f n mu d s = false := by rw [canD_eq, hm, g2]; rfl
     simp only [cond_false, Bool.false_or]
     cases hse : seenS σ d s with
     | true =>
       simp only [cond_true]
       exact ⟨g2.symm, fun _ => ⟨hO, fun _ _ _ => rfl⟩⟩
     | false =>
       obtain ⟨g1, _⟩ := go_none (rec := findS f n mu 0) (f := f) (mu := mu) (s := s) hk n 0 (putS σ d s) (by omega)
       simp only [cond_false, g1]
       refine ⟨g2.symm, fun _ => ⟨fun d' s' hs hl => ?_, fun d' s' hl => ?_⟩⟩
       ·rw [seen_put] at hs
        rcases Bool.or_eq_true _ _ ▸ hs with h | h
        ·simp only [Bool.and_eq_true, decide_eq_true_eq, beq_iff_eq] at h
         rw [h.1, h.2]; exact hc
        ·exact hO d' s' h hl
       ·show seenS (putS σ d s) d' s' = _
        rw [seen_put, decide_eq_false (show ¬ d' = d from fun e => by rw [e] at hl; omega)]; rfl
 | succ k ih =>
   intro d s σ hk hO
   rw [canD_eq]
   show Does f n mu (cond (Nat.beq (d &&& mu) mu) (true, σ) (cond (seenS σ d s) (false, σ) (goS f n mu (findS f n mu (k + 1)) d s n 0 (putS σ d s)))) σ (k + 1) _
   cases hm : Nat.beq (d &&& mu) mu with
   | true => exact ⟨rfl, fun h => by cases h⟩
   | false =>
     simp only [cond_false, Bool.false_or]
     cases hse : seenS σ d s with
     | true =>
       have hc := hO d s hse (by omega)
       rw [canD_eq, hm, Bool.false_or] at hc
       simp only [cond_true]
       exact ⟨hc.symm, fun _ => ⟨hO, fun _ _ _ => rfl⟩⟩
     | false =>
       simp only [cond_false]
       have hO' : Ok f n mu (putS σ d s) k := fun d' s' hs hl => by
        rw [seen_put] at hs
        rcases Bool.or_eq_true _ _ ▸ hs with h | h
        ·simp only [Bool.and_eq_true, decide_eq_true_eq] at h
         have := h.1
         subst this
         omega
        ·exact hO d' s' h (by omega)
       obtain ⟨g1, g2⟩ := go_does (s := s) hk (fun d' s' σ' h1 h2 => ih d' s' σ' h1 h2) n 0 (putS σ d s) (by omega) hO'
       refine ⟨g1, fun h => ⟨fun d' s' hs hl => ?_, fun d' s' hl => ?_⟩⟩
       ·obtain ⟨o1, o2⟩ := g2 h
        by_cases hl' : leftN d' n ≤ k
        ·exact o1 d' s' hs hl'
        ·rw [o2 d' s' (by omega), seen_put] at hs
         rcases Bool.or_eq_true _ _ ▸ hs with hq | hq
         ·simp only [Bool.and_eq_true, decide_eq_true_eq, beq_iff_eq] at hq
          rw [hq.1, hq.2, canD_eq, hm, Bool.false_or, ← g1]
          exact h
         ·exact hO d' s' hq hl
       ·obtain ⟨o1, o2⟩ := g2 h
        rw [o2 d' s' (by omega), seen_put, decide_eq_false (show ¬ d' = d from fun e => by rw [e] at hl; omega)]; rfl
theorem find_can {f : Nat → Nat → AV} {n mu : Nat} {σ : Sn} (h : ∀ k, σ.1 k = false) (d : Nat) (s : List Nat) : (findS f n mu (leftN d n + 1) σ d s).1 = canD f n mu d s :=
 (find_does (leftN d n) d s σ rfl fun d' s' hs _ => by
   unfold seenS at hs
   rw [h] at hs; cases hs).1
end Go.Proofs.Ytmjmhpbncfjnpaa.history
end
section
set_option linter.unusedSimpArgs false
set_option linter.unusedVariables false
set_option maxRecDepth 20000
namespace Go.Proofs.Ytmjmhpbncfjnpaa.history
open Go Go.RowKit Go.Proofs.Ytmjmhpbncfjnpaa.Bm
noncomputable def f18m (c : CS) : T CS := match c with
 | ⟨ts, [a, b, some (.map [] _)]⟩ => f18 17 ⟨ts, [a, b, some (.omap shK shB true false [.bool false] (fun _ => false) (fun _ _ => .bad) true)]⟩
 | _ => f18 17 c
noncomputable def E4 : Env := addF E3 18 ⟨fiRun [.keep, .keep] [pF] 1 f18m⟩
def goodO (bl : Int) (x : Opn) : Bool := !(decide (x.ct < 1)) && !(decide (x.fr + x.ct > bl)) && !(decide (x.b < 0)) && !(x.e != 0 && decide (x.e ≤ x.b)) && !((x.w || x.e != 0) && ((x.d.length : Int) != 8 * x.ct))
def rngO (x : Opn) : Bool := decide (0 ≤ x.fr) && decide (x.fr < 4294967296) && decide (0 ≤ x.ct) && decide (x.ct < 4294967296)
def okN (n : Nat) : Bool := decide (n ≤ 9223372036854775807)
def okL (f : Nat → Nat → AV) (n : Nat) : Bool := okFrom (fun i => !(decide (((AV.toS (f i 4)).length : Int) > 1000))) 0 n
def okG (bl : Int) (f : Nat → Nat → AV) (n : Nat) : Bool := okFrom (fun i => goodO bl (opAt f i)) 0 n
def rngA (f : Nat → Nat → AV) (n : Nat) : Bool := okFrom (fun i => rngO (opAt f i)) 0 n
def gF (bl : Int) (f : Nat → Nat → AV) (n : Nat) : Bool := !(decide ((n : Int) > 16)) && !(decide (bl < 1)) && !(decide (bl > 64)) && okG bl f n
def cntW (f : Nat → Nat → AV) : Nat → Nat
 | 0 => 0
 | i + 1 => cntW f i + cond ((f i 1).toB && !((f i 7).toB)) 1 0
def cntA (f : Nat → Nat → AV) (n : Nat) : Nat := cntW f n
def filtO (f : Nat → Nat → AV) (n : Nat) : List Opn := (rdO f n).filter mayO
def mustL : List Opn → Nat → Nat
 | [], _ => 0
 | x :: l, k => (cond (x.e != 0) (2 ^ k) 0) ||| mustL l (k + 1)
def mustN (f : Nat → Nat → AV) (n : Nat) : Nat := mustL (filtO f n) 0
def blank (bl : Int) : List Nat := List.replicate (8 * bl).toNat 0
def checkF (bl : Int) (f : Nat → Nat → AV) (n : Nat) : Bool := gF bl f n && (findS (finO (filtO f n)) (filtO f n).length (mustN f n) (leftN 0 (filtO f n).length + 1) (fun _ => false, fun _ _ => .bad) 0 (blank bl)).1
theorem okNVE : ∃ q : Nat → Bool, q = okN := ⟨_, rfl⟩
noncomputable def okNV : Nat → Bool := Classical.choose okNVE
theorem okNV_eq : okNV = okN := Classical.choose_spec okNVE
theorem okLVE : ∃ q : (Nat → Nat → AV) → Nat → Bool, q = okL := ⟨_, rfl⟩
noncomputable def okLV : (Nat → Nat → AV) → Nat → Bool := Classical.choose okLVE
theorem okLV_eq : okLV = okL := Classical.choose_spec okLVE
theorem okGVE : ∃ q : Int → (Nat → Nat → AV) → Nat → Bool, q = okG := ⟨_, rfl⟩
noncomputable def okGV : Int → (Nat → Nat → AV) → Nat → Bool := Classical.choose okGVE
theorem okGV_eq : okGV = okG := Classical.choose_spec okGVE
theorem rngVE : ∃ q : (Nat → Nat → AV) → Nat → Bool, q = rngA := ⟨_, rfl⟩
noncomputable def rngV : (Nat → Nat → AV) → Nat → Bool := Classical.choose rngVE
theorem rngV_eq : rngV = rngA := Classical.choose_spec rngVE
theorem gVE : ∃ q : Int → (Nat → Nat → AV) → Nat → Bool, q = gF := ⟨_, rfl⟩
noncomputable def gV : Int → (Nat → Nat → AV) → Nat → Bool := Classical.choose gVE
theorem gV_eq : gV = gF := Classical.choose_spec gVE
theorem cntVE : ∃ q : (Nat → Nat → AV) → Nat → Nat, q = cntA := ⟨_, rfl⟩
noncomputable def cntV : (Nat → Nat → AV) → Nat → Nat := Classical.choose cntVE
theorem cntV_eq : cntV = cntA := Classical.choose_spec cntVE
theorem filtVE : ∃ q : (Nat → Nat → AV) → Nat → List Opn, q = filtO := ⟨_, rfl⟩
noncomputable def filtV : (Nat → Nat → AV) → Nat → List Opn := Classical.choose filtVE
theorem filtV_eq : filtV = filtO := Classical.choose_spec filtVE
theorem mustVE : ∃ q : (Nat → Nat → AV) → Nat → Nat, q = mustN := ⟨_, rfl⟩
noncomputable def mustV : (Nat → Nat → AV) → Nat → Nat := Classical.choose mustVE
theorem mustV_eq : mustV = mustN := Classical.choose_spec mustVE
theorem checkVE : ∃ q : Int → (Nat → Nat → AV) → Nat → Bool, q = checkF := ⟨_, rfl⟩
noncomputable def checkV : Int → (Nat → Nat → AV) → Nat → Bool := Classical.choose checkVE
theorem checkV_eq : checkV = checkF := Classical.choose_spec checkVE
def h7 : Pat := ⟨19, [(0, .asl shO), (5, .asl shO), (6, .keep), (7, .keep)], []⟩
def x7 : List (Ex × Pat) := [(.exit 0, ⟨19, [(0, .asl shO)], []⟩), (.ret, ⟨19, [(2, .keep)], []⟩)]
def h9 : Pat := ⟨69, [(1, .keep), (19, .asl shO), (20, .keep), (21, .keep)], []⟩
def x9 : List (Ex × Pat) := [(.exit 0, ⟨69, [], []⟩), (.ret, ⟨69, [(4, .keep)], []⟩)]
def h10 : Pat := ⟨83, [(0, .asl shO), (1, .keep), (5, .keep)], []⟩
def x10 : List (Ex × Pat) := [(.exit 0, ⟨83, [], []⟩), (.ret, ⟨83, [(4, .keep)], []⟩)]
def h11 : Pat := ⟨22, [(2, .keep), (5, .asl shO), (6, .keep), (7, .keep)], []⟩
def x11 : List (Ex × Pat) := [(.exit 0, ⟨22, [(2, .keep)], []⟩)]
def h12 : Pat := ⟨68, [(1, .keep), (5, .keep), (15, .asl shO), (16, .keep), (17, .keep)], [pF]⟩
def x12 : List (Ex × Pat) := [(.exit 0, ⟨68, [(1, .keep), (5, .keep)], [pF]⟩)]
def c7 (nl : Bool) (n : Nat) (f : Nat → Nat → AV) (i : Nat) : CS :=
 ⟨[.osl nl 0 0 n n 8 true, .osl nl 0 0 n n 8 true, .int .i64 (n : Nat), .int .i64 (i : Nat)], [some (.tarr shO n f false)]⟩
noncomputable def r7B  (nl : Bool) (n : Nat) (f : Nat → Nat → AV) : T (Nat × CS) :=
 chkT [okNV n] (.ask (okLV f n) (.ret (1, ⟨[.osl nl 0 0 n n 8 true], [some (.tarr shO n f false)]⟩)) (.ret (2, ⟨[.bool false], []⟩)))
noncomputable def r7  (c : CS) : T (Nat × CS) := match c with
 | ⟨[.osl nl 0 0 n z_1 8 true, .osl z_2 0 0 z_3 z_4 8 true, .int .i64 z_5, .int .i64 z_6], [some (.tarr sh_7 z_8 f false)]⟩ => chkT [decide (n = z_1), decide (nl = z_2), decide (n = z_3), decide (n = z_4), decide ((n : Nat) = z_5), decide (0 = z_6), shBeq sh_7 shO, decide (n = z_8)] (r7B  nl n f)
 | _ => .fail
noncomputable def E5 : Env := addL E4 7 0 1000002 h7 x7 0 r7
def a7 (nl : Bool) (n : Nat) (f : Nat → Nat → AV) : CS :=
 ⟨[.osl nl 0 0 n n 8 true], [some (.tarr shO n f false)]⟩
noncomputable def f7B  (nl : Bool) (n : Nat) (f : Nat → Nat → AV) : T (CS) :=
 chkT [okNV n] (.ret ⟨[.bool (okLV f n && decide ((n : Int) ≤ 20))], []⟩)
noncomputable def f7  (c : CS) : T (CS) := match c with
 | ⟨[.osl nl 0 0 n z_1 8 true], [some (.tarr sh_2 z_3 f false)]⟩ => chkT [decide (n = z_1), shBeq sh_2 shO, decide (n = z_3)] (f7B  nl n f)
 | _ => .fail
noncomputable def E6 : Env := addF E5 7 ⟨frRun [.asl shO] [] f7⟩
def c9 (bl : Int) (nl : Bool) (n : Nat) (f : Nat → Nat → AV) (i : Nat) : CS :=
 ⟨[.int .u32 bl, .osl nl 0 0 n n 8 true, .int .i64 (n : Nat), .int .i64 (i : Nat)], [some (.tarr shO n f false)]⟩
noncomputable def r9B  (bl : Int) (nl : Bool) (n : Nat) (f : Nat → Nat → AV) : T (Nat × CS) :=
 chkT [Nat.ble n 1000, rngV f n, !(decide (bl < 1)), !(decide (bl > 64))] (.ask (okGV bl f n) (.ret (1, ⟨[], []⟩)) (.ret (2, ⟨[.bool false], []⟩)))
noncomputable def r9  (c : CS) : T (Nat × CS) := match c with
 | ⟨[.int .u32 bl, .osl nl 0 0 n z_1 8 true, .int .i64 z_2, .int .i64 z_3], [some (.tarr sh_4 z_5 f false)]⟩ => chkT [decide (n = z_1), decide ((n : Nat) = z_2), decide (0 = z_3), shBeq sh_4 shO, decide (n = z_5)] (r9B  bl nl n f)
 | _ => .fail
noncomputable def E7 : Env := addL E6 9 0 1000003 h9 x9 0 r9
def c10 (nl : Bool) (n : Nat) (f : Nat → Nat → AV) (bl : Int) (i : Nat) : CS :=
 ⟨[.osl nl 0 0 n n 8 true, .int .u32 bl, .int .i64 (i : Nat)], [some (.tarr shO n f false)]⟩
noncomputable def r10B  (nl : Bool) (n : Nat) (f : Nat → Nat → AV) (bl : Int) : T (Nat × CS) :=
 chkT [Nat.ble n 1000, rngV f n, !(decide (bl < 1)), !(decide (bl > 64))] (.ask (okGV bl f n) (.ret (1, ⟨[], []⟩)) (.ret (2, ⟨[.bool false], []⟩)))
noncomputable def r10  (c : CS) : T (Nat × CS) := match c with
 | ⟨[.osl nl 0 0 n z_1 8 true, .int .u32 bl, .int .i64 z_2], [some (.tarr sh_3 z_4 f false)]⟩ => chkT [decide (n = z_1), decide (0 = z_2), shBeq sh_3 shO, decide (n = z_4)] (r10B  nl n f bl)
 | _ => .fail
noncomputable def E8 : Env := addL E7 10 0 1000004 h10 x10 0 r10
def a9 (nl : Bool) (n : Nat) (f : Nat → Nat → AV) (bl : Int) : CS :=
 ⟨[.osl nl 0 0 n n 8 true, .int .u32 bl], [some (.tarr shO n f false)]⟩
noncomputable def f9B  (nl : Bool) (n : Nat) (f : Nat → Nat → AV) (bl : Int) : T (CS) :=
 chkT [rngV f n] (.ret ⟨[.bool (gV bl f n)], []⟩)
noncomputable def f9  (c : CS) : T (CS) := match c with
 | ⟨[.osl nl 0 0 n z_1 8 true, .int .u32 bl], [some (.tarr sh_2 z_3 f false)]⟩ => chkT [decide (n = z_1), shBeq sh_2 shO, decide (n = z_3)] (f9B  nl n f bl)
 | _ => .fail
noncomputable def E9 : Env := addF (addF E8 9 ⟨frRun [.asl shO, .keep] [] f9⟩) 10 ⟨frRun [.asl shO, .keep] [] f9⟩
def c11 (ct : Nat) (nl : Bool) (n : Nat) (f : Nat → Nat → AV) (i : Nat) : CS :=
 ⟨[.int .i64 (ct : Nat), .osl nl 0 0 n n 8 true, .int .i64 (n : Nat), .int .i64 (i : Nat)], [some (.tarr shO n f false)]⟩
noncomputable def r11B  (nl : Bool) (n : Nat) (f : Nat → Nat → AV) : T (Nat × CS) :=
 chkT [Nat.ble n 1000] (.ret (1, ⟨[.int .i64 (cntV f n : Nat)], []⟩))
noncomputable def r11  (c : CS) : T (Nat × CS) := match c with
 | ⟨[.int .i64 z_1, .osl nl 0 0 n z_2 8 true, .int .i64 z_3, .int .i64 z_4], [some (.tarr sh_5 z_6 f false)]⟩ => chkT [decide (0 = z_1), decide (n = z_2), decide ((n : Nat) = z_3), decide (0 = z_4), shBeq sh_5 shO, decide (n = z_6)] (r11B  nl n f)
 | _ => .fail
noncomputable def EA : Env := addL E9 11 0 1000005 h11 x11 0 r11
noncomputable def f11B  (nl : Bool) (n : Nat) (f : Nat → Nat → AV) : T (CS) :=
 chkT [Nat.ble n 1000] (.ret ⟨[.int .i64 (cntV f n : Nat)], []⟩)
noncomputable def f11  (c : CS) : T (CS) := match c with
 | ⟨[.osl nl 0 0 n z_1 8 true], [some (.tarr sh_2 z_3 f false)]⟩ => chkT [decide (n = z_1), shBeq sh_2 shO, decide (n = z_3)] (f11B  nl n f)
 | _ => .fail
noncomputable def EB : Env := addF EA 11 ⟨frRun [.asl shO] [] f11⟩
def c12 (bl : Int) (nl : Bool) (n : Nat) (f : Nat → Nat → AV) (m : Nat) (g : Nat → Nat → AV) (mu : Nat) (zc : Nat) (i : Nat) : CS :=
 ⟨[.int .u32 bl, .ptr 0 0, .osl nl 1 0 n n 8 true, .int .i64 (n : Nat), .int .i64 (i : Nat)], [some (.cells [.osl false 2 0 m m 8 true, .int .u32 (mu : Nat), .map 3] true), some (.tarr shO n f false), some (.tarr shO m g true), some (.map [] zc)]⟩
def c12n (bl : Int) (nl : Bool) (n : Nat) (f : Nat → Nat → AV) (mu : Nat) (zc : Nat) (i : Nat) : CS :=
 ⟨[.int .u32 bl, .ptr 0 0, .osl nl 1 0 n n 8 true, .int .i64 (n : Nat), .int .i64 (i : Nat)], [some (.cells [.nilSlice, .int .u32 (mu : Nat), .map 3] true), some (.tarr shO n f false), none, some (.map [] zc)]⟩
noncomputable def s7 (nl : Bool) (n : Nat) (f : Nat → Nat → AV) (i : Nat) (π : Plan) : Option (Nat × CS) := stepC (E4) (400) (loopC E4 7 0) (0) (h7) ((.normal, h7) :: x7) π (c7 nl n f i)
def s7_p : Plan := (.fork (.reck 1 (.must true (.fork (.fork .stop .stop) .stop))) .stop)
theorem s7_is (nl : Bool) (n : Nat) (f : Nat → Nat → AV) (i : Nat) : s7 nl n f i s7_p = (cond (decide ((↑i : Int) < (↑n : Int)))
 (cond (decide ((↑i : Int) < (↑n : Int))) (cond (Nat.blt (0 + Int.toNat (↑i : Int)) n)
 (cond (decide ((↑(List.length (AV.toS (f (0 + Int.toNat (↑i : Int)) (4)))) : Int) > 1000))
 (some (2, (CS.mk [(AV.bool (false))] [])))
 (some (0, (CS.mk [(AV.osl (nl) (0) (0) (n) (n) (8) (true)), (AV.osl (nl) (0) (0) (n) (n) (8) (true)), (AV.int IntKind.i64 ((↑n : Int))), (AV.int IntKind.i64 (IntKind.wrap IntKind.i64 ((↑i : Int) + 1)))] [some (AObj.tarr shO (n) f false)]))))
 none) none)
 (some (1, (CS.mk [(AV.osl (nl) (0) (0) (n) (n) (8) (true))] [some (AObj.tarr shO (n) f false)])))) := by kernel_rfl
theorem s7_eq (nl : Bool) (n : Nat) (f : Nat → Nat → AV) (i : Nat) : s7 nl n f i s7_p = (cond (decide ((↑i : Int) < (↑n : Int)))
 (cond (Nat.blt (0 + Int.toNat (↑i : Int)) n)
 (cond (decide ((↑(List.length (AV.toS (f (0 + Int.toNat (↑i : Int)) (4)))) : Int) > 1000))
 (some (2, (CS.mk [(AV.bool (false))] [])))
 (some (0, (CS.mk [(AV.osl (nl) (0) (0) (n) (n) (8) (true)), (AV.osl (nl) (0) (0) (n) (n) (8) (true)), (AV.int IntKind.i64 ((↑n : Int))), (AV.int IntKind.i64 (IntKind.wrap IntKind.i64 ((↑i : Int) + 1)))] [some (AObj.tarr shO (n) f false)]))))
 none)
 (some (1, (CS.mk [(AV.osl (nl) (0) (0) (n) (n) (8) (true))] [some (AObj.tarr shO (n) f false)])))) := by
 rw [s7_is]
 try simp only [eq_self, decide_true, beq_self_eq_true, Nat.beq_refl, ble_self, Int.le_refl, Nat.le_refl]
 cases (decide ((↑i : Int) < (↑n : Int))) with
 | true =>
   cases (Nat.blt (0 + Int.toNat (↑i : Int)) n) with
   | true =>
     cases (decide ((↑(List.length (AV.toS (f (0 + Int.toNat (↑i : Int)) (4)))) : Int) > 1000)) with
     | true =>
       rfl
     | false =>
       rfl
   | false =>
     rfl
 | false =>
   rfl
noncomputable def k7 (nl : Bool) (n : Nat) (f : Nat → Nat → AV) (π : Plan) : Option CS := callC (E5) (1500) (7) (0) (.keep) ([]) π (a7 nl n f)
def k7_p : Plan := (.must true (.must true (.must true (.must true (.must true (.reck 2 (.must true (.fork (.fork .stop .stop) .stop))))))))
theorem k7_is (nl : Bool) (n : Nat) (f : Nat → Nat → AV) : k7 nl n f k7_p = (cond (decide (n = n)) (cond (decide (nl = nl)) (cond (decide (n = n)) (cond (decide (n = n)) (cond (decide ((↑n : Int) = (↑n : Int))) (cond (decide (n = n)) (cond (okNV n)
 (cond ((okLV f (n)))
 (some (CS.mk [(AV.bool (decide ((↑n : Int) ≤ 20)))] []))
 (some (CS.mk [(AV.bool (false))] [])))
 none) none) none) none) none) none) none) := by kernel_rfl
theorem k7_eq (nl : Bool) (n : Nat) (f : Nat → Nat → AV) : k7 nl n f k7_p = (cond (okNV n)
 (cond (okLV f (n))
 (some (CS.mk [(AV.bool (decide ((↑n : Int) ≤ 20)))] []))
 (some (CS.mk [(AV.bool (false))] [])))
 none) := by
 rw [k7_is]
 try simp only [eq_self, decide_true, beq_self_eq_true, Nat.beq_refl, ble_self, Int.le_refl, Nat.le_refl]
 cases (okNV n) with
 | true =>
   cases (okLV f (n)) with
   | true =>
     rfl
   | false =>
     rfl
 | false =>
   rfl
noncomputable def s9 (bl : Int) (nl : Bool) (n : Nat) (f : Nat → Nat → AV) (i : Nat) (π : Plan) : Option (Nat × CS) := stepC (E6) (400) (loopC E6 9 0) (0) (h9) ((.normal, h9) :: x9) π (c9 bl nl n f i)
def s9_p : Plan := (.fork (.reck 1 (.must true (.fork (.fork (.must true (.must true (.must false (.fork (.must true (.must true (.must true (.must true (.must true (.fork (.must true (.must true (.must false (.fork (.must true (.must true (.must true (.fork (.must true (.must true (.must true (.must true (.must true (.must true (.must false (.fork .stop (.must true (.must true (.must true (.must true (.must true (.must true (.must true (.must true (.must true (.must true (.fork .stop .stop))))))))))))))))))) (.must false (.must false (.must false (.must false (.must true (.must false (.must false (.reck 1 (.must false (.must false (.must false (.must false (.must false (.must false (.must false (.must false (.must false (.must false .stop)))))))))))))))))))))) (.must false (.must false (.must false (.must false (.must true .stop))))))))) (.must false (.must false (.must true .stop))))))))) (.must false (.must false (.must false (.must false (.must false .stop))))))))) (.must false (.must false (.must true (.fork (.must true (.must true (.must true (.must true (.must true (.fork (.must true (.must true (.must false (.fork (.must true (.must true (.must true (.fork (.must true (.must true (.must true (.must true (.must true (.must true (.must false (.fork .stop (.reck 10 (.fork .stop .stop)))))))))) (.must false (.must false (.must false (.must false (.must true (.must false (.must false (.reck 11 (.fork .stop .stop))))))))))))) (.must false (.must false (.must false (.must false (.must true .stop))))))))) (.must false (.must false (.must true .stop))))))))) (.must false (.must false (.must false (.must false (.must false .stop)))))))))) .stop))) .stop)
theorem s9_is (bl : Int) (nl : Bool) (n : Nat) (f : Nat → Nat → AV) (i : Nat) : s9 bl nl n f i s9_p = (cond (decide ((↑i : Int) < (↑n : Int)))
 (cond (decide ((↑i : Int) < (↑n : Int))) (cond (Nat.blt (0 + Int.toNat (↑i : Int)) n)
 (cond (AV.toB (f (0 + Int.toNat (↑i : Int)) (1)) == false)
 (cond (AV.toB (f (0 + Int.toNat (↑i : Int)) (1)) == false) (cond (AV.toB (f (0 + Int.toNat (↑i : Int)) (1)) == false) (cond (AV.toB (f (0 + Int.toNat (↑i : Int)) (1))) none (cond (decide (AV.toI (f (0 + Int.toNat (↑i : Int)) (3)) > 0) == true)
 (cond (decide (AV.toI (f (0 + Int.toNat (↑i : Int)) (3)) > 0) == true) (cond (decide (AV.toI (f (0 + Int.toNat (↑i : Int)) (3)) > 0) == true) (cond (decide (AV.toI (f (0 + Int.toNat (↑i : Int)) (3)) > 0) == true) (cond (decide (AV.toI (f (0 + Int.toNat (↑i : Int)) (3)) > 0) == true) (cond (decide (AV.toI (f (0 + Int.toNat (↑i : Int)) (3)) > 0)) (cond ((!decide (IntKind.wrap IntKind.u64 (IntKind.wrap IntKind.u64 (AV.toI (f (0 + Int.toNat (↑i : Int)) (2))) + IntKind.wrap IntKind.u64 (AV.toI (f (0 + Int.toNat (↑i : Int)) (3)))) ≤ IntKind.wrap IntKind.u64 bl)) == false)
 (cond ((!decide (IntKind.wrap IntKind.u64 (IntKind.wrap IntKind.u64 (AV.toI (f (0 + Int.toNat (↑i : Int)) (2))) + IntKind.wrap IntKind.u64 (AV.toI (f (0 + Int.toNat (↑i : Int)) (3)))) ≤ IntKind.wrap IntKind.u64 bl)) == false) (cond ((!decide (IntKind.wrap IntKind.u64 (IntKind.wrap IntKind.u64 (AV.toI (f (0 + Int.toNat (↑i : Int)) (2))) + IntKind.wrap IntKind.u64 (AV.toI (f (0 + Int.toNat (↑i : Int)) (3)))) ≤ IntKind.wrap IntKind.u64 bl)) == false) (cond (!decide (IntKind.wrap IntKind.u64 (IntKind.wrap IntKind.u64 (AV.toI (f (0 + Int.toNat (↑i : Int)) (2))) + IntKind.wrap IntKind.u64 (AV.toI (f (0 + Int.toNat (↑i : Int)) (3)))) ≤ IntKind.wrap IntKind.u64 bl)) none (cond (decide (AV.toI (f (0 + Int.toNat (↑i : Int)) (5)) < 0) == false)
 (cond (decide (AV.toI (f (0 + Int.toNat (↑i : Int)) (5)) < 0) == false) (cond (decide (AV.toI (f (0 + Int.toNat (↑i : Int)) (5)) < 0) == false) (cond (decide (AV.toI (f (0 + Int.toNat (↑i : Int)) (5)) < 0) == false) (cond ((AV.toI (f (0 + Int.toNat (↑i : Int)) (6)) != 0) == true)
 (cond ((AV.toI (f (0 + Int.toNat (↑i : Int)) (6)) != 0) == true) (cond ((AV.toI (f (0 + Int.toNat (↑i : Int)) (6)) != 0) == true) (cond ((AV.toI (f (0 + Int.toNat (↑i : Int)) (6)) != 0) == true) (cond ((AV.toI (f (0 + Int.toNat (↑i : Int)) (6)) != 0) == true) (cond (decide (AV.toI (f (0 + Int.toNat (↑i : Int)) (5)) < 0) == false) (cond (AV.toI (f (0 + Int.toNat (↑i : Int)) (6)) != 0) (cond (decide (AV.toI (f (0 + Int.toNat (↑i : Int)) (5)) < 0)) none (cond (decide (AV.toI (f (0 + Int.toNat (↑i : Int)) (6)) ≤ AV.toI (f (0 + Int.toNat (↑i : Int)) (5))))
 (some (2, (CS.mk [(AV.bool (false))] [])))
 (cond ((AV.toI (f (0 + Int.toNat (↑i : Int)) (6)) != 0) == true) (cond ((AV.toI (f (0 + Int.toNat (↑i : Int)) (6)) != 0) == true) (cond ((AV.toI (f (0 + Int.toNat (↑i : Int)) (6)) != 0) == true) (cond ((AV.toI (f (0 + Int.toNat (↑i : Int)) (6)) != 0) == true) (cond ((AV.toI (f (0 + Int.toNat (↑i : Int)) (6)) != 0) == true) (cond ((AV.toI (f (0 + Int.toNat (↑i : Int)) (6)) != 0) == true) (cond ((AV.toI (f (0 + Int.toNat (↑i : Int)) (6)) != 0) == true) (cond ((AV.toI (f (0 + Int.toNat (↑i : Int)) (6)) != 0) == true) (cond ((AV.toI (f (0 + Int.toNat (↑i : Int)) (6)) != 0) == true) (cond (AV.toI (f (0 + Int.toNat (↑i : Int)) (6)) != 0) (cond ((↑(List.length (AV.toS (f (0 + Int.toNat (↑i : Int)) (4)))) : Int) != IntKind.wrap IntKind.i64 (8 * IntKind.wrap IntKind.i64 (AV.toI (f (0 + Int.toNat (↑i : Int)) (3)))))
 (some (2, (CS.mk [(AV.bool (false))] [])))
 (some (0, (CS.mk [(AV.int IntKind.u32 (bl)), (AV.osl (nl) (0) (0) (n) (n) (8) (true)), (AV.int IntKind.i64 ((↑n : Int))), (AV.int IntKind.i64 (IntKind.wrap IntKind.i64 ((↑i : Int) + 1)))] [some (AObj.tarr shO (n) f false)])))) none) none) none) none) none) none) none) none) none) none))) none) none) none) none) none) none)
 (cond ((AV.toI (f (0 + Int.toNat (↑i : Int)) (6)) != 0) == true) none (cond ((AV.toI (f (0 + Int.toNat (↑i : Int)) (6)) != 0) == true) none (cond ((AV.toI (f (0 + Int.toNat (↑i : Int)) (6)) != 0) == true) none (cond ((AV.toI (f (0 + Int.toNat (↑i : Int)) (6)) != 0) == true) none (cond (decide (AV.toI (f (0 + Int.toNat (↑i : Int)) (5)) < 0) == false) (cond (AV.toI (f (0 + Int.toNat (↑i : Int)) (6)) != 0) none (cond (decide (AV.toI (f (0 + Int.toNat (↑i : Int)) (5)) < 0)) none (cond ((AV.toI (f (0 + Int.toNat (↑i : Int)) (6)) != 0) == true) none (cond ((AV.toI (f (0 + Int.toNat (↑i : Int)) (6)) != 0) == true) none (cond ((AV.toI (f (0 + Int.toNat (↑i : Int)) (6)) != 0) == true) none (cond ((AV.toI (f (0 + Int.toNat (↑i : Int)) (6)) != 0) == true) none (cond ((AV.toI (f (0 + Int.toNat (↑i : Int)) (6)) != 0) == true) none (cond ((AV.toI (f (0 + Int.toNat (↑i : Int)) (6)) != 0) == true) none (cond ((AV.toI (f (0 + Int.toNat (↑i : Int)) (6)) != 0) == true) none (cond ((AV.toI (f (0 + Int.toNat (↑i : Int)) (6)) != 0) == true) none (cond ((AV.toI (f (0 + Int.toNat (↑i : Int)) (6)) != 0) == true) none (cond (AV.toI (f (0 + Int.toNat (↑i : Int)) (6)) != 0) none (some (0, (CS.mk [(AV.int IntKind.u32 (bl)), (AV.osl (nl) (0) (0) (n) (n) (8) (true)), (AV.int IntKind.i64 ((↑n : Int))), (AV.int IntKind.i64 (IntKind.wrap IntKind.i64 ((↑i : Int) + 1)))] [some (AObj.tarr shO (n) f false)]))))))))))))))) none)))))) none) none) none)
 (cond (decide (AV.toI (f (0 + Int.toNat (↑i : Int)) (5)) < 0) == false) none (cond (decide (AV.toI (f (0 + Int.toNat (↑i : Int)) (5)) < 0) == false) none (cond (decide (AV.toI (f (0 + Int.toNat (↑i : Int)) (5)) < 0) == false) none (cond (decide (AV.toI (f (0 + Int.toNat (↑i : Int)) (5)) < 0) == false) none (cond (decide (AV.toI (f (0 + Int.toNat (↑i : Int)) (5)) < 0)) (some (2, (CS.mk [(AV.bool (false))] []))) none))))))) none) none)
 (cond ((!decide (IntKind.wrap IntKind.u64 (IntKind.wrap IntKind.u64 (AV.toI (f (0 + Int.toNat (↑i : Int)) (2))) + IntKind.wrap IntKind.u64 (AV.toI (f (0 + Int.toNat (↑i : Int)) (3)))) ≤ IntKind.wrap IntKind.u64 bl)) == false) none (cond ((!decide (IntKind.wrap IntKind.u64 (IntKind.wrap IntKind.u64 (AV.toI (f (0 + Int.toNat (↑i : Int)) (2))) + IntKind.wrap IntKind.u64 (AV.toI (f (0 + Int.toNat (↑i : Int)) (3)))) ≤ IntKind.wrap IntKind.u64 bl)) == false) none (cond (!decide (IntKind.wrap IntKind.u64 (IntKind.wrap IntKind.u64 (AV.toI (f (0 + Int.toNat (↑i : Int)) (2))) + IntKind.wrap IntKind.u64 (AV.toI (f (0 + Int.toNat (↑i : Int)) (3)))) ≤ IntKind.wrap IntKind.u64 bl)) (some (2, (CS.mk [(AV.bool (false))] []))) none)))) none) none) none) none) none)
 (cond (decide (AV.toI (f (0 + Int.toNat (↑i : Int)) (3)) > 0) == true) none (cond (decide (AV.toI (f (0 + Int.toNat (↑i : Int)) (3)) > 0) == true) none (cond (decide (AV.toI (f (0 + Int.toNat (↑i : Int)) (3)) > 0) == true) none (cond (decide (AV.toI (f (0 + Int.toNat (↑i : Int)) (3)) > 0) == true) none (cond (decide (AV.toI (f (0 + Int.toNat (↑i : Int)) (3)) > 0)) none (some (2, (CS.mk [(AV.bool (false))] [])))))))))) none) none)
 (cond (AV.toB (f (0 + Int.toNat (↑i : Int)) (1)) == false) none (cond (AV.toB (f (0 + Int.toNat (↑i : Int)) (1)) == false) none (cond (AV.toB (f (0 + Int.toNat (↑i : Int)) (1))) (cond (decide (AV.toI (f (0 + Int.toNat (↑i : Int)) (3)) > 0) == true)
 (cond (decide (AV.toI (f (0 + Int.toNat (↑i : Int)) (3)) > 0) == true) (cond (decide (AV.toI (f (0 + Int.toNat (↑i : Int)) (3)) > 0) == true) (cond (decide (AV.toI (f (0 + Int.toNat (↑i : Int)) (3)) > 0) == true) (cond (decide (AV.toI (f (0 + Int.toNat (↑i : Int)) (3)) > 0) == true) (cond (decide (AV.toI (f (0 + Int.toNat (↑i : Int)) (3)) > 0)) (cond ((!decide (IntKind.wrap IntKind.u64 (IntKind.wrap IntKind.u64 (AV.toI (f (0 + Int.toNat (↑i : Int)) (2))) + IntKind.wrap IntKind.u64 (AV.toI (f (0 + Int.toNat (↑i : Int)) (3)))) ≤ IntKind.wrap IntKind.u64 bl)) == false)
 (cond ((!decide (IntKind.wrap IntKind.u64 (IntKind.wrap IntKind.u64 (AV.toI (f (0 + Int.toNat (↑i : Int)) (2))) + IntKind.wrap IntKind.u64 (AV.toI (f (0 + Int.toNat (↑i : Int)) (3)))) ≤ IntKind.wrap IntKind.u64 bl)) == false) (cond ((!decide (IntKind.wrap IntKind.u64 (IntKind.wrap IntKind.u64 (AV.toI (f (0 + Int.toNat (↑i : Int)) (2))) + IntKind.wrap IntKind.u64 (AV.toI (f (0 + Int.toNat (↑i : Int)) (3)))) ≤ IntKind.wrap IntKind.u64 bl)) == false) (cond (!decide (IntKind.wrap IntKind.u64 (IntKind.wrap IntKind.u64 (AV.toI (f (0 + Int.toNat (↑i : Int)) (2))) + IntKind.wrap IntKind.u64 (AV.toI (f (0 + Int.toNat (↑i : Int)) (3)))) ≤ IntKind.wrap IntKind.u64 bl)) none (cond (decide (AV.toI (f (0 + Int.toNat (↑i : Int)) (5)) < 0) == false)
 (cond (decide (AV.toI (f (0 + Int.toNat (↑i : Int)) (5)) < 0) == false) (cond (decide (AV.toI (f (0 + Int.toNat (↑i : Int)) (5)) < 0) == false) (cond (decide (AV.toI (f (0 + Int.toNat (↑i : Int)) (5)) < 0) == false) (cond ((AV.toI (f (0 + Int.toNat (↑i : Int)) (6)) != 0) == true)
 (cond ((AV.toI (f (0 + Int.toNat (↑i : Int)) (6)) != 0) == true) (cond ((AV.toI (f (0 + Int.toNat (↑i : Int)) (6)) != 0) == true) (cond ((AV.toI (f (0 + Int.toNat (↑i : Int)) (6)) != 0) == true) (cond ((AV.toI (f (0 + Int.toNat (↑i : Int)) (6)) != 0) == true) (cond (decide (AV.toI (f (0 + Int.toNat (↑i : Int)) (5)) < 0) == false) (cond (AV.toI (f (0 + Int.toNat (↑i : Int)) (6)) != 0) (cond (decide (AV.toI (f (0 + Int.toNat (↑i : Int)) (5)) < 0)) none (cond (decide (AV.toI (f (0 + Int.toNat (↑i : Int)) (6)) ≤ AV.toI (f (0 + Int.toNat (↑i : Int)) (5))))
 (some (2, (CS.mk [(AV.bool (false))] [])))
 (cond ((↑(List.length (AV.toS (f (0 + Int.toNat (↑i : Int)) (4)))) : Int) != IntKind.wrap IntKind.i64 (8 * IntKind.wrap IntKind.i64 (AV.toI (f (0 + Int.toNat (↑i : Int)) (3)))))
 (some (2, (CS.mk [(AV.bool (false))] [])))
 (some (0, (CS.mk [(AV.int IntKind.u32 (bl)), (AV.osl (nl) (0) (0) (n) (n) (8) (true)), (AV.int IntKind.i64 ((↑n : Int))), (AV.int IntKind.i64 (IntKind.wrap IntKind.i64 ((↑i : Int) + 1)))] [some (AObj.tarr shO (n) f false)])))))) none) none) none) none) none) none)
 (cond ((AV.toI (f (0 + Int.toNat (↑i : Int)) (6)) != 0) == true) none (cond ((AV.toI (f (0 + Int.toNat (↑i : Int)) (6)) != 0) == true) none (cond ((AV.toI (f (0 + Int.toNat (↑i : Int)) (6)) != 0) == true) none (cond ((AV.toI (f (0 + Int.toNat (↑i : Int)) (6)) != 0) == true) none (cond (decide (AV.toI (f (0 + Int.toNat (↑i : Int)) (5)) < 0) == false) (cond (AV.toI (f (0 + Int.toNat (↑i : Int)) (6)) != 0) none (cond (decide (AV.toI (f (0 + Int.toNat (↑i : Int)) (5)) < 0)) none (cond ((↑(List.length (AV.toS (f (0 + Int.toNat (↑i : Int)) (4)))) : Int) != IntKind.wrap IntKind.i64 (8 * IntKind.wrap IntKind.i64 (AV.toI (f (0 + Int.toNat (↑i : Int)) (3)))))
 (some (2, (CS.mk [(AV.bool (false))] [])))
 (some (0, (CS.mk [(AV.int IntKind.u32 (bl)), (AV.osl (nl) (0) (0) (n) (n) (8) (true)), (AV.int IntKind.i64 ((↑n : Int))), (AV.int IntKind.i64 (IntKind.wrap IntKind.i64 ((↑i : Int) + 1)))] [some (AObj.tarr shO (n) f false)])))))) none)))))) none) none) none)
 (cond (decide (AV.toI (f (0 + Int.toNat (↑i : Int)) (5)) < 0) == false) none (cond (decide (AV.toI (f (0 + Int.toNat (↑i : Int)) (5)) < 0) == false) none (cond (decide (AV.toI (f (0 + Int.toNat (↑i : Int)) (5)) < 0) == false) none (cond (decide (AV.toI (f (0 + Int.toNat (↑i : Int)) (5)) < 0) == false) none (cond (decide (AV.toI (f (0 + Int.toNat (↑i : Int)) (5)) < 0)) (some (2, (CS.mk [(AV.bool (false))] []))) none))))))) none) none)
 (cond ((!decide (IntKind.wrap IntKind.u64 (IntKind.wrap IntKind.u64 (AV.toI (f (0 + Int.toNat (↑i : Int)) (2))) + IntKind.wrap IntKind.u64 (AV.toI (f (0 + Int.toNat (↑i : Int)) (3)))) ≤ IntKind.wrap IntKind.u64 bl)) == false) none (cond ((!decide (IntKind.wrap IntKind.u64 (IntKind.wrap IntKind.u64 (AV.toI (f (0 + Int.toNat (↑i : Int)) (2))) + IntKind.wrap IntKind.u64 (AV.toI (f (0 + Int.toNat (↑i : Int)) (3)))) ≤ IntKind.wrap IntKind.u64 bl)) == false) none (cond (!decide (IntKind.wrap IntKind.u64 (IntKind.wrap IntKind.u64 (AV.toI (f (0 + Int.toNat (↑i : Int)) (2))) + IntKind.wrap IntKind.u64 (AV.toI (f (0 + Int.toNat (↑i : Int)) (3)))) ≤ IntKind.wrap IntKind.u64 bl)) (some (2, (CS.mk [(AV.bool (false))] []))) none)))) none) none) none) none) none)
 (cond (decide (AV.toI (f (0 + Int.toNat (↑i : Int)) (3)) > 0) == true) none (cond (decide (AV.toI (f (0 + Int.toNat (↑i : Int)) (3)) > 0) == true) none (cond (decide (AV.toI (f (0 + Int.toNat (↑i : Int)) (3)) > 0) == true) none (cond (decide (AV.toI (f (0 + Int.toNat (↑i : Int)) (3)) > 0) == true) none (cond (decide (AV.toI (f (0 + Int.toNat (↑i : Int)) (3)) > 0)) none (some (2, (CS.mk [(AV.bool (false))] []))))))))) none))))
 none) none)
 (some (1, (CS.mk [] [])))) := by kernel_rfl
theorem s9_eq (bl : Int) (nl : Bool) (n : Nat) (f : Nat → Nat → AV) (i : Nat) : s9 bl nl n f i s9_p = (cond (decide ((↑i : Int) < (↑n : Int)))
 (cond (Nat.blt (0 + Int.toNat (↑i : Int)) n)
 (cond (AV.toB (f (0 + Int.toNat (↑i : Int)) (1)))
 (cond (decide (AV.toI (f (0 + Int.toNat (↑i : Int)) (3)) > 0))
 (cond (decide (IntKind.wrap IntKind.u64 (IntKind.wrap IntKind.u64 (AV.toI (f (0 + Int.toNat (↑i : Int)) (2))) + IntKind.wrap IntKind.u64 (AV.toI (f (0 + Int.toNat (↑i : Int)) (3)))) ≤ IntKind.wrap IntKind.u64 bl))
 (cond (decide (AV.toI (f (0 + Int.toNat (↑i : Int)) (5)) < 0))
 (some (2, (CS.mk [(AV.bool (false))] [])))
 (cond (AV.toI (f (0 + Int.toNat (↑i : Int)) (6)) != 0)
 (cond (decide (AV.toI (f (0 + Int.toNat (↑i : Int)) (6)) ≤ AV.toI (f (0 + Int.toNat (↑i : Int)) (5))))
 (some (2, (CS.mk [(AV.bool (false))] [])))
 (cond ((↑(List.length (AV.toS (f (0 + Int.toNat (↑i : Int)) (4)))) : Int) != IntKind.wrap IntKind.i64 (8 * IntKind.wrap IntKind.i64 (AV.toI (f (0 + Int.toNat (↑i : Int)) (3)))))
 (some (2, (CS.mk [(AV.bool (false))] [])))
 (some (0, (CS.mk [(AV.int IntKind.u32 (bl)), (AV.osl (nl) (0) (0) (n) (n) (8) (true)), (AV.int IntKind.i64 ((↑n : Int))), (AV.int IntKind.i64 (IntKind.wrap IntKind.i64 ((↑i : Int) + 1)))] [some (AObj.tarr shO (n) f false)])))))
 (cond ((↑(List.length (AV.toS (f (0 + Int.toNat (↑i : Int)) (4)))) : Int) != IntKind.wrap IntKind.i64 (8 * IntKind.wrap IntKind.i64 (AV.toI (f (0 + Int.toNat (↑i : Int)) (3)))))
 (some (2, (CS.mk [(AV.bool (false))] [])))
 (some (0, (CS.mk [(AV.int IntKind.u32 (bl)), (AV.osl (nl) (0) (0) (n) (n) (8) (true)), (AV.int IntKind.i64 ((↑n : Int))), (AV.int IntKind.i64 (IntKind.wrap IntKind.i64 ((↑i : Int) + 1)))] [some (AObj.tarr shO (n) f false)]))))))
 (some (2, (CS.mk [(AV.bool (false))] []))))
 (some (2, (CS.mk [(AV.bool (false))] []))))
 (cond (decide (AV.toI (f (0 + Int.toNat (↑i : Int)) (3)) > 0))
 (cond (decide (IntKind.wrap IntKind.u64 (IntKind.wrap IntKind.u64 (AV.toI (f (0 + Int.toNat (↑i : Int)) (2))) + IntKind.wrap IntKind.u64 (AV.toI (f (0 + Int.toNat (↑i : Int)) (3)))) ≤ IntKind.wrap IntKind.u64 bl))
 (cond (decide (AV.toI (f (0 + Int.toNat (↑i : Int)) (5)) < 0))
 (some (2, (CS.mk [(AV.bool (false))] [])))
 (cond (AV.toI (f (0 + Int.toNat (↑i : Int)) (6)) != 0)
 (cond (decide (AV.toI (f (0 + Int.toNat (↑i : Int)) (6)) ≤ AV.toI (f (0 + Int.toNat (↑i : Int)) (5))))
 (some (2, (CS.mk [(AV.bool (false))] [])))
 (cond ((↑(List.length (AV.toS (f (0 + Int.toNat (↑i : Int)) (4)))) : Int) != IntKind.wrap IntKind.i64 (8 * IntKind.wrap IntKind.i64 (AV.toI (f (0 + Int.toNat (↑i : Int)) (3)))))
 (some (2, (CS.mk [(AV.bool (false))] [])))
 (some (0, (CS.mk [(AV.int IntKind.u32 (bl)), (AV.osl (nl) (0) (0) (n) (n) (8) (true)), (AV.int IntKind.i64 ((↑n : Int))), (AV.int IntKind.i64 (IntKind.wrap IntKind.i64 ((↑i : Int) + 1)))] [some (AObj.tarr shO (n) f false)])))))
 (some (0, (CS.mk [(AV.int IntKind.u32 (bl)), (AV.osl (nl) (0) (0) (n) (n) (8) (true)), (AV.int IntKind.i64 ((↑n : Int))), (AV.int IntKind.i64 (IntKind.wrap IntKind.i64 ((↑i : Int) + 1)))] [some (AObj.tarr shO (n) f false)])))))
 (some (2, (CS.mk [(AV.bool (false))] []))))
 (some (2, (CS.mk [(AV.bool (false))] [])))))
 none)
 (some (1, (CS.mk [] [])))) := by
 rw [s9_is]
 try simp only [eq_self, decide_true, beq_self_eq_true, Nat.beq_refl, ble_self, Int.le_refl, Nat.le_refl]
 cases (decide ((↑i : Int) < (↑n : Int))) with
 | true =>
   cases (Nat.blt (0 + Int.toNat (↑i : Int)) n) with
   | true =>
     cases (AV.toB (f (0 + Int.toNat (↑i : Int)) (1))) with
     | true =>
       cases (decide (AV.toI (f (0 + Int.toNat (↑i : Int)) (3)) > 0)) with
       | true =>
         cases (decide (IntKind.wrap IntKind.u64 (IntKind.wrap IntKind.u64 (AV.toI (f (0 + Int.toNat (↑i : Int)) (2))) + IntKind.wrap IntKind.u64 (AV.toI (f (0 + Int.toNat (↑i : Int)) (3)))) ≤ IntKind.wrap IntKind.u64 bl)) with
         | true =>
           cases (decide (AV.toI (f (0 + Int.toNat (↑i : Int)) (5)) < 0)) with
           | true =>
             rfl
           | false =>
             cases (AV.toI (f (0 + Int.toNat (↑i : Int)) (6)) != 0) with
             | true =>
               cases (decide (AV.toI (f (0 + Int.toNat (↑i : Int)) (6)) ≤ AV.toI (f (0 + Int.toNat (↑i : Int)) (5)))) with
               | true =>
                 rfl
               | false =>
                 cases ((↑(List.length (AV.toS (f (0 + Int.toNat (↑i : Int)) (4)))) : Int) != IntKind.wrap IntKind.i64 (8 * IntKind.wrap IntKind.i64 (AV.toI (f (0 + Int.toNat (↑i : Int)) (3))))) with
                 | true =>
                   rfl
                 | false =>
                   rfl
             | false =>
               cases ((↑(List.length (AV.toS (f (0 + Int.toNat (↑i : Int)) (4)))) : Int) != IntKind.wrap IntKind.i64 (8 * IntKind.wrap IntKind.i64 (AV.toI (f (0 + Int.toNat (↑i : Int)) (3))))) with
               | true =>
                 rfl
               | false =>
                 rfl
         | false =>
           rfl
       | false =>
         rfl
     | false =>
       cases (decide (AV.toI (f (0 + Int.toNat (↑i : Int)) (3)) > 0)) with
       | true =>
         cases (decide (IntKind.wrap IntKind.u64 (IntKind.wrap IntKind.u64 (AV.toI (f (0 + Int.toNat (↑i : Int)) (2))) + IntKind.wrap IntKind.u64 (AV.toI (f (0 + Int.toNat (↑i : Int)) (3)))) ≤ IntKind.wrap IntKind.u64 bl)) with
         | true =>
           cases (decide (AV.toI (f (0 + Int.toNat (↑i : Int)) (5)) < 0)) with
           | true =>
             rfl
           | false =>
             cases (AV.toI (f (0 + Int.toNat (↑i : Int)) (6)) != 0) with
             | true =>
               cases (decide (AV.toI (f (0 + Int.toNat (↑i : Int)) (6)) ≤ AV.toI (f (0 + Int.toNat (↑i : Int)) (5)))) with
               | true =>
                 rfl
               | false =>
                 cases ((↑(List.length (AV.toS (f (0 + Int.toNat (↑i : Int)) (4)))) : Int) != IntKind.wrap IntKind.i64 (8 * IntKind.wrap IntKind.i64 (AV.toI (f (0 + Int.toNat (↑i : Int)) (3))))) with
                 | true =>
                   rfl
                 | false =>
                   rfl
             | false =>
               rfl
         | false =>
           rfl
       | false =>
         rfl
   | false =>
     rfl
 | false =>
   rfl
noncomputable def s10 (nl : Bool) (n : Nat) (f : Nat → Nat → AV) (bl : Int) (i : Nat) (π : Plan) : Option (Nat × CS) := stepC (E7) (400) (loopC E7 10 0) (0) (h10) ((.normal, h10) :: x10) π (c10 nl n f bl i)
def s10_p : Plan := (.fork (.reck 1 (.must true (.fork (.fork (.must true (.must true (.must true (.must false (.fork (.must true (.must true (.must false (.fork (.must true (.must true (.must true (.fork (.must true (.must true (.must true (.must true (.must true (.must true (.must false (.fork .stop (.fork (.must true (.must true (.must false (.must true (.must true (.must true (.must true (.must true (.must true (.must true (.must true (.must true (.must true (.fork .stop .stop)))))))))))))) (.must false (.must false (.must true (.reck 10 (.fork .stop .stop)))))))))))))) (.must false (.must false (.must false (.must false (.must true (.must false (.must false (.reck 1 (.fork (.must true (.must true (.must false (.must false (.must false (.must false (.must false (.must false (.must false (.must false (.must false (.must false (.must false .stop))))))))))))) (.must false (.must false (.must true (.reck 10 (.fork .stop .stop)))))))))))))))))) (.must false (.must false (.must false (.must false (.must true .stop))))))))) (.must false (.must false (.must true .stop)))))))) (.must false (.must false (.must false (.must true .stop))))) .stop))) .stop)
theorem s10_is (nl : Bool) (n : Nat) (f : Nat → Nat → AV) (bl : Int) (i : Nat) : s10 nl n f bl i s10_p = (cond (decide ((↑i : Int) < (↑n : Int)))
 (cond (decide ((↑i : Int) < (↑n : Int))) (cond (Nat.blt (0 + Int.toNat (↑i : Int)) n)
 (cond (decide (AV.toI (f (0 + Int.toNat (↑i : Int)) (3)) < 1) == false)
 (cond (decide (AV.toI (f (0 + Int.toNat (↑i : Int)) (3)) < 1) == false) (cond (decide (AV.toI (f (0 + Int.toNat (↑i : Int)) (3)) < 1) == false) (cond (decide (AV.toI (f (0 + Int.toNat (↑i : Int)) (3)) < 1) == false) (cond (decide (AV.toI (f (0 + Int.toNat (↑i : Int)) (3)) < 1)) none (cond (decide (IntKind.wrap IntKind.u64 (IntKind.wrap IntKind.u64 (AV.toI (f (0 + Int.toNat (↑i : Int)) (2))) + IntKind.wrap IntKind.u64 (AV.toI (f (0 + Int.toNat (↑i : Int)) (3)))) > IntKind.wrap IntKind.u64 bl) == false)
 (cond (decide (IntKind.wrap IntKind.u64 (IntKind.wrap IntKind.u64 (AV.toI (f (0 + Int.toNat (↑i : Int)) (2))) + IntKind.wrap IntKind.u64 (AV.toI (f (0 + Int.toNat (↑i : Int)) (3)))) > IntKind.wrap IntKind.u64 bl) == false) (cond (decide (IntKind.wrap IntKind.u64 (IntKind.wrap IntKind.u64 (AV.toI (f (0 + Int.toNat (↑i : Int)) (2))) + IntKind.wrap IntKind.u64 (AV.toI (f (0 + Int.toNat (↑i : Int)) (3)))) > IntKind.wrap IntKind.u64 bl) == false) (cond (decide (IntKind.wrap IntKind.u64 (IntKind.wrap IntKind.u64 (AV.toI (f (0 + Int.toNat (↑i : Int)) (2))) + IntKind.wrap IntKind.u64 (AV.toI (f (0 + Int.toNat (↑i : Int)) (3)))) > IntKind.wrap IntKind.u64 bl)) none (cond (decide (AV.toI (f (0 + Int.toNat (↑i : Int)) (5)) < 0) == false)
 (cond (decide (AV.toI (f (0 + Int.toNat (↑i : Int)) (5)) < 0) == false) (cond (decide (AV.toI (f (0 + Int.toNat (↑i : Int)) (5)) < 0) == false) (cond (decide (AV.toI (f (0 + Int.toNat (↑i : Int)) (5)) < 0) == false) (cond ((AV.toI (f (0 + Int.toNat (↑i : Int)) (6)) != 0) == true)
 (cond ((AV.toI (f (0 + Int.toNat (↑i : Int)) (6)) != 0) == true) (cond ((AV.toI (f (0 + Int.toNat (↑i : Int)) (6)) != 0) == true) (cond ((AV.toI (f (0 + Int.toNat (↑i : Int)) (6)) != 0) == true) (cond ((AV.toI (f (0 + Int.toNat (↑i : Int)) (6)) != 0) == true) (cond (decide (AV.toI (f (0 + Int.toNat (↑i : Int)) (5)) < 0) == false) (cond (AV.toI (f (0 + Int.toNat (↑i : Int)) (6)) != 0) (cond (decide (AV.toI (f (0 + Int.toNat (↑i : Int)) (5)) < 0)) none (cond (decide (AV.toI (f (0 + Int.toNat (↑i : Int)) (6)) ≤ AV.toI (f (0 + Int.toNat (↑i : Int)) (5))))
 (some (2, (CS.mk [(AV.bool (false))] [])))
 (cond (AV.toB (f (0 + Int.toNat (↑i : Int)) (1)) == false)
 (cond (AV.toB (f (0 + Int.toNat (↑i : Int)) (1)) == false) (cond (AV.toB (f (0 + Int.toNat (↑i : Int)) (1)) == false) (cond (AV.toB (f (0 + Int.toNat (↑i : Int)) (1))) none (cond ((AV.toI (f (0 + Int.toNat (↑i : Int)) (6)) != 0) == true) (cond ((AV.toI (f (0 + Int.toNat (↑i : Int)) (6)) != 0) == true) (cond ((AV.toI (f (0 + Int.toNat (↑i : Int)) (6)) != 0) == true) (cond ((AV.toI (f (0 + Int.toNat (↑i : Int)) (6)) != 0) == true) (cond ((AV.toI (f (0 + Int.toNat (↑i : Int)) (6)) != 0) == true) (cond ((AV.toI (f (0 + Int.toNat (↑i : Int)) (6)) != 0) == true) (cond ((AV.toI (f (0 + Int.toNat (↑i : Int)) (6)) != 0) == true) (cond ((AV.toI (f (0 + Int.toNat (↑i : Int)) (6)) != 0) == true) (cond ((AV.toI (f (0 + Int.toNat (↑i : Int)) (6)) != 0) == true) (cond (AV.toI (f (0 + Int.toNat (↑i : Int)) (6)) != 0) (cond ((↑(List.length (AV.toS (f (0 + Int.toNat (↑i : Int)) (4)))) : Int) != IntKind.wrap IntKind.i64 (8 * IntKind.wrap IntKind.i64 (AV.toI (f (0 + Int.toNat (↑i : Int)) (3)))))
 (some (2, (CS.mk [(AV.bool (false))] [])))
 (some (0, (CS.mk [(AV.osl (nl) (0) (0) (n) (n) (8) (true)), (AV.int IntKind.u32 (bl)), (AV.int IntKind.i64 (IntKind.wrap IntKind.i64 ((↑i : Int) + 1)))] [some (AObj.tarr shO (n) f false)])))) none) none) none) none) none) none) none) none) none) none)) none) none)
 (cond (AV.toB (f (0 + Int.toNat (↑i : Int)) (1)) == false) none (cond (AV.toB (f (0 + Int.toNat (↑i : Int)) (1)) == false) none (cond (AV.toB (f (0 + Int.toNat (↑i : Int)) (1))) (cond ((↑(List.length (AV.toS (f (0 + Int.toNat (↑i : Int)) (4)))) : Int) != IntKind.wrap IntKind.i64 (8 * IntKind.wrap IntKind.i64 (AV.toI (f (0 + Int.toNat (↑i : Int)) (3)))))
 (some (2, (CS.mk [(AV.bool (false))] [])))
 (some (0, (CS.mk [(AV.osl (nl) (0) (0) (n) (n) (8) (true)), (AV.int IntKind.u32 (bl)), (AV.int IntKind.i64 (IntKind.wrap IntKind.i64 ((↑i : Int) + 1)))] [some (AObj.tarr shO (n) f false)])))) none)))))) none) none) none) none) none) none)
 (cond ((AV.toI (f (0 + Int.toNat (↑i : Int)) (6)) != 0) == true) none (cond ((AV.toI (f (0 + Int.toNat (↑i : Int)) (6)) != 0) == true) none (cond ((AV.toI (f (0 + Int.toNat (↑i : Int)) (6)) != 0) == true) none (cond ((AV.toI (f (0 + Int.toNat (↑i : Int)) (6)) != 0) == true) none (cond (decide (AV.toI (f (0 + Int.toNat (↑i : Int)) (5)) < 0) == false) (cond (AV.toI (f (0 + Int.toNat (↑i : Int)) (6)) != 0) none (cond (decide (AV.toI (f (0 + Int.toNat (↑i : Int)) (5)) < 0)) none (cond (AV.toB (f (0 + Int.toNat (↑i : Int)) (1)) == false)
 (cond (AV.toB (f (0 + Int.toNat (↑i : Int)) (1)) == false) (cond (AV.toB (f (0 + Int.toNat (↑i : Int)) (1)) == false) (cond (AV.toB (f (0 + Int.toNat (↑i : Int)) (1))) none (cond ((AV.toI (f (0 + Int.toNat (↑i : Int)) (6)) != 0) == true) none (cond ((AV.toI (f (0 + Int.toNat (↑i : Int)) (6)) != 0) == true) none (cond ((AV.toI (f (0 + Int.toNat (↑i : Int)) (6)) != 0) == true) none (cond ((AV.toI (f (0 + Int.toNat (↑i : Int)) (6)) != 0) == true) none (cond ((AV.toI (f (0 + Int.toNat (↑i : Int)) (6)) != 0) == true) none (cond ((AV.toI (f (0 + Int.toNat (↑i : Int)) (6)) != 0) == true) none (cond ((AV.toI (f (0 + Int.toNat (↑i : Int)) (6)) != 0) == true) none (cond ((AV.toI (f (0 + Int.toNat (↑i : Int)) (6)) != 0) == true) none (cond ((AV.toI (f (0 + Int.toNat (↑i : Int)) (6)) != 0) == true) none (cond (AV.toI (f (0 + Int.toNat (↑i : Int)) (6)) != 0) none (some (0, (CS.mk [(AV.osl (nl) (0) (0) (n) (n) (8) (true)), (AV.int IntKind.u32 (bl)), (AV.int IntKind.i64 (IntKind.wrap IntKind.i64 ((↑i : Int) + 1)))] [some (AObj.tarr shO (n) f false)])))))))))))))) none) none)
 (cond (AV.toB (f (0 + Int.toNat (↑i : Int)) (1)) == false) none (cond (AV.toB (f (0 + Int.toNat (↑i : Int)) (1)) == false) none (cond (AV.toB (f (0 + Int.toNat (↑i : Int)) (1))) (cond ((↑(List.length (AV.toS (f (0 + Int.toNat (↑i : Int)) (4)))) : Int) != IntKind.wrap IntKind.i64 (8 * IntKind.wrap IntKind.i64 (AV.toI (f (0 + Int.toNat (↑i : Int)) (3)))))
 (some (2, (CS.mk [(AV.bool (false))] [])))
 (some (0, (CS.mk [(AV.osl (nl) (0) (0) (n) (n) (8) (true)), (AV.int IntKind.u32 (bl)), (AV.int IntKind.i64 (IntKind.wrap IntKind.i64 ((↑i : Int) + 1)))] [some (AObj.tarr shO (n) f false)])))) none)))))) none)))))) none) none) none)
 (cond (decide (AV.toI (f (0 + Int.toNat (↑i : Int)) (5)) < 0) == false) none (cond (decide (AV.toI (f (0 + Int.toNat (↑i : Int)) (5)) < 0) == false) none (cond (decide (AV.toI (f (0 + Int.toNat (↑i : Int)) (5)) < 0) == false) none (cond (decide (AV.toI (f (0 + Int.toNat (↑i : Int)) (5)) < 0) == false) none (cond (decide (AV.toI (f (0 + Int.toNat (↑i : Int)) (5)) < 0)) (some (2, (CS.mk [(AV.bool (false))] []))) none))))))) none) none)
 (cond (decide (IntKind.wrap IntKind.u64 (IntKind.wrap IntKind.u64 (AV.toI (f (0 + Int.toNat (↑i : Int)) (2))) + IntKind.wrap IntKind.u64 (AV.toI (f (0 + Int.toNat (↑i : Int)) (3)))) > IntKind.wrap IntKind.u64 bl) == false) none (cond (decide (IntKind.wrap IntKind.u64 (IntKind.wrap IntKind.u64 (AV.toI (f (0 + Int.toNat (↑i : Int)) (2))) + IntKind.wrap IntKind.u64 (AV.toI (f (0 + Int.toNat (↑i : Int)) (3)))) > IntKind.wrap IntKind.u64 bl) == false) none (cond (decide (IntKind.wrap IntKind.u64 (IntKind.wrap IntKind.u64 (AV.toI (f (0 + Int.toNat (↑i : Int)) (2))) + IntKind.wrap IntKind.u64 (AV.toI (f (0 + Int.toNat (↑i : Int)) (3)))) > IntKind.wrap IntKind.u64 bl)) (some (2, (CS.mk [(AV.bool (false))] []))) none))))) none) none) none)
 (cond (decide (AV.toI (f (0 + Int.toNat (↑i : Int)) (3)) < 1) == false) none (cond (decide (AV.toI (f (0 + Int.toNat (↑i : Int)) (3)) < 1) == false) none (cond (decide (AV.toI (f (0 + Int.toNat (↑i : Int)) (3)) < 1) == false) none (cond (decide (AV.toI (f (0 + Int.toNat (↑i : Int)) (3)) < 1)) (some (2, (CS.mk [(AV.bool (false))] []))) none)))))
 none) none)
 (some (1, (CS.mk [] [])))) := by kernel_rfl
theorem s10_eq (nl : Bool) (n : Nat) (f : Nat → Nat → AV) (bl : Int) (i : Nat) : s10 nl n f bl i s10_p = (cond (decide ((↑i : Int) < (↑n : Int)))
 (cond (Nat.blt (0 + Int.toNat (↑i : Int)) n)
 (cond (decide (AV.toI (f (0 + Int.toNat (↑i : Int)) (3)) < 1))
 (some (2, (CS.mk [(AV.bool (false))] [])))
 (cond (decide (IntKind.wrap IntKind.u64 (IntKind.wrap IntKind.u64 (AV.toI (f (0 + Int.toNat (↑i : Int)) (2))) + IntKind.wrap IntKind.u64 (AV.toI (f (0 + Int.toNat (↑i : Int)) (3)))) > IntKind.wrap IntKind.u64 bl))
 (some (2, (CS.mk [(AV.bool (false))] [])))
 (cond (decide (AV.toI (f (0 + Int.toNat (↑i : Int)) (5)) < 0))
 (some (2, (CS.mk [(AV.bool (false))] [])))
 (cond (AV.toI (f (0 + Int.toNat (↑i : Int)) (6)) != 0)
 (cond (decide (AV.toI (f (0 + Int.toNat (↑i : Int)) (6)) ≤ AV.toI (f (0 + Int.toNat (↑i : Int)) (5))))
 (some (2, (CS.mk [(AV.bool (false))] [])))
 (cond (AV.toB (f (0 + Int.toNat (↑i : Int)) (1)))
 (cond ((↑(List.length (AV.toS (f (0 + Int.toNat (↑i : Int)) (4)))) : Int) != IntKind.wrap IntKind.i64 (8 * IntKind.wrap IntKind.i64 (AV.toI (f (0 + Int.toNat (↑i : Int)) (3)))))
 (some (2, (CS.mk [(AV.bool (false))] [])))
 (some (0, (CS.mk [(AV.osl (nl) (0) (0) (n) (n) (8) (true)), (AV.int IntKind.u32 (bl)), (AV.int IntKind.i64 (IntKind.wrap IntKind.i64 ((↑i : Int) + 1)))] [some (AObj.tarr shO (n) f false)]))))
 (cond ((↑(List.length (AV.toS (f (0 + Int.toNat (↑i : Int)) (4)))) : Int) != IntKind.wrap IntKind.i64 (8 * IntKind.wrap IntKind.i64 (AV.toI (f (0 + Int.toNat (↑i : Int)) (3)))))
 (some (2, (CS.mk [(AV.bool (false))] [])))
 (some (0, (CS.mk [(AV.osl (nl) (0) (0) (n) (n) (8) (true)), (AV.int IntKind.u32 (bl)), (AV.int IntKind.i64 (IntKind.wrap IntKind.i64 ((↑i : Int) + 1)))] [some (AObj.tarr shO (n) f false)]))))))
 (cond (AV.toB (f (0 + Int.toNat (↑i : Int)) (1)))
 (cond ((↑(List.length (AV.toS (f (0 + Int.toNat (↑i : Int)) (4)))) : Int) != IntKind.wrap IntKind.i64 (8 * IntKind.wrap IntKind.i64 (AV.toI (f (0 + Int.toNat (↑i : Int)) (3)))))
 (some (2, (CS.mk [(AV.bool (false))] [])))
 (some (0, (CS.mk [(AV.osl (nl) (0) (0) (n) (n) (8) (true)), (AV.int IntKind.u32 (bl)), (AV.int IntKind.i64 (IntKind.wrap IntKind.i64 ((↑i : Int) + 1)))] [some (AObj.tarr shO (n) f false)]))))
 (some (0, (CS.mk [(AV.osl (nl) (0) (0) (n) (n) (8) (true)), (AV.int IntKind.u32 (bl)), (AV.int IntKind.i64 (IntKind.wrap IntKind.i64 ((↑i : Int) + 1)))] [some (AObj.tarr shO (n) f false)]))))))))
 none)
 (some (1, (CS.mk [] [])))) := by
 rw [s10_is]
 try simp only [eq_self, decide_true, beq_self_eq_true, Nat.beq_refl, ble_self, Int.le_refl, Nat.le_refl]
 cases (decide ((↑i : Int) < (↑n : Int))) with
 | true =>
   cases (Nat.blt (0 + Int.toNat (↑i : Int)) n) with
   | true =>
     cases (decide (AV.toI (f (0 + Int.toNat (↑i : Int)) (3)) < 1)) with
     | true =>
       rfl
     | false =>
       cases (decide (IntKind.wrap IntKind.u64 (IntKind.wrap IntKind.u64 (AV.toI (f (0 + Int.toNat (↑i : Int)) (2))) + IntKind.wrap IntKind.u64 (AV.toI (f (0 + Int.toNat (↑i : Int)) (3)))) > IntKind.wrap IntKind.u64 bl)) with
       | true =>
         rfl
       | false =>
         cases (decide (AV.toI (f (0 + Int.toNat (↑i : Int)) (5)) < 0)) with
         | true =>
           rfl
         | false =>
           cases (AV.toI (f (0 + Int.toNat (↑i : Int)) (6)) != 0) with
           | true =>
             cases (decide (AV.toI (f (0 + Int.toNat (↑i : Int)) (6)) ≤ AV.toI (f (0 + Int.toNat (↑i : Int)) (5)))) with
             | true =>
               rfl
             | false =>
               cases (AV.toB (f (0 + Int.toNat (↑i : Int)) (1))) with
               | true =>
                 cases ((↑(List.length (AV.toS (f (0 + Int.toNat (↑i : Int)) (4)))) : Int) != IntKind.wrap IntKind.i64 (8 * IntKind.wrap IntKind.i64 (AV.toI (f (0 + Int.toNat (↑i : Int)) (3))))) with
                 | true =>
                   rfl
                 | false =>
                   rfl
               | false =>
                 cases ((↑(List.length (AV.toS (f (0 + Int.toNat (↑i : Int)) (4)))) : Int) != IntKind.wrap IntKind.i64 (8 * IntKind.wrap IntKind.i64 (AV.toI (f (0 + Int.toNat (↑i : Int)) (3))))) with
                 | true =>
                   rfl
                 | false =>
                   rfl
           | false =>
             cases (AV.toB (f (0 + Int.toNat (↑i : Int)) (1))) with
             | true =>
               cases ((↑(List.length (AV.toS (f (0 + Int.toNat (↑i : Int)) (4)))) : Int) != IntKind.wrap IntKind.i64 (8 * IntKind.wrap IntKind.i64 (AV.toI (f (0 + Int.toNat (↑i : Int)) (3))))) with
               | true =>
                 rfl
               | false =>
                 rfl
             | false =>
               rfl
   | false =>
     rfl
 | false =>
   rfl
noncomputable def k9 (nl : Bool) (n : Nat) (f : Nat → Nat → AV) (bl : Int) (π : Plan) : Option CS := callC (E8) (1500) (9) (0) (.keep) ([]) π (a9 nl n f bl)
def k9_p : Plan := (.fork (.must true (.must false (.fork (.must true (.must false (.fork .stop (.must true (.must true (.reck 2 (.must true (.fork (.fork (.must true (.must true (.fork .stop .stop))) .stop) .stop)))))))) (.must false (.must true .stop))))) (.must false (.must true .stop)))
theorem k9_is (nl : Bool) (n : Nat) (f : Nat → Nat → AV) (bl : Int) : k9 nl n f bl k9_p = (cond (decide ((↑n : Int) > 16) == false)
 (cond (decide ((↑n : Int) > 16) == false) (cond (decide ((↑n : Int) > 16)) none (cond (decide (bl < 1) == false)
 (cond (decide (bl < 1) == false) (cond (decide (bl < 1)) none (cond (decide (bl > 64))
 (some (CS.mk [(AV.bool (false))] []))
 (cond (decide (n = n)) (cond (decide ((↑n : Int) = (↑n : Int))) (cond (decide (n = n)) (cond (Nat.ble n 1000)
 (cond ((rngV f (n)))
 (cond (!decide (bl < 1)) (cond (!decide (bl > 64)) (cond ((okGV (bl) f (n)))
 (some (CS.mk [(AV.bool (true))] []))
 (some (CS.mk [(AV.bool (false))] []))) none) none)
 none)
 none) none) none) none))) none)
 (cond (decide (bl < 1) == false) none (cond (decide (bl < 1)) (some (CS.mk [(AV.bool (false))] [])) none)))) none)
 (cond (decide ((↑n : Int) > 16) == false) none (cond (decide ((↑n : Int) > 16)) (some (CS.mk [(AV.bool (false))] [])) none))) := by kernel_rfl
theorem k9_eq (nl : Bool) (n : Nat) (f : Nat → Nat → AV) (bl : Int) : k9 nl n f bl k9_p = (cond (decide ((↑n : Int) > 16))
 (some (CS.mk [(AV.bool (false))] []))
 (cond (decide (bl < 1))
 (some (CS.mk [(AV.bool (false))] []))
 (cond (decide (bl > 64))
 (some (CS.mk [(AV.bool (false))] []))
 (cond (Nat.ble n 1000)
 (cond (rngV f (n))
 (cond (okGV (bl) f (n))
 (some (CS.mk [(AV.bool (true))] []))
 (some (CS.mk [(AV.bool (false))] [])))
 none)
 none)))) := by
 rw [k9_is]
 try simp only [eq_self, decide_true, beq_self_eq_true, Nat.beq_refl, ble_self, Int.le_refl, Nat.le_refl]
 cases (decide ((↑n : Int) > 16)) with
 | true =>
   rfl
 | false =>
   cases (decide (bl < 1)) with
   | true =>
     rfl
   | false =>
     cases (decide (bl > 64)) with
     | true =>
       rfl
     | false =>
       cases (Nat.ble n 1000) with
       | true =>
         cases (rngV f (n)) with
         | true =>
           cases (okGV (bl) f (n)) with
           | true =>
             rfl
           | false =>
             rfl
         | false =>
           rfl
       | false =>
         rfl
noncomputable def k10 (nl : Bool) (n : Nat) (f : Nat → Nat → AV) (bl : Int) (π : Plan) : Option CS := callC (E8) (1500) (10) (0) (.keep) ([]) π (a9 nl n f bl)
def k10_p : Plan := (.fork (.must true (.must false (.fork (.must true (.must false (.fork .stop (.must true (.reck 2 (.must true (.fork (.fork (.must true (.must true (.fork .stop .stop))) .stop) .stop))))))) (.must false (.must true .stop))))) (.must false (.must true .stop)))
theorem k10_is (nl : Bool) (n : Nat) (f : Nat → Nat → AV) (bl : Int) : k10 nl n f bl k10_p = (cond (decide ((↑n : Int) > 16) == false)
 (cond (decide ((↑n : Int) > 16) == false) (cond (decide ((↑n : Int) > 16)) none (cond (decide (bl < 1) == false)
 (cond (decide (bl < 1) == false) (cond (decide (bl < 1)) none (cond (decide (bl > 64))
 (some (CS.mk [(AV.bool (false))] []))
 (cond (decide (n = n)) (cond (decide (n = n)) (cond (Nat.ble n 1000)
 (cond ((rngV f (n)))
 (cond (!decide (bl < 1)) (cond (!decide (bl > 64)) (cond ((okGV (bl) f (n)))
 (some (CS.mk [(AV.bool (true))] []))
 (some (CS.mk [(AV.bool (false))] []))) none) none)
 none)
 none) none) none))) none)
 (cond (decide (bl < 1) == false) none (cond (decide (bl < 1)) (some (CS.mk [(AV.bool (false))] [])) none)))) none)
 (cond (decide ((↑n : Int) > 16) == false) none (cond (decide ((↑n : Int) > 16)) (some (CS.mk [(AV.bool (false))] [])) none))) := by kernel_rfl
theorem k10_eq (nl : Bool) (n : Nat) (f : Nat → Nat → AV) (bl : Int) : k10 nl n f bl k10_p = (cond (decide ((↑n : Int) > 16))
 (some (CS.mk [(AV.bool (false))] []))
 (cond (decide (bl < 1))
 (some (CS.mk [(AV.bool (false))] []))
 (cond (decide (bl > 64))
 (some (CS.mk [(AV.bool (false))] []))
 (cond (Nat.ble n 1000)
 (cond (rngV f (n))
 (cond (okGV (bl) f (n))
 (some (CS.mk [(AV.bool (true))] []))
 (some (CS.mk [(AV.bool (false))] [])))
 none)
 none)))) := by
 rw [k10_is]
 try simp only [eq_self, decide_true, beq_self_eq_true, Nat.beq_refl, ble_self, Int.le_refl, Nat.le_refl]
 cases (decide ((↑n : Int) > 16)) with
 | true =>
   rfl
 | false =>
   cases (decide (bl < 1)) with
   | true =>
     rfl
   | false =>
     cases (decide (bl > 64)) with
     | true =>
       rfl
     | false =>
       cases (Nat.ble n 1000) with
       | true =>
         cases (rngV f (n)) with
         | true =>
           cases (okGV (bl) f (n)) with
           | true =>
             rfl
           | false =>
             rfl
         | false =>
           rfl
       | false =>
         rfl
noncomputable def s11 (ct : Nat) (nl : Bool) (n : Nat) (f : Nat → Nat → AV) (i : Nat) (π : Plan) : Option (Nat × CS) := stepC (E9) (400) (loopC E9 11 0) (0) (h11) ((.normal, h11) :: x11) π (c11 ct nl n f i)
def s11_p : Plan := (.fork (.reck 1 (.must true (.fork (.fork (.must true (.must true (.must true (.fork .stop .stop)))) (.must false (.must false (.must false .stop)))) .stop))) .stop)
theorem s11_is (ct : Nat) (nl : Bool) (n : Nat) (f : Nat → Nat → AV) (i : Nat) : s11 ct nl n f i s11_p = (cond (decide ((↑i : Int) < (↑n : Int)))
 (cond (decide ((↑i : Int) < (↑n : Int))) (cond (Nat.blt (0 + Int.toNat (↑i : Int)) n)
 (cond (AV.toB (f (0 + Int.toNat (↑i : Int)) (1)) == true)
 (cond (AV.toB (f (0 + Int.toNat (↑i : Int)) (1)) == true) (cond (AV.toB (f (0 + Int.toNat (↑i : Int)) (1)) == true) (cond (AV.toB (f (0 + Int.toNat (↑i : Int)) (1))) (cond (!AV.toB (f (0 + Int.toNat (↑i : Int)) (7)))
 (some (0, (CS.mk [(AV.int IntKind.i64 (IntKind.wrap IntKind.i64 ((↑ct : Int) + 1))), (AV.osl (nl) (0) (0) (n) (n) (8) (true)), (AV.int IntKind.i64 ((↑n : Int))), (AV.int IntKind.i64 (IntKind.wrap IntKind.i64 ((↑i : Int) + 1)))] [some (AObj.tarr shO (n) f false)])))
 (some (0, (CS.mk [(AV.int IntKind.i64 ((↑ct : Int))), (AV.osl (nl) (0) (0) (n) (n) (8) (true)), (AV.int IntKind.i64 ((↑n : Int))), (AV.int IntKind.i64 (IntKind.wrap IntKind.i64 ((↑i : Int) + 1)))] [some (AObj.tarr shO (n) f false)])))) none) none) none)
 (cond (AV.toB (f (0 + Int.toNat (↑i : Int)) (1)) == true) none (cond (AV.toB (f (0 + Int.toNat (↑i : Int)) (1)) == true) none (cond (AV.toB (f (0 + Int.toNat (↑i : Int)) (1))) none (some (0, (CS.mk [(AV.int IntKind.i64 ((↑ct : Int))), (AV.osl (nl) (0) (0) (n) (n) (8) (true)), (AV.int IntKind.i64 ((↑n : Int))), (AV.int IntKind.i64 (IntKind.wrap IntKind.i64 ((↑i : Int) + 1)))] [some (AObj.tarr shO (n) f false)])))))))
 none) none)
 (some (1, (CS.mk [(AV.int IntKind.i64 ((↑ct : Int)))] [])))) := by kernel_rfl
theorem s11_eq (ct : Nat) (nl : Bool) (n : Nat) (f : Nat → Nat → AV) (i : Nat) : s11 ct nl n f i s11_p = (cond (decide ((↑i : Int) < (↑n : Int)))
 (cond (Nat.blt (0 + Int.toNat (↑i : Int)) n)
 (cond (AV.toB (f (0 + Int.toNat (↑i : Int)) (1)))
 (cond (AV.toB (f (0 + Int.toNat (↑i : Int)) (7)))
 (some (0, (CS.mk [(AV.int IntKind.i64 ((↑ct : Int))), (AV.osl (nl) (0) (0) (n) (n) (8) (true)), (AV.int IntKind.i64 ((↑n : Int))), (AV.int IntKind.i64 (IntKind.wrap IntKind.i64 ((↑i : Int) + 1)))] [some (AObj.tarr shO (n) f false)])))
 (some (0, (CS.mk [(AV.int IntKind.i64 (IntKind.wrap IntKind.i64 ((↑ct : Int) + 1))), (AV.osl (nl) (0) (0) (n) (n) (8) (true)), (AV.int IntKind.i64 ((↑n : Int))), (AV.int IntKind.i64 (IntKind.wrap IntKind.i64 ((↑i : Int) + 1)))] [some (AObj.tarr shO (n) f false)]))))
 (some (0, (CS.mk [(AV.int IntKind.i64 ((↑ct : Int))), (AV.osl (nl) (0) (0) (n) (n) (8) (true)), (AV.int IntKind.i64 ((↑n : Int))), (AV.int IntKind.i64 (IntKind.wrap IntKind.i64 ((↑i : Int) + 1)))] [some (AObj.tarr shO (n) f false)]))))
 none)
 (some (1, (CS.mk [(AV.int IntKind.i64 ((↑ct : Int)))] [])))) := by
 rw [s11_is]
 try simp only [eq_self, decide_true, beq_self_eq_true, Nat.beq_refl, ble_self, Int.le_refl, Nat.le_refl]
 cases (decide ((↑i : Int) < (↑n : Int))) with
 | true =>
   cases (Nat.blt (0 + Int.toNat (↑i : Int)) n) with
   | true =>
     cases (AV.toB (f (0 + Int.toNat (↑i : Int)) (1))) with
     | true =>
       cases (AV.toB (f (0 + Int.toNat (↑i : Int)) (7))) with
       | true =>
         rfl
       | false =>
         rfl
     | false =>
       rfl
   | false =>
     rfl
 | false =>
   rfl
noncomputable def k11 (nl : Bool) (n : Nat) (f : Nat → Nat → AV) (π : Plan) : Option CS := callC (EA) (1500) (11) (0) (.keep) ([]) π (a7 nl n f)
def k11_p : Plan := (.reck 1 (.must true (.must true (.reck 2 (.must true (.fork .stop .stop))))))
theorem k11_is (nl : Bool) (n : Nat) (f : Nat → Nat → AV) : k11 nl n f k11_p = (cond (decide (n = n)) (cond (decide ((↑n : Int) = (↑n : Int))) (cond (decide (n = n)) (cond (Nat.ble n 1000)
 (some (CS.mk [(AV.int IntKind.i64 ((↑(cntV f n) : Int)))] []))
 none) none) none) none) := by kernel_rfl
theorem k11_eq (nl : Bool) (n : Nat) (f : Nat → Nat → AV) : k11 nl n f k11_p = (cond (Nat.ble n 1000)
 (some (CS.mk [(AV.int IntKind.i64 ((↑(cntV f n) : Int)))] []))
 none) := by
 rw [k11_is]
 try simp only [eq_self, decide_true, beq_self_eq_true, Nat.beq_refl, ble_self, Int.le_refl, Nat.le_refl]
 cases (Nat.ble n 1000) with
 | true =>
   rfl
 | false =>
   rfl
noncomputable def s12 (bl : Int) (nl : Bool) (n : Nat) (f : Nat → Nat → AV) (m : Nat) (g : Nat → Nat → AV) (mu : Nat) (zc : Nat) (i : Nat) (π : Plan) : Option (Nat × CS) := stepC (EB) (400) (loopC EB 12 0) (0) (h12) ((.normal, h12) :: x12) π (c12 bl nl n f m g mu zc i)
def s12_p : Plan := (.fork (.reck 1 (.must true (.fork (.fork (.must true (.must true (.must true (.fork (.must true (.must true (.must true (.must true (.must false (.fork .stop (.fork (.reck 1 (.must true (.reck 2 (.must true (.must true (.must true (.reck 1 (.must false (.fork (.fork (.must true (.must true (.must true (.must true (.must true (.must true (.must true (.must true (.reck 2 (.must true (.must true .stop))))))))))) .stop) .stop))))))))) (.reck 1 (.must false (.fork (.fork (.must true (.must true (.must true (.must true (.must true (.must true (.must true (.must true (.reck 2 (.must true (.must true .stop))))))))))) .stop) .stop)))))))))) (.must false (.must false (.must true (.must false (.must false (.reck 1 (.fork (.reck 1 (.must true (.reck 2 (.must true (.must true (.must true (.reck 1 (.must false (.fork (.fork (.must true (.must true (.must true (.must true (.must true (.must true (.must true (.must true (.reck 2 (.must true (.must true .stop))))))))))) .stop) .stop))))))))) (.reck 1 (.must false (.fork (.fork (.must true (.must true (.must true (.must true (.must true (.must true (.must true (.must true (.reck 2 (.must true (.must true .stop))))))))))) .stop) .stop)))))))))))))) (.must false (.must false (.must false (.must false (.must true .stop)))))) .stop))) .stop)
theorem s12_is (bl : Int) (nl : Bool) (n : Nat) (f : Nat → Nat → AV) (m : Nat) (g : Nat → Nat → AV) (mu : Nat) (zc : Nat) (i : Nat) : s12 bl nl n f m g mu zc i s12_p = (cond (decide ((↑i : Int) < (↑n : Int)))
 (cond (decide ((↑i : Int) < (↑n : Int))) (cond (Nat.blt (0 + Int.toNat (↑i : Int)) n)
 (cond (AV.toB (f (0 + Int.toNat (↑i : Int)) (7)) == false)
 (cond (AV.toB (f (0 + Int.toNat (↑i : Int)) (7)) == false) (cond (AV.toB (f (0 + Int.toNat (↑i : Int)) (7)) == false) (cond (AV.toB (f (0 + Int.toNat (↑i : Int)) (7)) == false) (cond ((!AV.toB (f (0 + Int.toNat (↑i : Int)) (1))) == true)
 (cond ((!AV.toB (f (0 + Int.toNat (↑i : Int)) (1))) == true) (cond ((!AV.toB (f (0 + Int.toNat (↑i : Int)) (1))) == true) (cond (AV.toB (f (0 + Int.toNat (↑i : Int)) (7)) == false) (cond (!AV.toB (f (0 + Int.toNat (↑i : Int)) (1))) (cond (AV.toB (f (0 + Int.toNat (↑i : Int)) (7))) none (cond (AV.toI (f (0 + Int.toNat (↑i : Int)) (6)) == 0)
 (some (0, (CS.mk [(AV.int IntKind.u32 (bl)), (AV.ptr (0) (0)), (AV.osl (nl) (1) (0) (n) (n) (8) (true)), (AV.int IntKind.i64 ((↑n : Int))), (AV.int IntKind.i64 (IntKind.wrap IntKind.i64 ((↑i : Int) + 1)))] [some (AObj.cells [(AV.osl (false) (2) (0) (m) (m) (8) (true)), (AV.int IntKind.u32 ((↑mu : Int))), (AV.map (3))] true), some (AObj.tarr shO (n) f false), some (AObj.tarr shO (m) g true), some (AObj.map [] (zc))])))
 (cond (AV.toI (f (0 + Int.toNat (↑i : Int)) (6)) != 0)
 (cond (decide ((↑m : Int) = (↑m : Int))) (cond (Nat.beq m m) (cond (Nat.beq m m) (cond (decide ((↑mu : Int) = (↑mu : Int))) (cond (Nat.ble ((m) + (1)) (m)) none (cond (growB (64) (m + 1))
 (cond (Nat.ble (0 + m) m)
 (cond (decide (AV.toI (f (0 + Int.toNat (↑i : Int)) 0) = AV.toI (f (0 + Int.toNat (↑i : Int)) 0))) (cond (AV.toB (f (0 + Int.toNat (↑i : Int)) (1)) == AV.toB (f (0 + Int.toNat (↑i : Int)) (1))) (cond (decide (AV.toI (f (0 + Int.toNat (↑i : Int)) (2)) = AV.toI (f (0 + Int.toNat (↑i : Int)) (2)))) (cond (decide (AV.toI (f (0 + Int.toNat (↑i : Int)) (3)) = AV.toI (f (0 + Int.toNat (↑i : Int)) (3)))) (cond (AV.toS (f (0 + Int.toNat (↑i : Int)) (4)) == AV.toS (f (0 + Int.toNat (↑i : Int)) (4))) (cond (decide (AV.toI (f (0 + Int.toNat (↑i : Int)) (5)) = AV.toI (f (0 + Int.toNat (↑i : Int)) (5)))) (cond (decide (AV.toI (f (0 + Int.toNat (↑i : Int)) (6)) = AV.toI (f (0 + Int.toNat (↑i : Int)) (6)))) (cond (AV.toB (f (0 + Int.toNat (↑i : Int)) (7)) == AV.toB (f (0 + Int.toNat (↑i : Int)) (7))) (cond (Nat.beq m m) (cond (Nat.beq m m) (some (0, (CS.mk [(AV.int IntKind.u32 (bl)), (AV.ptr (0) (0)), (AV.osl (nl) (1) (0) (n) (n) (8) (true)), (AV.int IntKind.i64 ((↑n : Int))), (AV.int IntKind.i64 (IntKind.wrap IntKind.i64 ((↑i : Int) + 1)))] [some (AObj.cells [(AV.osl (false) (2) (0) (m + 1) (m + 1) (8) (true)), (AV.int IntKind.u32 (Env.bits EB BinOp.or IntKind.u32 (↑mu : Int) (IntKind.wrap IntKind.u32 (1 * 2 ^ min (Int.toNat (↑m : Int)) (IntKind.bits IntKind.u32))))), (AV.map (3))] true), some (AObj.tarr shO (n) f false), some (AObj.tarr shO (m + 1) (fjoin (fun p_ q_ => g (0 + p_) q_) (m) (rowsOf (8) [(AV.int IntKind.u64 (AV.toI (f (0 + Int.toNat (↑i : Int)) 0))), (AV.bool (AV.toB (f (0 + Int.toNat (↑i : Int)) (1)))), (AV.int IntKind.u32 (AV.toI (f (0 + Int.toNat (↑i : Int)) (2)))), (AV.int IntKind.u32 (AV.toI (f (0 + Int.toNat (↑i : Int)) (3)))), (AV.str (AV.toS (f (0 + Int.toNat (↑i : Int)) (4)))), (AV.int IntKind.i64 (AV.toI (f (0 + Int.toNat (↑i : Int)) (5)))), (AV.int IntKind.i64 (AV.toI (f (0 + Int.toNat (↑i : Int)) (6)))), (AV.bool (AV.toB (f (0 + Int.toNat (↑i : Int)) (7))))] (1))) true), some (AObj.map [] (zc))]))) none) none) none) none) none) none) none) none) none) none)
 none)
 none)) none) none) none) none)
 (cond (Nat.ble ((m) + (1)) (m)) none (cond (growB (64) (m + 1))
 (cond (Nat.ble (0 + m) m)
 (cond (decide (AV.toI (f (0 + Int.toNat (↑i : Int)) 0) = AV.toI (f (0 + Int.toNat (↑i : Int)) 0))) (cond (AV.toB (f (0 + Int.toNat (↑i : Int)) (1)) == AV.toB (f (0 + Int.toNat (↑i : Int)) (1))) (cond (decide (AV.toI (f (0 + Int.toNat (↑i : Int)) (2)) = AV.toI (f (0 + Int.toNat (↑i : Int)) (2)))) (cond (decide (AV.toI (f (0 + Int.toNat (↑i : Int)) (3)) = AV.toI (f (0 + Int.toNat (↑i : Int)) (3)))) (cond (AV.toS (f (0 + Int.toNat (↑i : Int)) (4)) == AV.toS (f (0 + Int.toNat (↑i : Int)) (4))) (cond (decide (AV.toI (f (0 + Int.toNat (↑i : Int)) (5)) = AV.toI (f (0 + Int.toNat (↑i : Int)) (5)))) (cond (decide (AV.toI (f (0 + Int.toNat (↑i : Int)) (6)) = AV.toI (f (0 + Int.toNat (↑i : Int)) (6)))) (cond (AV.toB (f (0 + Int.toNat (↑i : Int)) (7)) == AV.toB (f (0 + Int.toNat (↑i : Int)) (7))) (cond (Nat.beq m m) (cond (Nat.beq m m) (some (0, (CS.mk [(AV.int IntKind.u32 (bl)), (AV.ptr (0) (0)), (AV.osl (nl) (1) (0) (n) (n) (8) (true)), (AV.int IntKind.i64 ((↑n : Int))), (AV.int IntKind.i64 (IntKind.wrap IntKind.i64 ((↑i : Int) + 1)))] [some (AObj.cells [(AV.osl (false) (2) (0) (m + 1) (m + 1) (8) (true)), (AV.int IntKind.u32 ((↑mu : Int))), (AV.map (3))] true), some (AObj.tarr shO (n) f false), some (AObj.tarr shO (m + 1) (fjoin (fun p_ q_ => g (0 + p_) q_) (m) (rowsOf (8) [(AV.int IntKind.u64 (AV.toI (f (0 + Int.toNat (↑i : Int)) 0))), (AV.bool (AV.toB (f (0 + Int.toNat (↑i : Int)) (1)))), (AV.int IntKind.u32 (AV.toI (f (0 + Int.toNat (↑i : Int)) (2)))), (AV.int IntKind.u32 (AV.toI (f (0 + Int.toNat (↑i : Int)) (3)))), (AV.str (AV.toS (f (0 + Int.toNat (↑i : Int)) (4)))), (AV.int IntKind.i64 (AV.toI (f (0 + Int.toNat (↑i : Int)) (5)))), (AV.int IntKind.i64 (AV.toI (f (0 + Int.toNat (↑i : Int)) (6)))), (AV.bool (AV.toB (f (0 + Int.toNat (↑i : Int)) (7))))] (1))) true), some (AObj.map [] (zc))]))) none) none) none) none) none) none) none) none) none) none)
 none)
 none))))) none) none) none) none)
 (cond ((!AV.toB (f (0 + Int.toNat (↑i : Int)) (1))) == true) none (cond ((!AV.toB (f (0 + Int.toNat (↑i : Int)) (1))) == true) none (cond (AV.toB (f (0 + Int.toNat (↑i : Int)) (7)) == false) (cond (!AV.toB (f (0 + Int.toNat (↑i : Int)) (1))) none (cond (AV.toB (f (0 + Int.toNat (↑i : Int)) (7))) none (cond (AV.toI (f (0 + Int.toNat (↑i : Int)) (6)) != 0)
 (cond (decide ((↑m : Int) = (↑m : Int))) (cond (Nat.beq m m) (cond (Nat.beq m m) (cond (decide ((↑mu : Int) = (↑mu : Int))) (cond (Nat.ble ((m) + (1)) (m)) none (cond (growB (64) (m + 1))
 (cond (Nat.ble (0 + m) m)
 (cond (decide (AV.toI (f (0 + Int.toNat (↑i : Int)) 0) = AV.toI (f (0 + Int.toNat (↑i : Int)) 0))) (cond (AV.toB (f (0 + Int.toNat (↑i : Int)) (1)) == AV.toB (f (0 + Int.toNat (↑i : Int)) (1))) (cond (decide (AV.toI (f (0 + Int.toNat (↑i : Int)) (2)) = AV.toI (f (0 + Int.toNat (↑i : Int)) (2)))) (cond (decide (AV.toI (f (0 + Int.toNat (↑i : Int)) (3)) = AV.toI (f (0 + Int.toNat (↑i : Int)) (3)))) (cond (AV.toS (f (0 + Int.toNat (↑i : Int)) (4)) == AV.toS (f (0 + Int.toNat (↑i : Int)) (4))) (cond (decide (AV.toI (f (0 + Int.toNat (↑i : Int)) (5)) = AV.toI (f (0 + Int.toNat (↑i : Int)) (5)))) (cond (decide (AV.toI (f (0 + Int.toNat (↑i : Int)) (6)) = AV.toI (f (0 + Int.toNat (↑i : Int)) (6)))) (cond (AV.toB (f (0 + Int.toNat (↑i : Int)) (7)) == AV.toB (f (0 + Int.toNat (↑i : Int)) (7))) (cond (Nat.beq m m) (cond (Nat.beq m m) (some (0, (CS.mk [(AV.int IntKind.u32 (bl)), (AV.ptr (0) (0)), (AV.osl (nl) (1) (0) (n) (n) (8) (true)), (AV.int IntKind.i64 ((↑n : Int))), (AV.int IntKind.i64 (IntKind.wrap IntKind.i64 ((↑i : Int) + 1)))] [some (AObj.cells [(AV.osl (false) (2) (0) (m + 1) (m + 1) (8) (true)), (AV.int IntKind.u32 (Env.bits EB BinOp.or IntKind.u32 (↑mu : Int) (IntKind.wrap IntKind.u32 (1 * 2 ^ min (Int.toNat (↑m : Int)) (IntKind.bits IntKind.u32))))), (AV.map (3))] true), some (AObj.tarr shO (n) f false), some (AObj.tarr shO (m + 1) (fjoin (fun p_ q_ => g (0 + p_) q_) (m) (rowsOf (8) [(AV.int IntKind.u64 (AV.toI (f (0 + Int.toNat (↑i : Int)) 0))), (AV.bool (AV.toB (f (0 + Int.toNat (↑i : Int)) (1)))), (AV.int IntKind.u32 (AV.toI (f (0 + Int.toNat (↑i : Int)) (2)))), (AV.int IntKind.u32 (AV.toI (f (0 + Int.toNat (↑i : Int)) (3)))), (AV.str (AV.toS (f (0 + Int.toNat (↑i : Int)) (4)))), (AV.int IntKind.i64 (AV.toI (f (0 + Int.toNat (↑i : Int)) (5)))), (AV.int IntKind.i64 (AV.toI (f (0 + Int.toNat (↑i : Int)) (6)))), (AV.bool (AV.toB (f (0 + Int.toNat (↑i : Int)) (7))))] (1))) true), some (AObj.map [] (zc))]))) none) none) none) none) none) none) none) none) none) none)
 none)
 none)) none) none) none) none)
 (cond (Nat.ble ((m) + (1)) (m)) none (cond (growB (64) (m + 1))
 (cond (Nat.ble (0 + m) m)
 (cond (decide (AV.toI (f (0 + Int.toNat (↑i : Int)) 0) = AV.toI (f (0 + Int.toNat (↑i : Int)) 0))) (cond (AV.toB (f (0 + Int.toNat (↑i : Int)) (1)) == AV.toB (f (0 + Int.toNat (↑i : Int)) (1))) (cond (decide (AV.toI (f (0 + Int.toNat (↑i : Int)) (2)) = AV.toI (f (0 + Int.toNat (↑i : Int)) (2)))) (cond (decide (AV.toI (f (0 + Int.toNat (↑i : Int)) (3)) = AV.toI (f (0 + Int.toNat (↑i : Int)) (3)))) (cond (AV.toS (f (0 + Int.toNat (↑i : Int)) (4)) == AV.toS (f (0 + Int.toNat (↑i : Int)) (4))) (cond (decide (AV.toI (f (0 + Int.toNat (↑i : Int)) (5)) = AV.toI (f (0 + Int.toNat (↑i : Int)) (5)))) (cond (decide (AV.toI (f (0 + Int.toNat (↑i : Int)) (6)) = AV.toI (f (0 + Int.toNat (↑i : Int)) (6)))) (cond (AV.toB (f (0 + Int.toNat (↑i : Int)) (7)) == AV.toB (f (0 + Int.toNat (↑i : Int)) (7))) (cond (Nat.beq m m) (cond (Nat.beq m m) (some (0, (CS.mk [(AV.int IntKind.u32 (bl)), (AV.ptr (0) (0)), (AV.osl (nl) (1) (0) (n) (n) (8) (true)), (AV.int IntKind.i64 ((↑n : Int))), (AV.int IntKind.i64 (IntKind.wrap IntKind.i64 ((↑i : Int) + 1)))] [some (AObj.cells [(AV.osl (false) (2) (0) (m + 1) (m + 1) (8) (true)), (AV.int IntKind.u32 ((↑mu : Int))), (AV.map (3))] true), some (AObj.tarr shO (n) f false), some (AObj.tarr shO (m + 1) (fjoin (fun p_ q_ => g (0 + p_) q_) (m) (rowsOf (8) [(AV.int IntKind.u64 (AV.toI (f (0 + Int.toNat (↑i : Int)) 0))), (AV.bool (AV.toB (f (0 + Int.toNat (↑i : Int)) (1)))), (AV.int IntKind.u32 (AV.toI (f (0 + Int.toNat (↑i : Int)) (2)))), (AV.int IntKind.u32 (AV.toI (f (0 + Int.toNat (↑i : Int)) (3)))), (AV.str (AV.toS (f (0 + Int.toNat (↑i : Int)) (4)))), (AV.int IntKind.i64 (AV.toI (f (0 + Int.toNat (↑i : Int)) (5)))), (AV.int IntKind.i64 (AV.toI (f (0 + Int.toNat (↑i : Int)) (6)))), (AV.bool (AV.toB (f (0 + Int.toNat (↑i : Int)) (7))))] (1))) true), some (AObj.map [] (zc))]))) none) none) none) none) none) none) none) none) none) none)
 none)
 none))))) none)))) none) none) none)
 (cond (AV.toB (f (0 + Int.toNat (↑i : Int)) (7)) == false) none (cond (AV.toB (f (0 + Int.toNat (↑i : Int)) (7)) == false) none (cond (AV.toB (f (0 + Int.toNat (↑i : Int)) (7)) == false) none (cond (AV.toB (f (0 + Int.toNat (↑i : Int)) (7)) == false) none (cond (AV.toB (f (0 + Int.toNat (↑i : Int)) (7))) (some (0, (CS.mk [(AV.int IntKind.u32 (bl)), (AV.ptr (0) (0)), (AV.osl (nl) (1) (0) (n) (n) (8) (true)), (AV.int IntKind.i64 ((↑n : Int))), (AV.int IntKind.i64 (IntKind.wrap IntKind.i64 ((↑i : Int) + 1)))] [some (AObj.cells [(AV.osl (false) (2) (0) (m) (m) (8) (true)), (AV.int IntKind.u32 ((↑mu : Int))), (AV.map (3))] true), some (AObj.tarr shO (n) f false), some (AObj.tarr shO (m) g true), some (AObj.map [] (zc))]))) none))))))
 none) none)
 (some (1, (CS.mk [(AV.int IntKind.u32 (bl)), (AV.ptr (0) (0))] [some (AObj.cells [(AV.osl (false) (1) (0) (m) (m) (8) (true)), (AV.int IntKind.u32 ((↑mu : Int))), (AV.map (2))] true), some (AObj.tarr shO (m) g true), some (AObj.map [] (zc))])))) := by kernel_rfl
theorem s12_eq (bl : Int) (nl : Bool) (n : Nat) (f : Nat → Nat → AV) (m : Nat) (g : Nat → Nat → AV) (mu : Nat) (zc : Nat) (i : Nat) : s12 bl nl n f m g mu zc i s12_p = (cond (decide ((↑i : Int) < (↑n : Int)))
 (cond (Nat.blt (0 + Int.toNat (↑i : Int)) n)
 (cond (AV.toB (f (0 + Int.toNat (↑i : Int)) (7)))
 (some (0, (CS.mk [(AV.int IntKind.u32 (bl)), (AV.ptr (0) (0)), (AV.osl (nl) (1) (0) (n) (n) (8) (true)), (AV.int IntKind.i64 ((↑n : Int))), (AV.int IntKind.i64 (IntKind.wrap IntKind.i64 ((↑i : Int) + 1)))] [some (AObj.cells [(AV.osl (false) (2) (0) (m) (m) (8) (true)), (AV.int IntKind.u32 ((↑mu : Int))), (AV.map (3))] true), some (AObj.tarr shO (n) f false), some (AObj.tarr shO (m) g true), some (AObj.map [] (zc))])))
 (cond (AV.toB (f (0 + Int.toNat (↑i : Int)) (1)))
 (cond (AV.toI (f (0 + Int.toNat (↑i : Int)) (6)) != 0)
 (cond (Nat.ble ((m) + (1)) (m)) none (cond (growB (64) (m + 1))
 (cond (Nat.ble (0 + m) m)
 (some (0, (CS.mk [(AV.int IntKind.u32 (bl)), (AV.ptr (0) (0)), (AV.osl (nl) (1) (0) (n) (n) (8) (true)), (AV.int IntKind.i64 ((↑n : Int))), (AV.int IntKind.i64 (IntKind.wrap IntKind.i64 ((↑i : Int) + 1)))] [some (AObj.cells [(AV.osl (false) (2) (0) (m + 1) (m + 1) (8) (true)), (AV.int IntKind.u32 (Env.bits EB BinOp.or IntKind.u32 (↑mu : Int) (IntKind.wrap IntKind.u32 (1 * 2 ^ min (Int.toNat (↑m : Int)) (IntKind.bits IntKind.u32))))), (AV.map (3))] true), some (AObj.tarr shO (n) f false), some (AObj.tarr shO (m + 1) (fjoin (fun p_ q_ => g (0 + p_) q_) (m) (rowsOf (8) [(AV.int IntKind.u64 (AV.toI (f (0 + Int.toNat (↑i : Int)) 0))), (AV.bool (AV.toB (f (0 + Int.toNat (↑i : Int)) (1)))), (AV.int IntKind.u32 (AV.toI (f (0 + Int.toNat (↑i : Int)) (2)))), (AV.int IntKind.u32 (AV.toI (f (0 + Int.toNat (↑i : Int)) (3)))), (AV.str (AV.toS (f (0 + Int.toNat (↑i : Int)) (4)))), (AV.int IntKind.i64 (AV.toI (f (0 + Int.toNat (↑i : Int)) (5)))), (AV.int IntKind.i64 (AV.toI (f (0 + Int.toNat (↑i : Int)) (6)))), (AV.bool (AV.toB (f (0 + Int.toNat (↑i : Int)) (7))))] (1))) true), some (AObj.map [] (zc))])))
 none)
 none))
 (cond (Nat.ble ((m) + (1)) (m)) none (cond (growB (64) (m + 1))
 (cond (Nat.ble (0 + m) m)
 (some (0, (CS.mk [(AV.int IntKind.u32 (bl)), (AV.ptr (0) (0)), (AV.osl (nl) (1) (0) (n) (n) (8) (true)), (AV.int IntKind.i64 ((↑n : Int))), (AV.int IntKind.i64 (IntKind.wrap IntKind.i64 ((↑i : Int) + 1)))] [some (AObj.cells [(AV.osl (false) (2) (0) (m + 1) (m + 1) (8) (true)), (AV.int IntKind.u32 ((↑mu : Int))), (AV.map (3))] true), some (AObj.tarr shO (n) f false), some (AObj.tarr shO (m + 1) (fjoin (fun p_ q_ => g (0 + p_) q_) (m) (rowsOf (8) [(AV.int IntKind.u64 (AV.toI (f (0 + Int.toNat (↑i : Int)) 0))), (AV.bool (AV.toB (f (0 + Int.toNat (↑i : Int)) (1)))), (AV.int IntKind.u32 (AV.toI (f (0 + Int.toNat (↑i : Int)) (2)))), (AV.int IntKind.u32 (AV.toI (f (0 + Int.toNat (↑i : Int)) (3)))), (AV.str (AV.toS (f (0 + Int.toNat (↑i : Int)) (4)))), (AV.int IntKind.i64 (AV.toI (f (0 + Int.toNat (↑i : Int)) (5)))), (AV.int IntKind.i64 (AV.toI (f (0 + Int.toNat (↑i : Int)) (6)))), (AV.bool (AV.toB (f (0 + Int.toNat (↑i : Int)) (7))))] (1))) true), some (AObj.map [] (zc))])))
 none)
 none)))
 (cond (AV.toI (f (0 + Int.toNat (↑i : Int)) (6)) == 0)
 (some (0, (CS.mk [(AV.int IntKind.u32 (bl)), (AV.ptr (0) (0)), (AV.osl (nl) (1) (0) (n) (n) (8) (true)), (AV.int IntKind.i64 ((↑n : Int))), (AV.int IntKind.i64 (IntKind.wrap IntKind.i64 ((↑i : Int) + 1)))] [some (AObj.cells [(AV.osl (false) (2) (0) (m) (m) (8) (true)), (AV.int IntKind.u32 ((↑mu : Int))), (AV.map (3))] true), some (AObj.tarr shO (n) f false), some (AObj.tarr shO (m) g true), some (AObj.map [] (zc))])))
 (cond (AV.toI (f (0 + Int.toNat (↑i : Int)) (6)) != 0)
 (cond (Nat.ble ((m) + (1)) (m)) none (cond (growB (64) (m + 1))
 (cond (Nat.ble (0 + m) m)
 (some (0, (CS.mk [(AV.int IntKind.u32 (bl)), (AV.ptr (0) (0)), (AV.osl (nl) (1) (0) (n) (n) (8) (true)), (AV.int IntKind.i64 ((↑n : Int))), (AV.int IntKind.i64 (IntKind.wrap IntKind.i64 ((↑i : Int) + 1)))] [some (AObj.cells [(AV.osl (false) (2) (0) (m + 1) (m + 1) (8) (true)), (AV.int IntKind.u32 (Env.bits EB BinOp.or IntKind.u32 (↑mu : Int) (IntKind.wrap IntKind.u32 (1 * 2 ^ min (Int.toNat (↑m : Int)) (IntKind.bits IntKind.u32))))), (AV.map (3))] true), some (AObj.tarr shO (n) f false), some (AObj.tarr shO (m + 1) (fjoin (fun p_ q_ => g (0 + p_) q_) (m) (rowsOf (8) [(AV.int IntKind.u64 (AV.toI (f (0 + Int.toNat (↑i : Int)) 0))), (AV.bool (AV.toB (f (0 + Int.toNat (↑i : Int)) (1)))), (AV.int IntKind.u32 (AV.toI (f (0 + Int.toNat (↑i : Int)) (2)))), (AV.int IntKind.u32 (AV.toI (f (0 + Int.toNat (↑i : Int)) (3)))), (AV.str (AV.toS (f (0 + Int.toNat (↑i : Int)) (4)))), (AV.int IntKind.i64 (AV.toI (f (0 + Int.toNat (↑i : Int)) (5)))), (AV.int IntKind.i64 (AV.toI (f (0 + Int.toNat (↑i : Int)) (6)))), (AV.bool (AV.toB (f (0 + Int.toNat (↑i : Int)) (7))))] (1))) true), some (AObj.map [] (zc))])))
 none)
 none))
 (cond (Nat.ble ((m) + (1)) (m)) none (cond (growB (64) (m + 1))
 (cond (Nat.ble (0 + m) m)
 (some (0, (CS.mk [(AV.int IntKind.u32 (bl)), (AV.ptr (0) (0)), (AV.osl (nl) (1) (0) (n) (n) (8) (true)), (AV.int IntKind.i64 ((↑n : Int))), (AV.int IntKind.i64 (IntKind.wrap IntKind.i64 ((↑i : Int) + 1)))] [some (AObj.cells [(AV.osl (false) (2) (0) (m + 1) (m + 1) (8) (true)), (AV.int IntKind.u32 ((↑mu : Int))), (AV.map (3))] true), some (AObj.tarr shO (n) f false), some (AObj.tarr shO (m + 1) (fjoin (fun p_ q_ => g (0 + p_) q_) (m) (rowsOf (8) [(AV.int IntKind.u64 (AV.toI (f (0 + Int.toNat (↑i : Int)) 0))), (AV.bool (AV.toB (f (0 + Int.toNat (↑i : Int)) (1)))), (AV.int IntKind.u32 (AV.toI (f (0 + Int.toNat (↑i : Int)) (2)))), (AV.int IntKind.u32 (AV.toI (f (0 + Int.toNat (↑i : Int)) (3)))), (AV.str (AV.toS (f (0 + Int.toNat (↑i : Int)) (4)))), (AV.int IntKind.i64 (AV.toI (f (0 + Int.toNat (↑i : Int)) (5)))), (AV.int IntKind.i64 (AV.toI (f (0 + Int.toNat (↑i : Int)) (6)))), (AV.bool (AV.toB (f (0 + Int.toNat (↑i : Int)) (7))))] (1))) true), some (AObj.map [] (zc))])))
 none)
 none))))))
 none)
 (some (1, (CS.mk [(AV.int IntKind.u32 (bl)), (AV.ptr (0) (0))] [some (AObj.cells [(AV.osl (false) (1) (0) (m) (m) (8) (true)), (AV.int IntKind.u32 ((↑mu : Int))), (AV.map (2))] true), some (AObj.tarr shO (m) g true), some (AObj.map [] (zc))])))) := by
 rw [s12_is]
 try simp only [eq_self, decide_true, beq_self_eq_true, Nat.beq_refl, ble_self, Int.le_refl, Nat.le_refl]
 cases (decide ((↑i : Int) < (↑n : Int))) with
 | true =>
   cases (Nat.blt (0 + Int.toNat (↑i : Int)) n) with
   | true =>
     cases (AV.toB (f (0 + Int.toNat (↑i : Int)) (7))) with
     | true =>
       rfl
     | false =>
       cases (AV.toB (f (0 + Int.toNat (↑i : Int)) (1))) with
       | true =>
         cases (AV.toI (f (0 + Int.toNat (↑i : Int)) (6)) != 0) with
         | true =>
           cases (growB (64) (m + 1)) with
           | true =>
             cases (Nat.ble (0 + m) m) with
             | true =>
               rfl
             | false =>
               rfl
           | false =>
             rfl
         | false =>
           cases (growB (64) (m + 1)) with
           | true =>
             cases (Nat.ble (0 + m) m) with
             | true =>
               rfl
             | false =>
               rfl
           | false =>
             rfl
       | false =>
         cases (AV.toI (f (0 + Int.toNat (↑i : Int)) (6)) == 0) with
         | true =>
           rfl
         | false =>
           cases (AV.toI (f (0 + Int.toNat (↑i : Int)) (6)) != 0) with
           | true =>
             cases (growB (64) (m + 1)) with
             | true =>
               cases (Nat.ble (0 + m) m) with
               | true =>
                 rfl
               | false =>
                 rfl
             | false =>
               rfl
           | false =>
             cases (growB (64) (m + 1)) with
             | true =>
               cases (Nat.ble (0 + m) m) with
               | true =>
                 rfl
               | false =>
                 rfl
             | false =>
               rfl
   | false =>
     rfl
 | false =>
   rfl
noncomputable def s12n (bl : Int) (nl : Bool) (n : Nat) (f : Nat → Nat → AV) (mu : Nat) (zc : Nat) (i : Nat) (π : Plan) : Option (Nat × CS) := stepC (EB) (400) (loopC EB 12 0) (0) (h12) ((.normal, h12) :: x12) π (c12n bl nl n f mu zc i)
def s12n_p : Plan := (.fork (.reck 1 (.must true (.fork (.fork (.must true (.must true (.must true (.fork (.must true (.must true (.must true (.must true (.must false (.fork .stop (.fork (.reck 2 (.must true (.reck 1 (.must true (.must true (.must true (.must true (.must true (.must true (.must true (.must true .stop))))))))))) (.reck 1 (.must true (.must true (.must true (.must true (.must true (.must true (.must true (.must true .stop)))))))))))))))) (.must false (.must false (.must true (.must false (.must false (.reck 1 (.fork (.reck 2 (.must true (.reck 1 (.must true (.must true (.must true (.must true (.must true (.must true (.must true (.must true .stop))))))))))) (.reck 1 (.must true (.must true (.must true (.must true (.must true (.must true (.must true (.must true .stop)))))))))))))))))))) (.must false (.must false (.must false (.must false (.must true .stop)))))) .stop))) .stop)
theorem s12n_is (bl : Int) (nl : Bool) (n : Nat) (f : Nat → Nat → AV) (mu : Nat) (zc : Nat) (i : Nat) : s12n bl nl n f mu zc i s12n_p = (cond (decide ((↑i : Int) < (↑n : Int)))
 (cond (decide ((↑i : Int) < (↑n : Int))) (cond (Nat.blt (0 + Int.toNat (↑i : Int)) n)
 (cond (AV.toB (f (0 + Int.toNat (↑i : Int)) (7)) == false)
 (cond (AV.toB (f (0 + Int.toNat (↑i : Int)) (7)) == false) (cond (AV.toB (f (0 + Int.toNat (↑i : Int)) (7)) == false) (cond (AV.toB (f (0 + Int.toNat (↑i : Int)) (7)) == false) (cond ((!AV.toB (f (0 + Int.toNat (↑i : Int)) (1))) == true)
 (cond ((!AV.toB (f (0 + Int.toNat (↑i : Int)) (1))) == true) (cond ((!AV.toB (f (0 + Int.toNat (↑i : Int)) (1))) == true) (cond (AV.toB (f (0 + Int.toNat (↑i : Int)) (7)) == false) (cond (!AV.toB (f (0 + Int.toNat (↑i : Int)) (1))) (cond (AV.toB (f (0 + Int.toNat (↑i : Int)) (7))) none (cond (AV.toI (f (0 + Int.toNat (↑i : Int)) (6)) == 0)
 (some (0, (CS.mk [(AV.int IntKind.u32 (bl)), (AV.ptr (0) (0)), (AV.osl (nl) (1) (0) (n) (n) (8) (true)), (AV.int IntKind.i64 ((↑n : Int))), (AV.int IntKind.i64 (IntKind.wrap IntKind.i64 ((↑i : Int) + 1)))] [some (AObj.cells [(AV.osl (true) (2) (0) (0) (0) (8) (true)), (AV.int IntKind.u32 ((↑mu : Int))), (AV.map (3))] true), some (AObj.tarr shO (n) f false), some (AObj.tarr shO (0) (fun p_ q_ => AV.bad) true), some (AObj.map [] (zc))])))
 (cond (AV.toI (f (0 + Int.toNat (↑i : Int)) (6)) != 0)
 (cond (decide ((↑mu : Int) = (↑mu : Int))) (cond (decide (AV.toI (f (0 + Int.toNat (↑i : Int)) 0) = AV.toI (f (0 + Int.toNat (↑i : Int)) 0))) (cond (AV.toB (f (0 + Int.toNat (↑i : Int)) (1)) == AV.toB (f (0 + Int.toNat (↑i : Int)) (1))) (cond (decide (AV.toI (f (0 + Int.toNat (↑i : Int)) (2)) = AV.toI (f (0 + Int.toNat (↑i : Int)) (2)))) (cond (decide (AV.toI (f (0 + Int.toNat (↑i : Int)) (3)) = AV.toI (f (0 + Int.toNat (↑i : Int)) (3)))) (cond (AV.toS (f (0 + Int.toNat (↑i : Int)) (4)) == AV.toS (f (0 + Int.toNat (↑i : Int)) (4))) (cond (decide (AV.toI (f (0 + Int.toNat (↑i : Int)) (5)) = AV.toI (f (0 + Int.toNat (↑i : Int)) (5)))) (cond (decide (AV.toI (f (0 + Int.toNat (↑i : Int)) (6)) = AV.toI (f (0 + Int.toNat (↑i : Int)) (6)))) (cond (AV.toB (f (0 + Int.toNat (↑i : Int)) (7)) == AV.toB (f (0 + Int.toNat (↑i : Int)) (7))) (some (0, (CS.mk [(AV.int IntKind.u32 (bl)), (AV.ptr (0) (0)), (AV.osl (nl) (1) (0) (n) (n) (8) (true)), (AV.int IntKind.i64 ((↑n : Int))), (AV.int IntKind.i64 (IntKind.wrap IntKind.i64 ((↑i : Int) + 1)))] [some (AObj.cells [(AV.osl (false) (2) (0) (1) (1) (8) (true)), (AV.int IntKind.u32 (Env.bits EB BinOp.or IntKind.u32 (↑mu : Int) (IntKind.wrap IntKind.u32 (1 * 2 ^ min (Int.toNat 0) (IntKind.bits IntKind.u32))))), (AV.map (3))] true), some (AObj.tarr shO (n) f false), some (AObj.tarr shO (1) (rowsOf (8) [(AV.int IntKind.u64 (AV.toI (f (0 + Int.toNat (↑i : Int)) 0))), (AV.bool (AV.toB (f (0 + Int.toNat (↑i : Int)) (1)))), (AV.int IntKind.u32 (AV.toI (f (0 + Int.toNat (↑i : Int)) (2)))), (AV.int IntKind.u32 (AV.toI (f (0 + Int.toNat (↑i : Int)) (3)))), (AV.str (AV.toS (f (0 + Int.toNat (↑i : Int)) (4)))), (AV.int IntKind.i64 (AV.toI (f (0 + Int.toNat (↑i : Int)) (5)))), (AV.int IntKind.i64 (AV.toI (f (0 + Int.toNat (↑i : Int)) (6)))), (AV.bool (AV.toB (f (0 + Int.toNat (↑i : Int)) (7))))] (1)) true), some (AObj.map [] (zc))]))) none) none) none) none) none) none) none) none) none)
 (cond (decide (AV.toI (f (0 + Int.toNat (↑i : Int)) 0) = AV.toI (f (0 + Int.toNat (↑i : Int)) 0))) (cond (AV.toB (f (0 + Int.toNat (↑i : Int)) (1)) == AV.toB (f (0 + Int.toNat (↑i : Int)) (1))) (cond (decide (AV.toI (f (0 + Int.toNat (↑i : Int)) (2)) = AV.toI (f (0 + Int.toNat (↑i : Int)) (2)))) (cond (decide (AV.toI (f (0 + Int.toNat (↑i : Int)) (3)) = AV.toI (f (0 + Int.toNat (↑i : Int)) (3)))) (cond (AV.toS (f (0 + Int.toNat (↑i : Int)) (4)) == AV.toS (f (0 + Int.toNat (↑i : Int)) (4))) (cond (decide (AV.toI (f (0 + Int.toNat (↑i : Int)) (5)) = AV.toI (f (0 + Int.toNat (↑i : Int)) (5)))) (cond (decide (AV.toI (f (0 + Int.toNat (↑i : Int)) (6)) = AV.toI (f (0 + Int.toNat (↑i : Int)) (6)))) (cond (AV.toB (f (0 + Int.toNat (↑i : Int)) (7)) == AV.toB (f (0 + Int.toNat (↑i : Int)) (7))) (some (0, (CS.mk [(AV.int IntKind.u32 (bl)), (AV.ptr (0) (0)), (AV.osl (nl) (1) (0) (n) (n) (8) (true)), (AV.int IntKind.i64 ((↑n : Int))), (AV.int IntKind.i64 (IntKind.wrap IntKind.i64 ((↑i : Int) + 1)))] [some (AObj.cells [(AV.osl (false) (2) (0) (1) (1) (8) (true)), (AV.int IntKind.u32 ((↑mu : Int))), (AV.map (3))] true), some (AObj.tarr shO (n) f false), some (AObj.tarr shO (1) (rowsOf (8) [(AV.int IntKind.u64 (AV.toI (f (0 + Int.toNat (↑i : Int)) 0))), (AV.bool (AV.toB (f (0 + Int.toNat (↑i : Int)) (1)))), (AV.int IntKind.u32 (AV.toI (f (0 + Int.toNat (↑i : Int)) (2)))), (AV.int IntKind.u32 (AV.toI (f (0 + Int.toNat (↑i : Int)) (3)))), (AV.str (AV.toS (f (0 + Int.toNat (↑i : Int)) (4)))), (AV.int IntKind.i64 (AV.toI (f (0 + Int.toNat (↑i : Int)) (5)))), (AV.int IntKind.i64 (AV.toI (f (0 + Int.toNat (↑i : Int)) (6)))), (AV.bool (AV.toB (f (0 + Int.toNat (↑i : Int)) (7))))] (1)) true), some (AObj.map [] (zc))]))) none) none) none) none) none) none) none) none)))) none) none) none) none)
 (cond ((!AV.toB (f (0 + Int.toNat (↑i : Int)) (1))) == true) none (cond ((!AV.toB (f (0 + Int.toNat (↑i : Int)) (1))) == true) none (cond (AV.toB (f (0 + Int.toNat (↑i : Int)) (7)) == false) (cond (!AV.toB (f (0 + Int.toNat (↑i : Int)) (1))) none (cond (AV.toB (f (0 + Int.toNat (↑i : Int)) (7))) none (cond (AV.toI (f (0 + Int.toNat (↑i : Int)) (6)) != 0)
 (cond (decide ((↑mu : Int) = (↑mu : Int))) (cond (decide (AV.toI (f (0 + Int.toNat (↑i : Int)) 0) = AV.toI (f (0 + Int.toNat (↑i : Int)) 0))) (cond (AV.toB (f (0 + Int.toNat (↑i : Int)) (1)) == AV.toB (f (0 + Int.toNat (↑i : Int)) (1))) (cond (decide (AV.toI (f (0 + Int.toNat (↑i : Int)) (2)) = AV.toI (f (0 + Int.toNat (↑i : Int)) (2)))) (cond (decide (AV.toI (f (0 + Int.toNat (↑i : Int)) (3)) = AV.toI (f (0 + Int.toNat (↑i : Int)) (3)))) (cond (AV.toS (f (0 + Int.toNat (↑i : Int)) (4)) == AV.toS (f (0 + Int.toNat (↑i : Int)) (4))) (cond (decide (AV.toI (f (0 + Int.toNat (↑i : Int)) (5)) = AV.toI (f (0 + Int.toNat (↑i : Int)) (5)))) (cond (decide (AV.toI (f (0 + Int.toNat (↑i : Int)) (6)) = AV.toI (f (0 + Int.toNat (↑i : Int)) (6)))) (cond (AV.toB (f (0 + Int.toNat (↑i : Int)) (7)) == AV.toB (f (0 + Int.toNat (↑i : Int)) (7))) (some (0, (CS.mk [(AV.int IntKind.u32 (bl)), (AV.ptr (0) (0)), (AV.osl (nl) (1) (0) (n) (n) (8) (true)), (AV.int IntKind.i64 ((↑n : Int))), (AV.int IntKind.i64 (IntKind.wrap IntKind.i64 ((↑i : Int) + 1)))] [some (AObj.cells [(AV.osl (false) (2) (0) (1) (1) (8) (true)), (AV.int IntKind.u32 (Env.bits EB BinOp.or IntKind.u32 (↑mu : Int) (IntKind.wrap IntKind.u32 (1 * 2 ^ min (Int.toNat 0) (IntKind.bits IntKind.u32))))), (AV.map (3))] true), some (AObj.tarr shO (n) f false), some (AObj.tarr shO (1) (rowsOf (8) [(AV.int IntKind.u64 (AV.toI (f (0 + Int.toNat (↑i : Int)) 0))), (AV.bool (AV.toB (f (0 + Int.toNat (↑i : Int)) (1)))), (AV.int IntKind.u32 (AV.toI (f (0 + Int.toNat (↑i : Int)) (2)))), (AV.int IntKind.u32 (AV.toI (f (0 + Int.toNat (↑i : Int)) (3)))), (AV.str (AV.toS (f (0 + Int.toNat (↑i : Int)) (4)))), (AV.int IntKind.i64 (AV.toI (f (0 + Int.toNat (↑i : Int)) (5)))), (AV.int IntKind.i64 (AV.toI (f (0 + Int.toNat (↑i : Int)) (6)))), (AV.bool (AV.toB (f (0 + Int.toNat (↑i : Int)) (7))))] (1)) true), some (AObj.map [] (zc))]))) none) none) none) none) none) none) none) none) none)
 (cond (decide (AV.toI (f (0 + Int.toNat (↑i : Int)) 0) = AV.toI (f (0 + Int.toNat (↑i : Int)) 0))) (cond (AV.toB (f (0 + Int.toNat (↑i : Int)) (1)) == AV.toB (f (0 + Int.toNat (↑i : Int)) (1))) (cond (decide (AV.toI (f (0 + Int.toNat (↑i : Int)) (2)) = AV.toI (f (0 + Int.toNat (↑i : Int)) (2)))) (cond (decide (AV.toI (f (0 + Int.toNat (↑i : Int)) (3)) = AV.toI (f (0 + Int.toNat (↑i : Int)) (3)))) (cond (AV.toS (f (0 + Int.toNat (↑i : Int)) (4)) == AV.toS (f (0 + Int.toNat (↑i : Int)) (4))) (cond (decide (AV.toI (f (0 + Int.toNat (↑i : Int)) (5)) = AV.toI (f (0 + Int.toNat (↑i : Int)) (5)))) (cond (decide (AV.toI (f (0 + Int.toNat (↑i : Int)) (6)) = AV.toI (f (0 + Int.toNat (↑i : Int)) (6)))) (cond (AV.toB (f (0 + Int.toNat (↑i : Int)) (7)) == AV.toB (f (0 + Int.toNat (↑i : Int)) (7))) (some (0, (CS.mk [(AV.int IntKind.u32 (bl)), (AV.ptr (0) (0)), (AV.osl (nl) (1) (0) (n) (n) (8) (true)), (AV.int IntKind.i64 ((↑n : Int))), (AV.int IntKind.i64 (IntKind.wrap IntKind.i64 ((↑i : Int) + 1)))] [some (AObj.cells [(AV.osl (false) (2) (0) (1) (1) (8) (true)), (AV.int IntKind.u32 ((↑mu : Int))), (AV.map (3))] true), some (AObj.tarr shO (n) f false), some (AObj.tarr shO (1) (rowsOf (8) [(AV.int IntKind.u64 (AV.toI (f (0 + Int.toNat (↑i : Int)) 0))), (AV.bool (AV.toB (f (0 + Int.toNat (↑i : Int)) (1)))), (AV.int IntKind.u32 (AV.toI (f (0 + Int.toNat (↑i : Int)) (2)))), (AV.int IntKind.u32 (AV.toI (f (0 + Int.toNat (↑i : Int)) (3)))), (AV.str (AV.toS (f (0 + Int.toNat (↑i : Int)) (4)))), (AV.int IntKind.i64 (AV.toI (f (0 + Int.toNat (↑i : Int)) (5)))), (AV.int IntKind.i64 (AV.toI (f (0 + Int.toNat (↑i : Int)) (6)))), (AV.bool (AV.toB (f (0 + Int.toNat (↑i : Int)) (7))))] (1)) true), some (AObj.map [] (zc))]))) none) none) none) none) none) none) none) none)))) none)))) none) none) none)
 (cond (AV.toB (f (0 + Int.toNat (↑i : Int)) (7)) == false) none (cond (AV.toB (f (0 + Int.toNat (↑i : Int)) (7)) == false) none (cond (AV.toB (f (0 + Int.toNat (↑i : Int)) (7)) == false) none (cond (AV.toB (f (0 + Int.toNat (↑i : Int)) (7)) == false) none (cond (AV.toB (f (0 + Int.toNat (↑i : Int)) (7))) (some (0, (CS.mk [(AV.int IntKind.u32 (bl)), (AV.ptr (0) (0)), (AV.osl (nl) (1) (0) (n) (n) (8) (true)), (AV.int IntKind.i64 ((↑n : Int))), (AV.int IntKind.i64 (IntKind.wrap IntKind.i64 ((↑i : Int) + 1)))] [some (AObj.cells [(AV.osl (true) (2) (0) (0) (0) (8) (true)), (AV.int IntKind.u32 ((↑mu : Int))), (AV.map (3))] true), some (AObj.tarr shO (n) f false), some (AObj.tarr shO (0) (fun p_ q_ => AV.bad) true), some (AObj.map [] (zc))]))) none))))))
 none) none)
 (some (1, (CS.mk [(AV.int IntKind.u32 (bl)), (AV.ptr (0) (0))] [some (AObj.cells [(AV.osl (true) (1) (0) (0) (0) (8) (true)), (AV.int IntKind.u32 ((↑mu : Int))), (AV.map (2))] true), some (AObj.tarr shO (0) (fun p_ q_ => AV.bad) true), some (AObj.map [] (zc))])))) := by kernel_rfl
theorem s12n_eq (bl : Int) (nl : Bool) (n : Nat) (f : Nat → Nat → AV) (mu : Nat) (zc : Nat) (i : Nat) : s12n bl nl n f mu zc i s12n_p = (cond (decide ((↑i : Int) < (↑n : Int)))
 (cond (Nat.blt (0 + Int.toNat (↑i : Int)) n)
 (cond (AV.toB (f (0 + Int.toNat (↑i : Int)) (7)))
 (some (0, (CS.mk [(AV.int IntKind.u32 (bl)), (AV.ptr (0) (0)), (AV.osl (nl) (1) (0) (n) (n) (8) (true)), (AV.int IntKind.i64 ((↑n : Int))), (AV.int IntKind.i64 (IntKind.wrap IntKind.i64 ((↑i : Int) + 1)))] [some (AObj.cells [(AV.osl (true) (2) (0) (0) (0) (8) (true)), (AV.int IntKind.u32 ((↑mu : Int))), (AV.map (3))] true), some (AObj.tarr shO (n) f false), some (AObj.tarr shO (0) (fun p_ q_ => AV.bad) true), some (AObj.map [] (zc))])))
 (cond (AV.toB (f (0 + Int.toNat (↑i : Int)) (1)))
 (cond (AV.toI (f (0 + Int.toNat (↑i : Int)) (6)) != 0)
 (some (0, (CS.mk [(AV.int IntKind.u32 (bl)), (AV.ptr (0) (0)), (AV.osl (nl) (1) (0) (n) (n) (8) (true)), (AV.int IntKind.i64 ((↑n : Int))), (AV.int IntKind.i64 (IntKind.wrap IntKind.i64 ((↑i : Int) + 1)))] [some (AObj.cells [(AV.osl (false) (2) (0) (1) (1) (8) (true)), (AV.int IntKind.u32 (Env.bits EB BinOp.or IntKind.u32 (↑mu : Int) (IntKind.wrap IntKind.u32 (1 * 2 ^ min (Int.toNat 0) (IntKind.bits IntKind.u32))))), (AV.map (3))] true), some (AObj.tarr shO (n) f false), some (AObj.tarr shO (1) (rowsOf (8) [(AV.int IntKind.u64 (AV.toI (f (0 + Int.toNat (↑i : Int)) 0))), (AV.bool (AV.toB (f (0 + Int.toNat (↑i : Int)) (1)))), (AV.int IntKind.u32 (AV.toI (f (0 + Int.toNat (↑i : Int)) (2)))), (AV.int IntKind.u32 (AV.toI (f (0 + Int.toNat (↑i : Int)) (3)))), (AV.str (AV.toS (f (0 + Int.toNat (↑i : Int)) (4)))), (AV.int IntKind.i64 (AV.toI (f (0 + Int.toNat (↑i : Int)) (5)))), (AV.int IntKind.i64 (AV.toI (f (0 + Int.toNat (↑i : Int)) (6)))), (AV.bool (AV.toB (f (0 + Int.toNat (↑i : Int)) (7))))] (1)) true), some (AObj.map [] (zc))])))
 (some (0, (CS.mk [(AV.int IntKind.u32 (bl)), (AV.ptr (0) (0)), (AV.osl (nl) (1) (0) (n) (n) (8) (true)), (AV.int IntKind.i64 ((↑n : Int))), (AV.int IntKind.i64 (IntKind.wrap IntKind.i64 ((↑i : Int) + 1)))] [some (AObj.cells [(AV.osl (false) (2) (0) (1) (1) (8) (true)), (AV.int IntKind.u32 ((↑mu : Int))), (AV.map (3))] true), some (AObj.tarr shO (n) f false), some (AObj.tarr shO (1) (rowsOf (8) [(AV.int IntKind.u64 (AV.toI (f (0 + Int.toNat (↑i : Int)) 0))), (AV.bool (AV.toB (f (0 + Int.toNat (↑i : Int)) (1)))), (AV.int IntKind.u32 (AV.toI (f (0 + Int.toNat (↑i : Int)) (2)))), (AV.int IntKind.u32 (AV.toI (f (0 + Int.toNat (↑i : Int)) (3)))), (AV.str (AV.toS (f (0 + Int.toNat (↑i : Int)) (4)))), (AV.int IntKind.i64 (AV.toI (f (0 + Int.toNat (↑i : Int)) (5)))), (AV.int IntKind.i64 (AV.toI (f (0 + Int.toNat (↑i : Int)) (6)))), (AV.bool (AV.toB (f (0 + Int.toNat (↑i : Int)) (7))))] (1)) true), some (AObj.map [] (zc))]))))
 (cond (AV.toI (f (0 + Int.toNat (↑i : Int)) (6)) == 0)
 (some (0, (CS.mk [(AV.int IntKind.u32 (bl)), (AV.ptr (0) (0)), (AV.osl (nl) (1) (0) (n) (n) (8) (true)), (AV.int IntKind.i64 ((↑n : Int))), (AV.int IntKind.i64 (IntKind.wrap IntKind.i64 ((↑i : Int) + 1)))] [some (AObj.cells [(AV.osl (true) (2) (0) (0) (0) (8) (true)), (AV.int IntKind.u32 ((↑mu : Int))), (AV.map (3))] true), some (AObj.tarr shO (n) f false), some (AObj.tarr shO (0) (fun p_ q_ => AV.bad) true), some (AObj.map [] (zc))])))
 (cond (AV.toI (f (0 + Int.toNat (↑i : Int)) (6)) != 0)
 (some (0, (CS.mk [(AV.int IntKind.u32 (bl)), (AV.ptr (0) (0)), (AV.osl (nl) (1) (0) (n) (n) (8) (true)), (AV.int IntKind.i64 ((↑n : Int))), (AV.int IntKind.i64 (IntKind.wrap IntKind.i64 ((↑i : Int) + 1)))] [some (AObj.cells [(AV.osl (false) (2) (0) (1) (1) (8) (true)), (AV.int IntKind.u32 (Env.bits EB BinOp.or IntKind.u32 (↑mu : Int) (IntKind.wrap IntKind.u32 (1 * 2 ^ min (Int.toNat 0) (IntKind.bits IntKind.u32))))), (AV.map (3))] true), some (AObj.tarr shO (n) f false), some (AObj.tarr shO (1) (rowsOf (8) [(AV.int IntKind.u64 (AV.toI (f (0 + Int.toNat (↑i : Int)) 0))), (AV.bool (AV.toB (f (0 + Int.toNat (↑i : Int)) (1)))), (AV.int IntKind.u32 (AV.toI (f (0 + Int.toNat (↑i : Int)) (2)))), (AV.int IntKind.u32 (AV.toI (f (0 + Int.toNat (↑i : Int)) (3)))), (AV.str (AV.toS (f (0 + Int.toNat (↑i : Int)) (4)))), (AV.int IntKind.i64 (AV.toI (f (0 + Int.toNat (↑i : Int)) (5)))), (AV.int IntKind.i64 (AV.toI (f (0 + Int.toNat (↑i : Int)) (6)))), (AV.bool (AV.toB (f (0 + Int.toNat (↑i : Int)) (7))))] (1)) true), some (AObj.map [] (zc))])))
 (some (0, (CS.mk [(AV.int IntKind.u32 (bl)), (AV.ptr (0) (0)), (AV.osl (nl) (1) (0) (n) (n) (8) (true)), (AV.int IntKind.i64 ((↑n : Int))), (AV.int IntKind.i64 (IntKind.wrap IntKind.i64 ((↑i : Int) + 1)))] [some (AObj.cells [(AV.osl (false) (2) (0) (1) (1) (8) (true)), (AV.int IntKind.u32 ((↑mu : Int))), (AV.map (3))] true), some (AObj.tarr shO (n) f false), some (AObj.tarr shO (1) (rowsOf (8) [(AV.int IntKind.u64 (AV.toI (f (0 + Int.toNat (↑i : Int)) 0))), (AV.bool (AV.toB (f (0 + Int.toNat (↑i : Int)) (1)))), (AV.int IntKind.u32 (AV.toI (f (0 + Int.toNat (↑i : Int)) (2)))), (AV.int IntKind.u32 (AV.toI (f (0 + Int.toNat (↑i : Int)) (3)))), (AV.str (AV.toS (f (0 + Int.toNat (↑i : Int)) (4)))), (AV.int IntKind.i64 (AV.toI (f (0 + Int.toNat (↑i : Int)) (5)))), (AV.int IntKind.i64 (AV.toI (f (0 + Int.toNat (↑i : Int)) (6)))), (AV.bool (AV.toB (f (0 + Int.toNat (↑i : Int)) (7))))] (1)) true), some (AObj.map [] (zc))])))))))
 none)
 (some (1, (CS.mk [(AV.int IntKind.u32 (bl)), (AV.ptr (0) (0))] [some (AObj.cells [(AV.osl (true) (1) (0) (0) (0) (8) (true)), (AV.int IntKind.u32 ((↑mu : Int))), (AV.map (2))] true), some (AObj.tarr shO (0) (fun p_ q_ => AV.bad) true), some (AObj.map [] (zc))])))) := by
 rw [s12n_is]
 try simp only [eq_self, decide_true, beq_self_eq_true, Nat.beq_refl, ble_self, Int.le_refl, Nat.le_refl]
 cases (decide ((↑i : Int) < (↑n : Int))) with
 | true =>
   cases (Nat.blt (0 + Int.toNat (↑i : Int)) n) with
   | true =>
     cases (AV.toB (f (0 + Int.toNat (↑i : Int)) (7))) with
     | true =>
       rfl
     | false =>
       cases (AV.toB (f (0 + Int.toNat (↑i : Int)) (1))) with
       | true =>
         cases (AV.toI (f (0 + Int.toNat (↑i : Int)) (6)) != 0) with
         | true =>
           rfl
         | false =>
           rfl
       | false =>
         cases (AV.toI (f (0 + Int.toNat (↑i : Int)) (6)) == 0) with
         | true =>
           rfl
         | false =>
           cases (AV.toI (f (0 + Int.toNat (↑i : Int)) (6)) != 0) with
           | true =>
             rfl
           | false =>
             rfl
   | false =>
     rfl
 | false =>
   rfl
end Go.Proofs.Ytmjmhpbncfjnpaa.history
end
