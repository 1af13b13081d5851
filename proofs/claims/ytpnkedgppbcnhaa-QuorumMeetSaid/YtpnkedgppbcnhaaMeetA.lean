/- The paths through the law QuorumMeet: what each tells, and what must hold for it. -/
import Derived.Test.YtpnkedgppbcnhaaRows
import Derived.Test.YtpnkedgppbcnhaaAmVd
import Derived.Test.YtpnkedgppbcnhaaMeetM
import Derived.KernelRfl
set_option linter.unusedSimpArgs false
set_option linter.unusedVariables false
namespace Go.Proofs.Ytpnkedgppbcnhaa.quorumMeet
open Go Go.Proofs.Ytpnkedgppbcnhaa.Am
noncomputable def E0 : Env := mkEnv Try.prog 83 61
abbrev Bits := BinOp → IntKind → Int → Int → Int
def ocRun (p : Int → Nat) (R : Int → Bool) (args : List AV) (σ : St) : Option (AV × St × List Bool) :=
  match args with
  | [.int .u64 x] => some (.int .i64 (p x), σ, [R x])
  | _ => none
def ocI (p : Int → Nat) (R : Int → Bool) : Intr := { dec := fun _ _ => true, run := fun _ => ocRun p R }
def liRun (args : List AV) (σ : St) : Option (AV × St × List Bool) :=
  match args with
  | [] => some (.bool true, σ, [])
  | _ => none
def liI : Intr := { dec := fun _ _ => true, run := fun _ => liRun }
def maRun (M : Int → Int → Bool) (R : Int → Bool) (args : List AV) (σ : St) : Option (AV × St × List Bool) :=
  match args with
  | [.int .u64 x, .int .u64 y] => some (.bool (M x y), σ, [R x, R y])
  | _ => none
def maI (M : Int → Int → Bool) (R : Int → Bool) : Intr := { dec := fun _ _ => true, run := fun _ => maRun M R }
noncomputable def EB (B : Bits) : Env := { E0 with bits := B }
noncomputable def E1 (B : Bits) (p : Int → Nat) (R : Int → Bool) : Env := { E0 with bits := B, intr := fun f => cond (Nat.beq f 23) (some (ocI p R)) none }
noncomputable def E2 (B : Bits) (M : Int → Int → Bool) (R : Int → Bool) : Env :=
  { E0 with bits := B, intr := fun f => cond (Nat.beq f 15) (some (maI M R)) (cond (Nat.beq f 7) (some liI) none) }
noncomputable def csO : List Code := codeOf E0 23
noncomputable def oA : List Code := csO.take 2
noncomputable def oB : List Code := (csO.drop 2).take 1
noncomputable def oC : List Code := (csO.drop 3).take 1
noncomputable def oD : List Code := (csO.drop 4).take 1
noncomputable def oE : List Code := (csO.drop 5).take 1
noncomputable def oF : List Code := (csO.drop 6).take 1
noncomputable def oG : List Code := csO.drop 7
def holes (n : Nat) : List (Option AV) := List.replicate n none
def LO (y : Nat) : List (Option AV) := [some (.int .u64 y)] ++ holes 34
def LO9 (y : Nat) : List (Option AV) := [none, none, some (.int .i64 y)] ++ holes 32
noncomputable def o1 (B : Bits) (x : Nat) : Option (List Prop) :=
  pathB (EB B) 100 (seqs oA) { tmps := Tr.ofList [.int .u64 x] 0 .nil, size := 35, marks := [], rnd := none } (stC []) [] .normal [] (LO (n1 x)) []
noncomputable def o2 (B : Bits) (o : Nat → AV) (y : Nat) : Option (List Prop) :=
  pathB (EB B) 100 (seqs oB) (frO (LO y) o) (stC []) [] .normal [] (LO (n2 y)) []
noncomputable def o3 (B : Bits) (o : Nat → AV) (y : Nat) : Option (List Prop) :=
  pathB (EB B) 100 (seqs oC) (frO (LO y) o) (stC []) [] .normal [] (LO (n4 y)) []
noncomputable def o4 (B : Bits) (o : Nat → AV) (y : Nat) : Option (List Prop) :=
  pathB (EB B) 100 (seqs oD) (frO (LO y) o) (stC []) [] .normal [] (LO (n8 y)) []
noncomputable def o5 (B : Bits) (o : Nat → AV) (y : Nat) : Option (List Prop) :=
  pathB (EB B) 100 (seqs oE) (frO (LO y) o) (stC []) [] .normal [] (LO (n16 y)) []
noncomputable def o6 (B : Bits) (o : Nat → AV) (y : Nat) : Option (List Prop) :=
  pathB (EB B) 100 (seqs oF) (frO (LO y) o) (stC []) [] .normal [] (LO (n32 y)) []
noncomputable def o7 (B : Bits) (o : Nat → AV) (y : Nat) : Option (List Prop) :=
  pathB (EB B) 100 (seqs oG) (frO (LO y) o) (stC []) [] .ret [] (LO9 (y % 128)) []
noncomputable def mj (B : Bits) (p : Int → Nat) (R : Int → Bool) (s c : Int) (v : Bool) : Option (List Prop) :=
  resW (E1 B p R) 300 15 [.int .u64 s, .int .u64 c] (stC []) [(1, true), (1, true)] (.bool v)
noncomputable def aN (B : Bits) (M : Int → Int → Bool) (R : Int → Bool) (a b c : Nat) (nd : Int) : Option (List Prop) :=
  resA (E2 B M R) 3000 5 [.int .u64 a, .int .u64 b, .int .u64 c, .int .i64 nd] (stC []) [(1, true), (0, true), (0, true), (0, true), (0, true), (2, true), (0, true), (0, false), (0, false), (0, false), (0, false), (9, true), (0, true), (0, false), (0, false), (0, false), (0, false), (0, true)]
noncomputable def aX (B : Bits) (M : Int → Int → Bool) (R : Int → Bool) (a b c : Nat) (nd : Int) : Option (List Prop) :=
  resA (E2 B M R) 3000 5 [.int .u64 a, .int .u64 b, .int .u64 c, .int .i64 nd] (stC []) [(1, true), (0, true), (0, true), (0, true), (0, true), (2, true), (0, true), (0, true), (0, true), (0, true), (1, true), (0, true), (0, true), (0, true), (0, true), (0, true), (0, true), (0, true), (0, true), (0, true), (0, false), (1, true), (0, true), (0, true), (0, true), (0, true), (1, true), (0, true), (0, true), (0, false), (0, false), (0, false), (0, false), (0, false), (0, false), (0, false), (0, true)]
noncomputable def aY (B : Bits) (M : Int → Int → Bool) (R : Int → Bool) (a b c : Nat) (nd : Int) : Option (List Prop) :=
  resA (E2 B M R) 3000 5 [.int .u64 a, .int .u64 b, .int .u64 c, .int .i64 nd] (stC []) [(1, true), (0, true), (0, true), (0, true), (0, true), (2, true), (0, true), (0, true), (0, true), (0, true), (1, true), (0, true), (0, true), (0, true), (0, true), (0, true), (0, true), (0, true), (0, true), (0, true), (0, false), (1, true), (0, true), (0, true), (0, true), (0, true), (1, true), (0, true), (0, true), (0, false), (0, true), (0, true), (0, true), (0, true), (0, true), (0, true), (0, false), (0, true), (1, true)]
noncomputable def aU (B : Bits) (M : Int → Int → Bool) (R : Int → Bool) (a b c : Nat) (nd : Int) : Option (List Prop) :=
  resA (E2 B M R) 3000 5 [.int .u64 a, .int .u64 b, .int .u64 c, .int .i64 nd] (stC []) [(1, true), (0, true), (0, true), (0, true), (0, true), (2, true), (0, true), (0, true), (0, true), (0, true), (1, true), (0, true), (0, true), (0, false), (0, false), (0, false), (0, false), (0, false), (0, false), (0, false), (2, true), (0, true), (0, true), (0, true), (0, true), (1, true), (0, true), (0, true), (0, false), (0, false), (0, false), (0, false), (0, false), (0, false), (0, false), (0, true)]
noncomputable def aV (B : Bits) (M : Int → Int → Bool) (R : Int → Bool) (a b c : Nat) (nd : Int) : Option (List Prop) :=
  resA (E2 B M R) 3000 5 [.int .u64 a, .int .u64 b, .int .u64 c, .int .i64 nd] (stC []) [(1, true), (0, true), (0, true), (0, true), (0, true), (2, true), (0, true), (0, true), (0, true), (0, true), (1, true), (0, true), (0, true), (0, false), (0, false), (0, false), (0, false), (0, false), (0, false), (0, false), (2, true), (0, true), (0, true), (0, true), (0, true), (1, true), (0, true), (0, true), (0, false), (0, true), (0, true), (0, true), (0, true), (0, true), (0, true), (0, false), (0, true), (1, true)]
noncomputable def hN (B : Bits) (M : Int → Int → Bool) (R : Int → Bool) (a b c : Nat) (nd : Int) : Option (List Prop) :=
  resA (E2 B M R) 3000 5 [.int .u64 a, .int .u64 b, .int .u64 c, .int .i64 nd] (stC []) [(1, true), (0, true), (0, true), (0, false), (2, true), (0, true), (0, false), (0, false), (0, false), (0, false), (9, true), (0, true), (0, false), (0, false), (0, false), (0, false), (0, true)]
noncomputable def hY (B : Bits) (M : Int → Int → Bool) (R : Int → Bool) (a b c : Nat) (nd : Int) : Option (List Prop) :=
  resA (E2 B M R) 3000 5 [.int .u64 a, .int .u64 b, .int .u64 c, .int .i64 nd] (stC []) [(1, true), (0, true), (0, true), (0, false), (2, true), (0, true), (0, true), (0, true), (0, true), (1, true), (0, true), (0, true), (0, true), (0, true), (0, true), (0, true), (0, true), (0, true), (0, true), (0, false), (1, true), (0, true), (0, true), (0, true), (0, true), (1, true), (0, true), (0, true), (0, false), (0, true), (0, true), (0, true), (0, true), (0, true), (0, true), (0, false), (0, true), (1, true)]
noncomputable def hU (B : Bits) (M : Int → Int → Bool) (R : Int → Bool) (a b c : Nat) (nd : Int) : Option (List Prop) :=
  resA (E2 B M R) 3000 5 [.int .u64 a, .int .u64 b, .int .u64 c, .int .i64 nd] (stC []) [(1, true), (0, true), (0, true), (0, false), (2, true), (0, true), (0, true), (0, true), (0, true), (1, true), (0, true), (0, true), (0, false), (0, false), (0, false), (0, false), (0, false), (0, false), (0, false), (2, true), (0, true), (0, true), (0, true), (0, true), (1, true), (0, true), (0, true), (0, false), (0, false), (0, false), (0, false), (0, false), (0, false), (0, false), (0, true)]
noncomputable def lN (B : Bits) (M : Int → Int → Bool) (R : Int → Bool) (a b c : Nat) (nd : Int) : Option (List Prop) :=
  resA (E2 B M R) 3000 5 [.int .u64 a, .int .u64 b, .int .u64 c, .int .i64 nd] (stC []) [(1, false), (0, false), (0, false), (3, true), (0, true), (0, false), (0, false), (0, false), (0, false), (9, true), (0, true), (0, false), (0, false), (0, false), (0, false), (0, true)]
noncomputable def lY (B : Bits) (M : Int → Int → Bool) (R : Int → Bool) (a b c : Nat) (nd : Int) : Option (List Prop) :=
  resA (E2 B M R) 3000 5 [.int .u64 a, .int .u64 b, .int .u64 c, .int .i64 nd] (stC []) [(1, false), (0, false), (0, false), (3, true), (0, true), (0, true), (0, true), (0, true), (1, true), (0, true), (0, true), (0, true), (0, true), (0, true), (0, true), (0, true), (0, true), (0, true), (0, false), (1, true), (0, true), (0, true), (0, true), (0, true), (1, true), (0, true), (0, true), (0, false), (0, true), (0, true), (0, true), (0, true), (0, true), (0, true), (0, false), (0, true), (1, true)]
noncomputable def lU (B : Bits) (M : Int → Int → Bool) (R : Int → Bool) (a b c : Nat) (nd : Int) : Option (List Prop) :=
  resA (E2 B M R) 3000 5 [.int .u64 a, .int .u64 b, .int .u64 c, .int .i64 nd] (stC []) [(1, false), (0, false), (0, false), (3, true), (0, true), (0, true), (0, true), (0, true), (1, true), (0, true), (0, true), (0, false), (0, false), (0, false), (0, false), (0, false), (0, false), (0, false), (2, true), (0, true), (0, true), (0, true), (0, true), (1, true), (0, true), (0, true), (0, false), (0, false), (0, false), (0, false), (0, false), (0, false), (0, false), (0, true)]
theorem o1_is (B : Bits) (x : Nat) : o1 B x = some [
    (((↑(n1 x) : Int)) : Int) = (Go.IntKind.wrap Go.IntKind.u64 (B Go.BinOp.and Go.IntKind.u64 (Int.fdiv (↑x : Int) (2 ^ Min.min (Int.toNat 1) (Go.IntKind.bits Go.IntKind.u64))) 6148914691236517205 + B Go.BinOp.and Go.IntKind.u64 (↑x : Int) 6148914691236517205))] := by kernel_rfl
theorem o2_is (B : Bits) (o : Nat → Go.Proofs.Ytpnkedgppbcnhaa.Am.AV) (y : Nat) : o2 B o y = some [
    (((↑(n2 y) : Int)) : Int) = (Go.IntKind.wrap Go.IntKind.u64 (B Go.BinOp.and Go.IntKind.u64 (Int.fdiv (↑y : Int) (2 ^ Min.min (Int.toNat 2) (Go.IntKind.bits Go.IntKind.u64))) 3689348814741910323 + B Go.BinOp.and Go.IntKind.u64 (↑y : Int) 3689348814741910323))] := by kernel_rfl
theorem o3_is (B : Bits) (o : Nat → Go.Proofs.Ytpnkedgppbcnhaa.Am.AV) (y : Nat) : o3 B o y = some [
    (((↑(n4 y) : Int)) : Int) = (B Go.BinOp.and Go.IntKind.u64 (Go.IntKind.wrap Go.IntKind.u64 (Int.fdiv (↑y : Int) (2 ^ Min.min (Int.toNat 4) (Go.IntKind.bits Go.IntKind.u64)) + (↑y : Int))) 1085102592571150095)] := by kernel_rfl
theorem o4_is (B : Bits) (o : Nat → Go.Proofs.Ytpnkedgppbcnhaa.Am.AV) (y : Nat) : o4 B o y = some [
    (((↑(n8 y) : Int)) : Int) = (Go.IntKind.wrap Go.IntKind.u64 ((↑y : Int) + Int.fdiv (↑y : Int) (2 ^ Min.min (Int.toNat 8) (Go.IntKind.bits Go.IntKind.u64))))] := by kernel_rfl
theorem o5_is (B : Bits) (o : Nat → Go.Proofs.Ytpnkedgppbcnhaa.Am.AV) (y : Nat) : o5 B o y = some [
    (((↑(n16 y) : Int)) : Int) = (Go.IntKind.wrap Go.IntKind.u64 ((↑y : Int) + Int.fdiv (↑y : Int) (2 ^ Min.min (Int.toNat 16) (Go.IntKind.bits Go.IntKind.u64))))] := by kernel_rfl
theorem o6_is (B : Bits) (o : Nat → Go.Proofs.Ytpnkedgppbcnhaa.Am.AV) (y : Nat) : o6 B o y = some [
    (((↑(n32 y) : Int)) : Int) = (Go.IntKind.wrap Go.IntKind.u64 ((↑y : Int) + Int.fdiv (↑y : Int) (2 ^ Min.min (Int.toNat 32) (Go.IntKind.bits Go.IntKind.u64))))] := by kernel_rfl
theorem o7_is (B : Bits) (o : Nat → Go.Proofs.Ytpnkedgppbcnhaa.Am.AV) (y : Nat) : o7 B o y = some [
    (((↑(y % 128) : Int)) : Int) = (B Go.BinOp.and Go.IntKind.i64 (Go.IntKind.wrap Go.IntKind.i64 (↑y : Int)) 127)] := by kernel_rfl
theorem mj_is (B : Bits) (p : Int → Nat) (R : Int → Bool) (s : Int) (c : Int) (v : Bool) : mj B p R s c v = some [
    (R (B Go.BinOp.and Go.IntKind.u64 s c)) = true,
    (R c) = true,
    (v) = Decidable.decide (Go.IntKind.wrap Go.IntKind.i64 (2 * (↑(p (B Go.BinOp.and Go.IntKind.u64 s c)) : Int)) > (↑(p c) : Int))] := by kernel_rfl
theorem aN_is (B : Bits) (M : Int → Int → Bool) (R : Int → Bool) (a : Nat) (b : Nat) (c : Nat) (nd : Int) : aN B M R a b c nd = some [
    (Decidable.decide (nd ≥ 0) == Bool.true) = true,
    (Decidable.decide (nd ≥ 0) == Bool.true) = true,
    (Decidable.decide (nd ≥ 0)) = true,
    (Decidable.decide (nd < 64)) = true,
    (!Decidable.decide (nd < 0)) = true,
    (R (↑a : Int)) = true,
    (R (↑c : Int)) = true,
    (!(M (↑a : Int) (↑c : Int) == Bool.true)) = true,
    (!(M (↑a : Int) (↑c : Int) == Bool.true)) = true,
    (!(M (↑a : Int) (↑c : Int) == Bool.true)) = true,
    (!(M (↑a : Int) (↑c : Int))) = true,
    (R (↑a : Int)) = true,
    (R (↑c : Int)) = true,
    (!((!M (↑a : Int) (↑c : Int)) == Bool.false)) = true,
    (!((!M (↑a : Int) (↑c : Int)) == Bool.false)) = true,
    (!((!M (↑a : Int) (↑c : Int)) == Bool.false)) = true,
    (!((!M (↑a : Int) (↑c : Int)) == Bool.false)) = true,
    (!M (↑a : Int) (↑c : Int)) = true,
    (true) = true] := by kernel_rfl
theorem aX_is (B : Bits) (M : Int → Int → Bool) (R : Int → Bool) (a : Nat) (b : Nat) (c : Nat) (nd : Int) : aX B M R a b c nd = some [
    (Decidable.decide (nd ≥ 0) == Bool.true) = true,
    (Decidable.decide (nd ≥ 0) == Bool.true) = true,
    (Decidable.decide (nd ≥ 0)) = true,
    (Decidable.decide (nd < 64)) = true,
    (!Decidable.decide (nd < 0)) = true,
    (R (↑a : Int)) = true,
    (R (↑c : Int)) = true,
    (M (↑a : Int) (↑c : Int) == Bool.true) = true,
    (M (↑a : Int) (↑c : Int) == Bool.true) = true,
    (M (↑a : Int) (↑c : Int) == Bool.true) = true,
    (R (↑b : Int)) = true,
    (R (↑c : Int)) = true,
    (M (↑a : Int) (↑c : Int)) = true,
    (M (↑b : Int) (↑c : Int) == Bool.true) = true,
    (M (↑b : Int) (↑c : Int) == Bool.true) = true,
    (M (↑b : Int) (↑c : Int) == Bool.true) = true,
    (M (↑b : Int) (↑c : Int) == Bool.true) = true,
    (M (↑b : Int) (↑c : Int) == Bool.true) = true,
    (M (↑b : Int) (↑c : Int) == Bool.true) = true,
    (M (↑b : Int) (↑c : Int)) = true,
    (!(B Go.BinOp.and Go.IntKind.u64 (B Go.BinOp.and Go.IntKind.u64 (↑a : Int) (↑b : Int)) (↑c : Int) == 0)) = true,
    (R (↑a : Int)) = true,
    (R (↑c : Int)) = true,
    ((!M (↑a : Int) (↑c : Int)) == Bool.false) = true,
    ((!M (↑a : Int) (↑c : Int)) == Bool.false) = true,
    ((!M (↑a : Int) (↑c : Int)) == Bool.false) = true,
    (R (↑b : Int)) = true,
    (R (B Go.BinOp.or Go.IntKind.u64 (↑c : Int) (Go.IntKind.wrap Go.IntKind.u64 (1 * 2 ^ Min.min (Int.toNat nd) (Go.IntKind.bits Go.IntKind.u64))))) = true,
    ((!M (↑a : Int) (↑c : Int)) == Bool.false) = true,
    (!(!M (↑a : Int) (↑c : Int))) = true,
    (!((!M (↑b : Int) (B Go.BinOp.or Go.IntKind.u64 (↑c : Int) (Go.IntKind.wrap Go.IntKind.u64 (1 * 2 ^ Min.min (Int.toNat nd) (Go.IntKind.bits Go.IntKind.u64))))) == Bool.false)) = true,
    (!((!M (↑b : Int) (B Go.BinOp.or Go.IntKind.u64 (↑c : Int) (Go.IntKind.wrap Go.IntKind.u64 (1 * 2 ^ Min.min (Int.toNat nd) (Go.IntKind.bits Go.IntKind.u64))))) == Bool.false)) = true,
    (!((!M (↑b : Int) (B Go.BinOp.or Go.IntKind.u64 (↑c : Int) (Go.IntKind.wrap Go.IntKind.u64 (1 * 2 ^ Min.min (Int.toNat nd) (Go.IntKind.bits Go.IntKind.u64))))) == Bool.false)) = true,
    (!((!M (↑b : Int) (B Go.BinOp.or Go.IntKind.u64 (↑c : Int) (Go.IntKind.wrap Go.IntKind.u64 (1 * 2 ^ Min.min (Int.toNat nd) (Go.IntKind.bits Go.IntKind.u64))))) == Bool.false)) = true,
    (!((!M (↑b : Int) (B Go.BinOp.or Go.IntKind.u64 (↑c : Int) (Go.IntKind.wrap Go.IntKind.u64 (1 * 2 ^ Min.min (Int.toNat nd) (Go.IntKind.bits Go.IntKind.u64))))) == Bool.false)) = true,
    (!((!M (↑b : Int) (B Go.BinOp.or Go.IntKind.u64 (↑c : Int) (Go.IntKind.wrap Go.IntKind.u64 (1 * 2 ^ Min.min (Int.toNat nd) (Go.IntKind.bits Go.IntKind.u64))))) == Bool.false)) = true,
    (!M (↑b : Int) (B Go.BinOp.or Go.IntKind.u64 (↑c : Int) (Go.IntKind.wrap Go.IntKind.u64 (1 * 2 ^ Min.min (Int.toNat nd) (Go.IntKind.bits Go.IntKind.u64))))) = true,
    (true) = true] := by kernel_rfl
theorem aY_is (B : Bits) (M : Int → Int → Bool) (R : Int → Bool) (a : Nat) (b : Nat) (c : Nat) (nd : Int) : aY B M R a b c nd = some [
    (Decidable.decide (nd ≥ 0) == Bool.true) = true,
    (Decidable.decide (nd ≥ 0) == Bool.true) = true,
    (Decidable.decide (nd ≥ 0)) = true,
    (Decidable.decide (nd < 64)) = true,
    (!Decidable.decide (nd < 0)) = true,
    (R (↑a : Int)) = true,
    (R (↑c : Int)) = true,
    (M (↑a : Int) (↑c : Int) == Bool.true) = true,
    (M (↑a : Int) (↑c : Int) == Bool.true) = true,
    (M (↑a : Int) (↑c : Int) == Bool.true) = true,
    (R (↑b : Int)) = true,
    (R (↑c : Int)) = true,
    (M (↑a : Int) (↑c : Int)) = true,
    (M (↑b : Int) (↑c : Int) == Bool.true) = true,
    (M (↑b : Int) (↑c : Int) == Bool.true) = true,
    (M (↑b : Int) (↑c : Int) == Bool.true) = true,
    (M (↑b : Int) (↑c : Int) == Bool.true) = true,
    (M (↑b : Int) (↑c : Int) == Bool.true) = true,
    (M (↑b : Int) (↑c : Int) == Bool.true) = true,
    (M (↑b : Int) (↑c : Int)) = true,
    (!(B Go.BinOp.and Go.IntKind.u64 (B Go.BinOp.and Go.IntKind.u64 (↑a : Int) (↑b : Int)) (↑c : Int) == 0)) = true,
    (R (↑a : Int)) = true,
    (R (↑c : Int)) = true,
    ((!M (↑a : Int) (↑c : Int)) == Bool.false) = true,
    ((!M (↑a : Int) (↑c : Int)) == Bool.false) = true,
    ((!M (↑a : Int) (↑c : Int)) == Bool.false) = true,
    (R (↑b : Int)) = true,
    (R (B Go.BinOp.or Go.IntKind.u64 (↑c : Int) (Go.IntKind.wrap Go.IntKind.u64 (1 * 2 ^ Min.min (Int.toNat nd) (Go.IntKind.bits Go.IntKind.u64))))) = true,
    ((!M (↑a : Int) (↑c : Int)) == Bool.false) = true,
    (!(!M (↑a : Int) (↑c : Int))) = true,
    ((!M (↑b : Int) (B Go.BinOp.or Go.IntKind.u64 (↑c : Int) (Go.IntKind.wrap Go.IntKind.u64 (1 * 2 ^ Min.min (Int.toNat nd) (Go.IntKind.bits Go.IntKind.u64))))) == Bool.false) = true,
    ((!M (↑b : Int) (B Go.BinOp.or Go.IntKind.u64 (↑c : Int) (Go.IntKind.wrap Go.IntKind.u64 (1 * 2 ^ Min.min (Int.toNat nd) (Go.IntKind.bits Go.IntKind.u64))))) == Bool.false) = true,
    ((!M (↑b : Int) (B Go.BinOp.or Go.IntKind.u64 (↑c : Int) (Go.IntKind.wrap Go.IntKind.u64 (1 * 2 ^ Min.min (Int.toNat nd) (Go.IntKind.bits Go.IntKind.u64))))) == Bool.false) = true,
    ((!M (↑b : Int) (B Go.BinOp.or Go.IntKind.u64 (↑c : Int) (Go.IntKind.wrap Go.IntKind.u64 (1 * 2 ^ Min.min (Int.toNat nd) (Go.IntKind.bits Go.IntKind.u64))))) == Bool.false) = true,
    ((!M (↑b : Int) (B Go.BinOp.or Go.IntKind.u64 (↑c : Int) (Go.IntKind.wrap Go.IntKind.u64 (1 * 2 ^ Min.min (Int.toNat nd) (Go.IntKind.bits Go.IntKind.u64))))) == Bool.false) = true,
    ((!M (↑b : Int) (B Go.BinOp.or Go.IntKind.u64 (↑c : Int) (Go.IntKind.wrap Go.IntKind.u64 (1 * 2 ^ Min.min (Int.toNat nd) (Go.IntKind.bits Go.IntKind.u64))))) == Bool.false) = true,
    (!(!M (↑b : Int) (B Go.BinOp.or Go.IntKind.u64 (↑c : Int) (Go.IntKind.wrap Go.IntKind.u64 (1 * 2 ^ Min.min (Int.toNat nd) (Go.IntKind.bits Go.IntKind.u64)))))) = true,
    ((B Go.BinOp.and Go.IntKind.u64 (B Go.BinOp.and Go.IntKind.u64 (↑a : Int) (↑b : Int)) (B Go.BinOp.or Go.IntKind.u64 (↑c : Int) (Go.IntKind.wrap Go.IntKind.u64 (1 * 2 ^ Min.min (Int.toNat nd) (Go.IntKind.bits Go.IntKind.u64)))) != 0) == Bool.true) = true,
    (B Go.BinOp.and Go.IntKind.u64 (B Go.BinOp.and Go.IntKind.u64 (↑a : Int) (↑b : Int)) (B Go.BinOp.or Go.IntKind.u64 (↑c : Int) (Go.IntKind.wrap Go.IntKind.u64 (1 * 2 ^ Min.min (Int.toNat nd) (Go.IntKind.bits Go.IntKind.u64)))) != 0) = true,
    (true) = true] := by kernel_rfl
theorem aU_is (B : Bits) (M : Int → Int → Bool) (R : Int → Bool) (a : Nat) (b : Nat) (c : Nat) (nd : Int) : aU B M R a b c nd = some [
    (Decidable.decide (nd ≥ 0) == Bool.true) = true,
    (Decidable.decide (nd ≥ 0) == Bool.true) = true,
    (Decidable.decide (nd ≥ 0)) = true,
    (Decidable.decide (nd < 64)) = true,
    (!Decidable.decide (nd < 0)) = true,
    (R (↑a : Int)) = true,
    (R (↑c : Int)) = true,
    (M (↑a : Int) (↑c : Int) == Bool.true) = true,
    (M (↑a : Int) (↑c : Int) == Bool.true) = true,
    (M (↑a : Int) (↑c : Int) == Bool.true) = true,
    (R (↑b : Int)) = true,
    (R (↑c : Int)) = true,
    (M (↑a : Int) (↑c : Int)) = true,
    (!(M (↑b : Int) (↑c : Int) == Bool.true)) = true,
    (!(M (↑b : Int) (↑c : Int) == Bool.true)) = true,
    (!(M (↑b : Int) (↑c : Int) == Bool.true)) = true,
    (!(M (↑b : Int) (↑c : Int) == Bool.true)) = true,
    (!(M (↑b : Int) (↑c : Int) == Bool.true)) = true,
    (!(M (↑b : Int) (↑c : Int) == Bool.true)) = true,
    (!(M (↑b : Int) (↑c : Int))) = true,
    (R (↑a : Int)) = true,
    (R (↑c : Int)) = true,
    ((!M (↑a : Int) (↑c : Int)) == Bool.false) = true,
    ((!M (↑a : Int) (↑c : Int)) == Bool.false) = true,
    ((!M (↑a : Int) (↑c : Int)) == Bool.false) = true,
    (R (↑b : Int)) = true,
    (R (B Go.BinOp.or Go.IntKind.u64 (↑c : Int) (Go.IntKind.wrap Go.IntKind.u64 (1 * 2 ^ Min.min (Int.toNat nd) (Go.IntKind.bits Go.IntKind.u64))))) = true,
    ((!M (↑a : Int) (↑c : Int)) == Bool.false) = true,
    (!(!M (↑a : Int) (↑c : Int))) = true,
    (!((!M (↑b : Int) (B Go.BinOp.or Go.IntKind.u64 (↑c : Int) (Go.IntKind.wrap Go.IntKind.u64 (1 * 2 ^ Min.min (Int.toNat nd) (Go.IntKind.bits Go.IntKind.u64))))) == Bool.false)) = true,
    (!((!M (↑b : Int) (B Go.BinOp.or Go.IntKind.u64 (↑c : Int) (Go.IntKind.wrap Go.IntKind.u64 (1 * 2 ^ Min.min (Int.toNat nd) (Go.IntKind.bits Go.IntKind.u64))))) == Bool.false)) = true,
    (!((!M (↑b : Int) (B Go.BinOp.or Go.IntKind.u64 (↑c : Int) (Go.IntKind.wrap Go.IntKind.u64 (1 * 2 ^ Min.min (Int.toNat nd) (Go.IntKind.bits Go.IntKind.u64))))) == Bool.false)) = true,
    (!((!M (↑b : Int) (B Go.BinOp.or Go.IntKind.u64 (↑c : Int) (Go.IntKind.wrap Go.IntKind.u64 (1 * 2 ^ Min.min (Int.toNat nd) (Go.IntKind.bits Go.IntKind.u64))))) == Bool.false)) = true,
    (!((!M (↑b : Int) (B Go.BinOp.or Go.IntKind.u64 (↑c : Int) (Go.IntKind.wrap Go.IntKind.u64 (1 * 2 ^ Min.min (Int.toNat nd) (Go.IntKind.bits Go.IntKind.u64))))) == Bool.false)) = true,
    (!((!M (↑b : Int) (B Go.BinOp.or Go.IntKind.u64 (↑c : Int) (Go.IntKind.wrap Go.IntKind.u64 (1 * 2 ^ Min.min (Int.toNat nd) (Go.IntKind.bits Go.IntKind.u64))))) == Bool.false)) = true,
    (!M (↑b : Int) (B Go.BinOp.or Go.IntKind.u64 (↑c : Int) (Go.IntKind.wrap Go.IntKind.u64 (1 * 2 ^ Min.min (Int.toNat nd) (Go.IntKind.bits Go.IntKind.u64))))) = true,
    (true) = true] := by kernel_rfl
theorem aV_is (B : Bits) (M : Int → Int → Bool) (R : Int → Bool) (a : Nat) (b : Nat) (c : Nat) (nd : Int) : aV B M R a b c nd = some [
    (Decidable.decide (nd ≥ 0) == Bool.true) = true,
    (Decidable.decide (nd ≥ 0) == Bool.true) = true,
    (Decidable.decide (nd ≥ 0)) = true,
    (Decidable.decide (nd < 64)) = true,
    (!Decidable.decide (nd < 0)) = true,
    (R (↑a : Int)) = true,
    (R (↑c : Int)) = true,
    (M (↑a : Int) (↑c : Int) == Bool.true) = true,
    (M (↑a : Int) (↑c : Int) == Bool.true) = true,
    (M (↑a : Int) (↑c : Int) == Bool.true) = true,
    (R (↑b : Int)) = true,
    (R (↑c : Int)) = true,
    (M (↑a : Int) (↑c : Int)) = true,
    (!(M (↑b : Int) (↑c : Int) == Bool.true)) = true,
    (!(M (↑b : Int) (↑c : Int) == Bool.true)) = true,
    (!(M (↑b : Int) (↑c : Int) == Bool.true)) = true,
    (!(M (↑b : Int) (↑c : Int) == Bool.true)) = true,
    (!(M (↑b : Int) (↑c : Int) == Bool.true)) = true,
    (!(M (↑b : Int) (↑c : Int) == Bool.true)) = true,
    (!(M (↑b : Int) (↑c : Int))) = true,
    (R (↑a : Int)) = true,
    (R (↑c : Int)) = true,
    ((!M (↑a : Int) (↑c : Int)) == Bool.false) = true,
    ((!M (↑a : Int) (↑c : Int)) == Bool.false) = true,
    ((!M (↑a : Int) (↑c : Int)) == Bool.false) = true,
    (R (↑b : Int)) = true,
    (R (B Go.BinOp.or Go.IntKind.u64 (↑c : Int) (Go.IntKind.wrap Go.IntKind.u64 (1 * 2 ^ Min.min (Int.toNat nd) (Go.IntKind.bits Go.IntKind.u64))))) = true,
    ((!M (↑a : Int) (↑c : Int)) == Bool.false) = true,
    (!(!M (↑a : Int) (↑c : Int))) = true,
    ((!M (↑b : Int) (B Go.BinOp.or Go.IntKind.u64 (↑c : Int) (Go.IntKind.wrap Go.IntKind.u64 (1 * 2 ^ Min.min (Int.toNat nd) (Go.IntKind.bits Go.IntKind.u64))))) == Bool.false) = true,
    ((!M (↑b : Int) (B Go.BinOp.or Go.IntKind.u64 (↑c : Int) (Go.IntKind.wrap Go.IntKind.u64 (1 * 2 ^ Min.min (Int.toNat nd) (Go.IntKind.bits Go.IntKind.u64))))) == Bool.false) = true,
    ((!M (↑b : Int) (B Go.BinOp.or Go.IntKind.u64 (↑c : Int) (Go.IntKind.wrap Go.IntKind.u64 (1 * 2 ^ Min.min (Int.toNat nd) (Go.IntKind.bits Go.IntKind.u64))))) == Bool.false) = true,
    ((!M (↑b : Int) (B Go.BinOp.or Go.IntKind.u64 (↑c : Int) (Go.IntKind.wrap Go.IntKind.u64 (1 * 2 ^ Min.min (Int.toNat nd) (Go.IntKind.bits Go.IntKind.u64))))) == Bool.false) = true,
    ((!M (↑b : Int) (B Go.BinOp.or Go.IntKind.u64 (↑c : Int) (Go.IntKind.wrap Go.IntKind.u64 (1 * 2 ^ Min.min (Int.toNat nd) (Go.IntKind.bits Go.IntKind.u64))))) == Bool.false) = true,
    ((!M (↑b : Int) (B Go.BinOp.or Go.IntKind.u64 (↑c : Int) (Go.IntKind.wrap Go.IntKind.u64 (1 * 2 ^ Min.min (Int.toNat nd) (Go.IntKind.bits Go.IntKind.u64))))) == Bool.false) = true,
    (!(!M (↑b : Int) (B Go.BinOp.or Go.IntKind.u64 (↑c : Int) (Go.IntKind.wrap Go.IntKind.u64 (1 * 2 ^ Min.min (Int.toNat nd) (Go.IntKind.bits Go.IntKind.u64)))))) = true,
    ((B Go.BinOp.and Go.IntKind.u64 (B Go.BinOp.and Go.IntKind.u64 (↑a : Int) (↑b : Int)) (B Go.BinOp.or Go.IntKind.u64 (↑c : Int) (Go.IntKind.wrap Go.IntKind.u64 (1 * 2 ^ Min.min (Int.toNat nd) (Go.IntKind.bits Go.IntKind.u64)))) != 0) == Bool.true) = true,
    (B Go.BinOp.and Go.IntKind.u64 (B Go.BinOp.and Go.IntKind.u64 (↑a : Int) (↑b : Int)) (B Go.BinOp.or Go.IntKind.u64 (↑c : Int) (Go.IntKind.wrap Go.IntKind.u64 (1 * 2 ^ Min.min (Int.toNat nd) (Go.IntKind.bits Go.IntKind.u64)))) != 0) = true,
    (true) = true] := by kernel_rfl
theorem hN_is (B : Bits) (M : Int → Int → Bool) (R : Int → Bool) (a : Nat) (b : Nat) (c : Nat) (nd : Int) : hN B M R a b c nd = some [
    (Decidable.decide (nd ≥ 0) == Bool.true) = true,
    (Decidable.decide (nd ≥ 0) == Bool.true) = true,
    (Decidable.decide (nd ≥ 0)) = true,
    (!(Decidable.decide (nd < 64))) = true,
    (R (↑a : Int)) = true,
    (R (↑c : Int)) = true,
    (!(M (↑a : Int) (↑c : Int) == Bool.true)) = true,
    (!(M (↑a : Int) (↑c : Int) == Bool.true)) = true,
    (!(M (↑a : Int) (↑c : Int) == Bool.true)) = true,
    (!(M (↑a : Int) (↑c : Int))) = true,
    (R (↑a : Int)) = true,
    (R (↑c : Int)) = true,
    (!((!M (↑a : Int) (↑c : Int)) == Bool.false)) = true,
    (!((!M (↑a : Int) (↑c : Int)) == Bool.false)) = true,
    (!((!M (↑a : Int) (↑c : Int)) == Bool.false)) = true,
    (!((!M (↑a : Int) (↑c : Int)) == Bool.false)) = true,
    (!M (↑a : Int) (↑c : Int)) = true,
    (true) = true] := by kernel_rfl
theorem hY_is (B : Bits) (M : Int → Int → Bool) (R : Int → Bool) (a : Nat) (b : Nat) (c : Nat) (nd : Int) : hY B M R a b c nd = some [
    (Decidable.decide (nd ≥ 0) == Bool.true) = true,
    (Decidable.decide (nd ≥ 0) == Bool.true) = true,
    (Decidable.decide (nd ≥ 0)) = true,
    (!(Decidable.decide (nd < 64))) = true,
    (R (↑a : Int)) = true,
    (R (↑c : Int)) = true,
    (M (↑a : Int) (↑c : Int) == Bool.true) = true,
    (M (↑a : Int) (↑c : Int) == Bool.true) = true,
    (M (↑a : Int) (↑c : Int) == Bool.true) = true,
    (R (↑b : Int)) = true,
    (R (↑c : Int)) = true,
    (M (↑a : Int) (↑c : Int)) = true,
    (M (↑b : Int) (↑c : Int) == Bool.true) = true,
    (M (↑b : Int) (↑c : Int) == Bool.true) = true,
    (M (↑b : Int) (↑c : Int) == Bool.true) = true,
    (M (↑b : Int) (↑c : Int) == Bool.true) = true,
    (M (↑b : Int) (↑c : Int) == Bool.true) = true,
    (M (↑b : Int) (↑c : Int) == Bool.true) = true,
    (M (↑b : Int) (↑c : Int)) = true,
    (!(B Go.BinOp.and Go.IntKind.u64 (B Go.BinOp.and Go.IntKind.u64 (↑a : Int) (↑b : Int)) (↑c : Int) == 0)) = true,
    (R (↑a : Int)) = true,
    (R (↑c : Int)) = true,
    ((!M (↑a : Int) (↑c : Int)) == Bool.false) = true,
    ((!M (↑a : Int) (↑c : Int)) == Bool.false) = true,
    ((!M (↑a : Int) (↑c : Int)) == Bool.false) = true,
    (R (↑b : Int)) = true,
    (R (↑c : Int)) = true,
    ((!M (↑a : Int) (↑c : Int)) == Bool.false) = true,
    (!(!M (↑a : Int) (↑c : Int))) = true,
    ((!M (↑b : Int) (↑c : Int)) == Bool.false) = true,
    ((!M (↑b : Int) (↑c : Int)) == Bool.false) = true,
    ((!M (↑b : Int) (↑c : Int)) == Bool.false) = true,
    ((!M (↑b : Int) (↑c : Int)) == Bool.false) = true,
    ((!M (↑b : Int) (↑c : Int)) == Bool.false) = true,
    ((!M (↑b : Int) (↑c : Int)) == Bool.false) = true,
    (!(!M (↑b : Int) (↑c : Int))) = true,
    ((B Go.BinOp.and Go.IntKind.u64 (B Go.BinOp.and Go.IntKind.u64 (↑a : Int) (↑b : Int)) (↑c : Int) != 0) == Bool.true) = true,
    (B Go.BinOp.and Go.IntKind.u64 (B Go.BinOp.and Go.IntKind.u64 (↑a : Int) (↑b : Int)) (↑c : Int) != 0) = true,
    (true) = true] := by kernel_rfl
theorem hU_is (B : Bits) (M : Int → Int → Bool) (R : Int → Bool) (a : Nat) (b : Nat) (c : Nat) (nd : Int) : hU B M R a b c nd = some [
    (Decidable.decide (nd ≥ 0) == Bool.true) = true,
    (Decidable.decide (nd ≥ 0) == Bool.true) = true,
    (Decidable.decide (nd ≥ 0)) = true,
    (!(Decidable.decide (nd < 64))) = true,
    (R (↑a : Int)) = true,
    (R (↑c : Int)) = true,
    (M (↑a : Int) (↑c : Int) == Bool.true) = true,
    (M (↑a : Int) (↑c : Int) == Bool.true) = true,
    (M (↑a : Int) (↑c : Int) == Bool.true) = true,
    (R (↑b : Int)) = true,
    (R (↑c : Int)) = true,
    (M (↑a : Int) (↑c : Int)) = true,
    (!(M (↑b : Int) (↑c : Int) == Bool.true)) = true,
    (!(M (↑b : Int) (↑c : Int) == Bool.true)) = true,
    (!(M (↑b : Int) (↑c : Int) == Bool.true)) = true,
    (!(M (↑b : Int) (↑c : Int) == Bool.true)) = true,
    (!(M (↑b : Int) (↑c : Int) == Bool.true)) = true,
    (!(M (↑b : Int) (↑c : Int) == Bool.true)) = true,
    (!(M (↑b : Int) (↑c : Int))) = true,
    (R (↑a : Int)) = true,
    (R (↑c : Int)) = true,
    ((!M (↑a : Int) (↑c : Int)) == Bool.false) = true,
    ((!M (↑a : Int) (↑c : Int)) == Bool.false) = true,
    ((!M (↑a : Int) (↑c : Int)) == Bool.false) = true,
    (R (↑b : Int)) = true,
    (R (↑c : Int)) = true,
    ((!M (↑a : Int) (↑c : Int)) == Bool.false) = true,
    (!(!M (↑a : Int) (↑c : Int))) = true,
    (!((!M (↑b : Int) (↑c : Int)) == Bool.false)) = true,
    (!((!M (↑b : Int) (↑c : Int)) == Bool.false)) = true,
    (!((!M (↑b : Int) (↑c : Int)) == Bool.false)) = true,
    (!((!M (↑b : Int) (↑c : Int)) == Bool.false)) = true,
    (!((!M (↑b : Int) (↑c : Int)) == Bool.false)) = true,
    (!((!M (↑b : Int) (↑c : Int)) == Bool.false)) = true,
    (!M (↑b : Int) (↑c : Int)) = true,
    (true) = true] := by kernel_rfl
theorem lN_is (B : Bits) (M : Int → Int → Bool) (R : Int → Bool) (a : Nat) (b : Nat) (c : Nat) (nd : Int) : lN B M R a b c nd = some [
    (!(Decidable.decide (nd ≥ 0) == Bool.true)) = true,
    (!(Decidable.decide (nd ≥ 0) == Bool.true)) = true,
    (!(Decidable.decide (nd ≥ 0))) = true,
    (R (↑a : Int)) = true,
    (R (↑c : Int)) = true,
    (!(M (↑a : Int) (↑c : Int) == Bool.true)) = true,
    (!(M (↑a : Int) (↑c : Int) == Bool.true)) = true,
    (!(M (↑a : Int) (↑c : Int) == Bool.true)) = true,
    (!(M (↑a : Int) (↑c : Int))) = true,
    (R (↑a : Int)) = true,
    (R (↑c : Int)) = true,
    (!((!M (↑a : Int) (↑c : Int)) == Bool.false)) = true,
    (!((!M (↑a : Int) (↑c : Int)) == Bool.false)) = true,
    (!((!M (↑a : Int) (↑c : Int)) == Bool.false)) = true,
    (!((!M (↑a : Int) (↑c : Int)) == Bool.false)) = true,
    (!M (↑a : Int) (↑c : Int)) = true,
    (true) = true] := by kernel_rfl
theorem lY_is (B : Bits) (M : Int → Int → Bool) (R : Int → Bool) (a : Nat) (b : Nat) (c : Nat) (nd : Int) : lY B M R a b c nd = some [
    (!(Decidable.decide (nd ≥ 0) == Bool.true)) = true,
    (!(Decidable.decide (nd ≥ 0) == Bool.true)) = true,
    (!(Decidable.decide (nd ≥ 0))) = true,
    (R (↑a : Int)) = true,
    (R (↑c : Int)) = true,
    (M (↑a : Int) (↑c : Int) == Bool.true) = true,
    (M (↑a : Int) (↑c : Int) == Bool.true) = true,
    (M (↑a : Int) (↑c : Int) == Bool.true) = true,
    (R (↑b : Int)) = true,
    (R (↑c : Int)) = true,
    (M (↑a : Int) (↑c : Int)) = true,
    (M (↑b : Int) (↑c : Int) == Bool.true) = true,
    (M (↑b : Int) (↑c : Int) == Bool.true) = true,
    (M (↑b : Int) (↑c : Int) == Bool.true) = true,
    (M (↑b : Int) (↑c : Int) == Bool.true) = true,
    (M (↑b : Int) (↑c : Int) == Bool.true) = true,
    (M (↑b : Int) (↑c : Int) == Bool.true) = true,
    (M (↑b : Int) (↑c : Int)) = true,
    (!(B Go.BinOp.and Go.IntKind.u64 (B Go.BinOp.and Go.IntKind.u64 (↑a : Int) (↑b : Int)) (↑c : Int) == 0)) = true,
    (R (↑a : Int)) = true,
    (R (↑c : Int)) = true,
    ((!M (↑a : Int) (↑c : Int)) == Bool.false) = true,
    ((!M (↑a : Int) (↑c : Int)) == Bool.false) = true,
    ((!M (↑a : Int) (↑c : Int)) == Bool.false) = true,
    (R (↑b : Int)) = true,
    (R (↑c : Int)) = true,
    ((!M (↑a : Int) (↑c : Int)) == Bool.false) = true,
    (!(!M (↑a : Int) (↑c : Int))) = true,
    ((!M (↑b : Int) (↑c : Int)) == Bool.false) = true,
    ((!M (↑b : Int) (↑c : Int)) == Bool.false) = true,
    ((!M (↑b : Int) (↑c : Int)) == Bool.false) = true,
    ((!M (↑b : Int) (↑c : Int)) == Bool.false) = true,
    ((!M (↑b : Int) (↑c : Int)) == Bool.false) = true,
    ((!M (↑b : Int) (↑c : Int)) == Bool.false) = true,
    (!(!M (↑b : Int) (↑c : Int))) = true,
    ((B Go.BinOp.and Go.IntKind.u64 (B Go.BinOp.and Go.IntKind.u64 (↑a : Int) (↑b : Int)) (↑c : Int) != 0) == Bool.true) = true,
    (B Go.BinOp.and Go.IntKind.u64 (B Go.BinOp.and Go.IntKind.u64 (↑a : Int) (↑b : Int)) (↑c : Int) != 0) = true,
    (true) = true] := by kernel_rfl
theorem lU_is (B : Bits) (M : Int → Int → Bool) (R : Int → Bool) (a : Nat) (b : Nat) (c : Nat) (nd : Int) : lU B M R a b c nd = some [
    (!(Decidable.decide (nd ≥ 0) == Bool.true)) = true,
    (!(Decidable.decide (nd ≥ 0) == Bool.true)) = true,
    (!(Decidable.decide (nd ≥ 0))) = true,
    (R (↑a : Int)) = true,
    (R (↑c : Int)) = true,
    (M (↑a : Int) (↑c : Int) == Bool.true) = true,
    (M (↑a : Int) (↑c : Int) == Bool.true) = true,
    (M (↑a : Int) (↑c : Int) == Bool.true) = true,
    (R (↑b : Int)) = true,
    (R (↑c : Int)) = true,
    (M (↑a : Int) (↑c : Int)) = true,
    (!(M (↑b : Int) (↑c : Int) == Bool.true)) = true,
    (!(M (↑b : Int) (↑c : Int) == Bool.true)) = true,
    (!(M (↑b : Int) (↑c : Int) == Bool.true)) = true,
    (!(M (↑b : Int) (↑c : Int) == Bool.true)) = true,
    (!(M (↑b : Int) (↑c : Int) == Bool.true)) = true,
    (!(M (↑b : Int) (↑c : Int) == Bool.true)) = true,
    (!(M (↑b : Int) (↑c : Int))) = true,
    (R (↑a : Int)) = true,
    (R (↑c : Int)) = true,
    ((!M (↑a : Int) (↑c : Int)) == Bool.false) = true,
    ((!M (↑a : Int) (↑c : Int)) == Bool.false) = true,
    ((!M (↑a : Int) (↑c : Int)) == Bool.false) = true,
    (R (↑b : Int)) = true,
    (R (↑c : Int)) = true,
    ((!M (↑a : Int) (↑c : Int)) == Bool.false) = true,
    (!(!M (↑a : Int) (↑c : Int))) = true,
    (!((!M (↑b : Int) (↑c : Int)) == Bool.false)) = true,
    (!((!M (↑b : Int) (↑c : Int)) == Bool.false)) = true,
    (!((!M (↑b : Int) (↑c : Int)) == Bool.false)) = true,
    (!((!M (↑b : Int) (↑c : Int)) == Bool.false)) = true,
    (!((!M (↑b : Int) (↑c : Int)) == Bool.false)) = true,
    (!((!M (↑b : Int) (↑c : Int)) == Bool.false)) = true,
    (!M (↑b : Int) (↑c : Int)) = true,
    (true) = true] := by kernel_rfl
end Go.Proofs.Ytpnkedgppbcnhaa.quorumMeet
