/- The paths through the law QuorumCount: what each comes to, and what must hold for it. -/
import Derived.Test.YtpnkedgppbcnhaaRows
import Derived.Test.YtpnkedgppbcnhaaAmVd
import Derived.KernelRfl
set_option linter.unusedSimpArgs false
set_option linter.unusedVariables false
namespace Go.Proofs.Ytpnkedgppbcnhaa.quorumCount
open Go Go.Proofs.Ytpnkedgppbcnhaa.Am
noncomputable def E0 : Env := mkEnv Try.prog 83 61
/-- How many of the first n rows are x. -/
def cnt (f : Nat → Nat → AV) (off : Nat) (x : Int) : Nat → Nat
  | 0 => 0
  | n + 1 => cnt f off x n + (if (f (off + n) 0).toI = x then 1 else 0)
def cntRun (args : List AV) (σ : St) : Option (AV × St × List Bool) :=
  match args with
  | [.tsl id off len _ es _, .int .u8 x] => match σ.get id with
    | some (.tarr sh n f _) => cond (shBeq [.int .u8] sh && Nat.beq es 1) (some (.int .i64 (cnt f off x len), σ, [Nat.ble (off + len) n, Nat.ble len 1000])) none
    | _ => none
  | _ => none
def cntI : Intr := { dec := fun _ _ => true, run := fun _ => cntRun }
noncomputable def E : Env := { E0 with intr := fun f => cond (Nat.beq f 20) (some cntI) none }
noncomputable def csC : List Code := codeOf E0 20
noncomputable def preC : List Code := csC.take 2
noncomputable def bodyC : Code := loopOf csC 2
noncomputable def postC : List Code := csC.drop 3
noncomputable def cs : List Code := codeOf E0 6
noncomputable def pre : List Code := cs.take 5
noncomputable def body1 : Code := loopOf cs 5
noncomputable def mid : List Code := (cs.drop 6).take 1
noncomputable def body2 : Code := loopOf cs 7
noncomputable def post : List Code := cs.drop 8
def holes (n : Nat) : List (Option AV) := List.replicate n none
def arr (n : Nat) (f : Nat → Nat → AV) : AObj := .tarr [.int .u8] n f false
def LC (i c n : Nat) (x : Int) : List (Option AV) := [none, some (.int .u8 x), none, none, some (.int .i64 c), none, none, some (.tsl 0 0 n n 1 true), some (.int .i64 n), some (.int .i64 i)] ++ holes 10
def LC9 (c : Nat) : List (Option AV) := holes 4 ++ [some (.int .i64 c)] ++ holes 15
def L1 (i k n : Nat) (x : Int) : List (Option AV) := [some (.tsl 0 0 n n 1 true), some (.int .u8 x), none, none, none, some (.int .i64 k), some (.int .i64 0)] ++ holes 7 ++ [some (.tsl 0 0 n n 1 true), some (.int .i64 n), some (.int .i64 i)] ++ holes 33
def L2 (y all k n : Nat) (x : Int) : List (Option AV) := [some (.tsl 0 0 n n 1 true), some (.int .u8 x), none, none, none, some (.int .i64 k), some (.int .i64 all)] ++ holes 19 ++ [some (.int .i64 y)] ++ holes 23
def L9 : List (Option AV) := holes 4 ++ [some (.bool true)] ++ holes 45
noncomputable def c0 (o : Nat → AV) (i c n : Nat) (x : Int) (f : Nat → Nat → AV) : Option (List Prop) :=
  pathB E0 1000 bodyC (frO (LC i c n x) o) (stC [some (arr n f)]) [(0, true), (1, true), (0, true), (0, true)] .normal [0] (LC (i + 1) (c + 1) n x) ([some (arr n f)])
noncomputable def c1 (o : Nat → AV) (i c n : Nat) (x : Int) (f : Nat → Nat → AV) : Option (List Prop) :=
  pathB E0 1000 bodyC (frO (LC i c n x) o) (stC [some (arr n f)]) [(0, true), (1, true), (0, true), (0, false)] .normal [0] (LC (i + 1) c n x) ([some (arr n f)])
noncomputable def cx (o : Nat → AV) (i c n : Nat) (x : Int) (f : Nat → Nat → AV) : Option (List Prop) :=
  pathB E0 1000 bodyC (frO (LC i c n x) o) (stC [some (arr n f)]) [(0, false)] (.exit 0) [0] (LC i c n x) ([some (arr n f)])
noncomputable def cp (n : Nat) (x : Int) (f : Nat → Nat → AV) : Option (List Prop) :=
  pathB E0 1000 (seqs preC) ({ tmps := Tr.ofList [.tsl 0 0 n n 1 true, .int .u8 x] 0 .nil, size := 20, marks := [], rnd := none }) (stC [some (arr n f)]) [] .normal [0] (LC 0 0 n x) ([some (arr n f)])
noncomputable def cz (o : Nat → AV) (i c n : Nat) (x : Int) (f : Nat → Nat → AV) : Option (List Prop) :=
  pathB E0 1000 (seqs postC) (frO (LC i c n x) o) (stC [some (arr n f)]) [] .ret [] (LC9 c) ([])
noncomputable def a0 (o : Nat → AV) (i k n : Nat) (x : Int) (f : Nat → Nat → AV) : Option (List Prop) :=
  pathB E 1000 body1 (frO (L1 i k n x) o) (stC [some (arr n f)]) [(0, true), (1, true), (0, true), (0, true)] .normal [0] (L1 (i + 1) (k + 1) n x) ([some (arr n f)])
noncomputable def a1 (o : Nat → AV) (i k n : Nat) (x : Int) (f : Nat → Nat → AV) : Option (List Prop) :=
  pathB E 1000 body1 (frO (L1 i k n x) o) (stC [some (arr n f)]) [(0, true), (1, true), (0, true), (0, false)] .normal [0] (L1 (i + 1) k n x) ([some (arr n f)])
noncomputable def ax (o : Nat → AV) (i k n : Nat) (x : Int) (f : Nat → Nat → AV) : Option (List Prop) :=
  pathB E 1000 body1 (frO (L1 i k n x) o) (stC [some (arr n f)]) [(0, false)] (.exit 0) [0] (L1 i k n x) ([some (arr n f)])
noncomputable def m0 (o : Nat → AV) (i k n : Nat) (x : Int) (f : Nat → Nat → AV) : Option (List Prop) :=
  pathB E 1000 (seqs mid) (frO (L1 i k n x) o) (stC [some (arr n f)]) [] .normal [0] (L2 0 0 k n x) ([some (arr n f)])
noncomputable def p0 (n : Nat) (x : Int) (f : Nat → Nat → AV) : Option (List Prop) :=
  pathB E 3000 (seqs pre) ({ tmps := Tr.ofList [.tsl 0 0 n n 1 true, .int .u8 x] 0 .nil, size := 50, marks := [], rnd := none }) (stC [some (arr n f)]) [(0, true)] .ret [] (L9) ([])
noncomputable def p1 (n : Nat) (x : Int) (f : Nat → Nat → AV) : Option (List Prop) :=
  pathB E 1000 (seqs pre) ({ tmps := Tr.ofList [.tsl 0 0 n n 1 true, .int .u8 x] 0 .nil, size := 50, marks := [], rnd := none }) (stC [some (arr n f)]) [(0, false)] .normal [0] (L1 0 0 n x) ([some (arr n f)])
noncomputable def b0 (o : Nat → AV) (y all k n : Nat) (x : Int) (f : Nat → Nat → AV) : Option (List Prop) :=
  pathB E 1000 body2 (frO (L2 y all k n x) o) (stC [some (arr n f)]) [(0, true), (1, true), (0, true)] .normal [0] (L2 (y + 1) (all + cnt f 0 (y : Int) n) k n x) ([some (arr n f)])
noncomputable def bx (o : Nat → AV) (y all k n : Nat) (x : Int) (f : Nat → Nat → AV) : Option (List Prop) :=
  pathB E 1000 body2 (frO (L2 y all k n x) o) (stC [some (arr n f)]) [(0, false)] (.exit 2) [0] (L2 y all k n x) ([some (arr n f)])
noncomputable def e0 (o : Nat → AV) (y all k n : Nat) (x : Int) (f : Nat → Nat → AV) : Option (List Prop) :=
  pathB E 3000 (seqs post) (frO (L2 y all k n x) o) (stC [some (arr n f)]) [(1, true), (0, true), (0, true), (0, true), (0, true), (0, true), (0, true), (0, true), (894, true)] .ret [] (L9) ([])
theorem c0_is (o : Nat → Go.Proofs.Ytpnkedgppbcnhaa.Am.AV) (i : Nat) (c : Nat) (n : Nat) (x : Int) (f : Nat → Nat → Go.Proofs.Ytpnkedgppbcnhaa.Am.AV) : c0 o i c n x f = some [
    (Decidable.decide ((↑i : Int) < (↑n : Int))) = true,
    (Decidable.decide ((↑i : Int) < (↑n : Int))) = true,
    (Nat.blt (0 + Int.toNat (↑i : Int)) n) = true,
    (Go.Proofs.Ytpnkedgppbcnhaa.Am.AV.toI (f (0 + Int.toNat (↑i : Int)) 0) == x) = true,
    ((x) : Int) = (x),
    (((↑(c + 1) : Int)) : Int) = (Go.IntKind.wrap Go.IntKind.i64 ((↑c : Int) + 1)),
    ((0) : Nat) = (0),
    ((n) : Nat) = (n),
    capP (true) (n) (n) (n),
    (((↑n : Int)) : Int) = ((↑n : Int)),
    (((↑(i + 1) : Int)) : Int) = (Go.IntKind.wrap Go.IntKind.i64 ((↑i : Int) + 1)),
    ((n) : Nat) ≤ (n),
    (∀ (p_ q_ : Nat), p_ < (n) → (f) p_ q_ = (f) p_ q_)] := by kernel_rfl
theorem c1_is (o : Nat → Go.Proofs.Ytpnkedgppbcnhaa.Am.AV) (i : Nat) (c : Nat) (n : Nat) (x : Int) (f : Nat → Nat → Go.Proofs.Ytpnkedgppbcnhaa.Am.AV) : c1 o i c n x f = some [
    (Decidable.decide ((↑i : Int) < (↑n : Int))) = true,
    (Decidable.decide ((↑i : Int) < (↑n : Int))) = true,
    (Nat.blt (0 + Int.toNat (↑i : Int)) n) = true,
    (!(Go.Proofs.Ytpnkedgppbcnhaa.Am.AV.toI (f (0 + Int.toNat (↑i : Int)) 0) == x)) = true,
    ((x) : Int) = (x),
    (((↑c : Int)) : Int) = ((↑c : Int)),
    ((0) : Nat) = (0),
    ((n) : Nat) = (n),
    capP (true) (n) (n) (n),
    (((↑n : Int)) : Int) = ((↑n : Int)),
    (((↑(i + 1) : Int)) : Int) = (Go.IntKind.wrap Go.IntKind.i64 ((↑i : Int) + 1)),
    ((n) : Nat) ≤ (n),
    (∀ (p_ q_ : Nat), p_ < (n) → (f) p_ q_ = (f) p_ q_)] := by kernel_rfl
theorem cx_is (o : Nat → Go.Proofs.Ytpnkedgppbcnhaa.Am.AV) (i : Nat) (c : Nat) (n : Nat) (x : Int) (f : Nat → Nat → Go.Proofs.Ytpnkedgppbcnhaa.Am.AV) : cx o i c n x f = some [
    (!(Decidable.decide ((↑i : Int) < (↑n : Int)))) = true,
    ((x) : Int) = (x),
    (((↑c : Int)) : Int) = ((↑c : Int)),
    ((0) : Nat) = (0),
    ((n) : Nat) = (n),
    capP (true) (n) (n) (n),
    (((↑n : Int)) : Int) = ((↑n : Int)),
    (((↑i : Int)) : Int) = ((↑i : Int)),
    ((n) : Nat) ≤ (n),
    (∀ (p_ q_ : Nat), p_ < (n) → (f) p_ q_ = (f) p_ q_)] := by kernel_rfl
theorem cp_is (n : Nat) (x : Int) (f : Nat → Nat → Go.Proofs.Ytpnkedgppbcnhaa.Am.AV) : cp n x f = some [
    ((x) : Int) = (x),
    ((0) : Int) = (0),
    ((0) : Nat) = (0),
    ((n) : Nat) = (n),
    capP (true) (n) (n) (n),
    (((↑n : Int)) : Int) = ((↑n : Int)),
    ((0) : Int) = (0),
    ((n) : Nat) ≤ (n),
    (∀ (p_ q_ : Nat), p_ < (n) → (f) p_ q_ = (f) p_ q_)] := by kernel_rfl
theorem cz_is (o : Nat → Go.Proofs.Ytpnkedgppbcnhaa.Am.AV) (i : Nat) (c : Nat) (n : Nat) (x : Int) (f : Nat → Nat → Go.Proofs.Ytpnkedgppbcnhaa.Am.AV) : cz o i c n x f = some [
    (((↑c : Int)) : Int) = ((↑c : Int))] := by kernel_rfl
theorem a0_is (o : Nat → Go.Proofs.Ytpnkedgppbcnhaa.Am.AV) (i : Nat) (k : Nat) (n : Nat) (x : Int) (f : Nat → Nat → Go.Proofs.Ytpnkedgppbcnhaa.Am.AV) : a0 o i k n x f = some [
    (Decidable.decide ((↑i : Int) < (↑n : Int))) = true,
    (Decidable.decide ((↑i : Int) < (↑n : Int))) = true,
    (Nat.blt (0 + Int.toNat (↑i : Int)) n) = true,
    (Go.Proofs.Ytpnkedgppbcnhaa.Am.AV.toI (f (0 + Int.toNat (↑i : Int)) 0) == x) = true,
    ((0) : Nat) = (0),
    ((n) : Nat) = (n),
    capP (true) (n) (n) (n),
    ((x) : Int) = (x),
    (((↑(k + 1) : Int)) : Int) = (Go.IntKind.wrap Go.IntKind.i64 ((↑k : Int) + 1)),
    ((0) : Int) = (0),
    ((0) : Nat) = (0),
    ((n) : Nat) = (n),
    capP (true) (n) (n) (n),
    (((↑n : Int)) : Int) = ((↑n : Int)),
    (((↑(i + 1) : Int)) : Int) = (Go.IntKind.wrap Go.IntKind.i64 ((↑i : Int) + 1)),
    ((n) : Nat) ≤ (n),
    (∀ (p_ q_ : Nat), p_ < (n) → (f) p_ q_ = (f) p_ q_)] := by kernel_rfl
theorem a1_is (o : Nat → Go.Proofs.Ytpnkedgppbcnhaa.Am.AV) (i : Nat) (k : Nat) (n : Nat) (x : Int) (f : Nat → Nat → Go.Proofs.Ytpnkedgppbcnhaa.Am.AV) : a1 o i k n x f = some [
    (Decidable.decide ((↑i : Int) < (↑n : Int))) = true,
    (Decidable.decide ((↑i : Int) < (↑n : Int))) = true,
    (Nat.blt (0 + Int.toNat (↑i : Int)) n) = true,
    (!(Go.Proofs.Ytpnkedgppbcnhaa.Am.AV.toI (f (0 + Int.toNat (↑i : Int)) 0) == x)) = true,
    ((0) : Nat) = (0),
    ((n) : Nat) = (n),
    capP (true) (n) (n) (n),
    ((x) : Int) = (x),
    (((↑k : Int)) : Int) = ((↑k : Int)),
    ((0) : Int) = (0),
    ((0) : Nat) = (0),
    ((n) : Nat) = (n),
    capP (true) (n) (n) (n),
    (((↑n : Int)) : Int) = ((↑n : Int)),
    (((↑(i + 1) : Int)) : Int) = (Go.IntKind.wrap Go.IntKind.i64 ((↑i : Int) + 1)),
    ((n) : Nat) ≤ (n),
    (∀ (p_ q_ : Nat), p_ < (n) → (f) p_ q_ = (f) p_ q_)] := by kernel_rfl
theorem ax_is (o : Nat → Go.Proofs.Ytpnkedgppbcnhaa.Am.AV) (i : Nat) (k : Nat) (n : Nat) (x : Int) (f : Nat → Nat → Go.Proofs.Ytpnkedgppbcnhaa.Am.AV) : ax o i k n x f = some [
    (!(Decidable.decide ((↑i : Int) < (↑n : Int)))) = true,
    ((0) : Nat) = (0),
    ((n) : Nat) = (n),
    capP (true) (n) (n) (n),
    ((x) : Int) = (x),
    (((↑k : Int)) : Int) = ((↑k : Int)),
    ((0) : Int) = (0),
    ((0) : Nat) = (0),
    ((n) : Nat) = (n),
    capP (true) (n) (n) (n),
    (((↑n : Int)) : Int) = ((↑n : Int)),
    (((↑i : Int)) : Int) = ((↑i : Int)),
    ((n) : Nat) ≤ (n),
    (∀ (p_ q_ : Nat), p_ < (n) → (f) p_ q_ = (f) p_ q_)] := by kernel_rfl
theorem m0_is (o : Nat → Go.Proofs.Ytpnkedgppbcnhaa.Am.AV) (i : Nat) (k : Nat) (n : Nat) (x : Int) (f : Nat → Nat → Go.Proofs.Ytpnkedgppbcnhaa.Am.AV) : m0 o i k n x f = some [
    ((0) : Nat) = (0),
    ((n) : Nat) = (n),
    capP (true) (n) (n) (n),
    ((x) : Int) = (x),
    (((↑k : Int)) : Int) = ((↑k : Int)),
    ((0) : Int) = (0),
    ((0) : Int) = (0),
    ((n) : Nat) ≤ (n),
    (∀ (p_ q_ : Nat), p_ < (n) → (f) p_ q_ = (f) p_ q_)] := by kernel_rfl
theorem p0_is (n : Nat) (x : Int) (f : Nat → Nat → Go.Proofs.Ytpnkedgppbcnhaa.Am.AV) : p0 n x f = some [
    (Decidable.decide ((↑n : Int) > 1000)) = true,
    (true) = true] := by kernel_rfl
theorem p1_is (n : Nat) (x : Int) (f : Nat → Nat → Go.Proofs.Ytpnkedgppbcnhaa.Am.AV) : p1 n x f = some [
    (!(Decidable.decide ((↑n : Int) > 1000))) = true,
    ((0) : Nat) = (0),
    ((n) : Nat) = (n),
    capP (true) (n) (n) (n),
    ((x) : Int) = (x),
    ((0) : Int) = (0),
    ((0) : Int) = (0),
    ((0) : Nat) = (0),
    ((n) : Nat) = (n),
    capP (true) (n) (n) (n),
    (((↑n : Int)) : Int) = ((↑n : Int)),
    ((0) : Int) = (0),
    ((n) : Nat) ≤ (n),
    (∀ (p_ q_ : Nat), p_ < (n) → (f) p_ q_ = (f) p_ q_)] := by kernel_rfl
theorem b0_is (o : Nat → Go.Proofs.Ytpnkedgppbcnhaa.Am.AV) (y : Nat) (all : Nat) (k : Nat) (n : Nat) (x : Int) (f : Nat → Nat → Go.Proofs.Ytpnkedgppbcnhaa.Am.AV) : b0 o y all k n x f = some [
    (Decidable.decide ((↑y : Int) < 256)) = true,
    (Nat.ble (0 + n) n) = true,
    (Nat.ble n 1000) = true,
    ((0) : Nat) = (0),
    ((n) : Nat) = (n),
    capP (true) (n) (n) (n),
    ((x) : Int) = (x),
    (((↑k : Int)) : Int) = ((↑k : Int)),
    (((↑(all + cnt f 0 (↑y : Int) n) : Int)) : Int) = (Go.IntKind.wrap Go.IntKind.i64 ((↑all : Int) + (↑(cnt f 0 (Go.IntKind.wrap Go.IntKind.u8 (↑y : Int)) n) : Int))),
    (((↑(y + 1) : Int)) : Int) = (Go.IntKind.wrap Go.IntKind.i64 ((↑y : Int) + 1)),
    ((n) : Nat) ≤ (n),
    (∀ (p_ q_ : Nat), p_ < (n) → (f) p_ q_ = (f) p_ q_)] := by kernel_rfl
theorem bx_is (o : Nat → Go.Proofs.Ytpnkedgppbcnhaa.Am.AV) (y : Nat) (all : Nat) (k : Nat) (n : Nat) (x : Int) (f : Nat → Nat → Go.Proofs.Ytpnkedgppbcnhaa.Am.AV) : bx o y all k n x f = some [
    (!(Decidable.decide ((↑y : Int) < 256))) = true,
    ((0) : Nat) = (0),
    ((n) : Nat) = (n),
    capP (true) (n) (n) (n),
    ((x) : Int) = (x),
    (((↑k : Int)) : Int) = ((↑k : Int)),
    (((↑all : Int)) : Int) = ((↑all : Int)),
    (((↑y : Int)) : Int) = ((↑y : Int)),
    ((n) : Nat) ≤ (n),
    (∀ (p_ q_ : Nat), p_ < (n) → (f) p_ q_ = (f) p_ q_)] := by kernel_rfl
theorem e0_is (o : Nat → Go.Proofs.Ytpnkedgppbcnhaa.Am.AV) (y : Nat) (all : Nat) (k : Nat) (n : Nat) (x : Int) (f : Nat → Nat → Go.Proofs.Ytpnkedgppbcnhaa.Am.AV) : e0 o y all k n x f = some [
    (Nat.ble (0 + n) n) = true,
    (Nat.ble n 1000) = true,
    (((↑(cnt f 0 x n) : Int) == (↑k : Int)) == Bool.true) = true,
    (((↑(cnt f 0 x n) : Int) == (↑k : Int)) == Bool.true) = true,
    (((↑(cnt f 0 x n) : Int) == (↑k : Int)) == Bool.true) = true,
    (((↑(cnt f 0 x n) : Int) == (↑k : Int)) == Bool.true) = true,
    ((↑(cnt f 0 x n) : Int) == (↑k : Int)) = true,
    (((↑all : Int) == (↑n : Int)) == Bool.true) = true,
    ((↑all : Int) == (↑n : Int)) = true,
    (true) = true] := by kernel_rfl
end Go.Proofs.Ytpnkedgppbcnhaa.quorumCount
