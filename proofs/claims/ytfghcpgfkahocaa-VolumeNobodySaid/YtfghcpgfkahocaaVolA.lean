/- The paths through the law VolumeNobody: what each tells, and what must hold for it. -/
import Derived.Test.YtfghcpgfkahocaaRows
import Derived.Test.YtfghcpgfkahocaaAmVc
import Derived.KernelRfl
set_option linter.unusedSimpArgs false
set_option linter.unusedVariables false
namespace Go.Proofs.Ytfghcpgfkahocaa.volumeNobody
open Go Go.Proofs.Ytfghcpgfkahocaa.Am
noncomputable def E : Env := mkEnv Try.prog 136 160
def opA (k b id : Int) (s : List Nat) (sets : AV) : AV := .agg [.int .i64 k, .str s, .int .u32 b, sets, .int .u64 id]
def HR (n : Nat) (f : Nat → Nat → AV) : List (Option AObj) := [some (.tarr [.int .u64] n f false)]
noncomputable def r0 (k b id : Int) (s : List Nat) (n : Nat) (f : Nat → Nat → AV) : Option (List Prop) :=
  resA E 100000 4 [opA k b id s (.tsl 0 0 n n 1 true)] (stC (HR n f)) [(1, true), (0, true), (0, true), (0, true), (0, false), (0, true)]
noncomputable def r1 (k b id : Int) (s : List Nat) (n : Nat) (f : Nat → Nat → AV) : Option (List Prop) :=
  resA E 100000 4 [opA k b id s (.tsl 0 0 n n 1 true)] (stC (HR n f)) [(1, true), (0, true), (0, true), (0, true), (0, false), (0, false)]
noncomputable def r2 (k b id : Int) (s : List Nat) (n : Nat) (f : Nat → Nat → AV) : Option (List Prop) :=
  resA E 100000 4 [opA k b id s (.tsl 0 0 n n 1 true)] (stC (HR n f)) [(1, false), (0, false), (0, false), (0, false), (0, true)]
noncomputable def n0 (k b id : Int) (s : List Nat) : Option (List Prop) :=
  resA E 100000 4 [opA k b id s .nilSlice] (stC []) [(1, true), (0, true), (0, true), (0, true), (0, false)]
noncomputable def n1 (k b id : Int) (s : List Nat) : Option (List Prop) :=
  resA E 100000 4 [opA k b id s .nilSlice] (stC []) [(1, false), (0, false), (0, false), (0, false), (0, true)]
noncomputable def g0 (k b id : Int) (s : List Nat) : Option (List Prop) :=
  resA E 100000 4 [opA k b id s (.tsl 0 0 0 0 1 true)] (stC [none]) [(1, true), (0, true), (0, true), (0, true), (0, false)]
noncomputable def g1 (k b id : Int) (s : List Nat) : Option (List Prop) :=
  resA E 100000 4 [opA k b id s (.tsl 0 0 0 0 1 true)] (stC [none]) [(1, false), (0, false), (0, false), (0, false), (0, true)]
theorem r0_is (k : Int) (b : Int) (id : Int) (s : List Nat) (n : Nat) (f : Nat → Nat → Go.Proofs.Ytfghcpgfkahocaa.Am.AV) : r0 k b id s n f = some [
    (Decidable.decide ((↑(List.length s) : Int) > 100) == Bool.false) = true,
    (Decidable.decide ((↑(List.length s) : Int) > 100) == Bool.false) = true,
    (Decidable.decide ((↑(List.length s) : Int) > 100) == Bool.false) = true,
    (Decidable.decide ((↑(List.length s) : Int) > 100) == Bool.false) = true,
    (!(Decidable.decide ((↑(List.length s) : Int) > 100))) = true,
    (Decidable.decide ((↑n : Int) > 100)) = true,
    (true) = true] := by kernel_rfl
theorem r1_is (k : Int) (b : Int) (id : Int) (s : List Nat) (n : Nat) (f : Nat → Nat → Go.Proofs.Ytfghcpgfkahocaa.Am.AV) : r1 k b id s n f = some [
    (Decidable.decide ((↑(List.length s) : Int) > 100) == Bool.false) = true,
    (Decidable.decide ((↑(List.length s) : Int) > 100) == Bool.false) = true,
    (Decidable.decide ((↑(List.length s) : Int) > 100) == Bool.false) = true,
    (Decidable.decide ((↑(List.length s) : Int) > 100) == Bool.false) = true,
    (!(Decidable.decide ((↑(List.length s) : Int) > 100))) = true,
    (!(Decidable.decide ((↑n : Int) > 100))) = true,
    (true) = true] := by kernel_rfl
theorem r2_is (k : Int) (b : Int) (id : Int) (s : List Nat) (n : Nat) (f : Nat → Nat → Go.Proofs.Ytfghcpgfkahocaa.Am.AV) : r2 k b id s n f = some [
    (!(Decidable.decide ((↑(List.length s) : Int) > 100) == Bool.false)) = true,
    (!(Decidable.decide ((↑(List.length s) : Int) > 100) == Bool.false)) = true,
    (!(Decidable.decide ((↑(List.length s) : Int) > 100) == Bool.false)) = true,
    (!(Decidable.decide ((↑(List.length s) : Int) > 100) == Bool.false)) = true,
    (Decidable.decide ((↑(List.length s) : Int) > 100)) = true,
    (true) = true] := by kernel_rfl
theorem n0_is (k : Int) (b : Int) (id : Int) (s : List Nat) : n0 k b id s = some [
    (Decidable.decide ((↑(List.length s) : Int) > 100) == Bool.false) = true,
    (Decidable.decide ((↑(List.length s) : Int) > 100) == Bool.false) = true,
    (Decidable.decide ((↑(List.length s) : Int) > 100) == Bool.false) = true,
    (Decidable.decide ((↑(List.length s) : Int) > 100) == Bool.false) = true,
    (!(Decidable.decide ((↑(List.length s) : Int) > 100))) = true,
    (true) = true] := by kernel_rfl
theorem n1_is (k : Int) (b : Int) (id : Int) (s : List Nat) : n1 k b id s = some [
    (!(Decidable.decide ((↑(List.length s) : Int) > 100) == Bool.false)) = true,
    (!(Decidable.decide ((↑(List.length s) : Int) > 100) == Bool.false)) = true,
    (!(Decidable.decide ((↑(List.length s) : Int) > 100) == Bool.false)) = true,
    (!(Decidable.decide ((↑(List.length s) : Int) > 100) == Bool.false)) = true,
    (Decidable.decide ((↑(List.length s) : Int) > 100)) = true,
    (true) = true] := by kernel_rfl
theorem g0_is (k : Int) (b : Int) (id : Int) (s : List Nat) : g0 k b id s = some [
    (Decidable.decide ((↑(List.length s) : Int) > 100) == Bool.false) = true,
    (Decidable.decide ((↑(List.length s) : Int) > 100) == Bool.false) = true,
    (Decidable.decide ((↑(List.length s) : Int) > 100) == Bool.false) = true,
    (Decidable.decide ((↑(List.length s) : Int) > 100) == Bool.false) = true,
    (!(Decidable.decide ((↑(List.length s) : Int) > 100))) = true,
    (true) = true] := by kernel_rfl
theorem g1_is (k : Int) (b : Int) (id : Int) (s : List Nat) : g1 k b id s = some [
    (!(Decidable.decide ((↑(List.length s) : Int) > 100) == Bool.false)) = true,
    (!(Decidable.decide ((↑(List.length s) : Int) > 100) == Bool.false)) = true,
    (!(Decidable.decide ((↑(List.length s) : Int) > 100) == Bool.false)) = true,
    (!(Decidable.decide ((↑(List.length s) : Int) > 100) == Bool.false)) = true,
    (Decidable.decide ((↑(List.length s) : Int) > 100)) = true,
    (true) = true] := by kernel_rfl
end Go.Proofs.Ytfghcpgfkahocaa.volumeNobody
