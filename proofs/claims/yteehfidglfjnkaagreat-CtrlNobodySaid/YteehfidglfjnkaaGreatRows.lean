/-
  No cell of these rows narrows 'for every input' (looked for: loops, veiled, ifaces, maps, wideKeys, modest, calm, conditions, laid).
  DERIVED. THE GIVEN ROWS OF THIS SEAT. 6 by the template 'for every input the law returns true; each argument reads behind the call as it read before'; 0 by the template 'total and deterministic' (their statements: YteehfidglfjnkaaGreatTotals.lean).
  GIVEN WITH THE SEED: the statements are not yours to turn. If you find one false, say at which input.
  Laid BY PROGRAM, IN A SANDBOX (cutbox-rows.mjs): the forced cells as the released guide's own fill.sh prints them over the translation e1ab51113dbd6d0c… (all of the seat's roots in one cut). By AI agents, Wed Nov 11 2026. No macro, syntax, notation, axiom, sorry.
-/
import Derived.Test.YteehfidglfjnkaaGreatChecked
import GoSem.Claim
import GoSem.ClaimJoined
import GoSem.ClaimMapViews
import Derived.JoinedTies
import Derived.KernelRfl
namespace Go.Proofs.YteehfidglfjnkaaGreat
/- THE CELL 'sum', in the pinned program and in every row, IS THE sha256 OF THE DUMP (.gsa) THAT YteehfidglfjnkaaGreatProg.lean LOADS. Nothing in Lean hashes anything: it is a label: what it is worth is what the hold of that sum in a sandbox is worth. -/
noncomputable def Tryz.pinned : Pinned := { name := "yteehfidglfjnkaagreat", sum := "e1ab51113dbd6d0cb33de164a780f740f0bd7618dc598b1d1f29fea4ef1ebb64", checked := Tryz.checked }
namespace Rows
def none {H : Type} : Left H := { results := [], args := [] }

/-- 'keelsonlaw36.CtrlHolds': WHATEVER THE INPUT: true; the input reads as it did. -/
def ctrlHoldsSpec : ChangeSpec := { name := "ctrlHolds", fn := fun _ => fun
  | [d1, d2, d3] => { results := [.lit (.bool true)], args := [d1, d2, d3] }
  | _ => none }
def ctrlHoldsRow : OpenClaim := { program := "yteehfidglfjnkaagreat", sum := "e1ab51113dbd6d0cb33de164a780f740f0bd7618dc598b1d1f29fea4ef1ebb64", func := "keelson/keelsonlaw36.CtrlHolds", spec := "ctrlHolds", unfollowed := true, recurses := true, apart := false }
def CtrlHoldsSaid : Prop := ctrlHoldsRow.holds Tryz.pinned (OpenSpec.ofChange ctrlHoldsSpec)

/-- ITS FALSE NEIGHBOUR: 'it returns false'. Refute it at one input. -/
def ctrlHoldsWrong : ChangeSpec := { name := "ctrlHolds", fn := fun _ => fun
  | [d1, d2, d3] => { results := [.lit (.bool false)], args := [d1, d2, d3] }
  | _ => none }
def CtrlHoldsWrongFalsely : Prop := ctrlHoldsRow.holds Tryz.pinned (OpenSpec.ofChange ctrlHoldsWrong)

/-- 'keelsonlaw36.CtrlOnce': WHATEVER THE INPUT: true; the input reads as it did. -/
def ctrlOnceSpec : ChangeSpec := { name := "ctrlOnce", fn := fun _ => fun
  | [d1, d2, d3] => { results := [.lit (.bool true)], args := [d1, d2, d3] }
  | _ => none }
def ctrlOnceRow : OpenClaim := { program := "yteehfidglfjnkaagreat", sum := "e1ab51113dbd6d0cb33de164a780f740f0bd7618dc598b1d1f29fea4ef1ebb64", func := "keelson/keelsonlaw36.CtrlOnce", spec := "ctrlOnce", unfollowed := true, recurses := true, apart := false }
def CtrlOnceSaid : Prop := ctrlOnceRow.holds Tryz.pinned (OpenSpec.ofChange ctrlOnceSpec)

/-- ITS FALSE NEIGHBOUR: 'it returns false'. Refute it at one input. -/
def ctrlOnceWrong : ChangeSpec := { name := "ctrlOnce", fn := fun _ => fun
  | [d1, d2, d3] => { results := [.lit (.bool false)], args := [d1, d2, d3] }
  | _ => none }
def CtrlOnceWrongFalsely : Prop := ctrlOnceRow.holds Tryz.pinned (OpenSpec.ofChange ctrlOnceWrong)

/-- 'keelsonlaw36.CtrlNobody': WHATEVER THE INPUT: true; the input reads as it did. -/
def ctrlNobodySpec : ChangeSpec := { name := "ctrlNobody", fn := fun _ => fun
  | [d] => { results := [.lit (.bool true)], args := [d] }
  | _ => none }
def ctrlNobodyRow : OpenClaim := { program := "yteehfidglfjnkaagreat", sum := "e1ab51113dbd6d0cb33de164a780f740f0bd7618dc598b1d1f29fea4ef1ebb64", func := "keelson/keelsonlaw36.CtrlNobody", spec := "ctrlNobody", unfollowed := true, recurses := true, apart := false }
def CtrlNobodySaid : Prop := ctrlNobodyRow.holds Tryz.pinned (OpenSpec.ofChange ctrlNobodySpec)

/-- ITS FALSE NEIGHBOUR: 'it returns false'. Refute it at one input. -/
def ctrlNobodyWrong : ChangeSpec := { name := "ctrlNobody", fn := fun _ => fun
  | [d] => { results := [.lit (.bool false)], args := [d] }
  | _ => none }
def CtrlNobodyWrongFalsely : Prop := ctrlNobodyRow.holds Tryz.pinned (OpenSpec.ofChange ctrlNobodyWrong)

/-- 'keelsonlaw36.CtrlReads': WHATEVER THE INPUT: true; the input reads as it did. -/
def ctrlReadsSpec : ChangeSpec := { name := "ctrlReads", fn := fun _ => fun
  | [d] => { results := [.lit (.bool true)], args := [d] }
  | _ => none }
def ctrlReadsRow : OpenClaim := { program := "yteehfidglfjnkaagreat", sum := "e1ab51113dbd6d0cb33de164a780f740f0bd7618dc598b1d1f29fea4ef1ebb64", func := "keelson/keelsonlaw36.CtrlReads", spec := "ctrlReads", unfollowed := true, recurses := true, apart := false }
def CtrlReadsSaid : Prop := ctrlReadsRow.holds Tryz.pinned (OpenSpec.ofChange ctrlReadsSpec)

/-- ITS FALSE NEIGHBOUR: 'it returns false'. Refute it at one input. -/
def ctrlReadsWrong : ChangeSpec := { name := "ctrlReads", fn := fun _ => fun
  | [d] => { results := [.lit (.bool false)], args := [d] }
  | _ => none }
def CtrlReadsWrongFalsely : Prop := ctrlReadsRow.holds Tryz.pinned (OpenSpec.ofChange ctrlReadsWrong)

/-- 'keelsonlaw36.CtrlPlays': WHATEVER THE INPUT: true; the input reads as it did. -/
def ctrlPlaysSpec : ChangeSpec := { name := "ctrlPlays", fn := fun _ => fun
  | [d1, d2, d3, d4] => { results := [.lit (.bool true)], args := [d1, d2, d3, d4] }
  | _ => none }
def ctrlPlaysRow : OpenClaim := { program := "yteehfidglfjnkaagreat", sum := "e1ab51113dbd6d0cb33de164a780f740f0bd7618dc598b1d1f29fea4ef1ebb64", func := "keelson/keelsonlaw36.CtrlPlays", spec := "ctrlPlays", unfollowed := true, recurses := true, apart := false }
def CtrlPlaysSaid : Prop := ctrlPlaysRow.holds Tryz.pinned (OpenSpec.ofChange ctrlPlaysSpec)

/-- ITS FALSE NEIGHBOUR: 'it returns false'. Refute it at one input. -/
def ctrlPlaysWrong : ChangeSpec := { name := "ctrlPlays", fn := fun _ => fun
  | [d1, d2, d3, d4] => { results := [.lit (.bool false)], args := [d1, d2, d3, d4] }
  | _ => none }
def CtrlPlaysWrongFalsely : Prop := ctrlPlaysRow.holds Tryz.pinned (OpenSpec.ofChange ctrlPlaysWrong)

/-- 'keelsonlaw36.CtrlMachine': WHATEVER THE INPUT: true; the input reads as it did. -/
def ctrlMachineSpec : ChangeSpec := { name := "ctrlMachine", fn := fun _ => fun
  | [d1, d2, d3, d4] => { results := [.lit (.bool true)], args := [d1, d2, d3, d4] }
  | _ => none }
def ctrlMachineRow : OpenClaim := { program := "yteehfidglfjnkaagreat", sum := "e1ab51113dbd6d0cb33de164a780f740f0bd7618dc598b1d1f29fea4ef1ebb64", func := "keelson/keelsonlaw36.CtrlMachine", spec := "ctrlMachine", unfollowed := true, recurses := true, apart := false }
def CtrlMachineSaid : Prop := ctrlMachineRow.holds Tryz.pinned (OpenSpec.ofChange ctrlMachineSpec)

/-- ITS FALSE NEIGHBOUR: 'it returns false'. Refute it at one input. -/
def ctrlMachineWrong : ChangeSpec := { name := "ctrlMachine", fn := fun _ => fun
  | [d1, d2, d3, d4] => { results := [.lit (.bool false)], args := [d1, d2, d3, d4] }
  | _ => none }
def CtrlMachineWrongFalsely : Prop := ctrlMachineRow.holds Tryz.pinned (OpenSpec.ofChange ctrlMachineWrong)

/- THE SECOND FORM. 'bulk': how many values and letters a reading holds, each counted each time it is reached (what is shared counts as often as it is met; a slice's spare places count too). A statement '..UptoSaid' is the law's where the arguments, and the package variables that the reading takes, are together of bulk at most 1048576: NARROWER than '..Said'. Prove '..Said' where nothing that the law and all that it calls make is longer than what came in: it says more and counts as full. Else prove '..UptoSaid'. A law counts once. -/
mutual
def uptoBulk {H : Type} : DataW H → Nat
  | .lit (.string bytes) => bytes.length + 1
  | .lit _ => 1
  | .nil => 1
  | .ptr d => uptoBulk d + 1
  | .slice elems spare => uptoBulkAll elems + uptoBulkAll spare + 1
  | .agg parts => uptoBulkAll parts + 1
  | .iface _ d => uptoBulk d + 1
  | .map entries => uptoBulkEntries entries + 1
  | .held _ => 1
def uptoBulkAll {H : Type} : List (DataW H) → Nat
  | [] => 0
  | d :: r => uptoBulk d + uptoBulkAll r
def uptoBulkEntries {H : Type} : List (Lit × DataW H) → Nat
  | [] => 0
  | x :: r => uptoBulkEntry x + uptoBulkEntries r
def uptoBulkEntry {H : Type} : Lit × DataW H → Nat
  | (.string bytes, d) => bytes.length + uptoBulk d + 1
  | (_, d) => uptoBulk d + 1
 end
def uptoSmall : (H : Type) → List (DataW H) → Bool := fun _ ds => decide (uptoBulkAll ds ≤ 1048576)
def OpenSpec.upto (s : _root_.Go.ChangeSpec) : _root_.Go.OpenSpec := { _root_.Go.OpenSpec.ofChange s with cond := some uptoSmall }

/-- 'keelsonlaw36.CtrlHolds', WHERE WHAT IT READS IS OF BULK AT MOST 1048576: true; the input reads as it did. -/
def ctrlHoldsUptoRow : OpenClaim := { program := "yteehfidglfjnkaagreat", sum := "e1ab51113dbd6d0cb33de164a780f740f0bd7618dc598b1d1f29fea4ef1ebb64", func := "keelson/keelsonlaw36.CtrlHolds", spec := "ctrlHolds", unfollowed := true, recurses := true, apart := false, narrowed := true }
def CtrlHoldsUptoSaid : Prop := ctrlHoldsUptoRow.holds Tryz.pinned (OpenSpec.upto ctrlHoldsSpec)

/-- 'keelsonlaw36.CtrlOnce', WHERE WHAT IT READS IS OF BULK AT MOST 1048576: true; the input reads as it did. -/
def ctrlOnceUptoRow : OpenClaim := { program := "yteehfidglfjnkaagreat", sum := "e1ab51113dbd6d0cb33de164a780f740f0bd7618dc598b1d1f29fea4ef1ebb64", func := "keelson/keelsonlaw36.CtrlOnce", spec := "ctrlOnce", unfollowed := true, recurses := true, apart := false, narrowed := true }
def CtrlOnceUptoSaid : Prop := ctrlOnceUptoRow.holds Tryz.pinned (OpenSpec.upto ctrlOnceSpec)

/-- 'keelsonlaw36.CtrlNobody', WHERE WHAT IT READS IS OF BULK AT MOST 1048576: true; the input reads as it did. -/
def ctrlNobodyUptoRow : OpenClaim := { program := "yteehfidglfjnkaagreat", sum := "e1ab51113dbd6d0cb33de164a780f740f0bd7618dc598b1d1f29fea4ef1ebb64", func := "keelson/keelsonlaw36.CtrlNobody", spec := "ctrlNobody", unfollowed := true, recurses := true, apart := false, narrowed := true }
def CtrlNobodyUptoSaid : Prop := ctrlNobodyUptoRow.holds Tryz.pinned (OpenSpec.upto ctrlNobodySpec)

/-- 'keelsonlaw36.CtrlReads', WHERE WHAT IT READS IS OF BULK AT MOST 1048576: true; the input reads as it did. -/
def ctrlReadsUptoRow : OpenClaim := { program := "yteehfidglfjnkaagreat", sum := "e1ab51113dbd6d0cb33de164a780f740f0bd7618dc598b1d1f29fea4ef1ebb64", func := "keelson/keelsonlaw36.CtrlReads", spec := "ctrlReads", unfollowed := true, recurses := true, apart := false, narrowed := true }
def CtrlReadsUptoSaid : Prop := ctrlReadsUptoRow.holds Tryz.pinned (OpenSpec.upto ctrlReadsSpec)

/-- 'keelsonlaw36.CtrlPlays', WHERE WHAT IT READS IS OF BULK AT MOST 1048576: true; the input reads as it did. -/
def ctrlPlaysUptoRow : OpenClaim := { program := "yteehfidglfjnkaagreat", sum := "e1ab51113dbd6d0cb33de164a780f740f0bd7618dc598b1d1f29fea4ef1ebb64", func := "keelson/keelsonlaw36.CtrlPlays", spec := "ctrlPlays", unfollowed := true, recurses := true, apart := false, narrowed := true }
def CtrlPlaysUptoSaid : Prop := ctrlPlaysUptoRow.holds Tryz.pinned (OpenSpec.upto ctrlPlaysSpec)

/-- 'keelsonlaw36.CtrlMachine', WHERE WHAT IT READS IS OF BULK AT MOST 1048576: true; the input reads as it did. -/
def ctrlMachineUptoRow : OpenClaim := { program := "yteehfidglfjnkaagreat", sum := "e1ab51113dbd6d0cb33de164a780f740f0bd7618dc598b1d1f29fea4ef1ebb64", func := "keelson/keelsonlaw36.CtrlMachine", spec := "ctrlMachine", unfollowed := true, recurses := true, apart := false, narrowed := true }
def CtrlMachineUptoSaid : Prop := ctrlMachineUptoRow.holds Tryz.pinned (OpenSpec.upto ctrlMachineSpec)

end Rows
end Go.Proofs.YteehfidglfjnkaaGreat
