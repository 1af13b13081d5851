/-
  No cell of these rows narrows 'for every input' (looked for: loops, veiled, ifaces, maps, wideKeys, modest, calm, conditions, laid).
  DERIVED. THE GIVEN ROWS OF THIS SEAT. 4 by the template 'for every input the law returns true; each argument reads behind the call as it read before'; 0 by the template 'total and deterministic' (their statements: YtmjmhpbncfjnpaaTotals.lean).
  GIVEN WITH THE SEED: the statements are not yours to turn. If you find one false, say at which input.
  Laid BY PROGRAM, IN A SANDBOX (cutbox-rows.mjs): the forced cells as the released guide's own fill.sh prints them over the translation 1f8f7abc8115d507… (all of the seat's roots in one cut). By AI agents, Wed Nov 11 2026. No macro, syntax, notation, axiom, sorry.
-/
import Derived.Test.YtmjmhpbncfjnpaaChecked
import GoSem.Claim
import GoSem.ClaimJoined
import GoSem.ClaimMapViews
import Derived.JoinedTies
import Derived.KernelRfl
namespace Go.Proofs.Ytmjmhpbncfjnpaa
/- THE CELL 'sum', in the pinned program and in every row, IS THE sha256 OF THE DUMP (.gsa) THAT YtmjmhpbncfjnpaaProg.lean LOADS. Nothing in Lean hashes anything: it is a label: what it is worth is what the hold of that sum in a sandbox is worth. -/
noncomputable def Try.pinned : Pinned := { name := "ytmjmhpbncfjnpaa", sum := "1f8f7abc8115d50729a9402c99ae5495002e962893b34230a5de302d9fcc8e11", checked := Try.checked }
namespace Rows
def none {H : Type} : Left H := { results := [], args := [] }

/-- 'keelsonlaw24.HistoryChecks': WHATEVER THE INPUT: true; the input reads as it did. -/
def historyChecksSpec : ChangeSpec := { name := "historyChecks", fn := fun _ => fun
  | [d1, d2] => { results := [.lit (.bool true)], args := [d1, d2] }
  | _ => none }
def historyChecksRow : OpenClaim := { program := "ytmjmhpbncfjnpaa", sum := "1f8f7abc8115d50729a9402c99ae5495002e962893b34230a5de302d9fcc8e11", func := "keelson/keelsonlaw24.HistoryChecks", spec := "historyChecks", recurses := true, plainKeys := false, apart := false }
def HistoryChecksSaid : Prop := historyChecksRow.holds Try.pinned (OpenSpec.ofChange historyChecksSpec)

/-- ITS FALSE NEIGHBOUR: 'it returns false'. Refute it at one input. -/
def historyChecksWrong : ChangeSpec := { name := "historyChecks", fn := fun _ => fun
  | [d1, d2] => { results := [.lit (.bool false)], args := [d1, d2] }
  | _ => none }
def HistoryChecksWrongFalsely : Prop := historyChecksRow.holds Try.pinned (OpenSpec.ofChange historyChecksWrong)

/-- 'keelsonlaw24.HistoryLess': WHATEVER THE INPUT: true; the input reads as it did. -/
def historyLessSpec : ChangeSpec := { name := "historyLess", fn := fun _ => fun
  | [d1, d2, d3, d4] => { results := [.lit (.bool true)], args := [d1, d2, d3, d4] }
  | _ => none }
def historyLessRow : OpenClaim := { program := "ytmjmhpbncfjnpaa", sum := "1f8f7abc8115d50729a9402c99ae5495002e962893b34230a5de302d9fcc8e11", func := "keelson/keelsonlaw24.HistoryLess", spec := "historyLess", recurses := true, plainKeys := false, apart := false }
def HistoryLessSaid : Prop := historyLessRow.holds Try.pinned (OpenSpec.ofChange historyLessSpec)

/-- ITS FALSE NEIGHBOUR: 'it returns false'. Refute it at one input. -/
def historyLessWrong : ChangeSpec := { name := "historyLess", fn := fun _ => fun
  | [d1, d2, d3, d4] => { results := [.lit (.bool false)], args := [d1, d2, d3, d4] }
  | _ => none }
def HistoryLessWrongFalsely : Prop := historyLessRow.holds Try.pinned (OpenSpec.ofChange historyLessWrong)

/-- 'keelsonlaw24.HistoryOne': WHATEVER THE INPUT: true; the input reads as it did. -/
def historyOneSpec : ChangeSpec := { name := "historyOne", fn := fun _ => fun
  | [d1, d2] => { results := [.lit (.bool true)], args := [d1, d2] }
  | _ => none }
def historyOneRow : OpenClaim := { program := "ytmjmhpbncfjnpaa", sum := "1f8f7abc8115d50729a9402c99ae5495002e962893b34230a5de302d9fcc8e11", func := "keelson/keelsonlaw24.HistoryOne", spec := "historyOne", recurses := true, plainKeys := false, apart := false }
def HistoryOneSaid : Prop := historyOneRow.holds Try.pinned (OpenSpec.ofChange historyOneSpec)

/-- ITS FALSE NEIGHBOUR: 'it returns false'. Refute it at one input. -/
def historyOneWrong : ChangeSpec := { name := "historyOne", fn := fun _ => fun
  | [d1, d2] => { results := [.lit (.bool false)], args := [d1, d2] }
  | _ => none }
def HistoryOneWrongFalsely : Prop := historyOneRow.holds Try.pinned (OpenSpec.ofChange historyOneWrong)

/-- 'keelsonlaw42.WitnessOrders': WHATEVER THE INPUT: true; the input reads as it did. -/
def witnessOrdersSpec : ChangeSpec := { name := "witnessOrders", fn := fun _ => fun
  | [d1, d2] => { results := [.lit (.bool true)], args := [d1, d2] }
  | _ => none }
def witnessOrdersRow : OpenClaim := { program := "ytmjmhpbncfjnpaa", sum := "1f8f7abc8115d50729a9402c99ae5495002e962893b34230a5de302d9fcc8e11", func := "keelson/keelsonlaw42.WitnessOrders", spec := "witnessOrders", recurses := true, plainKeys := false, apart := false }
def WitnessOrdersSaid : Prop := witnessOrdersRow.holds Try.pinned (OpenSpec.ofChange witnessOrdersSpec)

/-- ITS FALSE NEIGHBOUR: 'it returns false'. Refute it at one input. -/
def witnessOrdersWrong : ChangeSpec := { name := "witnessOrders", fn := fun _ => fun
  | [d1, d2] => { results := [.lit (.bool false)], args := [d1, d2] }
  | _ => none }
def WitnessOrdersWrongFalsely : Prop := witnessOrdersRow.holds Try.pinned (OpenSpec.ofChange witnessOrdersWrong)

/- THE SECOND FORM. 'bulk': how many values and letters a reading holds, each counted each time it is reached (what is shared counts as often as it is met; a slice's spare places count too). A statement '..UptoSaid' is the law's where the arguments, and the package variables that the reading takes, are together of bulk at most 1048576: NARROWER than '..Said'. Prove '..Said' where nothing that the law and all that it calls make is longer than what came in: it says more and counts as full. Else prove '..UptoSaid'. A law counts once. -/
mutual
def uptoBulk {H : Type} : DataW H → Nat
  | .lit (.string bytes) => bytes.length + 1
  | .lit _ => 1
  | .nil => 1
  | .ptr d => uptoBulk d + 1
  | .slice elems spare => uptoBulkAll elems + uptoBulkAll spare + 1
  | .agg parts => uptoBulkAll parts + 1
  | .iface _ d => uptoBulk d + 1
  | .map entries => uptoBulkEntries entries + 1
  | .held _ => 1
def uptoBulkAll {H : Type} : List (DataW H) → Nat
  | [] => 0
  | d :: r => uptoBulk d + uptoBulkAll r
def uptoBulkEntries {H : Type} : List (Lit × DataW H) → Nat
  | [] => 0
  | x :: r => uptoBulkEntry x + uptoBulkEntries r
def uptoBulkEntry {H : Type} : Lit × DataW H → Nat
  | (.string bytes, d) => bytes.length + uptoBulk d + 1
  | (_, d) => uptoBulk d + 1
 end
def uptoSmall : (H : Type) → List (DataW H) → Bool := fun _ ds => decide (uptoBulkAll ds ≤ 1048576)
def OpenSpec.upto (s : _root_.Go.ChangeSpec) : _root_.Go.OpenSpec := { _root_.Go.OpenSpec.ofChange s with cond := some uptoSmall }

/-- 'keelsonlaw24.HistoryChecks', WHERE WHAT IT READS IS OF BULK AT MOST 1048576: true; the input reads as it did. -/
def historyChecksUptoRow : OpenClaim := { program := "ytmjmhpbncfjnpaa", sum := "1f8f7abc8115d50729a9402c99ae5495002e962893b34230a5de302d9fcc8e11", func := "keelson/keelsonlaw24.HistoryChecks", spec := "historyChecks", recurses := true, plainKeys := false, apart := false, narrowed := true }
def HistoryChecksUptoSaid : Prop := historyChecksUptoRow.holds Try.pinned (OpenSpec.upto historyChecksSpec)

/-- 'keelsonlaw24.HistoryLess', WHERE WHAT IT READS IS OF BULK AT MOST 1048576: true; the input reads as it did. -/
def historyLessUptoRow : OpenClaim := { program := "ytmjmhpbncfjnpaa", sum := "1f8f7abc8115d50729a9402c99ae5495002e962893b34230a5de302d9fcc8e11", func := "keelson/keelsonlaw24.HistoryLess", spec := "historyLess", recurses := true, plainKeys := false, apart := false, narrowed := true }
def HistoryLessUptoSaid : Prop := historyLessUptoRow.holds Try.pinned (OpenSpec.upto historyLessSpec)

/-- 'keelsonlaw24.HistoryOne', WHERE WHAT IT READS IS OF BULK AT MOST 1048576: true; the input reads as it did. -/
def historyOneUptoRow : OpenClaim := { program := "ytmjmhpbncfjnpaa", sum := "1f8f7abc8115d50729a9402c99ae5495002e962893b34230a5de302d9fcc8e11", func := "keelson/keelsonlaw24.HistoryOne", spec := "historyOne", recurses := true, plainKeys := false, apart := false, narrowed := true }
def HistoryOneUptoSaid : Prop := historyOneUptoRow.holds Try.pinned (OpenSpec.upto historyOneSpec)

/-- 'keelsonlaw42.WitnessOrders', WHERE WHAT IT READS IS OF BULK AT MOST 1048576: true; the input reads as it did. -/
def witnessOrdersUptoRow : OpenClaim := { program := "ytmjmhpbncfjnpaa", sum := "1f8f7abc8115d50729a9402c99ae5495002e962893b34230a5de302d9fcc8e11", func := "keelson/keelsonlaw42.WitnessOrders", spec := "witnessOrders", recurses := true, plainKeys := false, apart := false, narrowed := true }
def WitnessOrdersUptoSaid : Prop := witnessOrdersUptoRow.holds Try.pinned (OpenSpec.upto witnessOrdersSpec)

end Rows
end Go.Proofs.Ytmjmhpbncfjnpaa
