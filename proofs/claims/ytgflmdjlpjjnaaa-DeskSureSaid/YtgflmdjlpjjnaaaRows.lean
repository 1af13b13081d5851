/-
  No cell of these rows narrows 'for every input' (looked for: loops, veiled, ifaces, maps, wideKeys, modest, calm, conditions, laid).
  DERIVED. THE GIVEN ROWS OF THIS SEAT. 3 by the template 'for every input the law returns true; each argument reads behind the call as it read before'; 0 by the template 'total and deterministic' (their statements: YtgflmdjlpjjnaaaTotals.lean).
  GIVEN WITH THE SEED: the statements are not yours to turn. If you find one false, say at which input.
  Laid BY PROGRAM, IN A SANDBOX (cutbox-rows.mjs): the forced cells as the released guide's own fill.sh prints them over the translation 7de489c547268836… (all of the seat's roots in one cut). By AI agents, Wed Nov 11 2026. No macro, syntax, notation, axiom, sorry.
-/
import Derived.Test.YtgflmdjlpjjnaaaChecked
import GoSem.Claim
import GoSem.ClaimJoined
import GoSem.ClaimMapViews
import Derived.JoinedTies
import Derived.KernelRfl
namespace Go.Proofs.Ytgflmdjlpjjnaaa
/- THE CELL 'sum', in the pinned program and in every row, IS THE sha256 OF THE DUMP (.gsa) THAT YtgflmdjlpjjnaaaProg.lean LOADS. Nothing in Lean hashes anything: it is a label: what it is worth is what the hold of that sum in a sandbox is worth. -/
noncomputable def Try.pinned : Pinned := { name := "ytgflmdjlpjjnaaa", sum := "7de489c5472688360e476505720b9825afea51a3fdbe6421f2d5c4352a6059c9", checked := Try.checked }
namespace Rows
def none {H : Type} : Left H := { results := [], args := [] }

/-- 'keelsonlaw25.DeskSure': WHATEVER THE INPUT: true; the input reads as it did. -/
def deskSureSpec : ChangeSpec := { name := "deskSure", fn := fun _ => fun
  | [d1, d2, d3] => { results := [.lit (.bool true)], args := [d1, d2, d3] }
  | _ => none }
def deskSureRow : OpenClaim := { program := "ytgflmdjlpjjnaaa", sum := "7de489c5472688360e476505720b9825afea51a3fdbe6421f2d5c4352a6059c9", func := "keelson/keelsonlaw25.DeskSure", spec := "deskSure", unfollowed := true, recurses := true, apart := false }
def DeskSureSaid : Prop := deskSureRow.holds Try.pinned (OpenSpec.ofChange deskSureSpec)

/-- ITS FALSE NEIGHBOUR: 'it returns false'. Refute it at one input. -/
def deskSureWrong : ChangeSpec := { name := "deskSure", fn := fun _ => fun
  | [d1, d2, d3] => { results := [.lit (.bool false)], args := [d1, d2, d3] }
  | _ => none }
def DeskSureWrongFalsely : Prop := deskSureRow.holds Try.pinned (OpenSpec.ofChange deskSureWrong)

/-- 'keelsonlaw25.DeskOnce': WHATEVER THE INPUT: true; the input reads as it did. -/
def deskOnceSpec : ChangeSpec := { name := "deskOnce", fn := fun _ => fun
  | [d1, d2, d3] => { results := [.lit (.bool true)], args := [d1, d2, d3] }
  | _ => none }
def deskOnceRow : OpenClaim := { program := "ytgflmdjlpjjnaaa", sum := "7de489c5472688360e476505720b9825afea51a3fdbe6421f2d5c4352a6059c9", func := "keelson/keelsonlaw25.DeskOnce", spec := "deskOnce", unfollowed := true, recurses := true, apart := false }
def DeskOnceSaid : Prop := deskOnceRow.holds Try.pinned (OpenSpec.ofChange deskOnceSpec)

/-- ITS FALSE NEIGHBOUR: 'it returns false'. Refute it at one input. -/
def deskOnceWrong : ChangeSpec := { name := "deskOnce", fn := fun _ => fun
  | [d1, d2, d3] => { results := [.lit (.bool false)], args := [d1, d2, d3] }
  | _ => none }
def DeskOnceWrongFalsely : Prop := deskOnceRow.holds Try.pinned (OpenSpec.ofChange deskOnceWrong)

/-- 'keelsonlaw25.DeskPlays': WHATEVER THE INPUT: true; the input reads as it did. -/
def deskPlaysSpec : ChangeSpec := { name := "deskPlays", fn := fun _ => fun
  | [d1, d2, d3] => { results := [.lit (.bool true)], args := [d1, d2, d3] }
  | _ => none }
def deskPlaysRow : OpenClaim := { program := "ytgflmdjlpjjnaaa", sum := "7de489c5472688360e476505720b9825afea51a3fdbe6421f2d5c4352a6059c9", func := "keelson/keelsonlaw25.DeskPlays", spec := "deskPlays", unfollowed := true, recurses := true, apart := false }
def DeskPlaysSaid : Prop := deskPlaysRow.holds Try.pinned (OpenSpec.ofChange deskPlaysSpec)

/-- ITS FALSE NEIGHBOUR: 'it returns false'. Refute it at one input. -/
def deskPlaysWrong : ChangeSpec := { name := "deskPlays", fn := fun _ => fun
  | [d1, d2, d3] => { results := [.lit (.bool false)], args := [d1, d2, d3] }
  | _ => none }
def DeskPlaysWrongFalsely : Prop := deskPlaysRow.holds Try.pinned (OpenSpec.ofChange deskPlaysWrong)

/- THE SECOND FORM. 'bulk': how many values and letters a reading holds, each counted each time it is reached (what is shared counts as often as it is met; a slice's spare places count too). A statement '..UptoSaid' is the law's where the arguments, and the package variables that the reading takes, are together of bulk at most 1048576: NARROWER than '..Said'. Prove '..Said' where nothing that the law and all that it calls make is longer than what came in: it says more and counts as full. Else prove '..UptoSaid'. A law counts once. -/
mutual
def uptoBulk {H : Type} : DataW H → Nat
  | .lit (.string bytes) => bytes.length + 1
  | .lit _ => 1
  | .nil => 1
  | .ptr d => uptoBulk d + 1
  | .slice elems spare => uptoBulkAll elems + uptoBulkAll spare + 1
  | .agg parts => uptoBulkAll parts + 1
  | .iface _ d => uptoBulk d + 1
  | .map entries => uptoBulkEntries entries + 1
  | .held _ => 1
def uptoBulkAll {H : Type} : List (DataW H) → Nat
  | [] => 0
  | d :: r => uptoBulk d + uptoBulkAll r
def uptoBulkEntries {H : Type} : List (Lit × DataW H) → Nat
  | [] => 0
  | x :: r => uptoBulkEntry x + uptoBulkEntries r
def uptoBulkEntry {H : Type} : Lit × DataW H → Nat
  | (.string bytes, d) => bytes.length + uptoBulk d + 1
  | (_, d) => uptoBulk d + 1
 end
def uptoSmall : (H : Type) → List (DataW H) → Bool := fun _ ds => decide (uptoBulkAll ds ≤ 1048576)
def OpenSpec.upto (s : _root_.Go.ChangeSpec) : _root_.Go.OpenSpec := { _root_.Go.OpenSpec.ofChange s with cond := some uptoSmall }

/-- 'keelsonlaw25.DeskSure', WHERE WHAT IT READS IS OF BULK AT MOST 1048576: true; the input reads as it did. -/
def deskSureUptoRow : OpenClaim := { program := "ytgflmdjlpjjnaaa", sum := "7de489c5472688360e476505720b9825afea51a3fdbe6421f2d5c4352a6059c9", func := "keelson/keelsonlaw25.DeskSure", spec := "deskSure", unfollowed := true, recurses := true, apart := false, narrowed := true }
def DeskSureUptoSaid : Prop := deskSureUptoRow.holds Try.pinned (OpenSpec.upto deskSureSpec)

/-- 'keelsonlaw25.DeskOnce', WHERE WHAT IT READS IS OF BULK AT MOST 1048576: true; the input reads as it did. -/
def deskOnceUptoRow : OpenClaim := { program := "ytgflmdjlpjjnaaa", sum := "7de489c5472688360e476505720b9825afea51a3fdbe6421f2d5c4352a6059c9", func := "keelson/keelsonlaw25.DeskOnce", spec := "deskOnce", unfollowed := true, recurses := true, apart := false, narrowed := true }
def DeskOnceUptoSaid : Prop := deskOnceUptoRow.holds Try.pinned (OpenSpec.upto deskOnceSpec)

/-- 'keelsonlaw25.DeskPlays', WHERE WHAT IT READS IS OF BULK AT MOST 1048576: true; the input reads as it did. -/
def deskPlaysUptoRow : OpenClaim := { program := "ytgflmdjlpjjnaaa", sum := "7de489c5472688360e476505720b9825afea51a3fdbe6421f2d5c4352a6059c9", func := "keelson/keelsonlaw25.DeskPlays", spec := "deskPlays", unfollowed := true, recurses := true, apart := false, narrowed := true }
def DeskPlaysUptoSaid : Prop := deskPlaysUptoRow.holds Try.pinned (OpenSpec.upto deskPlaysSpec)

end Rows
end Go.Proofs.Ytgflmdjlpjjnaaa
