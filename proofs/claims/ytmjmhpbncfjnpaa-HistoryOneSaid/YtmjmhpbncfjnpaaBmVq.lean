/- The abstract machine: a goto loop in a function that calls itself: its steps may be reckoned where the function's own contract (of a lesser rank) is known. -/
import Derived.Test.YtmjmhpbncfjnpaaBmVp
set_option linter.unusedSimpArgs false
set_option linter.unusedVariables false
namespace Go.Proofs.Ytmjmhpbncfjnpaa.Bm
open Go.RowKit
theorem erase_lp {E E' : Env} (h : E.lp = E'.lp) : ∀ c : Code, erase E c = erase E' c := by
 intro c
 induction c <;> simp only [erase, h, *]
section
variable {Pr : Program} {E E' : Env}
theorem Good.addH (h : Good Pr E) (h' : Good Pr E') (hfn : E'.fn = E.fn) (hlp : E'.lp = E.lp) {f tag p l : Nat} {pth : List Bool} {head0 head : Pat} {exits : List (Ex × Pat)} {R : CS → T (Nat × CS)} (hbody : (pieceOf E f pth).isSome = true) (hok : scopeOK E' f pth l = true)
  (htag : E.lp tag = none) (hbig : 1000000 ≤ tag) (hx : exits.all (fun x => noGoto x.1) = true)
  (hR : ∀ c r, (R c).run = some r → GotoC E' f pth l p head0 head exits c r.1 r.2) : Good Pr (Bm.addB E f pth tag head0 exits p R) :=
 h.addX hbody htag hbig fun w0 hI c r hr => by
  have k := (hR c r hr).ok h'.env (h'.intr w0) hok hx
  have hp : pieceC E' f pth = pieceC E f pth := by simp only [pieceC, pieceOf, hfn]
  rw [hp] at k
  intro K hK hpin q a w hA
  have k2 := k K hK hpin q a w hA
  rw [erase_lp hlp] at k2
  exact k2
end
end Go.Proofs.Ytmjmhpbncfjnpaa.Bm
