/- The abstract machine: loops by a goto within a scope, told at canonical states. -/
import Derived.Test.YtmjmhpbncfjnpaaBmVk
set_option linter.unusedSimpArgs false
set_option linter.unusedVariables false
namespace Go.Proofs.Ytmjmhpbncfjnpaa.Bm
open Go.RowKit
def scopeC (E : Env) (f : Nat) (pth : List Bool) : Code := match pieceC E f pth with
 | .scope b => b
 | _ => .skip
def restC (E : Env) (f : Nat) (pth : List Bool) (l : Nat) : Code := match findLabel (scopeC E f pth) l with
 | some r => r
 | none => .skip
def scopeOK (E : Env) (f : Nat) (pth : List Bool) (l : Nat) : Bool :=
 (match pieceC E f pth with | .scope _ => true | _ => false) && (findLabel (scopeC E f pth) l).isSome && plain E (scopeC E f pth) && plain E (restC E f pth l)
def noGoto : Ex → Bool
 | .goto _ => false
 | _ => true
section
variable {Pr : Program} {E : Env} {w0 : World}
theorem scope_S (hE : EnvOK Pr E) (hI : IntrOK Pr w0 E) {m l : Nat} {body rest : Code} (hfl : findLabel body l = some rest) (hpl : plain E rest = true) {K : KC} (hp : ∀ j, j < K.p → K.pin j ≠ none) {head : Pat} {exits : List (Ex × Pat)}
  (hx : ∀ e P, (e, P) ∈ exits → noGoto e = true) {π : CS → Plan} {k q : Nat} {c c' : CS}
  (h : Loops (fun c => stepC E m rest K.p head ((.goto l, head) :: exits) (π c) c) c k c') : ∀ a w, AtK K w0 head c a w →
  ScopeIn (fen none) q Pr rest body (fun x a' w' => ∃ e P', ((Ex.goto l, head) :: exits)[k]? = some (e, P') ∧ k ≠ 0 ∧ x = e.out ∧ AtK K w0 P' c' a' w') a w := by
 have her := erase_plain E rest hpl
 induction h with
 | @out c c1 c' k1 hs hse =>
   intro a w hA
   have hst := step_at hE hI hp (q := q) hs hA
   rw [her] at hst
   refine scopeIn_of (wpIn_mono hst fun x a1 w1 hq => ?_)
   obtain ⟨e, P', h1, rfl, h3⟩ := hq
   have hng : noGoto e = true := hx e P' (List.mem_of_getElem? (by simpa using h1))
   have hpost : (fun x a' w' => ∃ e P', ((Ex.goto l, head) :: exits)[k1 + 1]? = some (e, P') ∧ k1 + 1 ≠ 0 ∧ x = e.out ∧ AtK K w0 P' c' a' w') e.out a1 w1 := ⟨e, P', h1, by omega, rfl, hse.atK h3⟩
   cases e with
   | normal => exact hpost
   | exit id => exact hpost
   | goto l => simp [noGoto] at hng
   | ret => exact hpost
 | @go c c1 c2 c' k hs hse _ ih =>
   intro a w hA
   have hst := step_at hE hI hp (q := q) hs hA
   rw [her] at hst
   refine scopeIn_of (wpIn_mono hst fun x a1 w1 hq => ?_)
   obtain ⟨e, P', h1, rfl, h3⟩ := hq
   simp at h1
   obtain ⟨rfl, rfl⟩ := h1
   exact .inl ⟨rest, hfl, ih a1 w1 (hse.atK h3)⟩
 | see hse _ ih =>
   intro a w hA
   exact ih a w (hse.atK hA)
def GotoC (E : Env) (f : Nat) (pth : List Bool) (l p : Nat) (head0 head : Pat) (exits : List (Ex × Pat)) (c : CS) (k : Nat) (c' : CS) : Prop :=
 ∃ m m' c0 c1 π0, Seen c c0 ∧ ((stepC E m (scopeC E f pth) p head0 ((.goto l, head) :: exits) π0 c0 = some (k + 1, c1) ∧ Seen c1 c') ∨
  (stepC E m (scopeC E f pth) p head0 ((.goto l, head) :: exits) π0 c0 = some (0, c1) ∧ ∃ (c2 : CS) (π : CS → Plan), Seen c1 c2 ∧ Loops (fun c => stepC E m' (restC E f pth l) p head ((.goto l, head) :: exits) (π c) c) c2 (k + 1) c'))
theorem GotoC.ok (hE : EnvOK Pr E) (hI : IntrOK Pr w0 E) {f l p k : Nat} {pth : List Bool} {head0 head : Pat} {exits : List (Ex × Pat)} (hok : scopeOK E f pth l = true)
  (hx : exits.all (fun x => noGoto x.1) = true) {c c' : CS} (h : GotoC E f pth l p head0 head exits c k c') : PieceOK Pr w0 E (pieceC E f pth) p head0 exits c k c' := by
 simp only [scopeOK, Bool.and_eq_true] at hok
 obtain ⟨⟨⟨k1, k2⟩, k3⟩, k4⟩ := hok
 have hpc : pieceC E f pth = .scope (scopeC E f pth) := by
  unfold scopeC
  split at k1
  ·rename_i b hb; rw [hb]
  ·cases k1
 obtain ⟨rest, hrest⟩ := Option.isSome_iff_exists.1 k2
 have hre : restC E f pth l = rest := by simp only [restC, hrest]
 rw [hre] at k4
 have hx' : ∀ e P, (e, P) ∈ exits → noGoto e = true := fun e P hm => List.all_eq_true.1 hx (e, P) hm
 have heb := erase_plain E _ k3
 rintro K rfl hp q a w hA
 rw [hpc]
 show (Code.scope (scopeC E f pth)).wpIn _ _ _ _ _ _
 obtain ⟨m, m', c0, c1, π0, s0, h | ⟨h1, c2, π, s1, hl⟩⟩ := h
 ·obtain ⟨hs, s1⟩ := h
  have hst := step_at hE hI hp (q := q) hs (s0.atK hA)
  rw [heb] at hst
  refine wpIn_scope (scopeIn_of (wpIn_mono hst fun x a1 w1 hq => ?_))
  obtain ⟨e, P', z1, rfl, z3⟩ := hq
  have z1 : exits[k]? = some (e, P') := by simpa using z1
  have hng : noGoto e = true := hx' e P' (List.mem_of_getElem? z1)
  have hpost : (fun x a' w' => ∃ e P', exits[k]? = some (e, P') ∧ x = e.out ∧ AtK K w0 P' c' a' w') e.out a1 w1 := ⟨e, P', z1, rfl, s1.atK z3⟩
  cases e with
  | normal => exact hpost
  | exit id => exact hpost
  | goto l => simp [noGoto] at hng
  | ret => exact hpost
 ·have hst := step_at hE hI hp (q := q) h1 (s0.atK hA)
  rw [heb] at hst
  refine wpIn_scope (scopeIn_of (wpIn_mono hst fun x a1 w1 hq => ?_))
  obtain ⟨e, P', z1, rfl, z3⟩ := hq
  simp at z1
  obtain ⟨rfl, rfl⟩ := z1
  refine .inl ⟨rest, hrest, ?_⟩
  rw [hre] at hl
  have := scope_S hE hI hrest k4 hp hx' hl (q := q) a1 w1 (s1.atK z3)
  intro b k cs hro hb hr
  obtain ⟨e, a2, w2, hq, harr⟩ := this b k cs hro hb hr
  refine ⟨e, a2, w2, ?_, harr⟩
  obtain ⟨e', P', y1, y2, y3, y4⟩ := hq
  exact ⟨e', P', by simpa using y1, y3, y4⟩
theorem Good.addG (h : Good Pr E) {f tag p l : Nat} {pth : List Bool} {head0 head : Pat} {exits : List (Ex × Pat)} {R : CS → T (Nat × CS)} (hbody : (pieceOf E f pth).isSome = true) (hok : scopeOK E f pth l = true)
  (htag : E.lp tag = none) (hbig : 1000000 ≤ tag) (hx : exits.all (fun x => noGoto x.1) = true)
  (hR : ∀ c r, (R c).run = some r → GotoC E f pth l p head0 head exits c r.1 r.2) : Good Pr (Bm.addB E f pth tag head0 exits p R) :=
 h.addX hbody htag hbig fun w0 hI c r hr => (hR c r hr).ok h.env hI hok hx
end
end Go.Proofs.Ytmjmhpbncfjnpaa.Bm
