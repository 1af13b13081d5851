/- twin.Open of a blank device: what it tells and lays. No condition. -/
import Derived.Test.YtdgplkcobpikiaaGreatRfB
import Derived.Test.YtdgplkcobpikiaaGreatBmVn
import Derived.KernelRfl
set_option linter.unusedSimpArgs false
set_option linter.unusedVariables false
set_option maxRecDepth 100000
namespace Go.Proofs.YtdgplkcobpikiaaGreat.councilNobody
open Go Go.RowKit Go.Proofs.YtdgplkcobpikiaaGreat.Bm Go.Proofs.YtdgplkcobpikiaaGreat.raftOpen
def a68 : CS := ⟨[.ptr 0 0, .int .i64 0, .int .i64 900], [some (.cells [.int .i64 1800, .map 1, .nilSlice, .bool false, .int .i64 0, .int .i64 0] true), some (.map [] 0)]⟩
def b68 : CS := ⟨[.tuple [.ptr 1 0, .int .i64 0]], [some (.cells [.int .i64 1800, .map 2, .nilSlice, .bool false, .int .i64 0, .int .i64 0] true), some (.cells [.ptr 0 0, .int .i64 0, .int .i64 900, .int .i64 (-1), .int .u64 0, .int .u64 1, .nilSlice] true), some (.map [] 0)]⟩
def osBeq : List (Option AObj) → List (Option AObj) → Bool
  | [], [] => true
  | some a :: xs, some b :: ys => AObj.beq a b && osBeq xs ys
  | _, _ => false
def f68 (c : CS) : T CS := cond (AV.beqL c.ts a68.ts && osBeq c.os a68.os) (.ret b68) .fail

theorem osBeq_eq : ∀ {a b : List (Option AObj)}, osBeq a b = true → a = b
  | [], [], _ => rfl
  | some x :: xs, some y :: ys, h => by
    simp only [osBeq, Bool.and_eq_true] at h
    rw [AObj.beq_eq _ _ h.1, osBeq_eq h.2]
  | [], _ :: _, h => by simp [osBeq] at h
  | none :: _, _, h => by simp [osBeq] at h
  | some _ :: _, [], h => by simp [osBeq] at h
  | some _ :: _, none :: _, h => by simp [osBeq] at h
noncomputable def k68 (π : Plan) : Option CS := callC (E3) (5000) (68) (1) (.keep) ([]) π (a68)
def k68_p : Plan := .stop
theorem k68_is : k68 k68_p = (some (CS.mk [(AV.tuple [(AV.ptr (1) (0)), (AV.int IntKind.i64 (0))])] [some (AObj.cells [(AV.int IntKind.i64 (1800)), (AV.map (2)), AV.nilSlice, (AV.bool (false)), (AV.int IntKind.i64 (0)), (AV.int IntKind.i64 (0))] true), some (AObj.cells [(AV.ptr (0) (0)), (AV.int IntKind.i64 (0)), (AV.int IntKind.i64 (900)), (AV.int IntKind.i64 (-1)), (AV.int IntKind.u64 (0)), (AV.int IntKind.u64 (1)), AV.nilSlice] true), some (AObj.map [] (0))])) := by kernel_rfl

theorem j68 (c c' : CS) (h : (f68 c).run = some c') : ∃ m pr ros π c0 c1, Seen c c0 ∧ callC raftOpen.E3 m 68 1 pr ros π c0 = some c1 ∧ Seen c1 c' := by
  unfold f68 at h
  cases hk : (AV.beqL c.ts a68.ts && osBeq c.os a68.os) with
  | false => rw [hk] at h; cases h
  | true =>
    rw [hk] at h
    simp only [cond_true, T.run, Option.some.injEq] at h; subst h
    rw [Bool.and_eq_true] at hk
    have hc : c = a68 := by
      obtain ⟨ts, os⟩ := c
      rw [show ts = a68.ts from AV.eq_of_beqL _ _ hk.1, show os = a68.os from osBeq_eq hk.2]
    subst hc
    exact ⟨5000, .keep, [], .stop, a68, _, Seen.refl _, k68_is, Seen.refl _⟩
noncomputable def Lb : Env := mkEnv Tryz.prog 237 205
theorem qb : Bm.Good Tryz.prog Lb := good0 (by kernel_rfl) (by kernel_rfl) (by kernel_rfl)
noncomputable def L0 : Env := addF Lb 68 ⟨fiRun [.keep, .keep, .keep] [] 1 f68⟩
theorem q0 : Bm.Good Tryz.prog L0 := qb.addI g3 (by kernel_rfl) j68
end Go.Proofs.YtdgplkcobpikiaaGreat.councilNobody
