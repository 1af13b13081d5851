/- The one call of bits.TrailingZeros64 that lives makes, where the table is laid; what the laid table tells of its first cell. Condition: the table of math/bits is laid as its text says. -/
import Derived.Test.YthpanolfgefikaaDoorTie
import Derived.Test.YthpanolfgefikaaDoorBmVo
import Derived.KernelRfl
import Derived.Tactics
import Derived.Tactics2
import Derived.StillTactics
import Derived.Laws.Pointers
import Derived.RegionTactic
import Derived.LoopTactic
import Derived.ChangeAlike
import Derived.ProofKit
import Derived.LaidMore
import Derived.OpenShut
import Derived.WalkSpells
set_option linter.unusedSimpArgs false
set_option linter.unusedVariables false
set_option maxRecDepth 20000
namespace Go.Proofs.YthpanolfgefikaaDoor.windowNobody
open Go Go.ChangeShapes Go.WideShapes Go.ChangeAt Go.RowKit Go.Proofs.YthpanolfgefikaaDoor.Bm

theorem gTab : Tryd.prog.globalNamed "math/bits.deBruijn64tab" = some 0 := by kernel_rfl
theorem tTab : (Tryd.prog.globals[0]?).map (·.type) = some 92 := by kernel_rfl
/-- What is asked of the outside. -/
def L (w : World) : Prop := w.cell? ⟨0, 0, none⟩ = some (.int .u8 0)
theorem L_more : ∀ w w' : World, Below w.heap.size w w' → L w → L w' := fun w w' hb h => cell_later hb h
theorem of_laid {W : World} (h : laidMetH Tryd.prog [("math/bits.deBruijn64tab", Rows.laid_math_bits_deBruijn64tab)] W) : L W := by
  rw [MakeChecks.laidMetH_plain _ _ _ (by kernel_rfl)] at h
  obtain ⟨ps, ⟨g1, t1, cs1, f1, p1, q1, hg1, ht1, hv1, hd1, _, _⟩, _⟩ := h
  obtain rfl := Option.some.inj (gTab.symm.trans hg1)
  obtain rfl := Option.some.inj (tTab.symm.trans ht1)
  obtain ⟨xs, m1, rfl, hx1, hlen, hn3, hel⟩ := DataW.trod_array Tryd.underlying92 hd1
  have c5 : Tryd.prog.cellsOf 5 = 1 := by kernel_rfl
  have h0 := hel 0 (by decide)
  simp only [Prod.mk.injEq] at hx1
  have hx1 := hx1.1
  unfold Rows.laid_math_bits_deBruijn64tab at hx1
  simp only [DataW.agg.injEq] at hx1
  cases xs with
  | nil => simp at hn3
  | cons x0 xs =>
    simp only [List.map_cons, List.cons.injEq] at hx1
    obtain ⟨k, e1, e2, _⟩ := DataW.trod_int Tryd.underlying5 (show DataW.trod _ Tryd.prog W 0 _ false m1 5 _ = some x0 from h0)
    have hk : k = 0 := by rw [e2] at hx1; simpa using hx1.1.symm
    subst hk
    have := World.var?_cell hg1 hv1 0
    obtain ⟨l1⟩ := cs1
    rw [c5] at e1
    match l1, e1 with
    | c :: _, e1 =>
      simp at e1
      subst e1
      show W.cell? ⟨0, 0, none⟩ = some (.int .u8 0)
      simpa using this
set_option maxRecDepth 100000 in
theorem tz_walk (w : World) (h : L w) : Calls Tryd.prog 49 #[.int .u64 18446744073709551613] w fun e w' => e = .returned (.int .i64 0) ∧ w' = w := by
  have e : IntKind.u64.wrap (bits BinOp.and IntKind.u64 18446744073709551613 (IntKind.u64.wrap (-18446744073709551613)) * 285870213051353865) / 288230376151711744 = 0 := by kernel_rfl
  have h' : w.cell? ⟨0, (IntKind.u64.wrap (bits BinOp.and IntKind.u64 18446744073709551613 (IntKind.u64.wrap (-18446744073709551613)) * 285870213051353865) / 288230376151711744).toNat, none⟩ = some (.int .u8 0) := by
    rw [e]; exact h
  have hr : 0 ≤ IntKind.u64.wrap (bits BinOp.and IntKind.u64 18446744073709551613 (IntKind.u64.wrap (-18446744073709551613)) * 285870213051353865) / 288230376151711744 ∧
      IntKind.u64.wrap (bits BinOp.and IntKind.u64 18446744073709551613 (IntKind.u64.wrap (-18446744073709551613)) * 285870213051353865) / 288230376151711744 < 64 := by
    rw [e]; decide
  clear h e
  go_enter Tryd.func49, Tryd.ntmps49
  go_wp2
  go_ret
  exact ⟨rfl, rfl⟩
def tzI : Intr := { run := fun args σ => match args with
  | [.int .u64 x] => cond (decide (x = 18446744073709551613)) (.ret (.int .i64 0, σ)) .fail
  | _ => .fail }
theorem tz_ok : ∀ w0, L w0 → ∀ args σ v σ', (tzI.run args σ).run = some (v, σ') → CallOK Tryd.prog w0 49 args σ v σ' := by
  intro w0 hL args σ v σ' hr
  simp only [tzI] at hr
  split at hr
  · rename_i x
    cases hx : decide (x = 18446744073709551613) with
    | false => rw [hx] at hr; cases hr
    | true =>
      rw [hx] at hr
      have hx := of_decide_eq_true hx
      subst hx
      simp only [cond_true, T.run, Option.some.injEq, Prod.mk.injEq] at hr
      obtain ⟨rfl, rfl⟩ := hr
      refine ⟨⟨Tryd.f49, Tryd.func49, by kernel_rfl, by kernel_rfl⟩, fun n φ w us hR hus => ?_⟩
      simp only [VRL, VR] at hus
      obtain ⟨_, _, rfl, rfl, rfl⟩ := hus
      show CallsIn Fence.wide n _ _ _ _ _
      refine CallsIn.mono (callsIn_wide.2 (tz_walk w (L_more _ _ hR.below hL))) fun e w' he => ?_
      obtain ⟨rfl, rfl⟩ := he
      exact ⟨_, φ, rfl, by simp only [VR], hR, Ext.refl _ _ _ _ _⟩
  · cases hr
end Go.Proofs.YthpanolfgefikaaDoor.windowNobody
