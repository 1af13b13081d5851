/- In a table that no call made there is no volume: for every input the law returns true, and the input reads as it did. No condition. -/
import Derived.Test.YtfghcpgfkahocaaVolA
import Derived.WalkKit
import Derived.ProofKit
import Derived.OpenShut
import Derived.ChangeOld
import Derived.Carry
import Derived.SizedLaws
set_option linter.unusedSimpArgs false
set_option linter.unusedVariables false
namespace Go.Proofs.Ytfghcpgfkahocaa.volumeNobody
open Go.ChangeShapes Go.WideShapes Go.ChangeAt Go.RowKit Go.Proofs.Ytfghcpgfkahocaa.Am
theorem own : ownKnob Try.prog.godebug = none := by kernel_rfl
theorem laidOut : laidOutB Try.prog = true := by kernel_rfl
theorem envOk : EnvOK Try.prog E := mkEnv_ok (by kernel_rfl) (by kernel_rfl)

theorem rows (W : World) (k b id : Int) (s : List Nat) (n : Nat) (f : Nat → Nat → AV) {φ : Phi} {v : Value} (hR : Rel W φ (stC (HR n f)).get (stC (HR n f)).next W) (hv : VR φ (opA k b id s (.tsl 0 0 n n 1 true)) v) :
    Calls Try.prog 4 #[v] W fun e W' => e = .returned (.bool true) ∧ Below W.heap.size W W' := by
  by_cases hs : s.length > 100
  · exact law_runA envOk mkEnv_intr (us := [v]) hR (VRL.cons hv VRL.nil) (r2_is k b id s n f) (by refine ⟨?_, ?_, ?_, ?_, ?_, rfl, trivial⟩ <;> simp <;> omega)
  · by_cases hn : n > 100
    · exact law_runA envOk mkEnv_intr (us := [v]) hR (VRL.cons hv VRL.nil) (r0_is k b id s n f) (by refine ⟨?_, ?_, ?_, ?_, ?_, ?_, rfl, trivial⟩ <;> simp <;> omega)
    · exact law_runA envOk mkEnv_intr (us := [v]) hR (VRL.cons hv VRL.nil) (r1_is k b id s n f) (by refine ⟨?_, ?_, ?_, ?_, ?_, ?_, rfl, trivial⟩ <;> simp <;> omega)
theorem nils (W : World) (k b id : Int) (s : List Nat) {φ : Phi} {v : Value} (hR : Rel W φ (stC []).get (stC []).next W) (hv : VR φ (opA k b id s .nilSlice) v) :
    Calls Try.prog 4 #[v] W fun e W' => e = .returned (.bool true) ∧ Below W.heap.size W W' := by
  by_cases hs : s.length > 100
  · exact law_runA envOk mkEnv_intr (us := [v]) hR (VRL.cons hv VRL.nil) (n1_is k b id s) (by refine ⟨?_, ?_, ?_, ?_, ?_, rfl, trivial⟩ <;> simp <;> omega)
  · exact law_runA envOk mkEnv_intr (us := [v]) hR (VRL.cons hv VRL.nil) (n0_is k b id s) (by refine ⟨?_, ?_, ?_, ?_, ?_, rfl, trivial⟩ <;> simp <;> omega)
theorem gaps (W : World) (k b id : Int) (s : List Nat) {φ : Phi} {v : Value} (hR : Rel W φ (stC [none]).get (stC [none]).next W) (hv : VR φ (opA k b id s (.tsl 0 0 0 0 1 true)) v) :
    Calls Try.prog 4 #[v] W fun e W' => e = .returned (.bool true) ∧ Below W.heap.size W W' := by
  by_cases hs : s.length > 100
  · exact law_runA envOk mkEnv_intr (us := [v]) hR (VRL.cons hv VRL.nil) (g1_is k b id s) (by refine ⟨?_, ?_, ?_, ?_, ?_, rfl, trivial⟩ <;> simp <;> omega)
  · exact law_runA envOk mkEnv_intr (us := [v]) hR (VRL.cons hv VRL.nil) (g0_is k b id s) (by refine ⟨?_, ?_, ?_, ?_, ?_, rfl, trivial⟩ <;> simp <;> omega)

theorem list5 {α : Type} : ∀ l : List α, l.length = 5 → ∃ a b c d e, l = [a, b, c, d, e]
  | [a, b, c, d, e], _ => ⟨_, _, _, _, _, rfl⟩
theorem op_fields {H : Type} {enc : TypeId × Value → H} {W : World} {sp : Nat → Bool} {held : Bool} {cs : List Value} {n : Nat} {y : DataW H × List MemPlace} (h : DataW.trod enc Try.prog W 0 sp held n 32 cs = some y) :
    cs.length = 5 ∧ ∀ (i : Nat) t, ([3, 9, 22, 30, 28] : List TypeId)[i]? = some t → ∃ v n' y', cs[i]? = some v ∧ DataW.trod enc Try.prog W 0 sp held n' t [v] = some y' :=
  open_fields Try.underlying32 [3, 9, 22, 30, 28] (by kernel_rfl) (by kernel_rfl) (by kernel_rfl) h

set_option maxRecDepth 100000 in
theorem lifted (os : Os) (started : os.Started) (H : Type) (enc : TypeId × Value → H) :
    ReturnsInHanded {} Try.checked os 4 .any (Rows.volumeNobodySpec.pre6 enc Try.prog Try.f4 Rows.volumeNobodyRow.domain false) (Rows.volumeNobodySpec.post enc Try.prog Try.f4 false true false false) := by
  refine returnsInHanded_of_change_sized (C := Try.checked) own started (by kernel_rfl) Try.func4
    (ChangeSpec.witness6 (enc := enc) (C := Try.checked) false ⟨#[], #[.agg #[.int .i64 0, .string ⟨#[]⟩, .int .u32 0, .slice none 0 0, .int .u64 0]], []⟩ 8 (by kernel_rfl) (by kernel_rfl) (by kernel_rfl) (by kernel_rfl)) ?_
  intro W base args ds gs before hval0 hW hcnd hsz0 _
  have hval : ∀ (j : Nat) t v, Try.f4.params[j]? = some t → args[j]? = some v → Value.okWide Try.prog W .any base t v := hval0
  have hW' := hW
  obtain ⟨p, q, hA0, hV, rfl, hfz, hnd⟩ := hW
  have hA : DataW.TrodAll enc Try.prog W 0 (fun _ => true) true Try.f4.params.toList args.toList ds p := hA0
  rw [Try.params4] at hA hval
  obtain ⟨v0, vs0, d0, ds0, p0, q0, hargs, rfl, rfl, h0, r0⟩ := trodAll_cons hA
  obtain ⟨rfl, rfl, rfl⟩ := trodAll_nil r0
  obtain rfl : args = #[v0] := by cases args; simp_all
  obtain ⟨rfl, rfl⟩ := trodVars_none hV
  obtain ⟨cs, rfl, _⟩ := okWide_struct Try.underlying32 (hval 0 32 v0 rfl rfl)
  have k0 := h0
  have lt0 : ∀ x ∈ p0, x.block < W.heap.size := by obtain ⟨m, hm⟩ := k0; exact DataW.trod_lt m _ _ _ hm
  have walk : Calls Try.prog 4 #[.agg cs] W fun e W' => e = .returned (.bool true) ∧ Below W.heap.size W W' := by
    obtain ⟨fuel, hv⟩ := h0
    have hv : DataW.trod enc Try.prog W 0 (fun _ => true) true fuel 32 cs.toList = some (d0, p0) := hv
    obtain ⟨hl, hf⟩ := op_fields hv
    obtain ⟨c0, c1, c2, c3, c4, hcs⟩ := list5 cs.toList hl
    obtain rfl : cs = #[c0, c1, c2, c3, c4] := by cases cs; simp_all
    obtain ⟨u0, n0, y0, e0, t0⟩ := hf 0 3 rfl
    obtain ⟨u1, n1, y1, e1, t1⟩ := hf 1 9 rfl
    obtain ⟨u2, n2, y2, e2, t2⟩ := hf 2 22 rfl
    obtain ⟨u3, n3, y3, e3, t3⟩ := hf 3 30 rfl
    obtain ⟨u4, n4, y4, e4, t4⟩ := hf 4 28 rfl
    rw [hcs] at e0 e1 e2 e3 e4
    simp only [List.getElem?_cons_zero, List.getElem?_cons_succ, Option.some.injEq] at e0 e1 e2 e3 e4
    subst e0; subst e1; subst e2; subst e3; subst e4
    obtain ⟨a0, w0, h1, q0⟩ := one_cell (s := .int .i64) Try.underlying3 t0
    injection h1 with h1 _; subst h1
    obtain ⟨a1, w1, h1, q1⟩ := one_cell (s := .str) Try.underlying9 t1
    injection h1 with h1 _; subst h1
    obtain ⟨a2, w2, h1, q2⟩ := one_cell (s := .int .u32) Try.underlying22 t2
    injection h1 with h1 _; subst h1
    obtain ⟨a4, w4, h1, q4⟩ := one_cell (s := .int .u64) Try.underlying28 t4
    injection h1 with h1 _; subst h1
    have agg : ∀ φ x, VR φ x c3 → VR φ (opA a0.toI a2.toI a4.toI a1.toS x) (.agg #[c0, c1, c2, c3, c4]) := fun φ x hx => by
      simp only [opA, VR]
      exact ⟨_, rfl, VRL.cons (q0 φ) (VRL.cons (q1 φ) (VRL.cons (q2 φ) (VRL.cons hx (VRL.cons (q4 φ) VRL.nil))))⟩
    rcases open_rows (sh := [.int .u64]) Try.underlying30 (by kernel_rfl) (by decide) (fun _ => rfl) (fun cs n y h => row_one (.int .u64) Try.underlying28 cs n y h) t3 with rfl | ⟨a, rfl⟩ | ⟨l, n, cap, f, h1, h2, h3, h4, rfl, h5, h6⟩
    · exact nils W _ _ _ _ (ro_none W) (agg _ _ (by simp only [VR]))
    · refine gaps W _ _ _ _ (ro_gap (ro_none W) ⟨0, 0, 0⟩) (agg _ _ ?_)
      simp only [VR]
      exact ⟨_, a, 0, upd_same _ _ _, rfl, Nat.le_refl _, Nat.le_refl _, (fun _ => rfl), (fun h => absurd h (by omega)), (fun h => absurd h (by omega))⟩
    · exact rows W _ _ _ _ n f (ro_add (ro_none W) (fun o h => by simp at h) h1 rfl h6) (agg _ _ (VR_rows (upd_same _ _ _) h3 h5))
  refine walk.mono fun e W' ⟨he, bel⟩ => ?_
  subst he
  exact ⟨_, rfl, _, _, _, [], _, [], hW', trodAll_mk1 (shut_bool Try.underlying4 _), (trodAll_cons_mk (Below.trod laidOut (by kernel_rfl) (of_decide_eq_true (by kernel_rfl)) k0 bel lt0) trodAll_mk0), rfl, bel.frame _, fun h => by cases h⟩
theorem over : Rows.volumeNobodyRow.holds Try.pinned (OpenSpec.ofChange Rows.volumeNobodySpec) :=
  OpenClaim.holds_of_wide 4 Try.f4 rfl rfl rfl rfl rfl rfl rfl ⟨rfl, rfl, rfl, rfl, rfl⟩ rfl rfl rfl rfl rfl (by kernel_rfl) Try.func4 (by kernel_rfl)
    (of_decide_eq_true (by kernel_rfl)) (by unfold Func.isWrapper; first | (rw [if_pos (by decide +kernel)]; kernel_rfl) | (rw [if_neg (by decide +kernel)]; exact ⟨rfl, rfl⟩))
    (fun os started H enc _ => lifted os started H enc)
theorem proved : Rows.VolumeNobodySaid := over
#print axioms proved
end Go.Proofs.Ytfghcpgfkahocaa.volumeNobody
namespace Go.Proofs.Ytfghcpgfkahocaa
/-- The row, under a short name, for the claim. -/
theorem volumeNobody_holds : Rows.VolumeNobodySaid := volumeNobody.proved
end Go.Proofs.Ytfghcpgfkahocaa
