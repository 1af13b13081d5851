/- At a desk that no call made nobody waits: for every input the law returns true, and the input reads as it did. No condition. -/
import Derived.Test.YtpldiabcnbapeaaRows
import Derived.Test.YtpldiabcnbapeaaAmW
import Derived.WalkKit
import Derived.ProofKit
import Derived.OpenShut
import Derived.ChangeOld
import Derived.Carry
import Derived.SizedLaws
namespace Go.Proofs.Ytpldiabcnbapeaa.deskNobody
open Go.ChangeShapes Go.WideShapes Go.ChangeAt Go.RowKit Go.Proofs.Ytpldiabcnbapeaa.Am
set_option linter.unusedVariables false
theorem own : ownKnob Try.prog.godebug = none := by kernel_rfl
theorem laidOut : laidOutB Try.prog = true := by kernel_rfl
noncomputable def E : Env := mkEnv Try.prog 193 144
theorem envOk : EnvOK Try.prog E := mkEnv_ok (by kernel_rfl) (by kernel_rfl)
theorem pure_ (k c r n f ct nd lo bi : Int) : resB E 100000 3 [.agg [.int .i64 k, .int .u64 c, .int .u64 r, .int .u64 n, .int .u32 f, .int .u32 ct, .int .i64 nd, .int .u64 lo, .int .u64 bi]] ⟨.nil, 0⟩ = true := by kernel_rfl
theorem walk (W : World) (k c r n f ct nd lo bi : Int) : Calls Try.prog 3 #[.agg #[.int .i64 k, .int .u64 c, .int .u64 r, .int .u64 n, .int .u32 f, .int .u32 ct, .int .i64 nd, .int .u64 lo, .int .u64 bi]] W fun e W' => e = .returned (.bool true) ∧ Below W.heap.size W W' := by
  refine law_run envOk mkEnv_intr (rel_empty W) (us := [.agg #[.int .i64 k, .int .u64 c, .int .u64 r, .int .u64 n, .int .u32 f, .int .u32 ct, .int .i64 nd, .int .u64 lo, .int .u64 bi]]) ?_ (pure_ k c r n f ct nd lo bi)
  refine VRL.cons ?_ VRL.nil
  simp only [VR]
  exact ⟨_, rfl, VRL.cons (by simp only [VR]) (VRL.cons (by simp only [VR]) (VRL.cons (by simp only [VR]) (VRL.cons (by simp only [VR]) (VRL.cons (by simp only [VR]) (VRL.cons (by simp only [VR]) (VRL.cons (by simp only [VR]) (VRL.cons (by simp only [VR]) (VRL.cons (by simp only [VR]) VRL.nil))))))))⟩
theorem list9 : ∀ ns : List Int, ns.length = 9 → ∃ k c r n f ct nd lo bi, ns = [k, c, r, n, f, ct, nd, lo, bi]
  | [k, c, r, n, f, ct, nd, lo, bi], _ => ⟨_, _, _, _, _, _, _, _, _, rfl⟩
set_option maxRecDepth 100000 in
theorem lifted (os : Os) (started : os.Started) (H : Type) (enc : TypeId × Value → H) :
    ReturnsInHanded {} Try.checked os 3 .any (Rows.deskNobodySpec.pre6 enc Try.prog Try.f3 Rows.deskNobodyRow.domain false) (Rows.deskNobodySpec.post enc Try.prog Try.f3 false true false false) := by
  refine returnsInHanded_of_change_sized (C := Try.checked) own started (by kernel_rfl) Try.func3
    (ChangeSpec.witness6 (enc := enc) (C := Try.checked) false ⟨#[], #[.agg #[.int .i64 0, .int .u64 0, .int .u64 0, .int .u64 0, .int .u32 0, .int .u32 0, .int .i64 0, .int .u64 0, .int .u64 0]], []⟩ 8 (by kernel_rfl) (by kernel_rfl) (by kernel_rfl) (by kernel_rfl)) ?_
  intro W base args ds gs before hval0 hW hcnd hsz0 _
  have hval : ∀ (j : Nat) t v, Try.f3.params[j]? = some t → args[j]? = some v → Value.okWide Try.prog W .any base t v := hval0
  have hW' := hW
  obtain ⟨p, q, hA0, hV, rfl, hfz, hnd⟩ := hW
  have hA : DataW.TrodAll enc Try.prog W 0 (fun _ => true) true Try.f3.params.toList args.toList ds p := hA0
  rw [Try.params3] at hA hval
  obtain ⟨v0, vs0, d0, ds0, p0, q0, hargs, rfl, rfl, h0, r0⟩ := trodAll_cons hA
  obtain ⟨rfl, rfl, rfl⟩ := trodAll_nil r0
  obtain rfl : args = #[v0] := by cases args; simp_all
  obtain ⟨rfl, rfl⟩ := trodVars_none hV
  obtain ⟨ns, hl, rfl⟩ := open_ints_struct (ts := (Try.prog.cellTypes Try.prog.depth 29).getD []) (ks := [.i64, .u64, .u64, .u64, .u32, .u32, .i64, .u64, .u64]) Try.underlying29 (by kernel_rfl) (by kernel_rfl) (by kernel_rfl) (hval 0 29 v0 rfl rfl)
  obtain ⟨k, c, r, n, f, ct, nd, lo, bi, rfl⟩ := list9 ns hl
  have k0 := h0
  have lt0 : ∀ x ∈ p0, x.block < W.heap.size := by obtain ⟨m, hm⟩ := k0; exact DataW.trod_lt m _ _ _ hm
  refine (walk W k c r n f ct nd lo bi).mono fun e W' ⟨he, bel⟩ => ?_
  subst he
  exact ⟨_, rfl, _, _, _, [], _, [], hW', trodAll_mk1 (shut_bool Try.underlying4 _), (trodAll_cons_mk (Below.trod laidOut (by kernel_rfl) (of_decide_eq_true (by kernel_rfl)) k0 bel lt0) trodAll_mk0), rfl, bel.frame _, fun h => by cases h⟩
theorem over : Rows.deskNobodyRow.holds Try.pinned (OpenSpec.ofChange Rows.deskNobodySpec) :=
  OpenClaim.holds_of_wide 3 Try.f3 rfl rfl rfl rfl rfl rfl rfl ⟨rfl, rfl, rfl, rfl, rfl⟩ rfl rfl rfl rfl rfl (by kernel_rfl) Try.func3 (by kernel_rfl)
    (of_decide_eq_true (by kernel_rfl)) (by unfold Func.isWrapper; first | (rw [if_pos (by decide +kernel)]; kernel_rfl) | (rw [if_neg (by decide +kernel)]; exact ⟨rfl, rfl⟩))
    (fun os started H enc _ => lifted os started H enc)
theorem proved : Rows.DeskNobodySaid := over
#print axioms proved
end Go.Proofs.Ytpldiabcnbapeaa.deskNobody
namespace Go.Proofs.Ytpldiabcnbapeaa
/-- The row, under a short name, for the claim. -/
theorem deskNobody_holds : Rows.DeskNobodySaid := deskNobody.proved
end Go.Proofs.Ytpldiabcnbapeaa
