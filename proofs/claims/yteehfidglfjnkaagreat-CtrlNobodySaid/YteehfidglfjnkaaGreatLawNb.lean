/- A state that no call made has no volumes: for every input the law returns true, and the input reads as it did. No condition. -/
import Derived.Test.YteehfidglfjnkaaGreatRows
import Derived.Test.YteehfidglfjnkaaGreatBmVm
import Derived.KernelRfl
set_option linter.unusedSimpArgs false
set_option linter.unusedVariables false
set_option maxRecDepth 20000
namespace Go.Proofs.YteehfidglfjnkaaGreat.ctrlNobody
open Go Go.ChangeShapes Go.WideShapes Go.ChangeAt Go.RowKit Go.Proofs.YteehfidglfjnkaaGreat.Bm
noncomputable def E0 : Env := mkEnv Tryz.prog 268 232
noncomputable def E1 : Env := addF E0 10 livesI
noncomputable def kl (x0 : Int) (x1 : Int) (x2 : Int) (x3 : List Nat) (x4 : Int) (x5 : Int) (x6 : Int) (x7 : Int) (x8 : Int) (π : Plan) : Option Bool := lawT (E1) (5000) (5) ([.agg [.int .i64 x0, .int .u64 x1, .int .u64 x2, .str x3, .int .u32 x4, .int .i64 x5, .int .u64 x6, .int .u64 x7, .int .u64 x8]]) ([]) π
def kl_p : Plan := (.reck 1 (.fork .stop .stop))
theorem kl_is (x0 : Int) (x1 : Int) (x2 : Int) (x3 : List Nat) (x4 : Int) (x5 : Int) (x6 : Int) (x7 : Int) (x8 : Int) : kl x0 x1 x2 x3 x4 x5 x6 x7 x8 kl_p = (cond (decide ((↑(List.length x3) : Int) > 100))
  (some (true))
  (some (true))) := by kernel_rfl
theorem kl_eq (x0 : Int) (x1 : Int) (x2 : Int) (x3 : List Nat) (x4 : Int) (x5 : Int) (x6 : Int) (x7 : Int) (x8 : Int) : kl x0 x1 x2 x3 x4 x5 x6 x7 x8 kl_p = (cond (decide ((↑(List.length x3) : Int) > 100))
  (some (true))
  (some (true))) := by
  rw [kl_is]

theorem g0 : Bm.Good Tryz.prog E0 := good0 (by kernel_rfl) (by kernel_rfl) (by kernel_rfl)
set_option maxRecDepth 100000 in
theorem g1 : Bm.Good Tryz.prog E1 := g0.addF (livesS_ok (m := 100000) g0 (by kernel_rfl))
theorem kl_true (x0 : Int) (x1 : Int) (x2 : Int) (x3 : List Nat) (x4 : Int) (x5 : Int) (x6 : Int) (x7 : Int) (x8 : Int) : kl x0 x1 x2 x3 x4 x5 x6 x7 x8 kl_p = some true := by
  rw [kl_eq]
  cases decide ((↑(List.length x3) : Int) > 100) <;> rfl

theorem own : ownKnob Tryz.prog.godebug = none := by kernel_rfl
theorem laidOut : laidOutB Tryz.prog = true := by kernel_rfl
theorem readable : ((Tryz.f5.params.toList).all fun t => Tryz.prog.readableRec t && Nat.blt t Tryz.prog.types.size) = true := by kernel_rfl
theorem fits : argsIs Tryz.prog [.st [.one (.int .i64), .one (.int .u64), .one (.int .u64), .one .str, .one (.int .u32), .one (.int .i64), .one (.int .u64), .one (.int .u64), .one (.int .u64)]] Tryz.f5.params.toList = true := by kernel_rfl
set_option maxRecDepth 100000 in
theorem walk {H : Type} {enc : TypeId × Value → H} (W : World) (args : Array Value) (base : Nat) (ds : List (DataW H)) (p : List MemPlace) (hA : DataW.TrodAll enc Tryz.prog W 0 (fun _ => true) true Tryz.f5.params.toList args.toList ds p)
    (hval : ∀ (j : Nat) t v, Tryz.f5.params[j]? = some t → args[j]? = some v → Value.okWide Tryz.prog W .any base t v) : Calls Tryz.prog 5 args W fun e W' => e = .returned (.bool true) ∧ Below W.heap.size W W' := by
    obtain ⟨xs, os1, φ', hI, _, h3, h4⟩ := args_ok (base := base) (P := Tryz.prog) (fun _ => rfl) fits hA (fun j t v h1 h2 => hval j t v (by rw [← Array.getElem?_toList]; exact h1) (by rw [← Array.getElem?_toList]; exact h2)) (RO.nil W)
    obtain ⟨_, _, _, _, rfl, rfl, ⟨_, rfl, hs0⟩, hI⟩ := hI
    obtain ⟨_, _, _, _, rfl, rfl, ⟨⟨x0, rfl, y0⟩, rfl⟩, hs0⟩ := hs0
    obtain ⟨_, _, _, _, rfl, rfl, ⟨⟨x1, rfl, y1⟩, rfl⟩, hs0⟩ := hs0
    obtain ⟨_, _, _, _, rfl, rfl, ⟨⟨x2, rfl, y2⟩, rfl⟩, hs0⟩ := hs0
    obtain ⟨_, _, _, _, rfl, rfl, ⟨⟨x3, rfl, y3⟩, rfl⟩, hs0⟩ := hs0
    obtain ⟨_, _, _, _, rfl, rfl, ⟨⟨x4, rfl, y4⟩, rfl⟩, hs0⟩ := hs0
    obtain ⟨_, _, _, _, rfl, rfl, ⟨⟨x5, rfl, y5⟩, rfl⟩, hs0⟩ := hs0
    obtain ⟨_, _, _, _, rfl, rfl, ⟨⟨x6, rfl, y6⟩, rfl⟩, hs0⟩ := hs0
    obtain ⟨_, _, _, _, rfl, rfl, ⟨⟨x7, rfl, y7⟩, rfl⟩, hs0⟩ := hs0
    obtain ⟨_, _, _, _, rfl, rfl, ⟨⟨x8, rfl, y8⟩, rfl⟩, hs0⟩ := hs0
    obtain ⟨rfl, rfl⟩ := hs0
    obtain ⟨rfl, rfl⟩ := hI
    have hl := kl_true x0 x1 x2 x3 x4 x5 x6 x7 x8
    have := law_T g1 h4.rel h3 hl
    simpa using this
set_option maxRecDepth 100000 in
theorem lifted (os : Os) (started : os.Started) (H : Type) (enc : TypeId × Value → H) :
    ReturnsInHanded {} Tryz.checked os 5 .any (Rows.ctrlNobodySpec.pre6 enc Tryz.prog Tryz.f5 Rows.ctrlNobodyRow.domain false) (Rows.ctrlNobodySpec.post enc Tryz.prog Tryz.f5 false true false false) := by
  refine returnsInHanded_of_change_sized (C := Tryz.checked) own started (by kernel_rfl) Tryz.func5
    (ChangeSpec.witness6 (enc := enc) (C := Tryz.checked) false ⟨#[], #[.agg #[.int .i64 0, .int .u64 0, .int .u64 0, .string ⟨#[]⟩, .int .u32 0, .int .i64 0, .int .u64 0, .int .u64 0, .int .u64 0]], []⟩ 8 (by kernel_rfl) (by kernel_rfl) (by kernel_rfl) (by kernel_rfl)) ?_
  intro W base args ds gs before hval0 hW hcnd hsz0 _
  have hW' := hW
  obtain ⟨p, q, hA0, hV, rfl, hfz, hnd⟩ := hW
  have hA : DataW.TrodAll enc Tryz.prog W 0 (fun _ => true) true Tryz.f5.params.toList args.toList ds p := hA0
  obtain ⟨rfl, rfl⟩ := trodVars_none hV
  obtain ⟨d1, rfl⟩ : ∃ d1, ds = [d1] := by
    have hA := hA
    obtain ⟨_, _, d1, ds1, _, _, _, rfl, _, _, hA⟩ := trodAll_cons hA
    obtain ⟨_, rfl, _⟩ := trodAll_nil hA
    exact ⟨d1, rfl⟩
  refine (walk W args base _ p hA hval0).mono fun e W' ⟨he, bel⟩ => ?_
  subst he
  exact ⟨_, rfl, _, _, _, [], _, [], hW', trodAll_mk1 (shut_bool Tryz.underlying4 _), trods_below (ts := []) laidOut bel readable hA, rfl, bel.frame _, fun h => by cases h⟩
theorem over : Rows.ctrlNobodyRow.holds Tryz.pinned (OpenSpec.ofChange Rows.ctrlNobodySpec) :=
  OpenClaim.holds_of_wide 5 Tryz.f5 rfl rfl rfl rfl rfl rfl rfl ⟨rfl, rfl, rfl, rfl, rfl⟩ rfl rfl rfl rfl rfl (by kernel_rfl) Tryz.func5 (by kernel_rfl)
    (of_decide_eq_true (by kernel_rfl)) (by unfold Func.isWrapper; first | (rw [if_pos (by decide +kernel)]; kernel_rfl) | (rw [if_neg (by decide +kernel)]; exact ⟨rfl, rfl⟩))
    (fun os started H enc _ => lifted os started H enc)
theorem proved : Rows.CtrlNobodySaid := over
#print axioms proved
end Go.Proofs.YteehfidglfjnkaaGreat.ctrlNobody
