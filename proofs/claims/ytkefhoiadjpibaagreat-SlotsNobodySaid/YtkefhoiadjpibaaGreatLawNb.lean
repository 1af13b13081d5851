/- A slots that no call made holds nothing: for every input the law returns true, and the input reads as it did. No condition. -/
import Derived.Test.YtkefhoiadjpibaaGreatRows
import Derived.Test.YtkefhoiadjpibaaGreatBmVm
import Derived.Test.YtkefhoiadjpibaaGreatMem
import Derived.KernelRfl
set_option linter.unusedSimpArgs false
set_option linter.unusedVariables false
set_option maxRecDepth 20000
namespace Go.Proofs.YtkefhoiadjpibaaGreat.slotsNobody
open Go Go.ChangeShapes Go.WideShapes Go.ChangeAt Go.RowKit Go.Proofs.YtkefhoiadjpibaaGreat.Bm
noncomputable def E0 : Env := mkEnv Tryz.prog 196 139
abbrev shL : List Sh := [.int .u64, .int .u64, .int .u32, .int .u32]
noncomputable def E1 : Env := addF E0 7 livesI
noncomputable def kl (x0 : Int) (x1 : Int) (x2 : Int) (x3 : Int) (x4 : Int) (x5 : Int) (x6 : Int) (x7 : Int) (x8 : List Nat) (nlx9 : Bool) (x9 : Nat) (fx9 : Nat → Nat → AV) (x10 : Int) (π : Plan) : Option Bool := lawT (E1) (5000) (4) ([.agg [.int .u64 x0, .int .u64 x1, .int .u64 x2, .int .i64 x3, .int .u64 x4, .int .u64 x5, .int .u32 x6, .int .u32 x7, .str x8, .osl nlx9 0 0 x9 x9 4 true], .int .u64 x10]) ([some (.tarr shL x9 fx9 false)]) π
def kl_p : Plan := (.fork (.must true (.must true (.must true (.must true (.fork .stop .stop))))) (.must false (.must false (.must false (.must false .stop)))))
theorem kl_is (x0 : Int) (x1 : Int) (x2 : Int) (x3 : Int) (x4 : Int) (x5 : Int) (x6 : Int) (x7 : Int) (x8 : List Nat) (nlx9 : Bool) (x9 : Nat) (fx9 : Nat → Nat → AV) (x10 : Int) : kl x0 x1 x2 x3 x4 x5 x6 x7 x8 nlx9 x9 fx9 x10 kl_p = (cond (decide ((↑(List.length x8) : Int) ≤ 20000) == true)
  (cond (decide ((↑(List.length x8) : Int) ≤ 20000) == true) (cond (decide ((↑(List.length x8) : Int) ≤ 20000) == true) (cond (decide ((↑(List.length x8) : Int) ≤ 20000) == true) (cond (decide ((↑(List.length x8) : Int) ≤ 20000)) (cond (!decide ((↑x9 : Int) ≤ 200))
  (some (true))
  (some (true))) none) none) none) none)
  (cond (decide ((↑(List.length x8) : Int) ≤ 20000) == true) none (cond (decide ((↑(List.length x8) : Int) ≤ 20000) == true) none (cond (decide ((↑(List.length x8) : Int) ≤ 20000) == true) none (cond (decide ((↑(List.length x8) : Int) ≤ 20000)) none (some (true))))))) := by kernel_rfl
theorem kl_eq (x0 : Int) (x1 : Int) (x2 : Int) (x3 : Int) (x4 : Int) (x5 : Int) (x6 : Int) (x7 : Int) (x8 : List Nat) (nlx9 : Bool) (x9 : Nat) (fx9 : Nat → Nat → AV) (x10 : Int) : kl x0 x1 x2 x3 x4 x5 x6 x7 x8 nlx9 x9 fx9 x10 kl_p = (cond (decide ((↑(List.length x8) : Int) ≤ 20000))
  (cond (decide ((↑x9 : Int) ≤ 200))
  (some (true))
  (some (true)))
  (some (true))) := by
  rw [kl_is]
  try simp only [eq_self, decide_true, beq_self_eq_true, Nat.beq_refl, ble_self, Int.le_refl, Nat.le_refl]
  cases (decide ((↑(List.length x8) : Int) ≤ 20000)) with
  | true =>
    cases (decide ((↑x9 : Int) ≤ 200)) with
    | true =>
      rfl
    | false =>
      rfl
  | false =>
    rfl

theorem g0 : Bm.Good Tryz.prog E0 := good0 (by kernel_rfl) (by kernel_rfl) (by kernel_rfl)
set_option maxRecDepth 100000 in
theorem g1 : Bm.Good Tryz.prog E1 := g0.addF (livesS_ok (m := 100000) q3 (by kernel_rfl))
theorem kl_true (x0 : Int) (x1 : Int) (x2 : Int) (x3 : Int) (x4 : Int) (x5 : Int) (x6 : Int) (x7 : Int) (x8 : List Nat) (nlx9 : Bool) (x9 : Nat) (fx9 : Nat → Nat → AV) (x10 : Int) : kl x0 x1 x2 x3 x4 x5 x6 x7 x8 nlx9 x9 fx9 x10 kl_p = some true := by
  rw [kl_eq]
  cases decide ((↑(List.length x8) : Int) ≤ 20000) <;> cases decide ((↑x9 : Int) ≤ 200) <;> rfl

theorem own : ownKnob Tryz.prog.godebug = none := by kernel_rfl
theorem laidOut : laidOutB Tryz.prog = true := by kernel_rfl
theorem readable : ((Tryz.f4.params.toList).all fun t => Tryz.prog.readableRec t && Nat.blt t Tryz.prog.types.size) = true := by kernel_rfl
theorem fits : argsIs Tryz.prog [.st [.one (.int .u64), .one (.int .u64), .one (.int .u64), .one (.int .i64), .one (.int .u64), .one (.int .u64), .one (.int .u32), .one (.int .u32), .one .str, .sl shL], .one (.one (.int .u64))] Tryz.f4.params.toList = true := by kernel_rfl
set_option maxRecDepth 100000 in
theorem walk {H : Type} {enc : TypeId × Value → H} (W : World) (args : Array Value) (base : Nat) (ds : List (DataW H)) (p : List MemPlace) (hA : DataW.TrodAll enc Tryz.prog W 0 (fun _ => true) true Tryz.f4.params.toList args.toList ds p)
    (hval : ∀ (j : Nat) t v, Tryz.f4.params[j]? = some t → args[j]? = some v → Value.okWide Tryz.prog W .any base t v) : Calls Tryz.prog 4 args W fun e W' => e = .returned (.bool true) ∧ Below W.heap.size W W' := by
    obtain ⟨xs, os1, φ', hI, _, h3, h4⟩ := args_ok (base := base) (P := Tryz.prog) (fun _ => rfl) fits hA (fun j t v h1 h2 => hval j t v (by rw [← Array.getElem?_toList]; exact h1) (by rw [← Array.getElem?_toList]; exact h2)) (RO.nil W)
    obtain ⟨_, _, _, _, rfl, rfl, ⟨_, rfl, hs0⟩, hI⟩ := hI
    obtain ⟨_, _, _, _, rfl, rfl, ⟨⟨x0, rfl, y0⟩, rfl⟩, hs0⟩ := hs0
    obtain ⟨_, _, _, _, rfl, rfl, ⟨⟨x1, rfl, y1⟩, rfl⟩, hs0⟩ := hs0
    obtain ⟨_, _, _, _, rfl, rfl, ⟨⟨x2, rfl, y2⟩, rfl⟩, hs0⟩ := hs0
    obtain ⟨_, _, _, _, rfl, rfl, ⟨⟨x3, rfl, y3⟩, rfl⟩, hs0⟩ := hs0
    obtain ⟨_, _, _, _, rfl, rfl, ⟨⟨x4, rfl, y4⟩, rfl⟩, hs0⟩ := hs0
    obtain ⟨_, _, _, _, rfl, rfl, ⟨⟨x5, rfl, y5⟩, rfl⟩, hs0⟩ := hs0
    obtain ⟨_, _, _, _, rfl, rfl, ⟨⟨x6, rfl, y6⟩, rfl⟩, hs0⟩ := hs0
    obtain ⟨_, _, _, _, rfl, rfl, ⟨⟨x7, rfl, y7⟩, rfl⟩, hs0⟩ := hs0
    obtain ⟨_, _, _, _, rfl, rfl, ⟨⟨x8, rfl, y8⟩, rfl⟩, hs0⟩ := hs0
    obtain ⟨_, _, _, _, rfl, rfl, ⟨nlx9, x9, fx9, rfl, rfl, hnx9, hlx9, y9⟩, hs0⟩ := hs0
    obtain ⟨rfl, rfl⟩ := hs0
    obtain ⟨_, _, _, _, rfl, rfl, ⟨⟨x10, rfl, y10⟩, rfl⟩, hI⟩ := hI
    obtain ⟨rfl, rfl⟩ := hI
    have hl := kl_true x0 x1 x2 x3 x4 x5 x6 x7 x8 nlx9 x9 fx9 x10
    have := law_T g1 h4.rel h3 hl
    simpa using this
set_option maxRecDepth 100000 in
theorem lifted (os : Os) (started : os.Started) (H : Type) (enc : TypeId × Value → H) :
    ReturnsInHanded {} Tryz.checked os 4 .any (Rows.slotsNobodySpec.pre6 enc Tryz.prog Tryz.f4 Rows.slotsNobodyRow.domain false) (Rows.slotsNobodySpec.post enc Tryz.prog Tryz.f4 false true false false) := by
  refine returnsInHanded_of_change_sized (C := Tryz.checked) own started (by kernel_rfl) Tryz.func4
    (ChangeSpec.witness6 (enc := enc) (C := Tryz.checked) false ⟨#[], #[.agg #[.int .u64 0, .int .u64 0, .int .u64 0, .int .i64 0, .int .u64 0, .int .u64 0, .int .u32 0, .int .u32 0, .string ⟨#[]⟩, .slice none 0 0], .int .u64 0], []⟩ 8 (by kernel_rfl) (by kernel_rfl) (by kernel_rfl) (by kernel_rfl)) ?_
  intro W base args ds gs before hval0 hW hcnd hsz0 _
  have hW' := hW
  obtain ⟨p, q, hA0, hV, rfl, hfz, hnd⟩ := hW
  have hA : DataW.TrodAll enc Tryz.prog W 0 (fun _ => true) true Tryz.f4.params.toList args.toList ds p := hA0
  obtain ⟨rfl, rfl⟩ := trodVars_none hV
  obtain ⟨d1, d2, rfl⟩ : ∃ d1 d2, ds = [d1, d2] := by
    have hA := hA
    obtain ⟨_, _, d1, ds1, _, _, _, rfl, _, _, hA⟩ := trodAll_cons hA
    obtain ⟨_, _, d2, ds2, _, _, _, rfl, _, _, hA⟩ := trodAll_cons hA
    obtain ⟨_, rfl, _⟩ := trodAll_nil hA
    exact ⟨d1, d2, rfl⟩
  refine (walk W args base _ p hA hval0).mono fun e W' ⟨he, bel⟩ => ?_
  subst he
  exact ⟨_, rfl, _, _, _, [], _, [], hW', trodAll_mk1 (shut_bool Tryz.underlying4 _), trods_below (ts := []) laidOut bel readable hA, rfl, bel.frame _, fun h => by cases h⟩
theorem over : Rows.slotsNobodyRow.holds Tryz.pinned (OpenSpec.ofChange Rows.slotsNobodySpec) :=
  OpenClaim.holds_of_wide 4 Tryz.f4 rfl rfl rfl rfl rfl rfl rfl ⟨rfl, rfl, rfl, rfl, rfl⟩ rfl rfl rfl rfl rfl (by kernel_rfl) Tryz.func4 (by kernel_rfl)
    (of_decide_eq_true (by kernel_rfl)) (by unfold Func.isWrapper; first | (rw [if_pos (by decide +kernel)]; kernel_rfl) | (rw [if_neg (by decide +kernel)]; exact ⟨rfl, rfl⟩))
    (fun os started H enc _ => lifted os started H enc)
theorem proved : Rows.SlotsNobodySaid := over
#print axioms proved
end Go.Proofs.YtkefhoiadjpibaaGreat.slotsNobody
