/- In a council that no call made nothing is done: for every input the law returns true, and the input reads as it did. No condition. -/
import Derived.Test.YtdgplkcobpikiaaGreatCnB
import Derived.Test.YtdgplkcobpikiaaGreatMemE
import Derived.Test.YtdgplkcobpikiaaGreatBmVo
import Derived.KernelRfl
set_option linter.unusedSimpArgs false
set_option linter.unusedVariables false
set_option maxRecDepth 20000
namespace Go.Proofs.YtdgplkcobpikiaaGreat.councilNobody
open Go Go.ChangeShapes Go.WideShapes Go.ChangeAt Go.RowKit Go.Proofs.YtdgplkcobpikiaaGreat.Bm
abbrev shK : List Sh := [.int .i64]
noncomputable def E2 : Env := addF E1n 5 livesI
noncomputable def kl (x0 : Int) (x1 : Int) (x2 : Int) (x3 : List Nat) (nlx4 : Bool) (x4 : Nat) (fx4 : Nat → Nat → AV) (x5 : Int) (π : Plan) : Option Bool := lawT (E2) (5000) (3) ([.agg [.int .i64 x0, .int .i64 x1, .int .i64 x2, .str x3, .osl nlx4 0 0 x4 x4 1 true], .int .i64 x5]) ([some (.tarr shK x4 fx4 false)]) π
def kl_p : Plan := (.reck 1 (.fork (.must true (.must true (.must true (.must false (.fork .stop (.reck 41 (.fork (.fork (.must true (.must true (.fork (.must true (.must true .stop)) (.must false (.must false .stop))))) (.must false (.must false .stop))) (.fork (.fork (.must true (.must true (.fork (.must true (.must true .stop)) (.must false (.must false .stop))))) (.must false (.must false .stop))) (.fork (.must true (.must true (.fork (.must true (.must true .stop)) (.must false (.must false .stop))))) (.must false (.must false .stop))))))))))) (.must false (.must false (.must false (.must true .stop))))))
theorem kl_is (x0 : Int) (x1 : Int) (x2 : Int) (x3 : List Nat) (nlx4 : Bool) (x4 : Nat) (fx4 : Nat → Nat → AV) (x5 : Int) : kl x0 x1 x2 x3 nlx4 x4 fx4 x5 kl_p = (cond (decide ((↑(List.length x3) : Int) > 300) == false)
  (cond (decide ((↑(List.length x3) : Int) > 300) == false) (cond (decide ((↑(List.length x3) : Int) > 300) == false) (cond (decide ((↑(List.length x3) : Int) > 300) == false) (cond (decide ((↑(List.length x3) : Int) > 300)) none (cond (decide ((↑x4 : Int) > 200))
  (some (true))
  (cond (decide (x5 < 1))
  (cond (decide (x5 ≥ 1) == true)
  (cond (decide (x5 ≥ 1) == true) (cond (decide (x5 ≥ 1)) (cond (((!true) == decide (x5 ≤ 7)) == true)
  (cond (((!true) == decide (x5 ≤ 7)) == true) (cond ((!true) == decide (x5 ≤ 7)) (some (true)) none) none)
  (cond (((!true) == decide (x5 ≤ 7)) == true) none (cond ((!true) == decide (x5 ≤ 7)) none (some (false))))) none) none)
  (cond (decide (x5 ≥ 1) == true) none (cond (decide (x5 ≥ 1)) none (some (true)))))
  (cond (decide (x5 > 7))
  (cond (decide (x5 ≥ 1) == true)
  (cond (decide (x5 ≥ 1) == true) (cond (decide (x5 ≥ 1)) (cond (((!true) == decide (x5 ≤ 7)) == true)
  (cond (((!true) == decide (x5 ≤ 7)) == true) (cond ((!true) == decide (x5 ≤ 7)) (some (true)) none) none)
  (cond (((!true) == decide (x5 ≤ 7)) == true) none (cond ((!true) == decide (x5 ≤ 7)) none (some (false))))) none) none)
  (cond (decide (x5 ≥ 1) == true) none (cond (decide (x5 ≥ 1)) none (some (true)))))
  (cond (decide (x5 ≥ 1) == true)
  (cond (decide (x5 ≥ 1) == true) (cond (decide (x5 ≥ 1)) (cond (((!false) == decide (x5 ≤ 7)) == true)
  (cond (((!false) == decide (x5 ≤ 7)) == true) (cond ((!false) == decide (x5 ≤ 7)) (some (true)) none) none)
  (cond (((!false) == decide (x5 ≤ 7)) == true) none (cond ((!false) == decide (x5 ≤ 7)) none (some (false))))) none) none)
  (cond (decide (x5 ≥ 1) == true) none (cond (decide (x5 ≥ 1)) none (some (false))))))))) none) none) none)
  (cond (decide ((↑(List.length x3) : Int) > 300) == false) none (cond (decide ((↑(List.length x3) : Int) > 300) == false) none (cond (decide ((↑(List.length x3) : Int) > 300) == false) none (cond (decide ((↑(List.length x3) : Int) > 300)) (some (true)) none))))) := by kernel_rfl
theorem kl_true (x0 : Int) (x1 : Int) (x2 : Int) (x3 : List Nat) (nlx4 : Bool) (x4 : Nat) (fx4 : Nat → Nat → AV) (x5 : Int) : kl x0 x1 x2 x3 nlx4 x4 fx4 x5 kl_p = some true := by
  rw [kl_is]
  by_cases a1 : (x3.length : Int) > 300
  · simp [a1]
  · by_cases a2 : (x4 : Int) > 200
    · simp [a1, a2]
    · by_cases a3 : x5 < 1
      · simp [a1, a2, a3, show ¬ x5 ≥ 1 by omega]
      · by_cases a4 : x5 > 7
        · simp [a1, a2, a3, a4, show x5 ≥ 1 by omega, show ¬ x5 ≤ 7 by omega]
        · simp [a1, a2, a3, a4, show x5 ≥ 1 by omega, show x5 ≤ 7 by omega]
set_option maxRecDepth 100000 in
theorem g2 : Bm.Good Tryz.prog E2 := g13.addF (livesS_ok (m := 100000) q6 (by kernel_rfl))

theorem own : ownKnob Tryz.prog.godebug = none := by kernel_rfl
theorem laidOut : laidOutB Tryz.prog = true := by kernel_rfl
theorem readable : ((Tryz.f3.params.toList).all fun t => Tryz.prog.readableRec t && Nat.blt t Tryz.prog.types.size) = true := by kernel_rfl
theorem fits : argsIs Tryz.prog [.st [.one (.int .i64), .one (.int .i64), .one (.int .i64), .one .str, .sl shK], .one (.one (.int .i64))] Tryz.f3.params.toList = true := by kernel_rfl
set_option maxRecDepth 100000 in
theorem walk {H : Type} {enc : TypeId × Value → H} (W : World) (args : Array Value) (base : Nat) (ds : List (DataW H)) (p : List MemPlace) (hA : DataW.TrodAll enc Tryz.prog W 0 (fun _ => true) true Tryz.f3.params.toList args.toList ds p)
    (hval : ∀ (j : Nat) t v, Tryz.f3.params[j]? = some t → args[j]? = some v → Value.okWide Tryz.prog W .any base t v) : Calls Tryz.prog 3 args W fun e W' => e = .returned (.bool true) ∧ Below W.heap.size W W' := by
    obtain ⟨xs, os1, φ', hI, _, h3, h4⟩ := args_ok (base := base) (P := Tryz.prog) (fun _ => rfl) fits hA (fun j t v h1 h2 => hval j t v (by rw [← Array.getElem?_toList]; exact h1) (by rw [← Array.getElem?_toList]; exact h2)) (RO.nil W)
    obtain ⟨_, _, _, _, rfl, rfl, ⟨_, rfl, hs0⟩, hI⟩ := hI
    obtain ⟨_, _, _, _, rfl, rfl, ⟨⟨x0, rfl, y0⟩, rfl⟩, hs0⟩ := hs0
    obtain ⟨_, _, _, _, rfl, rfl, ⟨⟨x1, rfl, y1⟩, rfl⟩, hs0⟩ := hs0
    obtain ⟨_, _, _, _, rfl, rfl, ⟨⟨x2, rfl, y2⟩, rfl⟩, hs0⟩ := hs0
    obtain ⟨_, _, _, _, rfl, rfl, ⟨⟨x3, rfl, y3⟩, rfl⟩, hs0⟩ := hs0
    obtain ⟨_, _, _, _, rfl, rfl, ⟨nlx4, x4, fx4, rfl, rfl, hnx4, hlx4, y4⟩, hs0⟩ := hs0
    obtain ⟨rfl, rfl⟩ := hs0
    obtain ⟨_, _, _, _, rfl, rfl, ⟨⟨x5, rfl, y5⟩, rfl⟩, hI⟩ := hI
    obtain ⟨rfl, rfl⟩ := hI
    have hl := kl_true x0 x1 x2 x3 nlx4 x4 fx4 x5
    have := law_T g2 h4.rel h3 hl
    simpa using this
set_option maxRecDepth 100000 in
theorem lifted (os : Os) (started : os.Started) (H : Type) (enc : TypeId × Value → H) :
    ReturnsInHanded {} Tryz.checked os 3 .any (Rows.councilNobodySpec.pre6 enc Tryz.prog Tryz.f3 Rows.councilNobodyRow.domain false) (Rows.councilNobodySpec.post enc Tryz.prog Tryz.f3 false true false false) := by
  refine returnsInHanded_of_change_sized (C := Tryz.checked) own started (by kernel_rfl) Tryz.func3
    (ChangeSpec.witness6 (enc := enc) (C := Tryz.checked) false ⟨#[], #[.agg #[.int .i64 0, .int .i64 0, .int .i64 0, .string ⟨#[]⟩, .slice none 0 0], .int .i64 0], []⟩ 8 (by kernel_rfl) (by kernel_rfl) (by kernel_rfl) (by kernel_rfl)) ?_
  intro W base args ds gs before hval0 hW hcnd hsz0 _
  have hW' := hW
  obtain ⟨p, q, hA0, hV, rfl, hfz, hnd⟩ := hW
  have hA : DataW.TrodAll enc Tryz.prog W 0 (fun _ => true) true Tryz.f3.params.toList args.toList ds p := hA0
  obtain ⟨rfl, rfl⟩ := trodVars_none hV
  obtain ⟨d1, d2, rfl⟩ : ∃ d1 d2, ds = [d1, d2] := by
    have hA := hA
    obtain ⟨_, _, d1, ds1, _, _, _, rfl, _, _, hA⟩ := trodAll_cons hA
    obtain ⟨_, _, d2, ds2, _, _, _, rfl, _, _, hA⟩ := trodAll_cons hA
    obtain ⟨_, rfl, _⟩ := trodAll_nil hA
    exact ⟨d1, d2, rfl⟩
  refine (walk W args base _ p hA hval0).mono fun e W' ⟨he, bel⟩ => ?_
  subst he
  exact ⟨_, rfl, _, _, _, [], _, [], hW', trodAll_mk1 (shut_bool Tryz.underlying4 _), trods_below (ts := []) laidOut bel readable hA, rfl, bel.frame _, fun h => by cases h⟩
theorem over : Rows.councilNobodyRow.holds Tryz.pinned (OpenSpec.ofChange Rows.councilNobodySpec) :=
  OpenClaim.holds_of_wide 3 Tryz.f3 rfl rfl rfl rfl rfl rfl rfl ⟨rfl, rfl, rfl, rfl, rfl⟩ rfl rfl rfl rfl rfl (by kernel_rfl) Tryz.func3 (by kernel_rfl)
    (of_decide_eq_true (by kernel_rfl)) (by unfold Func.isWrapper; first | (rw [if_pos (by decide +kernel)]; kernel_rfl) | (rw [if_neg (by decide +kernel)]; exact ⟨rfl, rfl⟩))
    (fun os started H enc _ => lifted os started H enc)
theorem proved : Rows.CouncilNobodySaid := over
#print axioms proved
end Go.Proofs.YtdgplkcobpikiaaGreat.councilNobody
