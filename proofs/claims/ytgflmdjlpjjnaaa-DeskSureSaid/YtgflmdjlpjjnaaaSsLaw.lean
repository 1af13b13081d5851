/- A round is sure only when a majority was heard in it, or in a later one; no read of a later one is told: for every input the law returns true, and the input reads as it did. No condition. -/
import Derived.Test.YtgflmdjlpjjnaaaSsC
import Derived.Test.YtgflmdjlpjjnaaaRows
import Derived.KernelRfl
set_option linter.unusedSimpArgs false
set_option linter.unusedVariables false
set_option maxRecDepth 20000
namespace Go.Proofs.Ytgflmdjlpjjnaaa.deskSure
open Go Go.ChangeShapes Go.WideShapes Go.ChangeAt Go.RowKit Go.Proofs.Ytgflmdjlpjjnaaa.Bm Go.Proofs.Ytgflmdjlpjjnaaa.desk
noncomputable def kl (x0 x1 : Int) (nlx2 : Bool) (x2 : Nat) (fx2 : Nat → Nat → AV) (π : Plan) : Option Bool := lawT (G5) (2000) (3) ([.int .i64 x0, .int .i64 x1, .osl nlx2 0 0 x2 x2 9 true]) ([some (.tarr shO x2 fx2 false)]) π
def kl_p : Plan := (.fork .stop (.fork (.must true (.must false (.fork (.must true (.must false (.fork (.must true (.must true (.must false (.fork (.reck 1 (.must true (.must true (.must false (.must true (.must true (.must false (.must true (.must true (.must true (.must false (.must true (.must true .stop))))))))))))) (.reck 4 (.must true (.must true (.reck 1 (.must true (.must true (.reck 7 (.must true (.reck 2 (.fork (.fork (.fork (.fork (.fork (.fork .stop .stop) .stop) .stop) .stop) .stop) .stop)))))))))))))) (.must false (.must false (.must true (.reck 2 (.must true (.must true (.must false (.must true (.must true (.must false (.must false (.must false (.must false (.must true .stop))))))))))))))))) (.must false (.must true (.reck 6 (.must true (.must true (.must false (.must false (.must false (.must true .stop)))))))))))) (.must false (.must true (.reck 9 (.must false (.must false (.must true .stop))))))))
theorem kl_is (x0 : Int) (x1 : Int) (nlx2 : Bool) (x2 : Nat) (fx2 : Nat → Nat → AV) : kl x0 x1 nlx2 x2 fx2 kl_p = (cond (decide ((↑x2 : Int) > 200))
  (some (true))
  (cond (decide (x0 < 1) == false)
  (cond (decide (x0 < 1) == false) (cond (decide (x0 < 1)) none (cond (decide (x0 > 7) == false)
  (cond (decide (x0 > 7) == false) (cond (decide (x0 > 7)) none (cond (decide (x1 < 0) == false)
  (cond (decide (x1 < 0) == false) (cond (decide (x1 < 0) == false) (cond (decide (x1 < 0)) none (cond (decide (x1 ≥ x0))
  (cond (decide (x0 < 1) == false) (cond (decide (x0 < 1) == false) (cond (decide (x0 < 1)) none (cond (decide (x0 > 7) == false) (cond (decide (x0 > 7) == false) (cond (decide (x0 > 7)) none (cond (decide (x1 < 0) == false) (cond (decide (x1 < 0) == false) (cond (decide (x1 < 0) == false) (cond (decide (x1 < 0)) none (cond (decide (x1 ≥ x0) == true) (cond (decide (x1 ≥ x0)) (some (true)) none) none)) none) none) none)) none) none)) none) none)
  (cond (decide (x2 = x2)) (cond (decide ((↑x2 : Int) = (↑x2 : Int))) (cond (decide (x0 = x0)) (cond (decide (x1 = x1)) (cond (decide (x2 = x2)) (cond (decide (1 ≤ x0))
  (cond (decide (x0 ≤ 7))
  (cond (decide (0 ≤ x1))
  (cond (decide (x1 < x0))
  (cond (Nat.ble x2 200)
  (cond ((okZV (rowsOf (1) [(.int .u64 0), (.int .u64 0), (.int .u64 0), (.int .u64 0), (.int .u64 0), (.int .u64 0), (.int .u64 0)] (7))))
  (some (true))
  none)
  none)
  none)
  none)
  none)
  none) none) none) none) none) none))) none) none)
  (cond (decide (x1 < 0) == false) none (cond (decide (x1 < 0) == false) none (cond (decide (x1 < 0)) (cond (decide (x0 < 1) == false) (cond (decide (x0 < 1) == false) (cond (decide (x0 < 1)) none (cond (decide (x0 > 7) == false) (cond (decide (x0 > 7) == false) (cond (decide (x0 > 7)) none (cond (decide (x1 < 0) == false) none (cond (decide (x1 < 0) == false) none (cond (decide (x1 < 0) == false) none (cond (decide (x1 < 0)) (some (true)) none))))) none) none)) none) none) none))))) none)
  (cond (decide (x0 > 7) == false) none (cond (decide (x0 > 7)) (cond (decide (x0 < 1) == false) (cond (decide (x0 < 1) == false) (cond (decide (x0 < 1)) none (cond (decide (x0 > 7) == false) none (cond (decide (x0 > 7) == false) none (cond (decide (x0 > 7)) (some (true)) none)))) none) none) none)))) none)
  (cond (decide (x0 < 1) == false) none (cond (decide (x0 < 1)) (cond (decide (x0 < 1) == false) none (cond (decide (x0 < 1) == false) none (cond (decide (x0 < 1)) (some (true)) none))) none)))) := by kernel_rfl
theorem kl_eq (x0 : Int) (x1 : Int) (nlx2 : Bool) (x2 : Nat) (fx2 : Nat → Nat → AV) : kl x0 x1 nlx2 x2 fx2 kl_p = (cond (decide ((↑x2 : Int) > 200))
  (some (true))
  (cond (decide (x0 < 1))
  (some (true))
  (cond (decide (x0 > 7))
  (some (true))
  (cond (decide (x1 < 0))
  (some (true))
  (cond (decide (x1 ≥ x0))
  (some (true))
  (cond (decide (1 ≤ x0))
  (cond (decide (x0 ≤ 7))
  (cond (decide (0 ≤ x1))
  (cond (decide (x1 < x0))
  (cond (Nat.ble x2 200)
  (cond (okZV (rowsOf (1) [(.int .u64 0), (.int .u64 0), (.int .u64 0), (.int .u64 0), (.int .u64 0), (.int .u64 0), (.int .u64 0)] (7)))
  (some (true))
  none)
  none)
  none)
  none)
  none)
  none)))))) := by
  rw [kl_is]
  try simp only [eq_self, decide_true, beq_self_eq_true, Nat.beq_refl, ble_self, Int.le_refl, Nat.le_refl]
  cases (decide ((↑x2 : Int) > 200)) with
  | true =>
    rfl
  | false =>
    cases (decide (x0 < 1)) with
    | true =>
      rfl
    | false =>
      cases (decide (x0 > 7)) with
      | true =>
        rfl
      | false =>
        cases (decide (x1 < 0)) with
        | true =>
          rfl
        | false =>
          cases (decide (x1 ≥ x0)) with
          | true =>
            rfl
          | false =>
            cases (decide (1 ≤ x0)) with
            | true =>
              cases (decide (x0 ≤ 7)) with
              | true =>
                cases (decide (0 ≤ x1)) with
                | true =>
                  cases (decide (x1 < x0)) with
                  | true =>
                    cases (Nat.ble x2 200) with
                    | true =>
                      cases (okZV (rowsOf (1) [(.int .u64 0), (.int .u64 0), (.int .u64 0), (.int .u64 0), (.int .u64 0), (.int .u64 0), (.int .u64 0)] (7))) with
                      | true =>
                        rfl
                      | false =>
                        rfl
                    | false =>
                      rfl
                  | false =>
                    rfl
                | false =>
                  rfl
              | false =>
                rfl
            | false =>
              rfl

theorem kl_true (x0 x1 : Int) (nlx2 : Bool) (x2 : Nat) (fx2 : Nat → Nat → AV) : kl x0 x1 nlx2 x2 fx2 kl_p = some true := by
  rw [kl_eq, okZV_eq]
  by_cases h : (x2 : Int) > 200
  · rw [decide_eq_true h]; rfl
  · rw [decide_eq_false h, ble_t (show x2 ≤ 200 by omega)]
    cases h0 : decide (x0 < 1) with
    | true => rfl
    | false =>
      cases h7 : decide (x0 > 7) with
      | true => rfl
      | false =>
        cases h2 : decide (x1 < 0) with
        | true => rfl
        | false =>
          cases h3 : decide (x1 ≥ x0) with
          | true => rfl
          | false =>
            have h0 := of_decide_eq_false h0
            have h7 := of_decide_eq_false h7
            have h2 := of_decide_eq_false h2
            have h3 := of_decide_eq_false h3
            rw [decide_eq_true (show 1 ≤ x0 by omega), decide_eq_true (show x0 ≤ 7 by omega), decide_eq_true (show 0 ≤ x1 by omega), decide_eq_true (show x1 < x0 by omega)]
            rfl
theorem qG5 : Bm.Good Try.prog G5 := qG4.addF (lives_ok (m := 20000) q0 (by kernel_rfl))

theorem own : ownKnob Try.prog.godebug = none := by kernel_rfl
theorem laidOut : laidOutB Try.prog = true := by kernel_rfl
theorem readable : ((Try.f3.params.toList).all fun t => Try.prog.readableRec t && Nat.blt t Try.prog.types.size) = true := by kernel_rfl
theorem fits : argsIs Try.prog [.one (.one (.int .i64)), .one (.one (.int .i64)), .one (.sl shO)] Try.f3.params.toList = true := by kernel_rfl
set_option maxRecDepth 100000 in
theorem walk {H : Type} {enc : TypeId × Value → H} (W : World) (args : Array Value) (base : Nat) (ds : List (DataW H)) (p : List MemPlace) (hA : DataW.TrodAll enc Try.prog W 0 (fun _ => true) true Try.f3.params.toList args.toList ds p)
    (hval : ∀ (j : Nat) t v, Try.f3.params[j]? = some t → args[j]? = some v → Value.okWide Try.prog W .any base t v) : Calls Try.prog 3 args W fun e W' => e = .returned (.bool true) ∧ Below W.heap.size W W' := by
    obtain ⟨xs, os1, φ', hI, _, h3, h4⟩ := args_ok (base := base) (P := Try.prog) (fun _ => rfl) fits hA (fun j t v h1 h2 => hval j t v (by rw [← Array.getElem?_toList]; exact h1) (by rw [← Array.getElem?_toList]; exact h2)) (RO.nil W)
    obtain ⟨_, _, _, _, rfl, rfl, ⟨⟨x0, rfl, y0⟩, rfl⟩, hI⟩ := hI
    obtain ⟨_, _, _, _, rfl, rfl, ⟨⟨x1, rfl, y1⟩, rfl⟩, hI⟩ := hI
    obtain ⟨_, _, _, _, rfl, rfl, ⟨nlx2, x2, fx2, rfl, rfl, hnx2, hlx2, y2⟩, hI⟩ := hI
    obtain ⟨rfl, rfl⟩ := hI
    have hl := kl_true x0 x1 nlx2 x2 fx2
    have := law_T qG5 h4.rel h3 hl
    simpa using this
set_option maxRecDepth 100000 in
theorem lifted (os : Os) (started : os.Started) (H : Type) (enc : TypeId × Value → H) :
    ReturnsInHanded {} Try.checked os 3 .any (Rows.deskSureSpec.pre6 enc Try.prog Try.f3 Rows.deskSureRow.domain false) (Rows.deskSureSpec.post enc Try.prog Try.f3 false true false false) := by
  refine returnsInHanded_of_change_sized (C := Try.checked) own started (by kernel_rfl) Try.func3
    (ChangeSpec.witness6 (enc := enc) (C := Try.checked) false ⟨#[], #[.int .i64 0, .int .i64 0, .slice none 0 0], []⟩ 8 (by kernel_rfl) (by kernel_rfl) (by kernel_rfl) (by kernel_rfl)) ?_
  intro W base args ds gs before hval0 hW hcnd hsz0 _
  have hW' := hW
  obtain ⟨p, q, hA0, hV, rfl, hfz, hnd⟩ := hW
  have hA : DataW.TrodAll enc Try.prog W 0 (fun _ => true) true Try.f3.params.toList args.toList ds p := hA0
  obtain ⟨rfl, rfl⟩ := trodVars_none hV
  obtain ⟨d1, d2, d3, rfl⟩ : ∃ d1 d2 d3, ds = [d1, d2, d3] := by
    have hA := hA
    obtain ⟨_, _, d1, ds1, _, _, _, rfl, _, _, hA⟩ := trodAll_cons hA
    obtain ⟨_, _, d2, ds2, _, _, _, rfl, _, _, hA⟩ := trodAll_cons hA
    obtain ⟨_, _, d3, ds3, _, _, _, rfl, _, _, hA⟩ := trodAll_cons hA
    obtain ⟨_, rfl, _⟩ := trodAll_nil hA
    exact ⟨d1, d2, d3, rfl⟩
  refine (walk W args base _ p hA hval0).mono fun e W' ⟨he, bel⟩ => ?_
  subst he
  exact ⟨_, rfl, _, _, _, [], _, [], hW', trodAll_mk1 (shut_bool Try.underlying4 _), trods_below (ts := []) laidOut bel readable hA, rfl, bel.frame _, fun h => by cases h⟩
theorem over : Rows.deskSureRow.holds Try.pinned (OpenSpec.ofChange Rows.deskSureSpec) :=
  OpenClaim.holds_of_wide 3 Try.f3 rfl rfl rfl rfl rfl rfl rfl ⟨rfl, rfl, rfl, rfl, rfl⟩ rfl rfl rfl rfl rfl (by kernel_rfl) Try.func3 (by kernel_rfl)
    (of_decide_eq_true (by kernel_rfl)) (by unfold Func.isWrapper; first | (rw [if_pos (by decide +kernel)]; kernel_rfl) | (rw [if_neg (by decide +kernel)]; exact ⟨rfl, rfl⟩))
    (fun os started H enc _ => lifted os started H enc)
theorem proved : Rows.DeskSureSaid := over
#print axioms proved
end Go.Proofs.Ytgflmdjlpjjnaaa.deskSure
