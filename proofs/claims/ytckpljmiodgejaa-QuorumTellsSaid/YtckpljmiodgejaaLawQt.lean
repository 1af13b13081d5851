/- Of any sets who is in them, and whether the one has a majority of the other one, is the document's: for every input the law returns true, and the input reads as it did. No condition. -/
import Derived.Test.YtckpljmiodgejaaQtB
import Derived.Test.YtckpljmiodgejaaRows
import Derived.KernelRfl
set_option linter.unusedSimpArgs false
set_option linter.unusedVariables false
set_option maxRecDepth 20000
namespace Go.Proofs.Ytckpljmiodgejaa.quorumTells
open Go Go.ChangeShapes Go.WideShapes Go.ChangeAt Go.RowKit Go.Proofs.Ytckpljmiodgejaa.Bm
noncomputable def kl (x0 : Int) (x1 : Int) (x2 : Int) (nlx3 : Bool) (x3 : Nat) (fx3 : Nat → Nat → AV) (π : Plan) : Option Bool := lawT (EC) (3000) (5) ([.int .u64 x0, .int .u64 x1, .int .i64 x2, .osl nlx3 0 0 x3 x3 1 true]) ([some (.tarr shI x3 fx3 false)]) π
def kl_p : Plan := (.fork .stop (.must true (.reck 1 (.must true (.fork (.fork (.must true (.reck 2 (.must true (.must true (.must true (.must true (.must true (.fork (.must true (.must true (.must true (.must true (.must true (.must true (.must true (.must true (.reck 8 (.must true (.fork (.must true (.must true (.must true (.must true (.must true (.fork (.fork (.must true (.must true (.must true (.fork (.must true (.must true (.must true (.must true (.must true (.must true (.must true (.must true (.must true .stop))))))))) .stop)))) (.must false (.must false (.must false (.must false (.must false (.must false (.must false .stop)))))))) .stop)))))) (.must false (.must false (.must false (.must false (.fork .stop .stop)))))))))))))))) (.reck 1 (.must true (.must true (.must true (.must true (.must true (.must false (.reck 1 (.must true (.must true (.must true (.must true (.must true (.reck 1 (.must true (.reck 1 (.must true (.fork (.must true (.fork (.must true (.must true (.must true (.must true (.must true (.fork (.fork (.must true (.must true (.must true (.fork (.must true (.must true (.must true (.must true (.must true (.must true (.must true (.must true (.must true .stop))))))))) .stop)))) (.must false (.must false (.must false (.must false (.must false (.must false (.must false .stop)))))))) .stop)))))) (.must false (.must false (.must false (.must false (.fork .stop .stop))))))) .stop)))))))))))))))))))))))))) .stop) .stop)))))
theorem kl_is (x0 : Int) (x1 : Int) (x2 : Int) (nlx3 : Bool) (x3 : Nat) (fx3 : Nat → Nat → AV) : kl x0 x1 x2 nlx3 x3 fx3 kl_p = (cond (decide ((↑x3 : Int) > 200))
  (some (true))
  (cond (decide (x3 = x3)) (cond (decide (x3 = x3)) (cond (rngV x0)
  (cond (Nat.ble x3 1000)
  (cond (decide (x3 = x3)) (cond (decide (x3 = x3)) (cond (rngV x0) (cond (Nat.ble x3 1000) (cond (decide (withV x0 fx3 x3 = withV x0 fx3 x3)) (cond (rngV x0) (cond (Nat.beq (cntV x0) 0)
  (cond (rngV x0) (cond (rngV x0) (cond ((hasV x0 x2 == hasV x0 x2) == true) (cond ((hasV x0 x2 == hasV x0 x2) == true) (cond (rngV x0) (cond (Nat.beq (cntV x0) 0) (cond ((hasV x0 x2 == hasV x0 x2) == true) (cond ((hasV x0 x2 == hasV x0 x2) == true) (cond (hasV x0 x2 == hasV x0 x2) (cond (eqV (fun x x_1 => AV.bad) (fun x x_1 => AV.bad) 0 == true)
  (cond (eqV (fun x x_1 => AV.bad) (fun x x_1 => AV.bad) 0 == true) (cond (rngV x0) (cond (eqV (fun x x_1 => AV.bad) (fun x x_1 => AV.bad) 0 == true) (cond (eqV (fun x x_1 => AV.bad) (fun x x_1 => AV.bad) 0 == true) (cond (eqV (fun x x_1 => AV.bad) (fun x x_1 => AV.bad) 0 == true) (cond ((eqV (fun p_ q_ => AV.bad) (fun p_ q_ => AV.bad) (0)))
  (cond (((↑(popV x0) : Int) == 0) == true)
  (cond (((↑(popV x0) : Int) == 0) == true) (cond (((↑(popV x0) : Int) == 0) == true) (cond (rngV x0) (cond (rngV x1)
  (cond (((↑(popV x0) : Int) == 0) == true) (cond (((↑(popV x0) : Int) == 0) == true) (cond (((↑(popV x0) : Int) == 0) == true) (cond (rngV x0) (cond (rngV x1) (cond (((↑(popV x0) : Int) == 0) == true) (cond ((↑(popV x0) : Int) == 0) (cond ((majV x0 x1 == majV x0 x1) == true) (cond (majV x0 x1 == majV x0 x1) (some (true)) none) none) none) none) none) none) none) none) none)
  none) none) none) none)
  (cond (((↑(popV x0) : Int) == 0) == true) none (cond (((↑(popV x0) : Int) == 0) == true) none (cond (((↑(popV x0) : Int) == 0) == true) none (cond (((↑(popV x0) : Int) == 0) == true) none (cond (((↑(popV x0) : Int) == 0) == true) none (cond (((↑(popV x0) : Int) == 0) == true) none (cond ((↑(popV x0) : Int) == 0) none (some (false))))))))))
  (some (false))) none) none) none) none) none)
  (cond (eqV (fun x x_1 => AV.bad) (fun x x_1 => AV.bad) 0 == true) none (cond (eqV (fun x x_1 => AV.bad) (fun x x_1 => AV.bad) 0 == true) none (cond (eqV (fun x x_1 => AV.bad) (fun x x_1 => AV.bad) 0 == true) none (cond (eqV (fun x x_1 => AV.bad) (fun x x_1 => AV.bad) 0 == true) none (cond ((eqV (fun p_ q_ => AV.bad) (fun p_ q_ => AV.bad) (0)))
  none
  (some (false)))))))) none) none) none) none) none) none) none) none) none)
  (cond (rngV x0) (cond (rngV x0) (cond ((hasV x0 x2 == hasV x0 x2) == true) (cond ((hasV x0 x2 == hasV x0 x2) == true) (cond (rngV x0) (cond (Nat.beq (cntV x0) 0) none (cond ((hasV x0 x2 == hasV x0 x2) == true) (cond ((hasV x0 x2 == hasV x0 x2) == true) (cond (decide (cntV x0 = cntV x0)) (cond (decide (cntV x0 = cntV x0)) (cond (decide (cntV x0 = cntV x0)) (cond (decide (cntV x0 = cntV x0)) (cond (decide (cntV x0 = cntV x0)) (cond (Nat.ble (cntV x0) 1000)
  (cond (hasV x0 x2 == hasV x0 x2) (cond (eqV (memV x0) (memV x0) (cntV x0) == true)
  (cond (eqV (memV x0) (memV x0) (cntV x0) == true) (cond (rngV x0) (cond (eqV (memV x0) (memV x0) (cntV x0) == true) (cond (eqV (memV x0) (memV x0) (cntV x0) == true) (cond (eqV (memV x0) (memV x0) (cntV x0) == true) (cond ((eqV (memV (x0)) (memV (x0)) (cntV x0)))
  (cond (((↑(popV x0) : Int) == (↑(cntV x0) : Int)) == true)
  (cond (((↑(popV x0) : Int) == (↑(cntV x0) : Int)) == true) (cond (((↑(popV x0) : Int) == (↑(cntV x0) : Int)) == true) (cond (rngV x0) (cond (rngV x1)
  (cond (((↑(popV x0) : Int) == (↑(cntV x0) : Int)) == true) (cond (((↑(popV x0) : Int) == (↑(cntV x0) : Int)) == true) (cond (((↑(popV x0) : Int) == (↑(cntV x0) : Int)) == true) (cond (rngV x0) (cond (rngV x1) (cond (((↑(popV x0) : Int) == (↑(cntV x0) : Int)) == true) (cond ((↑(popV x0) : Int) == (↑(cntV x0) : Int)) (cond ((majV x0 x1 == majV x0 x1) == true) (cond (majV x0 x1 == majV x0 x1) (some (true)) none) none) none) none) none) none) none) none) none)
  none) none) none) none)
  (cond (((↑(popV x0) : Int) == (↑(cntV x0) : Int)) == true) none (cond (((↑(popV x0) : Int) == (↑(cntV x0) : Int)) == true) none (cond (((↑(popV x0) : Int) == (↑(cntV x0) : Int)) == true) none (cond (((↑(popV x0) : Int) == (↑(cntV x0) : Int)) == true) none (cond (((↑(popV x0) : Int) == (↑(cntV x0) : Int)) == true) none (cond (((↑(popV x0) : Int) == (↑(cntV x0) : Int)) == true) none (cond ((↑(popV x0) : Int) == (↑(cntV x0) : Int)) none (some (false))))))))))
  (some (false))) none) none) none) none) none)
  (cond (eqV (memV x0) (memV x0) (cntV x0) == true) none (cond (eqV (memV x0) (memV x0) (cntV x0) == true) none (cond (eqV (memV x0) (memV x0) (cntV x0) == true) none (cond (eqV (memV x0) (memV x0) (cntV x0) == true) none (cond ((eqV (memV (x0)) (memV (x0)) (cntV x0)))
  none
  (some (false)))))))) none)
  none) none) none) none) none) none) none) none)) none) none) none) none) none)) none) none) none) none) none) none)
  none)
  none) none) none)) := by kernel_rfl
theorem eq_self_F (f : Nat → Nat → AV) (n : Nat) : eqF f f n = true := okFrom_iff.2 fun j _ => beq_self_eq_true _
theorem kl_true (x0 : Int) (x1 : Int) (x2 : Int) (nlx3 : Bool) (x3 : Nat) (fx3 : Nat → Nat → AV) (y0 : IntKind.min .u64 ≤ x0 ∧ x0 ≤ IntKind.max .u64) (y1 : IntKind.min .u64 ≤ x1 ∧ x1 ≤ IntKind.max .u64) : kl x0 x1 x2 nlx3 x3 fx3 kl_p = some true := by
  have hmin : IntKind.min .u64 = 0 := by decide
  have hmax : IntKind.max .u64 = 18446744073709551615 := by decide
  rw [hmin, hmax] at y0 y1
  have h0 := rng_int y0.1 (by omega)
  have h1 := rng_int y1.1 (by omega)
  rw [kl_is]
  simp only [h0, h1, eqV_eq, cntV_eq, popV_eq, eq_self_F, beq_self_eq_true, decide_true, cond_true, eq_self]
  obtain ⟨a, rfl, ha⟩ := rng_of h0
  have hcnt : cntF (a : Int) = popN 64 a := by unfold cntF; rw [Int.toNat_natCast, mems_pop]
  have hpop : popF (a : Int) = popN 64 a := by unfold popF; rw [Int.toNat_natCast]
  have h64 := popN_le 64 a
  rw [hcnt, hpop]
  by_cases h : (x3 : Int) > 200
  · rw [decide_eq_true h]; rfl
  · rw [decide_eq_false h, ble_t (show x3 ≤ 1000 by omega)]
    simp only [cond_true, cond_false]
    by_cases hz : popN 64 a = 0
    · rw [hz]; rfl
    · rw [show Nat.beq (popN 64 a) 0 = false from by rw [Bool.eq_false_iff]; intro h; exact hz (Nat.eq_of_beq_eq_true h), ble_t (show popN 64 a ≤ 1000 by omega)]
      simp

theorem own : ownKnob Try.prog.godebug = none := by kernel_rfl
theorem laidOut : laidOutB Try.prog = true := by kernel_rfl
theorem readable : ((Try.f5.params.toList).all fun t => Try.prog.readableRec t && Nat.blt t Try.prog.types.size) = true := by kernel_rfl
theorem fits : argsIs Try.prog [.one (.one (.int .u64)), .one (.one (.int .u64)), .one (.one (.int .i64)), .one (.sl shI)] Try.f5.params.toList = true := by kernel_rfl
set_option maxRecDepth 100000 in
theorem walk {H : Type} {enc : TypeId × Value → H} (W : World) (args : Array Value) (base : Nat) (ds : List (DataW H)) (p : List MemPlace) (hA : DataW.TrodAll enc Try.prog W 0 (fun _ => true) true Try.f5.params.toList args.toList ds p)
    (hval : ∀ (j : Nat) t v, Try.f5.params[j]? = some t → args[j]? = some v → Value.okWide Try.prog W .any base t v) : Calls Try.prog 5 args W fun e W' => e = .returned (.bool true) ∧ Below W.heap.size W W' := by
    obtain ⟨xs, os1, φ', hI, _, h3, h4⟩ := args_ok (base := base) (P := Try.prog) (fun _ => rfl) fits hA (fun j t v h1 h2 => hval j t v (by rw [← Array.getElem?_toList]; exact h1) (by rw [← Array.getElem?_toList]; exact h2)) (RO.nil W)
    obtain ⟨_, _, _, _, rfl, rfl, ⟨⟨x0, rfl, y0⟩, rfl⟩, hI⟩ := hI
    obtain ⟨_, _, _, _, rfl, rfl, ⟨⟨x1, rfl, y1⟩, rfl⟩, hI⟩ := hI
    obtain ⟨_, _, _, _, rfl, rfl, ⟨⟨x2, rfl, y2⟩, rfl⟩, hI⟩ := hI
    obtain ⟨_, _, _, _, rfl, rfl, ⟨nlx3, x3, fx3, rfl, rfl, hnx3, hlx3, y3⟩, hI⟩ := hI
    obtain ⟨rfl, rfl⟩ := hI
    have hl := kl_true x0 x1 x2 nlx3 x3 fx3 y0 y1
    have := law_T qC h4.rel h3 hl
    simpa using this
set_option maxRecDepth 100000 in
theorem lifted (os : Os) (started : os.Started) (H : Type) (enc : TypeId × Value → H) :
    ReturnsInHanded {} Try.checked os 5 .any (Rows.quorumTellsSpec.pre6 enc Try.prog Try.f5 Rows.quorumTellsRow.domain false) (Rows.quorumTellsSpec.post enc Try.prog Try.f5 false true false false) := by
  refine returnsInHanded_of_change_sized (C := Try.checked) own started (by kernel_rfl) Try.func5
    (ChangeSpec.witness6 (enc := enc) (C := Try.checked) false ⟨#[], #[.int .u64 0, .int .u64 0, .int .i64 0, .slice none 0 0], []⟩ 8 (by kernel_rfl) (by kernel_rfl) (by kernel_rfl) (by kernel_rfl)) ?_
  intro W base args ds gs before hval0 hW hcnd hsz0 _
  have hW' := hW
  obtain ⟨p, q, hA0, hV, rfl, hfz, hnd⟩ := hW
  have hA : DataW.TrodAll enc Try.prog W 0 (fun _ => true) true Try.f5.params.toList args.toList ds p := hA0
  obtain ⟨rfl, rfl⟩ := trodVars_none hV
  obtain ⟨d1, d2, d3, d4, rfl⟩ : ∃ d1 d2 d3 d4, ds = [d1, d2, d3, d4] := by
    have hA := hA
    obtain ⟨_, _, d1, ds1, _, _, _, rfl, _, _, hA⟩ := trodAll_cons hA
    obtain ⟨_, _, d2, ds2, _, _, _, rfl, _, _, hA⟩ := trodAll_cons hA
    obtain ⟨_, _, d3, ds3, _, _, _, rfl, _, _, hA⟩ := trodAll_cons hA
    obtain ⟨_, _, d4, ds4, _, _, _, rfl, _, _, hA⟩ := trodAll_cons hA
    obtain ⟨_, rfl, _⟩ := trodAll_nil hA
    exact ⟨d1, d2, d3, d4, rfl⟩
  refine (walk W args base _ p hA hval0).mono fun e W' ⟨he, bel⟩ => ?_
  subst he
  exact ⟨_, rfl, _, _, _, [], _, [], hW', trodAll_mk1 (shut_bool Try.underlying4 _), trods_below (ts := []) laidOut bel readable hA, rfl, bel.frame _, fun h => by cases h⟩
theorem over : Rows.quorumTellsRow.holds Try.pinned (OpenSpec.ofChange Rows.quorumTellsSpec) :=
  OpenClaim.holds_of_wide 5 Try.f5 rfl rfl rfl rfl rfl rfl rfl ⟨rfl, rfl, rfl, rfl, rfl⟩ rfl rfl rfl rfl rfl (by kernel_rfl) Try.func5 (by kernel_rfl)
    (of_decide_eq_true (by kernel_rfl)) (by unfold Func.isWrapper; first | (rw [if_pos (by decide +kernel)]; kernel_rfl) | (rw [if_neg (by decide +kernel)]; exact ⟨rfl, rfl⟩))
    (fun os started H enc _ => lifted os started H enc)
theorem proved : Rows.QuorumTellsSaid := over
#print axioms proved
end Go.Proofs.Ytckpljmiodgejaa.quorumTells
