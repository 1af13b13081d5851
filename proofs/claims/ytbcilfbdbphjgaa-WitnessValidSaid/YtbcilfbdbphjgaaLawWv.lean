/- Whether any order bears witness of any history, and what the blocks are behind it, is the document's: for every input the law returns true, and the input reads as it did. No condition. -/
import Derived.Test.YtbcilfbdbphjgaaWvF
import Derived.Test.YtbcilfbdbphjgaaWvD
import Derived.Test.YtbcilfbdbphjgaaRows
import Derived.KernelRfl
set_option linter.unusedSimpArgs false
set_option linter.unusedVariables false
set_option maxRecDepth 20000
namespace Go.Proofs.Ytbcilfbdbphjgaa.witnessValid
open Go Go.ChangeShapes Go.WideShapes Go.ChangeAt Go.RowKit Go.Proofs.Ytbcilfbdbphjgaa.Bm
noncomputable def kl (nlx0 : Bool) (x0 : Nat) (fx0 : Nat → Nat → AV) (x1 : Int) (nlx2 : Bool) (x2 : Nat) (fx2 : Nat → Nat → AV) (π : Plan) : Option Bool := lawT (EN) (3000) (3) ([.osl nlx0 0 0 x0 x0 8 true, .int .u32 x1, .osl nlx2 1 0 x2 x2 1 true]) ([some (.tarr shO x0 fx0 false), some (.tarr shI x2 fx2 false)]) π
def kl_p : Plan := (.must true (.reck 1 (.must true (.fork (.fork (.must true (.must true (.must false (.fork .stop (.must true (.must true (.reck 1 (.must true (.reck 1 (.must true (.fork (.fork (.fork (.fork (.must true (.must true (.reck 1 (.must true (.reck 1 (.must true (.must true (.must true (.fork (.fork (.fork (.fork (.must true (.must true (.reck 1 (.must true (.reck 1 (.must true (.must true (.must true (.must true (.fork (.must true (.must true (.must true (.must true (.must true (.reck 1 (.must true (.reck 1 (.must true (.must true (.must true (.must true (.fork (.must true (.must true (.must true (.fork (.must true .stop) (.must false .stop))))) (.must true (.must true (.must true (.fork (.must true .stop) (.must false .stop)))))))))))))))))) (.must false (.must false (.must false (.must false (.must false (.must false .stop)))))))))))))))) (.must true (.must true (.reck 1 (.must true (.reck 1 (.must true (.must true (.must true (.must true (.fork (.must true (.must true (.must true (.must true (.must true (.reck 1 (.must true (.reck 1 (.must true (.must true (.must true (.must true (.fork (.must true (.must true (.must true (.fork (.must true .stop) (.must false .stop))))) (.must true (.must true (.must true .stop)))))))))))))))) (.must false (.must false (.must false (.must false (.must false (.must false .stop))))))))))))))))) .stop) .stop) .stop))))))))) (.must true (.must true (.reck 1 (.must true (.reck 1 (.must true (.must true (.must true (.must true (.fork (.must true (.must true (.must true (.must true (.must true (.reck 1 (.must true (.reck 1 (.must true (.must true (.must true (.must true (.fork (.must true (.must true (.must true (.fork (.must true .stop) (.must false .stop))))) (.must true (.must true (.must true .stop)))))))))))))))) (.must false (.must false (.must false (.must false (.must false (.must false .stop))))))))))))))))) .stop) .stop) .stop))))))))))) (.must false (.must false (.must true .stop)))) .stop))))
theorem kl_is (nlx0 : Bool) (x0 : Nat) (fx0 : Nat → Nat → AV) (x1 : Int) (nlx2 : Bool) (x2 : Nat) (fx2 : Nat → Nat → AV) : kl nlx0 x0 fx0 x1 nlx2 x2 fx2 kl_p = (cond (decide (x0 = x0)) (cond (decide (x0 = x0)) (cond (okNV x0)
  (cond ((!(okLV fx0 x0 && decide ((↑x0 : Int) ≤ 20))) == false)
  (cond ((!(okLV fx0 x0 && decide ((↑x0 : Int) ≤ 20))) == false) (cond ((!(okLV fx0 x0 && decide ((↑x0 : Int) ≤ 20))) == false) (cond (!(okLV fx0 x0 && decide ((↑x0 : Int) ≤ 20))) none (cond (decide ((↑x2 : Int) > 40))
  (some (true))
  (cond (decide (x0 = x0)) (cond (decide (x2 = x2)) (cond (decide (x0 = x0)) (cond (decide (x2 = x2)) (cond ((rngV fx0 (x0)))
  (cond (Nat.ble x0 1000)
  (cond (Nat.ble x2 1000)
  (cond ((vRV (x1) fx0 (x0) fx2 (x2)))
  (cond (decide (x0 = x0)) (cond (decide (x2 = x2)) (cond (decide (x0 = x0)) (cond (decide (x2 = x2)) (cond (Nat.ble x0 1000) (cond (Nat.ble x2 1000) (cond (!decide (x1 < 1))
  (cond (!decide (x1 > 64))
  (cond ((okDV fx0 (x0) fx2 (x2) (List.length (blankV x1))))
  (cond (Option.isSome (dskV fx0 fx2 x2 (blankV x1)))
  (cond (decide (x0 = x0)) (cond (decide (x2 = x2)) (cond (decide (x0 = x0)) (cond (decide (x2 = x2)) (cond ((rngV fx0 (x0))) (cond (Nat.ble x0 1000) (cond (Nat.ble x2 1000) (cond ((vWV x1 fx0 x0 fx2 x2 == vRV x1 fx0 x0 fx2 x2) == true)
  (cond ((vWV x1 fx0 x0 fx2 x2 == vRV x1 fx0 x0 fx2 x2) == true) (cond ((vWV x1 fx0 x0 fx2 x2 == vRV x1 fx0 x0 fx2 x2) == true) (cond ((vWV x1 fx0 x0 fx2 x2 == vRV x1 fx0 x0 fx2 x2) == true) (cond (decide (x0 = x0)) (cond (decide (x2 = x2)) (cond (decide (x0 = x0)) (cond (decide (x2 = x2)) (cond ((rngV fx0 (x0))) (cond (Nat.ble x0 1000) (cond (Nat.ble x2 1000) (cond ((vWV (x1) fx0 (x0) fx2 (x2)))
  (cond ((vWV x1 fx0 x0 fx2 x2 == vRV x1 fx0 x0 fx2 x2) == true) (cond ((vWV x1 fx0 x0 fx2 x2 == vRV x1 fx0 x0 fx2 x2) == true) (cond (vWV x1 fx0 x0 fx2 x2 == vRV x1 fx0 x0 fx2 x2) (cond ((dwV fx0 fx2 x2 (blankV x1) == Option.getD (dskV fx0 fx2 x2 (blankV x1)) []) == true)
  (cond (dwV fx0 fx2 x2 (blankV x1) == Option.getD (dskV fx0 fx2 x2 (blankV x1)) []) (some (true)) none)
  (cond (dwV fx0 fx2 x2 (blankV x1) == Option.getD (dskV fx0 fx2 x2 (blankV x1)) []) none (some (false)))) none) none) none)
  (cond ((vWV x1 fx0 x0 fx2 x2 == vRV x1 fx0 x0 fx2 x2) == true) (cond ((vWV x1 fx0 x0 fx2 x2 == vRV x1 fx0 x0 fx2 x2) == true) (cond (vWV x1 fx0 x0 fx2 x2 == vRV x1 fx0 x0 fx2 x2) (cond (([] == Option.getD (dskV fx0 fx2 x2 (blankV x1)) []) == true)
  (cond ([] == Option.getD (dskV fx0 fx2 x2 (blankV x1)) []) (some (true)) none)
  (cond ([] == Option.getD (dskV fx0 fx2 x2 (blankV x1)) []) none (some (false)))) none) none) none)) none) none) none) none) none) none) none) none) none) none)
  (cond ((vWV x1 fx0 x0 fx2 x2 == vRV x1 fx0 x0 fx2 x2) == true) none (cond ((vWV x1 fx0 x0 fx2 x2 == vRV x1 fx0 x0 fx2 x2) == true) none (cond ((vWV x1 fx0 x0 fx2 x2 == vRV x1 fx0 x0 fx2 x2) == true) none (cond ((vWV x1 fx0 x0 fx2 x2 == vRV x1 fx0 x0 fx2 x2) == true) none (cond ((vWV x1 fx0 x0 fx2 x2 == vRV x1 fx0 x0 fx2 x2) == true) none (cond (vWV x1 fx0 x0 fx2 x2 == vRV x1 fx0 x0 fx2 x2) none (some (false))))))))) none) none) none) none) none) none) none)
  (cond (decide (x0 = x0)) (cond (decide (x2 = x2)) (cond (decide (x0 = x0)) (cond (decide (x2 = x2)) (cond ((rngV fx0 (x0))) (cond (Nat.ble x0 1000) (cond (Nat.ble x2 1000) (cond ((vWV x1 fx0 x0 fx2 x2 == vRV x1 fx0 x0 fx2 x2) == true)
  (cond ((vWV x1 fx0 x0 fx2 x2 == vRV x1 fx0 x0 fx2 x2) == true) (cond ((vWV x1 fx0 x0 fx2 x2 == vRV x1 fx0 x0 fx2 x2) == true) (cond ((vWV x1 fx0 x0 fx2 x2 == vRV x1 fx0 x0 fx2 x2) == true) (cond (decide (x0 = x0)) (cond (decide (x2 = x2)) (cond (decide (x0 = x0)) (cond (decide (x2 = x2)) (cond ((rngV fx0 (x0))) (cond (Nat.ble x0 1000) (cond (Nat.ble x2 1000) (cond ((vWV (x1) fx0 (x0) fx2 (x2)))
  (cond ((vWV x1 fx0 x0 fx2 x2 == vRV x1 fx0 x0 fx2 x2) == true) (cond ((vWV x1 fx0 x0 fx2 x2 == vRV x1 fx0 x0 fx2 x2) == true) (cond (vWV x1 fx0 x0 fx2 x2 == vRV x1 fx0 x0 fx2 x2) (cond ((dwV fx0 fx2 x2 (blankV x1) == []) == true)
  (cond (dwV fx0 fx2 x2 (blankV x1) == []) (some (true)) none)
  (cond (dwV fx0 fx2 x2 (blankV x1) == []) none (some (false)))) none) none) none)
  (cond ((vWV x1 fx0 x0 fx2 x2 == vRV x1 fx0 x0 fx2 x2) == true) (cond ((vWV x1 fx0 x0 fx2 x2 == vRV x1 fx0 x0 fx2 x2) == true) (cond (vWV x1 fx0 x0 fx2 x2 == vRV x1 fx0 x0 fx2 x2) (some (true)) none) none) none)) none) none) none) none) none) none) none) none) none) none)
  (cond ((vWV x1 fx0 x0 fx2 x2 == vRV x1 fx0 x0 fx2 x2) == true) none (cond ((vWV x1 fx0 x0 fx2 x2 == vRV x1 fx0 x0 fx2 x2) == true) none (cond ((vWV x1 fx0 x0 fx2 x2 == vRV x1 fx0 x0 fx2 x2) == true) none (cond ((vWV x1 fx0 x0 fx2 x2 == vRV x1 fx0 x0 fx2 x2) == true) none (cond ((vWV x1 fx0 x0 fx2 x2 == vRV x1 fx0 x0 fx2 x2) == true) none (cond (vWV x1 fx0 x0 fx2 x2 == vRV x1 fx0 x0 fx2 x2) none (some (false))))))))) none) none) none) none) none) none) none))
  none)
  none)
  none) none) none) none) none) none) none)
  (cond (decide (x0 = x0)) (cond (decide (x2 = x2)) (cond (decide (x0 = x0)) (cond (decide (x2 = x2)) (cond ((rngV fx0 (x0))) (cond (Nat.ble x0 1000) (cond (Nat.ble x2 1000) (cond ((vWV x1 fx0 x0 fx2 x2 == vRV x1 fx0 x0 fx2 x2) == true)
  (cond ((vWV x1 fx0 x0 fx2 x2 == vRV x1 fx0 x0 fx2 x2) == true) (cond ((vWV x1 fx0 x0 fx2 x2 == vRV x1 fx0 x0 fx2 x2) == true) (cond ((vWV x1 fx0 x0 fx2 x2 == vRV x1 fx0 x0 fx2 x2) == true) (cond (decide (x0 = x0)) (cond (decide (x2 = x2)) (cond (decide (x0 = x0)) (cond (decide (x2 = x2)) (cond ((rngV fx0 (x0))) (cond (Nat.ble x0 1000) (cond (Nat.ble x2 1000) (cond ((vWV (x1) fx0 (x0) fx2 (x2)))
  (cond ((vWV x1 fx0 x0 fx2 x2 == vRV x1 fx0 x0 fx2 x2) == true) (cond ((vWV x1 fx0 x0 fx2 x2 == vRV x1 fx0 x0 fx2 x2) == true) (cond (vWV x1 fx0 x0 fx2 x2 == vRV x1 fx0 x0 fx2 x2) (cond ((dwV fx0 fx2 x2 (blankV x1) == bytesOf { data := #[] }) == true)
  (cond (dwV fx0 fx2 x2 (blankV x1) == bytesOf { data := #[] }) (some (true)) none)
  (cond (dwV fx0 fx2 x2 (blankV x1) == bytesOf { data := #[] }) none (some (false)))) none) none) none)
  (cond ((vWV x1 fx0 x0 fx2 x2 == vRV x1 fx0 x0 fx2 x2) == true) (cond ((vWV x1 fx0 x0 fx2 x2 == vRV x1 fx0 x0 fx2 x2) == true) (cond (vWV x1 fx0 x0 fx2 x2 == vRV x1 fx0 x0 fx2 x2) (some (true)) none) none) none)) none) none) none) none) none) none) none) none) none) none)
  (cond ((vWV x1 fx0 x0 fx2 x2 == vRV x1 fx0 x0 fx2 x2) == true) none (cond ((vWV x1 fx0 x0 fx2 x2 == vRV x1 fx0 x0 fx2 x2) == true) none (cond ((vWV x1 fx0 x0 fx2 x2 == vRV x1 fx0 x0 fx2 x2) == true) none (cond ((vWV x1 fx0 x0 fx2 x2 == vRV x1 fx0 x0 fx2 x2) == true) none (cond ((vWV x1 fx0 x0 fx2 x2 == vRV x1 fx0 x0 fx2 x2) == true) none (cond (vWV x1 fx0 x0 fx2 x2 == vRV x1 fx0 x0 fx2 x2) none (some (false))))))))) none) none) none) none) none) none) none))
  none)
  none)
  none) none) none) none) none))) none) none)
  (cond ((!(okLV fx0 x0 && decide ((↑x0 : Int) ≤ 20))) == false) none (cond ((!(okLV fx0 x0 && decide ((↑x0 : Int) ≤ 20))) == false) none (cond (!(okLV fx0 x0 && decide ((↑x0 : Int) ≤ 20))) (some (true)) none))))
  none) none) none) := by kernel_rfl
theorem rng_args {f : Nat → Nat → AV} {n : Nat} (y : ∀ i, i < n → ∀ (j : Nat) s, shO[j]? = some s → Rng s (f i j)) : rngV f n = true := by
  rw [rngV_eq]
  refine okFrom_iff.2 fun i hi => ?_
  rw [Nat.zero_add]
  have h2 : IntKind.min .u32 ≤ (f i 2).toI ∧ (f i 2).toI ≤ IntKind.max .u32 := y i hi 2 _ rfl
  have h3 : IntKind.min .u32 ≤ (f i 3).toI ∧ (f i 3).toI ≤ IntKind.max .u32 := y i hi 3 _ rfl
  rw [show IntKind.min .u32 = 0 by decide, show IntKind.max .u32 = 4294967295 by decide] at h2 h3
  show (decide (0 ≤ (f i 2).toI) && decide ((f i 2).toI < 4294967296) && decide (0 ≤ (f i 3).toI) && decide ((f i 3).toI < 4294967296)) = true
  rw [decide_eq_true h2.1, decide_eq_true h3.1, decide_eq_true (show (f i 2).toI < 4294967296 by omega), decide_eq_true (show (f i 3).toI < 4294967296 by omega)]
  rfl
theorem kl_true (nlx0 : Bool) (x0 : Nat) (fx0 : Nat → Nat → AV) (x1 : Int) (nlx2 : Bool) (x2 : Nat) (fx2 : Nat → Nat → AV) (hl : x0 ≤ 9223372036854775807) (y : ∀ i, i < x0 → ∀ (j : Nat) s, shO[j]? = some s → Rng s (fx0 i j)) : kl nlx0 x0 fx0 x1 nlx2 x2 fx2 kl_p = some true := by
  rw [kl_is]
  have hN : okNV x0 = true := by rw [okNV_eq]; exact decide_eq_true hl
  have hr := rng_args y
  have hv : vWV x1 fx0 x0 fx2 x2 = vRV x1 fx0 x0 fx2 x2 := by rw [vWV_eq, vRV_eq]; exact vW_vR _ _ _ _ _
  simp only [hN, hr, hv, beq_self_eq_true, cond_true, decide_true, eq_self]
  cases hq : (okLV fx0 x0 && decide ((x0 : Int) ≤ 20)) with
  | false => simp
  | true =>
    have hx0 : x0 ≤ 20 := by
      rw [Bool.and_eq_true] at hq
      have := of_decide_eq_true hq.2
      omega
    by_cases hx2 : (x2 : Int) > 40
    · simp [hx2]
    · rw [decide_eq_false hx2, ble_t (show x0 ≤ 1000 by omega), ble_t (show x2 ≤ 1000 by omega)]
      simp only [beq_self_eq_true, cond_true, cond_false]
      cases hvr : vRV x1 fx0 x0 fx2 x2 with
      | false => simp
      | true =>
        have h := hvr
        rw [vRV_eq] at h
        simp only [vR, Bool.and_eq_true] at h
        obtain ⟨⟨⟨hg, hM, hW⟩, hJ⟩, hd⟩ := h
        obtain ⟨g1, g2, g3, g4⟩ := good_bl hg
        obtain ⟨z, rfl⟩ := Int.eq_ofNat_of_zero_le (show 0 ≤ x1 by omega)
        have hD := okD_of (z := z) (by omega) hr g4 (okW_may hW)
        obtain ⟨t, ht⟩ := Option.isSome_iff_exists.1 hd
        have hb : blankV (z : Int) = blank (z : Int) := by rw [blankV_eq]
        have hlen : (blankV (z : Int)).length = 8 * z := by rw [blankV_is, List.length_replicate]
        have hdw : dwV fx0 fx2 x2 (blankV (z : Int)) = t := by
          rw [dwV_eq, hb]
          exact dw_is ht
        have hds : dskV fx0 fx2 x2 (blankV (z : Int)) = some t := by rw [dskV_eq, hb]; exact ht
        rw [hlen, hD, hds, hdw, decide_eq_false (show ¬ (z : Int) < 1 by omega), decide_eq_false (show ¬ (z : Int) > 64 by omega)]
        simp

theorem own : ownKnob Try.prog.godebug = none := by kernel_rfl
theorem laidOut : laidOutB Try.prog = true := by kernel_rfl
theorem readable : ((Try.f3.params.toList).all fun t => Try.prog.readableRec t && Nat.blt t Try.prog.types.size) = true := by kernel_rfl
theorem fits : argsIs Try.prog [.one (.sl shO), .one (.one (.int .u32)), .one (.sl shI)] Try.f3.params.toList = true := by kernel_rfl
set_option maxRecDepth 100000 in
theorem walk {H : Type} {enc : TypeId × Value → H} (W : World) (args : Array Value) (base : Nat) (ds : List (DataW H)) (p : List MemPlace) (hA : DataW.TrodAll enc Try.prog W 0 (fun _ => true) true Try.f3.params.toList args.toList ds p)
    (hval : ∀ (j : Nat) t v, Try.f3.params[j]? = some t → args[j]? = some v → Value.okWide Try.prog W .any base t v) : Calls Try.prog 3 args W fun e W' => e = .returned (.bool true) ∧ Below W.heap.size W W' := by
    obtain ⟨xs, os1, φ', hI, _, h3, h4⟩ := args_ok (base := base) (P := Try.prog) (fun _ => rfl) fits hA (fun j t v h1 h2 => hval j t v (by rw [← Array.getElem?_toList]; exact h1) (by rw [← Array.getElem?_toList]; exact h2)) (RO.nil W)
    obtain ⟨_, _, _, _, rfl, rfl, ⟨nlx0, x0, fx0, rfl, rfl, hnx0, hlx0, y0⟩, hI⟩ := hI
    obtain ⟨_, _, _, _, rfl, rfl, ⟨⟨x1, rfl, y1⟩, rfl⟩, hI⟩ := hI
    obtain ⟨_, _, _, _, rfl, rfl, ⟨nlx2, x2, fx2, rfl, rfl, hnx2, hlx2, y2⟩, hI⟩ := hI
    obtain ⟨rfl, rfl⟩ := hI
    have hl := kl_true nlx0 x0 fx0 x1 nlx2 x2 fx2 hlx0 y0
    have := law_T qN h4.rel h3 hl
    simpa using this
set_option maxRecDepth 100000 in
theorem lifted (os : Os) (started : os.Started) (H : Type) (enc : TypeId × Value → H) :
    ReturnsInHanded {} Try.checked os 3 .any (Rows.witnessValidSpec.pre6 enc Try.prog Try.f3 Rows.witnessValidRow.domain false) (Rows.witnessValidSpec.post enc Try.prog Try.f3 false true false false) := by
  refine returnsInHanded_of_change_sized (C := Try.checked) own started (by kernel_rfl) Try.func3
    (ChangeSpec.witness6 (enc := enc) (C := Try.checked) false ⟨#[], #[.slice none 0 0, .int .u32 0, .slice none 0 0], []⟩ 8 (by kernel_rfl) (by kernel_rfl) (by kernel_rfl) (by kernel_rfl)) ?_
  intro W base args ds gs before hval0 hW hcnd hsz0 _
  have hW' := hW
  obtain ⟨p, q, hA0, hV, rfl, hfz, hnd⟩ := hW
  have hA : DataW.TrodAll enc Try.prog W 0 (fun _ => true) true Try.f3.params.toList args.toList ds p := hA0
  obtain ⟨rfl, rfl⟩ := trodVars_none hV
  obtain ⟨d1, d2, d3, rfl⟩ : ∃ d1 d2 d3, ds = [d1, d2, d3] := by
    have hA := hA
    obtain ⟨_, _, d1, ds1, _, _, _, rfl, _, _, hA⟩ := trodAll_cons hA
    obtain ⟨_, _, d2, ds2, _, _, _, rfl, _, _, hA⟩ := trodAll_cons hA
    obtain ⟨_, _, d3, ds3, _, _, _, rfl, _, _, hA⟩ := trodAll_cons hA
    obtain ⟨_, rfl, _⟩ := trodAll_nil hA
    exact ⟨d1, d2, d3, rfl⟩
  refine (walk W args base _ p hA hval0).mono fun e W' ⟨he, bel⟩ => ?_
  subst he
  exact ⟨_, rfl, _, _, _, [], _, [], hW', trodAll_mk1 (shut_bool Try.underlying4 _), trods_below (ts := []) laidOut bel readable hA, rfl, bel.frame _, fun h => by cases h⟩
theorem over : Rows.witnessValidRow.holds Try.pinned (OpenSpec.ofChange Rows.witnessValidSpec) :=
  OpenClaim.holds_of_wide 3 Try.f3 rfl rfl rfl rfl rfl rfl rfl ⟨rfl, rfl, rfl, rfl, rfl⟩ rfl rfl rfl rfl rfl (by kernel_rfl) Try.func3 (by kernel_rfl)
    (of_decide_eq_true (by kernel_rfl)) (by unfold Func.isWrapper; first | (rw [if_pos (by decide +kernel)]; kernel_rfl) | (rw [if_neg (by decide +kernel)]; exact ⟨rfl, rfl⟩))
    (fun os started H enc _ => lifted os started H enc)
theorem proved : Rows.WitnessValidSaid := over
#print axioms proved
end Go.Proofs.Ytbcilfbdbphjgaa.witnessValid
