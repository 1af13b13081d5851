/- What is done one after the other, each being answered ahead of the next one's beginning, can be so just if each read tells what was written last: for every input the law returns true, and the input reads as it did. No condition. -/
import Derived.Test.YtmjmhpbncfjnpaaSnB
import Derived.Test.YtmjmhpbncfjnpaaRows
import Derived.KernelRfl
set_option linter.unusedSimpArgs false
set_option linter.unusedVariables false
set_option maxRecDepth 20000
namespace Go.Proofs.Ytmjmhpbncfjnpaa.historyOne
open Go Go.ChangeShapes Go.WideShapes Go.ChangeAt Go.RowKit Go.Proofs.Ytmjmhpbncfjnpaa.Bm Go.Proofs.Ytmjmhpbncfjnpaa.history
noncomputable def kl (nlx0 : Bool) (x0 : Nat) (fx0 : Nat → Nat → AV) (x1 : Int) (π : Plan) : Option Bool := lawT (EO) (3000) (5) ([.osl nlx0 0 0 x0 x0 8 true, .int .u32 x1]) ([some (.tarr shO x0 fx0 false)]) π
def kl_p : Plan := (.must true (.reck 1 (.must true (.fork (.fork .stop (.reck 3 (.must true (.must true (.reck 4 (.must true (.fork (.fork (.reck 4 (.fork (.fork (.reck 3 (.must true (.fork (.must true .stop) (.must false .stop)))) (.fork (.must true (.fork (.fork (.reck 4 (.must true (.reck 9 (.must true (.reck 6 (.must true (.fork (.must true .stop) (.must false .stop)))))))) .stop) .stop)) .stop)) .stop)) (.reck 1 (.must true (.reck 1 (.must true (.fork (.fork (.must true (.reck 1 (.must true (.must true (.fork (.must true .stop) (.must false .stop)))))) (.fork (.must true (.fork (.fork (.reck 1 (.must true (.reck 1 (.must true (.reck 2 (.must true (.must true (.must true (.reck 2 (.must true (.reck 1 (.must true (.must true (.fork (.fork (.fork (.reck 1 (.must true (.reck 1 (.must true (.must true (.fork (.must true .stop) (.must false .stop))))))) .stop) .stop) .stop)))))))))))))) .stop) .stop)) .stop)) .stop)))))) .stop))))))) .stop))))
theorem kl_is (nlx0 : Bool) (x0 : Nat) (fx0 : Nat → Nat → AV) (x1 : Int) : kl nlx0 x0 fx0 x1 kl_p = (cond (decide (x0 = x0)) (cond (decide (x0 = x0)) (cond (okNV x0)
  (cond (!(okLV fx0 x0 && decide ((↑x0 : Int) ≤ 20)))
  (some (true))
  (cond (decide (x0 = x0)) (cond (decide ((↑x0 : Int) = (↑x0 : Int))) (cond (decide (x0 = x0)) (cond (Nat.ble x0 20)
  (cond (Nat.beq x0 0)
  (cond ((rngV (fun p_ q_ => AV.bad) (0)))
  (cond (!gV x1 (fun x x_1 => AV.bad) 0)
  (cond ((rngV (fun p_ q_ => AV.bad) (0))) (cond ((!checkV x1 (fun x x_1 => AV.bad) 0) == true)
  (cond (!checkV x1 (fun x x_1 => AV.bad) 0) (some (true)) none)
  (cond (!checkV x1 (fun x x_1 => AV.bad) 0) none (some (false)))) none)
  (cond (decide (0 ≤ IntKind.wrap IntKind.u32 (8 * x1)))
  (cond (decide (IntKind.wrap IntKind.u32 (8 * x1) ≤ IntKind.wrap IntKind.u32 (8 * x1))) (cond (decide (IntKind.wrap IntKind.u32 (8 * x1) ≤ 281474976710656))
  (cond (Nat.ble (1 * Int.toNat (IntKind.wrap IntKind.u32 (8 * x1))) 281474976710656)
  (cond (decide (Int.toNat (IntKind.wrap IntKind.u32 (8 * x1)) = Int.toNat (IntKind.wrap IntKind.u32 (8 * x1)))) (cond (decide (Int.toNat (IntKind.wrap IntKind.u32 (8 * x1)) = Int.toNat (IntKind.wrap IntKind.u32 (8 * x1)))) (cond ((rngV (fun p_ q_ => AV.bad) (0))) (cond ((checkV x1 (fun x x_1 => AV.bad) 0 == true) == true)
  (cond (checkV x1 (fun x x_1 => AV.bad) 0 == true) (some (true)) none)
  (cond (checkV x1 (fun x x_1 => AV.bad) 0 == true) none (some (false)))) none) none) none)
  none)
  none) none)
  none))
  none)
  (cond (decide (x0 = x0)) (cond (decide (x0 = x0)) (cond ((rngV (finO ((rowV fx0 (x0)))) (x0)))
  (cond (!gV x1 (finO (rowV fx0 x0)) x0)
  (cond (decide (x0 = x0)) (cond (decide (x0 = x0)) (cond ((rngV (finO ((rowV fx0 (x0)))) (x0))) (cond ((!checkV x1 (finO (rowV fx0 x0)) x0) == true)
  (cond (!checkV x1 (finO (rowV fx0 x0)) x0) (some (true)) none)
  (cond (!checkV x1 (finO (rowV fx0 x0)) x0) none (some (false)))) none) none) none)
  (cond (decide (0 ≤ IntKind.wrap IntKind.u32 (8 * x1)))
  (cond (decide (IntKind.wrap IntKind.u32 (8 * x1) ≤ IntKind.wrap IntKind.u32 (8 * x1))) (cond (decide (IntKind.wrap IntKind.u32 (8 * x1) ≤ 281474976710656))
  (cond (Nat.ble (1 * Int.toNat (IntKind.wrap IntKind.u32 (8 * x1))) 281474976710656)
  (cond (decide (x0 = x0)) (cond (decide (Int.toNat (IntKind.wrap IntKind.u32 (8 * x1)) = Int.toNat (IntKind.wrap IntKind.u32 (8 * x1)))) (cond (decide (x0 = x0)) (cond (decide (x0 = x0)) (cond (decide ((↑x0 : Int) = (↑x0 : Int))) (cond (decide (x0 = x0)) (cond (decide (Int.toNat (IntKind.wrap IntKind.u32 (8 * x1)) = Int.toNat (IntKind.wrap IntKind.u32 (8 * x1)))) (cond (Nat.ble x0 20) (cond ((okDV (finO ((rowV fx0 (x0)))) (x0) (Int.toNat (IntKind.wrap IntKind.u32 (8 * x1)))))
  (cond ((okBV (finO ((rowV fx0 (x0)))) (x0)))
  (cond ((okQV (fun p_ q_ => getAt [(AV.int IntKind.u8 (0))] (q_)) (Int.toNat (IntKind.wrap IntKind.u32 (8 * x1)))))
  (cond (decide (x0 = x0)) (cond (decide (x0 = x0)) (cond ((rngV (finO ((rowV fx0 (x0)))) (x0))) (cond ((checkV x1 (finO (rowV fx0 x0)) x0 == seqV (finO (rowV fx0 x0)) x0 (Int.toNat (IntKind.wrap IntKind.u32 (8 * x1)))) == true)
  (cond (checkV x1 (finO (rowV fx0 x0)) x0 == seqV (finO (rowV fx0 x0)) x0 (Int.toNat (IntKind.wrap IntKind.u32 (8 * x1)))) (some (true)) none)
  (cond (checkV x1 (finO (rowV fx0 x0)) x0 == seqV (finO (rowV fx0 x0)) x0 (Int.toNat (IntKind.wrap IntKind.u32 (8 * x1)))) none (some (false)))) none) none) none)
  none)
  none)
  none) none) none) none) none) none) none) none) none)
  none)
  none) none)
  none))
  none) none) none))
  none) none) none) none))
  none) none) none) := by kernel_rfl
theorem kl_eq (nlx0 : Bool) (x0 : Nat) (fx0 : Nat → Nat → AV) (x1 : Int) : kl nlx0 x0 fx0 x1 kl_p = (cond (okNV x0)
  (cond (okLV fx0 x0 && decide ((↑x0 : Int) ≤ 20))
  (cond (Nat.ble x0 20)
  (cond (Nat.beq x0 0)
  (cond (rngV (fun p_ q_ => AV.bad) (0))
  (cond (gV x1 (fun x x_1 => AV.bad) 0)
  (cond (decide (0 ≤ IntKind.wrap IntKind.u32 (8 * x1)))
  (cond (decide (IntKind.wrap IntKind.u32 (8 * x1) ≤ 281474976710656))
  (cond (Nat.ble (1 * Int.toNat (IntKind.wrap IntKind.u32 (8 * x1))) 281474976710656)
  (cond (checkV x1 (fun x x_1 => AV.bad) 0)
  (some (true))
  (some (false)))
  none)
  none)
  none)
  (cond (checkV x1 (fun x x_1 => AV.bad) 0)
  (some (false))
  (some (true))))
  none)
  (cond (rngV (finO ((rowV fx0 (x0)))) (x0))
  (cond (gV x1 (finO (rowV fx0 x0)) x0)
  (cond (decide (0 ≤ IntKind.wrap IntKind.u32 (8 * x1)))
  (cond (decide (IntKind.wrap IntKind.u32 (8 * x1) ≤ 281474976710656))
  (cond (Nat.ble (1 * Int.toNat (IntKind.wrap IntKind.u32 (8 * x1))) 281474976710656)
  (cond (okDV (finO ((rowV fx0 (x0)))) (x0) (Int.toNat (IntKind.wrap IntKind.u32 (8 * x1))))
  (cond (okBV (finO ((rowV fx0 (x0)))) (x0))
  (cond (okQV (fun p_ q_ => getAt [(AV.int IntKind.u8 (0))] (q_)) (Int.toNat (IntKind.wrap IntKind.u32 (8 * x1))))
  (cond (checkV x1 (finO (rowV fx0 x0)) x0 == seqV (finO (rowV fx0 x0)) x0 (Int.toNat (IntKind.wrap IntKind.u32 (8 * x1))))
  (some (true))
  (some (false)))
  none)
  none)
  none)
  none)
  none)
  none)
  (cond (checkV x1 (finO (rowV fx0 x0)) x0)
  (some (false))
  (some (true))))
  none))
  none)
  (some (true)))
  none) := by
  rw [kl_is]
  try simp only [eq_self, decide_true, beq_self_eq_true, Nat.beq_refl, ble_self, Int.le_refl, Nat.le_refl]
  cases (okNV x0) with
  | true =>
    cases (okLV fx0 x0 && decide ((↑x0 : Int) ≤ 20)) with
    | true =>
      cases (Nat.ble x0 20) with
      | true =>
        cases (Nat.beq x0 0) with
        | true =>
          cases (rngV (fun p_ q_ => AV.bad) (0)) with
          | true =>
            cases (gV x1 (fun x x_1 => AV.bad) 0) with
            | true =>
              cases (decide (0 ≤ IntKind.wrap IntKind.u32 (8 * x1))) with
              | true =>
                cases (decide (IntKind.wrap IntKind.u32 (8 * x1) ≤ 281474976710656)) with
                | true =>
                  cases (Nat.ble (1 * Int.toNat (IntKind.wrap IntKind.u32 (8 * x1))) 281474976710656) with
                  | true =>
                    cases (checkV x1 (fun x x_1 => AV.bad) 0) with
                    | true =>
                      rfl
                    | false =>
                      rfl
                  | false =>
                    rfl
                | false =>
                  rfl
              | false =>
                rfl
            | false =>
              cases (checkV x1 (fun x x_1 => AV.bad) 0) with
              | true =>
                rfl
              | false =>
                rfl
          | false =>
            rfl
        | false =>
          cases (rngV (finO ((rowV fx0 (x0)))) (x0)) with
          | true =>
            cases (gV x1 (finO (rowV fx0 x0)) x0) with
            | true =>
              cases (decide (0 ≤ IntKind.wrap IntKind.u32 (8 * x1))) with
              | true =>
                cases (decide (IntKind.wrap IntKind.u32 (8 * x1) ≤ 281474976710656)) with
                | true =>
                  cases (Nat.ble (1 * Int.toNat (IntKind.wrap IntKind.u32 (8 * x1))) 281474976710656) with
                  | true =>
                    cases (okDV (finO ((rowV fx0 (x0)))) (x0) (Int.toNat (IntKind.wrap IntKind.u32 (8 * x1)))) with
                    | true =>
                      cases (okBV (finO ((rowV fx0 (x0)))) (x0)) with
                      | true =>
                        cases (okQV (fun p_ q_ => getAt [(AV.int IntKind.u8 (0))] (q_)) (Int.toNat (IntKind.wrap IntKind.u32 (8 * x1)))) with
                        | true =>
                          cases (checkV x1 (finO (rowV fx0 x0)) x0 == seqV (finO (rowV fx0 x0)) x0 (Int.toNat (IntKind.wrap IntKind.u32 (8 * x1)))) with
                          | true =>
                            rfl
                          | false =>
                            rfl
                        | false =>
                          rfl
                      | false =>
                        rfl
                    | false =>
                      rfl
                  | false =>
                    rfl
                | false =>
                  rfl
              | false =>
                rfl
            | false =>
              cases (checkV x1 (finO (rowV fx0 x0)) x0) with
              | true =>
                rfl
              | false =>
                rfl
          | false =>
            rfl
      | false =>
        rfl
    | false =>
      rfl
  | false =>
    rfl

theorem filt_row (f : Nat → Nat → AV) (n : Nat) : filtO (finO (rowO f n)) n = rowO f n := by
  unfold filtO
  have hr := rdO_fin (rowO f n)
  rw [rowO_len] at hr
  rw [hr, List.filter_eq_self]
  intro x hx
  obtain ⟨i, _, rfl⟩ := List.mem_map.1 hx
  show (!false && ((f i 1).toB || 2 * (i : Int) + 1 != 0)) = true
  rw [show (2 * (i : Int) + 1 != 0) = true from by rw [bne_iff_ne]; omega]
  simp
theorem opAt_row {f : Nat → Nat → AV} {n i : Nat} (h : i < n) : opAt (finO (rowO f n)) i = rowOf f i := by rw [opAt_fin, rowO_at h]
theorem w32m {k : Nat} (h : k ≤ 64) : IntKind.wrap .u32 (8 * (k : Int)) = ((8 * k : Nat) : Int) := by
  have := w32 (a := 8 * k) (by omega)
  simpa using this
theorem kl_true (nlx0 : Bool) (x0 : Nat) (fx0 : Nat → Nat → AV) (x1 : Int) (hl : x0 ≤ 9223372036854775807) (y : ∀ i, i < x0 → ∀ (j : Nat) s, shO[j]? = some s → Rng s (fx0 i j)) : kl nlx0 x0 fx0 x1 kl_p = some true := by
  rw [kl_eq]
  have hok : okNV x0 = true := by rw [okNV_eq]; exact decide_eq_true hl
  rw [hok]
  cases hlt : (okLV fx0 x0 && decide ((x0 : Int) ≤ 20)) with
  | false => rfl
  | true =>
    rw [Bool.and_eq_true] at hlt
    have h20 := of_decide_eq_true hlt.2
    rw [ble_t (show x0 ≤ 20 by omega)]
    have hrow : rngV (finO (rowO fx0 x0)) x0 = true := by
      rw [rngV_eq]
      refine okFrom_iff.2 fun i hi => ?_
      rw [Nat.zero_add, opAt_row hi]
      have h2 := y i hi 2 _ rfl
      have h3 := y i hi 3 _ rfl
      show (decide (0 ≤ (fx0 i 2).toI) && decide ((fx0 i 2).toI < 4294967296) && decide (0 ≤ (fx0 i 3).toI) && decide ((fx0 i 3).toI < 4294967296)) = true
      rw [decide_eq_true (show 0 ≤ (fx0 i 2).toI from h2.1), decide_eq_true (show 0 ≤ (fx0 i 3).toI from h3.1), decide_eq_true (show (fx0 i 2).toI < 4294967296 from Int.lt_of_le_of_lt h2.2 (by decide)), decide_eq_true (show (fx0 i 3).toI < 4294967296 from Int.lt_of_le_of_lt h3.2 (by decide))]
      rfl
    by_cases h0 : x0 = 0
    · subst h0
      have hc : ∀ a b : Nat → Nat → AV, checkF x1 a 0 = gF x1 b 0 := fun a b => by
        rw [check_c (g' := finO (rowO fx0 0)) fun i hi => absurd hi (Nat.not_lt_zero _), check_one, good_c (g' := b) fun i hi => absurd hi (Nat.not_lt_zero _)]
        exact Bool.and_true _
      have hr0 : ∀ a : Nat → Nat → AV, rngV a 0 = true := fun a => by rw [rngV_eq]; rfl
      rw [Nat.beq_refl, hr0, gV_eq, checkV_eq, hc _ (fun _ _ => AV.bad)]
      simp only [cond_true]
      cases hg : gF x1 (fun _ _ => AV.bad) 0 with
      | false => rfl
      | true =>
        obtain ⟨_, g2, g3, _⟩ := good_bl hg
        obtain ⟨k, rfl⟩ := Int.eq_ofNat_of_zero_le (show 0 ≤ x1 by omega)
        rw [w32m (show k ≤ 64 by omega), Int.toNat_natCast, decide_eq_true (show 0 ≤ ((8 * k : Nat) : Int) by omega), decide_eq_true (show ((8 * k : Nat) : Int) ≤ 281474976710656 by omega), ble_t (show 1 * (8 * k) ≤ 281474976710656 by omega)]
        rfl
    · rw [show Nat.beq x0 0 = false by rw [beq_iff]; exact decide_eq_false h0, rowV_eq, hrow, gV_eq, checkV_eq, check_one]
      simp only [cond_true, cond_false]
      cases hg : gF x1 (finO (rowO fx0 x0)) x0 with
      | false => rfl
      | true =>
        obtain ⟨_, g2, g3, g4⟩ := good_bl hg
        obtain ⟨k, rfl⟩ := Int.eq_ofNat_of_zero_le (show 0 ≤ x1 by omega)
        have hD : okDV (finO (rowO fx0 x0)) x0 (8 * k) = true := by
          have h := okD_filt (bl := k) (f := finO (rowO fx0 x0)) (n := x0) (by omega) hrow g4
          rw [filt_row, rowO_len] at h
          exact h
        have hB : okBV (finO (rowO fx0 x0)) x0 = true := by
          rw [okBV_eq]
          refine okFrom_iff.2 fun i hi => ?_
          rw [Nat.zero_add]
          have h4 := y i hi 4 _ rfl
          have he : (finO (rowO fx0 x0) i 4).toS = (fx0 i 4).toS := congrArg Opn.d (opAt_row (f := fx0) hi)
          show ((finO (rowO fx0 x0) i 4).toS.all fun b => Nat.blt b 256) = true
          rw [he]
          exact List.all_eq_true.2 fun b hb => blt_t (h4.1 b hb)
        have hQ : okQV (fun p_ q_ => getAt [(AV.int IntKind.u8 (0))] q_) (8 * k) = true := by
          rw [okQV_eq]
          exact okFrom_iff.2 fun i hi => decide_eq_true rfl
        have hS : seqV (finO (rowO fx0 x0)) x0 (8 * k) = (runO (rowO fx0 x0) (history.blank (k : Int))).isSome := by
          rw [seqV_eq]
          unfold seqF
          have hr := rdO_fin (rowO fx0 x0)
          rw [rowO_len] at hr
          rw [hr, show history.blank (k : Int) = List.replicate (8 * k) 0 from by unfold history.blank; rw [show (8 * (k : Int)).toNat = 8 * k by omega]]
        rw [w32m (show k ≤ 64 by omega), Int.toNat_natCast, decide_eq_true (show 0 ≤ ((8 * k : Nat) : Int) by omega), decide_eq_true (show ((8 * k : Nat) : Int) ≤ 281474976710656 by omega), ble_t (show 1 * (8 * k) ≤ 281474976710656 by omega), hD, hB, hQ, hS, Bool.true_and]
        rw [show ((runO (rowO fx0 x0) (history.blank (k : Int))).isSome == (runO (rowO fx0 x0) (history.blank (k : Int))).isSome) = true from beq_self_eq_true _]
        rfl

theorem own : ownKnob Try.prog.godebug = none := by kernel_rfl
theorem laidOut : laidOutB Try.prog = true := by kernel_rfl
theorem readable : ((Try.f5.params.toList).all fun t => Try.prog.readableRec t && Nat.blt t Try.prog.types.size) = true := by kernel_rfl
theorem fits : argsIs Try.prog [.one (.sl shO), .one (.one (.int .u32))] Try.f5.params.toList = true := by kernel_rfl
set_option maxRecDepth 100000 in
theorem walk {H : Type} {enc : TypeId × Value → H} (W : World) (args : Array Value) (base : Nat) (ds : List (DataW H)) (p : List MemPlace) (hA : DataW.TrodAll enc Try.prog W 0 (fun _ => true) true Try.f5.params.toList args.toList ds p)
    (hval : ∀ (j : Nat) t v, Try.f5.params[j]? = some t → args[j]? = some v → Value.okWide Try.prog W .any base t v) : Calls Try.prog 5 args W fun e W' => e = .returned (.bool true) ∧ Below W.heap.size W W' := by
    obtain ⟨xs, os1, φ', hI, _, h3, h4⟩ := args_ok (base := base) (P := Try.prog) (fun _ => rfl) fits hA (fun j t v h1 h2 => hval j t v (by rw [← Array.getElem?_toList]; exact h1) (by rw [← Array.getElem?_toList]; exact h2)) (RO.nil W)
    obtain ⟨_, _, _, _, rfl, rfl, ⟨nlx0, x0, fx0, rfl, rfl, hnx0, hlx0, y0⟩, hI⟩ := hI
    obtain ⟨_, _, _, _, rfl, rfl, ⟨⟨x1, rfl, y1⟩, rfl⟩, hI⟩ := hI
    obtain ⟨rfl, rfl⟩ := hI
    have hl := kl_true nlx0 x0 fx0 x1 hlx0 y0
    have := law_T qEO h4.rel h3 hl
    simpa using this
set_option maxRecDepth 100000 in
theorem lifted (os : Os) (started : os.Started) (H : Type) (enc : TypeId × Value → H) :
    ReturnsInHanded {} Try.checked os 5 .any (Rows.historyOneSpec.pre6 enc Try.prog Try.f5 Rows.historyOneRow.domain false) (Rows.historyOneSpec.post enc Try.prog Try.f5 false true false false) := by
  refine returnsInHanded_of_change_sized (C := Try.checked) own started (by kernel_rfl) Try.func5
    (ChangeSpec.witness6 (enc := enc) (C := Try.checked) false ⟨#[], #[.slice none 0 0, .int .u32 0], []⟩ 8 (by kernel_rfl) (by kernel_rfl) (by kernel_rfl) (by kernel_rfl)) ?_
  intro W base args ds gs before hval0 hW hcnd hsz0 _
  have hW' := hW
  obtain ⟨p, q, hA0, hV, rfl, hfz, hnd⟩ := hW
  have hA : DataW.TrodAll enc Try.prog W 0 (fun _ => true) true Try.f5.params.toList args.toList ds p := hA0
  obtain ⟨rfl, rfl⟩ := trodVars_none hV
  obtain ⟨d1, d2, rfl⟩ : ∃ d1 d2, ds = [d1, d2] := by
    have hA := hA
    obtain ⟨_, _, d1, ds1, _, _, _, rfl, _, _, hA⟩ := trodAll_cons hA
    obtain ⟨_, _, d2, ds2, _, _, _, rfl, _, _, hA⟩ := trodAll_cons hA
    obtain ⟨_, rfl, _⟩ := trodAll_nil hA
    exact ⟨d1, d2, rfl⟩
  refine (walk W args base _ p hA hval0).mono fun e W' ⟨he, bel⟩ => ?_
  subst he
  exact ⟨_, rfl, _, _, _, [], _, [], hW', trodAll_mk1 (shut_bool Try.underlying4 _), trods_below (ts := []) laidOut bel readable hA, rfl, bel.frame _, fun h => by cases h⟩
theorem over : Rows.historyOneRow.holds Try.pinned (OpenSpec.ofChange Rows.historyOneSpec) :=
  OpenClaim.holds_of_wide 5 Try.f5 rfl rfl rfl rfl rfl rfl rfl ⟨rfl, rfl, rfl, rfl, rfl⟩ rfl rfl rfl rfl rfl (by kernel_rfl) Try.func5 (by kernel_rfl)
    (of_decide_eq_true (by kernel_rfl)) (by unfold Func.isWrapper; first | (rw [if_pos (by decide +kernel)]; kernel_rfl) | (rw [if_neg (by decide +kernel)]; exact ⟨rfl, rfl⟩))
    (fun os started H enc _ => lifted os started H enc)
theorem proved : Rows.HistoryOneSaid := over
#print axioms proved
end Go.Proofs.Ytmjmhpbncfjnpaa.historyOne
