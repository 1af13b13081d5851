/- A window that no call made has no nodes: for every input the law returns true, and the input reads as it did. Condition: the table of math/bits is laid as its text says, which is shown of the text itself. -/
import Derived.Test.YthpanolfgefikaaDoorCards
import Derived.Test.YthpanolfgefikaaDoorTz
import Derived.SevenTiedAt
import Derived.Handy
import Derived.Lay
set_option linter.unusedSimpArgs false
set_option linter.unusedVariables false
set_option maxRecDepth 20000
namespace Go.Proofs.YthpanolfgefikaaDoor.windowNobody
open Go Go.ChangeShapes Go.WideShapes Go.ChangeAt Go.RowKit Go.Proofs.YthpanolfgefikaaDoor.Bm

noncomputable def E0 : Env := mkEnv Tryd.prog 116 89
noncomputable def Ez : Env := addF E0 49 tzI
noncomputable def E1 : Env := addF E0 7 livesI
noncomputable def kl (x0 : Int) (x1 : Int) (π : Plan) : Option Bool := lawT (E1) (5000) (6) ([.int .i64 x0, .int .u64 x1]) ([]) π
def kl_p : Plan := (.reck 17 (.fork (.must true (.must true (.reck 1 (.must true (.must true (.fork (.reck 18 (.must true (.must true (.must true (.reck 1 (.must true (.must true (.must true (.reck 12 (.must true (.must true (.must true (.reck 1 (.must true (.must true (.must true .stop)))))))))))))))) .stop)))))) (.must false (.must false (.must false (.must false (.reck 19 (.must false (.must false (.must false (.must false (.must false (.reck 13 (.must false (.must false (.must false (.must false (.must false .stop))))))))))))))))))
theorem kl_is (x0 : Int) (x1 : Int) : kl x0 x1 kl_p = (cond (decide (x0 ≥ 0) == true)
  (cond (decide (x0 ≥ 0) == true) (cond (decide (x0 ≥ 0) == true) (cond (decide (x0 ≥ 0) == true) (cond (decide (x0 ≥ 0)) (cond (!decide (x0 < 0))
  (cond (decide (x0 ≥ 0) == true) (cond (decide (x0 ≥ 0) == true) (cond (decide (x0 ≥ 0) == true) (cond (decide (x0 ≥ 0) == true) (cond (decide (x0 ≥ 0)) (cond (!decide (x0 < 0)) (cond (decide (x0 ≥ 0) == true) (cond (decide (x0 ≥ 0) == true) (cond (decide (x0 ≥ 0) == true) (cond (decide (x0 ≥ 0) == true) (cond (decide (x0 ≥ 0)) (cond (!decide (x0 < 0)) (some (true)) none) none) none) none) none) none) none) none) none) none) none) none)
  none) none) none) none) none)
  (cond (decide (x0 ≥ 0) == true) none (cond (decide (x0 ≥ 0) == true) none (cond (decide (x0 ≥ 0) == true) none (cond (decide (x0 ≥ 0)) none (cond (decide (x0 ≥ 0) == true) none (cond (decide (x0 ≥ 0) == true) none (cond (decide (x0 ≥ 0) == true) none (cond (decide (x0 ≥ 0) == true) none (cond (decide (x0 ≥ 0)) none (cond (decide (x0 ≥ 0) == true) none (cond (decide (x0 ≥ 0) == true) none (cond (decide (x0 ≥ 0) == true) none (cond (decide (x0 ≥ 0) == true) none (cond (decide (x0 ≥ 0)) none (some (true))))))))))))))))) := by kernel_rfl
theorem kl_eq (x0 : Int) (x1 : Int) : kl x0 x1 kl_p = (cond (decide (x0 ≥ 0))
  (cond (decide (x0 < 0))
  none
  (some (true)))
  (some (true))) := by
  rw [kl_is]
  try simp only [eq_self, decide_true, beq_self_eq_true, Nat.beq_refl, ble_self, Int.le_refl, Nat.le_refl]
  cases (decide (x0 ≥ 0)) with
  | true =>
    cases (decide (x0 < 0)) with
    | true =>
      rfl
    | false =>
      rfl
  | false =>
    rfl


theorem g0 : Bm.Good Tryd.prog E0 := good0 (by kernel_rfl) (by kernel_rfl) (by kernel_rfl)
theorem gz : GoodL Tryd.prog Ez L := (g0.toL L_more).addF tz_ok
set_option maxRecDepth 100000 in
theorem g1 : GoodL Tryd.prog E1 L := (g0.toL L_more).addF (livesL_ok (m := 100000) gz (by kernel_rfl))
theorem kl_true (x0 : Int) (x1 : Int) : kl x0 x1 kl_p = some true := by
  rw [kl_eq]
  by_cases h : x0 ≥ 0
  · have h' : ¬ x0 < 0 := by omega
    simp only [decide_eq_true h, decide_eq_false h', cond_true, cond_false]
  · simp only [decide_eq_false h, cond_false]
theorem own : ownKnob Tryd.prog.godebug = none := by kernel_rfl
theorem laidOut : laidOutB Tryd.prog = true := by kernel_rfl
theorem readable : ((Tryd.f6.params.toList).all fun t => Tryd.prog.readableRec t && Nat.blt t Tryd.prog.types.size) = true := by kernel_rfl
theorem fits : argsIs Tryd.prog [.one (.one (.int .i64)), .one (.one (.int .u64))] Tryd.f6.params.toList = true := by kernel_rfl
set_option maxRecDepth 100000 in
theorem walk {H : Type} {enc : TypeId × Value → H} (W : World) (hL : L W) (args : Array Value) (base : Nat) (ds : List (DataW H)) (p : List MemPlace) (hA : DataW.TrodAll enc Tryd.prog W 0 (fun _ => true) true Tryd.f6.params.toList args.toList ds p)
    (hval : ∀ (j : Nat) t v, Tryd.f6.params[j]? = some t → args[j]? = some v → Value.okWide Tryd.prog W .any base t v) : Calls Tryd.prog 6 args W fun e W' => e = .returned (.bool true) ∧ Below W.heap.size W W' := by
    obtain ⟨xs, os1, φ', hI, _, h3, h4⟩ := args_ok (base := base) (P := Tryd.prog) (fun _ => rfl) fits hA (fun j t v h1 h2 => hval j t v (by rw [← Array.getElem?_toList]; exact h1) (by rw [← Array.getElem?_toList]; exact h2)) (RO.nil W)
    obtain ⟨_, _, _, _, rfl, rfl, ⟨⟨x0, rfl, y0⟩, rfl⟩, hI⟩ := hI
    obtain ⟨_, _, _, _, rfl, rfl, ⟨⟨x1, rfl, y1⟩, rfl⟩, hI⟩ := hI
    obtain ⟨rfl, rfl⟩ := hI
    have hl := kl_true x0 x1
    have := law_TL g1 hL h4.rel h3 hl
    simpa using this
abbrev laidL {H : Type} : List (String × DataW H) := [("math/bits.deBruijn64tab", Rows.laid_math_bits_deBruijn64tab)]
set_option maxRecDepth 100000 in
theorem lifted (os : Os) (started : os.Started) (H : Type) (enc : TypeId × Value → H) :
    ReturnsInHanded {} Tryd.checked os 6 .any (fun w args => (Rows.windowNobodySpec.pre enc Tryd.prog Tryd.f6 [] false w args ∧ laidMetH Tryd.prog [("math/bits.deBruijn64tab", Rows.laid_math_bits_deBruijn64tab)] w) ∧ sizedMet enc Tryd.prog Tryd.f6 (OpenSpec.ofChange Rows.windowNobodySpec) false w args)
      (Rows.windowNobodySpec.post enc Tryd.prog Tryd.f6 false true false false) := by
  refine returnsInHanded_of_change_and (C := Tryd.checked) (X := fun w _ => laidMetH Tryd.prog [("math/bits.deBruijn64tab", Rows.laid_math_bits_deBruijn64tab)] w) (fun _ _ _ hh h => h.of_heap hh) own started (by kernel_rfl) Tryd.func6
    (ChangeSpec.witness_shaped (enc := enc) (C := Tryd.checked) (os := os) (X := fun w _ => laidMetH Tryd.prog [("math/bits.deBruijn64tab", Rows.laid_math_bits_deBruijn64tab)] w) false (World.laidAll Tryd.prog os [("math/bits.deBruijn64tab", Rows.laid_math_bits_deBruijn64tab)]) #[.int .i64 0, .int .u64 0] 8 (World.laidAll_os _ _ _)
      (World.shaped_of_ZipB (by kernel_rfl) (by kernel_rfl)) (by kernel_rfl) (by kernel_rfl) (by kernel_rfl)
      (by rw [MakeChecks.laidMetH_plain _ _ _ (by kernel_rfl)]; exact laidMet_laidAll _ (by kernel_rfl) (by kernel_rfl))) ?_
  intro W base args ds gs before hval0 hW _ _ hX _
  have hW' := hW
  obtain ⟨p, q, hA0, hV, rfl, hfz, hnd⟩ := hW
  have hA : DataW.TrodAll enc Tryd.prog W 0 (fun _ => true) true Tryd.f6.params.toList args.toList ds p := hA0
  obtain ⟨rfl, rfl⟩ := trodVars_none hV
  obtain ⟨d1, d2, rfl⟩ : ∃ d1 d2, ds = [d1, d2] := by
    have hA := hA
    obtain ⟨_, _, d1, ds1, _, _, _, rfl, _, _, hA⟩ := trodAll_cons hA
    obtain ⟨_, _, d2, ds2, _, _, _, rfl, _, _, hA⟩ := trodAll_cons hA
    obtain ⟨_, rfl, _⟩ := trodAll_nil hA
    exact ⟨d1, d2, rfl⟩
  refine (walk W (of_laid hX) args base _ p hA hval0).mono fun e W' ⟨he, bel⟩ => ?_
  subst he
  exact ⟨_, rfl, _, _, _, [], _, [], hW', trodAll_mk1 (shut_bool Tryd.underlying4 _), trods_below (ts := []) laidOut bel readable hA, rfl, bel.frame _, fun h => by cases h⟩
theorem over : Rows.WindowNobodySaid :=
  OpenClaim.holds_of_wide 6 Tryd.f6 rfl rfl rfl rfl rfl rfl rfl ⟨rfl, rfl, rfl, rfl, rfl⟩ rfl rfl rfl rfl rfl (by kernel_rfl) Tryd.func6 (by kernel_rfl)
    (of_decide_eq_true (by kernel_rfl)) (by unfold Func.isWrapper; first | (rw [if_pos (by decide +kernel)]; kernel_rfl) | (rw [if_neg (by decide +kernel)]; exact ⟨rfl, rfl⟩))
    (fun os started H enc _ => lifted os started H enc)
theorem proved : Rows.WindowNobodyCardSaid :=
  Claim7.holds_tied_plain_at .later [] [.data] true (true, "7aca3d8096671ffff63f7c917b00966897ed7cfc5658e1e182042a3cd8360c81") false over (fun _ h => by cases h) (by kernel_rfl) (fun _ h => by cases h) windowNobody_row_tie rfl ⟨rfl, rfl⟩ (by kernel_rfl) rfl
    (fun f fn hf hfn => by
      obtain rfl : f = 6 := Option.some.inj ((show Tryd.prog.funcNamed "keelson/keelsonlaw21.WindowNobody" = some 6 by kernel_rfl).symm.trans hf) |>.symm
      obtain rfl : fn = Tryd.f6 := (Option.some.inj (Tryd.func6.symm.trans hfn)).symm
      exact ⟨by kernel_rfl, fun j t ht => by
        rw [Tryd.params6] at ht
        have hm : t ∈ [3, 22] := by simpa using Array.mem_of_getElem? ht
        have hall : ([3, 22].all fun u => !Tryd.prog.wantsStandIn u) = true := by kernel_rfl
        exact (show Tryd.prog.wantsStandIn t = false by simpa using List.all_eq_true.1 hall t hm)⟩)
    (by kernel_rfl)
#print axioms proved
end Go.Proofs.YthpanolfgefikaaDoor.windowNobody
