/- Any bytes are read as the document's entry, or are bad: for every input the law returns true, and the input reads as it did. No condition. -/
import Derived.Test.YtjbjjikdihghmaaRdH
import Derived.Test.YtjbjjikdihghmaaRdI
set_option linter.unusedSimpArgs false
set_option linter.unusedVariables false
namespace Go.Proofs.Ytjbjjikdihghmaa.entry
open Go Go.ChangeShapes Go.WideShapes Go.ChangeAt Go.RowKit Go.Proofs.Ytjbjjikdihghmaa.Bm
theorem r18_inv  {c : CS} {r : Nat × CS} (h : (r18  c).run = some r) : ∃ ix tm st kd cl rq fr ct d ix2 tm2 st2 kd2 cl2 rq2 fr2 ct2 d2 nl nl2 n m f g, c = c18 ix tm st kd cl rq fr ct d ix2 tm2 st2 kd2 cl2 rq2 fr2 ct2 d2 nl nl2 n m f g 0 ∧ (r18B  ix tm st kd cl rq fr ct d ix2 tm2 st2 kd2 cl2 rq2 fr2 ct2 d2 nl nl2 n m f g).run = some r := by
  unfold r18 at h
  split at h
  · rename_i z_1 ix tm st kd cl rq fr ct d nl n z_2 ix2 tm2 st2 kd2 cl2 rq2 fr2 ct2 d2 nl2 m z_3 sh_4 z_5 f sh_6 z_7 g
    obtain ⟨hc, hb⟩ := chkT_run h
    have h0 := hc 0 _ rfl
    have h0 := of_decide_eq_true h0; subst h0
    have h1 := hc 1 _ rfl
    have h1 := of_decide_eq_true h1; subst h1
    have h2 := hc 2 _ rfl
    have h2 := of_decide_eq_true h2; subst h2
    have h3 := hc 3 _ rfl
    have h3 := (shBeq_eq h3).symm; subst h3
    have h4 := hc 4 _ rfl
    have h4 := of_decide_eq_true h4; subst h4
    have h5 := hc 5 _ rfl
    have h5 := (shBeq_eq h5).symm; subst h5
    have h6 := hc 6 _ rfl
    have h6 := of_decide_eq_true h6; subst h6
    exact ⟨ix, tm, st, kd, cl, rq, fr, ct, d, ix2, tm2, st2, kd2, cl2, rq2, fr2, ct2, d2, nl, nl2, n, m, f, g, rfl, hb⟩
  · cases h
theorem f18_inv  {c : CS} {r : CS} (h : (f18  c).run = some r) : ∃ ix tm st kd cl rq fr ct d ix2 tm2 st2 kd2 cl2 rq2 fr2 ct2 d2 nl nl2 n m f g, c = a17 ix tm st kd cl rq fr ct d ix2 tm2 st2 kd2 cl2 rq2 fr2 ct2 d2 nl nl2 n m f g ∧ (f18B  ix tm st kd cl rq fr ct d ix2 tm2 st2 kd2 cl2 rq2 fr2 ct2 d2 nl nl2 n m f g).run = some r := by
  unfold f18 at h
  split at h
  · rename_i ix tm st kd cl rq fr ct d nl n z_1 ix2 tm2 st2 kd2 cl2 rq2 fr2 ct2 d2 nl2 m z_2 sh_3 z_4 f sh_5 z_6 g
    obtain ⟨hc, hb⟩ := chkT_run h
    have h0 := hc 0 _ rfl
    have h0 := of_decide_eq_true h0; subst h0
    have h1 := hc 1 _ rfl
    have h1 := of_decide_eq_true h1; subst h1
    have h2 := hc 2 _ rfl
    have h2 := (shBeq_eq h2).symm; subst h2
    have h3 := hc 3 _ rfl
    have h3 := of_decide_eq_true h3; subst h3
    have h4 := hc 4 _ rfl
    have h4 := (shBeq_eq h4).symm; subst h4
    have h5 := hc 5 _ rfl
    have h5 := of_decide_eq_true h5; subst h5
    exact ⟨ix, tm, st, kd, cl, rq, fr, ct, d, ix2, tm2, st2, kd2, cl2, rq2, fr2, ct2, d2, nl, nl2, n, m, f, g, rfl, hb⟩
  · cases h
theorem scan_run {α : Type} {b : Bool} {x y r : α} (h : (T.ask b (.ret x) (.ret y)).run = some r) : r = cond b x y := by
  simp only [T.run] at h
  cases b <;> simp only [cond_true, cond_false, Option.some.injEq] at h ⊢ <;> exact h.symm
theorem ne_of {n m : Nat} (h : (!((n : Int) != (m : Int))) = true) : n = m := by
  simp only [bne, Bool.not_not, beq_iff_eq] at h
  omega
theorem i18 (c : CS) (r : Nat × CS) (h : (r18 c).run = some r) : ∃ n, iterC (stepC F8 300 (loopC F8 16 0) 0 h18 ((.normal, h18) :: x18) s18_p) n c = some r := by
  obtain ⟨ix, tm, st, kd, cl, rq, fr, ct, d, ix2, tm2, st2, kd2, cl2, rq2, fr2, ct2, d2, nl, nl2, n, m, f, g, rfl, hb⟩ := r18_inv h
  obtain ⟨hn, hb2⟩ := chkT_run hb
  have hm := ne_of (hn 0 _ rfl)
  have hn := le_of (hn 1 _ rfl)
  subst hm
  rw [scan_run hb2]
  refine iter_scan (C := fun i => c18 ix tm st kd cl rq fr ct d ix2 tm2 st2 kd2 cl2 rq2 fr2 ct2 d2 nl nl2 n n f g i) (q := rowE f g) (by simp) (by simp) (fun i hi => ?_) ?_
  · show s18 ix tm st kd cl rq fr ct d ix2 tm2 st2 kd2 cl2 rq2 fr2 ct2 d2 nl nl2 n n f g i s18_p = _
    rw [s18_eq]
    simp only [ix_, lt1 hi, blt2 hi, wrap_i64s (i := i) (by omega), cond_true]
    change cond (rowE f g i) _ _ = cond (rowE f g i) _ _
    cases rowE f g i <;> rfl
  · show s18 ix tm st kd cl rq fr ct d ix2 tm2 st2 kd2 cl2 rq2 fr2 ct2 d2 nl nl2 n n f g n s18_p = _
    rw [s18_eq]
    simp only [lt0, cond_false]
theorem q9 : Bm.Good Try.prog F9 := q8.addL (by kernel_rfl) rfl (by decide) (by decide) rfl i18
set_option maxRecDepth 100000 in
theorem q10 : Bm.Good Try.prog F10 := by
  refine q9.addR q9 (by kernel_rfl) (fun c c' h => ?_)
  obtain ⟨ix, tm, st, kd, cl, rq, fr, ct, d, ix2, tm2, st2, kd2, cl2, rq2, fr2, ct2, d2, nl, nl2, n, m, f, g, rfl, hb⟩ := f18_inv h
  obtain ⟨hn, hb2⟩ := chkT_run hb
  simp only [T.run, Option.some.injEq] at hb2; subst hb2
  exact ⟨1000, .keep, [], k18_p, k18_S ix tm st kd cl rq fr ct d ix2 tm2 st2 kd2 cl2 rq2 fr2 ct2 d2 nl nl2 n m f g (hn 0 _ rfl)⟩
set_option maxRecDepth 100000 in
theorem q11 : Bm.Good Try.prog F11 := q10.addF (lives_ok (m := 100000) g0 (by kernel_rfl))
theorem same_refl (ix tm st kd cl rq fr ct : Int) (d : List Nat) (nl nl2 : Bool) (n : Nat) (f : Nat → Nat → AV) : sameR ix tm st kd cl rq fr ct d ix tm st kd cl rq fr ct d nl nl2 n n f f = true := by
  have he : allE f f n = true := okFrom_iff.2 fun j hj => by
    rw [Nat.zero_add]
    simp only [rowE, beq_self_eq_true, Bool.and_self]
  simp only [sameR, beq_self_eq_true, bne_self_eq_false, Bool.and_self, cond_true, cond_false, he]
set_option maxRecDepth 100000 in
theorem k4_true (nl : Bool) (N : Nat) (f : Nat → Nat → AV) (hnl : nl = true → N = 0) (hok : okB f N = true) : k4 nl N f k4_p = some true := by
  rw [k4_is]
  by_cases h1 : (N : Int) > 20000
  · simp only [decide_eq_true h1, cond_true]
  · have e0 : (bif nl then Nat.beq N 0 else true) = true := by
      cases nl with
      | true => rw [hnl rfl]; rfl
      | false => rfl
    have e00 : (cond nl (Nat.beq N 0) true) = true := e0
    simp only [decide_eq_false h1, cond_false, hok, ble_t (show N ≤ 1000000 by omega), Nat.sub_zero, decide_true, cond_true, e0, e00, eq_self, beq_self_eq_true, Nat.beq_refl, Nat.ble_eq_true_of_le (Nat.zero_le N)]
    cases hE : entOK f 0 N with
    | false => simp only [cond_false, cond_true, decide_true, eq_self, beq_self_eq_true, Nat.beq_refl, decide_eq_false h1]; try rfl
    | true =>
      have hE2 := hE
      rw [entOK_eq] at hE2
      simp only [Bool.and_eq_true, decide_eq_true_eq] at hE2
      obtain ⟨a1, a2, a3, a4, a5⟩ := hE2
      have ew : IntKind.wrap .i64 ((N : Int) - ((eEnd f 0 : Nat) : Int)) = ((N - eEnd f 0 : Nat) : Int) := by
        have := wrap_i64 (i := N - eEnd f 0) (by omega)
        rw [show (N : Int) - ((eEnd f 0 : Nat) : Int) = ((N - eEnd f 0 : Nat) : Int) by omega, this]
      simp only [Nat.zero_add, same_refl, ew, beq_self_eq_true, cond_true, cond_false, ble_t (show bnum f 0 ≤ 1000000 by omega), decide_true, eq_self]
      cases Nat.beq (bnum f 0) 0 <;> simp only [cond_true, cond_false, same_refl, ew, beq_self_eq_true, decide_true, eq_self] <;> try rfl
theorem u8_ok {f : Nat → Nat → AV} {N : Nat} (h : ∀ i, i < N → ∀ (j : Nat) s, shB[j]? = some s → Rng s (f i j)) : okB f N = true := by
  rw [okB_eq, List.all_eq_true]
  intro i hi
  have := h i (List.mem_range.1 hi) 0 (.int .u8) rfl
  have a : (0 : Int) ≤ (f i 0).toI := this.1
  have b : (f i 0).toI ≤ 255 := this.2
  rw [decide_eq_true a, decide_eq_true (show (f i 0).toI < 256 by omega)]; rfl
end Go.Proofs.Ytjbjjikdihghmaa.entry
namespace Go.Proofs.Ytjbjjikdihghmaa.entryReads
open Go Go.ChangeShapes Go.WideShapes Go.ChangeAt Go.RowKit Go.Proofs.Ytjbjjikdihghmaa.Bm Go.Proofs.Ytjbjjikdihghmaa.entry

theorem own : ownKnob Try.prog.godebug = none := by kernel_rfl
theorem laidOut : laidOutB Try.prog = true := by kernel_rfl
theorem readable : ((Try.f4.params.toList).all fun t => Try.prog.readableRec t && Nat.blt t Try.prog.types.size) = true := by kernel_rfl
theorem fits : argsIs Try.prog [.one (.sl shB)] Try.f4.params.toList = true := by kernel_rfl
set_option maxRecDepth 100000 in
theorem walk {H : Type} {enc : TypeId × Value → H} (W : World) (args : Array Value) (base : Nat) (ds : List (DataW H)) (p : List MemPlace) (hA : DataW.TrodAll enc Try.prog W 0 (fun _ => true) true Try.f4.params.toList args.toList ds p)
    (hval : ∀ (j : Nat) t v, Try.f4.params[j]? = some t → args[j]? = some v → Value.okWide Try.prog W .any base t v) : Calls Try.prog 4 args W fun e W' => e = .returned (.bool true) ∧ Below W.heap.size W W' := by
    obtain ⟨xs, os1, φ', hI, _, h3, h4⟩ := args_ok (base := base) (P := Try.prog) (fun _ => rfl) fits hA (fun j t v h1 h2 => hval j t v (by rw [← Array.getElem?_toList]; exact h1) (by rw [← Array.getElem?_toList]; exact h2)) (RO.nil W)
    obtain ⟨_, _, _, _, rfl, rfl, ⟨nlx0, x0, fx0, rfl, rfl, hnx0, hlx0, y0⟩, hI⟩ := hI
    obtain ⟨rfl, rfl⟩ := hI
    have hl := k4_true nlx0 x0 fx0 hnx0 (u8_ok y0)
    have := law_T q11 h4.rel h3 hl
    simpa using this
set_option maxRecDepth 100000 in
theorem lifted (os : Os) (started : os.Started) (H : Type) (enc : TypeId × Value → H) :
    ReturnsInHanded {} Try.checked os 4 .any (Rows.entryReadsSpec.pre6 enc Try.prog Try.f4 Rows.entryReadsRow.domain false) (Rows.entryReadsSpec.post enc Try.prog Try.f4 false true false false) := by
  refine returnsInHanded_of_change_sized (C := Try.checked) own started (by kernel_rfl) Try.func4
    (ChangeSpec.witness6 (enc := enc) (C := Try.checked) false ⟨#[], #[.slice none 0 0], []⟩ 8 (by kernel_rfl) (by kernel_rfl) (by kernel_rfl) (by kernel_rfl)) ?_
  intro W base args ds gs before hval0 hW hcnd hsz0 _
  have hW' := hW
  obtain ⟨p, q, hA0, hV, rfl, hfz, hnd⟩ := hW
  have hA : DataW.TrodAll enc Try.prog W 0 (fun _ => true) true Try.f4.params.toList args.toList ds p := hA0
  obtain ⟨rfl, rfl⟩ := trodVars_none hV
  obtain ⟨d1, rfl⟩ : ∃ d1, ds = [d1] := by
    have hA := hA
    obtain ⟨_, _, d1, ds1, _, _, _, rfl, _, _, hA⟩ := trodAll_cons hA
    obtain ⟨_, rfl, _⟩ := trodAll_nil hA
    exact ⟨d1, rfl⟩
  refine (walk W args base _ p hA hval0).mono fun e W' ⟨he, bel⟩ => ?_
  subst he
  exact ⟨_, rfl, _, _, _, [], _, [], hW', trodAll_mk1 (shut_bool Try.underlying4 _), trods_below (ts := []) laidOut bel readable hA, rfl, bel.frame _, fun h => by cases h⟩
theorem over : Rows.entryReadsRow.holds Try.pinned (OpenSpec.ofChange Rows.entryReadsSpec) :=
  OpenClaim.holds_of_wide 4 Try.f4 rfl rfl rfl rfl rfl rfl rfl ⟨rfl, rfl, rfl, rfl, rfl⟩ rfl rfl rfl rfl rfl (by kernel_rfl) Try.func4 (by kernel_rfl)
    (of_decide_eq_true (by kernel_rfl)) (by unfold Func.isWrapper; first | (rw [if_pos (by decide +kernel)]; kernel_rfl) | (rw [if_neg (by decide +kernel)]; exact ⟨rfl, rfl⟩))
    (fun os started H enc _ => lifted os started H enc)
theorem proved : Rows.EntryReadsSaid := over
#print axioms proved
end Go.Proofs.Ytjbjjikdihghmaa.entryReads
