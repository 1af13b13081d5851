/- Whether any config and any entry may be, what is looked behind at of it, and whether two are the same, or of the same request, is the document's: for every input the law returns true, and the input reads as it did. No condition. -/
import Derived.Test.YtjoojpnbhmhalabEtB
set_option linter.unusedSimpArgs false
set_option linter.unusedVariables false
namespace Go.Proofs.Ytjoojpnbhmhalab.entryTells
open Go Go.ChangeShapes Go.WideShapes Go.ChangeAt Go.RowKit Go.Proofs.Ytjoojpnbhmhalab.Bm
theorem r39_inv {A : Int → Int → Int → Int → Int → Bool} {c : CS} {r : CS} (h : (r39 A c).run = some r) : ∃ cl rq fr ct bl, c = a39 cl rq fr ct bl ∧ (r39B A cl rq fr ct bl).run = some r := by
  unfold r39 at h
  split at h
  · rename_i cl rq fr ct bl
    obtain ⟨hc, hb⟩ := chkT_run h
    exact ⟨cl, rq, fr, ct, bl, rfl, hb⟩
  · cases h
theorem r13_inv {A : Int → Int → Int → Int → Int → Bool} {c : CS} {r : Nat × CS} (h : (r13 A c).run = some r) : ∃ ix tm st kd cl rq fr ct d nd bh bl nl n f, c = c13 ix tm st kd cl rq fr ct d nd bh bl nl n f 0 ∧ (r13B A ix tm st kd cl rq fr ct d nd bh bl nl n f).run = some r := by
  unfold r13 at h
  split at h
  · rename_i nl n z_1 z_2 z_3 ix tm st kd cl rq fr ct d z_4 z_5 z_6 nd bh bl sh_7 z_8 f
    obtain ⟨hc, hb⟩ := chkT_run h
    have h0 := hc 0 _ rfl
    have h0 := of_decide_eq_true h0; subst h0
    have h1 := hc 1 _ rfl
    have h1 := of_decide_eq_true h1; subst h1
    have h2 := hc 2 _ rfl
    have h2 := of_decide_eq_true h2; subst h2
    have h3 := hc 3 _ rfl
    have h3 := of_decide_eq_true h3; subst h3
    have h4 := hc 4 _ rfl
    have h4 := of_decide_eq_true h4; subst h4
    have h5 := hc 5 _ rfl
    have h5 := of_decide_eq_true h5; subst h5
    have h6 := hc 6 _ rfl
    have h6 := (shBeq_eq h6).symm; subst h6
    have h7 := hc 7 _ rfl
    have h7 := of_decide_eq_true h7; subst h7
    exact ⟨ix, tm, st, kd, cl, rq, fr, ct, d, nd, bh, bl, nl, n, f, rfl, hb⟩
  · cases h
theorem r14_inv {A : Int → Int → Int → Int → Int → Bool} {c : CS} {r : Nat × CS} (h : (r14 A c).run = some r) : ∃ ix tm st kd cl rq fr ct d nd bh bl nl n f, c = c14 ix tm st kd cl rq fr ct d nd bh bl nl n f 0 ∧ (r14B A ix tm st kd cl rq fr ct d nd bh bl nl n f).run = some r := by
  unfold r14 at h
  split at h
  · rename_i z_1 ix tm st kd cl rq fr ct d nl n z_2 nd bh bl sh_3 z_4 f
    obtain ⟨hc, hb⟩ := chkT_run h
    have h0 := hc 0 _ rfl
    have h0 := of_decide_eq_true h0; subst h0
    have h1 := hc 1 _ rfl
    have h1 := of_decide_eq_true h1; subst h1
    have h2 := hc 2 _ rfl
    have h2 := (shBeq_eq h2).symm; subst h2
    have h3 := hc 3 _ rfl
    have h3 := of_decide_eq_true h3; subst h3
    exact ⟨ix, tm, st, kd, cl, rq, fr, ct, d, nd, bh, bl, nl, n, f, rfl, hb⟩
  · cases h
theorem r41_inv  {c : CS} {r : Nat × CS} (h : (r41  c).run = some r) : ∃ nl nl2 n m f g, c = c41 nl nl2 n m f g 0 ∧ (r41B  nl nl2 n m f g).run = some r := by
  unfold r41 at h
  split at h
  · rename_i nl n z_1 nl2 m z_2 z_3 z_4 sh_5 z_6 f sh_7 z_8 g
    obtain ⟨hc, hb⟩ := chkT_run h
    have h0 := hc 0 _ rfl
    have h0 := of_decide_eq_true h0; subst h0
    have h1 := hc 1 _ rfl
    have h1 := of_decide_eq_true h1; subst h1
    have h2 := hc 2 _ rfl
    have h2 := of_decide_eq_true h2; subst h2
    have h3 := hc 3 _ rfl
    have h3 := of_decide_eq_true h3; subst h3
    have h4 := hc 4 _ rfl
    have h4 := (shBeq_eq h4).symm; subst h4
    have h5 := hc 5 _ rfl
    have h5 := of_decide_eq_true h5; subst h5
    have h6 := hc 6 _ rfl
    have h6 := (shBeq_eq h6).symm; subst h6
    have h7 := hc 7 _ rfl
    have h7 := of_decide_eq_true h7; subst h7
    exact ⟨nl, nl2, n, m, f, g, rfl, hb⟩
  · cases h
theorem r18_inv  {c : CS} {r : Nat × CS} (h : (r18  c).run = some r) : ∃ ix tm st kd cl rq fr ct d ix2 tm2 st2 kd2 cl2 rq2 fr2 ct2 d2 nl nl2 n m f g, c = c18 ix tm st kd cl rq fr ct d ix2 tm2 st2 kd2 cl2 rq2 fr2 ct2 d2 nl nl2 n m f g 0 ∧ (r18B  ix tm st kd cl rq fr ct d ix2 tm2 st2 kd2 cl2 rq2 fr2 ct2 d2 nl nl2 n m f g).run = some r := by
  unfold r18 at h
  split at h
  · rename_i z_1 ix tm st kd cl rq fr ct d nl n z_2 ix2 tm2 st2 kd2 cl2 rq2 fr2 ct2 d2 nl2 m z_3 sh_4 z_5 f sh_6 z_7 g
    obtain ⟨hc, hb⟩ := chkT_run h
    have h0 := hc 0 _ rfl
    have h0 := of_decide_eq_true h0; subst h0
    have h1 := hc 1 _ rfl
    have h1 := of_decide_eq_true h1; subst h1
    have h2 := hc 2 _ rfl
    have h2 := of_decide_eq_true h2; subst h2
    have h3 := hc 3 _ rfl
    have h3 := (shBeq_eq h3).symm; subst h3
    have h4 := hc 4 _ rfl
    have h4 := of_decide_eq_true h4; subst h4
    have h5 := hc 5 _ rfl
    have h5 := (shBeq_eq h5).symm; subst h5
    have h6 := hc 6 _ rfl
    have h6 := of_decide_eq_true h6; subst h6
    exact ⟨ix, tm, st, kd, cl, rq, fr, ct, d, ix2, tm2, st2, kd2, cl2, rq2, fr2, ct2, d2, nl, nl2, n, m, f, g, rfl, hb⟩
  · cases h
theorem f11_inv  {c : CS} {r : CS} (h : (f11  c).run = some r) : ∃ nd bh bl, c = a11 nd bh bl ∧ (f11B  nd bh bl).run = some r := by
  unfold f11 at h
  split at h
  · rename_i nd bh bl
    obtain ⟨hc, hb⟩ := chkT_run h
    exact ⟨nd, bh, bl, rfl, hb⟩
  · cases h
theorem f12_inv  {c : CS} {r : CS} (h : (f12  c).run = some r) : ∃ nd bh bl, c = a11 nd bh bl ∧ (f12B  nd bh bl).run = some r := by
  unfold f12 at h
  split at h
  · rename_i nd bh bl
    obtain ⟨hc, hb⟩ := chkT_run h
    exact ⟨nd, bh, bl, rfl, hb⟩
  · cases h
theorem f13_inv  {c : CS} {r : CS} (h : (f13  c).run = some r) : ∃ ix tm st kd cl rq fr ct d nd bh bl nl n f, c = a13 ix tm st kd cl rq fr ct d nd bh bl nl n f ∧ (f13B  ix tm st kd cl rq fr ct d nd bh bl nl n f).run = some r := by
  unfold f13 at h
  split at h
  · rename_i ix tm st kd cl rq fr ct d nl n z_1 nd bh bl sh_2 z_3 f
    obtain ⟨hc, hb⟩ := chkT_run h
    have h0 := hc 0 _ rfl
    have h0 := of_decide_eq_true h0; subst h0
    have h1 := hc 1 _ rfl
    have h1 := (shBeq_eq h1).symm; subst h1
    have h2 := hc 2 _ rfl
    have h2 := of_decide_eq_true h2; subst h2
    exact ⟨ix, tm, st, kd, cl, rq, fr, ct, d, nd, bh, bl, nl, n, f, rfl, hb⟩
  · cases h
theorem f14_inv  {c : CS} {r : CS} (h : (f14  c).run = some r) : ∃ ix tm st kd cl rq fr ct d nd bh bl nl n f, c = a13 ix tm st kd cl rq fr ct d nd bh bl nl n f ∧ (f14B  ix tm st kd cl rq fr ct d nd bh bl nl n f).run = some r := by
  unfold f14 at h
  split at h
  · rename_i ix tm st kd cl rq fr ct d nl n z_1 nd bh bl sh_2 z_3 f
    obtain ⟨hc, hb⟩ := chkT_run h
    have h0 := hc 0 _ rfl
    have h0 := of_decide_eq_true h0; subst h0
    have h1 := hc 1 _ rfl
    have h1 := (shBeq_eq h1).symm; subst h1
    have h2 := hc 2 _ rfl
    have h2 := of_decide_eq_true h2; subst h2
    exact ⟨ix, tm, st, kd, cl, rq, fr, ct, d, nd, bh, bl, nl, n, f, rfl, hb⟩
  · cases h
theorem f17_inv  {c : CS} {r : CS} (h : (f17  c).run = some r) : ∃ ix tm st kd cl rq fr ct d ix2 tm2 st2 kd2 cl2 rq2 fr2 ct2 d2 nl nl2 n m f g, c = a17 ix tm st kd cl rq fr ct d ix2 tm2 st2 kd2 cl2 rq2 fr2 ct2 d2 nl nl2 n m f g ∧ (f17B  ix tm st kd cl rq fr ct d ix2 tm2 st2 kd2 cl2 rq2 fr2 ct2 d2 nl nl2 n m f g).run = some r := by
  unfold f17 at h
  split at h
  · rename_i ix tm st kd cl rq fr ct d nl n z_1 ix2 tm2 st2 kd2 cl2 rq2 fr2 ct2 d2 nl2 m z_2 sh_3 z_4 f sh_5 z_6 g
    obtain ⟨hc, hb⟩ := chkT_run h
    have h0 := hc 0 _ rfl
    have h0 := of_decide_eq_true h0; subst h0
    have h1 := hc 1 _ rfl
    have h1 := of_decide_eq_true h1; subst h1
    have h2 := hc 2 _ rfl
    have h2 := (shBeq_eq h2).symm; subst h2
    have h3 := hc 3 _ rfl
    have h3 := of_decide_eq_true h3; subst h3
    have h4 := hc 4 _ rfl
    have h4 := (shBeq_eq h4).symm; subst h4
    have h5 := hc 5 _ rfl
    have h5 := of_decide_eq_true h5; subst h5
    exact ⟨ix, tm, st, kd, cl, rq, fr, ct, d, ix2, tm2, st2, kd2, cl2, rq2, fr2, ct2, d2, nl, nl2, n, m, f, g, rfl, hb⟩
  · cases h
theorem f18_inv  {c : CS} {r : CS} (h : (f18  c).run = some r) : ∃ ix tm st kd cl rq fr ct d ix2 tm2 st2 kd2 cl2 rq2 fr2 ct2 d2 nl nl2 n m f g, c = a17 ix tm st kd cl rq fr ct d ix2 tm2 st2 kd2 cl2 rq2 fr2 ct2 d2 nl nl2 n m f g ∧ (f18B  ix tm st kd cl rq fr ct d ix2 tm2 st2 kd2 cl2 rq2 fr2 ct2 d2 nl nl2 n m f g).run = some r := by
  unfold f18 at h
  split at h
  · rename_i ix tm st kd cl rq fr ct d nl n z_1 ix2 tm2 st2 kd2 cl2 rq2 fr2 ct2 d2 nl2 m z_2 sh_3 z_4 f sh_5 z_6 g
    obtain ⟨hc, hb⟩ := chkT_run h
    have h0 := hc 0 _ rfl
    have h0 := of_decide_eq_true h0; subst h0
    have h1 := hc 1 _ rfl
    have h1 := of_decide_eq_true h1; subst h1
    have h2 := hc 2 _ rfl
    have h2 := (shBeq_eq h2).symm; subst h2
    have h3 := hc 3 _ rfl
    have h3 := of_decide_eq_true h3; subst h3
    have h4 := hc 4 _ rfl
    have h4 := (shBeq_eq h4).symm; subst h4
    have h5 := hc 5 _ rfl
    have h5 := of_decide_eq_true h5; subst h5
    exact ⟨ix, tm, st, kd, cl, rq, fr, ct, d, ix2, tm2, st2, kd2, cl2, rq2, fr2, ct2, d2, nl, nl2, n, m, f, g, rfl, hb⟩
  · cases h
theorem f19_inv  {c : CS} {r : CS} (h : (f19  c).run = some r) : ∃ ix tm st kd cl rq fr ct d ix2 tm2 st2 kd2 cl2 rq2 fr2 ct2 d2 nl nl2 n m f g, c = a17 ix tm st kd cl rq fr ct d ix2 tm2 st2 kd2 cl2 rq2 fr2 ct2 d2 nl nl2 n m f g ∧ (f19B  ix tm st kd cl rq fr ct d ix2 tm2 st2 kd2 cl2 rq2 fr2 ct2 d2 nl nl2 n m f g).run = some r := by
  unfold f19 at h
  split at h
  · rename_i ix tm st kd cl rq fr ct d nl n z_1 ix2 tm2 st2 kd2 cl2 rq2 fr2 ct2 d2 nl2 m z_2 sh_3 z_4 f sh_5 z_6 g
    obtain ⟨hc, hb⟩ := chkT_run h
    have h0 := hc 0 _ rfl
    have h0 := of_decide_eq_true h0; subst h0
    have h1 := hc 1 _ rfl
    have h1 := of_decide_eq_true h1; subst h1
    have h2 := hc 2 _ rfl
    have h2 := (shBeq_eq h2).symm; subst h2
    have h3 := hc 3 _ rfl
    have h3 := of_decide_eq_true h3; subst h3
    have h4 := hc 4 _ rfl
    have h4 := (shBeq_eq h4).symm; subst h4
    have h5 := hc 5 _ rfl
    have h5 := of_decide_eq_true h5; subst h5
    exact ⟨ix, tm, st, kd, cl, rq, fr, ct, d, ix2, tm2, st2, kd2, cl2, rq2, fr2, ct2, d2, nl, nl2, n, m, f, g, rfl, hb⟩
  · cases h
theorem f20_inv  {c : CS} {r : CS} (h : (f20  c).run = some r) : ∃ ix tm st kd cl rq fr ct d ix2 tm2 st2 kd2 cl2 rq2 fr2 ct2 d2 nl nl2 n m f g, c = a17 ix tm st kd cl rq fr ct d ix2 tm2 st2 kd2 cl2 rq2 fr2 ct2 d2 nl nl2 n m f g ∧ (f20B  ix tm st kd cl rq fr ct d ix2 tm2 st2 kd2 cl2 rq2 fr2 ct2 d2 nl nl2 n m f g).run = some r := by
  unfold f20 at h
  split at h
  · rename_i ix tm st kd cl rq fr ct d nl n z_1 ix2 tm2 st2 kd2 cl2 rq2 fr2 ct2 d2 nl2 m z_2 sh_3 z_4 f sh_5 z_6 g
    obtain ⟨hc, hb⟩ := chkT_run h
    have h0 := hc 0 _ rfl
    have h0 := of_decide_eq_true h0; subst h0
    have h1 := hc 1 _ rfl
    have h1 := of_decide_eq_true h1; subst h1
    have h2 := hc 2 _ rfl
    have h2 := (shBeq_eq h2).symm; subst h2
    have h3 := hc 3 _ rfl
    have h3 := of_decide_eq_true h3; subst h3
    have h4 := hc 4 _ rfl
    have h4 := (shBeq_eq h4).symm; subst h4
    have h5 := hc 5 _ rfl
    have h5 := of_decide_eq_true h5; subst h5
    exact ⟨ix, tm, st, kd, cl, rq, fr, ct, d, ix2, tm2, st2, kd2, cl2, rq2, fr2, ct2, d2, nl, nl2, n, m, f, g, rfl, hb⟩
  · cases h
theorem scan_run {α : Type} {b : Bool} {x y r : α} (h : (T.ask b (.ret x) (.ret y)).run = some r) : r = cond b x y := by
  simp only [T.run] at h
  cases b <;> simp only [cond_true, cond_false, Option.some.injEq] at h ⊢ <;> exact h.symm
theorem wi {i : Nat} (h : i < 1000000) : IntKind.wrap .i64 ((i : Int) + 1) = ((i + 1 : Nat) : Int) := by
  have := i64_small (m := i + 1) (by omega)
  simpa using this
theorem ix0 (i : Nat) : 0 + Int.toNat (i : Int) = i := by simp
theorem lt1 {i n : Nat} (h : i < n) : decide ((i : Int) < (n : Int)) = true := by simp [h]
theorem lt0 (n : Nat) : decide ((n : Int) < (n : Int)) = false := by simp
theorem blt1 {i n : Nat} (h : i < n) : Nat.blt i n = true := by rw [blt_iff]; simp [h]
theorem le_of {n m : Nat} (h : Nat.ble n m = true) : n ≤ m := Nat.le_of_ble_eq_true h
theorem g0 : Bm.Good Try.prog E0 := good0 (by kernel_rfl) (by kernel_rfl) (by kernel_rfl)
theorem g1 : Bm.Good Try.prog E1 := g0.bits
theorem g2 : Bm.Good Try.prog E2 := (g1.addR g1 (by kernel_rfl) (fun c c' h => by
    obtain ⟨cl, rq, fr, ct, bl, rfl, hb⟩ := r39_inv h
    simp only [r39B, T.run, Option.some.injEq] at hb; subst hb
    exact ⟨1000, .keep, [], k39_p, k39_S cl rq fr ct bl⟩)).addR g1 (by kernel_rfl) (fun c c' h => by
    obtain ⟨cl, rq, fr, ct, bl, rfl, hb⟩ := r39_inv h
    simp only [r39B, T.run, Option.some.injEq] at hb; subst hb
    exact ⟨1000, .keep, [], k40_p, k40_S cl rq fr ct bl⟩)
theorem i13 (c : CS) (r : Nat × CS) (h : (r13 askP c).run = some r) : ∃ n, iterC (stepC E2 300 (loopC E2 13 0) 0 h13 ((.normal, h13) :: x13) s13_p) n c = some r := by
  obtain ⟨ix, tm, st, kd, cl, rq, fr, ct, d, nd, bh, bl, nl, n, f, rfl, hb⟩ := r13_inv h
  obtain ⟨hn, hb2⟩ := chkT_run hb
  have hn := le_of (hn 0 _ rfl)
  rw [scan_run hb2]
  refine iter_scan (C := fun i => c13 ix tm st kd cl rq fr ct d nd bh bl nl n f i) (q := rowA askP f bl) (by simp) (by simp) (fun i hi => ?_) ?_
  · show s13 ix tm st kd cl rq fr ct d nd bh bl nl n f i s13_p = _
    rw [s13_eq]
    simp only [ix0, lt1 hi, blt1 hi, wi (i := i) (by omega), cond_true]
    change cond (rowZ f i) _ (cond (askP (f i 0).toI (f i 1).toI (f i 2).toI (f i 3).toI bl) _ _) = cond (cond (rowZ f i) true (askP (f i 0).toI (f i 1).toI (f i 2).toI (f i 3).toI bl)) _ _
    cases rowZ f i <;> cases askP (f i 0).toI (f i 1).toI (f i 2).toI (f i 3).toI bl <;> rfl
  · show s13 ix tm st kd cl rq fr ct d nd bh bl nl n f n s13_p = _
    rw [s13_eq]
    simp only [lt0, cond_false]
theorem g3 : Bm.Good Try.prog E3 := g2.addL (by kernel_rfl) rfl (by decide) (by decide) rfl i13
theorem i14 (c : CS) (r : Nat × CS) (h : (r14 askR c).run = some r) : ∃ n, iterC (stepC E3 300 (loopC E3 14 0) 0 h14 ((.normal, h14) :: x14) s14_p) n c = some r := by
  obtain ⟨ix, tm, st, kd, cl, rq, fr, ct, d, nd, bh, bl, nl, n, f, rfl, hb⟩ := r14_inv h
  obtain ⟨hn, hb2⟩ := chkT_run hb
  have hn := le_of (hn 0 _ rfl)
  rw [scan_run hb2]
  refine iter_scan (C := fun i => c14 ix tm st kd cl rq fr ct d nd bh bl nl n f i) (q := rowA askR f bl) (by simp) (by simp) (fun i hi => ?_) ?_
  · show s14 ix tm st kd cl rq fr ct d nd bh bl nl n f i s14_p = _
    rw [s14_eq]
    simp only [ix0, lt1 hi, blt1 hi, wi (i := i) (by omega), cond_true]
    change cond (rowZ f i) _ (cond (askR (f i 0).toI (f i 1).toI (f i 2).toI (f i 3).toI bl) _ _) = cond (cond (rowZ f i) true (askR (f i 0).toI (f i 1).toI (f i 2).toI (f i 3).toI bl)) _ _
    cases rowZ f i <;> cases askR (f i 0).toI (f i 1).toI (f i 2).toI (f i 3).toI bl <;> rfl
  · show s14 ix tm st kd cl rq fr ct d nd bh bl nl n f n s14_p = _
    rw [s14_eq]
    simp only [lt0, cond_false]
theorem g4 : Bm.Good Try.prog E4 := g3.addL (by kernel_rfl) rfl (by decide) (by decide) rfl i14
theorem ne_of {n m : Nat} (h : (!((n : Int) != (m : Int))) = true) : n = m := by
  simp only [bne, Bool.not_not, beq_iff_eq] at h
  omega
theorem i41 (c : CS) (r : Nat × CS) (h : (r41 c).run = some r) : ∃ n, iterC (stepC E4 300 (loopC E4 41 0) 0 h41 ((.normal, h41) :: x41) s41_p) n c = some r := by
  obtain ⟨nl, nl2, n, m, f, g, rfl, hb⟩ := r41_inv h
  obtain ⟨hn, hb2⟩ := chkT_run hb
  have hm := ne_of (hn 0 _ rfl)
  have hn := le_of (hn 1 _ rfl)
  subst hm
  rw [scan_run hb2]
  refine iter_scan (C := fun i => c41 nl nl2 n n f g i) (q := rowE f g) (by simp) (by simp) (fun i hi => ?_) ?_
  · show s41 nl nl2 n n f g i s41_p = _
    rw [s41_eq]
    simp only [ix0, lt1 hi, blt1 hi, wi (i := i) (by omega), cond_true]
    change cond (rowE f g i) _ _ = cond (rowE f g i) _ _
    cases rowE f g i <;> rfl
  · show s41 nl nl2 n n f g n s41_p = _
    rw [s41_eq]
    simp only [lt0, cond_false]
theorem g5 : Bm.Good Try.prog E5 := g4.addL (by kernel_rfl) rfl (by decide) (by decide) rfl i41
theorem i18 (c : CS) (r : Nat × CS) (h : (r18 c).run = some r) : ∃ n, iterC (stepC E5 300 (loopC E5 18 0) 0 h18 ((.normal, h18) :: x18) s18_p) n c = some r := by
  obtain ⟨ix, tm, st, kd, cl, rq, fr, ct, d, ix2, tm2, st2, kd2, cl2, rq2, fr2, ct2, d2, nl, nl2, n, m, f, g, rfl, hb⟩ := r18_inv h
  obtain ⟨hn, hb2⟩ := chkT_run hb
  have hm := ne_of (hn 0 _ rfl)
  have hn := le_of (hn 1 _ rfl)
  subst hm
  rw [scan_run hb2]
  refine iter_scan (C := fun i => c18 ix tm st kd cl rq fr ct d ix2 tm2 st2 kd2 cl2 rq2 fr2 ct2 d2 nl nl2 n n f g i) (q := rowE f g) (by simp) (by simp) (fun i hi => ?_) ?_
  · show s18 ix tm st kd cl rq fr ct d ix2 tm2 st2 kd2 cl2 rq2 fr2 ct2 d2 nl nl2 n n f g i s18_p = _
    rw [s18_eq]
    simp only [ix0, lt1 hi, blt1 hi, wi (i := i) (by omega), cond_true]
    change cond (rowE f g i) _ _ = cond (rowE f g i) _ _
    cases rowE f g i <;> rfl
  · show s18 ix tm st kd cl rq fr ct d ix2 tm2 st2 kd2 cl2 rq2 fr2 ct2 d2 nl nl2 n n f g n s18_p = _
    rw [s18_eq]
    simp only [lt0, cond_false]
theorem g6 : Bm.Good Try.prog E6 := g5.addL (by kernel_rfl) rfl (by decide) (by decide) rfl i18
set_option maxRecDepth 100000 in
theorem g7 : Bm.Good Try.prog E7 := by
  refine (((g6.addR g1 (by kernel_rfl) (fun c c' h => ?_)).addR g1 (by kernel_rfl) (fun c c' h => ?_)).addR g6 (by kernel_rfl) (fun c c' h => ?_)).addR g6 (by kernel_rfl) (fun c c' h => ?_)
  · obtain ⟨nd, bh, bl, rfl, hb⟩ := f11_inv h
    simp only [f11B, T.run, Option.some.injEq] at hb; subst hb
    exact ⟨1000, .keep, [], k11_p, k11_S nd bh bl⟩
  · obtain ⟨nd, bh, bl, rfl, hb⟩ := f12_inv h
    simp only [f12B, T.run, Option.some.injEq] at hb; subst hb
    exact ⟨1000, .keep, [], k12_p, k12_S nd bh bl⟩
  · obtain ⟨ix, tm, st, kd, cl, rq, fr, ct, d, nd, bh, bl, nl, n, f, rfl, hb⟩ := f13_inv h
    obtain ⟨hn, hb2⟩ := chkT_run hb
    simp only [T.run, Option.some.injEq] at hb2; subst hb2
    exact ⟨1000, .keep, [], k13_p, k13_S ix tm st kd cl rq fr ct d nd bh bl nl n f (hn 0 _ rfl)⟩
  · obtain ⟨ix, tm, st, kd, cl, rq, fr, ct, d, nd, bh, bl, nl, n, f, rfl, hb⟩ := f14_inv h
    obtain ⟨hn, hb2⟩ := chkT_run hb
    simp only [T.run, Option.some.injEq] at hb2; subst hb2
    exact ⟨1000, .keep, [], k14_p, k14_S ix tm st kd cl rq fr ct d nd bh bl nl n f (hn 0 _ rfl)⟩
set_option maxRecDepth 100000 in
theorem g8 : Bm.Good Try.prog E8 := by
  refine ((((g7.addR g6 (by kernel_rfl) (fun c c' h => ?_)).addR g6 (by kernel_rfl) (fun c c' h => ?_)).addR g6 (by kernel_rfl) (fun c c' h => ?_)).addR g6 (by kernel_rfl) (fun c c' h => ?_)).addF (lives_ok (m := 100000) g0 (by kernel_rfl))
  · obtain ⟨ix, tm, st, kd, cl, rq, fr, ct, d, ix2, tm2, st2, kd2, cl2, rq2, fr2, ct2, d2, nl, nl2, n, m, f, g, rfl, hb⟩ := f17_inv h
    obtain ⟨hn, hb2⟩ := chkT_run hb
    simp only [T.run, Option.some.injEq] at hb2; subst hb2
    exact ⟨1000, .keep, [], k17_p, k17_S ix tm st kd cl rq fr ct d ix2 tm2 st2 kd2 cl2 rq2 fr2 ct2 d2 nl nl2 n m f g (hn 0 _ rfl)⟩
  · obtain ⟨ix, tm, st, kd, cl, rq, fr, ct, d, ix2, tm2, st2, kd2, cl2, rq2, fr2, ct2, d2, nl, nl2, n, m, f, g, rfl, hb⟩ := f18_inv h
    obtain ⟨hn, hb2⟩ := chkT_run hb
    simp only [T.run, Option.some.injEq] at hb2; subst hb2
    exact ⟨1000, .keep, [], k18_p, k18_S ix tm st kd cl rq fr ct d ix2 tm2 st2 kd2 cl2 rq2 fr2 ct2 d2 nl nl2 n m f g (hn 0 _ rfl)⟩
  · obtain ⟨ix, tm, st, kd, cl, rq, fr, ct, d, ix2, tm2, st2, kd2, cl2, rq2, fr2, ct2, d2, nl, nl2, n, m, f, g, rfl, hb⟩ := f19_inv h
    simp only [f19B, T.run, Option.some.injEq] at hb; subst hb
    exact ⟨1000, .keep, [], k19_p, k19_S ix tm st kd cl rq fr ct d ix2 tm2 st2 kd2 cl2 rq2 fr2 ct2 d2 nl nl2 n m f g⟩
  · obtain ⟨ix, tm, st, kd, cl, rq, fr, ct, d, ix2, tm2, st2, kd2, cl2, rq2, fr2, ct2, d2, nl, nl2, n, m, f, g, rfl, hb⟩ := f20_inv h
    simp only [f20B, T.run, Option.some.injEq] at hb; subst hb
    exact ⟨1000, .keep, [], k20_p, k20_S ix tm st kd cl rq fr ct d ix2 tm2 st2 kd2 cl2 rq2 fr2 ct2 d2 nl nl2 n m f g⟩

/-! ### The same -/
theorem ask_eq : askP = askR := by
  funext cl rq fr ct bl
  unfold askP askR
  rw [show decide (rq > 0) = decide (rq ≥ 1) by rw [decide_eq_decide]; omega, show decide (ct > 0) = decide (ct ≥ 1) by rw [decide_eq_decide]; omega]
  cases decide (cl ≥ 1) <;> cases decide (cl ≤ 8) <;> cases decide (rq ≥ 1) <;> cases decide (ct ≤ 8) <;> cases decide (ct ≥ 1) <;> rfl
theorem fine_eq (nd bh bl : Int) : fineP nd bh bl = fineR nd bh bl := by
  unfold fineP fineR
  cases (nd == 3) <;> cases (nd == 5) <;> cases (nd == 7) <;> cases decide (bh ≥ 1) <;> cases decide (bh ≤ 64) <;> cases decide (bl ≥ 1) <;> rfl
theorem lt_not (a b : Int) : decide (a < b) = !decide (a ≥ b) := by
  by_cases h : a < b
  · rw [decide_eq_true h, decide_eq_false (by omega)]; rfl
  · rw [decide_eq_false h, decide_eq_true (by omega)]; rfl
theorem gt_not (a b : Int) : decide (a > b) = !decide (a ≤ b) := by
  by_cases h : a > b
  · rw [decide_eq_true h, decide_eq_false (by omega)]; rfl
  · rw [decide_eq_false h, decide_eq_true (by omega)]; rfl
theorem good_eq (ix tm st kd cl rq fr ct : Int) (d : List Nat) (nd bh bl : Int) (nl : Bool) (n : Nat) (f : Nat → Nat → AV) : goodP ix tm st kd cl rq fr ct d nd bh bl nl n f = goodR ix tm st kd cl rq fr ct d nd bh bl nl n f := by
  unfold goodP goodR
  rw [ask_eq]
  simp only [lt_not, gt_not, bne]
  generalize (cl == 0 && (rq == 0 && (fr == 0 && (ct == 0 && true) && true))) = z
  generalize (d == bytesOf { data := #[] }) = y
  generalize askR cl rq fr ct bl = x
  generalize allA askR f bl n = v
  generalize ((↑(List.length d) : Int) == IntKind.wrap IntKind.i64 (8 * IntKind.wrap IntKind.i64 ct)) = u
  generalize decide (IntKind.wrap IntKind.u64 (↑n : Int) ≥ ix) = s
  generalize decide ((n : Int) ≤ bh) = t
  cases decide (ix ≥ 1) <;> try rfl
  cases decide (ix ≤ 4611686018427387840) <;> try rfl
  cases decide (tm ≥ 1) <;> try rfl
  cases decide (tm ≤ 4611686018427387904) <;> try rfl
  cases decide (st ≥ 1) <;> try rfl
  cases decide (st ≤ 4611686018427387904) <;> try rfl
  by_cases h1 : kd = 1
  · subst h1
    cases t <;> cases s <;> cases v <;> cases x <;> cases u <;> rfl
  · have e1 : (kd == 1) = false := by simpa using h1
    rw [e1]
    cases (kd == 2) <;> cases t <;> cases s <;> cases v <;> cases z <;> cases y <;> rfl
theorem same_eq (ix tm st kd cl rq fr ct : Int) (d : List Nat) (ix2 tm2 st2 kd2 cl2 rq2 fr2 ct2 : Int) (d2 : List Nat) (nl nl2 : Bool) (n m : Nat) (f g : Nat → Nat → AV) :
    sameP ix tm st kd cl rq fr ct d ix2 tm2 st2 kd2 cl2 rq2 fr2 ct2 d2 nl nl2 n m f g = sameR ix tm st kd cl rq fr ct d ix2 tm2 st2 kd2 cl2 rq2 fr2 ct2 d2 nl nl2 n m f g := by
  unfold sameP sameR
  simp only [bne]
  generalize (cl == cl2 && (rq == rq2 && (fr == fr2 && (ct == ct2 && true) && true))) = z
  generalize (d == d2) = y
  generalize allE f g n = v
  generalize ((n : Int) == (m : Int)) = u
  cases (ix == ix2) <;> cases (tm == tm2) <;> cases (st == st2) <;> cases (kd == kd2) <;> cases z <;> cases y <;> cases v <;> cases u <;> rfl
theorem like_eq (ix tm st kd cl rq fr ct : Int) (d : List Nat) (ix2 tm2 st2 kd2 cl2 rq2 fr2 ct2 : Int) (d2 : List Nat) (nl nl2 : Bool) (n m : Nat) (f g : Nat → Nat → AV) :
    likeP ix tm st kd cl rq fr ct d ix2 tm2 st2 kd2 cl2 rq2 fr2 ct2 d2 nl nl2 n m f g = likeR ix tm st kd cl rq fr ct d ix2 tm2 st2 kd2 cl2 rq2 fr2 ct2 d2 nl nl2 n m f g := rfl
theorem same_self (ix tm st kd cl rq fr ct : Int) (d : List Nat) (nl nl2 : Bool) (n m : Nat) (f g : Nat → Nat → AV) (h : n = m) (hg : ∀ i, i < n → ∀ j, f i j = g i j) : sameR ix tm st kd cl rq fr ct d ix tm st kd cl rq fr ct d nl nl2 n m f g = true := by
  subst h
  have he : allE f g n = true := okFrom_iff.2 fun j hj => by
    rw [Nat.zero_add]
    simp only [rowE, hg j hj, beq_self_eq_true, Bool.and_self]
  simp only [sameR, beq_self_eq_true, bne_self_eq_false, Bool.and_self, cond_true, cond_false, he]
set_option maxRecDepth 100000 in
theorem k3_true (ix tm st kd cl rq fr ct : Int) (d : List Nat) (ix2 tm2 st2 kd2 cl2 rq2 fr2 ct2 : Int) (d2 : List Nat) (nd bh bl : Int) (nl nl2 : Bool) (n m : Nat) (f g : Nat → Nat → AV) (hnl : nl = true → n = 0) (hnl2 : nl2 = true → m = 0) :
    k3 ix tm st kd cl rq fr ct d ix2 tm2 st2 kd2 cl2 rq2 fr2 ct2 d2 nd bh bl nl nl2 n m f g k3_p = some true := by
  rw [k3_eq]
  by_cases h1 : (d.length : Int) ≤ 20000
  · by_cases h2 : (n : Int) ≤ 200
    · by_cases h3 : (d2.length : Int) ≤ 20000
      · by_cases h4 : (m : Int) ≤ 200
        · rw [decide_eq_true h1, decide_eq_true h2, decide_eq_true h3, decide_eq_true h4]
          have b1 : Nat.ble n 1000000 = true := Nat.ble_eq_true_of_le (by omega)
          have b2 : decide ((n : Int) ≤ 281474976710656) = true := decide_eq_true (by omega)
          have b3 : Nat.ble (24 * Int.toNat (n : Int)) 281474976710656 = true := Nat.ble_eq_true_of_le (by rw [Int.toNat_natCast]; omega)
          simp only [fine_eq, good_eq, same_eq, like_eq, beq_self_eq_true, b1, b2, b3, cond_true, Int.toNat_natCast, Nat.zero_add, ble_self]
          have z : ∀ x y : Nat → Nat → AV, sameR ix tm st 2 0 0 0 0 (bytesOf { data := #[] }) ix tm st 2 0 0 0 0 (bytesOf { data := #[] }) true true 0 0 x y = true := fun x y =>
            same_self ix tm st 2 0 0 0 0 _ true true 0 0 x y rfl (fun i hi => absurd hi (Nat.not_lt_zero _))
          cases nl with
          | true =>
            have := hnl rfl; subst this
            rw [z]
            simp only [cond_true]
            rw [same_self _ _ _ _ _ _ _ _ _ _ _ _ _ _ _ rfl (fun i hi => absurd hi (Nat.not_lt_zero _))]
            rfl
          | false =>
            rw [z]
            simp only [cond_true, cond_false]
            rw [same_self _ _ _ _ _ _ _ _ _ _ _ _ _ _ _ rfl (fun i hi j => by
              unfold fover
              have e1 : Nat.ble 0 i = true := by rw [ble_iff]; simp
              have e2 : Nat.blt i (0 + Nat.min n n) = true := by
                rw [blt_iff]
                have : Nat.min n n = n := Nat.min_self n
                rw [this]; simp [hi]
              rw [e1, e2]
              simp)]
            rw [Int.toNat_natCast] at b3
            rw [b3]
            rfl
        · rw [decide_eq_true h1, decide_eq_true h2, decide_eq_true h3, decide_eq_false h4]; rfl
      · rw [decide_eq_true h1, decide_eq_true h2, decide_eq_false h3]; rfl
    · rw [decide_eq_true h1, decide_eq_false h2]; rfl
  · rw [decide_eq_false h1]; rfl

theorem own : ownKnob Try.prog.godebug = none := by kernel_rfl
theorem laidOut : laidOutB Try.prog = true := by kernel_rfl
theorem readable : ((Try.f3.params.toList).all fun t => Try.prog.readableRec t && Nat.blt t Try.prog.types.size) = true := by kernel_rfl
theorem fits : argsIs Try.prog [.st [.one (.int .u64), .one (.int .u64), .one (.int .u64), .one (.int .i64), .one (.int .u64), .one (.int .u64), .one (.int .u32), .one (.int .u32), .one .str, .sl shL], .st [.one (.int .u64), .one (.int .u64), .one (.int .u64), .one (.int .i64), .one (.int .u64), .one (.int .u64), .one (.int .u32), .one (.int .u32), .one .str, .sl shL], .st [.one (.int .i64), .one (.int .i64), .one (.int .u32)]] Try.f3.params.toList = true := by kernel_rfl
set_option maxRecDepth 100000 in
theorem walk {H : Type} {enc : TypeId × Value → H} (W : World) (args : Array Value) (base : Nat) (ds : List (DataW H)) (p : List MemPlace) (hA : DataW.TrodAll enc Try.prog W 0 (fun _ => true) true Try.f3.params.toList args.toList ds p)
    (hval : ∀ (j : Nat) t v, Try.f3.params[j]? = some t → args[j]? = some v → Value.okWide Try.prog W .any base t v) : Calls Try.prog 3 args W fun e W' => e = .returned (.bool true) ∧ Below W.heap.size W W' := by
    obtain ⟨xs, os1, φ', hI, _, h3, h4⟩ := args_ok (base := base) (P := Try.prog) (fun _ => rfl) fits hA (fun j t v h1 h2 => hval j t v (by rw [← Array.getElem?_toList]; exact h1) (by rw [← Array.getElem?_toList]; exact h2)) (RO.nil W)
    obtain ⟨_, _, _, _, rfl, rfl, ⟨_, rfl, hs0⟩, hI⟩ := hI
    obtain ⟨_, _, _, _, rfl, rfl, ⟨⟨x0, rfl, y0⟩, rfl⟩, hs0⟩ := hs0
    obtain ⟨_, _, _, _, rfl, rfl, ⟨⟨x1, rfl, y1⟩, rfl⟩, hs0⟩ := hs0
    obtain ⟨_, _, _, _, rfl, rfl, ⟨⟨x2, rfl, y2⟩, rfl⟩, hs0⟩ := hs0
    obtain ⟨_, _, _, _, rfl, rfl, ⟨⟨x3, rfl, y3⟩, rfl⟩, hs0⟩ := hs0
    obtain ⟨_, _, _, _, rfl, rfl, ⟨⟨x4, rfl, y4⟩, rfl⟩, hs0⟩ := hs0
    obtain ⟨_, _, _, _, rfl, rfl, ⟨⟨x5, rfl, y5⟩, rfl⟩, hs0⟩ := hs0
    obtain ⟨_, _, _, _, rfl, rfl, ⟨⟨x6, rfl, y6⟩, rfl⟩, hs0⟩ := hs0
    obtain ⟨_, _, _, _, rfl, rfl, ⟨⟨x7, rfl, y7⟩, rfl⟩, hs0⟩ := hs0
    obtain ⟨_, _, _, _, rfl, rfl, ⟨⟨x8, rfl, y8⟩, rfl⟩, hs0⟩ := hs0
    obtain ⟨_, _, _, _, rfl, rfl, ⟨nlx9, x9, fx9, rfl, rfl, hnx9, hlx9, y9⟩, hs0⟩ := hs0
    obtain ⟨rfl, rfl⟩ := hs0
    obtain ⟨_, _, _, _, rfl, rfl, ⟨_, rfl, hs1⟩, hI⟩ := hI
    obtain ⟨_, _, _, _, rfl, rfl, ⟨⟨x10, rfl, y10⟩, rfl⟩, hs1⟩ := hs1
    obtain ⟨_, _, _, _, rfl, rfl, ⟨⟨x11, rfl, y11⟩, rfl⟩, hs1⟩ := hs1
    obtain ⟨_, _, _, _, rfl, rfl, ⟨⟨x12, rfl, y12⟩, rfl⟩, hs1⟩ := hs1
    obtain ⟨_, _, _, _, rfl, rfl, ⟨⟨x13, rfl, y13⟩, rfl⟩, hs1⟩ := hs1
    obtain ⟨_, _, _, _, rfl, rfl, ⟨⟨x14, rfl, y14⟩, rfl⟩, hs1⟩ := hs1
    obtain ⟨_, _, _, _, rfl, rfl, ⟨⟨x15, rfl, y15⟩, rfl⟩, hs1⟩ := hs1
    obtain ⟨_, _, _, _, rfl, rfl, ⟨⟨x16, rfl, y16⟩, rfl⟩, hs1⟩ := hs1
    obtain ⟨_, _, _, _, rfl, rfl, ⟨⟨x17, rfl, y17⟩, rfl⟩, hs1⟩ := hs1
    obtain ⟨_, _, _, _, rfl, rfl, ⟨⟨x18, rfl, y18⟩, rfl⟩, hs1⟩ := hs1
    obtain ⟨_, _, _, _, rfl, rfl, ⟨nlx19, x19, fx19, rfl, rfl, hnx19, hlx19, y19⟩, hs1⟩ := hs1
    obtain ⟨rfl, rfl⟩ := hs1
    obtain ⟨_, _, _, _, rfl, rfl, ⟨_, rfl, hs2⟩, hI⟩ := hI
    obtain ⟨_, _, _, _, rfl, rfl, ⟨⟨x20, rfl, y20⟩, rfl⟩, hs2⟩ := hs2
    obtain ⟨_, _, _, _, rfl, rfl, ⟨⟨x21, rfl, y21⟩, rfl⟩, hs2⟩ := hs2
    obtain ⟨_, _, _, _, rfl, rfl, ⟨⟨x22, rfl, y22⟩, rfl⟩, hs2⟩ := hs2
    obtain ⟨rfl, rfl⟩ := hs2
    obtain ⟨rfl, rfl⟩ := hI
    have hl := k3_true x0 x1 x2 x3 x4 x5 x6 x7 x8 x10 x11 x12 x13 x14 x15 x16 x17 x18 x20 x21 x22 nlx9 nlx19 x9 x19 fx9 fx19 hnx9 hnx19
    have := law_T g8 h4.rel h3 hl
    simpa using this
set_option maxRecDepth 100000 in
theorem lifted (os : Os) (started : os.Started) (H : Type) (enc : TypeId × Value → H) :
    ReturnsInHanded {} Try.checked os 3 .any (Rows.entryTellsSpec.pre6 enc Try.prog Try.f3 Rows.entryTellsRow.domain false) (Rows.entryTellsSpec.post enc Try.prog Try.f3 false true false false) := by
  refine returnsInHanded_of_change_sized (C := Try.checked) own started (by kernel_rfl) Try.func3
    (ChangeSpec.witness6 (enc := enc) (C := Try.checked) false ⟨#[], #[.agg #[.int .u64 0, .int .u64 0, .int .u64 0, .int .i64 0, .int .u64 0, .int .u64 0, .int .u32 0, .int .u32 0, .string ⟨#[]⟩, .slice none 0 0], .agg #[.int .u64 0, .int .u64 0, .int .u64 0, .int .i64 0, .int .u64 0, .int .u64 0, .int .u32 0, .int .u32 0, .string ⟨#[]⟩, .slice none 0 0], .agg #[.int .i64 0, .int .i64 0, .int .u32 0]], []⟩ 8 (by kernel_rfl) (by kernel_rfl) (by kernel_rfl) (by kernel_rfl)) ?_
  intro W base args ds gs before hval0 hW hcnd hsz0 _
  have hW' := hW
  obtain ⟨p, q, hA0, hV, rfl, hfz, hnd⟩ := hW
  have hA : DataW.TrodAll enc Try.prog W 0 (fun _ => true) true Try.f3.params.toList args.toList ds p := hA0
  obtain ⟨rfl, rfl⟩ := trodVars_none hV
  obtain ⟨d1, d2, d3, rfl⟩ : ∃ d1 d2 d3, ds = [d1, d2, d3] := by
    have hA := hA
    obtain ⟨_, _, d1, ds1, _, _, _, rfl, _, _, hA⟩ := trodAll_cons hA
    obtain ⟨_, _, d2, ds2, _, _, _, rfl, _, _, hA⟩ := trodAll_cons hA
    obtain ⟨_, _, d3, ds3, _, _, _, rfl, _, _, hA⟩ := trodAll_cons hA
    obtain ⟨_, rfl, _⟩ := trodAll_nil hA
    exact ⟨d1, d2, d3, rfl⟩
  refine (walk W args base _ p hA hval0).mono fun e W' ⟨he, bel⟩ => ?_
  subst he
  exact ⟨_, rfl, _, _, _, [], _, [], hW', trodAll_mk1 (shut_bool Try.underlying4 _), trods_below (ts := []) laidOut bel readable hA, rfl, bel.frame _, fun h => by cases h⟩
theorem over : Rows.entryTellsRow.holds Try.pinned (OpenSpec.ofChange Rows.entryTellsSpec) :=
  OpenClaim.holds_of_wide 3 Try.f3 rfl rfl rfl rfl rfl rfl rfl ⟨rfl, rfl, rfl, rfl, rfl⟩ rfl rfl rfl rfl rfl (by kernel_rfl) Try.func3 (by kernel_rfl)
    (of_decide_eq_true (by kernel_rfl)) (by unfold Func.isWrapper; first | (rw [if_pos (by decide +kernel)]; kernel_rfl) | (rw [if_neg (by decide +kernel)]; exact ⟨rfl, rfl⟩))
    (fun os started H enc _ => lifted os started H enc)
theorem proved : Rows.EntryTellsSaid := over
#print axioms proved
end Go.Proofs.Ytjoojpnbhmhalab.entryTells
namespace Go.Proofs.Ytjoojpnbhmhalab
/-- The row, under a short name, for the claim. -/
theorem entryTells_holds : Rows.EntryTellsSaid := entryTells.proved
end Go.Proofs.Ytjoojpnbhmhalab
