/- Part 2 of the texts that YtmjmhpbncfjnpaaLawLess needs: an abstract machine, and what it reckons. No condition. -/
import Derived.Test.YtmjmhpbncfjnpaaRows
import Derived.Test.YtmjmhpbncfjnpaaBmVq
import Derived.KernelRfl
import Derived.Test.YtmjmhpbncfjnpaaSlA
section
set_option linter.unusedSimpArgs false
set_option linter.unusedVariables false
set_option maxRecDepth 20000
namespace Go.Proofs.Ytmjmhpbncfjnpaa.history
open Go Go.RowKit Go.Proofs.Ytmjmhpbncfjnpaa.Bm
theorem r7_inv  {c : CS} {r : Nat × CS} (h : (r7  c).run = some r) : ∃ nl n f, c = c7 nl n f 0 ∧ (r7B  nl n f).run = some r := by
 unfold r7 at h
 split at h
 ·rename_i nl n z_1 z_2 z_3 z_4 z_5 z_6 sh_7 z_8 f
  obtain ⟨hc, hb⟩ := chkT_run h
  have h0 := hc 0 _ rfl
  have h0 := of_decide_eq_true h0; subst h0
  have h1 := hc 1 _ rfl
  have h1 := of_decide_eq_true h1; subst h1
  have h2 := hc 2 _ rfl
  have h2 := of_decide_eq_true h2; subst h2
  have h3 := hc 3 _ rfl
  have h3 := of_decide_eq_true h3; subst h3
  have h4 := hc 4 _ rfl
  have h4 := of_decide_eq_true h4; subst h4
  have h5 := hc 5 _ rfl
  have h5 := of_decide_eq_true h5; subst h5
  have h6 := hc 6 _ rfl
  have h6 := (shBeq_eq h6).symm; subst h6
  have h7 := hc 7 _ rfl
  have h7 := of_decide_eq_true h7; subst h7
  exact ⟨nl, n, f, rfl, hb⟩
 ·cases h
theorem f7_inv  {c : CS} {r : CS} (h : (f7  c).run = some r) : ∃ nl n f, c = a7 nl n f ∧ (f7B  nl n f).run = some r := by
 unfold f7 at h
 split at h
 ·rename_i nl n z_1 sh_2 z_3 f
  obtain ⟨hc, hb⟩ := chkT_run h
  have h0 := hc 0 _ rfl
  have h0 := of_decide_eq_true h0; subst h0
  have h1 := hc 1 _ rfl
  have h1 := (shBeq_eq h1).symm; subst h1
  have h2 := hc 2 _ rfl
  have h2 := of_decide_eq_true h2; subst h2
  exact ⟨nl, n, f, rfl, hb⟩
 ·cases h
theorem r9_inv  {c : CS} {r : Nat × CS} (h : (r9  c).run = some r) : ∃ bl nl n f, c = c9 bl nl n f 0 ∧ (r9B  bl nl n f).run = some r := by
 unfold r9 at h
 split at h
 ·rename_i bl nl n z_1 z_2 z_3 sh_4 z_5 f
  obtain ⟨hc, hb⟩ := chkT_run h
  have h0 := hc 0 _ rfl
  have h0 := of_decide_eq_true h0; subst h0
  have h1 := hc 1 _ rfl
  have h1 := of_decide_eq_true h1; subst h1
  have h2 := hc 2 _ rfl
  have h2 := of_decide_eq_true h2; subst h2
  have h3 := hc 3 _ rfl
  have h3 := (shBeq_eq h3).symm; subst h3
  have h4 := hc 4 _ rfl
  have h4 := of_decide_eq_true h4; subst h4
  exact ⟨bl, nl, n, f, rfl, hb⟩
 ·cases h
theorem r10_inv  {c : CS} {r : Nat × CS} (h : (r10  c).run = some r) : ∃ nl n f bl, c = c10 nl n f bl 0 ∧ (r10B  nl n f bl).run = some r := by
 unfold r10 at h
 split at h
 ·rename_i nl n z_1 bl z_2 sh_3 z_4 f
  obtain ⟨hc, hb⟩ := chkT_run h
  have h0 := hc 0 _ rfl
  have h0 := of_decide_eq_true h0; subst h0
  have h1 := hc 1 _ rfl
  have h1 := of_decide_eq_true h1; subst h1
  have h2 := hc 2 _ rfl
  have h2 := (shBeq_eq h2).symm; subst h2
  have h3 := hc 3 _ rfl
  have h3 := of_decide_eq_true h3; subst h3
  exact ⟨nl, n, f, bl, rfl, hb⟩
 ·cases h
theorem f9_inv  {c : CS} {r : CS} (h : (f9  c).run = some r) : ∃ nl n f bl, c = a9 nl n f bl ∧ (f9B  nl n f bl).run = some r := by
 unfold f9 at h
 split at h
 ·rename_i nl n z_1 bl sh_2 z_3 f
  obtain ⟨hc, hb⟩ := chkT_run h
  have h0 := hc 0 _ rfl
  have h0 := of_decide_eq_true h0; subst h0
  have h1 := hc 1 _ rfl
  have h1 := (shBeq_eq h1).symm; subst h1
  have h2 := hc 2 _ rfl
  have h2 := of_decide_eq_true h2; subst h2
  exact ⟨nl, n, f, bl, rfl, hb⟩
 ·cases h
theorem r11_inv  {c : CS} {r : Nat × CS} (h : (r11  c).run = some r) : ∃ nl n f, c = c11 0 nl n f 0 ∧ (r11B  nl n f).run = some r := by
 unfold r11 at h
 split at h
 ·rename_i z_1 nl n z_2 z_3 z_4 sh_5 z_6 f
  obtain ⟨hc, hb⟩ := chkT_run h
  have h0 := hc 0 _ rfl
  have h0 := of_decide_eq_true h0; subst h0
  have h1 := hc 1 _ rfl
  have h1 := of_decide_eq_true h1; subst h1
  have h2 := hc 2 _ rfl
  have h2 := of_decide_eq_true h2; subst h2
  have h3 := hc 3 _ rfl
  have h3 := of_decide_eq_true h3; subst h3
  have h4 := hc 4 _ rfl
  have h4 := (shBeq_eq h4).symm; subst h4
  have h5 := hc 5 _ rfl
  have h5 := of_decide_eq_true h5; subst h5
  exact ⟨nl, n, f, rfl, hb⟩
 ·cases h
theorem f11_inv  {c : CS} {r : CS} (h : (f11  c).run = some r) : ∃ nl n f, c = a7 nl n f ∧ (f11B  nl n f).run = some r := by
 unfold f11 at h
 split at h
 ·rename_i nl n z_1 sh_2 z_3 f
  obtain ⟨hc, hb⟩ := chkT_run h
  have h0 := hc 0 _ rfl
  have h0 := of_decide_eq_true h0; subst h0
  have h1 := hc 1 _ rfl
  have h1 := (shBeq_eq h1).symm; subst h1
  have h2 := hc 2 _ rfl
  have h2 := of_decide_eq_true h2; subst h2
  exact ⟨nl, n, f, rfl, hb⟩
 ·cases h
theorem j18m (c c' : CS) (h : (f18m c).run = some c') : CallC Try.prog 18 1 c c' := by
 unfold f18m at h
 split at h
 ·exact (j18 16 (qEr 16) _ _ h).pre (Seen.mk' (SeenVs.refl _) (SeenOs.same (SeenOs.same (.cons (SeenO.omap0 fun _ => rfl) (SeenOs.refl _)))))
 ·exact j18 16 (qEr 16) _ _ h
theorem qE4 : Bm.Good Try.prog E4 := q3.addC (by kernel_rfl) j18m
theorem rngA_at {f : Nat → Nat → AV} {n i : Nat} (h : rngV f n = true) (hi : i < n) : ∃ a b : Nat, (f i 2).toI = (a : Int) ∧ (f i 3).toI = (b : Int) ∧ a < 4294967296 ∧ b < 4294967296 := by
 rw [rngV_eq] at h
 have := okFrom_iff.1 h i hi
 rw [Nat.zero_add] at this
 have this : (decide (0 ≤ (f i 2).toI) && decide ((f i 2).toI < 4294967296) && decide (0 ≤ (f i 3).toI) && decide ((f i 3).toI < 4294967296)) = true := this
 simp only [Bool.and_eq_true, decide_eq_true_eq] at this
 obtain ⟨a, ha⟩ := Int.eq_ofNat_of_zero_le this.1.1.1
 obtain ⟨b, hb⟩ := Int.eq_ofNat_of_zero_le this.1.2
 exact ⟨a, b, ha, hb, by omega, by omega⟩
theorem i7 (c : CS) (r : Nat × CS) (h : (r7 c).run = some r) : ∃ it, iterC (stepC E4 400 (loopC E4 7 0) 0 h7 ((.normal, h7) :: x7) s7_p) it c = some r := by
 obtain ⟨nl, n, f, rfl, hb⟩ := r7_inv h
 obtain ⟨hn, hb2⟩ := chkT_run hb
 have hn := hn 0 _ rfl
 rw [okNV_eq] at hn
 have hn := of_decide_eq_true hn
 have hr := ask_scan hb2; subst hr
 rw [okLV_eq]
 refine iter_scan (C := fun i => c7 nl n f i) (q := fun i => !(decide (((AV.toS (f i 4)).length : Int) > 1000))) (by simp) (by simp) (fun i hi => ?_) ?_
 ·have e := s7_eq nl n f i
  rw [lt1 hi, ix_, blt_t hi, wi1 hi hn] at e
  refine Eq.trans e ?_
  cases decide (((AV.toS (f i 4)).length : Int) > 1000) <;> rfl
 ·have e := s7_eq nl n f n
  rw [lt0] at e
  exact e
theorem qE5 : Bm.Good Try.prog E5 := qE4.addL (by kernel_rfl) rfl (by decide) (by decide) rfl i7
theorem j7 (c c' : CS) (h : (f7 c).run = some c') : ∃ m pr ros π, callC E5 m 7 0 pr ros π c = some c' := by
 obtain ⟨nl, n, f, rfl, hb⟩ := f7_inv h
 obtain ⟨hn, hb2⟩ := chkT_run hb
 have e := k7_eq nl n f
 rw [hn 0 _ rfl] at e
 refine ⟨1500, .keep, [], k7_p, e.trans ?_⟩
 rw [← hb2]
 cases okLV f n <;> rfl
theorem qE6 : Bm.Good Try.prog E6 := qE5.addR qE5 (by kernel_rfl) j7
theorem good_eq {f : Nat → Nat → AV} {i a b bl : Nat} (ha : (f i 2).toI = (a : Int)) (hb : (f i 3).toI = (b : Int)) : goodO (bl : Int) (opAt f i) = (!(decide ((b : Int) < 1)) && !(decide ((a : Int) + (b : Int) > (bl : Int))) && !(decide ((f i 5).toI < 0)) && !((f i 6).toI != 0 && decide ((f i 6).toI ≤ (f i 5).toI)) && !(((f i 1).toB || (f i 6).toI != 0) && (((f i 4).toS.length : Int) != 8 * (b : Int)))) := by
 rw [← ha, ← hb]; rfl
theorem i9 (c : CS) (r : Nat × CS) (h : (r9 c).run = some r) : ∃ it, iterC (stepC E6 400 (loopC E6 9 0) 0 h9 ((.normal, h9) :: x9) s9_p) it c = some r := by
 obtain ⟨bl, nl, n, f, rfl, hb⟩ := r9_inv h
 obtain ⟨hn, hb2⟩ := chkT_run hb
 have hr := hn 1 _ rfl
 have h1 := not_lt (hn 2 _ rfl)
 have h2 := not_gt (hn 3 _ rfl)
 have hn := le_of (hn 0 _ rfl)
 obtain ⟨z, rfl⟩ := Int.eq_ofNat_of_zero_le (show 0 ≤ bl by omega)
 have hr2 := ask_scan hb2; subst hr2
 rw [okGV_eq]
 refine iter_scan (C := fun i => c9 (z : Int) nl n f i) (q := fun i => goodO (z : Int) (opAt f i)) (by simp) (by simp) (fun i hi => ?_) ?_
 ·obtain ⟨a, b, ha, hb, la, lb⟩ := rngA_at hr hi
  have e := s9_eq (z : Int) nl n f i
  rw [lt1 hi, ix_, blt_t hi, wrap_i64s (by omega), ha, hb, wu (a := a) (by omega), wu (a := b) (by omega), wu (a := z) (by omega), wadu (a := a) (b := b) (by omega), wi (a := b) (by omega), w8 (a := b) (by omega)] at e
  refine Eq.trans e ?_
  rw [good_eq ha hb, show decide ((b : Int) > 0) = !(decide ((b : Int) < 1)) from by by_cases h : (b : Int) < 1 <;> simp [h] <;> omega,
   show decide (((a + b : Nat) : Int) ≤ (z : Int)) = !(decide ((a : Int) + (b : Int) > (z : Int))) from by by_cases h : (a : Int) + (b : Int) > (z : Int) <;> simp [h] <;> omega,
   show ((8 * b : Nat) : Int) = 8 * (b : Int) from by simp]
  cases (f i 1).toB <;> cases decide ((b : Int) < 1) <;> cases decide ((a : Int) + (b : Int) > (z : Int)) <;> cases decide ((f i 5).toI < 0) <;> cases ((f i 6).toI != 0) <;> cases decide ((f i 6).toI ≤ (f i 5).toI) <;> cases (((f i 4).toS.length : Int) != 8 * (b : Int)) <;> rfl
 ·have e := s9_eq (z : Int) nl n f n
  rw [lt0] at e
  exact e
theorem qE7 : Bm.Good Try.prog E7 := qE6.addL (by kernel_rfl) rfl (by decide) (by decide) rfl i9
theorem i10 (c : CS) (r : Nat × CS) (h : (r10 c).run = some r) : ∃ it, iterC (stepC E7 400 (loopC E7 10 0) 0 h10 ((.normal, h10) :: x10) s10_p) it c = some r := by
 obtain ⟨nl, n, f, bl, rfl, hb⟩ := r10_inv h
 obtain ⟨hn, hb2⟩ := chkT_run hb
 have hr := hn 1 _ rfl
 have h1 := not_lt (hn 2 _ rfl)
 have h2 := not_gt (hn 3 _ rfl)
 have hn := le_of (hn 0 _ rfl)
 obtain ⟨z, rfl⟩ := Int.eq_ofNat_of_zero_le (show 0 ≤ bl by omega)
 have hr2 := ask_scan hb2; subst hr2
 rw [okGV_eq]
 refine iter_scan (C := fun i => c10 nl n f (z : Int) i) (q := fun i => goodO (z : Int) (opAt f i)) (by simp) (by simp) (fun i hi => ?_) ?_
 ·obtain ⟨a, b, ha, hb, la, lb⟩ := rngA_at hr hi
  have e := s10_eq nl n f (z : Int) i
  rw [lt1 hi, ix_, blt_t hi, wrap_i64s (by omega), ha, hb, wu (a := a) (by omega), wu (a := b) (by omega), wu (a := z) (by omega), wadu (a := a) (b := b) (by omega), wi (a := b) (by omega), w8 (a := b) (by omega)] at e
  refine Eq.trans e ?_
  rw [good_eq ha hb, show decide (((a + b : Nat) : Int) > (z : Int)) = decide ((a : Int) + (b : Int) > (z : Int)) from by rw [decide_eq_decide]; omega,
   show ((8 * b : Nat) : Int) = 8 * (b : Int) from by simp]
  cases (f i 1).toB <;> cases decide ((b : Int) < 1) <;> cases decide ((a : Int) + (b : Int) > (z : Int)) <;> cases decide ((f i 5).toI < 0) <;> cases ((f i 6).toI != 0) <;> cases decide ((f i 6).toI ≤ (f i 5).toI) <;> cases (((f i 4).toS.length : Int) != 8 * (b : Int)) <;> rfl
 ·have e := s10_eq nl n f (z : Int) n
  rw [lt0] at e
  exact e
theorem qE8 : Bm.Good Try.prog E8 := qE7.addL (by kernel_rfl) rfl (by decide) (by decide) rfl i10
theorem jG {k : Nat} {π : Plan} (hk : ∀ nl n f bl, callC E8 1500 k 0 .keep [] π (a9 nl n f bl) = cond (decide ((n : Int) > 16)) (some (CS.mk [.bool false] [])) (cond (decide (bl < 1)) (some (CS.mk [.bool false] [])) (cond (decide (bl > 64)) (some (CS.mk [.bool false] [])) (cond (Nat.ble n 1000) (cond (rngV f n) (cond (okGV bl f n) (some (CS.mk [.bool true] [])) (some (CS.mk [.bool false] []))) none) none)))) (c c' : CS) (h : (f9 c).run = some c') : ∃ m pr ros π, callC E8 m k 0 pr ros π c = some c' := by
 obtain ⟨nl, n, f, bl, rfl, hb⟩ := f9_inv h
 obtain ⟨hn, hb2⟩ := chkT_run hb
 have e := hk nl n f bl
 rw [hn 0 _ rfl, okGV_eq] at e
 refine ⟨1500, .keep, [], π, e.trans ?_⟩
 rw [← hb2, gV_eq]
 unfold gF
 by_cases h1 : (n : Int) > 16
 ·rw [decide_eq_true h1]; rfl
 ·rw [decide_eq_false h1, ble_t (show n ≤ 1000 by omega)]
  cases decide (bl < 1) <;> cases decide (bl > 64) <;> cases okG bl f n <;> rfl
theorem qE9 : Bm.Good Try.prog E9 := (qE8.addR qE8 (by kernel_rfl) (jG k9_eq)).addR qE8 (by kernel_rfl) (jG k10_eq)
theorem cntW_le (f : Nat → Nat → AV) : ∀ i, cntW f i ≤ i
 | 0 => Nat.le_refl _
 | i + 1 => by
   have := cntW_le f i
   simp only [cntW]
   cases ((f i 1).toB && !((f i 7).toB)) <;> simp <;> omega
theorem i11 (c : CS) (r : Nat × CS) (h : (r11 c).run = some r) : Loops (stepC E9 400 (loopC E9 11 0) 0 h11 ((.normal, h11) :: x11) s11_p) c r.1 r.2 := by
 obtain ⟨nl, n, f, rfl, hb⟩ := r11_inv h
 obtain ⟨hn, hb2⟩ := chkT_run hb
 have hn := le_of (hn 0 _ rfl)
 clear h hb
 rw [cntV_eq] at hb2
 simp only [T.run, Option.some.injEq] at hb2; subst hb2
 refine Loops.for (C := fun i => c11 (cntW f i) nl n f i) (n := n) (k := 0) (fun i hi => ?_) ⟨_, ?_, Seen.refl _⟩
 ·have hc := cntW_le f i
  have e := s11_eq (cntW f i) nl n f i
  rw [lt1 hi, ix_, blt_t hi, wrap_i64s (by omega), wrap_i64s (by omega)] at e
  simp only [cntW]
  cases hw : (f i 1).toB <;> cases hv : (f i 7).toB <;> rw [hw, hv] at e <;> exact ⟨_, e, Seen.refl _⟩
 ·have e := s11_eq (cntW f n) nl n f n
  rw [lt0] at e
  exact e
theorem qEA : Bm.Good Try.prog EA := qE9.addS (by kernel_rfl) rfl (by decide) (by decide) rfl i11
theorem j11 (c c' : CS) (h : (f11 c).run = some c') : ∃ m pr ros π, callC EA m 11 0 pr ros π c = some c' := by
 obtain ⟨nl, n, f, rfl, hb⟩ := f11_inv h
 obtain ⟨hn, hb2⟩ := chkT_run hb
 have e := k11_eq nl n f
 rw [hn 0 _ rfl] at e
 exact ⟨1500, .keep, [], k11_p, e.trans hb2⟩
theorem qEB : Bm.Good Try.prog EB := qEA.addR qEA (by kernel_rfl) j11
end Go.Proofs.Ytmjmhpbncfjnpaa.history
end
section
set_option linter.unusedSimpArgs false
set_option linter.unusedVariables false
set_option maxRecDepth 20000
namespace Go.Proofs.Ytmjmhpbncfjnpaa.history
open Go Go.RowKit Go.Proofs.Ytmjmhpbncfjnpaa.Bm
def i12 (bl : Int) (nl : Bool) (n : Nat) (f : Nat → Nat → AV) (g : Nat → Nat → AV) (zc : Nat) : CS :=
 ⟨[.int .u32 bl, .ptr 0 0, .osl nl 1 0 n n 8 true, .int .i64 (n : Nat), .int .i64 0], [some (.cells [.osl true 2 0 0 0 8 true, .int .u32 0, .map 3] true), some (.tarr shO n f false), some (.tarr shO 0 g true), some (.map [] zc)]⟩
noncomputable def r12B  (bl : Int) (nl : Bool) (n : Nat) (f : Nat → Nat → AV) (g : Nat → Nat → AV) (zc : Nat) : T (Nat × CS) :=
 chkT [Nat.ble n 16] (.ask (Nat.beq (filtV f n).length 0) (.ret (1, ⟨[.int .u32 bl, .ptr 0 0], [some (.cells [.osl true 1 0 0 0 8 true, .int .u32 (mustV f n : Nat), .map 2] true), some (.tarr shO 0 (fun _ _ => .bad) true), some (.map [] zc)]⟩)) (.ret (1, ⟨[.int .u32 bl, .ptr 0 0], [some (.cells [.osl false 1 0 (filtV f n).length (filtV f n).length 8 true, .int .u32 (mustV f n : Nat), .map 2] true), some (.tarr shO (filtV f n).length (finO (filtV f n)) true), some (.map [] zc)]⟩)))
noncomputable def r12  (c : CS) : T (Nat × CS) := match c with
 | ⟨[.int .u32 bl, .ptr 0 0, .osl nl 1 0 n z_1 8 true, .int .i64 z_2, .int .i64 z_3], [some (.cells [.osl z_4 2 0 z_5 z_6 8 true, .int .u32 z_7, .map 3] true), some (.tarr sh_8 z_9 f false), some (.tarr sh_10 z_11 g true), some (.map [] zc)]⟩ => chkT [decide (n = z_1), decide ((n : Nat) = z_2), decide (0 = z_3), decide (true = z_4), decide (0 = z_5), decide (0 = z_6), decide (0 = z_7), shBeq sh_8 shO, decide (n = z_9), shBeq sh_10 shO, decide (0 = z_11)] (r12B  bl nl n f g zc)
 | _ => .fail
noncomputable def EC : Env := addL EB 12 0 1000006 h12 x12 0 r12
noncomputable def f12B  (nl : Bool) (n : Nat) (f : Nat → Nat → AV) (bl : Int) : T (CS) :=
 chkT [rngV f n] (.ret ⟨[.bool (checkV bl f n)], []⟩)
noncomputable def f12  (c : CS) : T (CS) := match c with
 | ⟨[.osl nl 0 0 n z_1 8 true, .int .u32 bl], [some (.tarr sh_2 z_3 f false)]⟩ => chkT [decide (n = z_1), shBeq sh_2 shO, decide (n = z_3)] (f12B  nl n f bl)
 | _ => .fail
noncomputable def ED : Env := addF EC 12 ⟨frRun [.asl shO, .keep] [] f12⟩
noncomputable def k12 (nl : Bool) (n : Nat) (f : Nat → Nat → AV) (bl : Int) (π : Plan) : Option CS := callC (EC) (1500) (12) (0) (.keep) ([]) π (a9 nl n f bl)
def k12_p : Plan := (.must true (.reck 1 (.must true (.fork (.fork .stop (.must true (.must true (.reck 6 (.must true (.reck 2 (.fork (.fork (.reck 1 (.fork (.must true (.fork (.fork (.fork (.fork (.reck 7 (.fork (.reck 2 (.fork (.reck 1 (.fork .stop .stop)) .stop)) .stop)) .stop) .stop) .stop) .stop)) .stop)) (.reck 1 (.fork (.must true (.fork (.fork (.fork (.fork (.must true (.reck 1 (.must true (.reck 3 (.fork (.fork (.reck 2 (.fork (.reck 1 (.fork .stop .stop)) .stop)) .stop) .stop))))) .stop) .stop) .stop) .stop)) .stop))) .stop))))))) .stop))))
theorem k12_is (nl : Bool) (n : Nat) (f : Nat → Nat → AV) (bl : Int) : k12 nl n f bl k12_p = (cond (decide (n = n)) (cond (decide (n = n)) (cond ((rngV f (n)))
 (cond (!gV bl f n)
 (some (CS.mk [(AV.bool (false))] []))
 (cond (decide (n = n)) (cond (decide ((↑n : Int) = (↑n : Int))) (cond (decide (n = n)) (cond (Nat.ble n 16)
 (cond (Nat.beq (List.length (filtV f n)) 0)
 (cond (decide (0 ≤ IntKind.wrap IntKind.i64 (IntKind.wrap IntKind.i64 bl * 8)))
 (cond (decide (IntKind.wrap IntKind.i64 (IntKind.wrap IntKind.i64 bl * 8) ≤ IntKind.wrap IntKind.i64 (IntKind.wrap IntKind.i64 bl * 8))) (cond (decide (IntKind.wrap IntKind.i64 (IntKind.wrap IntKind.i64 bl * 8) ≤ 281474976710656))
 (cond (Nat.ble (1 * Int.toNat (IntKind.wrap IntKind.i64 (IntKind.wrap IntKind.i64 bl * 8))) 281474976710656)
 (cond (Nat.ble (0 + Int.toNat (IntKind.wrap IntKind.i64 (IntKind.wrap IntKind.i64 bl * 8))) (Int.toNat (IntKind.wrap IntKind.i64 (IntKind.wrap IntKind.i64 bl * 8))))
 (cond (List.all (List.range (Int.toNat (IntKind.wrap IntKind.i64 (IntKind.wrap IntKind.i64 bl * 8)))) fun i => decide (0 ≤ byteAt (fun x j => getAt [AV.int IntKind.u8 (Int.ofNat 0)] j) (0 + i)) && decide (byteAt (fun x j => getAt [AV.int IntKind.u8 (Int.ofNat 0)] j) (0 + i) < 256))
 (cond (Nat.blt (mustV f n) 65536)
 (cond ((okDV (fun p_ q_ => AV.bad) (0) (List.length (List.map (fun i => Int.toNat (byteAt (fun x j => getAt [AV.int IntKind.u8 (Int.ofNat 0)] j) (0 + i))) (List.range (Int.toNat (IntKind.wrap IntKind.i64 (IntKind.wrap IntKind.i64 bl * 8))))))))
 (cond (Nat.blt (leftV (Int.toNat 0) 0) 17)
 (some (CS.mk [(AV.bool (Prod.fst (findV (fun x x_1 => AV.bad) 0 (mustV f n) (leftV (Int.toNat 0) 0 + 1) (fun x => false, fun x x_1 => AV.bad) (Int.toNat 0) (List.map (fun i => Int.toNat (byteAt (fun x j => getAt [AV.int IntKind.u8 (Int.ofNat 0)] j) (0 + i))) (List.range (Int.toNat (IntKind.wrap IntKind.i64 (IntKind.wrap IntKind.i64 bl * 8))))))))] []))
 none)
 none)
 none)
 none)
 none)
 none)
 none) none)
 none)
 (cond (decide (0 ≤ IntKind.wrap IntKind.i64 (IntKind.wrap IntKind.i64 bl * 8)))
 (cond (decide (IntKind.wrap IntKind.i64 (IntKind.wrap IntKind.i64 bl * 8) ≤ IntKind.wrap IntKind.i64 (IntKind.wrap IntKind.i64 bl * 8))) (cond (decide (IntKind.wrap IntKind.i64 (IntKind.wrap IntKind.i64 bl * 8) ≤ 281474976710656))
 (cond (Nat.ble (1 * Int.toNat (IntKind.wrap IntKind.i64 (IntKind.wrap IntKind.i64 bl * 8))) 281474976710656)
 (cond (Nat.ble (0 + Int.toNat (IntKind.wrap IntKind.i64 (IntKind.wrap IntKind.i64 bl * 8))) (Int.toNat (IntKind.wrap IntKind.i64 (IntKind.wrap IntKind.i64 bl * 8))))
 (cond (List.all (List.range (Int.toNat (IntKind.wrap IntKind.i64 (IntKind.wrap IntKind.i64 bl * 8)))) fun i => decide (0 ≤ byteAt (fun x j => getAt [AV.int IntKind.u8 (Int.ofNat 0)] j) (0 + i)) && decide (byteAt (fun x j => getAt [AV.int IntKind.u8 (Int.ofNat 0)] j) (0 + i) < 256))
 (cond (decide (List.length (filtV f n) = List.length (filtV f n))) (cond (decide (List.length (filtV f n) = List.length (filtV f n))) (cond (Nat.ble (List.length (filtV f n)) 16)
 (cond (Nat.blt (mustV f n) 65536)
 (cond ((okDV (finO ((filtV f (n)))) (List.length (filtV f n)) (List.length (List.map (fun i => Int.toNat (byteAt (fun x j => getAt [AV.int IntKind.u8 (Int.ofNat 0)] j) (0 + i))) (List.range (Int.toNat (IntKind.wrap IntKind.i64 (IntKind.wrap IntKind.i64 bl * 8))))))))
 (cond (Nat.blt (leftV (Int.toNat 0) (List.length (filtV f n))) 17)
 (some (CS.mk [(AV.bool (Prod.fst (findV (finO (filtV f n)) (List.length (filtV f n)) (mustV f n) (leftV (Int.toNat 0) (List.length (filtV f n)) + 1) (fun x => false, fun x x_1 => AV.bad) (Int.toNat 0) (List.map (fun i => Int.toNat (byteAt (fun x j => getAt [AV.int IntKind.u8 (Int.ofNat 0)] j) (0 + i))) (List.range (Int.toNat (IntKind.wrap IntKind.i64 (IntKind.wrap IntKind.i64 bl * 8))))))))] []))
 none)
 none)
 none)
 none) none) none)
 none)
 none)
 none)
 none) none)
 none))
 none) none) none) none))
 none) none) none) := by kernel_rfl
theorem k12_eq (nl : Bool) (n : Nat) (f : Nat → Nat → AV) (bl : Int) : k12 nl n f bl k12_p = (cond (rngV f (n))
 (cond (gV bl f n)
 (cond (Nat.ble n 16)
 (cond (Nat.beq (List.length (filtV f n)) 0)
 (cond (decide (0 ≤ IntKind.wrap IntKind.i64 (IntKind.wrap IntKind.i64 bl * 8)))
 (cond (decide (IntKind.wrap IntKind.i64 (IntKind.wrap IntKind.i64 bl * 8) ≤ 281474976710656))
 (cond (Nat.ble (1 * Int.toNat (IntKind.wrap IntKind.i64 (IntKind.wrap IntKind.i64 bl * 8))) 281474976710656)
 (cond (Nat.ble (0 + Int.toNat (IntKind.wrap IntKind.i64 (IntKind.wrap IntKind.i64 bl * 8))) (Int.toNat (IntKind.wrap IntKind.i64 (IntKind.wrap IntKind.i64 bl * 8))))
 (cond (List.all (List.range (Int.toNat (IntKind.wrap IntKind.i64 (IntKind.wrap IntKind.i64 bl * 8)))) fun i => decide (0 ≤ byteAt (fun x j => getAt [AV.int IntKind.u8 (Int.ofNat 0)] j) (0 + i)) && decide (byteAt (fun x j => getAt [AV.int IntKind.u8 (Int.ofNat 0)] j) (0 + i) < 256))
 (cond (Nat.blt (mustV f n) 65536)
 (cond (okDV (fun p_ q_ => AV.bad) (0) (List.length (List.map (fun i => Int.toNat (byteAt (fun x j => getAt [AV.int IntKind.u8 (Int.ofNat 0)] j) (0 + i))) (List.range (Int.toNat (IntKind.wrap IntKind.i64 (IntKind.wrap IntKind.i64 bl * 8)))))))
 (cond (Nat.blt (leftV (Int.toNat 0) 0) 17)
 (some (CS.mk [(AV.bool (Prod.fst (findV (fun x x_1 => AV.bad) 0 (mustV f n) (leftV (Int.toNat 0) 0 + 1) (fun x => false, fun x x_1 => AV.bad) (Int.toNat 0) (List.map (fun i => Int.toNat (byteAt (fun x j => getAt [AV.int IntKind.u8 (Int.ofNat 0)] j) (0 + i))) (List.range (Int.toNat (IntKind.wrap IntKind.i64 (IntKind.wrap IntKind.i64 bl * 8))))))))] []))
 none)
 none)
 none)
 none)
 none)
 none)
 none)
 none)
 (cond (decide (0 ≤ IntKind.wrap IntKind.i64 (IntKind.wrap IntKind.i64 bl * 8)))
 (cond (decide (IntKind.wrap IntKind.i64 (IntKind.wrap IntKind.i64 bl * 8) ≤ 281474976710656))
 (cond (Nat.ble (1 * Int.toNat (IntKind.wrap IntKind.i64 (IntKind.wrap IntKind.i64 bl * 8))) 281474976710656)
 (cond (Nat.ble (0 + Int.toNat (IntKind.wrap IntKind.i64 (IntKind.wrap IntKind.i64 bl * 8))) (Int.toNat (IntKind.wrap IntKind.i64 (IntKind.wrap IntKind.i64 bl * 8))))
 (cond (List.all (List.range (Int.toNat (IntKind.wrap IntKind.i64 (IntKind.wrap IntKind.i64 bl * 8)))) fun i => decide (0 ≤ byteAt (fun x j => getAt [AV.int IntKind.u8 (Int.ofNat 0)] j) (0 + i)) && decide (byteAt (fun x j => getAt [AV.int IntKind.u8 (Int.ofNat 0)] j) (0 + i) < 256))
 (cond (Nat.ble (List.length (filtV f n)) 16)
 (cond (Nat.blt (mustV f n) 65536)
 (cond (okDV (finO ((filtV f (n)))) (List.length (filtV f n)) (List.length (List.map (fun i => Int.toNat (byteAt (fun x j => getAt [AV.int IntKind.u8 (Int.ofNat 0)] j) (0 + i))) (List.range (Int.toNat (IntKind.wrap IntKind.i64 (IntKind.wrap IntKind.i64 bl * 8)))))))
 (cond (Nat.blt (leftV (Int.toNat 0) (List.length (filtV f n))) 17)
 (some (CS.mk [(AV.bool (Prod.fst (findV (finO (filtV f n)) (List.length (filtV f n)) (mustV f n) (leftV (Int.toNat 0) (List.length (filtV f n)) + 1) (fun x => false, fun x x_1 => AV.bad) (Int.toNat 0) (List.map (fun i => Int.toNat (byteAt (fun x j => getAt [AV.int IntKind.u8 (Int.ofNat 0)] j) (0 + i))) (List.range (Int.toNat (IntKind.wrap IntKind.i64 (IntKind.wrap IntKind.i64 bl * 8))))))))] []))
 none)
 none)
 none)
 none)
 none)
 none)
 none)
 none)
 none))
 none)
 (some (CS.mk [(AV.bool (false))] [])))
 none) := by
 rw [k12_is]
 try simp only [eq_self, decide_true, beq_self_eq_true, Nat.beq_refl, ble_self, Int.le_refl, Nat.le_refl]
 cases (rngV f (n)) with
 | true =>
   cases (gV bl f n) with
   | true =>
     cases (Nat.ble n 16) with
     | true =>
       cases (Nat.beq (List.length (filtV f n)) 0) with
       | true =>
         cases (decide (0 ≤ IntKind.wrap IntKind.i64 (IntKind.wrap IntKind.i64 bl * 8))) with
         | true =>
           cases (decide (IntKind.wrap IntKind.i64 (IntKind.wrap IntKind.i64 bl * 8) ≤ 281474976710656)) with
           | true =>
             cases (Nat.ble (1 * Int.toNat (IntKind.wrap IntKind.i64 (IntKind.wrap IntKind.i64 bl * 8))) 281474976710656) with
             | true =>
               cases (Nat.ble (0 + Int.toNat (IntKind.wrap IntKind.i64 (IntKind.wrap IntKind.i64 bl * 8))) (Int.toNat (IntKind.wrap IntKind.i64 (IntKind.wrap IntKind.i64 bl * 8)))) with
               | true =>
                 cases (List.all (List.range (Int.toNat (IntKind.wrap IntKind.i64 (IntKind.wrap IntKind.i64 bl * 8)))) fun i => decide (0 ≤ byteAt (fun x j => getAt [AV.int IntKind.u8 (Int.ofNat 0)] j) (0 + i)) && decide (byteAt (fun x j => getAt [AV.int IntKind.u8 (Int.ofNat 0)] j) (0 + i) < 256)) with
                 | true =>
                   cases (Nat.blt (mustV f n) 65536) with
                   | true =>
                     cases (okDV (fun p_ q_ => AV.bad) (0) (List.length (List.map (fun i => Int.toNat (byteAt (fun x j => getAt [AV.int IntKind.u8 (Int.ofNat 0)] j) (0 + i))) (List.range (Int.toNat (IntKind.wrap IntKind.i64 (IntKind.wrap IntKind.i64 bl * 8))))))) with
                     | true =>
                       cases (Nat.blt (leftV (Int.toNat 0) 0) 17) with
                       | true =>
                         rfl
                       | false =>
                         rfl
                     | false =>
                       rfl
                   | false =>
                     rfl
                 | false =>
                   rfl
               | false =>
                 rfl
             | false =>
               rfl
           | false =>
             rfl
         | false =>
           rfl
       | false =>
         cases (decide (0 ≤ IntKind.wrap IntKind.i64 (IntKind.wrap IntKind.i64 bl * 8))) with
         | true =>
           cases (decide (IntKind.wrap IntKind.i64 (IntKind.wrap IntKind.i64 bl * 8) ≤ 281474976710656)) with
           | true =>
             cases (Nat.ble (1 * Int.toNat (IntKind.wrap IntKind.i64 (IntKind.wrap IntKind.i64 bl * 8))) 281474976710656) with
             | true =>
               cases (Nat.ble (0 + Int.toNat (IntKind.wrap IntKind.i64 (IntKind.wrap IntKind.i64 bl * 8))) (Int.toNat (IntKind.wrap IntKind.i64 (IntKind.wrap IntKind.i64 bl * 8)))) with
               | true =>
                 cases (List.all (List.range (Int.toNat (IntKind.wrap IntKind.i64 (IntKind.wrap IntKind.i64 bl * 8)))) fun i => decide (0 ≤ byteAt (fun x j => getAt [AV.int IntKind.u8 (Int.ofNat 0)] j) (0 + i)) && decide (byteAt (fun x j => getAt [AV.int IntKind.u8 (Int.ofNat 0)] j) (0 + i) < 256)) with
                 | true =>
                   cases (Nat.ble (List.length (filtV f n)) 16) with
                   | true =>
                     cases (Nat.blt (mustV f n) 65536) with
                     | true =>
                       cases (okDV (finO ((filtV f (n)))) (List.length (filtV f n)) (List.length (List.map (fun i => Int.toNat (byteAt (fun x j => getAt [AV.int IntKind.u8 (Int.ofNat 0)] j) (0 + i))) (List.range (Int.toNat (IntKind.wrap IntKind.i64 (IntKind.wrap IntKind.i64 bl * 8))))))) with
                       | true =>
                         cases (Nat.blt (leftV (Int.toNat 0) (List.length (filtV f n))) 17) with
                         | true =>
                           rfl
                         | false =>
                           rfl
                       | false =>
                         rfl
                     | false =>
                       rfl
                   | false =>
                     rfl
                 | false =>
                   rfl
               | false =>
                 rfl
             | false =>
               rfl
           | false =>
             rfl
         | false =>
           rfl
     | false =>
       rfl
   | false =>
     rfl
 | false =>
   rfl
end Go.Proofs.Ytmjmhpbncfjnpaa.history
end
section
set_option linter.unusedSimpArgs false
set_option linter.unusedVariables false
set_option maxRecDepth 20000
namespace Go.Proofs.Ytmjmhpbncfjnpaa.history
open Go Go.RowKit Go.Proofs.Ytmjmhpbncfjnpaa.Bm
theorem r12_inv  {c : CS} {r : Nat × CS} (h : (r12  c).run = some r) : ∃ bl nl n f g zc, c = i12 bl nl n f g zc ∧ (r12B  bl nl n f g zc).run = some r := by
 unfold r12 at h
 split at h
 ·rename_i bl nl n z_1 z_2 z_3 z_4 z_5 z_6 z_7 sh_8 z_9 f sh_10 z_11 g zc
  obtain ⟨hc, hb⟩ := chkT_run h
  have h0 := hc 0 _ rfl
  have h0 := of_decide_eq_true h0; subst h0
  have h1 := hc 1 _ rfl
  have h1 := of_decide_eq_true h1; subst h1
  have h2 := hc 2 _ rfl
  have h2 := of_decide_eq_true h2; subst h2
  have h3 := hc 3 _ rfl
  have h3 := of_decide_eq_true h3; subst h3
  have h4 := hc 4 _ rfl
  have h4 := of_decide_eq_true h4; subst h4
  have h5 := hc 5 _ rfl
  have h5 := of_decide_eq_true h5; subst h5
  have h6 := hc 6 _ rfl
  have h6 := of_decide_eq_true h6; subst h6
  have h7 := hc 7 _ rfl
  have h7 := (shBeq_eq h7).symm; subst h7
  have h8 := hc 8 _ rfl
  have h8 := of_decide_eq_true h8; subst h8
  have h9 := hc 9 _ rfl
  have h9 := (shBeq_eq h9).symm; subst h9
  have h10 := hc 10 _ rfl
  have h10 := of_decide_eq_true h10; subst h10
  exact ⟨bl, nl, n, f, g, zc, rfl, hb⟩
 ·cases h
theorem f12_inv  {c : CS} {r : CS} (h : (f12  c).run = some r) : ∃ nl n f bl, c = a9 nl n f bl ∧ (f12B  nl n f bl).run = some r := by
 unfold f12 at h
 split at h
 ·rename_i nl n z_1 bl sh_2 z_3 f
  obtain ⟨hc, hb⟩ := chkT_run h
  have h0 := hc 0 _ rfl
  have h0 := of_decide_eq_true h0; subst h0
  have h1 := hc 1 _ rfl
  have h1 := (shBeq_eq h1).symm; subst h1
  have h2 := hc 2 _ rfl
  have h2 := of_decide_eq_true h2; subst h2
  exact ⟨nl, n, f, bl, rfl, hb⟩
 ·cases h
theorem rdO_len (f : Nat → Nat → AV) (n : Nat) : (rdO f n).length = n := by simp [rdO]
theorem rdO_succ (f : Nat → Nat → AV) (n : Nat) : rdO f (n + 1) = rdO f n ++ [opAt f n] := by simp [rdO, List.range_succ]
theorem opAt_fin (L : List Opn) (i : Nat) : opAt (finO L) i = L.getD i nilO := by
 cases h : L.getD i nilO
 simp only [opAt, finO, h, Opn.cell, AV.toI, AV.toB, AV.toS]
def IsO (f : Nat → Nat → AV) (L : List Opn) : Prop := ∀ i, i < L.length → opAt f i = L.getD i nilO
theorem isO_fin (L : List Opn) : IsO (finO L) L := fun i _ => opAt_fin L i
theorem isO_zero {f : Nat → Nat → AV} {L : List Opn} (h : IsO f L) : IsO (fun p q => f (0 + p) q) L := fun i hi => by
 show opAt (fun p q => f (0 + p) q) i = _
 rw [← h i hi]
 simp only [opAt, Nat.zero_add]
theorem isO_join {f g : Nat → Nat → AV} {L M : List Opn} {n : Nat} (hn : n = L.length) (hf : IsO f L) (hg : IsO g M) : IsO (fjoin f n g) (L ++ M) := by
 subst hn
 intro i hi
 by_cases h : i < L.length
 ·have e : opAt (fjoin f L.length g) i = opAt f i := by
   simp only [opAt, fjoin, blt_t h, cond_true]
  rw [e, hf i h, List.getD_eq_getElem?_getD, List.getD_eq_getElem?_getD, List.getElem?_append_left h]
 ·rw [List.length_append] at hi
  have e : opAt (fjoin f L.length g) i = opAt g (i - L.length) := by
   simp only [opAt, fjoin, blt_f h, cond_false]
  rw [e, hg (i - L.length) (by omega), List.getD_eq_getElem?_getD, List.getD_eq_getElem?_getD, List.getElem?_append_right (by omega)]
theorem isO_one (x : Opn) : IsO (rowsOf 8 [.int .u64 x.cl, .bool x.w, .int .u32 x.fr, .int .u32 x.ct, .str x.d, .int .i64 x.b, .int .i64 x.e, .bool x.nv] 1) [x] := fun i hi => by
 simp at hi; subst hi; rfl
theorem SeenO.ops {f : Nat → Nat → AV} {n : Nat} {L : List Opn} {b : Bool} (hn : n = L.length) (h : IsO f L) : SeenO (.tarr shO n f b) (.tarr shO L.length (finO L) b) := by
 subst hn
 refine SeenO.arr fun i hi j s hs => ?_
 have e := h i hi
 have h0 : (f i 0).toI = (L.getD i nilO).cl := congrArg Opn.cl e
 have h1 : (f i 1).toB = (L.getD i nilO).w := congrArg Opn.w e
 have h2 : (f i 2).toI = (L.getD i nilO).fr := congrArg Opn.fr e
 have h3 : (f i 3).toI = (L.getD i nilO).ct := congrArg Opn.ct e
 have h4 : (f i 4).toS = (L.getD i nilO).d := congrArg Opn.d e
 have h5 : (f i 5).toI = (L.getD i nilO).b := congrArg Opn.b e
 have h6 : (f i 6).toI = (L.getD i nilO).e := congrArg Opn.e e
 have h7 : (f i 7).toB = (L.getD i nilO).nv := congrArg Opn.nv e
 match j, hs with
 | 0, hs => simp at hs; subst hs; show AV.int .u64 (f i 0).toI = _; rw [h0]; rfl
 | 1, hs => simp at hs; subst hs; show AV.bool (f i 1).toB = _; rw [h1]; rfl
 | 2, hs => simp at hs; subst hs; show AV.int .u32 (f i 2).toI = _; rw [h2]; rfl
 | 3, hs => simp at hs; subst hs; show AV.int .u32 (f i 3).toI = _; rw [h3]; rfl
 | 4, hs => simp at hs; subst hs; show AV.str (f i 4).toS = _; rw [h4]; rfl
 | 5, hs => simp at hs; subst hs; show AV.int .i64 (f i 5).toI = _; rw [h5]; rfl
 | 6, hs => simp at hs; subst hs; show AV.int .i64 (f i 6).toI = _; rw [h6]; rfl
 | 7, hs => simp at hs; subst hs; show AV.bool (f i 7).toB = _; rw [h7]; rfl
 | j + 8, hs => simp at hs
theorem filt_t {f : Nat → Nat → AV} {i : Nat} (h : mayO (opAt f i) = true) : filtO f (i + 1) = filtO f i ++ [opAt f i] := by
 simp [filtO, rdO_succ, h]
theorem filt_f {f : Nat → Nat → AV} {i : Nat} (h : mayO (opAt f i) = false) : filtO f (i + 1) = filtO f i := by
 simp [filtO, rdO_succ, h]
theorem filt_le (f : Nat → Nat → AV) (n : Nat) : (filtO f n).length ≤ n := by
 have := List.length_filter_le mayO (rdO f n)
 rw [rdO_len] at this
 exact this
theorem mustL_app (x : Opn) : ∀ (L : List Opn) (k : Nat), mustL (L ++ [x]) k = mustL L k ||| (cond (x.e != 0) (2 ^ (k + L.length)) 0)
 | [], k => by
   show (cond (x.e != 0) (2 ^ k) 0) ||| 0 = 0 ||| _
   rw [Nat.or_zero, Nat.zero_or]; rfl
 | y :: l, k => by
   show _ ||| mustL (l ++ [x]) (k + 1) = (_ ||| mustL l (k + 1)) ||| _
   rw [mustL_app x l (k + 1), ← Nat.or_assoc, show k + 1 + l.length = k + (y :: l).length by simp; omega]
theorem mustL_lt : ∀ (L : List Opn) (k : Nat), mustL L k < 2 ^ (k + L.length)
 | [], k => Nat.two_pow_pos _
 | x :: l, k => by
   have h := mustL_lt l (k + 1)
   rw [show k + 1 + l.length = k + (x :: l).length by simp; omega] at h
   refine Nat.or_lt_two_pow ?_ h
   cases (x.e != 0) with
   | true => exact Nat.pow_lt_pow_right (by omega) (by simp)
   | false => exact Nat.two_pow_pos _
theorem must_lt {f : Nat → Nat → AV} {n : Nat} (hn : n ≤ 16) : mustN f n < 65536 := by
 have h := mustL_lt (filtO f n) 0
 have hl := filt_le f n
 refine Nat.lt_of_lt_of_le h ?_
 rw [show (65536 : Nat) = 2 ^ 16 by decide]
 exact Nat.pow_le_pow_right (by omega) (by omega)
theorem must_t {f : Nat → Nat → AV} {i : Nat} (h : mayO (opAt f i) = true) : mustN f (i + 1) = mustN f i ||| (cond ((f i 6).toI != 0) (2 ^ (filtO f i).length) 0) := by
 unfold mustN
 rw [filt_t h, mustL_app, Nat.zero_add]; rfl
theorem must_f {f : Nat → Nat → AV} {i : Nat} (h : mayO (opAt f i) = false) : mustN f (i + 1) = mustN f i := by
 unfold mustN
 rw [filt_f h]
theorem grow64 {n : Nat} (h : n ≤ 2000000) : growB 64 n = true := by
 unfold growB
 rw [ble_t (show n ≤ 281474976710656 by omega), ble_t (show n * 64 ≤ 17179869184 by omega)]; rfl
noncomputable def st12 (bl : Int) (nl : Bool) (n : Nat) (f : Nat → Nat → AV) (zc : Nat) (L : List Opn) (mu i : Nat) : CS := match L with
 | [] => c12n bl nl n f mu zc i
 | _ :: _ => c12 bl nl n f L.length (finO L) mu zc i
def pi12 : CS → Plan
 | ⟨_, some (.cells [.nilSlice, _, _] _) :: _⟩ => s12n_p
 | _ => s12_p
noncomputable abbrev stp12 (c : CS) : Option (Nat × CS) := stepC EB 400 (loopC EB 12 0) 0 h12 ((.normal, h12) :: x12) (pi12 c) c
theorem st12_nn {bl : Int} {nl : Bool} {n : Nat} {f : Nat → Nat → AV} {zc : Nat} {L : List Opn} {mu i : Nat} (h : L ≠ []) : st12 bl nl n f zc L mu i = c12 bl nl n f L.length (finO L) mu zc i := by
 cases L with
 | nil => exact absurd rfl h
 | cons x l => rfl
theorem seen12 {bl : Int} {nl : Bool} {n : Nat} {f g : Nat → Nat → AV} {zc m mu i : Nat} {L : List Opn} {w u : Int} (hL : L ≠ []) (hm : m = L.length) (hg : IsO g L) (hw : w = (i : Nat)) (hu : u = (mu : Nat)) :
  Seen ⟨[.int .u32 bl, .ptr 0 0, .osl nl 1 0 n n 8 true, .int .i64 (n : Int), .int .i64 w], [some (.cells [.osl false 2 0 m m 8 true, .int .u32 u, .map 3] true), some (.tarr shO n f false), some (.tarr shO m g true), some (.map [] zc)]⟩ (st12 bl nl n f zc L mu i) := by
 rw [st12_nn hL]
 subst hw; subst hu
 exact Seen.mk' (SeenVs.refl _) (.cons (SeenO.cells (.cons (SeenV.osl hm) (SeenVs.refl _))) (SeenOs.same (.cons (SeenO.ops hm hg) (SeenOs.refl _))))
theorem seen12n {bl : Int} {nl : Bool} {n : Nat} {f g : Nat → Nat → AV} {zc mu i : Nat} {w : Int} (hw : w = (i : Nat)) :
  Seen ⟨[.int .u32 bl, .ptr 0 0, .osl nl 1 0 n n 8 true, .int .i64 (n : Int), .int .i64 w], [some (.cells [.osl true 2 0 0 0 8 true, .int .u32 (mu : Nat), .map 3] true), some (.tarr shO n f false), some (.tarr shO 0 g true), some (.map [] zc)]⟩ (st12 bl nl n f zc [] mu i) := by
 subst hw
 exact Seen.mk' (SeenVs.refl _) (.cons (SeenO.cells (.cons SeenV.nil (SeenVs.refl _))) (SeenOs.same (.skip (SeenOs.refl _))))
theorem round12 (bl : Int) (nl : Bool) (n : Nat) (f : Nat → Nat → AV) (zc : Nat) (hn : n ≤ 16) (i : Nat) (hi : i < n) :
  ∃ c1, stp12 (st12 bl nl n f zc (filtO f i) (mustN f i) i) = some (0, c1) ∧ Seen c1 (st12 bl nl n f zc (filtO f (i + 1)) (mustN f (i + 1)) (i + 1)) := by
 have hle := filt_le f i
 have hmu := must_lt (f := f) (n := i) (by omega)
 have hbits : Env.bits EB = bitsR := qEB.env.bits
 have hmay : mayO (opAt f i) = (!(f i 7).toB && ((f i 1).toB || (f i 6).toI != 0)) := rfl
 have hne : ((f i 6).toI != 0) = !((f i 6).toI == 0) := rfl
 -- a further one
 have more : ∀ (g : Nat → Nat → AV) (u : Int), mayO (opAt f i) = true → IsO g (filtO f i ++ [opAt f i]) → u = ((mustN f i ||| (cond ((f i 6).toI != 0) (2 ^ (filtO f i).length) 0) : Nat) : Int) →
   Seen ⟨[.int .u32 bl, .ptr 0 0, .osl nl 1 0 n n 8 true, .int .i64 (n : Int), .int .i64 (((i + 1 : Nat) : Int))], [some (.cells [.osl false 2 0 ((filtO f i).length + 1) ((filtO f i).length + 1) 8 true, .int .u32 u, .map 3] true), some (.tarr shO n f false), some (.tarr shO ((filtO f i).length + 1) g true), some (.map [] zc)]⟩ (st12 bl nl n f zc (filtO f (i + 1)) (mustN f (i + 1)) (i + 1)) := fun g u hm hg hu => by
  rw [filt_t hm, must_t hm]
  exact seen12 (by simp) (by simp) hg rfl hu
 cases hL : filtO f i with
 | nil =>
   have e := s12n_eq bl nl n f (mustN f i) zc i
   rw [lt1 hi, ix_, blt_t hi, wrap_i64s (by omega), hbits, show Int.toNat 0 = 0 from rfl, bit_is (show 0 < 32 by omega), bor (show mustN f i < 4294967296 by omega) (pow_lt (show 0 < 32 by omega))] at e
   rw [hL] at more
   have one : IsO (rowsOf 8 [.int .u64 (f i 0).toI, .bool (f i 1).toB, .int .u32 (f i 2).toI, .int .u32 (f i 3).toI, .str (f i 4).toS, .int .i64 (f i 5).toI, .int .i64 (f i 6).toI, .bool (f i 7).toB] 1) ([] ++ [opAt f i]) := isO_one (opAt f i)
   show ∃ c1, stepC EB 400 (loopC EB 12 0) 0 h12 ((.normal, h12) :: x12) s12n_p (c12n bl nl n f (mustN f i) zc i) = some (0, c1) ∧ _
   cases b7 : (f i 7).toB <;> cases b1 : (f i 1).toB <;> cases b6 : ((f i 6).toI == 0) <;> rw [b7, b1, b6] at e <;> rw [hne, b6] at e <;> rw [b7, b1] at one
   all_goals first
    | (have hm : mayO (opAt f i) = false := by rw [hmay, hne, b7, b1, b6]; rfl
       refine ⟨_, e, ?_⟩
       rw [filt_f hm, must_f hm, hL]
       exact seen12n rfl)
    | (have hm : mayO (opAt f i) = true := by rw [hmay, hne, b7, b1, b6]; rfl
       refine ⟨_, e, more _ _ hm one ?_⟩
       rw [hne, b6]; first | rfl | (simp only [Bool.not_true, cond_false, Nat.or_zero]))
 | cons x l =>
   have hm0 : (filtO f i).length ≤ 16 := by omega
   have e := s12_eq bl nl n f (filtO f i).length (finO (filtO f i)) (mustN f i) zc i
   rw [lt1 hi, ix_, blt_t hi, wrap_i64s (by omega), hbits, Int.toNat_natCast, bit_is (show (filtO f i).length < 32 by omega), bor (show mustN f i < 4294967296 by omega) (pow_lt (show (filtO f i).length < 32 by omega)), ble_f (show ¬ (filtO f i).length + 1 ≤ (filtO f i).length by omega), grow64 (show (filtO f i).length + 1 ≤ 2000000 by omega), ble_t (show 0 + (filtO f i).length ≤ (filtO f i).length by omega)] at e
   have one : IsO (fjoin (fun p q => finO (filtO f i) (0 + p) q) (filtO f i).length (rowsOf 8 [.int .u64 (f i 0).toI, .bool (f i 1).toB, .int .u32 (f i 2).toI, .int .u32 (f i 3).toI, .str (f i 4).toS, .int .i64 (f i 5).toI, .int .i64 (f i 6).toI, .bool (f i 7).toB] 1)) (filtO f i ++ [opAt f i]) := isO_join rfl (isO_zero (isO_fin (filtO f i))) (isO_one (opAt f i))
   have hs : st12 bl nl n f zc (x :: l) (mustN f i) i = c12 bl nl n f (filtO f i).length (finO (filtO f i)) (mustN f i) zc i := by rw [hL]; rfl
   rw [hs]
   show ∃ c1, stepC EB 400 (loopC EB 12 0) 0 h12 ((.normal, h12) :: x12) s12_p (c12 bl nl n f (filtO f i).length (finO (filtO f i)) (mustN f i) zc i) = some (0, c1) ∧ _
   cases b7 : (f i 7).toB <;> cases b1 : (f i 1).toB <;> cases b6 : ((f i 6).toI == 0) <;> rw [b7, b1, b6] at e <;> rw [hne, b6] at e <;> rw [b7, b1] at one
   all_goals first
    | (have hm : mayO (opAt f i) = false := by rw [hmay, hne, b7, b1, b6]; rfl
       refine ⟨_, e, ?_⟩
       rw [filt_f hm, must_f hm, st12_nn (by rw [hL]; simp)]
       exact Seen.refl _)
    | (have hm : mayO (opAt f i) = true := by rw [hmay, hne, b7, b1, b6]; rfl
       refine ⟨_, e, more _ _ hm one ?_⟩
       rw [hne, b6]; first | rfl | (simp only [Bool.not_true, cond_false, Nat.or_zero]))
theorem il12 (c : CS) (r : Nat × CS) (h : (r12 c).run = some r) : Loops stp12 c r.1 r.2 := by
 obtain ⟨bl, nl, n, f, g, zc, rfl, hb⟩ := r12_inv h
 obtain ⟨hn, hb2⟩ := chkT_run hb
 have hn := le_of (hn 0 _ rfl)
 clear h hb
 rw [filtV_eq, mustV_eq] at hb2
 refine Loops.see (c1 := st12 bl nl n f zc (filtO f 0) (mustN f 0) 0) (seen12n rfl) ?_
 cases hL : filtO f n with
 | nil =>
   rw [hL] at hb2
   simp only [List.length_nil, Nat.beq_refl, T.run, cond_true, Option.some.injEq] at hb2; subst hb2
   refine Loops.for (C := fun i => st12 bl nl n f zc (filtO f i) (mustN f i) i) (n := n) (k := 0) (fun i hi => round12 bl nl n f zc hn i hi) ⟨_, ?_, Seen.refl _⟩
   rw [hL]
   have e := s12n_eq bl nl n f (mustN f n) zc n
   rw [lt0] at e
   exact e
 | cons x l =>
   have hq : Nat.beq (filtO f n).length 0 = false := by rw [hL]; rfl
   rw [hq] at hb2
   simp only [T.run, cond_false, Option.some.injEq] at hb2; subst hb2
   refine Loops.for (C := fun i => st12 bl nl n f zc (filtO f i) (mustN f i) i) (n := n) (k := 0) (fun i hi => round12 bl nl n f zc hn i hi) ⟨_, ?_, Seen.refl _⟩
   rw [st12_nn (by rw [hL]; simp)]
   have e := s12_eq bl nl n f (filtO f n).length (finO (filtO f n)) (mustN f n) zc n
   rw [lt0] at e
   exact e
theorem qEC : Bm.Good Try.prog EC := qEB.addS (by kernel_rfl) rfl (by decide) (by decide) rfl il12
theorem good_bl {bl : Int} {f : Nat → Nat → AV} {n : Nat} (h : gF bl f n = true) : n ≤ 16 ∧ 1 ≤ bl ∧ bl ≤ 64 ∧ okG bl f n = true := by
 simp only [gF, Bool.and_eq_true, Bool.not_eq_true', decide_eq_false_iff_not] at h
 exact ⟨by omega, by omega, by omega, h.2⟩
theorem filt_mem {f : Nat → Nat → AV} {n : Nat} {x : Opn} (h : x ∈ filtO f n) : mayO x = true ∧ ∃ i, i < n ∧ x = opAt f i := by
 obtain ⟨h1, h2⟩ := List.mem_filter.1 h
 obtain ⟨i, hi, rfl⟩ := List.mem_map.1 h1
 exact ⟨h2, i, List.mem_range.1 hi, rfl⟩
theorem okD_filt {bl : Nat} {f : Nat → Nat → AV} {n : Nat} (hz : bl ≤ 64) (hr : rngV f n = true) (hg : okG (bl : Int) f n = true) : okDV (finO (filtO f n)) (filtO f n).length (8 * bl) = true := by
 rw [okDV_eq]
 simp only [okD, Bool.and_eq_true]
 refine ⟨decide_eq_true (by omega), okFrom_iff.2 fun t ht => ?_⟩
 rw [Nat.zero_add, opAt_fin]
 have hm : (filtO f n).getD t nilO ∈ filtO f n := by
  rw [List.getD_eq_getElem?_getD, List.getElem?_eq_getElem ht]
  exact List.getElem_mem ht
 obtain ⟨hmay, i, hi, he⟩ := filt_mem hm
 rw [he] at hmay ⊢
 obtain ⟨a, b, ha, hb, la, lb⟩ := rngA_at hr hi
 have h := okFrom_iff.1 hg i hi
 rw [Nat.zero_add, good_eq ha hb] at h
 simp only [Bool.and_eq_true, Bool.not_eq_true', decide_eq_false_iff_not] at h
 obtain ⟨⟨⟨⟨h1, h2⟩, _⟩, _⟩, h5⟩ := h
 have hw : ((f i 1).toB || (f i 6).toI != 0) = true := by
  have : (!(f i 7).toB && ((f i 1).toB || (f i 6).toI != 0)) = true := hmay
  rw [Bool.and_eq_true] at this
  exact this.2
 rw [hw, Bool.true_and, bne_eq_false_iff_eq] at h5
 show (decide (0 ≤ (f i 2).toI) && (decide (1 ≤ (f i 3).toI) && (decide (8 * ((f i 2).toI + (f i 3).toI) ≤ ((8 * bl : Nat) : Int)) && decide (((f i 4).toS.length : Int) = 8 * (f i 3).toI)))) = true
 rw [ha, hb, decide_eq_true (show (0 : Int) ≤ (a : Int) by omega), decide_eq_true (show (1 : Int) ≤ (b : Int) by omega), decide_eq_true (show 8 * ((a : Int) + (b : Int)) ≤ ((8 * bl : Nat) : Int) by omega), decide_eq_true h5]
 rfl
theorem blank_is (f : Nat → Nat → AV) (hf : ∀ i, (f i 0).toI = 0) (k : Nat) : List.map (fun i => Int.toNat (byteAt f (0 + i))) (List.range k) = List.replicate k 0 := by
 refine List.ext_getElem (by simp) fun i h1 h2 => ?_
 simp [byteAt, hf]
theorem blank_all (f : Nat → Nat → AV) (hf : ∀ i, (f i 0).toI = 0) (k : Nat) : (List.all (List.range k) fun i => decide (0 ≤ byteAt f (0 + i)) && decide (byteAt f (0 + i) < 256)) = true := by
 rw [List.all_eq_true]
 intro i _
 show (decide (0 ≤ (f (0 + i) 0).toI) && decide ((f (0 + i) 0).toI < 256)) = true
 rw [hf]; rfl
theorem left0_le (d : Nat) : ∀ n, leftN d n ≤ n
 | 0 => Nat.le_refl _
 | n + 1 => by
   have := left0_le d n
   simp only [leftN]
   cases Nat.testBit d n <;> simp <;> omega
theorem j12 (c c' : CS) (h : (f12 c).run = some c') : ∃ m pr ros π, callC EC m 12 0 pr ros π c = some c' := by
 obtain ⟨nl, n, f, bl, rfl, hb⟩ := f12_inv h
 obtain ⟨hn, hb2⟩ := chkT_run hb
 have hr := hn 0 _ rfl
 clear h hb hn
 have e := k12_eq nl n f bl
 rw [hr, gV_eq] at e
 rw [checkV_eq] at hb2
 unfold checkF at hb2
 cases hg : gF bl f n with
 | false =>
   rw [hg] at e hb2
   exact ⟨1500, .keep, [], k12_p, e.trans hb2⟩
 | true =>
   rw [hg, Bool.true_and] at hb2
   obtain ⟨g1, g2, g3, g4⟩ := good_bl hg
   obtain ⟨z, rfl⟩ := Int.eq_ofNat_of_zero_le (show 0 ≤ bl by omega)
   have hfl := filt_le f n
   have hl := left0_le 0 (filtO f n).length
   rw [hg, wi (a := z) (by omega), w8r (a := z) (by omega), Int.toNat_natCast, decide_eq_true (show 0 ≤ ((8 * z : Nat) : Int) by omega), decide_eq_true (show ((8 * z : Nat) : Int) ≤ 281474976710656 by omega), ble_t (show 1 * (8 * z) ≤ 281474976710656 by omega), ble_t (show 0 + 8 * z ≤ 8 * z by omega),
    blank_all (fun x j => getAt [AV.int IntKind.u8 (Int.ofNat 0)] j) (fun _ => rfl), blank_is (fun x j => getAt [AV.int IntKind.u8 (Int.ofNat 0)] j) (fun _ => rfl), List.length_replicate, ble_t g1, filtV_eq, mustV_eq, findV_eq, leftV_eq, blt_t (must_lt g1), ble_t (show (filtO f n).length ≤ 16 by omega), okD_filt (by omega) hr g4, show Int.toNat 0 = 0 from rfl, blt_t (show leftN 0 (filtO f n).length < 17 by omega)] at e
   rw [show blank (z : Int) = List.replicate (8 * z) 0 from by unfold blank; rw [show (8 * (z : Int)).toNat = 8 * z by omega]] at hb2
   cases hq : Nat.beq (filtO f n).length 0 with
   | false =>
     rw [hq] at e
     exact ⟨1500, .keep, [], k12_p, e.trans hb2⟩
   | true =>
     rw [hq] at e
     have hz := Nat.eq_of_beq_eq_true hq
     rw [hz] at hb2
     have ok0 : okDV (fun _ _ => AV.bad) 0 (8 * z) = true := by
      rw [okDV_eq]
      unfold okD
      rw [decide_eq_true (show 8 * z ≤ 1000 by omega)]; rfl
     rw [show (fun (p_ q_ : Nat) => AV.bad) = (fun _ _ => AV.bad) from rfl, ok0] at e
     exact ⟨1500, .keep, [], k12_p, e.trans hb2⟩
theorem qED : Bm.Good Try.prog ED := qEC.addR qEC (by kernel_rfl) j12
end Go.Proofs.Ytmjmhpbncfjnpaa.history
end
section
set_option linter.unusedSimpArgs false
set_option linter.unusedVariables false
set_option maxRecDepth 20000
namespace Go.Proofs.Ytmjmhpbncfjnpaa.history
open Go Go.RowKit Go.Proofs.Ytmjmhpbncfjnpaa.Bm
inductive Can (L : List Opn) : Nat → List Nat → Prop
 | done {d : Nat} {s : List Nat} : (∀ k, k < L.length → (L.getD k nilO).e ≠ 0 → Nat.testBit d k = true) → Can L d s
 | step {d : Nat} {s s' : List Nat} {i : Nat} : i < L.length → Nat.testBit d i = false → (∀ k, k < L.length → k ≠ i → (L.getD k nilO).e ≠ 0 → Nat.testBit d k = false → ¬ (L.getD k nilO).e ≤ (L.getD i nilO).b) →
    doO (L.getD i nilO) s = some s' → Can L (d ||| 2 ^ i) s' → Can L d s
theorem must_bit : ∀ (L : List Opn) (k0 k : Nat), Nat.testBit (mustL L k0) k = decide (k0 ≤ k ∧ k - k0 < L.length ∧ (L.getD (k - k0) nilO).e ≠ 0)
 | [], k0, k => by
   show Nat.testBit 0 k = _
   rw [Nat.zero_testBit]
   exact (decide_eq_false (by simp)).symm
 | x :: l, k0, k => by
   show Nat.testBit ((cond (x.e != 0) (2 ^ k0) 0) ||| mustL l (k0 + 1)) k = _
   rw [Nat.testBit_or, must_bit l (k0 + 1) k]
   by_cases hk : k = k0
   ·subst hk
    rw [decide_eq_false (show ¬ (k + 1 ≤ k ∧ _) by omega), Bool.or_false, Nat.sub_self]
    cases hx : (x.e != 0) with
    | true =>
      have hx : x.e ≠ 0 := by simpa using hx
      simp only [cond_true]
      rw [Nat.testBit_two_pow_self]
      exact (decide_eq_true ⟨Nat.le_refl _, by simp, by simpa using hx⟩).symm
    | false =>
      have hx : x.e = 0 := by simpa using hx
      simp only [cond_false]
      rw [Nat.zero_testBit]
      exact (decide_eq_false (by simp [hx])).symm
   ·have h0 : Nat.testBit (cond (x.e != 0) (2 ^ k0) 0) k = false := by
     cases (x.e != 0) with
     | true => simp only [cond_true]; rw [Nat.testBit_two_pow]; exact decide_eq_false (by omega)
     | false => exact Nat.zero_testBit k
    rw [h0, Bool.false_or]
    refine decide_eq_decide.2 ?_
    by_cases hlt : k0 + 1 ≤ k
    ·have e : k - k0 = (k - (k0 + 1)) + 1 := by omega
     rw [e]
     simp only [List.length_cons, List.getD_cons_succ]
     constructor
     ·rintro ⟨_, h2, h3⟩; exact ⟨by omega, by omega, h3⟩
     ·rintro ⟨_, h2, h3⟩; exact ⟨by omega, by omega, h3⟩
    ·constructor
     ·rintro ⟨h1, _⟩; exact absurd h1 hlt
     ·rintro ⟨h1, _⟩; omega
theorem mask_iff {d mu : Nat} : Nat.beq (d &&& mu) mu = true ↔ ∀ k, Nat.testBit mu k = true → Nat.testBit d k = true := by
 rw [beq_iff, decide_eq_true_eq]
 constructor
 ·intro h k hk
  rw [← h, Nat.testBit_and, Bool.and_eq_true] at hk
  exact hk.1
 ·intro h
  refine Nat.eq_of_testBit_eq fun k => ?_
  rw [Nat.testBit_and]
  cases hk : Nat.testBit mu k with
  | true => rw [h k hk]; rfl
  | false => exact Bool.and_false _
theorem mustAll_iff (L : List Opn) (d : Nat) : Nat.beq (d &&& mustL L 0) (mustL L 0) = true ↔ ∀ k, k < L.length → (L.getD k nilO).e ≠ 0 → Nat.testBit d k = true := by
 rw [mask_iff]
 constructor
 ·intro h k hk he
  exact h k (by rw [must_bit]; exact decide_eq_true ⟨Nat.zero_le _, by simpa using hk, by simpa using he⟩)
 ·intro h k hk
  rw [must_bit] at hk
  obtain ⟨_, h2, h3⟩ := of_decide_eq_true hk
  exact h k (by simpa using h2) (by simpa using h3)
theorem fin6 (L : List Opn) (k : Nat) : (finO L k 6).toI = (L.getD k nilO).e := by
 rw [← opAt_fin]; rfl
theorem fin5 (L : List Opn) (k : Nat) : (finO L k 5).toI = (L.getD k nilO).b := by
 rw [← opAt_fin]; rfl
theorem next_iff (L : List Opn) (i d : Nat) : nextB (finO L) L.length (mustL L 0) i d = true ↔ ∀ k, k < L.length → k ≠ i → (L.getD k nilO).e ≠ 0 → Nat.testBit d k = false → ¬ (L.getD k nilO).e ≤ (L.getD i nilO).b := by
 unfold nextB
 rw [okFrom_iff]
 constructor
 ·intro h k hk hne he hb hle
  have h2 := h k hk
  rw [Nat.zero_add, fin6, fin5, must_bit, decide_eq_true (show 0 ≤ k ∧ k - 0 < L.length ∧ (L.getD (k - 0) nilO).e ≠ 0 from ⟨Nat.zero_le _, hk, he⟩), hb, decide_eq_true hle, show Nat.beq k i = false by rw [beq_iff]; exact decide_eq_false hne] at h2
  cases h2
 ·intro h k hk
  rw [Nat.zero_add, fin6, fin5, must_bit]
  by_cases hne : k = i
  ·subst hne; rw [Nat.beq_refl]; rfl
  ·by_cases he : (L.getD k nilO).e = 0
   ·rw [decide_eq_false (show ¬ (0 ≤ k ∧ k - 0 < L.length ∧ (L.getD (k - 0) nilO).e ≠ 0) from fun z => z.2.2 he), Bool.false_and, Bool.and_false]; rfl
   ·cases hb : Nat.testBit d k with
    | true => simp
    | false => rw [decide_eq_false (h k hk hne he hb)]; simp
theorem can_of {L : List Opn} : ∀ (m : Nat) (d : Nat) (s : List Nat), leftN d L.length ≤ m → canD (finO L) L.length (mustL L 0) d s = true → Can L d s := by
 intro m
 induction m with
 | zero =>
   intro d s hm h
   rw [canD_eq] at h
   rcases Bool.or_eq_true _ _ ▸ h with h | h
   ·exact .done ((mustAll_iff L d).1 h)
   ·obtain ⟨t, _, ht, hp⟩ := anyF_iff.1 h
    unfold stepP at hp
    simp only [Bool.and_eq_true, Bool.not_eq_true'] at hp
    have := left_or hp.1 (n := L.length) (by omega)
    omega
 | succ m ih =>
   intro d s hm h
   rw [canD_eq] at h
   rcases Bool.or_eq_true _ _ ▸ h with h | h
   ·exact .done ((mustAll_iff L d).1 h)
   ·obtain ⟨t, _, ht, hp⟩ := anyF_iff.1 h
    unfold stepP at hp
    simp only [Bool.and_eq_true, Bool.not_eq_true'] at hp
    obtain ⟨hb, hx, hd⟩ := hp
    rw [opAt_fin] at hd
    have hl := left_or hb (n := L.length) (by omega)
    cases hdo : doO (L.getD t nilO) s with
    | none => rw [hdo] at hd; cases hd
    | some s' =>
      rw [hdo] at hd
      exact .step (by omega) hb ((next_iff L t d).1 hx) hdo (ih _ _ (by omega) hd)
theorem can_iff (L : List Opn) (d : Nat) (s : List Nat) : canD (finO L) L.length (mustL L 0) d s = true ↔ Can L d s := by
 refine ⟨can_of _ d s (Nat.le_refl _), fun h => ?_⟩
 induction h with
 | @done d s h =>
   rw [canD_eq, (mustAll_iff L d).2 h]; rfl
 | @step d s s' i hi hb hx hd _ ih =>
   rw [canD_eq, Bool.or_eq_true]
   refine .inr (anyF_iff.2 ⟨i, Nat.zero_le _, by omega, ?_⟩)
   unfold stepP
   rw [hb, (next_iff L i d).2 hx, opAt_fin, hd]
   simpa using ih
theorem check_iff (bl : Int) (f : Nat → Nat → AV) (n : Nat) : checkF bl f n = true ↔ gF bl f n = true ∧ Can (filtO f n) 0 (blank bl) := by
 unfold checkF mustN
 rw [find_can (fun _ => rfl), Bool.and_eq_true, can_iff]
theorem getD_app (A B : List Opn) (k : Nat) : (A ++ B).getD k nilO = if k < A.length then A.getD k nilO else B.getD (k - A.length) nilO := by
 rw [List.getD_eq_getElem?_getD]
 by_cases h : k < A.length
 ·rw [if_pos h, List.getElem?_append_left h, List.getD_eq_getElem?_getD]
 ·rw [if_neg h, List.getElem?_append_right (by omega), List.getD_eq_getElem?_getD]
def skipN (j k : Nat) : Nat := if k < j then k else k + 1
theorem getD_skip (A B : List Opn) (x : Opn) (k : Nat) : (A ++ x :: B).getD (skipN A.length k) nilO = (A ++ B).getD k nilO := by
 unfold skipN
 rw [getD_app, getD_app]
 by_cases h : k < A.length
 ·rw [if_pos h, if_pos h, if_pos h]
 ·rw [if_neg h, if_neg (by omega), if_neg h, show k + 1 - A.length = (k - A.length) + 1 by omega, List.getD_cons_succ]
theorem can_remove {A B : List Opn} {x : Opn} (hx : x.w = false) {d : Nat} {s : List Nat} (h : Can (A ++ x :: B) d s) : ∀ d', (∀ k, k < (A ++ B).length → Nat.testBit d' k = Nat.testBit d (skipN A.length k)) → Can (A ++ B) d' s := by
 have hlen : (A ++ x :: B).length = (A ++ B).length + 1 := by simp; omega
 have hs : ∀ k, k < (A ++ B).length → skipN A.length k < (A ++ x :: B).length := fun k hk => by unfold skipN; split <;> omega
 induction h with
 | @done d s h =>
   intro d' hd
   refine .done fun k hk he => ?_
   rw [hd k hk]
   exact h _ (hs k hk) (by rw [getD_skip]; exact he)
 | @step d s s' i hi hb hx2 hdo _ ih =>
   intro d' hd
   by_cases hj : i = A.length
   ·have hxi : (A ++ x :: B).getD i nilO = x := by
     rw [hj, getD_app, if_neg (Nat.lt_irrefl _), Nat.sub_self]; rfl
    rw [hxi] at hdo
    have hss : s' = s := by
     unfold doO at hdo
     rw [hx] at hdo
     simp only [cond_false] at hdo
     cases hq : ((s.drop (8 * x.fr).toNat).take (8 * x.ct).toNat == x.d) with
     | true => rw [hq] at hdo; simp only [cond_true, Option.some.injEq] at hdo; exact hdo.symm
     | false => rw [hq] at hdo; cases hdo
    subst hss
    refine ih d' fun k hk => ?_
    rw [hd k hk, testBit_or_ne]
    unfold skipN; split <;> omega
   ·-- the one's place without x
    obtain ⟨i', hi', hsk⟩ : ∃ i', i' < (A ++ B).length ∧ skipN A.length i' = i := by
     by_cases hlt : i < A.length
     ·exact ⟨i, by simp; omega, by unfold skipN; rw [if_pos hlt]⟩
     ·refine ⟨i - 1, by omega, ?_⟩
      unfold skipN
      rw [if_neg (by omega)]; omega
    have hinj : ∀ k, skipN A.length k = i → k = i' := fun k hk => by
     unfold skipN at hk hsk
     split at hk <;> split at hsk <;> omega
    subst hsk
    refine .step hi' (by rw [hd i' hi']; exact hb) (fun k hk hne he hbk => ?_) (by rw [← getD_skip A B x]; exact hdo) (ih _ fun k hk => ?_)
    ·rw [hd k hk] at hbk
     have := hx2 _ (hs k hk) (fun z => hne (hinj k z)) (by rw [getD_skip]; exact he) hbk
     rw [getD_skip, getD_skip] at this
     exact this
    ·by_cases hki : k = i'
     ·subst hki
      rw [testBit_or_self, testBit_or_self]
     ·rw [testBit_or_ne (fun z => hki z.symm), hd k hk, testBit_or_ne]
      intro z
      exact hki (hinj k z.symm)
theorem can_append {L : List Opn} {x : Opn} (hx : x.e = 0) {d : Nat} {s : List Nat} (h : Can L d s) : Can (L ++ [x]) d s := by
 have hg : ∀ k, k < L.length → (L ++ [x]).getD k nilO = L.getD k nilO := fun k hk => by rw [getD_app, if_pos hk]
 have hlast : (L ++ [x]).getD L.length nilO = x := by rw [getD_app, if_neg (Nat.lt_irrefl _), Nat.sub_self]; rfl
 have hcase : ∀ k, k < (L ++ [x]).length → k < L.length ∨ k = L.length := fun k hk => by simp at hk; omega
 induction h with
 | @done d s h =>
   refine .done fun k hk he => ?_
   rcases hcase k hk with h1 | h1
   ·rw [hg k h1] at he; exact h k h1 he
   ·subst h1; rw [hlast] at he; exact absurd hx he
 | @step d s s' i hi hb hx2 hdo _ ih =>
   refine .step (by simp; omega) hb (fun k hk hne he hbk => ?_) (by rw [hg i hi]; exact hdo) ih
   rcases hcase k hk with h1 | h1
   ·rw [hg k h1] at he ⊢
    rw [hg i hi]
    exact hx2 k h1 hne he hbk
   ·subst h1; rw [hlast] at he; exact absurd hx he
end Go.Proofs.Ytmjmhpbncfjnpaa.history
end
section
set_option linter.unusedSimpArgs false
set_option linter.unusedVariables false
set_option maxRecDepth 20000
namespace Go.Proofs.Ytmjmhpbncfjnpaa.history
open Go Go.RowKit Go.Proofs.Ytmjmhpbncfjnpaa.Bm
theorem rng_c {g g' : Nat → Nat → AV} {m : Nat} (h : ∀ i, i < m → opAt g i = opAt g' i) : rngV g m = rngV g' m := by
 rw [rngV_eq]
 unfold rngA
 exact okFrom_congr fun j _ hj => by rw [h j (by omega)]
theorem good_c {bl : Int} {g g' : Nat → Nat → AV} {m : Nat} (h : ∀ i, i < m → opAt g i = opAt g' i) : gF bl g m = gF bl g' m := by
 unfold gF okG
 rw [okFrom_congr (q := fun i => goodO bl (opAt g' i)) fun j _ hj => by rw [h j (by omega)]]
theorem rd_c {g g' : Nat → Nat → AV} {m : Nat} (h : ∀ i, i < m → opAt g i = opAt g' i) : rdO g m = rdO g' m :=
 List.map_congr_left fun i hi => h i (List.mem_range.1 hi)
theorem check_c {bl : Int} {g g' : Nat → Nat → AV} {m : Nat} (h : ∀ i, i < m → opAt g i = opAt g' i) : checkF bl g m = checkF bl g' m := by
 unfold checkF mustN filtO
 rw [good_c h, rd_c h]
theorem rdO_at {f : Nat → Nat → AV} {n i : Nat} (h : i < n) : (rdO f n).getD i nilO = opAt f i := by
 simp [rdO, List.getD_eq_getElem?_getD, h]
theorem list_ext {L M : List Opn} (h : L.length = M.length) (h2 : ∀ k, k < L.length → L.getD k nilO = M.getD k nilO) : L = M := by
 refine List.ext_getElem h fun i h1 h3 => ?_
 have := h2 i h1
 rw [List.getD_eq_getElem?_getD, List.getD_eq_getElem?_getD, List.getElem?_eq_getElem h1, List.getElem?_eq_getElem h3] at this
 simpa using this
def woA (f : Nat → Nat → AV) (i : Nat) (j q : Nat) : AV := f (skipN i j) q
theorem wo_rd {f : Nat → Nat → AV} {n i : Nat} (hi : i < n) : ∃ A B, rdO f n = A ++ opAt f i :: B ∧ rdO (woA f i) (n - 1) = A ++ B ∧ A.length = i := by
 refine ⟨(rdO f n).take i, (rdO f n).drop (i + 1), ?_, ?_, by rw [List.length_take, rdO_len]; omega⟩
 ·have hl : i < (rdO f n).length := by rw [rdO_len]; exact hi
  have h1 : (rdO f n)[i] = opAt f i := by simp [rdO]
  rw [← h1, ← List.drop_eq_getElem_cons hl, List.take_append_drop]
 ·have hA : ((rdO f n).take i).length = i := by rw [List.length_take, rdO_len]; omega
  have hB : ((rdO f n).drop (i + 1)).length = n - (i + 1) := by rw [List.length_drop, rdO_len]
  have hr : rdO f n = (rdO f n).take i ++ opAt f i :: (rdO f n).drop (i + 1) := by
   have hl : i < (rdO f n).length := by rw [rdO_len]; exact hi
   have h1 : (rdO f n)[i] = opAt f i := by simp [rdO]
   rw [← h1, ← List.drop_eq_getElem_cons hl, List.take_append_drop]
  refine list_ext (by rw [rdO_len, List.length_append, hA, hB]; omega) fun k hk => ?_
  rw [rdO_len] at hk
  rw [rdO_at hk, ← getD_skip _ _ (opAt f i), ← hr, hA]
  have hsk : skipN i k < n := by unfold skipN; split <;> omega
  rw [rdO_at hsk]; rfl
theorem without_ok {bl : Int} {f : Nat → Nat → AV} {n i : Nat} (hi : i < n) (hx : (f i 1).toB = false) (hc : checkF bl f n = true) : checkF bl (woA f i) (n - 1) = true := by
 obtain ⟨A, B, h1, h2, hA⟩ := wo_rd (f := f) hi
 rw [check_iff] at hc ⊢
 obtain ⟨hg, hcan⟩ := hc
 obtain ⟨g1, g2, g3, g4⟩ := good_bl hg
 refine ⟨?_, ?_⟩
 ·unfold gF
  rw [decide_eq_false (show ¬ ((n - 1 : Nat) : Int) > 16 by omega), decide_eq_false (show ¬ bl < 1 by omega), decide_eq_false (show ¬ bl > 64 by omega)]
  refine okFrom_iff.2 fun k hk => ?_
  have hsk : skipN i k < n := by unfold skipN; split <;> omega
  have := okFrom_iff.1 g4 (skipN i k) hsk
  rw [Nat.zero_add] at this ⊢
  exact this
 ·have e1 : filtO f n = A.filter mayO ++ (opAt f i :: B).filter mayO := by unfold filtO; rw [h1, List.filter_append]
  have e2 : filtO (woA f i) (n - 1) = A.filter mayO ++ B.filter mayO := by unfold filtO; rw [h2, List.filter_append]
  rw [e2]
  rw [e1] at hcan
  by_cases hm : mayO (opAt f i) = true
  ·rw [List.filter_cons_of_pos hm] at hcan
   exact can_remove (show (opAt f i).w = false from hx) hcan 0 fun k _ => by rw [Nat.zero_testBit, Nat.zero_testBit]
  ·rw [List.filter_cons_of_neg hm] at hcan
   exact hcan
theorem rdO_fin (L : List Opn) : rdO (finO L) L.length = L :=
 list_ext (rdO_len _ _) fun k hk => by rw [rdO_len] at hk; rw [rdO_at hk, opAt_fin]
theorem with_ok {bl : Int} {f : Nat → Nat → AV} {n : Nat} {o : Opn} (he : o.e = 0) (hc : checkF bl f n = true) (hg : gF bl (finO (rdO f n ++ [o])) (n + 1) = true) : checkF bl (finO (rdO f n ++ [o])) (n + 1) = true := by
 rw [check_iff] at hc ⊢
 refine ⟨hg, ?_⟩
 have e : filtO (finO (rdO f n ++ [o])) (n + 1) = filtO f n ++ [o].filter mayO := by
  unfold filtO
  have := rdO_fin (rdO f n ++ [o])
  rw [show (rdO f n ++ [o]).length = n + 1 by simp [rdO_len]] at this
  rw [this, List.filter_append]
 rw [e]
 by_cases hm : mayO o = true
 ·rw [List.filter_cons_of_pos hm]
  exact can_append he hc.2
 ·rw [List.filter_cons_of_neg hm, List.filter_nil, List.append_nil]
  exact hc.2
theorem withA {f : Nat → Nat → AV} {n : Nat} {x3 x5 x6 x8 x9 : Int} {x4 x10 : Bool} {x7 : List Nat} : ∀ j, j < n + 1 → opAt (fjoin (fun p q => f (0 + (0 + p - 0)) q) (0 + n) (rowsOf 8 [.int .u64 x3, .bool x4, .int .u32 x5, .int .u32 x6, .str x7, .int .i64 x8, .int .i64 x9, .bool x10] 1)) j = opAt (finO (rdO f n ++ [⟨x3, x4, x5, x6, x7, x8, x9, x10⟩])) j := fun j hj => by
 rw [opAt_fin]
 have hf : IsO (fun p q => f (0 + (0 + p - 0)) q) (rdO f n) := fun k hk => by
  rw [rdO_len] at hk
  rw [rdO_at hk]
  simp only [opAt, Nat.zero_add, Nat.sub_zero]
 exact isO_join (by rw [rdO_len, Nat.zero_add]) hf (isO_one ⟨x3, x4, x5, x6, x7, x8, x9, x10⟩) j (by simp [rdO_len]; omega)
theorem opAt_fjoin (a g : Nat → Nat → AV) (k j : Nat) : opAt (fjoin a k g) j = if j < k then opAt a j else opAt g (j - k) := by
 by_cases h : j < k
 ·rw [if_pos h]; simp only [opAt, fjoin, blt_t h, cond_true]
 ·rw [if_neg h]; simp only [opAt, fjoin, blt_f h, cond_false]
theorem opAt_fover0 (a g : Nat → Nat → AV) (k j : Nat) : opAt (fover a k 0 g) j = opAt a j := by
 have : ∀ b, fover a k 0 g j b = a j b := fun b => by
  unfold fover
  have : (Nat.ble k j && Nat.blt j (k + 0)) = false := by
   rw [ble_iff, blt_iff]
   by_cases h : k ≤ j
   ·rw [decide_eq_false (show ¬ j < k + 0 by omega), Bool.and_false]
   ·rw [decide_eq_false h, Bool.false_and]
  rw [this]; rfl
 simp only [opAt, this]
theorem woB {f : Nat → Nat → AV} {a : Nat → Nat → AV} {j : Nat} : opAt (fjoin a 0 fun p q => f (0 + (0 + 1) + p) q) j = opAt (woA f 0) j := by
 rw [opAt_fjoin, if_neg (by omega), Nat.sub_zero]
 show opAt _ j = opAt f (skipN 0 j)
 simp only [opAt, skipN, Nat.not_lt_zero, if_false]
 rw [show 0 + (0 + 1) + j = j + 1 by omega]
theorem woC {f a b : Nat → Nat → AV} {i k j : Nat} (hj : j < i) : opAt (fover (fjoin a 0 fun p q => f (0 + 0 + p) q) k 0 b) j = opAt (woA f i) j := by
 rw [opAt_fover0, opAt_fjoin, if_neg (by omega), Nat.sub_zero]
 show opAt _ j = opAt f (skipN i j)
 simp only [opAt, skipN, if_pos hj]
 rw [show 0 + 0 + j = j by omega]
theorem woD {f a : Nat → Nat → AV} {i j : Nat} : opAt (fjoin (fun p q => fjoin a 0 (fun p q => f (0 + 0 + p) q) (0 + p) q) (0 + (i - 0)) fun p q => f (0 + (i + 1) + p) q) j = opAt (woA f i) j := by
 rw [opAt_fjoin, show 0 + (i - 0) = i by omega]
 show _ = opAt f (skipN i j)
 by_cases h : j < i
 ·rw [if_pos h]
  have : opAt (fun p q => fjoin a 0 (fun p q => f (0 + 0 + p) q) (0 + p) q) j = opAt (fjoin a 0 fun p q => f (0 + 0 + p) q) j := by simp only [opAt, Nat.zero_add]
  rw [this, opAt_fjoin, if_neg (by omega), Nat.sub_zero]
  simp only [opAt, skipN, if_pos h]
  rw [show 0 + 0 + j = j by omega]
 ·rw [if_neg h]
  simp only [opAt, skipN, if_neg h]
  rw [show 0 + (i + 1) + (j - i) = j + 1 by omega]
end Go.Proofs.Ytmjmhpbncfjnpaa.history
end
