/- Part 2 of the texts that YtmjmhpbncfjnpaaLawOne needs: an abstract machine, and what it reckons. No condition. -/
import Derived.Test.YtmjmhpbncfjnpaaRows
import Derived.Test.YtmjmhpbncfjnpaaBmVq
import Derived.KernelRfl
import Derived.Test.YtmjmhpbncfjnpaaSnA
section
set_option linter.unusedSimpArgs false
set_option linter.unusedVariables false
set_option maxRecDepth 20000
namespace Go.Proofs.Ytmjmhpbncfjnpaa.history
open Go Go.RowKit Go.Proofs.Ytmjmhpbncfjnpaa.Bm
theorem r7_inv  {c : CS} {r : Nat × CS} (h : (r7  c).run = some r) : ∃ nl n f, c = c7 nl n f 0 ∧ (r7B  nl n f).run = some r := by
 unfold r7 at h
 split at h
 ·rename_i nl n z_1 z_2 z_3 z_4 z_5 z_6 sh_7 z_8 f
  obtain ⟨hc, hb⟩ := chkT_run h
  have h0 := hc 0 _ rfl
  have h0 := of_decide_eq_true h0; subst h0
  have h1 := hc 1 _ rfl
  have h1 := of_decide_eq_true h1; subst h1
  have h2 := hc 2 _ rfl
  have h2 := of_decide_eq_true h2; subst h2
  have h3 := hc 3 _ rfl
  have h3 := of_decide_eq_true h3; subst h3
  have h4 := hc 4 _ rfl
  have h4 := of_decide_eq_true h4; subst h4
  have h5 := hc 5 _ rfl
  have h5 := of_decide_eq_true h5; subst h5
  have h6 := hc 6 _ rfl
  have h6 := (shBeq_eq h6).symm; subst h6
  have h7 := hc 7 _ rfl
  have h7 := of_decide_eq_true h7; subst h7
  exact ⟨nl, n, f, rfl, hb⟩
 ·cases h
theorem f7_inv  {c : CS} {r : CS} (h : (f7  c).run = some r) : ∃ nl n f, c = a7 nl n f ∧ (f7B  nl n f).run = some r := by
 unfold f7 at h
 split at h
 ·rename_i nl n z_1 sh_2 z_3 f
  obtain ⟨hc, hb⟩ := chkT_run h
  have h0 := hc 0 _ rfl
  have h0 := of_decide_eq_true h0; subst h0
  have h1 := hc 1 _ rfl
  have h1 := (shBeq_eq h1).symm; subst h1
  have h2 := hc 2 _ rfl
  have h2 := of_decide_eq_true h2; subst h2
  exact ⟨nl, n, f, rfl, hb⟩
 ·cases h
theorem r9_inv  {c : CS} {r : Nat × CS} (h : (r9  c).run = some r) : ∃ bl nl n f, c = c9 bl nl n f 0 ∧ (r9B  bl nl n f).run = some r := by
 unfold r9 at h
 split at h
 ·rename_i bl nl n z_1 z_2 z_3 sh_4 z_5 f
  obtain ⟨hc, hb⟩ := chkT_run h
  have h0 := hc 0 _ rfl
  have h0 := of_decide_eq_true h0; subst h0
  have h1 := hc 1 _ rfl
  have h1 := of_decide_eq_true h1; subst h1
  have h2 := hc 2 _ rfl
  have h2 := of_decide_eq_true h2; subst h2
  have h3 := hc 3 _ rfl
  have h3 := (shBeq_eq h3).symm; subst h3
  have h4 := hc 4 _ rfl
  have h4 := of_decide_eq_true h4; subst h4
  exact ⟨bl, nl, n, f, rfl, hb⟩
 ·cases h
theorem r10_inv  {c : CS} {r : Nat × CS} (h : (r10  c).run = some r) : ∃ nl n f bl, c = c10 nl n f bl 0 ∧ (r10B  nl n f bl).run = some r := by
 unfold r10 at h
 split at h
 ·rename_i nl n z_1 bl z_2 sh_3 z_4 f
  obtain ⟨hc, hb⟩ := chkT_run h
  have h0 := hc 0 _ rfl
  have h0 := of_decide_eq_true h0; subst h0
  have h1 := hc 1 _ rfl
  have h1 := of_decide_eq_true h1; subst h1
  have h2 := hc 2 _ rfl
  have h2 := (shBeq_eq h2).symm; subst h2
  have h3 := hc 3 _ rfl
  have h3 := of_decide_eq_true h3; subst h3
  exact ⟨nl, n, f, bl, rfl, hb⟩
 ·cases h
theorem f9_inv  {c : CS} {r : CS} (h : (f9  c).run = some r) : ∃ nl n f bl, c = a9 nl n f bl ∧ (f9B  nl n f bl).run = some r := by
 unfold f9 at h
 split at h
 ·rename_i nl n z_1 bl sh_2 z_3 f
  obtain ⟨hc, hb⟩ := chkT_run h
  have h0 := hc 0 _ rfl
  have h0 := of_decide_eq_true h0; subst h0
  have h1 := hc 1 _ rfl
  have h1 := (shBeq_eq h1).symm; subst h1
  have h2 := hc 2 _ rfl
  have h2 := of_decide_eq_true h2; subst h2
  exact ⟨nl, n, f, bl, rfl, hb⟩
 ·cases h
theorem r11_inv  {c : CS} {r : Nat × CS} (h : (r11  c).run = some r) : ∃ nl n f, c = c11 0 nl n f 0 ∧ (r11B  nl n f).run = some r := by
 unfold r11 at h
 split at h
 ·rename_i z_1 nl n z_2 z_3 z_4 sh_5 z_6 f
  obtain ⟨hc, hb⟩ := chkT_run h
  have h0 := hc 0 _ rfl
  have h0 := of_decide_eq_true h0; subst h0
  have h1 := hc 1 _ rfl
  have h1 := of_decide_eq_true h1; subst h1
  have h2 := hc 2 _ rfl
  have h2 := of_decide_eq_true h2; subst h2
  have h3 := hc 3 _ rfl
  have h3 := of_decide_eq_true h3; subst h3
  have h4 := hc 4 _ rfl
  have h4 := (shBeq_eq h4).symm; subst h4
  have h5 := hc 5 _ rfl
  have h5 := of_decide_eq_true h5; subst h5
  exact ⟨nl, n, f, rfl, hb⟩
 ·cases h
theorem f11_inv  {c : CS} {r : CS} (h : (f11  c).run = some r) : ∃ nl n f, c = a7 nl n f ∧ (f11B  nl n f).run = some r := by
 unfold f11 at h
 split at h
 ·rename_i nl n z_1 sh_2 z_3 f
  obtain ⟨hc, hb⟩ := chkT_run h
  have h0 := hc 0 _ rfl
  have h0 := of_decide_eq_true h0; subst h0
  have h1 := hc 1 _ rfl
  have h1 := (shBeq_eq h1).symm; subst h1
  have h2 := hc 2 _ rfl
  have h2 := of_decide_eq_true h2; subst h2
  exact ⟨nl, n, f, rfl, hb⟩
 ·cases h
theorem j18m (c c' : CS) (h : (f18m c).run = some c') : CallC Try.prog 18 1 c c' := by
 unfold f18m at h
 split at h
 ·exact (j18 16 (qEr 16) _ _ h).pre (Seen.mk' (SeenVs.refl _) (SeenOs.same (SeenOs.same (.cons (SeenO.omap0 fun _ => rfl) (SeenOs.refl _)))))
 ·exact j18 16 (qEr 16) _ _ h
theorem qE4 : Bm.Good Try.prog E4 := q3.addC (by kernel_rfl) j18m
theorem rngA_at {f : Nat → Nat → AV} {n i : Nat} (h : rngV f n = true) (hi : i < n) : ∃ a b : Nat, (f i 2).toI = (a : Int) ∧ (f i 3).toI = (b : Int) ∧ a < 4294967296 ∧ b < 4294967296 := by
 rw [rngV_eq] at h
 have := okFrom_iff.1 h i hi
 rw [Nat.zero_add] at this
 have this : (decide (0 ≤ (f i 2).toI) && decide ((f i 2).toI < 4294967296) && decide (0 ≤ (f i 3).toI) && decide ((f i 3).toI < 4294967296)) = true := this
 simp only [Bool.and_eq_true, decide_eq_true_eq] at this
 obtain ⟨a, ha⟩ := Int.eq_ofNat_of_zero_le this.1.1.1
 obtain ⟨b, hb⟩ := Int.eq_ofNat_of_zero_le this.1.2
 exact ⟨a, b, ha, hb, by omega, by omega⟩
theorem i7 (c : CS) (r : Nat × CS) (h : (r7 c).run = some r) : ∃ it, iterC (stepC E4 400 (loopC E4 7 0) 0 h7 ((.normal, h7) :: x7) s7_p) it c = some r := by
 obtain ⟨nl, n, f, rfl, hb⟩ := r7_inv h
 obtain ⟨hn, hb2⟩ := chkT_run hb
 have hn := hn 0 _ rfl
 rw [okNV_eq] at hn
 have hn := of_decide_eq_true hn
 have hr := ask_scan hb2; subst hr
 rw [okLV_eq]
 refine iter_scan (C := fun i => c7 nl n f i) (q := fun i => !(decide (((AV.toS (f i 4)).length : Int) > 1000))) (by simp) (by simp) (fun i hi => ?_) ?_
 ·have e := s7_eq nl n f i
  rw [lt1 hi, ix_, blt_t hi, wi1 hi hn] at e
  refine Eq.trans e ?_
  cases decide (((AV.toS (f i 4)).length : Int) > 1000) <;> rfl
 ·have e := s7_eq nl n f n
  rw [lt0] at e
  exact e
theorem qE5 : Bm.Good Try.prog E5 := qE4.addL (by kernel_rfl) rfl (by decide) (by decide) rfl i7
theorem j7 (c c' : CS) (h : (f7 c).run = some c') : ∃ m pr ros π, callC E5 m 7 0 pr ros π c = some c' := by
 obtain ⟨nl, n, f, rfl, hb⟩ := f7_inv h
 obtain ⟨hn, hb2⟩ := chkT_run hb
 have e := k7_eq nl n f
 rw [hn 0 _ rfl] at e
 refine ⟨1500, .keep, [], k7_p, e.trans ?_⟩
 rw [← hb2]
 cases okLV f n <;> rfl
theorem qE6 : Bm.Good Try.prog E6 := qE5.addR qE5 (by kernel_rfl) j7
theorem good_eq {f : Nat → Nat → AV} {i a b bl : Nat} (ha : (f i 2).toI = (a : Int)) (hb : (f i 3).toI = (b : Int)) : goodO (bl : Int) (opAt f i) = (!(decide ((b : Int) < 1)) && !(decide ((a : Int) + (b : Int) > (bl : Int))) && !(decide ((f i 5).toI < 0)) && !((f i 6).toI != 0 && decide ((f i 6).toI ≤ (f i 5).toI)) && !(((f i 1).toB || (f i 6).toI != 0) && (((f i 4).toS.length : Int) != 8 * (b : Int)))) := by
 rw [← ha, ← hb]; rfl
theorem i9 (c : CS) (r : Nat × CS) (h : (r9 c).run = some r) : ∃ it, iterC (stepC E6 400 (loopC E6 9 0) 0 h9 ((.normal, h9) :: x9) s9_p) it c = some r := by
 obtain ⟨bl, nl, n, f, rfl, hb⟩ := r9_inv h
 obtain ⟨hn, hb2⟩ := chkT_run hb
 have hr := hn 1 _ rfl
 have h1 := not_lt (hn 2 _ rfl)
 have h2 := not_gt (hn 3 _ rfl)
 have hn := le_of (hn 0 _ rfl)
 obtain ⟨z, rfl⟩ := Int.eq_ofNat_of_zero_le (show 0 ≤ bl by omega)
 have hr2 := ask_scan hb2; subst hr2
 rw [okGV_eq]
 refine iter_scan (C := fun i => c9 (z : Int) nl n f i) (q := fun i => goodO (z : Int) (opAt f i)) (by simp) (by simp) (fun i hi => ?_) ?_
 ·obtain ⟨a, b, ha, hb, la, lb⟩ := rngA_at hr hi
  have e := s9_eq (z : Int) nl n f i
  rw [lt1 hi, ix_, blt_t hi, wrap_i64s (by omega), ha, hb, wu (a := a) (by omega), wu (a := b) (by omega), wu (a := z) (by omega), wadu (a := a) (b := b) (by omega), wi (a := b) (by omega), w8 (a := b) (by omega)] at e
  refine Eq.trans e ?_
  rw [good_eq ha hb, show decide ((b : Int) > 0) = !(decide ((b : Int) < 1)) from by by_cases h : (b : Int) < 1 <;> simp [h] <;> omega,
   show decide (((a + b : Nat) : Int) ≤ (z : Int)) = !(decide ((a : Int) + (b : Int) > (z : Int))) from by by_cases h : (a : Int) + (b : Int) > (z : Int) <;> simp [h] <;> omega,
   show ((8 * b : Nat) : Int) = 8 * (b : Int) from by simp]
  cases (f i 1).toB <;> cases decide ((b : Int) < 1) <;> cases decide ((a : Int) + (b : Int) > (z : Int)) <;> cases decide ((f i 5).toI < 0) <;> cases ((f i 6).toI != 0) <;> cases decide ((f i 6).toI ≤ (f i 5).toI) <;> cases (((f i 4).toS.length : Int) != 8 * (b : Int)) <;> rfl
 ·have e := s9_eq (z : Int) nl n f n
  rw [lt0] at e
  exact e
theorem qE7 : Bm.Good Try.prog E7 := qE6.addL (by kernel_rfl) rfl (by decide) (by decide) rfl i9
theorem i10 (c : CS) (r : Nat × CS) (h : (r10 c).run = some r) : ∃ it, iterC (stepC E7 400 (loopC E7 10 0) 0 h10 ((.normal, h10) :: x10) s10_p) it c = some r := by
 obtain ⟨nl, n, f, bl, rfl, hb⟩ := r10_inv h
 obtain ⟨hn, hb2⟩ := chkT_run hb
 have hr := hn 1 _ rfl
 have h1 := not_lt (hn 2 _ rfl)
 have h2 := not_gt (hn 3 _ rfl)
 have hn := le_of (hn 0 _ rfl)
 obtain ⟨z, rfl⟩ := Int.eq_ofNat_of_zero_le (show 0 ≤ bl by omega)
 have hr2 := ask_scan hb2; subst hr2
 rw [okGV_eq]
 refine iter_scan (C := fun i => c10 nl n f (z : Int) i) (q := fun i => goodO (z : Int) (opAt f i)) (by simp) (by simp) (fun i hi => ?_) ?_
 ·obtain ⟨a, b, ha, hb, la, lb⟩ := rngA_at hr hi
  have e := s10_eq nl n f (z : Int) i
  rw [lt1 hi, ix_, blt_t hi, wrap_i64s (by omega), ha, hb, wu (a := a) (by omega), wu (a := b) (by omega), wu (a := z) (by omega), wadu (a := a) (b := b) (by omega), wi (a := b) (by omega), w8 (a := b) (by omega)] at e
  refine Eq.trans e ?_
  rw [good_eq ha hb, show decide (((a + b : Nat) : Int) > (z : Int)) = decide ((a : Int) + (b : Int) > (z : Int)) from by rw [decide_eq_decide]; omega,
   show ((8 * b : Nat) : Int) = 8 * (b : Int) from by simp]
  cases (f i 1).toB <;> cases decide ((b : Int) < 1) <;> cases decide ((a : Int) + (b : Int) > (z : Int)) <;> cases decide ((f i 5).toI < 0) <;> cases ((f i 6).toI != 0) <;> cases decide ((f i 6).toI ≤ (f i 5).toI) <;> cases (((f i 4).toS.length : Int) != 8 * (b : Int)) <;> rfl
 ·have e := s10_eq nl n f (z : Int) n
  rw [lt0] at e
  exact e
theorem qE8 : Bm.Good Try.prog E8 := qE7.addL (by kernel_rfl) rfl (by decide) (by decide) rfl i10
theorem jG {k : Nat} {π : Plan} (hk : ∀ nl n f bl, callC E8 1500 k 0 .keep [] π (a9 nl n f bl) = cond (decide ((n : Int) > 16)) (some (CS.mk [.bool false] [])) (cond (decide (bl < 1)) (some (CS.mk [.bool false] [])) (cond (decide (bl > 64)) (some (CS.mk [.bool false] [])) (cond (Nat.ble n 1000) (cond (rngV f n) (cond (okGV bl f n) (some (CS.mk [.bool true] [])) (some (CS.mk [.bool false] []))) none) none)))) (c c' : CS) (h : (f9 c).run = some c') : ∃ m pr ros π, callC E8 m k 0 pr ros π c = some c' := by
 obtain ⟨nl, n, f, bl, rfl, hb⟩ := f9_inv h
 obtain ⟨hn, hb2⟩ := chkT_run hb
 have e := hk nl n f bl
 rw [hn 0 _ rfl, okGV_eq] at e
 refine ⟨1500, .keep, [], π, e.trans ?_⟩
 rw [← hb2, gV_eq]
 unfold gF
 by_cases h1 : (n : Int) > 16
 ·rw [decide_eq_true h1]; rfl
 ·rw [decide_eq_false h1, ble_t (show n ≤ 1000 by omega)]
  cases decide (bl < 1) <;> cases decide (bl > 64) <;> cases okG bl f n <;> rfl
theorem qE9 : Bm.Good Try.prog E9 := (qE8.addR qE8 (by kernel_rfl) (jG k9_eq)).addR qE8 (by kernel_rfl) (jG k10_eq)
theorem cntW_le (f : Nat → Nat → AV) : ∀ i, cntW f i ≤ i
 | 0 => Nat.le_refl _
 | i + 1 => by
   have := cntW_le f i
   simp only [cntW]
   cases ((f i 1).toB && !((f i 7).toB)) <;> simp <;> omega
theorem i11 (c : CS) (r : Nat × CS) (h : (r11 c).run = some r) : Loops (stepC E9 400 (loopC E9 11 0) 0 h11 ((.normal, h11) :: x11) s11_p) c r.1 r.2 := by
 obtain ⟨nl, n, f, rfl, hb⟩ := r11_inv h
 obtain ⟨hn, hb2⟩ := chkT_run hb
 have hn := le_of (hn 0 _ rfl)
 clear h hb
 rw [cntV_eq] at hb2
 simp only [T.run, Option.some.injEq] at hb2; subst hb2
 refine Loops.for (C := fun i => c11 (cntW f i) nl n f i) (n := n) (k := 0) (fun i hi => ?_) ⟨_, ?_, Seen.refl _⟩
 ·have hc := cntW_le f i
  have e := s11_eq (cntW f i) nl n f i
  rw [lt1 hi, ix_, blt_t hi, wrap_i64s (by omega), wrap_i64s (by omega)] at e
  simp only [cntW]
  cases hw : (f i 1).toB <;> cases hv : (f i 7).toB <;> rw [hw, hv] at e <;> exact ⟨_, e, Seen.refl _⟩
 ·have e := s11_eq (cntW f n) nl n f n
  rw [lt0] at e
  exact e
theorem qEA : Bm.Good Try.prog EA := qE9.addS (by kernel_rfl) rfl (by decide) (by decide) rfl i11
theorem j11 (c c' : CS) (h : (f11 c).run = some c') : ∃ m pr ros π, callC EA m 11 0 pr ros π c = some c' := by
 obtain ⟨nl, n, f, rfl, hb⟩ := f11_inv h
 obtain ⟨hn, hb2⟩ := chkT_run hb
 have e := k11_eq nl n f
 rw [hn 0 _ rfl] at e
 exact ⟨1500, .keep, [], k11_p, e.trans hb2⟩
theorem qEB : Bm.Good Try.prog EB := qEA.addR qEA (by kernel_rfl) j11
end Go.Proofs.Ytmjmhpbncfjnpaa.history
end
section
set_option linter.unusedSimpArgs false
set_option linter.unusedVariables false
set_option maxRecDepth 20000
namespace Go.Proofs.Ytmjmhpbncfjnpaa.history
open Go Go.RowKit Go.Proofs.Ytmjmhpbncfjnpaa.Bm
def i12 (bl : Int) (nl : Bool) (n : Nat) (f : Nat → Nat → AV) (g : Nat → Nat → AV) (zc : Nat) : CS :=
 ⟨[.int .u32 bl, .ptr 0 0, .osl nl 1 0 n n 8 true, .int .i64 (n : Nat), .int .i64 0], [some (.cells [.osl true 2 0 0 0 8 true, .int .u32 0, .map 3] true), some (.tarr shO n f false), some (.tarr shO 0 g true), some (.map [] zc)]⟩
noncomputable def r12B  (bl : Int) (nl : Bool) (n : Nat) (f : Nat → Nat → AV) (g : Nat → Nat → AV) (zc : Nat) : T (Nat × CS) :=
 chkT [Nat.ble n 16] (.ask (Nat.beq (filtV f n).length 0) (.ret (1, ⟨[.int .u32 bl, .ptr 0 0], [some (.cells [.osl true 1 0 0 0 8 true, .int .u32 (mustV f n : Nat), .map 2] true), some (.tarr shO 0 (fun _ _ => .bad) true), some (.map [] zc)]⟩)) (.ret (1, ⟨[.int .u32 bl, .ptr 0 0], [some (.cells [.osl false 1 0 (filtV f n).length (filtV f n).length 8 true, .int .u32 (mustV f n : Nat), .map 2] true), some (.tarr shO (filtV f n).length (finO (filtV f n)) true), some (.map [] zc)]⟩)))
noncomputable def r12  (c : CS) : T (Nat × CS) := match c with
 | ⟨[.int .u32 bl, .ptr 0 0, .osl nl 1 0 n z_1 8 true, .int .i64 z_2, .int .i64 z_3], [some (.cells [.osl z_4 2 0 z_5 z_6 8 true, .int .u32 z_7, .map 3] true), some (.tarr sh_8 z_9 f false), some (.tarr sh_10 z_11 g true), some (.map [] zc)]⟩ => chkT [decide (n = z_1), decide ((n : Nat) = z_2), decide (0 = z_3), decide (true = z_4), decide (0 = z_5), decide (0 = z_6), decide (0 = z_7), shBeq sh_8 shO, decide (n = z_9), shBeq sh_10 shO, decide (0 = z_11)] (r12B  bl nl n f g zc)
 | _ => .fail
noncomputable def EC : Env := addL EB 12 0 1000006 h12 x12 0 r12
noncomputable def f12B  (nl : Bool) (n : Nat) (f : Nat → Nat → AV) (bl : Int) : T (CS) :=
 chkT [rngV f n] (.ret ⟨[.bool (checkV bl f n)], []⟩)
noncomputable def f12  (c : CS) : T (CS) := match c with
 | ⟨[.osl nl 0 0 n z_1 8 true, .int .u32 bl], [some (.tarr sh_2 z_3 f false)]⟩ => chkT [decide (n = z_1), shBeq sh_2 shO, decide (n = z_3)] (f12B  nl n f bl)
 | _ => .fail
noncomputable def ED : Env := addF EC 12 ⟨frRun [.asl shO, .keep] [] f12⟩
noncomputable def k12 (nl : Bool) (n : Nat) (f : Nat → Nat → AV) (bl : Int) (π : Plan) : Option CS := callC (EC) (1500) (12) (0) (.keep) ([]) π (a9 nl n f bl)
def k12_p : Plan := (.must true (.reck 1 (.must true (.fork (.fork .stop (.must true (.must true (.reck 6 (.must true (.reck 2 (.fork (.fork (.reck 1 (.fork (.must true (.fork (.fork (.fork (.fork (.reck 7 (.fork (.reck 2 (.fork (.reck 1 (.fork .stop .stop)) .stop)) .stop)) .stop) .stop) .stop) .stop)) .stop)) (.reck 1 (.fork (.must true (.fork (.fork (.fork (.fork (.must true (.reck 1 (.must true (.reck 3 (.fork (.fork (.reck 2 (.fork (.reck 1 (.fork .stop .stop)) .stop)) .stop) .stop))))) .stop) .stop) .stop) .stop)) .stop))) .stop))))))) .stop))))
theorem k12_is (nl : Bool) (n : Nat) (f : Nat → Nat → AV) (bl : Int) : k12 nl n f bl k12_p = (cond (decide (n = n)) (cond (decide (n = n)) (cond ((rngV f (n)))
 (cond (!gV bl f n)
 (some (CS.mk [(AV.bool (false))] []))
 (cond (decide (n = n)) (cond (decide ((↑n : Int) = (↑n : Int))) (cond (decide (n = n)) (cond (Nat.ble n 16)
 (cond (Nat.beq (List.length (filtV f n)) 0)
 (cond (decide (0 ≤ IntKind.wrap IntKind.i64 (IntKind.wrap IntKind.i64 bl * 8)))
 (cond (decide (IntKind.wrap IntKind.i64 (IntKind.wrap IntKind.i64 bl * 8) ≤ IntKind.wrap IntKind.i64 (IntKind.wrap IntKind.i64 bl * 8))) (cond (decide (IntKind.wrap IntKind.i64 (IntKind.wrap IntKind.i64 bl * 8) ≤ 281474976710656))
 (cond (Nat.ble (1 * Int.toNat (IntKind.wrap IntKind.i64 (IntKind.wrap IntKind.i64 bl * 8))) 281474976710656)
 (cond (Nat.ble (0 + Int.toNat (IntKind.wrap IntKind.i64 (IntKind.wrap IntKind.i64 bl * 8))) (Int.toNat (IntKind.wrap IntKind.i64 (IntKind.wrap IntKind.i64 bl * 8))))
 (cond (List.all (List.range (Int.toNat (IntKind.wrap IntKind.i64 (IntKind.wrap IntKind.i64 bl * 8)))) fun i => decide (0 ≤ byteAt (fun x j => getAt [AV.int IntKind.u8 (Int.ofNat 0)] j) (0 + i)) && decide (byteAt (fun x j => getAt [AV.int IntKind.u8 (Int.ofNat 0)] j) (0 + i) < 256))
 (cond (Nat.blt (mustV f n) 65536)
 (cond ((okDV (fun p_ q_ => AV.bad) (0) (List.length (List.map (fun i => Int.toNat (byteAt (fun x j => getAt [AV.int IntKind.u8 (Int.ofNat 0)] j) (0 + i))) (List.range (Int.toNat (IntKind.wrap IntKind.i64 (IntKind.wrap IntKind.i64 bl * 8))))))))
 (cond (Nat.blt (leftV (Int.toNat 0) 0) 17)
 (some (CS.mk [(AV.bool (Prod.fst (findV (fun x x_1 => AV.bad) 0 (mustV f n) (leftV (Int.toNat 0) 0 + 1) (fun x => false, fun x x_1 => AV.bad) (Int.toNat 0) (List.map (fun i => Int.toNat (byteAt (fun x j => getAt [AV.int IntKind.u8 (Int.ofNat 0)] j) (0 + i))) (List.range (Int.toNat (IntKind.wrap IntKind.i64 (IntKind.wrap IntKind.i64 bl * 8))))))))] []))
 none)
 none)
 none)
 none)
 none)
 none)
 none) none)
 none)
 (cond (decide (0 ≤ IntKind.wrap IntKind.i64 (IntKind.wrap IntKind.i64 bl * 8)))
 (cond (decide (IntKind.wrap IntKind.i64 (IntKind.wrap IntKind.i64 bl * 8) ≤ IntKind.wrap IntKind.i64 (IntKind.wrap IntKind.i64 bl * 8))) (cond (decide (IntKind.wrap IntKind.i64 (IntKind.wrap IntKind.i64 bl * 8) ≤ 281474976710656))
 (cond (Nat.ble (1 * Int.toNat (IntKind.wrap IntKind.i64 (IntKind.wrap IntKind.i64 bl * 8))) 281474976710656)
 (cond (Nat.ble (0 + Int.toNat (IntKind.wrap IntKind.i64 (IntKind.wrap IntKind.i64 bl * 8))) (Int.toNat (IntKind.wrap IntKind.i64 (IntKind.wrap IntKind.i64 bl * 8))))
 (cond (List.all (List.range (Int.toNat (IntKind.wrap IntKind.i64 (IntKind.wrap IntKind.i64 bl * 8)))) fun i => decide (0 ≤ byteAt (fun x j => getAt [AV.int IntKind.u8 (Int.ofNat 0)] j) (0 + i)) && decide (byteAt (fun x j => getAt [AV.int IntKind.u8 (Int.ofNat 0)] j) (0 + i) < 256))
 (cond (decide (List.length (filtV f n) = List.length (filtV f n))) (cond (decide (List.length (filtV f n) = List.length (filtV f n))) (cond (Nat.ble (List.length (filtV f n)) 16)
 (cond (Nat.blt (mustV f n) 65536)
 (cond ((okDV (finO ((filtV f (n)))) (List.length (filtV f n)) (List.length (List.map (fun i => Int.toNat (byteAt (fun x j => getAt [AV.int IntKind.u8 (Int.ofNat 0)] j) (0 + i))) (List.range (Int.toNat (IntKind.wrap IntKind.i64 (IntKind.wrap IntKind.i64 bl * 8))))))))
 (cond (Nat.blt (leftV (Int.toNat 0) (List.length (filtV f n))) 17)
 (some (CS.mk [(AV.bool (Prod.fst (findV (finO (filtV f n)) (List.length (filtV f n)) (mustV f n) (leftV (Int.toNat 0) (List.length (filtV f n)) + 1) (fun x => false, fun x x_1 => AV.bad) (Int.toNat 0) (List.map (fun i => Int.toNat (byteAt (fun x j => getAt [AV.int IntKind.u8 (Int.ofNat 0)] j) (0 + i))) (List.range (Int.toNat (IntKind.wrap IntKind.i64 (IntKind.wrap IntKind.i64 bl * 8))))))))] []))
 none)
 none)
 none)
 none) none) none)
 none)
 none)
 none)
 none) none)
 none))
 none) none) none) none))
 none) none) none) := by kernel_rfl
theorem k12_eq (nl : Bool) (n : Nat) (f : Nat → Nat → AV) (bl : Int) : k12 nl n f bl k12_p = (cond (rngV f (n))
 (cond (gV bl f n)
 (cond (Nat.ble n 16)
 (cond (Nat.beq (List.length (filtV f n)) 0)
 (cond (decide (0 ≤ IntKind.wrap IntKind.i64 (IntKind.wrap IntKind.i64 bl * 8)))
 (cond (decide (IntKind.wrap IntKind.i64 (IntKind.wrap IntKind.i64 bl * 8) ≤ 281474976710656))
 (cond (Nat.ble (1 * Int.toNat (IntKind.wrap IntKind.i64 (IntKind.wrap IntKind.i64 bl * 8))) 281474976710656)
 (cond (Nat.ble (0 + Int.toNat (IntKind.wrap IntKind.i64 (IntKind.wrap IntKind.i64 bl * 8))) (Int.toNat (IntKind.wrap IntKind.i64 (IntKind.wrap IntKind.i64 bl * 8))))
 (cond (List.all (List.range (Int.toNat (IntKind.wrap IntKind.i64 (IntKind.wrap IntKind.i64 bl * 8)))) fun i => decide (0 ≤ byteAt (fun x j => getAt [AV.int IntKind.u8 (Int.ofNat 0)] j) (0 + i)) && decide (byteAt (fun x j => getAt [AV.int IntKind.u8 (Int.ofNat 0)] j) (0 + i) < 256))
 (cond (Nat.blt (mustV f n) 65536)
 (cond (okDV (fun p_ q_ => AV.bad) (0) (List.length (List.map (fun i => Int.toNat (byteAt (fun x j => getAt [AV.int IntKind.u8 (Int.ofNat 0)] j) (0 + i))) (List.range (Int.toNat (IntKind.wrap IntKind.i64 (IntKind.wrap IntKind.i64 bl * 8)))))))
 (cond (Nat.blt (leftV (Int.toNat 0) 0) 17)
 (some (CS.mk [(AV.bool (Prod.fst (findV (fun x x_1 => AV.bad) 0 (mustV f n) (leftV (Int.toNat 0) 0 + 1) (fun x => false, fun x x_1 => AV.bad) (Int.toNat 0) (List.map (fun i => Int.toNat (byteAt (fun x j => getAt [AV.int IntKind.u8 (Int.ofNat 0)] j) (0 + i))) (List.range (Int.toNat (IntKind.wrap IntKind.i64 (IntKind.wrap IntKind.i64 bl * 8))))))))] []))
 none)
 none)
 none)
 none)
 none)
 none)
 none)
 none)
 (cond (decide (0 ≤ IntKind.wrap IntKind.i64 (IntKind.wrap IntKind.i64 bl * 8)))
 (cond (decide (IntKind.wrap IntKind.i64 (IntKind.wrap IntKind.i64 bl * 8) ≤ 281474976710656))
 (cond (Nat.ble (1 * Int.toNat (IntKind.wrap IntKind.i64 (IntKind.wrap IntKind.i64 bl * 8))) 281474976710656)
 (cond (Nat.ble (0 + Int.toNat (IntKind.wrap IntKind.i64 (IntKind.wrap IntKind.i64 bl * 8))) (Int.toNat (IntKind.wrap IntKind.i64 (IntKind.wrap IntKind.i64 bl * 8))))
 (cond (List.all (List.range (Int.toNat (IntKind.wrap IntKind.i64 (IntKind.wrap IntKind.i64 bl * 8)))) fun i => decide (0 ≤ byteAt (fun x j => getAt [AV.int IntKind.u8 (Int.ofNat 0)] j) (0 + i)) && decide (byteAt (fun x j => getAt [AV.int IntKind.u8 (Int.ofNat 0)] j) (0 + i) < 256))
 (cond (Nat.ble (List.length (filtV f n)) 16)
 (cond (Nat.blt (mustV f n) 65536)
 (cond (okDV (finO ((filtV f (n)))) (List.length (filtV f n)) (List.length (List.map (fun i => Int.toNat (byteAt (fun x j => getAt [AV.int IntKind.u8 (Int.ofNat 0)] j) (0 + i))) (List.range (Int.toNat (IntKind.wrap IntKind.i64 (IntKind.wrap IntKind.i64 bl * 8)))))))
 (cond (Nat.blt (leftV (Int.toNat 0) (List.length (filtV f n))) 17)
 (some (CS.mk [(AV.bool (Prod.fst (findV (finO (filtV f n)) (List.length (filtV f n)) (mustV f n) (leftV (Int.toNat 0) (List.length (filtV f n)) + 1) (fun x => false, fun x x_1 => AV.bad) (Int.toNat 0) (List.map (fun i => Int.toNat (byteAt (fun x j => getAt [AV.int IntKind.u8 (Int.ofNat 0)] j) (0 + i))) (List.range (Int.toNat (IntKind.wrap IntKind.i64 (IntKind.wrap IntKind.i64 bl * 8))))))))] []))
 none)
 none)
 none)
 none)
 none)
 none)
 none)
 none)
 none))
 none)
 (some (CS.mk [(AV.bool (false))] [])))
 none) := by
 rw [k12_is]
 try simp only [eq_self, decide_true, beq_self_eq_true, Nat.beq_refl, ble_self, Int.le_refl, Nat.le_refl]
 cases (rngV f (n)) with
 | true =>
   cases (gV bl f n) with
   | true =>
     cases (Nat.ble n 16) with
     | true =>
       cases (Nat.beq (List.length (filtV f n)) 0) with
       | true =>
         cases (decide (0 ≤ IntKind.wrap IntKind.i64 (IntKind.wrap IntKind.i64 bl * 8))) with
         | true =>
           cases (decide (IntKind.wrap IntKind.i64 (IntKind.wrap IntKind.i64 bl * 8) ≤ 281474976710656)) with
           | true =>
             cases (Nat.ble (1 * Int.toNat (IntKind.wrap IntKind.i64 (IntKind.wrap IntKind.i64 bl * 8))) 281474976710656) with
             | true =>
               cases (Nat.ble (0 + Int.toNat (IntKind.wrap IntKind.i64 (IntKind.wrap IntKind.i64 bl * 8))) (Int.toNat (IntKind.wrap IntKind.i64 (IntKind.wrap IntKind.i64 bl * 8)))) with
               | true =>
                 cases (List.all (List.range (Int.toNat (IntKind.wrap IntKind.i64 (IntKind.wrap IntKind.i64 bl * 8)))) fun i => decide (0 ≤ byteAt (fun x j => getAt [AV.int IntKind.u8 (Int.ofNat 0)] j) (0 + i)) && decide (byteAt (fun x j => getAt [AV.int IntKind.u8 (Int.ofNat 0)] j) (0 + i) < 256)) with
                 | true =>
                   cases (Nat.blt (mustV f n) 65536) with
                   | true =>
                     cases (okDV (fun p_ q_ => AV.bad) (0) (List.length (List.map (fun i => Int.toNat (byteAt (fun x j => getAt [AV.int IntKind.u8 (Int.ofNat 0)] j) (0 + i))) (List.range (Int.toNat (IntKind.wrap IntKind.i64 (IntKind.wrap IntKind.i64 bl * 8))))))) with
                     | true =>
                       cases (Nat.blt (leftV (Int.toNat 0) 0) 17) with
                       | true =>
                         rfl
                       | false =>
                         rfl
                     | false =>
                       rfl
                   | false =>
                     rfl
                 | false =>
                   rfl
               | false =>
                 rfl
             | false =>
               rfl
           | false =>
             rfl
         | false =>
           rfl
       | false =>
         cases (decide (0 ≤ IntKind.wrap IntKind.i64 (IntKind.wrap IntKind.i64 bl * 8))) with
         | true =>
           cases (decide (IntKind.wrap IntKind.i64 (IntKind.wrap IntKind.i64 bl * 8) ≤ 281474976710656)) with
           | true =>
             cases (Nat.ble (1 * Int.toNat (IntKind.wrap IntKind.i64 (IntKind.wrap IntKind.i64 bl * 8))) 281474976710656) with
             | true =>
               cases (Nat.ble (0 + Int.toNat (IntKind.wrap IntKind.i64 (IntKind.wrap IntKind.i64 bl * 8))) (Int.toNat (IntKind.wrap IntKind.i64 (IntKind.wrap IntKind.i64 bl * 8)))) with
               | true =>
                 cases (List.all (List.range (Int.toNat (IntKind.wrap IntKind.i64 (IntKind.wrap IntKind.i64 bl * 8)))) fun i => decide (0 ≤ byteAt (fun x j => getAt [AV.int IntKind.u8 (Int.ofNat 0)] j) (0 + i)) && decide (byteAt (fun x j => getAt [AV.int IntKind.u8 (Int.ofNat 0)] j) (0 + i) < 256)) with
                 | true =>
                   cases (Nat.ble (List.length (filtV f n)) 16) with
                   | true =>
                     cases (Nat.blt (mustV f n) 65536) with
                     | true =>
                       cases (okDV (finO ((filtV f (n)))) (List.length (filtV f n)) (List.length (List.map (fun i => Int.toNat (byteAt (fun x j => getAt [AV.int IntKind.u8 (Int.ofNat 0)] j) (0 + i))) (List.range (Int.toNat (IntKind.wrap IntKind.i64 (IntKind.wrap IntKind.i64 bl * 8))))))) with
                       | true =>
                         cases (Nat.blt (leftV (Int.toNat 0) (List.length (filtV f n))) 17) with
                         | true =>
                           rfl
                         | false =>
                           rfl
                       | false =>
                         rfl
                     | false =>
                       rfl
                   | false =>
                     rfl
                 | false =>
                   rfl
               | false =>
                 rfl
             | false =>
               rfl
           | false =>
             rfl
         | false =>
           rfl
     | false =>
       rfl
   | false =>
     rfl
 | false =>
   rfl
end Go.Proofs.Ytmjmhpbncfjnpaa.history
end
section
set_option linter.unusedSimpArgs false
set_option linter.unusedVariables false
set_option maxRecDepth 20000
namespace Go.Proofs.Ytmjmhpbncfjnpaa.history
open Go Go.RowKit Go.Proofs.Ytmjmhpbncfjnpaa.Bm
theorem r12_inv  {c : CS} {r : Nat × CS} (h : (r12  c).run = some r) : ∃ bl nl n f g zc, c = i12 bl nl n f g zc ∧ (r12B  bl nl n f g zc).run = some r := by
 unfold r12 at h
 split at h
 ·rename_i bl nl n z_1 z_2 z_3 z_4 z_5 z_6 z_7 sh_8 z_9 f sh_10 z_11 g zc
  obtain ⟨hc, hb⟩ := chkT_run h
  have h0 := hc 0 _ rfl
  have h0 := of_decide_eq_true h0; subst h0
  have h1 := hc 1 _ rfl
  have h1 := of_decide_eq_true h1; subst h1
  have h2 := hc 2 _ rfl
  have h2 := of_decide_eq_true h2; subst h2
  have h3 := hc 3 _ rfl
  have h3 := of_decide_eq_true h3; subst h3
  have h4 := hc 4 _ rfl
  have h4 := of_decide_eq_true h4; subst h4
  have h5 := hc 5 _ rfl
  have h5 := of_decide_eq_true h5; subst h5
  have h6 := hc 6 _ rfl
  have h6 := of_decide_eq_true h6; subst h6
  have h7 := hc 7 _ rfl
  have h7 := (shBeq_eq h7).symm; subst h7
  have h8 := hc 8 _ rfl
  have h8 := of_decide_eq_true h8; subst h8
  have h9 := hc 9 _ rfl
  have h9 := (shBeq_eq h9).symm; subst h9
  have h10 := hc 10 _ rfl
  have h10 := of_decide_eq_true h10; subst h10
  exact ⟨bl, nl, n, f, g, zc, rfl, hb⟩
 ·cases h
theorem f12_inv  {c : CS} {r : CS} (h : (f12  c).run = some r) : ∃ nl n f bl, c = a9 nl n f bl ∧ (f12B  nl n f bl).run = some r := by
 unfold f12 at h
 split at h
 ·rename_i nl n z_1 bl sh_2 z_3 f
  obtain ⟨hc, hb⟩ := chkT_run h
  have h0 := hc 0 _ rfl
  have h0 := of_decide_eq_true h0; subst h0
  have h1 := hc 1 _ rfl
  have h1 := (shBeq_eq h1).symm; subst h1
  have h2 := hc 2 _ rfl
  have h2 := of_decide_eq_true h2; subst h2
  exact ⟨nl, n, f, bl, rfl, hb⟩
 ·cases h
theorem rdO_len (f : Nat → Nat → AV) (n : Nat) : (rdO f n).length = n := by simp [rdO]
theorem rdO_succ (f : Nat → Nat → AV) (n : Nat) : rdO f (n + 1) = rdO f n ++ [opAt f n] := by simp [rdO, List.range_succ]
theorem opAt_fin (L : List Opn) (i : Nat) : opAt (finO L) i = L.getD i nilO := by
 cases h : L.getD i nilO
 simp only [opAt, finO, h, Opn.cell, AV.toI, AV.toB, AV.toS]
def IsO (f : Nat → Nat → AV) (L : List Opn) : Prop := ∀ i, i < L.length → opAt f i = L.getD i nilO
theorem isO_fin (L : List Opn) : IsO (finO L) L := fun i _ => opAt_fin L i
theorem isO_zero {f : Nat → Nat → AV} {L : List Opn} (h : IsO f L) : IsO (fun p q => f (0 + p) q) L := fun i hi => by
 show opAt (fun p q => f (0 + p) q) i = _
 rw [← h i hi]
 simp only [opAt, Nat.zero_add]
theorem isO_join {f g : Nat → Nat → AV} {L M : List Opn} {n : Nat} (hn : n = L.length) (hf : IsO f L) (hg : IsO g M) : IsO (fjoin f n g) (L ++ M) := by
 subst hn
 intro i hi
 by_cases h : i < L.length
 ·have e : opAt (fjoin f L.length g) i = opAt f i := by
   simp only [opAt, fjoin, blt_t h, cond_true]
  rw [e, hf i h, List.getD_eq_getElem?_getD, List.getD_eq_getElem?_getD, List.getElem?_append_left h]
 ·rw [List.length_append] at hi
  have e : opAt (fjoin f L.length g) i = opAt g (i - L.length) := by
   simp only [opAt, fjoin, blt_f h, cond_false]
  rw [e, hg (i - L.length) (by omega), List.getD_eq_getElem?_getD, List.getD_eq_getElem?_getD, List.getElem?_append_right (by omega)]
theorem isO_one (x : Opn) : IsO (rowsOf 8 [.int .u64 x.cl, .bool x.w, .int .u32 x.fr, .int .u32 x.ct, .str x.d, .int .i64 x.b, .int .i64 x.e, .bool x.nv] 1) [x] := fun i hi => by
 simp at hi; subst hi; rfl
theorem SeenO.ops {f : Nat → Nat → AV} {n : Nat} {L : List Opn} {b : Bool} (hn : n = L.length) (h : IsO f L) : SeenO (.tarr shO n f b) (.tarr shO L.length (finO L) b) := by
 subst hn
 refine SeenO.arr fun i hi j s hs => ?_
 have e := h i hi
 have h0 : (f i 0).toI = (L.getD i nilO).cl := congrArg Opn.cl e
 have h1 : (f i 1).toB = (L.getD i nilO).w := congrArg Opn.w e
 have h2 : (f i 2).toI = (L.getD i nilO).fr := congrArg Opn.fr e
 have h3 : (f i 3).toI = (L.getD i nilO).ct := congrArg Opn.ct e
 have h4 : (f i 4).toS = (L.getD i nilO).d := congrArg Opn.d e
 have h5 : (f i 5).toI = (L.getD i nilO).b := congrArg Opn.b e
 have h6 : (f i 6).toI = (L.getD i nilO).e := congrArg Opn.e e
 have h7 : (f i 7).toB = (L.getD i nilO).nv := congrArg Opn.nv e
 match j, hs with
 | 0, hs => simp at hs; subst hs; show AV.int .u64 (f i 0).toI = _; rw [h0]; rfl
 | 1, hs => simp at hs; subst hs; show AV.bool (f i 1).toB = _; rw [h1]; rfl
 | 2, hs => simp at hs; subst hs; show AV.int .u32 (f i 2).toI = _; rw [h2]; rfl
 | 3, hs => simp at hs; subst hs; show AV.int .u32 (f i 3).toI = _; rw [h3]; rfl
 | 4, hs => simp at hs; subst hs; show AV.str (f i 4).toS = _; rw [h4]; rfl
 | 5, hs => simp at hs; subst hs; show AV.int .i64 (f i 5).toI = _; rw [h5]; rfl
 | 6, hs => simp at hs; subst hs; show AV.int .i64 (f i 6).toI = _; rw [h6]; rfl
 | 7, hs => simp at hs; subst hs; show AV.bool (f i 7).toB = _; rw [h7]; rfl
 | j + 8, hs => simp at hs
theorem filt_t {f : Nat → Nat → AV} {i : Nat} (h : mayO (opAt f i) = true) : filtO f (i + 1) = filtO f i ++ [opAt f i] := by
 simp [filtO, rdO_succ, h]
theorem filt_f {f : Nat → Nat → AV} {i : Nat} (h : mayO (opAt f i) = false) : filtO f (i + 1) = filtO f i := by
 simp [filtO, rdO_succ, h]
theorem filt_le (f : Nat → Nat → AV) (n : Nat) : (filtO f n).length ≤ n := by
 have := List.length_filter_le mayO (rdO f n)
 rw [rdO_len] at this
 exact this
theorem mustL_app (x : Opn) : ∀ (L : List Opn) (k : Nat), mustL (L ++ [x]) k = mustL L k ||| (cond (x.e != 0) (2 ^ (k + L.length)) 0)
 | [], k => by
   show (cond (x.e != 0) (2 ^ k) 0) ||| 0 = 0 ||| _
   rw [Nat.or_zero, Nat.zero_or]; rfl
 | y :: l, k => by
   show _ ||| mustL (l ++ [x]) (k + 1) = (_ ||| mustL l (k + 1)) ||| _
   rw [mustL_app x l (k + 1), ← Nat.or_assoc, show k + 1 + l.length = k + (y :: l).length by simp; omega]
theorem mustL_lt : ∀ (L : List Opn) (k : Nat), mustL L k < 2 ^ (k + L.length)
 | [], k => Nat.two_pow_pos _
 | x :: l, k => by
   have h := mustL_lt l (k + 1)
   rw [show k + 1 + l.length = k + (x :: l).length by simp; omega] at h
   refine Nat.or_lt_two_pow ?_ h
   cases (x.e != 0) with
   | true => exact Nat.pow_lt_pow_right (by omega) (by simp)
   | false => exact Nat.two_pow_pos _
theorem must_lt {f : Nat → Nat → AV} {n : Nat} (hn : n ≤ 16) : mustN f n < 65536 := by
 have h := mustL_lt (filtO f n) 0
 have hl := filt_le f n
 refine Nat.lt_of_lt_of_le h ?_
 rw [show (65536 : Nat) = 2 ^ 16 by decide]
 exact Nat.pow_le_pow_right (by omega) (by omega)
theorem must_t {f : Nat → Nat → AV} {i : Nat} (h : mayO (opAt f i) = true) : mustN f (i + 1) = mustN f i ||| (cond ((f i 6).toI != 0) (2 ^ (filtO f i).length) 0) := by
 unfold mustN
 rw [filt_t h, mustL_app, Nat.zero_add]; rfl
theorem must_f {f : Nat → Nat → AV} {i : Nat} (h : mayO (opAt f i) = false) : mustN f (i + 1) = mustN f i := by
 unfold mustN
 rw [filt_f h]
theorem grow64 {n : Nat} (h : n ≤ 2000000) : growB 64 n = true := by
 unfold growB
 rw [ble_t (show n ≤ 281474976710656 by omega), ble_t (show n * 64 ≤ 17179869184 by omega)]; rfl
noncomputable def st12 (bl : Int) (nl : Bool) (n : Nat) (f : Nat → Nat → AV) (zc : Nat) (L : List Opn) (mu i : Nat) : CS := match L with
 | [] => c12n bl nl n f mu zc i
 | _ :: _ => c12 bl nl n f L.length (finO L) mu zc i
def pi12 : CS → Plan
 | ⟨_, some (.cells [.nilSlice, _, _] _) :: _⟩ => s12n_p
 | _ => s12_p
noncomputable abbrev stp12 (c : CS) : Option (Nat × CS) := stepC EB 400 (loopC EB 12 0) 0 h12 ((.normal, h12) :: x12) (pi12 c) c
theorem st12_nn {bl : Int} {nl : Bool} {n : Nat} {f : Nat → Nat → AV} {zc : Nat} {L : List Opn} {mu i : Nat} (h : L ≠ []) : st12 bl nl n f zc L mu i = c12 bl nl n f L.length (finO L) mu zc i := by
 cases L with
 | nil => exact absurd rfl h
 | cons x l => rfl
theorem seen12 {bl : Int} {nl : Bool} {n : Nat} {f g : Nat → Nat → AV} {zc m mu i : Nat} {L : List Opn} {w u : Int} (hL : L ≠ []) (hm : m = L.length) (hg : IsO g L) (hw : w = (i : Nat)) (hu : u = (mu : Nat)) :
  Seen ⟨[.int .u32 bl, .ptr 0 0, .osl nl 1 0 n n 8 true, .int .i64 (n : Int), .int .i64 w], [some (.cells [.osl false 2 0 m m 8 true, .int .u32 u, .map 3] true), some (.tarr shO n f false), some (.tarr shO m g true), some (.map [] zc)]⟩ (st12 bl nl n f zc L mu i) := by
 rw [st12_nn hL]
 subst hw; subst hu
 exact Seen.mk' (SeenVs.refl _) (.cons (SeenO.cells (.cons (SeenV.osl hm) (SeenVs.refl _))) (SeenOs.same (.cons (SeenO.ops hm hg) (SeenOs.refl _))))
theorem seen12n {bl : Int} {nl : Bool} {n : Nat} {f g : Nat → Nat → AV} {zc mu i : Nat} {w : Int} (hw : w = (i : Nat)) :
  Seen ⟨[.int .u32 bl, .ptr 0 0, .osl nl 1 0 n n 8 true, .int .i64 (n : Int), .int .i64 w], [some (.cells [.osl true 2 0 0 0 8 true, .int .u32 (mu : Nat), .map 3] true), some (.tarr shO n f false), some (.tarr shO 0 g true), some (.map [] zc)]⟩ (st12 bl nl n f zc [] mu i) := by
 subst hw
 exact Seen.mk' (SeenVs.refl _) (.cons (SeenO.cells (.cons SeenV.nil (SeenVs.refl _))) (SeenOs.same (.skip (SeenOs.refl _))))
theorem round12 (bl : Int) (nl : Bool) (n : Nat) (f : Nat → Nat → AV) (zc : Nat) (hn : n ≤ 16) (i : Nat) (hi : i < n) :
  ∃ c1, stp12 (st12 bl nl n f zc (filtO f i) (mustN f i) i) = some (0, c1) ∧ Seen c1 (st12 bl nl n f zc (filtO f (i + 1)) (mustN f (i + 1)) (i + 1)) := by
 have hle := filt_le f i
 have hmu := must_lt (f := f) (n := i) (by omega)
 have hbits : Env.bits EB = bitsR := qEB.env.bits
 have hmay : mayO (opAt f i) = (!(f i 7).toB && ((f i 1).toB || (f i 6).toI != 0)) := rfl
 have hne : ((f i 6).toI != 0) = !((f i 6).toI == 0) := rfl
 -- a further one
 have more : ∀ (g : Nat → Nat → AV) (u : Int), mayO (opAt f i) = true → IsO g (filtO f i ++ [opAt f i]) → u = ((mustN f i ||| (cond ((f i 6).toI != 0) (2 ^ (filtO f i).length) 0) : Nat) : Int) →
   Seen ⟨[.int .u32 bl, .ptr 0 0, .osl nl 1 0 n n 8 true, .int .i64 (n : Int), .int .i64 (((i + 1 : Nat) : Int))], [some (.cells [.osl false 2 0 ((filtO f i).length + 1) ((filtO f i).length + 1) 8 true, .int .u32 u, .map 3] true), some (.tarr shO n f false), some (.tarr shO ((filtO f i).length + 1) g true), some (.map [] zc)]⟩ (st12 bl nl n f zc (filtO f (i + 1)) (mustN f (i + 1)) (i + 1)) := fun g u hm hg hu => by
  rw [filt_t hm, must_t hm]
  exact seen12 (by simp) (by simp) hg rfl hu
 cases hL : filtO f i with
 | nil =>
   have e := s12n_eq bl nl n f (mustN f i) zc i
   rw [lt1 hi, ix_, blt_t hi, wrap_i64s (by omega), hbits, show Int.toNat 0 = 0 from rfl, bit_is (show 0 < 32 by omega), bor (show mustN f i < 4294967296 by omega) (pow_lt (show 0 < 32 by omega))] at e
   rw [hL] at more
   have one : IsO (rowsOf 8 [.int .u64 (f i 0).toI, .bool (f i 1).toB, .int .u32 (f i 2).toI, .int .u32 (f i 3).toI, .str (f i 4).toS, .int .i64 (f i 5).toI, .int .i64 (f i 6).toI, .bool (f i 7).toB] 1) ([] ++ [opAt f i]) := isO_one (opAt f i)
   show ∃ c1, stepC EB 400 (loopC EB 12 0) 0 h12 ((.normal, h12) :: x12) s12n_p (c12n bl nl n f (mustN f i) zc i) = some (0, c1) ∧ _
   cases b7 : (f i 7).toB <;> cases b1 : (f i 1).toB <;> cases b6 : ((f i 6).toI == 0) <;> rw [b7, b1, b6] at e <;> rw [hne, b6] at e <;> rw [b7, b1] at one
   all_goals first
    | (have hm : mayO (opAt f i) = false := by rw [hmay, hne, b7, b1, b6]; rfl
       refine ⟨_, e, ?_⟩
       rw [filt_f hm, must_f hm, hL]
       exact seen12n rfl)
    | (have hm : mayO (opAt f i) = true := by rw [hmay, hne, b7, b1, b6]; rfl
       refine ⟨_, e, more _ _ hm one ?_⟩
       rw [hne, b6]; first | rfl | (simp only [Bool.not_true, cond_false, Nat.or_zero]))
 | cons x l =>
   have hm0 : (filtO f i).length ≤ 16 := by omega
   have e := s12_eq bl nl n f (filtO f i).length (finO (filtO f i)) (mustN f i) zc i
   rw [lt1 hi, ix_, blt_t hi, wrap_i64s (by omega), hbits, Int.toNat_natCast, bit_is (show (filtO f i).length < 32 by omega), bor (show mustN f i < 4294967296 by omega) (pow_lt (show (filtO f i).length < 32 by omega)), ble_f (show ¬ (filtO f i).length + 1 ≤ (filtO f i).length by omega), grow64 (show (filtO f i).length + 1 ≤ 2000000 by omega), ble_t (show 0 + (filtO f i).length ≤ (filtO f i).length by omega)] at e
   have one : IsO (fjoin (fun p q => finO (filtO f i) (0 + p) q) (filtO f i).length (rowsOf 8 [.int .u64 (f i 0).toI, .bool (f i 1).toB, .int .u32 (f i 2).toI, .int .u32 (f i 3).toI, .str (f i 4).toS, .int .i64 (f i 5).toI, .int .i64 (f i 6).toI, .bool (f i 7).toB] 1)) (filtO f i ++ [opAt f i]) := isO_join rfl (isO_zero (isO_fin (filtO f i))) (isO_one (opAt f i))
   have hs : st12 bl nl n f zc (x :: l) (mustN f i) i = c12 bl nl n f (filtO f i).length (finO (filtO f i)) (mustN f i) zc i := by rw [hL]; rfl
   rw [hs]
   show ∃ c1, stepC EB 400 (loopC EB 12 0) 0 h12 ((.normal, h12) :: x12) s12_p (c12 bl nl n f (filtO f i).length (finO (filtO f i)) (mustN f i) zc i) = some (0, c1) ∧ _
   cases b7 : (f i 7).toB <;> cases b1 : (f i 1).toB <;> cases b6 : ((f i 6).toI == 0) <;> rw [b7, b1, b6] at e <;> rw [hne, b6] at e <;> rw [b7, b1] at one
   all_goals first
    | (have hm : mayO (opAt f i) = false := by rw [hmay, hne, b7, b1, b6]; rfl
       refine ⟨_, e, ?_⟩
       rw [filt_f hm, must_f hm, st12_nn (by rw [hL]; simp)]
       exact Seen.refl _)
    | (have hm : mayO (opAt f i) = true := by rw [hmay, hne, b7, b1, b6]; rfl
       refine ⟨_, e, more _ _ hm one ?_⟩
       rw [hne, b6]; first | rfl | (simp only [Bool.not_true, cond_false, Nat.or_zero]))
theorem il12 (c : CS) (r : Nat × CS) (h : (r12 c).run = some r) : Loops stp12 c r.1 r.2 := by
 obtain ⟨bl, nl, n, f, g, zc, rfl, hb⟩ := r12_inv h
 obtain ⟨hn, hb2⟩ := chkT_run hb
 have hn := le_of (hn 0 _ rfl)
 clear h hb
 rw [filtV_eq, mustV_eq] at hb2
 refine Loops.see (c1 := st12 bl nl n f zc (filtO f 0) (mustN f 0) 0) (seen12n rfl) ?_
 cases hL : filtO f n with
 | nil =>
   rw [hL] at hb2
   simp only [List.length_nil, Nat.beq_refl, T.run, cond_true, Option.some.injEq] at hb2; subst hb2
   refine Loops.for (C := fun i => st12 bl nl n f zc (filtO f i) (mustN f i) i) (n := n) (k := 0) (fun i hi => round12 bl nl n f zc hn i hi) ⟨_, ?_, Seen.refl _⟩
   rw [hL]
   have e := s12n_eq bl nl n f (mustN f n) zc n
   rw [lt0] at e
   exact e
 | cons x l =>
   have hq : Nat.beq (filtO f n).length 0 = false := by rw [hL]; rfl
   rw [hq] at hb2
   simp only [T.run, cond_false, Option.some.injEq] at hb2; subst hb2
   refine Loops.for (C := fun i => st12 bl nl n f zc (filtO f i) (mustN f i) i) (n := n) (k := 0) (fun i hi => round12 bl nl n f zc hn i hi) ⟨_, ?_, Seen.refl _⟩
   rw [st12_nn (by rw [hL]; simp)]
   have e := s12_eq bl nl n f (filtO f n).length (finO (filtO f n)) (mustN f n) zc n
   rw [lt0] at e
   exact e
theorem qEC : Bm.Good Try.prog EC := qEB.addS (by kernel_rfl) rfl (by decide) (by decide) rfl il12
theorem good_bl {bl : Int} {f : Nat → Nat → AV} {n : Nat} (h : gF bl f n = true) : n ≤ 16 ∧ 1 ≤ bl ∧ bl ≤ 64 ∧ okG bl f n = true := by
 simp only [gF, Bool.and_eq_true, Bool.not_eq_true', decide_eq_false_iff_not] at h
 exact ⟨by omega, by omega, by omega, h.2⟩
theorem filt_mem {f : Nat → Nat → AV} {n : Nat} {x : Opn} (h : x ∈ filtO f n) : mayO x = true ∧ ∃ i, i < n ∧ x = opAt f i := by
 obtain ⟨h1, h2⟩ := List.mem_filter.1 h
 obtain ⟨i, hi, rfl⟩ := List.mem_map.1 h1
 exact ⟨h2, i, List.mem_range.1 hi, rfl⟩
theorem okD_filt {bl : Nat} {f : Nat → Nat → AV} {n : Nat} (hz : bl ≤ 64) (hr : rngV f n = true) (hg : okG (bl : Int) f n = true) : okDV (finO (filtO f n)) (filtO f n).length (8 * bl) = true := by
 rw [okDV_eq]
 simp only [okD, Bool.and_eq_true]
 refine ⟨decide_eq_true (by omega), okFrom_iff.2 fun t ht => ?_⟩
 rw [Nat.zero_add, opAt_fin]
 have hm : (filtO f n).getD t nilO ∈ filtO f n := by
  rw [List.getD_eq_getElem?_getD, List.getElem?_eq_getElem ht]
  exact List.getElem_mem ht
 obtain ⟨hmay, i, hi, he⟩ := filt_mem hm
 rw [he] at hmay ⊢
 obtain ⟨a, b, ha, hb, la, lb⟩ := rngA_at hr hi
 have h := okFrom_iff.1 hg i hi
 rw [Nat.zero_add, good_eq ha hb] at h
 simp only [Bool.and_eq_true, Bool.not_eq_true', decide_eq_false_iff_not] at h
 obtain ⟨⟨⟨⟨h1, h2⟩, _⟩, _⟩, h5⟩ := h
 have hw : ((f i 1).toB || (f i 6).toI != 0) = true := by
  have : (!(f i 7).toB && ((f i 1).toB || (f i 6).toI != 0)) = true := hmay
  rw [Bool.and_eq_true] at this
  exact this.2
 rw [hw, Bool.true_and, bne_eq_false_iff_eq] at h5
 show (decide (0 ≤ (f i 2).toI) && (decide (1 ≤ (f i 3).toI) && (decide (8 * ((f i 2).toI + (f i 3).toI) ≤ ((8 * bl : Nat) : Int)) && decide (((f i 4).toS.length : Int) = 8 * (f i 3).toI)))) = true
 rw [ha, hb, decide_eq_true (show (0 : Int) ≤ (a : Int) by omega), decide_eq_true (show (1 : Int) ≤ (b : Int) by omega), decide_eq_true (show 8 * ((a : Int) + (b : Int)) ≤ ((8 * bl : Nat) : Int) by omega), decide_eq_true h5]
 rfl
theorem blank_is (f : Nat → Nat → AV) (hf : ∀ i, (f i 0).toI = 0) (k : Nat) : List.map (fun i => Int.toNat (byteAt f (0 + i))) (List.range k) = List.replicate k 0 := by
 refine List.ext_getElem (by simp) fun i h1 h2 => ?_
 simp [byteAt, hf]
theorem blank_all (f : Nat → Nat → AV) (hf : ∀ i, (f i 0).toI = 0) (k : Nat) : (List.all (List.range k) fun i => decide (0 ≤ byteAt f (0 + i)) && decide (byteAt f (0 + i) < 256)) = true := by
 rw [List.all_eq_true]
 intro i _
 show (decide (0 ≤ (f (0 + i) 0).toI) && decide ((f (0 + i) 0).toI < 256)) = true
 rw [hf]; rfl
theorem left0_le (d : Nat) : ∀ n, leftN d n ≤ n
 | 0 => Nat.le_refl _
 | n + 1 => by
   have := left0_le d n
   simp only [leftN]
   cases Nat.testBit d n <;> simp <;> omega
theorem j12 (c c' : CS) (h : (f12 c).run = some c') : ∃ m pr ros π, callC EC m 12 0 pr ros π c = some c' := by
 obtain ⟨nl, n, f, bl, rfl, hb⟩ := f12_inv h
 obtain ⟨hn, hb2⟩ := chkT_run hb
 have hr := hn 0 _ rfl
 clear h hb hn
 have e := k12_eq nl n f bl
 rw [hr, gV_eq] at e
 rw [checkV_eq] at hb2
 unfold checkF at hb2
 cases hg : gF bl f n with
 | false =>
   rw [hg] at e hb2
   exact ⟨1500, .keep, [], k12_p, e.trans hb2⟩
 | true =>
   rw [hg, Bool.true_and] at hb2
   obtain ⟨g1, g2, g3, g4⟩ := good_bl hg
   obtain ⟨z, rfl⟩ := Int.eq_ofNat_of_zero_le (show 0 ≤ bl by omega)
   have hfl := filt_le f n
   have hl := left0_le 0 (filtO f n).length
   rw [hg, wi (a := z) (by omega), w8r (a := z) (by omega), Int.toNat_natCast, decide_eq_true (show 0 ≤ ((8 * z : Nat) : Int) by omega), decide_eq_true (show ((8 * z : Nat) : Int) ≤ 281474976710656 by omega), ble_t (show 1 * (8 * z) ≤ 281474976710656 by omega), ble_t (show 0 + 8 * z ≤ 8 * z by omega),
    blank_all (fun x j => getAt [AV.int IntKind.u8 (Int.ofNat 0)] j) (fun _ => rfl), blank_is (fun x j => getAt [AV.int IntKind.u8 (Int.ofNat 0)] j) (fun _ => rfl), List.length_replicate, ble_t g1, filtV_eq, mustV_eq, findV_eq, leftV_eq, blt_t (must_lt g1), ble_t (show (filtO f n).length ≤ 16 by omega), okD_filt (by omega) hr g4, show Int.toNat 0 = 0 from rfl, blt_t (show leftN 0 (filtO f n).length < 17 by omega)] at e
   rw [show blank (z : Int) = List.replicate (8 * z) 0 from by unfold blank; rw [show (8 * (z : Int)).toNat = 8 * z by omega]] at hb2
   cases hq : Nat.beq (filtO f n).length 0 with
   | false =>
     rw [hq] at e
     exact ⟨1500, .keep, [], k12_p, e.trans hb2⟩
   | true =>
     rw [hq] at e
     have hz := Nat.eq_of_beq_eq_true hq
     rw [hz] at hb2
     have ok0 : okDV (fun _ _ => AV.bad) 0 (8 * z) = true := by
      rw [okDV_eq]
      unfold okD
      rw [decide_eq_true (show 8 * z ≤ 1000 by omega)]; rfl
     rw [show (fun (p_ q_ : Nat) => AV.bad) = (fun _ _ => AV.bad) from rfl, ok0] at e
     exact ⟨1500, .keep, [], k12_p, e.trans hb2⟩
theorem qED : Bm.Good Try.prog ED := qEC.addR qEC (by kernel_rfl) j12
end Go.Proofs.Ytmjmhpbncfjnpaa.history
end
section
set_option linter.unusedSimpArgs false
set_option linter.unusedVariables false
set_option maxRecDepth 20000
namespace Go.Proofs.Ytmjmhpbncfjnpaa.history
open Go Go.RowKit Go.Proofs.Ytmjmhpbncfjnpaa.Bm
inductive Can (L : List Opn) : Nat → List Nat → Prop
 | done {d : Nat} {s : List Nat} : (∀ k, k < L.length → (L.getD k nilO).e ≠ 0 → Nat.testBit d k = true) → Can L d s
 | step {d : Nat} {s s' : List Nat} {i : Nat} : i < L.length → Nat.testBit d i = false → (∀ k, k < L.length → k ≠ i → (L.getD k nilO).e ≠ 0 → Nat.testBit d k = false → ¬ (L.getD k nilO).e ≤ (L.getD i nilO).b) →
    doO (L.getD i nilO) s = some s' → Can L (d ||| 2 ^ i) s' → Can L d s
theorem must_bit : ∀ (L : List Opn) (k0 k : Nat), Nat.testBit (mustL L k0) k = decide (k0 ≤ k ∧ k - k0 < L.length ∧ (L.getD (k - k0) nilO).e ≠ 0)
 | [], k0, k => by
   show Nat.testBit 0 k = _
   rw [Nat.zero_testBit]
   exact (decide_eq_false (by simp)).symm
 | x :: l, k0, k => by
   show Nat.testBit ((cond (x.e != 0) (2 ^ k0) 0) ||| mustL l (k0 + 1)) k = _
   rw [Nat.testBit_or, must_bit l (k0 + 1) k]
   by_cases hk : k = k0
   ·subst hk
    rw [decide_eq_false (show ¬ (k + 1 ≤ k ∧ _) by omega), Bool.or_false, Nat.sub_self]
    cases hx : (x.e != 0) with
    | true =>
      have hx : x.e ≠ 0 := by simpa using hx
      simp only [cond_true]
      rw [Nat.testBit_two_pow_self]
      exact (decide_eq_true ⟨Nat.le_refl _, by simp, by simpa using hx⟩).symm
    | false =>
      have hx : x.e = 0 := by simpa using hx
      simp only [cond_false]
      rw [Nat.zero_testBit]
      exact (decide_eq_false (by simp [hx])).symm
   ·have h0 : Nat.testBit (cond (x.e != 0) (2 ^ k0) 0) k = false := by
     cases (x.e != 0) with
     | true => simp only [cond_true]; rw [Nat.testBit_two_pow]; exact decide_eq_false (by omega)
     | false => exact Nat.zero_testBit k
    rw [h0, Bool.false_or]
    refine decide_eq_decide.2 ?_
    by_cases hlt : k0 + 1 ≤ k
    ·have e : k - k0 = (k - (k0 + 1)) + 1 := by omega
     rw [e]
     simp only [List.length_cons, List.getD_cons_succ]
     constructor
     ·rintro ⟨_, h2, h3⟩; exact ⟨by omega, by omega, h3⟩
     ·rintro ⟨_, h2, h3⟩; exact ⟨by omega, by omega, h3⟩
    ·constructor
     ·rintro ⟨h1, _⟩; exact absurd h1 hlt
     ·rintro ⟨h1, _⟩; omega
theorem mask_iff {d mu : Nat} : Nat.beq (d &&& mu) mu = true ↔ ∀ k, Nat.testBit mu k = true → Nat.testBit d k = true := by
 rw [beq_iff, decide_eq_true_eq]
 constructor
 ·intro h k hk
  rw [← h, Nat.testBit_and, Bool.and_eq_true] at hk
  exact hk.1
 ·intro h
  refine Nat.eq_of_testBit_eq fun k => ?_
  rw [Nat.testBit_and]
  cases hk : Nat.testBit mu k with
  | true => rw [h k hk]; rfl
  | false => exact Bool.and_false _
theorem mustAll_iff (L : List Opn) (d : Nat) : Nat.beq (d &&& mustL L 0) (mustL L 0) = true ↔ ∀ k, k < L.length → (L.getD k nilO).e ≠ 0 → Nat.testBit d k = true := by
 rw [mask_iff]
 constructor
 ·intro h k hk he
  exact h k (by rw [must_bit]; exact decide_eq_true ⟨Nat.zero_le _, by simpa using hk, by simpa using he⟩)
 ·intro h k hk
  rw [must_bit] at hk
  obtain ⟨_, h2, h3⟩ := of_decide_eq_true hk
  exact h k (by simpa using h2) (by simpa using h3)
theorem fin6 (L : List Opn) (k : Nat) : (finO L k 6).toI = (L.getD k nilO).e := by
 rw [← opAt_fin]; rfl
theorem fin5 (L : List Opn) (k : Nat) : (finO L k 5).toI = (L.getD k nilO).b := by
 rw [← opAt_fin]; rfl
theorem next_iff (L : List Opn) (i d : Nat) : nextB (finO L) L.length (mustL L 0) i d = true ↔ ∀ k, k < L.length → k ≠ i → (L.getD k nilO).e ≠ 0 → Nat.testBit d k = false → ¬ (L.getD k nilO).e ≤ (L.getD i nilO).b := by
 unfold nextB
 rw [okFrom_iff]
 constructor
 ·intro h k hk hne he hb hle
  have h2 := h k hk
  rw [Nat.zero_add, fin6, fin5, must_bit, decide_eq_true (show 0 ≤ k ∧ k - 0 < L.length ∧ (L.getD (k - 0) nilO).e ≠ 0 from ⟨Nat.zero_le _, hk, he⟩), hb, decide_eq_true hle, show Nat.beq k i = false by rw [beq_iff]; exact decide_eq_false hne] at h2
  cases h2
 ·intro h k hk
  rw [Nat.zero_add, fin6, fin5, must_bit]
  by_cases hne : k = i
  ·subst hne; rw [Nat.beq_refl]; rfl
  ·by_cases he : (L.getD k nilO).e = 0
   ·rw [decide_eq_false (show ¬ (0 ≤ k ∧ k - 0 < L.length ∧ (L.getD (k - 0) nilO).e ≠ 0) from fun z => z.2.2 he), Bool.false_and, Bool.and_false]; rfl
   ·cases hb : Nat.testBit d k with
    | true => simp
    | false => rw [decide_eq_false (h k hk hne he hb)]; simp
theorem can_of {L : List Opn} : ∀ (m : Nat) (d : Nat) (s : List Nat), leftN d L.length ≤ m → canD (finO L) L.length (mustL L 0) d s = true → Can L d s := by
 intro m
 induction m with
 | zero =>
   intro d s hm h
   rw [canD_eq] at h
   rcases Bool.or_eq_true _ _ ▸ h with h | h
   ·exact .done ((mustAll_iff L d).1 h)
   ·obtain ⟨t, _, ht, hp⟩ := anyF_iff.1 h
    unfold stepP at hp
    simp only [Bool.and_eq_true, Bool.not_eq_true'] at hp
    have := left_or hp.1 (n := L.length) (by omega)
    omega
 | succ m ih =>
   intro d s hm h
   rw [canD_eq] at h
   rcases Bool.or_eq_true _ _ ▸ h with h | h
   ·exact .done ((mustAll_iff L d).1 h)
   ·obtain ⟨t, _, ht, hp⟩ := anyF_iff.1 h
    unfold stepP at hp
    simp only [Bool.and_eq_true, Bool.not_eq_true'] at hp
    obtain ⟨hb, hx, hd⟩ := hp
    rw [opAt_fin] at hd
    have hl := left_or hb (n := L.length) (by omega)
    cases hdo : doO (L.getD t nilO) s with
    | none => rw [hdo] at hd; cases hd
    | some s' =>
      rw [hdo] at hd
      exact .step (by omega) hb ((next_iff L t d).1 hx) hdo (ih _ _ (by omega) hd)
theorem can_iff (L : List Opn) (d : Nat) (s : List Nat) : canD (finO L) L.length (mustL L 0) d s = true ↔ Can L d s := by
 refine ⟨can_of _ d s (Nat.le_refl _), fun h => ?_⟩
 induction h with
 | @done d s h =>
   rw [canD_eq, (mustAll_iff L d).2 h]; rfl
 | @step d s s' i hi hb hx hd _ ih =>
   rw [canD_eq, Bool.or_eq_true]
   refine .inr (anyF_iff.2 ⟨i, Nat.zero_le _, by omega, ?_⟩)
   unfold stepP
   rw [hb, (next_iff L i d).2 hx, opAt_fin, hd]
   simpa using ih
theorem check_iff (bl : Int) (f : Nat → Nat → AV) (n : Nat) : checkF bl f n = true ↔ gF bl f n = true ∧ Can (filtO f n) 0 (blank bl) := by
 unfold checkF mustN
 rw [find_can (fun _ => rfl), Bool.and_eq_true, can_iff]
end Go.Proofs.Ytmjmhpbncfjnpaa.history
end
section
set_option linter.unusedSimpArgs false
set_option linter.unusedVariables false
set_option maxRecDepth 20000
namespace Go.Proofs.Ytmjmhpbncfjnpaa.history
open Go Go.RowKit Go.Proofs.Ytmjmhpbncfjnpaa.Bm
theorem good_c {bl : Int} {g g' : Nat → Nat → AV} {m : Nat} (h : ∀ i, i < m → opAt g i = opAt g' i) : gF bl g m = gF bl g' m := by
 unfold gF okG
 rw [okFrom_congr (q := fun i => goodO bl (opAt g' i)) fun j _ hj => by rw [h j (by omega)]]
theorem rd_c {g g' : Nat → Nat → AV} {m : Nat} (h : ∀ i, i < m → opAt g i = opAt g' i) : rdO g m = rdO g' m :=
 List.map_congr_left fun i hi => h i (List.mem_range.1 hi)
theorem check_c {bl : Int} {g g' : Nat → Nat → AV} {m : Nat} (h : ∀ i, i < m → opAt g i = opAt g' i) : checkF bl g m = checkF bl g' m := by
 unfold checkF mustN filtO
 rw [good_c h, rd_c h]
theorem rdO_at {f : Nat → Nat → AV} {n i : Nat} (h : i < n) : (rdO f n).getD i nilO = opAt f i := by
 simp [rdO, List.getD_eq_getElem?_getD, h]
theorem list_ext {L M : List Opn} (h : L.length = M.length) (h2 : ∀ k, k < L.length → L.getD k nilO = M.getD k nilO) : L = M := by
 refine List.ext_getElem h fun i h1 h3 => ?_
 have := h2 i h1
 rw [List.getD_eq_getElem?_getD, List.getD_eq_getElem?_getD, List.getElem?_eq_getElem h1, List.getElem?_eq_getElem h3] at this
 simpa using this
theorem rdO_fin (L : List Opn) : rdO (finO L) L.length = L :=
 list_ext (rdO_len _ _) fun k hk => by rw [rdO_len] at hk; rw [rdO_at hk, opAt_fin]
end Go.Proofs.Ytmjmhpbncfjnpaa.history
end
section
set_option linter.unusedSimpArgs false
set_option linter.unusedVariables false
set_option maxRecDepth 20000
namespace Go.Proofs.Ytmjmhpbncfjnpaa.history
open Go Go.RowKit Go.Proofs.Ytmjmhpbncfjnpaa.Bm
def runO : List Opn → List Nat → Option (List Nat)
 | [], s => some s
 | x :: l, s => match doO x s with
   | none => none
   | some s' => runO l s'
def rowOf (f : Nat → Nat → AV) (i : Nat) : Opn := ⟨(f i 0).toI, (f i 1).toB, (f i 2).toI, (f i 3).toI, (f i 4).toS, 2 * (i : Int), 2 * (i : Int) + 1, false⟩
def rowO (f : Nat → Nat → AV) (n : Nat) : List Opn := (List.range n).map (rowOf f)
theorem rowO_len (f : Nat → Nat → AV) (n : Nat) : (rowO f n).length = n := by simp [rowO]
theorem rowO_at {f : Nat → Nat → AV} {n i : Nat} (h : i < n) : (rowO f n).getD i nilO = rowOf f i := by
 simp [rowO, List.getD_eq_getElem?_getD, h]
theorem rowO_succ (f : Nat → Nat → AV) (n : Nat) : rowO f (n + 1) = rowO f n ++ [rowOf f n] := by simp [rowO, List.range_succ]
def One (L : List Opn) : Prop := ∀ k, k < L.length → (L.getD k nilO).b = 2 * (k : Int) ∧ (L.getD k nilO).e = 2 * (k : Int) + 1
theorem one_row (f : Nat → Nat → AV) (n : Nat) : One (rowO f n) := fun k hk => by
 rw [rowO_len] at hk
 rw [rowO_at hk]; exact ⟨rfl, rfl⟩
theorem drop_at {L : List Opn} {j : Nat} (h : j < L.length) : L.drop j = L.getD j nilO :: L.drop (j + 1) := by
 rw [List.drop_eq_getElem_cons h, List.getD_eq_getElem?_getD, List.getElem?_eq_getElem h]; rfl
theorem one_fwd {L : List Opn} (h : One L) {d : Nat} {s : List Nat} (hc : Can L d s) : ∀ j, j ≤ L.length → (∀ k, k < L.length → Nat.testBit d k = decide (k < j)) → (runO (L.drop j) s).isSome = true := by
 induction hc with
 | @done d s hd =>
   intro j hj hb
   by_cases hlt : j < L.length
   ·have := hd j hlt (by rw [(h j hlt).2]; omega)
    rw [hb j hlt, decide_eq_true_eq] at this
    omega
   ·rw [List.drop_eq_nil_of_le (by omega)]; rfl
 | @step d s s' i hi hbi hx hdo _ ih =>
   intro j hj hb
   have h1 : ¬ i < j := by
    rw [hb i hi] at hbi
    exact of_decide_eq_false hbi
   have h2 : i = j := by
    by_cases hij : i = j
    ·exact hij
    ·have hjl : j < L.length := by omega
     have := hx j hjl (fun e => hij e.symm) (by rw [(h j hjl).2]; omega) (by rw [hb j hjl]; exact decide_eq_false (Nat.lt_irrefl _))
     rw [(h j hjl).2, (h i hi).1] at this
     omega
   subst h2
   rw [drop_at hi]
   simp only [runO, hdo]
   refine ih (i + 1) (by omega) fun k hk => ?_
   by_cases hki : k = i
   ·subst hki
    rw [testBit_or_self]
    exact (decide_eq_true (by omega)).symm
   ·rw [testBit_or_ne (fun z => hki z.symm), hb k hk]
    exact decide_eq_decide.2 (by omega)
theorem one_bwd {L : List Opn} (h : One L) : ∀ (m j d : Nat) (s : List Nat), L.length - j = m → j ≤ L.length → (∀ k, k < L.length → Nat.testBit d k = decide (k < j)) → (runO (L.drop j) s).isSome = true → Can L d s
 | 0, j, d, s, hm, hj, hb, _ => .done fun k hk _ => by
   rw [hb k hk]; exact decide_eq_true (by omega)
 | m + 1, j, d, s, hm, hj, hb, hr => by
   have hjl : j < L.length := by omega
   rw [drop_at hjl] at hr
   cases hdo : doO (L.getD j nilO) s with
   | none => simp only [runO, hdo] at hr; cases hr
   | some s' =>
     simp only [runO, hdo] at hr
     refine .step hjl (by rw [hb j hjl]; exact decide_eq_false (Nat.lt_irrefl _)) (fun k hk hne _ hbk => ?_) hdo (one_bwd h m (j + 1) _ s' (by omega) (by omega) (fun k hk => ?_) hr)
     ·rw [hb k hk] at hbk
      have := of_decide_eq_false hbk
      rw [(h k hk).2, (h j hjl).1]
      omega
     ·by_cases hki : k = j
      ·subst hki
       rw [testBit_or_self]
       exact (decide_eq_true (by omega)).symm
      ·rw [testBit_or_ne (fun z => hki z.symm), hb k hk]
       exact decide_eq_decide.2 (by omega)
theorem can_one {L : List Opn} (h : One L) (s : List Nat) : Can L 0 s ↔ (runO L s).isSome = true := by
 have h0 : ∀ k, k < L.length → Nat.testBit 0 k = decide (k < 0) := fun k _ => by
  rw [Nat.zero_testBit]
  exact (decide_eq_false (Nat.not_lt_zero _)).symm
 constructor
 ·intro hc
  have := one_fwd h hc 0 (Nat.zero_le _) h0
  exact this
 ·intro hr
  exact one_bwd h _ 0 0 s rfl (Nat.zero_le _) h0 hr
theorem check_one (bl : Int) (f : Nat → Nat → AV) (n : Nat) : checkF bl (finO (rowO f n)) n = (gF bl (finO (rowO f n)) n && (runO (rowO f n) (blank bl)).isSome) := by
 have e : filtO (finO (rowO f n)) n = rowO f n := by
  unfold filtO
  have hr := rdO_fin (rowO f n)
  rw [rowO_len] at hr
  rw [hr, List.filter_eq_self]
  intro x hx
  obtain ⟨i, _, rfl⟩ := List.mem_map.1 hx
  show (!false && ((f i 1).toB || 2 * (i : Int) + 1 != 0)) = true
  rw [show (2 * (i : Int) + 1 != 0) = true from by rw [bne_iff_ne]; omega]
  simp
 rw [Bool.eq_iff_iff, check_iff, e, Bool.and_eq_true, can_one (one_row f n)]
end Go.Proofs.Ytmjmhpbncfjnpaa.history
end
section
set_option linter.unusedSimpArgs false
set_option linter.unusedVariables false
set_option maxRecDepth 20000
namespace Go.Proofs.Ytmjmhpbncfjnpaa.history
open Go Go.RowKit Go.Proofs.Ytmjmhpbncfjnpaa.Bm
abbrev shU8 : List Sh := [.int .u8]
def h50 : Pat := ⟨94, [(1, .keep), (5, .asl shO), (17, .asl shO), (18, .keep), (19, .keep)], []⟩
def x50 : List (Ex × Pat) := [(.exit 0, ⟨94, [(1, .keep), (5, .asl shO)], []⟩)]
def h52 : Pat := ⟨94, [(1, .keep), (5, .asl shO), (8, .asl shU8), (9, .keep), (51, .asl shO), (52, .keep), (53, .keep)], []⟩
def x52 : List (Ex × Pat) := [(.exit 2, ⟨94, [(1, .keep), (5, .asl shO), (9, .keep)], []⟩)]
def c50 (bl : Int) (m : Nat) (g : Nat → Nat → AV) (nl : Bool) (n : Nat) (f : Nat → Nat → AV) (i : Nat) : CS :=
 ⟨[.int .u32 bl, .osl false 0 0 m m 8 true, .osl nl 1 0 n n 8 true, .int .i64 (n : Nat), .int .i64 (i : Nat)], [some (.tarr shO m g true), some (.tarr shO n f false)]⟩
def c50n (bl : Int) (nl : Bool) (n : Nat) (f : Nat → Nat → AV) (i : Nat) : CS :=
 ⟨[.int .u32 bl, .nilSlice, .osl nl 1 0 n n 8 true, .int .i64 (n : Nat), .int .i64 (i : Nat)], [none, some (.tarr shO n f false)]⟩
def c52 (bl : Int) (m : Nat) (g : Nat → Nat → AV) (z : Nat) (q : Nat → Nat → AV) (ri : Bool) (i : Nat) : CS :=
 ⟨[.int .u32 bl, .osl false 0 0 m m 8 true, .osl false 1 0 z z 1 true, .bool ri, .osl false 0 0 m m 8 true, .int .i64 (m : Nat), .int .i64 (i : Nat)], [some (.tarr shO m g true), some (.tarr shU8 z q true)]⟩
def seqF (g : Nat → Nat → AV) (m z : Nat) : Bool := (runO (rdO g m) (List.replicate z 0)).isSome
def okBF (g : Nat → Nat → AV) (m : Nat) : Bool := okFrom (fun i => (g i 4).toS.all fun b => Nat.blt b 256) 0 m
def okQF (q : Nat → Nat → AV) (z : Nat) : Bool := okFrom (fun i => decide ((q i 0).toI = 0)) 0 z
theorem rowVE : ∃ q : (Nat → Nat → AV) → Nat → List Opn, q = rowO := ⟨_, rfl⟩
noncomputable def rowV : (Nat → Nat → AV) → Nat → List Opn := Classical.choose rowVE
theorem rowV_eq : rowV = rowO := Classical.choose_spec rowVE
theorem seqVE : ∃ q : (Nat → Nat → AV) → Nat → Nat → Bool, q = seqF := ⟨_, rfl⟩
noncomputable def seqV : (Nat → Nat → AV) → Nat → Nat → Bool := Classical.choose seqVE
theorem seqV_eq : seqV = seqF := Classical.choose_spec seqVE
theorem okBVE : ∃ q : (Nat → Nat → AV) → Nat → Bool, q = okBF := ⟨_, rfl⟩
noncomputable def okBV : (Nat → Nat → AV) → Nat → Bool := Classical.choose okBVE
theorem okBV_eq : okBV = okBF := Classical.choose_spec okBVE
theorem okQVE : ∃ q : (Nat → Nat → AV) → Nat → Bool, q = okQF := ⟨_, rfl⟩
noncomputable def okQV : (Nat → Nat → AV) → Nat → Bool := Classical.choose okQVE
theorem okQV_eq : okQV = okQF := Classical.choose_spec okQVE
def i50 (bl : Int) (g : Nat → Nat → AV) (nl : Bool) (n : Nat) (f : Nat → Nat → AV) : CS :=
 ⟨[.int .u32 bl, .osl true 0 0 0 0 8 true, .osl nl 1 0 n n 8 true, .int .i64 (n : Nat), .int .i64 0], [some (.tarr shO 0 g true), some (.tarr shO n f false)]⟩
noncomputable def r50B  (bl : Int) (g : Nat → Nat → AV) (nl : Bool) (n : Nat) (f : Nat → Nat → AV) : T (Nat × CS) :=
 chkT [Nat.ble n 20] (.ask (Nat.beq n 0) (.ret (1, ⟨[.int .u32 bl, .osl true 0 0 0 0 8 true], [some (.tarr shO 0 (fun _ _ => .bad) true)]⟩)) (.ret (1, ⟨[.int .u32 bl, .osl false 0 0 n n 8 true], [some (.tarr shO n (finO (rowV f n)) true)]⟩)))
noncomputable def r50  (c : CS) : T (Nat × CS) := match c with
 | ⟨[.int .u32 bl, .osl z_1 0 0 z_2 z_3 8 true, .osl nl 1 0 n z_4 8 true, .int .i64 z_5, .int .i64 z_6], [some (.tarr sh_7 z_8 g true), some (.tarr sh_9 z_10 f false)]⟩ => chkT [decide (true = z_1), decide (0 = z_2), decide (0 = z_3), decide (n = z_4), decide ((n : Nat) = z_5), decide (0 = z_6), shBeq sh_7 shO, decide (0 = z_8), shBeq sh_9 shO, decide (n = z_10)] (r50B  bl g nl n f)
 | _ => .fail
noncomputable def EM : Env := addL ED 5 0 1000007 h50 x50 0 r50
def c52z (bl : Int) (z : Nat) (q : Nat → Nat → AV) (ri : Bool) : CS :=
 ⟨[.int .u32 bl, .nilSlice, .osl false 1 0 z z 1 true, .bool ri, .nilSlice, .int .i64 0, .int .i64 0], [none, some (.tarr shU8 z q true), none]⟩
def i52 (bl : Int) (m : Nat) (g : Nat → Nat → AV) (z : Nat) (q : Nat → Nat → AV) : CS :=
 ⟨[.int .u32 bl, .osl false 0 0 m m 8 true, .osl false 1 0 z z 1 true, .bool true, .osl false 0 0 m m 8 true, .int .i64 (m : Nat), .int .i64 0], [some (.tarr shO m g true), some (.tarr shU8 z q true)]⟩
noncomputable def r52nB  (bl : Int) (m : Nat) (g : Nat → Nat → AV) (z : Nat) (q : Nat → Nat → AV) : T (Nat × CS) :=
 chkT [Nat.ble m 20, okDV g m z, okBV g m, okQV q z] (.ret (1, ⟨[.int .u32 bl, .osl false 0 0 m m 8 true, .bool (seqV g m z)], [some (.tarr shO m g true)]⟩))
noncomputable def r52n  (c : CS) : T (Nat × CS) := match c with
 | ⟨[.int .u32 bl, .osl z_1 0 0 m z_2 8 true, .osl z_3 1 0 z z_4 1 true, .bool z_5, .osl z_6 0 0 z_7 z_8 8 true, .int .i64 z_9, .int .i64 z_10], [some (.tarr sh_11 z_12 g true), some (.tarr sh_13 z_14 q true)]⟩ => chkT [decide (false = z_1), decide (m = z_2), decide (false = z_3), decide (z = z_4), decide (true = z_5), decide (false = z_6), decide (m = z_7), decide (m = z_8), decide ((m : Nat) = z_9), decide (0 = z_10), shBeq sh_11 shO, decide (m = z_12), shBeq sh_13 shU8, decide (z = z_14)] (r52nB  bl m g z q)
 | _ => .fail
def i52z (bl : Int) (g : Nat → Nat → AV) (g2 : Nat → Nat → AV) (z : Nat) (q : Nat → Nat → AV) : CS :=
 ⟨[.int .u32 bl, .osl true 0 0 0 0 8 true, .osl false 1 0 z z 1 true, .bool true, .osl true 2 0 0 0 8 true, .int .i64 0, .int .i64 0], [some (.tarr shO 0 g true), some (.tarr shU8 z q true), some (.tarr shO 0 g2 true)]⟩
noncomputable def r52zB  (bl : Int) (g : Nat → Nat → AV) (g2 : Nat → Nat → AV) (z : Nat) (q : Nat → Nat → AV) : T (Nat × CS) :=
 (.ret (1, ⟨[.int .u32 bl, .osl true 0 0 0 0 8 true, .bool true], [some (.tarr shO 0 (fun _ _ => .bad) true)]⟩))
noncomputable def r52z  (c : CS) : T (Nat × CS) := match c with
 | ⟨[.int .u32 bl, .osl z_1 0 0 z_2 z_3 8 true, .osl z_4 1 0 z z_5 1 true, .bool z_6, .osl z_7 2 0 z_8 z_9 8 true, .int .i64 z_10, .int .i64 z_11], [some (.tarr sh_12 z_13 g true), some (.tarr sh_14 z_15 q true), some (.tarr sh_16 z_17 g2 true)]⟩ => chkT [decide (true = z_1), decide (0 = z_2), decide (0 = z_3), decide (false = z_4), decide (z = z_5), decide (true = z_6), decide (true = z_7), decide (0 = z_8), decide (0 = z_9), decide (0 = z_10), decide (0 = z_11), shBeq sh_12 shO, decide (0 = z_13), shBeq sh_14 shU8, decide (z = z_15), shBeq sh_16 shO, decide (0 = z_17)] (r52zB  bl g g2 z q)
 | _ => .fail
noncomputable def r52 (c : CS) : T (Nat × CS) := match c.ts with
 | [_, .osl true _ _ _ _ _ _, _, _, _, _, _] => r52z c
 | _ => r52n c
noncomputable def EN : Env := addL EM 5 2 1000008 h52 x52 0 r52
noncomputable def EO : Env := addF EN 8 livesI
noncomputable def s50 (bl : Int) (m : Nat) (g : Nat → Nat → AV) (nl : Bool) (n : Nat) (f : Nat → Nat → AV) (i : Nat) (π : Plan) : Option (Nat × CS) := stepC (ED) (400) (loopC ED 5 0) (0) (h50) ((.normal, h50) :: x50) π (c50 bl m g nl n f i)
def s50_p : Plan := (.fork (.reck 1 (.must true (.fork (.reck 1 (.must false (.fork (.fork .stop .stop) .stop))) .stop))) .stop)
theorem s50_is (bl : Int) (m : Nat) (g : Nat → Nat → AV) (nl : Bool) (n : Nat) (f : Nat → Nat → AV) (i : Nat) : s50 bl m g nl n f i s50_p = (cond (decide ((↑i : Int) < (↑n : Int)))
 (cond (decide ((↑i : Int) < (↑n : Int))) (cond (Nat.blt (0 + Int.toNat (↑i : Int)) n)
 (cond (Nat.ble ((m) + (1)) (m)) none (cond (growB (64) (m + 1))
 (cond (Nat.ble (0 + m) m)
 (some (0, (CS.mk [(AV.int IntKind.u32 (bl)), (AV.osl (false) (0) (0) (m + 1) (m + 1) (8) (true)), (AV.osl (nl) (1) (0) (n) (n) (8) (true)), (AV.int IntKind.i64 ((↑n : Int))), (AV.int IntKind.i64 (IntKind.wrap IntKind.i64 ((↑i : Int) + 1)))] [some (AObj.tarr shO (m + 1) (fjoin (fun p_ q_ => g (0 + p_) q_) (m) (rowsOf (8) [(AV.int IntKind.u64 (AV.toI (f (0 + Int.toNat (↑i : Int)) 0))), (AV.bool (AV.toB (f (0 + Int.toNat (↑i : Int)) (1)))), (AV.int IntKind.u32 (AV.toI (f (0 + Int.toNat (↑i : Int)) (2)))), (AV.int IntKind.u32 (AV.toI (f (0 + Int.toNat (↑i : Int)) (3)))), (AV.str (AV.toS (f (0 + Int.toNat (↑i : Int)) (4)))), (AV.int IntKind.i64 (IntKind.wrap IntKind.i64 (2 * (↑i : Int)))), (AV.int IntKind.i64 (IntKind.wrap IntKind.i64 (IntKind.wrap IntKind.i64 (2 * (↑i : Int)) + 1))), (AV.bool (false))] (1))) true), some (AObj.tarr shO (n) f false)])))
 none)
 none))
 none) none)
 (some (1, (CS.mk [(AV.int IntKind.u32 (bl)), (AV.osl (false) (0) (0) (m) (m) (8) (true))] [some (AObj.tarr shO (m) g true)])))) := by kernel_rfl
theorem s50_eq (bl : Int) (m : Nat) (g : Nat → Nat → AV) (nl : Bool) (n : Nat) (f : Nat → Nat → AV) (i : Nat) : s50 bl m g nl n f i s50_p = (cond (decide ((↑i : Int) < (↑n : Int)))
 (cond (Nat.blt (0 + Int.toNat (↑i : Int)) n)
 (cond (Nat.ble ((m) + (1)) (m)) none (cond (growB (64) (m + 1))
 (cond (Nat.ble (0 + m) m)
 (some (0, (CS.mk [(AV.int IntKind.u32 (bl)), (AV.osl (false) (0) (0) (m + 1) (m + 1) (8) (true)), (AV.osl (nl) (1) (0) (n) (n) (8) (true)), (AV.int IntKind.i64 ((↑n : Int))), (AV.int IntKind.i64 (IntKind.wrap IntKind.i64 ((↑i : Int) + 1)))] [some (AObj.tarr shO (m + 1) (fjoin (fun p_ q_ => g (0 + p_) q_) (m) (rowsOf (8) [(AV.int IntKind.u64 (AV.toI (f (0 + Int.toNat (↑i : Int)) 0))), (AV.bool (AV.toB (f (0 + Int.toNat (↑i : Int)) (1)))), (AV.int IntKind.u32 (AV.toI (f (0 + Int.toNat (↑i : Int)) (2)))), (AV.int IntKind.u32 (AV.toI (f (0 + Int.toNat (↑i : Int)) (3)))), (AV.str (AV.toS (f (0 + Int.toNat (↑i : Int)) (4)))), (AV.int IntKind.i64 (IntKind.wrap IntKind.i64 (2 * (↑i : Int)))), (AV.int IntKind.i64 (IntKind.wrap IntKind.i64 (IntKind.wrap IntKind.i64 (2 * (↑i : Int)) + 1))), (AV.bool (false))] (1))) true), some (AObj.tarr shO (n) f false)])))
 none)
 none))
 none)
 (some (1, (CS.mk [(AV.int IntKind.u32 (bl)), (AV.osl (false) (0) (0) (m) (m) (8) (true))] [some (AObj.tarr shO (m) g true)])))) := by
 rw [s50_is]
 try simp only [eq_self, decide_true, beq_self_eq_true, Nat.beq_refl, ble_self, Int.le_refl, Nat.le_refl]
 cases (decide ((↑i : Int) < (↑n : Int))) with
 | true =>
   cases (Nat.blt (0 + Int.toNat (↑i : Int)) n) with
   | true =>
     cases (growB (64) (m + 1)) with
     | true =>
       cases (Nat.ble (0 + m) m) with
       | true =>
         rfl
       | false =>
         rfl
     | false =>
       rfl
   | false =>
     rfl
 | false =>
   rfl
noncomputable def s50n (bl : Int) (nl : Bool) (n : Nat) (f : Nat → Nat → AV) (i : Nat) (π : Plan) : Option (Nat × CS) := stepC (ED) (400) (loopC ED 5 0) (0) (h50) ((.normal, h50) :: x50) π (c50n bl nl n f i)
def s50n_p : Plan := (.fork (.reck 1 (.must true (.fork .stop .stop))) .stop)
theorem s50n_is (bl : Int) (nl : Bool) (n : Nat) (f : Nat → Nat → AV) (i : Nat) : s50n bl nl n f i s50n_p = (cond (decide ((↑i : Int) < (↑n : Int)))
 (cond (decide ((↑i : Int) < (↑n : Int))) (cond (Nat.blt (0 + Int.toNat (↑i : Int)) n)
 (some (0, (CS.mk [(AV.int IntKind.u32 (bl)), (AV.osl (false) (0) (0) (1) (1) (8) (true)), (AV.osl (nl) (1) (0) (n) (n) (8) (true)), (AV.int IntKind.i64 ((↑n : Int))), (AV.int IntKind.i64 (IntKind.wrap IntKind.i64 ((↑i : Int) + 1)))] [some (AObj.tarr shO (1) (rowsOf (8) [(AV.int IntKind.u64 (AV.toI (f (0 + Int.toNat (↑i : Int)) 0))), (AV.bool (AV.toB (f (0 + Int.toNat (↑i : Int)) (1)))), (AV.int IntKind.u32 (AV.toI (f (0 + Int.toNat (↑i : Int)) (2)))), (AV.int IntKind.u32 (AV.toI (f (0 + Int.toNat (↑i : Int)) (3)))), (AV.str (AV.toS (f (0 + Int.toNat (↑i : Int)) (4)))), (AV.int IntKind.i64 (IntKind.wrap IntKind.i64 (2 * (↑i : Int)))), (AV.int IntKind.i64 (IntKind.wrap IntKind.i64 (IntKind.wrap IntKind.i64 (2 * (↑i : Int)) + 1))), (AV.bool (false))] (1)) true), some (AObj.tarr shO (n) f false)])))
 none) none)
 (some (1, (CS.mk [(AV.int IntKind.u32 (bl)), (AV.osl (true) (0) (0) (0) (0) (8) (true))] [some (AObj.tarr shO (0) (fun p_ q_ => AV.bad) true)])))) := by kernel_rfl
theorem s50n_eq (bl : Int) (nl : Bool) (n : Nat) (f : Nat → Nat → AV) (i : Nat) : s50n bl nl n f i s50n_p = (cond (decide ((↑i : Int) < (↑n : Int)))
 (cond (Nat.blt (0 + Int.toNat (↑i : Int)) n)
 (some (0, (CS.mk [(AV.int IntKind.u32 (bl)), (AV.osl (false) (0) (0) (1) (1) (8) (true)), (AV.osl (nl) (1) (0) (n) (n) (8) (true)), (AV.int IntKind.i64 ((↑n : Int))), (AV.int IntKind.i64 (IntKind.wrap IntKind.i64 ((↑i : Int) + 1)))] [some (AObj.tarr shO (1) (rowsOf (8) [(AV.int IntKind.u64 (AV.toI (f (0 + Int.toNat (↑i : Int)) 0))), (AV.bool (AV.toB (f (0 + Int.toNat (↑i : Int)) (1)))), (AV.int IntKind.u32 (AV.toI (f (0 + Int.toNat (↑i : Int)) (2)))), (AV.int IntKind.u32 (AV.toI (f (0 + Int.toNat (↑i : Int)) (3)))), (AV.str (AV.toS (f (0 + Int.toNat (↑i : Int)) (4)))), (AV.int IntKind.i64 (IntKind.wrap IntKind.i64 (2 * (↑i : Int)))), (AV.int IntKind.i64 (IntKind.wrap IntKind.i64 (IntKind.wrap IntKind.i64 (2 * (↑i : Int)) + 1))), (AV.bool (false))] (1)) true), some (AObj.tarr shO (n) f false)])))
 none)
 (some (1, (CS.mk [(AV.int IntKind.u32 (bl)), (AV.osl (true) (0) (0) (0) (0) (8) (true))] [some (AObj.tarr shO (0) (fun p_ q_ => AV.bad) true)])))) := by
 rw [s50n_is]
 try simp only [eq_self, decide_true, beq_self_eq_true, Nat.beq_refl, ble_self, Int.le_refl, Nat.le_refl]
 cases (decide ((↑i : Int) < (↑n : Int))) with
 | true =>
   cases (Nat.blt (0 + Int.toNat (↑i : Int)) n) with
   | true =>
     rfl
   | false =>
     rfl
 | false =>
   rfl
noncomputable def s52 (bl : Int) (m : Nat) (g : Nat → Nat → AV) (z : Nat) (q : Nat → Nat → AV) (ri : Bool) (i : Nat) (π : Plan) : Option (Nat × CS) := stepC (EM) (400) (loopC EM 5 2) (0) (h52) ((.normal, h52) :: x52) π (c52 bl m g z q ri i)
def s52_p : Plan := (.fork (.reck 1 (.must true (.fork (.fork (.fork (.must true (.fork (.reck 1 (.fork (.must true (.must true (.must true (.must true (.reck 1 (.must true (.must true (.must true .stop)))))))) .stop)) .stop)) .stop) (.fork (.must true (.must true (.must true (.must true (.must true (.must true (.must true (.fork (.fork (.fork (.fork (.must true (.fork (.fork (.must true (.must true (.must true (.must true (.must true (.must true (.must true (.must true (.must true (.must true (.must true (.must true (.reck 1 (.must true (.must true (.must true (.must true (.must true .stop)))))))))))))))))) .stop) .stop)) .stop) .stop) .stop) .stop)))))))) (.must false (.must false (.must false (.must false (.must false (.must false (.must false (.must false (.must false (.must false (.must false (.must false .stop)))))))))))))) .stop))) .stop)
theorem s52_is (bl : Int) (m : Nat) (g : Nat → Nat → AV) (z : Nat) (q : Nat → Nat → AV) (ri : Bool) (i : Nat) : s52 bl m g z q ri i s52_p = (cond (decide ((↑i : Int) < (↑m : Int)))
 (cond (decide ((↑i : Int) < (↑m : Int))) (cond (Nat.blt (0 + Int.toNat (↑i : Int)) m)
 (cond (AV.toB (g (0 + Int.toNat (↑i : Int)) (1)))
 (cond (Nat.ble (Int.toNat (IntKind.wrap IntKind.i64 (8 * IntKind.wrap IntKind.i64 (AV.toI (g (0 + Int.toNat (↑i : Int)) (2)))))) z)
 (cond (Nat.ble z z) (cond (decide (0 ≤ IntKind.wrap IntKind.i64 (8 * IntKind.wrap IntKind.i64 (AV.toI (g (0 + Int.toNat (↑i : Int)) (2))))))
 (cond (Nat.ble (0 + Int.toNat (IntKind.wrap IntKind.i64 (8 * IntKind.wrap IntKind.i64 (AV.toI (g (0 + Int.toNat (↑i : Int)) (2))))) + (z - Int.toNat (IntKind.wrap IntKind.i64 (8 * IntKind.wrap IntKind.i64 (AV.toI (g (0 + Int.toNat (↑i : Int)) (2))))))) z)
 (cond (AV.toS (g (0 + Int.toNat (↑i : Int)) (4)) == AV.toS (g (0 + Int.toNat (↑i : Int)) (4))) (cond (Nat.ble (Int.toNat (IntKind.wrap IntKind.i64 (8 * IntKind.wrap IntKind.i64 (AV.toI (g (0 + Int.toNat (↑i : Int)) (2)))))) z) (cond (Nat.ble z z) (cond (decide (0 ≤ IntKind.wrap IntKind.i64 (8 * IntKind.wrap IntKind.i64 (AV.toI (g (0 + Int.toNat (↑i : Int)) (2)))))) (cond (Nat.beq (0 + Int.toNat (IntKind.wrap IntKind.i64 (8 * IntKind.wrap IntKind.i64 (AV.toI (g (0 + Int.toNat (↑i : Int)) (2)))))) (0 + Int.toNat (IntKind.wrap IntKind.i64 (8 * IntKind.wrap IntKind.i64 (AV.toI (g (0 + Int.toNat (↑i : Int)) (2))))))) (cond (Nat.beq (z - Int.toNat (IntKind.wrap IntKind.i64 (8 * IntKind.wrap IntKind.i64 (AV.toI (g (0 + Int.toNat (↑i : Int)) (2)))))) (z - Int.toNat (IntKind.wrap IntKind.i64 (8 * IntKind.wrap IntKind.i64 (AV.toI (g (0 + Int.toNat (↑i : Int)) (2))))))) (cond (Nat.beq (z - Int.toNat (IntKind.wrap IntKind.i64 (8 * IntKind.wrap IntKind.i64 (AV.toI (g (0 + Int.toNat (↑i : Int)) (2)))))) (z - Int.toNat (IntKind.wrap IntKind.i64 (8 * IntKind.wrap IntKind.i64 (AV.toI (g (0 + Int.toNat (↑i : Int)) (2))))))) (some (0, (CS.mk [(AV.int IntKind.u32 (bl)), (AV.osl (false) (0) (0) (m) (m) (8) (true)), (AV.osl (false) (1) (0) (z) (z) (1) (true)), (AV.bool (ri)), (AV.osl (false) (0) (0) (m) (m) (8) (true)), (AV.int IntKind.i64 ((↑m : Int))), (AV.int IntKind.i64 (IntKind.wrap IntKind.i64 ((↑i : Int) + 1)))] [some (AObj.tarr shO (m) g true), some (AObj.tarr [Sh.int IntKind.u8] (z) (fover q (0 + Int.toNat (IntKind.wrap IntKind.i64 (8 * IntKind.wrap IntKind.i64 (AV.toI (g (0 + Int.toNat (↑i : Int)) (2)))))) (Nat.min (List.length (AV.toS (g (0 + Int.toNat (↑i : Int)) (4)))) (z - Int.toNat (IntKind.wrap IntKind.i64 (8 * IntKind.wrap IntKind.i64 (AV.toI (g (0 + Int.toNat (↑i : Int)) (2))))))) (fun p_ q_ => (AV.int IntKind.u8 ((↑(natAt (AV.toS (g (0 + Int.toNat (↑i : Int)) (4))) p_) : Int))))) true)]))) none) none) none) none) none) none) none)
 none)
 none) none)
 none)
 (cond (ri == true)
 (cond (ri == true) (cond (ri == true) (cond (ri == true) (cond (ri == true) (cond (ri == true) (cond (ri == true) (cond (ri == true) (cond (Nat.ble (Int.toNat (IntKind.wrap IntKind.i64 (8 * IntKind.wrap IntKind.i64 (AV.toI (g (0 + Int.toNat (↑i : Int)) (2)))))) (Int.toNat (IntKind.wrap IntKind.i64 (IntKind.wrap IntKind.i64 (8 * IntKind.wrap IntKind.i64 (AV.toI (g (0 + Int.toNat (↑i : Int)) (2)))) + (↑(List.length (AV.toS (g (0 + Int.toNat (↑i : Int)) (4)))) : Int)))))
 (cond (Nat.ble (Int.toNat (IntKind.wrap IntKind.i64 (IntKind.wrap IntKind.i64 (8 * IntKind.wrap IntKind.i64 (AV.toI (g (0 + Int.toNat (↑i : Int)) (2)))) + (↑(List.length (AV.toS (g (0 + Int.toNat (↑i : Int)) (4)))) : Int)))) z)
 (cond (decide (0 ≤ IntKind.wrap IntKind.i64 (8 * IntKind.wrap IntKind.i64 (AV.toI (g (0 + Int.toNat (↑i : Int)) (2))))))
 (cond (decide (0 ≤ IntKind.wrap IntKind.i64 (IntKind.wrap IntKind.i64 (8 * IntKind.wrap IntKind.i64 (AV.toI (g (0 + Int.toNat (↑i : Int)) (2)))) + (↑(List.length (AV.toS (g (0 + Int.toNat (↑i : Int)) (4)))) : Int))))
 (cond (ri == true) (cond (Nat.ble (0 + Int.toNat (IntKind.wrap IntKind.i64 (8 * IntKind.wrap IntKind.i64 (AV.toI (g (0 + Int.toNat (↑i : Int)) (2))))) + (Int.toNat (IntKind.wrap IntKind.i64 (IntKind.wrap IntKind.i64 (8 * IntKind.wrap IntKind.i64 (AV.toI (g (0 + Int.toNat (↑i : Int)) (2)))) + (↑(List.length (AV.toS (g (0 + Int.toNat (↑i : Int)) (4)))) : Int))) - Int.toNat (IntKind.wrap IntKind.i64 (8 * IntKind.wrap IntKind.i64 (AV.toI (g (0 + Int.toNat (↑i : Int)) (2))))))) z)
 (cond (List.all (List.range (Int.toNat (IntKind.wrap IntKind.i64 (IntKind.wrap IntKind.i64 (8 * IntKind.wrap IntKind.i64 (AV.toI (g (0 + Int.toNat (↑i : Int)) (2)))) + (↑(List.length (AV.toS (g (0 + Int.toNat (↑i : Int)) (4)))) : Int))) - Int.toNat (IntKind.wrap IntKind.i64 (8 * IntKind.wrap IntKind.i64 (AV.toI (g (0 + Int.toNat (↑i : Int)) (2))))))) fun i_1 => decide (0 ≤ byteAt q (0 + Int.toNat (IntKind.wrap IntKind.i64 (8 * IntKind.wrap IntKind.i64 (AV.toI (g (0 + Int.toNat (↑i : Int)) (2))))) + i_1)) && decide (byteAt q (0 + Int.toNat (IntKind.wrap IntKind.i64 (8 * IntKind.wrap IntKind.i64 (AV.toI (g (0 + Int.toNat (↑i : Int)) (2))))) + i_1) < 256))
 (cond (ri == true) (cond (ri == true) (cond (ri == true) (cond (ri) (cond (AV.toS (g (0 + Int.toNat (↑i : Int)) (4)) == AV.toS (g (0 + Int.toNat (↑i : Int)) (4))) (cond (Nat.ble (0 + Int.toNat (IntKind.wrap IntKind.i64 (8 * IntKind.wrap IntKind.i64 (AV.toI (g (0 + Int.toNat (↑i : Int)) (2))))) + (Int.toNat (IntKind.wrap IntKind.i64 (IntKind.wrap IntKind.i64 (8 * IntKind.wrap IntKind.i64 (AV.toI (g (0 + Int.toNat (↑i : Int)) (2)))) + (↑(List.length (AV.toS (g (0 + Int.toNat (↑i : Int)) (4)))) : Int))) - Int.toNat (IntKind.wrap IntKind.i64 (8 * IntKind.wrap IntKind.i64 (AV.toI (g (0 + Int.toNat (↑i : Int)) (2))))))) z) (cond (List.all (List.range (Int.toNat (IntKind.wrap IntKind.i64 (IntKind.wrap IntKind.i64 (8 * IntKind.wrap IntKind.i64 (AV.toI (g (0 + Int.toNat (↑i : Int)) (2)))) + (↑(List.length (AV.toS (g (0 + Int.toNat (↑i : Int)) (4)))) : Int))) - Int.toNat (IntKind.wrap IntKind.i64 (8 * IntKind.wrap IntKind.i64 (AV.toI (g (0 + Int.toNat (↑i : Int)) (2))))))) fun i_1 => decide (0 ≤ byteAt q (0 + Int.toNat (IntKind.wrap IntKind.i64 (8 * IntKind.wrap IntKind.i64 (AV.toI (g (0 + Int.toNat (↑i : Int)) (2))))) + i_1)) && decide (byteAt q (0 + Int.toNat (IntKind.wrap IntKind.i64 (8 * IntKind.wrap IntKind.i64 (AV.toI (g (0 + Int.toNat (↑i : Int)) (2))))) + i_1) < 256)) (cond (List.map (fun i_1 => Int.toNat (byteAt q (0 + Int.toNat (IntKind.wrap IntKind.i64 (8 * IntKind.wrap IntKind.i64 (AV.toI (g (0 + Int.toNat (↑i : Int)) (2))))) + i_1))) (List.range (Int.toNat (IntKind.wrap IntKind.i64 (IntKind.wrap IntKind.i64 (8 * IntKind.wrap IntKind.i64 (AV.toI (g (0 + Int.toNat (↑i : Int)) (2)))) + (↑(List.length (AV.toS (g (0 + Int.toNat (↑i : Int)) (4)))) : Int))) - Int.toNat (IntKind.wrap IntKind.i64 (8 * IntKind.wrap IntKind.i64 (AV.toI (g (0 + Int.toNat (↑i : Int)) (2))))))) == List.map (fun i_1 => Int.toNat (byteAt q (0 + Int.toNat (IntKind.wrap IntKind.i64 (8 * IntKind.wrap IntKind.i64 (AV.toI (g (0 + Int.toNat (↑i : Int)) (2))))) + i_1))) (List.range (Int.toNat (IntKind.wrap IntKind.i64 (IntKind.wrap IntKind.i64 (8 * IntKind.wrap IntKind.i64 (AV.toI (g (0 + Int.toNat (↑i : Int)) (2)))) + (↑(List.length (AV.toS (g (0 + Int.toNat (↑i : Int)) (4)))) : Int))) - Int.toNat (IntKind.wrap IntKind.i64 (8 * IntKind.wrap IntKind.i64 (AV.toI (g (0 + Int.toNat (↑i : Int)) (2)))))))) (cond (Nat.ble (Int.toNat (IntKind.wrap IntKind.i64 (8 * IntKind.wrap IntKind.i64 (AV.toI (g (0 + Int.toNat (↑i : Int)) (2)))))) (Int.toNat (IntKind.wrap IntKind.i64 (IntKind.wrap IntKind.i64 (8 * IntKind.wrap IntKind.i64 (AV.toI (g (0 + Int.toNat (↑i : Int)) (2)))) + (↑(List.length (AV.toS (g (0 + Int.toNat (↑i : Int)) (4)))) : Int))))) (cond (Nat.ble (Int.toNat (IntKind.wrap IntKind.i64 (IntKind.wrap IntKind.i64 (8 * IntKind.wrap IntKind.i64 (AV.toI (g (0 + Int.toNat (↑i : Int)) (2)))) + (↑(List.length (AV.toS (g (0 + Int.toNat (↑i : Int)) (4)))) : Int)))) z) (cond (decide (0 ≤ IntKind.wrap IntKind.i64 (8 * IntKind.wrap IntKind.i64 (AV.toI (g (0 + Int.toNat (↑i : Int)) (2)))))) (cond (decide (0 ≤ IntKind.wrap IntKind.i64 (IntKind.wrap IntKind.i64 (8 * IntKind.wrap IntKind.i64 (AV.toI (g (0 + Int.toNat (↑i : Int)) (2)))) + (↑(List.length (AV.toS (g (0 + Int.toNat (↑i : Int)) (4)))) : Int)))) (cond (Nat.beq (0 + Int.toNat (IntKind.wrap IntKind.i64 (8 * IntKind.wrap IntKind.i64 (AV.toI (g (0 + Int.toNat (↑i : Int)) (2)))))) (0 + Int.toNat (IntKind.wrap IntKind.i64 (8 * IntKind.wrap IntKind.i64 (AV.toI (g (0 + Int.toNat (↑i : Int)) (2))))))) (cond (Nat.beq (Int.toNat (IntKind.wrap IntKind.i64 (IntKind.wrap IntKind.i64 (8 * IntKind.wrap IntKind.i64 (AV.toI (g (0 + Int.toNat (↑i : Int)) (2)))) + (↑(List.length (AV.toS (g (0 + Int.toNat (↑i : Int)) (4)))) : Int))) - Int.toNat (IntKind.wrap IntKind.i64 (8 * IntKind.wrap IntKind.i64 (AV.toI (g (0 + Int.toNat (↑i : Int)) (2)))))) (Int.toNat (IntKind.wrap IntKind.i64 (IntKind.wrap IntKind.i64 (8 * IntKind.wrap IntKind.i64 (AV.toI (g (0 + Int.toNat (↑i : Int)) (2)))) + (↑(List.length (AV.toS (g (0 + Int.toNat (↑i : Int)) (4)))) : Int))) - Int.toNat (IntKind.wrap IntKind.i64 (8 * IntKind.wrap IntKind.i64 (AV.toI (g (0 + Int.toNat (↑i : Int)) (2))))))) (cond (Nat.beq (z - Int.toNat (IntKind.wrap IntKind.i64 (8 * IntKind.wrap IntKind.i64 (AV.toI (g (0 + Int.toNat (↑i : Int)) (2)))))) (z - Int.toNat (IntKind.wrap IntKind.i64 (8 * IntKind.wrap IntKind.i64 (AV.toI (g (0 + Int.toNat (↑i : Int)) (2))))))) (cond (decide ((↑(List.length (AV.toS (g (0 + Int.toNat (↑i : Int)) (4)))) : Int) = (↑(List.length (AV.toS (g (0 + Int.toNat (↑i : Int)) (4)))) : Int))) (cond (AV.toS (g (0 + Int.toNat (↑i : Int)) (4)) == AV.toS (g (0 + Int.toNat (↑i : Int)) (4))) (some (0, (CS.mk [(AV.int IntKind.u32 (bl)), (AV.osl (false) (0) (0) (m) (m) (8) (true)), (AV.osl (false) (1) (0) (z) (z) (1) (true)), (AV.bool (List.map (fun i_1 => Int.toNat (byteAt q (0 + Int.toNat (IntKind.wrap IntKind.i64 (8 * IntKind.wrap IntKind.i64 (AV.toI (g (0 + Int.toNat (↑i : Int)) (2))))) + i_1))) (List.range (Int.toNat (IntKind.wrap IntKind.i64 (IntKind.wrap IntKind.i64 (8 * IntKind.wrap IntKind.i64 (AV.toI (g (0 + Int.toNat (↑i : Int)) (2)))) + (↑(List.length (AV.toS (g (0 + Int.toNat (↑i : Int)) (4)))) : Int))) - Int.toNat (IntKind.wrap IntKind.i64 (8 * IntKind.wrap IntKind.i64 (AV.toI (g (0 + Int.toNat (↑i : Int)) (2))))))) == AV.toS (g (0 + Int.toNat (↑i : Int)) (4)))), (AV.osl (false) (0) (0) (m) (m) (8) (true)), (AV.int IntKind.i64 ((↑m : Int))), (AV.int IntKind.i64 (IntKind.wrap IntKind.i64 ((↑i : Int) + 1)))] [some (AObj.tarr shO (m) g true), some (AObj.tarr [Sh.int IntKind.u8] (z) q true)]))) none) none) none) none) none) none) none) none) none) none) none) none) none) none) none) none) none)
 none)
 none) none)
 none)
 none)
 none)
 none) none) none) none) none) none) none) none)
 (cond (ri == true) none (cond (ri == true) none (cond (ri == true) none (cond (ri == true) none (cond (ri == true) none (cond (ri == true) none (cond (ri == true) none (cond (ri == true) none (cond (ri == true) none (cond (ri == true) none (cond (ri == true) none (cond (ri) none (some (0, (CS.mk [(AV.int IntKind.u32 (bl)), (AV.osl (false) (0) (0) (m) (m) (8) (true)), (AV.osl (false) (1) (0) (z) (z) (1) (true)), (AV.bool (false)), (AV.osl (false) (0) (0) (m) (m) (8) (true)), (AV.int IntKind.i64 ((↑m : Int))), (AV.int IntKind.i64 (IntKind.wrap IntKind.i64 ((↑i : Int) + 1)))] [some (AObj.tarr shO (m) g true), some (AObj.tarr [Sh.int IntKind.u8] (z) q true)])))))))))))))))))
 none) none)
 (some (1, (CS.mk [(AV.int IntKind.u32 (bl)), (AV.osl (false) (0) (0) (m) (m) (8) (true)), (AV.bool (ri))] [some (AObj.tarr shO (m) g true)])))) := by kernel_rfl
theorem s52_eq (bl : Int) (m : Nat) (g : Nat → Nat → AV) (z : Nat) (q : Nat → Nat → AV) (ri : Bool) (i : Nat) : s52 bl m g z q ri i s52_p = (cond (decide ((↑i : Int) < (↑m : Int)))
 (cond (Nat.blt (0 + Int.toNat (↑i : Int)) m)
 (cond (AV.toB (g (0 + Int.toNat (↑i : Int)) (1)))
 (cond (Nat.ble (Int.toNat (IntKind.wrap IntKind.i64 (8 * IntKind.wrap IntKind.i64 (AV.toI (g (0 + Int.toNat (↑i : Int)) (2)))))) z)
 (cond (decide (0 ≤ IntKind.wrap IntKind.i64 (8 * IntKind.wrap IntKind.i64 (AV.toI (g (0 + Int.toNat (↑i : Int)) (2))))))
 (cond (Nat.ble (0 + Int.toNat (IntKind.wrap IntKind.i64 (8 * IntKind.wrap IntKind.i64 (AV.toI (g (0 + Int.toNat (↑i : Int)) (2))))) + (z - Int.toNat (IntKind.wrap IntKind.i64 (8 * IntKind.wrap IntKind.i64 (AV.toI (g (0 + Int.toNat (↑i : Int)) (2))))))) z)
 (some (0, (CS.mk [(AV.int IntKind.u32 (bl)), (AV.osl (false) (0) (0) (m) (m) (8) (true)), (AV.osl (false) (1) (0) (z) (z) (1) (true)), (AV.bool (ri)), (AV.osl (false) (0) (0) (m) (m) (8) (true)), (AV.int IntKind.i64 ((↑m : Int))), (AV.int IntKind.i64 (IntKind.wrap IntKind.i64 ((↑i : Int) + 1)))] [some (AObj.tarr shO (m) g true), some (AObj.tarr [Sh.int IntKind.u8] (z) (fover q (0 + Int.toNat (IntKind.wrap IntKind.i64 (8 * IntKind.wrap IntKind.i64 (AV.toI (g (0 + Int.toNat (↑i : Int)) (2)))))) (Nat.min (List.length (AV.toS (g (0 + Int.toNat (↑i : Int)) (4)))) (z - Int.toNat (IntKind.wrap IntKind.i64 (8 * IntKind.wrap IntKind.i64 (AV.toI (g (0 + Int.toNat (↑i : Int)) (2))))))) (fun p_ q_ => (AV.int IntKind.u8 ((↑(natAt (AV.toS (g (0 + Int.toNat (↑i : Int)) (4))) p_) : Int))))) true)])))
 none)
 none)
 none)
 (cond (ri)
 (cond (Nat.ble (Int.toNat (IntKind.wrap IntKind.i64 (8 * IntKind.wrap IntKind.i64 (AV.toI (g (0 + Int.toNat (↑i : Int)) (2)))))) (Int.toNat (IntKind.wrap IntKind.i64 (IntKind.wrap IntKind.i64 (8 * IntKind.wrap IntKind.i64 (AV.toI (g (0 + Int.toNat (↑i : Int)) (2)))) + (↑(List.length (AV.toS (g (0 + Int.toNat (↑i : Int)) (4)))) : Int)))))
 (cond (Nat.ble (Int.toNat (IntKind.wrap IntKind.i64 (IntKind.wrap IntKind.i64 (8 * IntKind.wrap IntKind.i64 (AV.toI (g (0 + Int.toNat (↑i : Int)) (2)))) + (↑(List.length (AV.toS (g (0 + Int.toNat (↑i : Int)) (4)))) : Int)))) z)
 (cond (decide (0 ≤ IntKind.wrap IntKind.i64 (8 * IntKind.wrap IntKind.i64 (AV.toI (g (0 + Int.toNat (↑i : Int)) (2))))))
 (cond (decide (0 ≤ IntKind.wrap IntKind.i64 (IntKind.wrap IntKind.i64 (8 * IntKind.wrap IntKind.i64 (AV.toI (g (0 + Int.toNat (↑i : Int)) (2)))) + (↑(List.length (AV.toS (g (0 + Int.toNat (↑i : Int)) (4)))) : Int))))
 (cond (Nat.ble (0 + Int.toNat (IntKind.wrap IntKind.i64 (8 * IntKind.wrap IntKind.i64 (AV.toI (g (0 + Int.toNat (↑i : Int)) (2))))) + (Int.toNat (IntKind.wrap IntKind.i64 (IntKind.wrap IntKind.i64 (8 * IntKind.wrap IntKind.i64 (AV.toI (g (0 + Int.toNat (↑i : Int)) (2)))) + (↑(List.length (AV.toS (g (0 + Int.toNat (↑i : Int)) (4)))) : Int))) - Int.toNat (IntKind.wrap IntKind.i64 (8 * IntKind.wrap IntKind.i64 (AV.toI (g (0 + Int.toNat (↑i : Int)) (2))))))) z)
 (cond (List.all (List.range (Int.toNat (IntKind.wrap IntKind.i64 (IntKind.wrap IntKind.i64 (8 * IntKind.wrap IntKind.i64 (AV.toI (g (0 + Int.toNat (↑i : Int)) (2)))) + (↑(List.length (AV.toS (g (0 + Int.toNat (↑i : Int)) (4)))) : Int))) - Int.toNat (IntKind.wrap IntKind.i64 (8 * IntKind.wrap IntKind.i64 (AV.toI (g (0 + Int.toNat (↑i : Int)) (2))))))) fun i_1 => decide (0 ≤ byteAt q (0 + Int.toNat (IntKind.wrap IntKind.i64 (8 * IntKind.wrap IntKind.i64 (AV.toI (g (0 + Int.toNat (↑i : Int)) (2))))) + i_1)) && decide (byteAt q (0 + Int.toNat (IntKind.wrap IntKind.i64 (8 * IntKind.wrap IntKind.i64 (AV.toI (g (0 + Int.toNat (↑i : Int)) (2))))) + i_1) < 256))
 (some (0, (CS.mk [(AV.int IntKind.u32 (bl)), (AV.osl (false) (0) (0) (m) (m) (8) (true)), (AV.osl (false) (1) (0) (z) (z) (1) (true)), (AV.bool (List.map (fun i_1 => Int.toNat (byteAt q (0 + Int.toNat (IntKind.wrap IntKind.i64 (8 * IntKind.wrap IntKind.i64 (AV.toI (g (0 + Int.toNat (↑i : Int)) (2))))) + i_1))) (List.range (Int.toNat (IntKind.wrap IntKind.i64 (IntKind.wrap IntKind.i64 (8 * IntKind.wrap IntKind.i64 (AV.toI (g (0 + Int.toNat (↑i : Int)) (2)))) + (↑(List.length (AV.toS (g (0 + Int.toNat (↑i : Int)) (4)))) : Int))) - Int.toNat (IntKind.wrap IntKind.i64 (8 * IntKind.wrap IntKind.i64 (AV.toI (g (0 + Int.toNat (↑i : Int)) (2))))))) == AV.toS (g (0 + Int.toNat (↑i : Int)) (4)))), (AV.osl (false) (0) (0) (m) (m) (8) (true)), (AV.int IntKind.i64 ((↑m : Int))), (AV.int IntKind.i64 (IntKind.wrap IntKind.i64 ((↑i : Int) + 1)))] [some (AObj.tarr shO (m) g true), some (AObj.tarr [Sh.int IntKind.u8] (z) q true)])))
 none)
 none)
 none)
 none)
 none)
 none)
 (some (0, (CS.mk [(AV.int IntKind.u32 (bl)), (AV.osl (false) (0) (0) (m) (m) (8) (true)), (AV.osl (false) (1) (0) (z) (z) (1) (true)), (AV.bool (false)), (AV.osl (false) (0) (0) (m) (m) (8) (true)), (AV.int IntKind.i64 ((↑m : Int))), (AV.int IntKind.i64 (IntKind.wrap IntKind.i64 ((↑i : Int) + 1)))] [some (AObj.tarr shO (m) g true), some (AObj.tarr [Sh.int IntKind.u8] (z) q true)])))))
 none)
 (some (1, (CS.mk [(AV.int IntKind.u32 (bl)), (AV.osl (false) (0) (0) (m) (m) (8) (true)), (AV.bool (ri))] [some (AObj.tarr shO (m) g true)])))) := by
 rw [s52_is]
 try simp only [eq_self, decide_true, beq_self_eq_true, Nat.beq_refl, ble_self, Int.le_refl, Nat.le_refl]
 cases (decide ((↑i : Int) < (↑m : Int))) with
 | true =>
   cases (Nat.blt (0 + Int.toNat (↑i : Int)) m) with
   | true =>
     cases (AV.toB (g (0 + Int.toNat (↑i : Int)) (1))) with
     | true =>
       cases (Nat.ble (Int.toNat (IntKind.wrap IntKind.i64 (8 * IntKind.wrap IntKind.i64 (AV.toI (g (0 + Int.toNat (↑i : Int)) (2)))))) z) with
       | true =>
         cases (decide (0 ≤ IntKind.wrap IntKind.i64 (8 * IntKind.wrap IntKind.i64 (AV.toI (g (0 + Int.toNat (↑i : Int)) (2)))))) with
         | true =>
           cases (Nat.ble (0 + Int.toNat (IntKind.wrap IntKind.i64 (8 * IntKind.wrap IntKind.i64 (AV.toI (g (0 + Int.toNat (↑i : Int)) (2))))) + (z - Int.toNat (IntKind.wrap IntKind.i64 (8 * IntKind.wrap IntKind.i64 (AV.toI (g (0 + Int.toNat (↑i : Int)) (2))))))) z) with
           | true =>
             rfl
           | false =>
             rfl
         | false =>
           rfl
       | false =>
         rfl
     | false =>
       cases (ri) with
       | true =>
         cases (Nat.ble (Int.toNat (IntKind.wrap IntKind.i64 (8 * IntKind.wrap IntKind.i64 (AV.toI (g (0 + Int.toNat (↑i : Int)) (2)))))) (Int.toNat (IntKind.wrap IntKind.i64 (IntKind.wrap IntKind.i64 (8 * IntKind.wrap IntKind.i64 (AV.toI (g (0 + Int.toNat (↑i : Int)) (2)))) + (↑(List.length (AV.toS (g (0 + Int.toNat (↑i : Int)) (4)))) : Int))))) with
         | true =>
           cases (Nat.ble (Int.toNat (IntKind.wrap IntKind.i64 (IntKind.wrap IntKind.i64 (8 * IntKind.wrap IntKind.i64 (AV.toI (g (0 + Int.toNat (↑i : Int)) (2)))) + (↑(List.length (AV.toS (g (0 + Int.toNat (↑i : Int)) (4)))) : Int)))) z) with
           | true =>
             cases (decide (0 ≤ IntKind.wrap IntKind.i64 (8 * IntKind.wrap IntKind.i64 (AV.toI (g (0 + Int.toNat (↑i : Int)) (2)))))) with
             | true =>
               cases (decide (0 ≤ IntKind.wrap IntKind.i64 (IntKind.wrap IntKind.i64 (8 * IntKind.wrap IntKind.i64 (AV.toI (g (0 + Int.toNat (↑i : Int)) (2)))) + (↑(List.length (AV.toS (g (0 + Int.toNat (↑i : Int)) (4)))) : Int)))) with
               | true =>
                 cases (Nat.ble (0 + Int.toNat (IntKind.wrap IntKind.i64 (8 * IntKind.wrap IntKind.i64 (AV.toI (g (0 + Int.toNat (↑i : Int)) (2))))) + (Int.toNat (IntKind.wrap IntKind.i64 (IntKind.wrap IntKind.i64 (8 * IntKind.wrap IntKind.i64 (AV.toI (g (0 + Int.toNat (↑i : Int)) (2)))) + (↑(List.length (AV.toS (g (0 + Int.toNat (↑i : Int)) (4)))) : Int))) - Int.toNat (IntKind.wrap IntKind.i64 (8 * IntKind.wrap IntKind.i64 (AV.toI (g (0 + Int.toNat (↑i : Int)) (2))))))) z) with
                 | true =>
                   cases (List.all (List.range (Int.toNat (IntKind.wrap IntKind.i64 (IntKind.wrap IntKind.i64 (8 * IntKind.wrap IntKind.i64 (AV.toI (g (0 + Int.toNat (↑i : Int)) (2)))) + (↑(List.length (AV.toS (g (0 + Int.toNat (↑i : Int)) (4)))) : Int))) - Int.toNat (IntKind.wrap IntKind.i64 (8 * IntKind.wrap IntKind.i64 (AV.toI (g (0 + Int.toNat (↑i : Int)) (2))))))) fun i_1 => decide (0 ≤ byteAt q (0 + Int.toNat (IntKind.wrap IntKind.i64 (8 * IntKind.wrap IntKind.i64 (AV.toI (g (0 + Int.toNat (↑i : Int)) (2))))) + i_1)) && decide (byteAt q (0 + Int.toNat (IntKind.wrap IntKind.i64 (8 * IntKind.wrap IntKind.i64 (AV.toI (g (0 + Int.toNat (↑i : Int)) (2))))) + i_1) < 256)) with
                   | true =>
                     rfl
                   | false =>
                     rfl
                 | false =>
                   rfl
               | false =>
                 rfl
             | false =>
               rfl
           | false =>
             rfl
         | false =>
           rfl
       | false =>
         rfl
   | false =>
     rfl
 | false =>
   rfl
noncomputable def s52z (bl : Int) (z : Nat) (q : Nat → Nat → AV) (ri : Bool) (π : Plan) : Option (Nat × CS) := stepC (EM) (400) (loopC EM 5 2) (0) (h52) ((.normal, h52) :: x52) π (c52z bl z q ri)
def s52z_p : Plan := .stop
theorem s52z_is (bl : Int) (z : Nat) (q : Nat → Nat → AV) (ri : Bool) : s52z bl z q ri s52z_p = (some (1, (CS.mk [(AV.int IntKind.u32 (bl)), (AV.osl (true) (0) (0) (0) (0) (8) (true)), (AV.bool (ri))] [some (AObj.tarr shO (0) (fun p_ q_ => AV.bad) true)]))) := by kernel_rfl
theorem s52z_eq (bl : Int) (z : Nat) (q : Nat → Nat → AV) (ri : Bool) : s52z bl z q ri s52z_p = (some (1, (CS.mk [(AV.int IntKind.u32 (bl)), (AV.osl (true) (0) (0) (0) (0) (8) (true)), (AV.bool (ri))] [some (AObj.tarr shO (0) (fun p_ q_ => AV.bad) true)]))) := by
 rw [s52z_is]
theorem r50_inv  {c : CS} {r : Nat × CS} (h : (r50  c).run = some r) : ∃ bl g nl n f, c = i50 bl g nl n f ∧ (r50B  bl g nl n f).run = some r := by
 unfold r50 at h
 split at h
 ·rename_i bl z_1 z_2 z_3 nl n z_4 z_5 z_6 sh_7 z_8 g sh_9 z_10 f
  obtain ⟨hc, hb⟩ := chkT_run h
  have h0 := hc 0 _ rfl
  have h0 := of_decide_eq_true h0; subst h0
  have h1 := hc 1 _ rfl
  have h1 := of_decide_eq_true h1; subst h1
  have h2 := hc 2 _ rfl
  have h2 := of_decide_eq_true h2; subst h2
  have h3 := hc 3 _ rfl
  have h3 := of_decide_eq_true h3; subst h3
  have h4 := hc 4 _ rfl
  have h4 := of_decide_eq_true h4; subst h4
  have h5 := hc 5 _ rfl
  have h5 := of_decide_eq_true h5; subst h5
  have h6 := hc 6 _ rfl
  have h6 := (shBeq_eq h6).symm; subst h6
  have h7 := hc 7 _ rfl
  have h7 := of_decide_eq_true h7; subst h7
  have h8 := hc 8 _ rfl
  have h8 := (shBeq_eq h8).symm; subst h8
  have h9 := hc 9 _ rfl
  have h9 := of_decide_eq_true h9; subst h9
  exact ⟨bl, g, nl, n, f, rfl, hb⟩
 ·cases h
theorem r52n_inv  {c : CS} {r : Nat × CS} (h : (r52n  c).run = some r) : ∃ bl m g z q, c = i52 bl m g z q ∧ (r52nB  bl m g z q).run = some r := by
 unfold r52n at h
 split at h
 ·rename_i bl z_1 m z_2 z_3 z z_4 z_5 z_6 z_7 z_8 z_9 z_10 sh_11 z_12 g sh_13 z_14 q
  obtain ⟨hc, hb⟩ := chkT_run h
  have h0 := hc 0 _ rfl
  have h0 := of_decide_eq_true h0; subst h0
  have h1 := hc 1 _ rfl
  have h1 := of_decide_eq_true h1; subst h1
  have h2 := hc 2 _ rfl
  have h2 := of_decide_eq_true h2; subst h2
  have h3 := hc 3 _ rfl
  have h3 := of_decide_eq_true h3; subst h3
  have h4 := hc 4 _ rfl
  have h4 := of_decide_eq_true h4; subst h4
  have h5 := hc 5 _ rfl
  have h5 := of_decide_eq_true h5; subst h5
  have h6 := hc 6 _ rfl
  have h6 := of_decide_eq_true h6; subst h6
  have h7 := hc 7 _ rfl
  have h7 := of_decide_eq_true h7; subst h7
  have h8 := hc 8 _ rfl
  have h8 := of_decide_eq_true h8; subst h8
  have h9 := hc 9 _ rfl
  have h9 := of_decide_eq_true h9; subst h9
  have h10 := hc 10 _ rfl
  have h10 := (shBeq_eq h10).symm; subst h10
  have h11 := hc 11 _ rfl
  have h11 := of_decide_eq_true h11; subst h11
  have h12 := hc 12 _ rfl
  have h12 := (shBeq_eq h12).symm; subst h12
  have h13 := hc 13 _ rfl
  have h13 := of_decide_eq_true h13; subst h13
  exact ⟨bl, m, g, z, q, rfl, hb⟩
 ·cases h
theorem r52z_inv  {c : CS} {r : Nat × CS} (h : (r52z  c).run = some r) : ∃ bl g g2 z q, c = i52z bl g g2 z q ∧ (r52zB  bl g g2 z q).run = some r := by
 unfold r52z at h
 split at h
 ·rename_i bl z_1 z_2 z_3 z_4 z z_5 z_6 z_7 z_8 z_9 z_10 z_11 sh_12 z_13 g sh_14 z_15 q sh_16 z_17 g2
  obtain ⟨hc, hb⟩ := chkT_run h
  have h0 := hc 0 _ rfl
  have h0 := of_decide_eq_true h0; subst h0
  have h1 := hc 1 _ rfl
  have h1 := of_decide_eq_true h1; subst h1
  have h2 := hc 2 _ rfl
  have h2 := of_decide_eq_true h2; subst h2
  have h3 := hc 3 _ rfl
  have h3 := of_decide_eq_true h3; subst h3
  have h4 := hc 4 _ rfl
  have h4 := of_decide_eq_true h4; subst h4
  have h5 := hc 5 _ rfl
  have h5 := of_decide_eq_true h5; subst h5
  have h6 := hc 6 _ rfl
  have h6 := of_decide_eq_true h6; subst h6
  have h7 := hc 7 _ rfl
  have h7 := of_decide_eq_true h7; subst h7
  have h8 := hc 8 _ rfl
  have h8 := of_decide_eq_true h8; subst h8
  have h9 := hc 9 _ rfl
  have h9 := of_decide_eq_true h9; subst h9
  have h10 := hc 10 _ rfl
  have h10 := of_decide_eq_true h10; subst h10
  have h11 := hc 11 _ rfl
  have h11 := (shBeq_eq h11).symm; subst h11
  have h12 := hc 12 _ rfl
  have h12 := of_decide_eq_true h12; subst h12
  have h13 := hc 13 _ rfl
  have h13 := (shBeq_eq h13).symm; subst h13
  have h14 := hc 14 _ rfl
  have h14 := of_decide_eq_true h14; subst h14
  have h15 := hc 15 _ rfl
  have h15 := (shBeq_eq h15).symm; subst h15
  have h16 := hc 16 _ rfl
  have h16 := of_decide_eq_true h16; subst h16
  exact ⟨bl, g, g2, z, q, rfl, hb⟩
 ·cases h
theorem w2 {i : Nat} (h : i < 1000) : IntKind.wrap .i64 (2 * (i : Int)) = 2 * (i : Int) := by
 have := wi (a := 2 * i) (by omega)
 simpa using this
theorem w21 {i : Nat} (h : i < 1000) : IntKind.wrap .i64 (2 * (i : Int) + 1) = 2 * (i : Int) + 1 := by
 have := wi (a := 2 * i + 1) (by omega)
 simpa using this
noncomputable def st50 (bl : Int) (nl : Bool) (n : Nat) (f : Nat → Nat → AV) (L : List Opn) (i : Nat) : CS := match L with
 | [] => c50n bl nl n f i
 | _ :: _ => c50 bl L.length (finO L) nl n f i
def pi50 : CS → Plan
 | ⟨[_, .nilSlice, _, _, _], _⟩ => s50n_p
 | _ => s50_p
noncomputable abbrev stp50 (c : CS) : Option (Nat × CS) := stepC ED 400 (loopC ED 5 0) 0 h50 ((.normal, h50) :: x50) (pi50 c) c
theorem st50_nn {bl : Int} {nl : Bool} {n : Nat} {f : Nat → Nat → AV} {L : List Opn} {i : Nat} (h : L ≠ []) : st50 bl nl n f L i = c50 bl L.length (finO L) nl n f i := by
 cases L with
 | nil => exact absurd rfl h
 | cons x l => rfl
theorem seen50 {bl : Int} {nl : Bool} {n : Nat} {f g : Nat → Nat → AV} {m i : Nat} {L : List Opn} {w : Int} (hL : L ≠ []) (hm : m = L.length) (hg : IsO g L) (hw : w = (i : Nat)) :
  Seen ⟨[.int .u32 bl, .osl false 0 0 m m 8 true, .osl nl 1 0 n n 8 true, .int .i64 (n : Int), .int .i64 w], [some (.tarr shO m g true), some (.tarr shO n f false)]⟩ (st50 bl nl n f L i) := by
 rw [st50_nn hL]
 subst hw
 exact Seen.mk' (.cons (SeenV.refl _) (.cons (SeenV.osl hm) (SeenVs.refl _))) (.cons (SeenO.ops hm hg) (SeenOs.refl _))
theorem round50 (bl : Int) (nl : Bool) (n : Nat) (f : Nat → Nat → AV) (hn : n ≤ 20) (i : Nat) (hi : i < n) :
  ∃ c1, stp50 (st50 bl nl n f (rowO f i) i) = some (0, c1) ∧ Seen c1 (st50 bl nl n f (rowO f (i + 1)) (i + 1)) := by
 have one : IsO (rowsOf 8 [.int .u64 (f i 0).toI, .bool (f i 1).toB, .int .u32 (f i 2).toI, .int .u32 (f i 3).toI, .str (f i 4).toS, .int .i64 (2 * (i : Int)), .int .i64 (2 * (i : Int) + 1), .bool false] 1) [rowOf f i] := isO_one (rowOf f i)
 rw [rowO_succ]
 by_cases h0 : i = 0
 ·subst h0
  have e := s50n_eq bl nl n f 0
  rw [lt1 hi, ix_, blt_t hi, wrap_i64s (by omega), w2 (by omega), w21 (by omega)] at e
  exact ⟨_, e, seen50 (by simp) rfl one rfl⟩
 ·have hne : rowO f i ≠ [] := fun e => by
   have := rowO_len f i
   rw [e] at this
   exact h0 this.symm
  have e := s50_eq bl (rowO f i).length (finO (rowO f i)) nl n f i
  rw [rowO_len] at e
  rw [lt1 hi, ix_, blt_t hi, wrap_i64s (by omega), w2 (by omega), w21 (by omega), ble_f (show ¬ i + 1 ≤ i by omega), grow64 (show i + 1 ≤ 2000000 by omega), ble_t (show 0 + i ≤ i by omega)] at e
  rw [st50_nn hne, rowO_len]
  exact ⟨_, e, seen50 (by simp) (by simp [rowO_len]) (isO_join (rowO_len f i).symm (isO_zero (isO_fin (rowO f i))) one) rfl⟩
theorem il50 (c : CS) (r : Nat × CS) (h : (r50 c).run = some r) : Loops stp50 c r.1 r.2 := by
 obtain ⟨bl, g, nl, n, f, rfl, hb⟩ := r50_inv h
 obtain ⟨hn, hb2⟩ := chkT_run hb
 have hn := le_of (hn 0 _ rfl)
 clear h hb
 rw [rowV_eq] at hb2
 refine Loops.see (c1 := st50 bl nl n f (rowO f 0) 0) (Seen.mk' (.cons (SeenV.refl _) (.cons SeenV.nil (SeenVs.refl _))) (.skip (SeenOs.refl _))) ?_
 by_cases h0 : n = 0
 ·subst h0
  simp only [Nat.beq_refl, T.run, cond_true, Option.some.injEq] at hb2; subst hb2
  have e := s50n_eq bl nl 0 f 0
  rw [lt0] at e
  exact .out e (Seen.refl _)
 ·have hne : rowO f n ≠ [] := fun e => by
   have := rowO_len f n
   rw [e] at this
   exact h0 this.symm
  rw [show Nat.beq n 0 = false by rw [beq_iff]; exact decide_eq_false h0] at hb2
  simp only [T.run, cond_false, Option.some.injEq] at hb2; subst hb2
  refine Loops.for (C := fun i => st50 bl nl n f (rowO f i) i) (n := n) (k := 0) (fun i hi => round50 bl nl n f hn i hi) ⟨_, ?_, Seen.refl _⟩
  rw [st50_nn hne, rowO_len]
  have e := s50_eq bl n (finO (rowO f n)) nl n f n
  rw [lt0] at e
  exact e
theorem qEM : Bm.Good Try.prog EM := qED.addS (by kernel_rfl) rfl (by decide) (by decide) rfl il50
def IsB (q : Nat → Nat → AV) (s : List Nat) : Prop := ∀ j, j < s.length → (q j 0).toI = ((s.getD j 0 : Nat) : Int)
def pi52 : CS → Plan
 | ⟨[_, .nilSlice, _, _, _, _, _], _⟩ => s52z_p
 | _ => s52_p
noncomputable abbrev stp52 (c : CS) : Option (Nat × CS) := stepC EM 400 (loopC EM 5 2) 0 h52 ((.normal, h52) :: x52) (pi52 c) c
theorem getD_mid {s d : List Nat} {a b : Nat} (hd : d.length = b) (hs : a + b ≤ s.length) (j : Nat) : (s.take a ++ d ++ s.drop (a + b)).getD j 0 = if j < a then s.getD j 0 else if j < a + b then d.getD (j - a) 0 else s.getD j 0 := by
 have hl : (s.take a).length = a := by rw [List.length_take]; omega
 rw [List.append_assoc, List.getD_eq_getElem?_getD]
 by_cases h1 : j < a
 ·rw [if_pos h1, List.getElem?_append_left (by omega), List.getElem?_take, if_pos h1, List.getD_eq_getElem?_getD]
 ·rw [if_neg h1, List.getElem?_append_right (by omega), hl]
  by_cases h2 : j < a + b
  ·rw [if_pos h2, List.getElem?_append_left (by omega), List.getD_eq_getElem?_getD]
  ·rw [if_neg h2, List.getElem?_append_right (by omega), List.getElem?_drop, List.getD_eq_getElem?_getD, hd, show a + b + (j - a - b) = j by omega]
theorem natAt_getD : ∀ (l : List Nat) (i : Nat), natAt l i = l.getD i 0
 | [], i => by cases i <;> rfl
 | x :: l, 0 => rfl
 | x :: l, i + 1 => by
   rw [List.getD_cons_succ, ← natAt_getD l i]; rfl
theorem isB_mid {q : Nat → Nat → AV} {s d : List Nat} {a b m : Nat} (hq : IsB q s) (hd : d.length = b) (hs : a + b ≤ s.length) (hm : m = b) : IsB (fover q a m fun p _ => .int .u8 ((natAt d p : Nat) : Int)) (s.take a ++ d ++ s.drop (a + b)) := fun j hj => by
 subst hm
 have hl : (s.take a ++ d ++ s.drop (a + m)).length = s.length := by
  simp only [List.length_append, List.length_take, List.length_drop]; omega
 rw [hl] at hj
 rw [getD_mid hd hs]
 unfold fover
 by_cases h1 : j < a
 ·rw [if_pos h1, ble_f (show ¬ a ≤ j by omega)]
  exact hq j hj
 ·rw [if_neg h1, ble_t (show a ≤ j by omega)]
  by_cases h2 : j < a + m
  ·rw [if_pos h2, blt_t h2]
   show ((natAt d (j - a) : Nat) : Int) = _
   rw [natAt_getD]
  ·rw [if_neg h2, blt_f h2]
   exact hq j hj
theorem slice_is {q : Nat → Nat → AV} {s : List Nat} {a b : Nat} (hq : IsB q s) (hs : a + b ≤ s.length) : List.map (fun i => Int.toNat (byteAt q (0 + a + i))) (List.range (a + b - a)) = (s.drop a).take b := by
 refine List.ext_getElem (by simp; omega) fun i h1 h2 => ?_
 simp at h1
 have := hq (0 + a + i) (by omega)
 rw [show 0 + a + i = a + i by omega] at this
 simp [byteAt]
 rw [this, List.getD_eq_getElem?_getD, List.getElem?_eq_getElem (by omega)]
 rfl
theorem slice_all {q : Nat → Nat → AV} {s : List Nat} {a b : Nat} (hq : IsB q s) (h8 : ∀ x ∈ s, x < 256) (hs : a + b ≤ s.length) : (List.all (List.range (a + b - a)) fun i => decide (0 ≤ byteAt q (0 + a + i)) && decide (byteAt q (0 + a + i) < 256)) = true := by
 rw [List.all_eq_true]
 intro i hi
 have hi := List.mem_range.1 hi
 have h := hq (0 + a + i) (by omega)
 show (decide (0 ≤ (q (0 + a + i) 0).toI) && decide ((q (0 + a + i) 0).toI < 256)) = true
 have hm : s.getD (0 + a + i) 0 < 256 := by
  rw [List.getD_eq_getElem?_getD, List.getElem?_eq_getElem (by omega)]
  exact h8 _ (List.getElem_mem _)
 rw [h, decide_eq_true (show (0 : Int) ≤ ((s.getD (0 + a + i) 0 : Nat) : Int) by omega), decide_eq_true (show ((s.getD (0 + a + i) 0 : Nat) : Int) < 256 by omega)]
 rfl
end Go.Proofs.Ytmjmhpbncfjnpaa.history
end
section
set_option linter.unusedSimpArgs false
set_option linter.unusedVariables false
set_option maxRecDepth 20000
namespace Go.Proofs.Ytmjmhpbncfjnpaa.history
open Go Go.RowKit Go.Proofs.Ytmjmhpbncfjnpaa.Bm
theorem data_ok {g : Nat → Nat → AV} {m : Nat} (h : okBV g m = true) {i : Nat} (hi : i < m) : ∀ x ∈ (g i 4).toS, x < 256 := fun x hx => by
 rw [okBV_eq] at h
 have := okFrom_iff.1 h i hi
 rw [Nat.zero_add] at this
 exact lt_of (List.all_eq_true.1 this x hx)
theorem rd_drop {g : Nat → Nat → AV} {m i : Nat} (hi : i < m) : (rdO g m).drop i = opAt g i :: (rdO g m).drop (i + 1) := by
 have hl : i < (rdO g m).length := by rw [rdO_len]; exact hi
 rw [drop_at hl, rdO_at hi]
theorem round52 (bl : Int) (m : Nat) (g : Nat → Nat → AV) (z : Nat) (hm : m ≤ 20) (hok : okDV g m z = true) (h8 : okBV g m = true) (i : Nat) (hi : i < m) (s : List Nat) (q : Nat → Nat → AV) (ri : Bool) (hs : s.length = z) (hq : IsB q s) (hb : ∀ x ∈ s, x < 256) :
  ∃ s' q' ri', stp52 (c52 bl m g z q ri i) = some (0, c52 bl m g z q' ri' (i + 1)) ∧ s'.length = z ∧ IsB q' s' ∧ (∀ x ∈ s', x < 256) ∧ (ri' && (runO ((rdO g m).drop (i + 1)) s').isSome) = (ri && (runO ((rdO g m).drop i) s).isSome) := by
 obtain ⟨hL, hat⟩ := okD_at hok
 obtain ⟨a, b, ok⟩ := hat i hi
 have hle := ok.le
 have hlen := ok.len
 have hone := ok.one
 have hdo := doO_eq ok s
 have hd := data_ok h8 hi
 rw [rd_drop hi]
 have e := s52_eq bl m g z q ri i
 have hmin : Nat.min (8 * b) (z - 8 * a) = 8 * b := Nat.min_eq_left (by omega)
 rw [lt1 hi, ix_, blt_t hi, ok.fr, wi (a := a) (by omega), w8 (a := a) (by omega), hlen, wad (a := 8 * a) (b := 8 * b) (by omega), Int.toNat_natCast, Int.toNat_natCast, ble_t (show 8 * a ≤ z by omega), decide_eq_true (show 0 ≤ ((8 * a : Nat) : Int) by omega), ble_t (show 0 + 8 * a + (z - 8 * a) ≤ z by omega), hmin, wrap_i64s (by omega), ble_t (show 8 * a ≤ 8 * a + 8 * b by omega), ble_t (show 8 * a + 8 * b ≤ z by omega), decide_eq_true (show 0 ≤ ((8 * a + 8 * b : Nat) : Int) by omega), ble_t (show 0 + 8 * a + (8 * a + 8 * b - 8 * a) ≤ z by omega), slice_all hq hb (by omega), slice_is hq (by omega), show 0 + 8 * a = 8 * a by omega] at e
 cases hw : (g i 1).toB with
 | true =>
   rw [hw] at e hdo
   simp only [cond_true] at hdo
   refine ⟨s.take (8 * a) ++ (g i 4).toS ++ s.drop (8 * a + 8 * b), _, ri, e, ?_, isB_mid hq hlen (by omega) rfl, ?_, ?_⟩
   ·simp only [List.length_append, List.length_take, List.length_drop]; omega
   ·intro x hx
    rcases List.mem_append.1 hx with h | h
    ·rcases List.mem_append.1 h with h | h
     ·exact hb x (List.mem_of_mem_take h)
     ·exact hd x h
    ·exact hb x (List.mem_of_mem_drop h)
   ·simp only [runO, hdo]
 | false =>
   rw [hw] at e hdo
   simp only [cond_false] at hdo
   cases ri with
   | false => exact ⟨s, q, false, e, hs, hq, hb, rfl⟩
   | true =>
     refine ⟨s, q, (s.drop (8 * a)).take (8 * b) == (g i 4).toS, e, hs, hq, hb, ?_⟩
     simp only [runO, hdo]
     cases ((s.drop (8 * a)).take (8 * b) == (g i 4).toS) with
     | true => rfl
     | false => rfl
theorem il52n (c : CS) (r : Nat × CS) (h : (r52n c).run = some r) : Loops stp52 c r.1 r.2 := by
 obtain ⟨bl, m, g, z, q, rfl, hb⟩ := r52n_inv h
 obtain ⟨hn, hb2⟩ := chkT_run hb
 have hm := le_of (hn 0 _ rfl)
 have hok := hn 1 _ rfl
 have h8 := hn 2 _ rfl
 have hz := hn 3 _ rfl
 clear h hb hn
 rw [seqV_eq] at hb2
 rw [okQV_eq] at hz
 simp only [T.run, Option.some.injEq] at hb2; subst hb2
 have hq0 : IsB q (List.replicate z 0) := fun j hj => by
  rw [List.length_replicate] at hj
  have := okFrom_iff.1 hz j hj
  rw [Nat.zero_add] at this
  rw [of_decide_eq_true this, List.getD_eq_getElem?_getD, List.getElem?_replicate, if_pos hj]; rfl
 refine Loops.inv (X := Nat × List Nat × (Nat → Nat → AV) × Bool) (C := fun p => c52 bl m g z p.2.2.1 p.2.2.2 p.1) (fun p => p.1 ≤ m ∧ p.2.1.length = z ∧ IsB p.2.2.1 p.2.1 ∧ ∀ x ∈ p.2.1, x < 256) (fun p => m - p.1)
  (fun p => (1, ⟨[.int .u32 bl, .osl false 0 0 m m 8 true, .bool (p.2.2.2 && (runO ((rdO g m).drop p.1) p.2.1).isSome)], [some (.tarr shO m g true)]⟩)) (fun p hp => ?_) (0, List.replicate z 0, q, true) ⟨Nat.zero_le _, List.length_replicate .., hq0, fun x hx => by rw [List.eq_of_mem_replicate hx]; decide⟩
 obtain ⟨i, s, q', ri⟩ := p
 obtain ⟨h1, h2, h3, h4⟩ := hp
 by_cases hi : i = m
 ·subst hi
  have e := s52_eq bl i g z q' ri i
  rw [lt0] at e
  refine .inr ⟨_, 0, e, rfl, ?_⟩
  rw [List.drop_eq_nil_of_le (by rw [rdO_len]; exact Nat.le_refl _)]
  show Seen _ ⟨[.int .u32 bl, .osl false 0 0 i i 8 true, .bool (ri && true)], [some (.tarr shO i g true)]⟩
  rw [Bool.and_true]
  exact Seen.refl _
 ·have hi : i < m := by have : i ≤ m := h1; omega
  obtain ⟨s', q2, ri', z1, z2, z3, z4, z5⟩ := round52 bl m g z hm hok h8 i hi s q' ri h2 h3 h4
  exact .inl ⟨_, (i + 1, s', q2, ri'), z1, Seen.refl _, ⟨hi, z2, z3, z4⟩, by show m - (i + 1) < m - i; omega, by simp only [z5]⟩
theorem il52 (c : CS) (r : Nat × CS) (h : (r52 c).run = some r) : Loops stp52 c r.1 r.2 := by
 unfold r52 at h
 split at h
 ·obtain ⟨bl, g, g2, z, q, rfl, hb⟩ := r52z_inv h
  simp only [r52zB, T.run, Option.some.injEq] at hb; subst hb
  refine Loops.see (c1 := c52z bl z q true) ?_ (.out (s52z_eq bl z q true) (Seen.refl _))
  exact Seen.mk' (.cons (SeenV.refl _) (.cons SeenV.nil (.cons (SeenV.refl _) (.cons (SeenV.refl _) (.cons SeenV.nil (SeenVs.refl _)))))) (.skip (SeenOs.same (.skip (SeenOs.refl _))))
 ·exact il52n c r h
theorem qEN : Bm.Good Try.prog EN := qEM.addS (by kernel_rfl) rfl (by decide) (by decide) rfl il52
theorem qEO : Bm.Good Try.prog EO := qEN.addF (lives_ok (m := 20000) q1 (by kernel_rfl))
end Go.Proofs.Ytmjmhpbncfjnpaa.history
end
