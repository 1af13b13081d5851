/- Entries, read, and written. -/
import Derived.Test.YtjbjjikdihghmaaBxC
import Derived.Test.YtjbjjikdihghmaaBxD
import Derived.KernelRfl
set_option linter.unusedSimpArgs false
set_option linter.unusedVariables false
set_option maxRecDepth 20000
namespace Go.Proofs.Ytjbjjikdihghmaa.entry
open Go Go.RowKit Go.Proofs.Ytjbjjikdihghmaa.Bm
theorem r32w_inv  {c : CS} {r : Nat × CS} (h : (r32w  c).run = some r) : ∃ off n N f, c = c32w 0 off n N f 0 ∧ (r32wB  off n N f).run = some r := by
  unfold r32w at h
  split at h
  · rename_i z_1 z_2 off n z_3 z_4 z_5 sh_6 N f
    obtain ⟨hc, hb⟩ := chkT_run h
    have h0 := hc 0 _ rfl
    have h0 := of_decide_eq_true h0; subst h0
    have h1 := hc 1 _ rfl
    have h1 := of_decide_eq_true h1; subst h1
    have h2 := hc 2 _ rfl
    have h2 := of_decide_eq_true h2; subst h2
    have h3 := hc 3 _ rfl
    have h3 := of_decide_eq_true h3; subst h3
    have h4 := hc 4 _ rfl
    have h4 := of_decide_eq_true h4; subst h4
    have h5 := hc 5 _ rfl
    have h5 := (shBeq_eq h5).symm; subst h5
    exact ⟨off, n, N, f, rfl, hb⟩
  · cases h
theorem q32w_inv  {c : CS} {r : CS} (h : (q32w  c).run = some r) : ∃ off N f w, c = a32w off N f w ∧ (q32wB  off N f w).run = some r := by
  unfold q32w at h
  split at h
  · rename_i w z_1 off z_2 z_3 z_4 sh_5 N f
    obtain ⟨hc, hb⟩ := chkT_run h
    have h0 := hc 0 _ rfl
    have h0 := of_decide_eq_true h0; subst h0
    have h1 := hc 1 _ rfl
    have h1 := of_decide_eq_true h1; subst h1
    have h2 := hc 2 _ rfl
    have h2 := of_decide_eq_true h2; subst h2
    have h3 := hc 3 _ rfl
    have h3 := of_decide_eq_true h3; subst h3
    have h4 := hc 4 _ rfl
    have h4 := (shBeq_eq h4).symm; subst h4
    exact ⟨off, N, f, w, rfl, hb⟩
  · cases h
theorem q34w_inv  {c : CS} {r : CS} (h : (q34w  c).run = some r) : ∃ off N f, c = rkw off N f ∧ (q34wB  off N f).run = some r := by
  unfold q34w at h
  split at h
  · rename_i z_1 off z_2 z_3 z_4 sh_5 N f
    obtain ⟨hc, hb⟩ := chkT_run h
    have h0 := hc 0 _ rfl
    have h0 := of_decide_eq_true h0; subst h0
    have h1 := hc 1 _ rfl
    have h1 := of_decide_eq_true h1; subst h1
    have h2 := hc 2 _ rfl
    have h2 := of_decide_eq_true h2; subst h2
    have h3 := hc 3 _ rfl
    have h3 := of_decide_eq_true h3; subst h3
    have h4 := hc 4 _ rfl
    have h4 := (shBeq_eq h4).symm; subst h4
    exact ⟨off, N, f, rfl, hb⟩
  · cases h
theorem q33w_inv  {c : CS} {r : CS} (h : (q33w  c).run = some r) : ∃ off N f, c = rkw off N f ∧ (q33wB  off N f).run = some r := by
  unfold q33w at h
  split at h
  · rename_i z_1 off z_2 z_3 z_4 sh_5 N f
    obtain ⟨hc, hb⟩ := chkT_run h
    have h0 := hc 0 _ rfl
    have h0 := of_decide_eq_true h0; subst h0
    have h1 := hc 1 _ rfl
    have h1 := of_decide_eq_true h1; subst h1
    have h2 := hc 2 _ rfl
    have h2 := of_decide_eq_true h2; subst h2
    have h3 := hc 3 _ rfl
    have h3 := of_decide_eq_true h3; subst h3
    have h4 := hc 4 _ rfl
    have h4 := (shBeq_eq h4).symm; subst h4
    exact ⟨off, N, f, rfl, hb⟩
  · cases h
theorem q14w_inv  {c : CS} {r : CS} (h : (q14w  c).run = some r) : ∃ off N f, c = rkw off N f ∧ (q14wB  off N f).run = some r := by
  unfold q14w at h
  split at h
  · rename_i z_1 off z_2 z_3 z_4 sh_5 N f
    obtain ⟨hc, hb⟩ := chkT_run h
    have h0 := hc 0 _ rfl
    have h0 := of_decide_eq_true h0; subst h0
    have h1 := hc 1 _ rfl
    have h1 := of_decide_eq_true h1; subst h1
    have h2 := hc 2 _ rfl
    have h2 := of_decide_eq_true h2; subst h2
    have h3 := hc 3 _ rfl
    have h3 := of_decide_eq_true h3; subst h3
    have h4 := hc 4 _ rfl
    have h4 := (shBeq_eq h4).symm; subst h4
    exact ⟨off, N, f, rfl, hb⟩
  · cases h
theorem i32w (c : CS) (r : Nat × CS) (h : (r32w c).run = some r) : ∃ n, iterC (stepC E1 300 (loopC E1 32 0) 1 h32 ((.normal, h32) :: x32) s32w_p) n c = some r := by
  obtain ⟨off, n, N, f, rfl, hb⟩ := r32w_inv h
  obtain ⟨hn, hb2⟩ := chkT_run hb
  have hok := hn 0 _ rfl
  have hn8 := le_of (hn 1 _ rfl)
  have hN := le_of (hn 2 _ rfl)
  simp only [T.run, Option.some.injEq] at hb2; subst hb2; clear h hb
  refine iter_for (C := fun i => c32w (val f off i) off n N f i) (n := n) (by simp) (fun i hi => ?_) ?_
  · have e := s32w_eq bitsR (val f off i) off n N f i
    obtain ⟨v0, v1⟩ := val_bnd hok i off (by omega)
    obtain ⟨b0, b1⟩ := okB_at hok (show off + i < N by omega)
    rw [lt1 hi, Int.toNat_natCast, blt2 (show off + i < N by omega), wrap8 (by omega), or_step v0 v1 b0 b1 (by omega), wrap_i64s (by omega), ← val_snoc] at e
    exact e
  · have e := s32w_eq bitsR (val f off n) off n N f n
    rw [lt0] at e
    exact e
theorem w2 : Bm.Good Try.prog W2 := g1.addL (by kernel_rfl) rfl (by decide) (by decide) rfl i32w
theorem t32w (c c' : CS) (h : (q32x c).run = some c') : ∃ E1 m pr ros π c0 c1, Bm.Good Try.prog E1 ∧ Seen c c0 ∧ callC E1 m 32 1 pr ros π c0 = some c1 ∧ Seen c1 c' := by
  unfold q32x at h
  cases hb : badP c with
  | true =>
    rw [hb] at h
    obtain ⟨m, pr, ros, π, c0, c1, h1, h2, h3⟩ := t32 c c' (by unfold q32; rw [hb]; exact h)
    exact ⟨F2, m, pr, ros, π, c0, c1, q2, h1, h2, h3⟩
  | false =>
    rw [hb] at h
    simp only [cond_false] at h
    clear hb
    obtain ⟨off, N, f, w, rfl, hb⟩ := q32w_inv h
    obtain ⟨hn, hb2⟩ := chkT_run hb
    have hw1 := not_lt (hn 0 _ rfl)
    have hw8 := not_gt (hn 1 _ rfl)
    have hok := hn 2 _ rfl
    have hoN := le_of (hn 3 _ rfl)
    have hN := le_of (hn 4 _ rfl)
    clear h hb
    obtain ⟨k, rfl, hk⟩ := nat_of hw1
    simp only [Int.toNat_natCast] at hb2
    simp only [T.run] at hb2
    by_cases hf : N < off + k
    · have e := k32w_eq off N f (k : Int)
      simp only [Int.toNat_natCast, Nat.sub_zero, Nat.add_zero] at e
      rw [decide_eq_false (show ¬ (k : Int) < 1 by omega), decide_eq_false (show ¬ (k : Int) > 8 by omega), decide_eq_false (show ¬ (k : Int) < 0 by omega), okB0] at e
      rw [blt_t hf] at hb2
      simp only [cond_true, Option.some.injEq] at hb2; subst hb2
      rw [decide_eq_true (show (k : Int) > ((N - off : Nat) : Int) by omega)] at e
      exact ⟨F2, 1000, .keep, [pR], k32w_p, _, _, q2, Seen.refl _, e, Seen.refl _⟩
    · have e := k32v_eq off N f (k : Int)
      simp only [Int.toNat_natCast, Nat.sub_zero, Nat.add_zero] at e
      rw [decide_eq_false (show ¬ (k : Int) < 1 by omega), decide_eq_false (show ¬ (k : Int) > 8 by omega), decide_eq_false (show ¬ (k : Int) < 0 by omega)] at e
      rw [blt_f hf] at hb2
      simp only [cond_false, Option.some.injEq] at hb2; subst hb2
      rw [decide_eq_false (show ¬ (k : Int) > ((N - off : Nat) : Int) by omega), ble_t (show k ≤ N - off by omega), decide_eq_true (show 0 ≤ (k : Int) by omega), hok, ble_t (show k ≤ 8 by omega), ble_t (show off + k ≤ N by omega)] at e
      refine ⟨W2, 1000, .keep, [pR], k32v_p, _, _, w2, Seen.refl _, e, Seen.mk' (SeenVs.refl _) (.cons (SeenO.cells (.cons (SeenV.of_eq ?_) (SeenVs.refl _))) (SeenOs.refl _))⟩
      rw [Nat.sub_sub]
theorem w3 : Bm.Good Try.prog W3 := w2.addC (by kernel_rfl) (fun c c' h => by
  obtain ⟨E1, m, pr, ros, π, c0, c1, h0, h1, h2, h3⟩ := t32w c c' h
  exact h0.callC h1 h2 h3)
theorem t34w (c c' : CS) (h : (q34x c).run = some c') : ∃ E1 m pr ros π c0 c1, Bm.Good Try.prog E1 ∧ Seen c c0 ∧ callC E1 m 34 1 pr ros π c0 = some c1 ∧ Seen c1 c' := by
  unfold q34x at h
  cases hb : badP c with
  | true =>
    rw [hb] at h
    obtain ⟨m, pr, ros, π, c0, c1, h1, h2, h3⟩ := t34 c c' (by unfold q34; rw [hb]; exact h)
    exact ⟨F3, m, pr, ros, π, c0, c1, q3, h1, h2, h3⟩
  | false =>
    rw [hb] at h
    simp only [cond_false] at h
    clear hb
    obtain ⟨off, N, f, rfl, hb⟩ := q34w_inv h
    obtain ⟨hn, hb2⟩ := chkT_run hb
    have hok := hn 0 _ rfl
    have hoN := le_of (hn 1 _ rfl)
    have hN := le_of (hn 2 _ rfl)
    clear h hb hn
    have e := k34w_eq off N f
    simp only [show Int.toNat 2 = 2 from rfl] at e
    rw [hok, ble_t hoN, ble_t hN] at e
    simp only [T.run] at hb2
    by_cases hf : N < off + 2
    · rw [blt_t hf] at hb2 e
      simp only [cond_true, Option.some.injEq] at hb2; subst hb2
      exact ⟨W3, 1000, .keep, [pR], k34w_p, _, _, w3, Seen.refl _, e, Seen.refl _⟩
    · rw [blt_f hf] at hb2 e
      simp only [cond_false] at hb2
      obtain ⟨v, hv, hv2⟩ := val2 hok (show off + 2 ≤ N by omega)
      rw [hv] at hb2 e
      have e1 : IntKind.wrap .i64 (v : Int) = (v : Int) := wrap_i64 (by omega)
      rw [e1, decide_eq_false (show ¬ (v : Int) < 0 by omega)] at e
      by_cases hg : (v : Int) > 16384
      · rw [decide_eq_true hg] at hb2 e
        simp only [cond_true, Option.some.injEq] at hb2; subst hb2
        cases hz : decide ((v : Int) > 0) <;> rw [hz] at e <;> exact ⟨W3, 1000, .keep, [pR], k34w_p, _, _, w3, Seen.refl _, e, Seen.refl _⟩
      · rw [decide_eq_false hg] at hb2 e
        simp only [cond_false, Int.toNat_natCast] at hb2 e
        by_cases hl : N < off + 2 + v
        · rw [blt_t hl] at hb2
          simp only [cond_true, Option.some.injEq] at hb2; subst hb2
          rw [decide_eq_true (show (v : Int) > ((N - (off + 2) : Nat) : Int) by omega)] at e
          exact ⟨W3, 1000, .keep, [pR], k34w_p, _, _, w3, Seen.refl _, e, Seen.refl _⟩
        · rw [blt_f hl] at hb2
          simp only [cond_false, Option.some.injEq] at hb2; subst hb2
          rw [decide_eq_false (show ¬ (v : Int) > ((N - (off + 2) : Nat) : Int) by omega), ble_t (show v ≤ N - (off + 2) by omega), decide_eq_true (show 0 ≤ (v : Int) by omega)] at e
          simp only [Nat.sub_zero, Nat.zero_add, Nat.add_zero] at e
          rw [ble_t (show off + 2 + v ≤ N by omega), growt (show v ≤ 2000000 by omega), ble_t (Nat.le_refl v)] at e
          by_cases h0 : v = 0
          · subst h0
            rw [Nat.beq_refl] at e
            refine ⟨W3, 1000, .keep, [pR], k34w_p, _, _, w3, Seen.refl _, e, Seen.mk' (SeenVs.refl _) (.cons (SeenO.cells (.cons (SeenV.of_eq ?_) (SeenVs.refl _))) (SeenOs.refl _))⟩
            rw [Nat.sub_sub]
          · have hz : Nat.beq v 0 = false := by rw [beq_iff, decide_eq_false h0]
            have hF : ∀ i, i < v → byteAt (fjoin (fun _ _ => AV.bad) 0 fun i j => f (off + 2 + i) j) i = (f (off + 2 + i) 0).toI := fun i hi => by
              unfold byteAt
              rw [fjoin_ge (Nat.zero_le _), Nat.sub_zero]
            rw [hz, all_at2 (o := off + 2) (n := v) hok (by omega) hF, str_eq (o := off + 2) (n := v) hF] at e
            refine ⟨W3, 1000, .keep, [pR], k34w_p, _, _, w3, Seen.refl _, e, Seen.mk' (SeenVs.refl _) (.cons (SeenO.cells (.cons (SeenV.of_eq ?_) (SeenVs.refl _))) (SeenOs.refl _))⟩
            rw [Nat.sub_sub]
theorem w4 : Bm.Good Try.prog W4 := w3.addC (by kernel_rfl) (fun c c' h => by
  obtain ⟨E1, m, pr, ros, π, c0, c1, h0, h1, h2, h3⟩ := t34w c c' h
  exact h0.callC h1 h2 h3)
theorem t33w (c c' : CS) (h : (q33x c).run = some c') : ∃ E1 m pr ros π c0 c1, Bm.Good Try.prog E1 ∧ Seen c c0 ∧ callC E1 m 33 1 pr ros π c0 = some c1 ∧ Seen c1 c' := by
  unfold q33x at h
  cases hb : badP c with
  | true =>
    rw [hb] at h
    obtain ⟨m, pr, ros, π, c0, c1, h1, h2, h3⟩ := t33 c c' (by unfold q33; rw [hb]; exact h)
    exact ⟨F4, m, pr, ros, π, c0, c1, q4, h1, h2, h3⟩
  | false =>
    rw [hb] at h
    simp only [cond_false] at h
    clear hb
    obtain ⟨off, N, f, rfl, hb⟩ := q33w_inv h
    obtain ⟨hn, hb2⟩ := chkT_run hb
    have hok := hn 0 _ rfl
    have hoN := le_of (hn 1 _ rfl)
    have hN := le_of (hn 2 _ rfl)
    clear h hb hn
    have e := k33w_eq off N f
    simp only [show Int.toNat 8 = 8 from rfl, show Int.toNat 4 = 4 from rfl, Nat.add_assoc, Nat.reduceAdd] at e
    rw [hok, ble_t hoN, ble_t hN] at e
    simp only [T.run] at hb2
    by_cases h1 : N < off + 8
    · rw [blt_t h1] at hb2 e
      simp only [cond_true, Option.some.injEq] at hb2; subst hb2
      exact ⟨W4, 1000, .keep, [pR], k33w_p, _, _, w4, Seen.refl _, e, Seen.refl _⟩
    · rw [blt_f h1, ble_t (show off + 8 ≤ N by omega)] at e
      rw [blt_f h1] at hb2
      by_cases h2 : N < off + 16
      · rw [blt_t h2] at hb2 e
        simp only [cond_true, cond_false, Option.some.injEq] at hb2; subst hb2
        exact ⟨W4, 1000, .keep, [pR], k33w_p, _, _, w4, Seen.refl _, e, Seen.refl _⟩
      · rw [blt_f h2, ble_t (show off + 16 ≤ N by omega)] at e
        rw [blt_f h2] at hb2
        by_cases h3 : N < off + 20
        · rw [blt_t h3] at hb2 e
          simp only [cond_true, cond_false, Option.some.injEq] at hb2; subst hb2
          exact ⟨W4, 1000, .keep, [pR], k33w_p, _, _, w4, Seen.refl _, e, Seen.refl _⟩
        · rw [blt_f h3, ble_t (show off + 20 ≤ N by omega)] at e
          rw [blt_f h3] at hb2
          by_cases h4 : N < off + 24
          · rw [blt_t h4] at hb2 e
            simp only [cond_true, cond_false, Option.some.injEq] at hb2; subst hb2
            exact ⟨W4, 1000, .keep, [pR], k33w_p, _, _, w4, Seen.refl _, e, Seen.refl _⟩
          · rw [blt_f h4] at e hb2
            simp only [cond_false, Option.some.injEq] at hb2; subst hb2
            exact ⟨W4, 1000, .keep, [pR], k33w_p, _, _, w4, Seen.refl _, e, Seen.refl _⟩
theorem w5 : Bm.Good Try.prog W5 := w4.addC (by kernel_rfl) (fun c c' h => by
  obtain ⟨E1, m, pr, ros, π, c0, c1, h0, h1, h2, h3⟩ := t33w c c' h
  exact h0.callC h1 h2 h3)
theorem fail14w (n : Int) (i : Nat) : Loops (fun c => stepC W5 1000 (loopC W5 14 0) 1 h14 ((.normal, h14) :: x14) (p14w c) c) (c14b n i) 1 FAIL14 := by
  have e := s14bw_eq n i
  cases hd : decide ((i : Int) < n) <;> rw [hd] at e <;> exact .out e (Seen.refl _)
theorem l14w (off N : Nat) (f : Nat → Nat → AV) (ix tm st kd cl rq fr ct : Int) (d : List Nat) (K : Nat) (hK : K ≤ 64) (hok : okB f N = true) (hN : N ≤ 1000000) : ∀ (r j : Nat), j + r = K → 1 ≤ j → off + 24 * j ≤ N →
    Loops (fun c => stepC W5 1000 (loopC W5 14 0) 1 h14 ((.normal, h14) :: x14) (p14w c) c) (c14fw (off + 24 * j) N f ix tm st kd cl rq fr ct d j (lookF f off) K j) 1
      (cond (Nat.blt N (off + 24 * K)) FAIL14 ⟨[.ptr 0 0, .ptr 1 0, .ptr 2 0], [some (.cells [.osl false 3 (off + 24 * K) (N - (off + 24 * K)) (N - (off + 24 * K)) 1 true, .bool false] true), some (.cells b10 true), some (.cells [.int .u64 ix, .int .u64 tm, .int .u64 st, .int .i64 kd, .int .u64 cl, .int .u64 rq, .int .u32 fr, .int .u32 ct, .str d, .osl false 4 0 K K 4 true] true), some (.tarr shB N f true), some (.tarr shL K (lookF f off) true)]⟩)
  | 0, j, hj, _, hb => by
    have : j = K := by omega
    subst this
    have e := s14fw_eq (off + 24 * j) N f ix tm st kd cl rq fr ct d j (lookF f off) j j
    rw [lt0] at e
    rw [blt_f (show ¬ N < off + 24 * j by omega)]
    exact .out e (Seen.refl _)
  | r + 1, j, hj, h1, hb => by
    have e := s14fw_eq (off + 24 * j) N f ix tm st kd cl rq fr ct d j (lookF f off) K j
    have hB : ∀ x, N < off + 24 * j + x → x ≤ 24 → Nat.blt N (off + 24 * K) = true := fun x h1 h2 => blt_t (by omega)
    rw [lt1 (show j < K by omega), hok, ble_t hb, ble_t hN, ble_f (show ¬ j + 1 ≤ j by omega), grow24 (by omega), ble_t (show 0 + j ≤ j by omega)] at e
    by_cases q1 : N < off + 24 * j + 8
    · rw [blt_t q1] at e
      rw [hB _ q1 (by omega)]
      exact .go e (b14 (by omega) SeenV.nil) (fail14w _ _)
    · rw [blt_f q1] at e
      by_cases q2 : N < off + 24 * j + 16
      · rw [blt_t q2] at e
        rw [hB _ q2 (by omega)]
        exact .go e (b14 (by omega) SeenV.nil) (fail14w _ _)
      · rw [blt_f q2] at e
        by_cases q3 : N < off + 24 * j + 20
        · rw [blt_t q3] at e
          rw [hB _ q3 (by omega)]
          exact .go e (b14 (by omega) SeenV.nil) (fail14w _ _)
        · rw [blt_f q3] at e
          by_cases q4 : N < off + 24 * j + 24
          · rw [blt_t q4] at e
            rw [hB _ q4 (by omega)]
            exact .go e (b14 (by omega) SeenV.nil) (fail14w _ _)
          · rw [blt_f q4] at e
            refine .go e (Seen.mk' (.cons (SeenV.refl _) (.cons (SeenV.refl _) (.cons (SeenV.refl _) (.cons (SeenV.refl _) (.cons (SeenV.of_eq ?_) .nil))))) (.cons (SeenO.cells (.cons (SeenV.of_eq ?_) (SeenVs.refl _))) (.cons (SeenO.refl _) (.cons (SeenO.refl _) (.cons (SeenO.refl _) (.cons (SeenO.arr fun i hi q s hs => ?_) .nil)))))) (l14w off N f ix tm st kd cl rq fr ct d K hK hok hN r (j + 1) (by omega) (by omega) (by omega))
            · rw [wrap_i64s (by omega)]
            · rw [show off + 24 * j + 24 = off + 24 * (j + 1) by omega]
            · exact rows_at rfl (fun a b _ => by rw [Nat.zero_add]) hi hs
theorem i14w (c : CS) (r : Nat × CS) (h : (r14w c).run = some r) : Loops (fun c => stepC W5 1000 (loopC W5 14 0) 1 h14 ((.normal, h14) :: x14) (p14w c) c) c r.1 r.2 := by
  unfold r14w at h
  cases hb : badP c with
  | true =>
    rw [hb] at h
    simp only [cond_true] at h
    unfold r14f at h
    split at h
    · rename_i n z0 z _ _ _ _ x1 x2 x3 x4 x5 x6 x7 x8 x9 x10 y1 y2 y3 y4 y5 y6 y7 y8 y9 y10 _ _
      obtain ⟨hn, hb2⟩ := chkT_run h
      have e1 := of_decide_eq_true (hn 0 _ rfl)
      have e2 := hn 1 _ rfl
      subst e1; subst e2
      simp only [T.run, Option.some.injEq] at hb2; subst hb2
      refine .see (c1 := c14b n 0) (Seen.mk' (SeenVs.refl _) (.cons (SeenO.cells (.cons SeenV.nil (SeenVs.refl _))) (.cons (SeenO.cells ?_) (.cons (SeenO.cells ?_) (.skip (.skip .nil)))))) (fail14w n 0)
      · exact (.cons SeenV.bad (.cons SeenV.bad (.cons SeenV.bad (.cons SeenV.bad (.cons SeenV.bad (.cons SeenV.bad (.cons SeenV.bad (.cons SeenV.bad (.cons SeenV.bad (.cons SeenV.bad .nil))))))))))
      · exact (.cons SeenV.bad (.cons SeenV.bad (.cons SeenV.bad (.cons SeenV.bad (.cons SeenV.bad (.cons SeenV.bad (.cons SeenV.bad (.cons SeenV.bad (.cons SeenV.bad (.cons SeenV.bad .nil))))))))))
    · cases h
  | false =>
    rw [hb] at h
    simp only [cond_false] at h
    unfold r14wo at h
    split at h
    · rename_i n z0 off l l2 x1 x2 x3 x4 x5 x6 x7 x8 x9 x10 ix tm st kd cl rq fr ct d z1 _ _ _ _ sh N f _
      obtain ⟨hn, hb2⟩ := chkT_run h
      have e1 := of_decide_eq_true (hn 0 _ rfl)
      have e2 := of_decide_eq_true (hn 1 _ rfl)
      have e3 := of_decide_eq_true (hn 2 _ rfl)
      have e4 := hn 3 _ rfl
      have e5 := (shBeq_eq (hn 4 _ rfl)).symm
      have hok := hn 5 _ rfl
      have hoN := le_of (hn 6 _ rfl)
      have hN := le_of (hn 7 _ rfl)
      have h64 := not_gt (hn 8 _ rfl)
      subst e1; subst e2; subst e3; subst e4; subst e5
      clear hn h hb
      refine .see (c1 := c14tw off N f ix tm st kd cl rq fr ct d n 0) (Seen.mk' (SeenVs.refl _) (.cons (SeenO.refl _) (.cons (SeenO.cells ?_) (.cons (SeenO.cells ?_) (.cons (SeenO.refl _) (.skip .nil)))))) ?_
      · exact (.cons SeenV.bad (.cons SeenV.bad (.cons SeenV.bad (.cons SeenV.bad (.cons SeenV.bad (.cons SeenV.bad (.cons SeenV.bad (.cons SeenV.bad (.cons SeenV.bad (.cons SeenV.bad .nil))))))))))
      · exact (.cons (SeenV.refl _) (.cons (SeenV.refl _) (.cons (SeenV.refl _) (.cons (SeenV.refl _) (.cons (SeenV.refl _) (.cons (SeenV.refl _) (.cons (SeenV.refl _) (.cons (SeenV.refl _) (.cons (SeenV.refl _) (.cons SeenV.nil .nil))))))))))
      have e := s14tw_eq off N f ix tm st kd cl rq fr ct d n 0
      simp only [T.run] at hb2
      by_cases h0 : n.toNat = 0
      · rw [h0, Nat.beq_refl] at hb2
        simp only [cond_true, Option.some.injEq] at hb2; subst hb2
        rw [decide_eq_false (show ¬ ((0 : Nat) : Int) < n by omega)] at e
        exact .out e (Seen.refl _)
      · have hz : Nat.beq n.toNat 0 = false := by rw [beq_iff, decide_eq_false h0]
        rw [hz] at hb2
        simp only [cond_false] at hb2
        obtain ⟨K, rfl⟩ : ∃ K : Nat, n = (K : Int) := ⟨n.toNat, by omega⟩
        simp only [Int.toNat_natCast] at hb2 h0
        have hr : r = (1, cond (Nat.blt N (off + 24 * K)) FAIL14 ⟨[.ptr 0 0, .ptr 1 0, .ptr 2 0], [some (.cells [.osl false 3 (off + 24 * K) (N - (off + 24 * K)) (N - (off + 24 * K)) 1 true, .bool false] true), some (.cells b10 true), some (.cells [.int .u64 ix, .int .u64 tm, .int .u64 st, .int .i64 kd, .int .u64 cl, .int .u64 rq, .int .u32 fr, .int .u32 ct, .str d, .osl false 4 0 K K 4 true] true), some (.tarr shB N f true), some (.tarr shL K (lookF f off) true)]⟩) := by
          cases hq : Nat.blt N (off + 24 * K) <;> rw [hq] at hb2 <;> simp only [cond_true, cond_false, Option.some.injEq] at hb2 <;> exact hb2.symm
        subst hr; clear hb2
        have hB : ∀ x, N < off + x → x ≤ 24 → Nat.blt N (off + 24 * K) = true := fun x h1 h2 => blt_t (by omega)
        rw [lt1 (show 0 < K by omega), hok, ble_t hoN, ble_t hN] at e
        by_cases q1 : N < off + 8
        · rw [blt_t q1] at e
          rw [hB _ q1 (by omega)]
          exact .go e (b14 (by omega) SeenV.nil) (fail14w _ _)
        · rw [blt_f q1] at e
          by_cases q2 : N < off + 16
          · rw [blt_t q2] at e
            rw [hB _ q2 (by omega)]
            exact .go e (b14 (by omega) SeenV.nil) (fail14w _ _)
          · rw [blt_f q2] at e
            by_cases q3 : N < off + 20
            · rw [blt_t q3] at e
              rw [hB _ q3 (by omega)]
              exact .go e (b14 (by omega) SeenV.nil) (fail14w _ _)
            · rw [blt_f q3] at e
              by_cases q4 : N < off + 24
              · rw [blt_t q4] at e
                rw [hB _ q4 (by omega)]
                exact .go e (b14 (by omega) SeenV.nil) (fail14w _ _)
              · rw [blt_f q4] at e
                refine .go e (Seen.mk' (.cons (SeenV.refl _) (.cons (SeenV.refl _) (.cons (SeenV.refl _) (.cons (SeenV.refl _) (.cons (SeenV.of_eq ?_) .nil))))) (.cons (SeenO.cells (.cons (SeenV.of_eq ?_) (SeenVs.refl _))) (.cons (SeenO.refl _) (.cons (SeenO.refl _) (.cons (SeenO.refl _) (.cons (SeenO.arr fun i hi q s hs => ?_) .nil)))))) (l14w off N f ix tm st kd cl rq fr ct d K (by omega) hok hN (K - 1) 1 (by omega) (by omega) (by omega))
                · rfl
                · rfl
                · have : i = 0 := by omega
                  subst this
                  match q, hs with
                  | 0, hs => simp at hs; subst hs; rfl
                  | 1, hs => simp at hs; subst hs; rfl
                  | 2, hs => simp at hs; subst hs; rfl
                  | 3, hs => simp at hs; subst hs; rfl
                  | q + 4, hs => simp at hs
    · cases h
theorem w6 : Bm.Good Try.prog W6 := w5.addS (by kernel_rfl) rfl (by decide) (by decide) rfl i14w
theorem t14w (c c' : CS) (h : (q14w c).run = some c') : ∃ m pr ros π c0 c1, Seen c c0 ∧ callC W6 m 14 1 pr ros π c0 = some c1 ∧ Seen c1 c' := by
  obtain ⟨off, N, f, rfl, hb⟩ := q14w_inv h
  obtain ⟨hn, hb2⟩ := chkT_run hb
  have hok := hn 0 _ rfl
  have hoN := le_of (hn 1 _ rfl)
  have hN := le_of (hn 2 _ rfl)
  clear h hb hn
  have e := k14w_eq off N f
  simp only [show Int.toNat 8 = 8 from rfl, show Int.toNat 1 = 1 from rfl, Nat.add_assoc, Nat.reduceAdd] at e
  rw [hok, ble_t hoN, ble_t hN] at e
  simp only [T.run] at hb2
  have fin : entOK f off N = false → k14w off N f k14w_p = some ⟨[eZero], failP⟩ → ∃ m pr ros π c0 c1, Seen (rkw off N f) c0 ∧ callC W6 m 14 1 pr ros π c0 = some c1 ∧ Seen c1 c' := fun h1 h2 => by
    rw [h1] at hb2
    simp only [cond_false, Option.some.injEq] at hb2; subst hb2
    exact ⟨1000, .keep, [pR], k14w_p, _, _, Seen.refl _, h2, Seen.refl _⟩
  by_cases p1 : N < off + 8
  · rw [blt_t p1] at e
    exact fin (entF (by omega)) e
  rw [blt_f p1, ble_t (show off + 8 ≤ N by omega)] at e
  by_cases p2 : N < off + 16
  · rw [blt_t p2] at e
    exact fin (entF (by omega)) e
  rw [blt_f p2, ble_t (show off + 16 ≤ N by omega)] at e
  by_cases p3 : N < off + 24
  · rw [blt_t p3] at e
    exact fin (entF (by omega)) e
  rw [blt_f p3, ble_t (show off + 24 ≤ N by omega)] at e
  by_cases p4 : N < off + 25
  · rw [blt_t p4] at e
    exact fin (entF (by omega)) e
  rw [blt_f p4, ble_t (show off + 25 ≤ N by omega)] at e
  by_cases p5 : N < off + 33
  · rw [blt_t p5] at e
    exact fin (entF (by omega)) e
  rw [blt_f p5] at e
  by_cases p6 : N < off + 41
  · rw [blt_t p6] at e
    exact fin (entF (by omega)) e
  rw [blt_f p6] at e
  by_cases p7 : N < off + 45
  · rw [blt_t p7] at e
    exact fin (entF (by omega)) e
  rw [blt_f p7] at e
  by_cases p8 : N < off + 49
  · rw [blt_t p8] at e
    exact fin (entF (by omega)) e
  rw [blt_f p8, ble_t (show off + 49 ≤ N by omega)] at e
  by_cases p9 : N < off + 51
  · rw [blt_t p9] at e
    exact fin (entF (by omega)) e
  rw [blt_f p9] at e
  obtain ⟨T, hT, hT2⟩ := val2 hok (show off + 49 + 2 ≤ N by omega)
  have tl : tlen f off = T := by unfold tlen; rw [hT, Int.toNat_natCast]
  simp only [hT, Int.toNat_natCast] at e
  by_cases p10 : (T : Int) > 16384
  · rw [decide_eq_true p10] at e
    exact fin (entF (by rw [tl]; omega)) e
  rw [decide_eq_false p10] at e
  by_cases p11 : N < off + (51 + T)
  · rw [blt_t p11] at e
    exact fin (entF (by rw [tl]; omega)) e
  rw [blt_f p11, ble_t (show off + (51 + T) ≤ N by omega)] at e
  by_cases p12 : N < off + (51 + (T + 1))
  · rw [blt_t p12] at e
    exact fin (entF (by rw [tl]; omega)) e
  rw [blt_f p12, ble_t (show off + (51 + (T + 1)) ≤ N by omega)] at e
  obtain ⟨B, hB, hB2⟩ := val1 hok (show off + (51 + T) + 1 ≤ N by omega)
  have bn : bnum f off = B := by unfold bnum; rw [tl, hB, Int.toNat_natCast]
  have e1 : IntKind.wrap .i64 (B : Int) = (B : Int) := wrap_i64 (by omega)
  simp only [hB, e1, Int.toNat_natCast] at e
  by_cases p13 : (B : Int) > 64
  · rw [decide_eq_true p13] at e
    exact fin (entF (by rw [bn]; omega)) e
  rw [decide_eq_false p13] at e
  by_cases p14 : B = 0
  · subst p14
    rw [Nat.beq_refl] at e
    have hE : entOK f off N = true := entT ⟨by omega, by rw [tl]; omega, by rw [tl]; omega, by rw [bn]; omega, by unfold eEnd; rw [tl, bn]; omega⟩
    rw [hE, bn, Nat.beq_refl] at hb2
    simp only [cond_true, Option.some.injEq] at hb2; subst hb2
    refine ⟨1000, .keep, [pR], k14w_p, _, _, Seen.refl _, e, Seen.of_eq ?_⟩
    unfold eVal eEnd
    rw [tl, bn]
    rfl
  · have hz : Nat.beq B 0 = false := by rw [beq_iff, decide_eq_false p14]
    rw [hz] at e
    by_cases p15 : N < off + (51 + (T + (1 + 24 * B)))
    · rw [blt_t p15] at e
      exact fin (entF (by unfold eEnd; rw [tl, bn]; omega)) e
    rw [blt_f p15] at e
    have hE : entOK f off N = true := entT ⟨by omega, by rw [tl]; omega, by rw [tl]; omega, by rw [bn]; omega, by unfold eEnd; rw [tl, bn]; omega⟩
    rw [hE, bn, hz] at hb2
    simp only [cond_true, cond_false, Option.some.injEq] at hb2; subst hb2
    refine ⟨1000, .keep, [pR], k14w_p, _, _, Seen.refl _, e, Seen.of_eq ?_⟩
    unfold eVal eEnd
    rw [tl, bn]
    rfl

theorem f24_inv  {c : CS} {r : CS} (h : (f24  c).run = some r) : ∃ n f d, c = a24 n f d ∧ (f24B  n f d).run = some r := by
  unfold f24 at h
  split at h
  · rename_i z_1 n z_2 d sh_3 z_4 f
    obtain ⟨hc, hb⟩ := chkT_run h
    have h0 := hc 0 _ rfl
    have h0 := of_decide_eq_true h0; subst h0
    have h1 := hc 1 _ rfl
    have h1 := of_decide_eq_true h1; subst h1
    have h2 := hc 2 _ rfl
    have h2 := (shBeq_eq h2).symm; subst h2
    have h3 := hc 3 _ rfl
    have h3 := of_decide_eq_true h3; subst h3
    exact ⟨n, f, d, rfl, hb⟩
  · cases h
theorem f22_inv  {c : CS} {r : CS} (h : (f22  c).run = some r) : ∃ n f cl rq fr ct, c = a22 n f cl rq fr ct ∧ (f22B  n f cl rq fr ct).run = some r := by
  unfold f22 at h
  split at h
  · rename_i z_1 n z_2 cl rq fr ct sh_3 z_4 f
    obtain ⟨hc, hb⟩ := chkT_run h
    have h0 := hc 0 _ rfl
    have h0 := of_decide_eq_true h0; subst h0
    have h1 := hc 1 _ rfl
    have h1 := of_decide_eq_true h1; subst h1
    have h2 := hc 2 _ rfl
    have h2 := (shBeq_eq h2).symm; subst h2
    have h3 := hc 3 _ rfl
    have h3 := of_decide_eq_true h3; subst h3
    exact ⟨n, f, cl, rq, fr, ct, rfl, hb⟩
  · cases h
theorem r8_inv  {c : CS} {r : Nat × CS} (h : (r8  c).run = some r) : ∃ n f nl2 m g, c = c8 n f nl2 m g 0 ∧ (r8B  n f nl2 m g).run = some r := by
  unfold r8 at h
  split at h
  · rename_i z_1 n z_2 nl2 m z_3 z_4 z_5 sh_6 z_7 f sh_8 z_9 g
    obtain ⟨hc, hb⟩ := chkT_run h
    have h0 := hc 0 _ rfl
    have h0 := of_decide_eq_true h0; subst h0
    have h1 := hc 1 _ rfl
    have h1 := of_decide_eq_true h1; subst h1
    have h2 := hc 2 _ rfl
    have h2 := of_decide_eq_true h2; subst h2
    have h3 := hc 3 _ rfl
    have h3 := of_decide_eq_true h3; subst h3
    have h4 := hc 4 _ rfl
    have h4 := of_decide_eq_true h4; subst h4
    have h5 := hc 5 _ rfl
    have h5 := (shBeq_eq h5).symm; subst h5
    have h6 := hc 6 _ rfl
    have h6 := of_decide_eq_true h6; subst h6
    have h7 := hc 7 _ rfl
    have h7 := (shBeq_eq h7).symm; subst h7
    have h8 := hc 8 _ rfl
    have h8 := of_decide_eq_true h8; subst h8
    exact ⟨n, f, nl2, m, g, rfl, hb⟩
  · cases h
theorem f8_inv  {c : CS} {r : CS} (h : (f8  c).run = some r) : ∃ ix tm st kd cl rq fr ct d nl2 m g, c = a8 ix tm st kd cl rq fr ct d nl2 m g ∧ (f8B  ix tm st kd cl rq fr ct d nl2 m g).run = some r := by
  unfold f8 at h
  split at h
  · rename_i ix tm st kd cl rq fr ct d nl2 m z_1 sh_2 z_3 g
    obtain ⟨hc, hb⟩ := chkT_run h
    have h0 := hc 0 _ rfl
    have h0 := of_decide_eq_true h0; subst h0
    have h1 := hc 1 _ rfl
    have h1 := (shBeq_eq h1).symm; subst h1
    have h2 := hc 2 _ rfl
    have h2 := of_decide_eq_true h2; subst h2
    exact ⟨ix, tm, st, kd, cl, rq, fr, ct, d, nl2, m, g, rfl, hb⟩
  · cases h
theorem joinCC {F f X Y : Nat → Nat → AV} {n1 n m : Nat} (e : n1 = n) (h : ∀ b, b < n → (F b 0).toI = (f b 0).toI) (hX : ∀ b, b < m → (X b 0).toI = (Y b 0).toI) (a : Nat) (ha : a < n + m) : (fjoin F n1 X a 0).toI = (fjoin f n Y a 0).toI := by
  subst e
  by_cases h1 : a < n1
  · rw [fjoin_lt h1, fjoin_lt h1, h a h1]
  · rw [fjoin_ge (by omega), fjoin_ge (by omega), hX _ (by omega)]
theorem one_all (x : Int) (b : Nat) (hb : b < 1) : (allB 1 (rowsOf 1 [.int .u64 x] 1) b 0).toI = (oneB x b 0).toI := by
  have : b = 0 := by omega
  subst this; rfl
theorem lookI1 {cl rq fr ct : Int} {a : Nat} (h : a < 8) : lookI cl rq fr ct a = byt cl a := by
  simp only [lookI, blt_iff, decide_eq_true h, cond_true]
theorem lookI2 {cl rq fr ct : Int} {a : Nat} (h : 8 ≤ a) (h2 : a < 16) : lookI cl rq fr ct a = byt rq (a - 8) := by
  simp only [lookI, blt_iff, decide_eq_true h2, decide_eq_false (show ¬ a < 8 by omega), cond_true, cond_false]
theorem lookI3 {cl rq fr ct : Int} {a : Nat} (h : 16 ≤ a) (h2 : a < 20) : lookI cl rq fr ct a = byt (IntKind.wrap .u64 fr) (a - 16) := by
  simp only [lookI, blt_iff, decide_eq_true h2, decide_eq_false (show ¬ a < 8 by omega), decide_eq_false (show ¬ a < 16 by omega), cond_true, cond_false]
theorem lookI4 {cl rq fr ct : Int} {a : Nat} (h : 20 ≤ a) : lookI cl rq fr ct a = byt (IntKind.wrap .u64 ct) (a - 20) := by
  simp only [lookI, blt_iff, decide_eq_false (show ¬ a < 20 by omega), decide_eq_false (show ¬ a < 8 by omega), decide_eq_false (show ¬ a < 16 by omega), cond_true, cond_false]
theorem two8 {x y : Int} {a : Nat} (h : a < 16) : (allB 8 (rowsOf 1 [.int .u64 x, .int .u64 y] 2) a 0).toI = cond (Nat.blt a 8) (byt x a) (byt y (a - 8)) := by
  show byt _ _ = _
  by_cases h1 : a < 8
  · rw [blt_iff, decide_eq_true h1, cond_true, show a / 8 = 0 by omega, show a % 8 = a by omega]; rfl
  · rw [blt_iff, decide_eq_false h1, cond_false, show a / 8 = 1 by omega, show a % 8 = a - 8 by omega]; rfl
theorem two4 {x y : Int} {a : Nat} (h : a < 8) : (allB 4 (rowsOf 1 [.int .u64 x, .int .u64 y] 2) a 0).toI = cond (Nat.blt a 4) (byt x a) (byt y (a - 4)) := by
  show byt _ _ = _
  by_cases h1 : a < 4
  · rw [blt_iff, decide_eq_true h1, cond_true, show a / 4 = 0 by omega, show a % 4 = a by omega]; rfl
  · rw [blt_iff, decide_eq_false h1, cond_false, show a / 4 = 1 by omega, show a % 4 = a - 4 by omega]; rfl
theorem look_at {f : Nat → Nat → AV} {n : Nat} {cl rq fr ct : Int} {i : Nat} (hi : i < n + 24) :
    (fjoin (fjoin f n (allB 8 (rowsOf 1 [.int .u64 cl, .int .u64 rq] 2))) (n + 16) (allB 4 (rowsOf 1 [.int .u64 (IntKind.wrap .u64 fr), .int .u64 (IntKind.wrap .u64 ct)] 2)) i 0).toI = (fjoin f n (lookB cl rq fr ct) i 0).toI := by
  by_cases h1 : i < n
  · rw [fjoin_lt (by omega), fjoin_lt h1, fjoin_lt h1]
  · rw [fjoin_ge (n := n) (g := lookB cl rq fr ct) (by omega)]
    show _ = lookI cl rq fr ct (i - n)
    by_cases h2 : i < n + 16
    · rw [fjoin_lt h2, fjoin_ge (by omega), two8 (by omega), blt_iff]
      by_cases h3 : i - n < 8
      · rw [decide_eq_true h3, cond_true, lookI1 h3]
      · rw [decide_eq_false h3, cond_false, lookI2 (by omega) (by omega)]
    · rw [fjoin_ge (by omega), two4 (by omega), blt_iff]
      by_cases h3 : i - (n + 16) < 4
      · rw [decide_eq_true h3, cond_true, lookI3 (by omega) (by omega), show i - (n + 16) = i - n - 16 by omega]
      · rw [decide_eq_false h3, cond_false, lookI4 (by omega), show i - (n + 16) - 4 = i - n - 20 by omega]
theorem t22 (c c' : CS) (h : (f22 c).run = some c') : ∃ m pr ros π c0 c1, Seen c c0 ∧ callC E7 m 22 0 pr ros π c0 = some c1 ∧ Seen c1 c' := by
  obtain ⟨n, f, cl, rq, fr, ct, rfl, hb⟩ := f22_inv h
  obtain ⟨hn, hb2⟩ := chkT_run hb
  have hl := le_of (hn 0 _ rfl)
  simp only [T.run, Option.some.injEq] at hb2; subst hb2; clear h hb
  have e := k22_eq n f cl rq fr ct
  simp only [show Int.toNat 8 = 8 from rfl, show Int.toNat 4 = 4 from rfl, Nat.reduceMul] at e
  rw [ble_t (show n + 16 ≤ 1000000 by omega), ble_t (show n + 16 + 16 ≤ 1000000 by omega)] at e
  exact ⟨1000, .asl shB, [], k22_p, _, _, Seen.refl _, e, seenB (by omega) fun i hi => look_at hi⟩
theorem allU_two {x y : Int} (h1 : u64B x = true) (h2 : u64B y = true) : allU (rowsOf 1 [.int .u64 x, .int .u64 y] 2) 2 = true := by
  show (u64B x && (u64B y && true)) = true
  rw [h1, h2]; rfl
theorem seenT {n1 m1 n2 : Nat} {F G : Nat → Nat → AV} {v : AV} (e1 : n1 = n2) (e2 : m1 = n2) (h : ∀ i, i < n2 → (F i 0).toI = (G i 0).toI) : Seen ⟨[.tuple [.tsl 0 0 n1 n1 1 true, v]], [some (.tarr [.int .u8] m1 F true)]⟩ ⟨[.tuple [.tsl 0 0 n2 n2 1 true, v]], [some (.tarr [.int .u8] n2 G true)]⟩ :=
  Seen.mk' (.cons (SeenV.of_eq (by rw [e1])) .nil) (.cons (SeenO.one e2 h) .nil)
theorem over0 {F g : Nat → Nat → AV} {o i : Nat} : fover F o 0 g i 0 = F i 0 := by
  unfold fover
  have : (Nat.ble o i && Nat.blt i (o + 0)) = false := by
    rw [ble_iff, blt_iff]
    by_cases h : o ≤ i
    · rw [decide_eq_false (show ¬ i < o + 0 by omega), Bool.and_false]
    · rw [decide_eq_false h, Bool.false_and]
  rw [this]; rfl
theorem two2 {x : Int} {a : Nat} (h : a < 2) : (allB 2 (rowsOf 1 [.int .u64 x] 1) a 0).toI = (oneB x a 0).toI := by
  show byt _ _ = byt x a
  rw [show a / 2 = 0 by omega, show a % 2 = a by omega]; rfl
theorem t24 (c c' : CS) (h : (f24 c).run = some c') : ∃ m pr ros π c0 c1, Seen c c0 ∧ callC E7 m 24 0 pr ros π c0 = some c1 ∧ Seen c1 c' := by
  obtain ⟨n, f, d, rfl, hb⟩ := f24_inv h
  obtain ⟨hn, hb2⟩ := chkT_run hb
  have hl := le_of (hn 0 _ rfl)
  have e := k24_eq n f d
  clear h hb
  simp only [show Int.toNat 2 = 2 from rfl, Nat.reduceMul] at e
  by_cases hd : (d.length : Int) > 16384
  · rw [decide_eq_true hd] at e hb2
    simp only [T.run, cond_true, Option.some.injEq] at hb2; subst hb2
    exact ⟨1000, .keep, [], k24_p, _, _, Seen.refl _, e, Seen.refl _⟩
  · rw [decide_eq_false hd] at e hb2
    simp only [T.run, cond_false, Option.some.injEq] at hb2; subst hb2
    rw [ble_t (show n + 8 ≤ 1000000 by omega)] at e
    by_cases h0 : d.length = 0
    · rw [ble_t (show n + 2 + d.length ≤ n + 2 by omega), ble_t (show 0 + (n + 2 + d.length) ≤ n + 2 by omega), h0] at e
      refine ⟨1000, .keep, [], k24_p, _, _, Seen.refl _, e, seenT (by omega) (by omega) fun i hi => ?_⟩
      rw [h0, fjoin_lt (n := n + 2) (by omega), over0]
      exact joinCC (m := 2) rfl (fun b _ => rfl) (fun b hb => two2 hb) i (by omega)
    · rw [ble_f (show ¬ n + 2 + d.length ≤ n + 2 by omega), ble_t (show 0 + (n + 2) ≤ n + 2 by omega), growt (by omega)] at e
      refine ⟨1000, .keep, [], k24_p, _, _, Seen.refl _, e, seenT rfl rfl fun i hi => ?_⟩
      refine joinC rfl (fun b hb => ?_) i
      rw [Nat.zero_add]
      exact joinCC (m := 2) rfl (fun b _ => rfl) (fun b hb => two2 hb) b (by omega)
theorem u64_len {n : Nat} (h : n < 18446744073709551616) : IntKind.wrap .u64 (n : Int) = n := wrap_u64 (by omega) (by omega)
theorem u64_wrap (x : Int) : u64B (IntKind.wrap .u64 x) = true := by
  have h1 : IntKind.wrap .u64 x = x % 18446744073709551616 := by
    unfold IntKind.wrap
    simp [IntKind.bits, IntKind.signed]
  rw [u64B_eq, h1, decide_eq_true (by omega), decide_eq_true (by omega)]; rfl
theorem g8 : Bm.Good Try.prog E8 := g7.addI g7 (by kernel_rfl) t24
theorem g9 : Bm.Good Try.prog E9 := g8.addI g7 (by kernel_rfl) t22
theorem beh_at {g : Nat → Nat → AV} {i b : Nat} (hb : b < 24) : (lookB (g i 0).toI (g i 1).toI (g i 2).toI (g i 3).toI b 0).toI = (behB g (24 * i + b) 0).toI := by
  show lookI _ _ _ _ b = lookI _ _ _ _ _
  rw [show (24 * i + b) / 24 = i by omega, show (24 * i + b) % 24 = b by omega]
theorem i8 (c : CS) (r : Nat × CS) (h : (r8 c).run = some r) : Loops (stepC E9 300 (loopC E9 8 1) 0 h8 ((.normal, h8) :: x8) s8_p) c r.1 r.2 := by
  obtain ⟨n, f, nl2, m, g, rfl, hb⟩ := r8_inv h
  obtain ⟨hn, hb2⟩ := chkT_run hb
  have hm := le_of (hn 0 _ rfl)
  have hl := le_of (hn 1 _ rfl)
  simp only [T.run, Option.some.injEq] at hb2; subst hb2; clear h hb
  refine .see (c1 := c8 (n + 24 * 0) (fjoin f n (behB g)) nl2 m g 0) (Seen.mk' (SeenVs.refl _) (.cons (SeenO.one rfl fun i hi => by rw [fjoin_lt (n := n) (by omega)]) (SeenOs.refl _))) ?_
  refine Loops.for (C := fun i => c8 (n + 24 * i) (fjoin f n (behB g)) nl2 m g i) (n := m) (fun i hi => ?_) ?_
  · have e := s8_eq (n + 24 * i) (fjoin f n (behB g)) nl2 m g i
    rw [lt1 hi, blt1 hi, ble_t (show n + 24 * i + 32 ≤ 1000000 by omega)] at e
    simp only [Int.toNat_natCast, Nat.zero_add] at e
    refine ⟨_, e, Seen.mk' (.cons (SeenV.of_eq ?_) (.cons (SeenV.refl _) (.cons (SeenV.refl _) (.cons (SeenV.of_eq ?_) .nil)))) (.cons (SeenO.one (by omega) fun a ha => ?_) (SeenOs.refl _))⟩
    · rw [show n + 24 * i + 24 = n + 24 * (i + 1) by omega]
    · rw [wrap_i64s (by omega)]
    · exact join_step (m := 24) rfl (fun b => rfl) (fun b hb => beh_at hb) (by omega)
  · have e := s8_eq (n + 24 * m) (fjoin f n (behB g)) nl2 m g m
    rw [lt0] at e
    exact ⟨_, e, Seen.refl _⟩
theorem g9b : Bm.Good Try.prog E9b := g9.addS (by kernel_rfl) rfl (by decide) (by decide) rfl i8
theorem g10 : Bm.Good Try.prog E10 := g9b
theorem allU_three {x y z : Int} (h1 : u64B x = true) (h2 : u64B y = true) (h3 : u64B z = true) : allU (rowsOf 1 [.int .u64 x, .int .u64 y, .int .u64 z] 3) 3 = true := by
  show (u64B x && (u64B y && (u64B z && true))) = true
  rw [h1, h2, h3]; rfl
theorem t8 (c c' : CS) (h : (f8 c).run = some c') : ∃ m pr ros π c0 c1, Seen c c0 ∧ callC E10 m 8 0 pr ros π c0 = some c1 ∧ Seen c1 c' := by
  obtain ⟨ix, tm, st, kd, cl, rq, fr, ct, d, nl2, m, g, rfl, hb⟩ := f8_inv h
  have e := k8_eq ix tm st kd cl rq fr ct d nl2 m g
  clear h
  simp only [show Int.toNat 8 = 8 from rfl, show Int.toNat 1 = 1 from rfl, Nat.reduceMul, Nat.reduceAdd] at e
  simp only [f8B, T.run] at hb
  by_cases h1 : kd < 0
  · rw [decide_eq_true h1] at e hb
    simp only [cond_true, Option.some.injEq] at hb; subst hb
    exact ⟨1000, .keep, [], k8_p, _, _, Seen.refl _, e, Seen.refl _⟩
  · rw [decide_eq_false h1] at e hb
    by_cases h2 : kd > 255
    · rw [decide_eq_true h2] at e hb
      simp only [cond_true, cond_false, Option.some.injEq] at hb; subst hb
      exact ⟨1000, .keep, [], k8_p, _, _, Seen.refl _, e, Seen.refl _⟩
    · rw [decide_eq_false h2] at e hb
      by_cases h3 : (d.length : Int) > 16384
      · rw [decide_eq_true h3] at e hb
        simp only [cond_true, cond_false, Option.some.injEq] at hb; subst hb
        exact ⟨1000, .keep, [], k8_p, _, _, Seen.refl _, e, Seen.refl _⟩
      · rw [decide_eq_false h3] at e hb
        by_cases h4 : (m : Int) > 64
        · rw [decide_eq_true h4] at e hb
          simp only [cond_true, cond_false, Option.some.injEq] at hb; subst hb
          exact ⟨1000, .keep, [], k8_p, _, _, Seen.refl _, e, Seen.refl _⟩
        · rw [decide_eq_false h4] at e hb
          simp only [cond_false, Option.some.injEq] at hb; subst hb
          rw [ble_t (show 51 + d.length + 8 ≤ 1000000 by omega), ble_t (show m ≤ 1000 by omega), ble_t (show 51 + d.length + 1 + 24 * m + 32 ≤ 1000000 by omega)] at e
          refine ⟨1000, .keep, [], k8_p, _, _, Seen.refl _, e, seenT (by omega) (by omega) fun i hi => ?_⟩
          unfold entB
          exact joinC (by omega) (fun b hb => rfl) i
/-! ### Numbers and their bytes -/
theorem pow256_8 : (256 : Int) ^ 8 = 18446744073709551616 := by decide
theorem pow256_4 : (256 : Int) ^ 4 = 4294967296 := by decide
theorem pow256_2 : (256 : Int) ^ 2 = 65536 := by decide
theorem wrap_u32 {x : Int} (h : 0 ≤ x) (h' : x < 4294967296) : IntKind.wrap .u32 x = x := by
  unfold IntKind.wrap
  simp only [IntKind.bits, IntKind.signed]
  exact Int.emod_eq_of_lt h h'
theorem mod_step (x : Int) (k : Nat) : x % 256 ^ (k + 1) = x % 256 ^ k + x / 256 ^ k % 256 * 256 ^ k := by
  have hp : (0 : Int) < 256 ^ k := Int.pow_pos (by decide)
  rw [Int.pow_succ]
  generalize (256 : Int) ^ k = a at hp
  have h1 : a * (x / a) + x % a = x := Int.mul_ediv_add_emod x a
  have h2 : 256 * (x / a / 256) + x / a % 256 = x / a := Int.mul_ediv_add_emod (x / a) 256
  have r0 := Int.emod_nonneg x (show a ≠ 0 by omega)
  have r1 := Int.emod_lt_of_pos x hp
  have s0 := Int.emod_nonneg (x / a) (show (256 : Int) ≠ 0 by decide)
  have s1 := Int.emod_lt_of_pos (x / a) (show (0 : Int) < 256 by decide)
  generalize x % a = r at *
  generalize x / a % 256 = s at *
  generalize x / a / 256 = q at *
  have hx : x = (r + s * a) + (a * 256) * q := by
    rw [← h1, ← h2, Int.mul_add, Int.mul_assoc, Int.mul_comm s a]
    omega
  have hs : s * a ≤ 255 * a := Int.mul_le_mul_of_nonneg_right (by omega) (by omega)
  have hs0 : 0 ≤ s * a := Int.mul_nonneg s0 (by omega)
  rw [hx, Int.add_mul_emod_self_left]
  exact Int.emod_eq_of_lt (by omega) (by omega)
theorem val_congr {F G : Nat → Nat → AV} : ∀ (k o o' : Nat), (∀ j, j < k → (F (o + j) 0).toI = (G (o' + j) 0).toI) → val F o k = val G o' k
  | 0, _, _, _ => rfl
  | k + 1, o, o', h => by
    show (F o 0).toI + 256 * val F (o + 1) k = (G o' 0).toI + 256 * val G (o' + 1) k
    have h0 := h 0 (by omega)
    rw [Nat.add_zero, Nat.add_zero] at h0
    rw [h0, val_congr k (o + 1) (o' + 1) (fun j hj => by
      have := h (j + 1) (by omega)
      rw [show o + 1 + j = o + (j + 1) by omega, show o' + 1 + j = o' + (j + 1) by omega]; exact this)]
theorem val_byt {F : Nat → Nat → AV} {x : Int} : ∀ (k o : Nat), (∀ j, j < k → (F (o + j) 0).toI = byt x j) → val F o k = x % 256 ^ k
  | 0, o, _ => by simp [val]
  | k + 1, o, h => by
    rw [val_snoc, val_byt k o (fun j hj => h j (by omega)), h k (by omega), mod_step]
    rfl
theorem val8 {F : Nat → Nat → AV} {x : Int} {o : Nat} (h : ∀ j, j < 8 → (F (o + j) 0).toI = byt x j) (hx : u64B x = true) : val F o 8 = x := by
  obtain ⟨a, b⟩ := u64_of hx
  rw [val_byt 8 o h, pow256_8]
  exact Int.emod_eq_of_lt a b
theorem val4 {F : Nat → Nat → AV} {x : Int} {o : Nat} (h : ∀ j, j < 4 → (F (o + j) 0).toI = byt x j) (h0 : 0 ≤ x) (h1 : x < 4294967296) : val F o 4 = x := by
  rw [val_byt 4 o h, pow256_4]
  exact Int.emod_eq_of_lt h0 h1
theorem val2_ {F : Nat → Nat → AV} {x : Int} {o : Nat} (h : ∀ j, j < 2 → (F (o + j) 0).toI = byt x j) (h0 : 0 ≤ x) (h1 : x < 65536) : val F o 2 = x := by
  rw [val_byt 2 o h, pow256_2]
  exact Int.emod_eq_of_lt h0 h1
theorem val1_ {F : Nat → Nat → AV} {x : Int} {o : Nat} (h : (F o 0).toI = byt x 0) (h0 : 0 ≤ x) (h1 : x < 256) : val F o 1 = x := by
  have e := val_byt (F := F) (x := x) 1 o (fun j hj => by
    have : j = 0 := by omega
    subst this; exact h)
  rw [e]
  exact Int.emod_eq_of_lt h0 h1
theorem byt_val {F : Nat → Nat → AV} {N : Nat} (h : okB F N = true) : ∀ (k o j : Nat), o + k ≤ N → j < k → byt (val F o k) j = (F (o + j) 0).toI
  | 0, _, j, _, hj => absurd hj (by omega)
  | k + 1, o, 0, hk, hj => by
    obtain ⟨a, b⟩ := okB_at h (show o < N by omega)
    show ((F o 0).toI + 256 * val F (o + 1) k) / 256 ^ 0 % 256 = _
    simp only [Int.pow_zero, Int.ediv_one, Nat.add_zero]
    omega
  | k + 1, o, j + 1, hk, hj => by
    obtain ⟨a, b⟩ := okB_at h (show o < N by omega)
    show ((F o 0).toI + 256 * val F (o + 1) k) / 256 ^ (j + 1) % 256 = _
    rw [Int.pow_succ, Int.mul_comm (256 ^ j) 256, ← Int.ediv_ediv_of_nonneg (show (0 : Int) ≤ 256 by decide), show ((F o 0).toI + 256 * val F (o + 1) k) / 256 = val F (o + 1) k by omega]
    have := byt_val h k (o + 1) j (by omega) (by omega)
    rw [show o + (j + 1) = o + 1 + j by omega]
    exact this
/-! ### An entry's bytes, one by one -/
theorem lookI_a {cl rq fr ct : Int} {j : Nat} (h : j < 8) : lookI cl rq fr ct j = byt cl j := by
  unfold lookI
  rw [blt_t h]; rfl
theorem lookI_b {cl rq fr ct : Int} {j : Nat} (h : j < 8) : lookI cl rq fr ct (8 + j) = byt rq j := by
  unfold lookI
  rw [blt_f (show ¬ 8 + j < 8 by omega), blt_t (show 8 + j < 16 by omega), Nat.add_sub_cancel_left]; rfl
theorem lookI_c {cl rq fr ct : Int} {j : Nat} (h : j < 4) : lookI cl rq fr ct (16 + j) = byt (IntKind.wrap .u64 fr) j := by
  unfold lookI
  rw [blt_f (show ¬ 16 + j < 8 by omega), blt_f (show ¬ 16 + j < 16 by omega), blt_t (show 16 + j < 20 by omega), Nat.add_sub_cancel_left]; rfl
theorem lookI_d {cl rq fr ct : Int} {j : Nat} (h : j < 4) : lookI cl rq fr ct (20 + j) = byt (IntKind.wrap .u64 ct) j := by
  unfold lookI
  rw [blt_f (show ¬ 20 + j < 8 by omega), blt_f (show ¬ 20 + j < 16 by omega), blt_f (show ¬ 20 + j < 20 by omega), Nat.add_sub_cancel_left]; rfl
section
variable {ix tm st kd cl rq fr ct : Int} {d : List Nat} {m : Nat} {g : Nat → Nat → AV}
theorem ent_lo {i : Nat} (h : i < 24) : (entB ix tm st kd cl rq fr ct d m g i 0).toI = (allB 8 (rowsOf 1 [.int .u64 ix, .int .u64 tm, .int .u64 st] 3) i 0).toI := by
  unfold entB
  rw [fjoin_lt (by omega), fjoin_lt (by omega), fjoin_lt (by omega), fjoin_lt (by omega), fjoin_lt (by omega), fjoin_lt (by omega), fjoin_ge (Nat.zero_le _), Nat.sub_zero]
theorem ent_ix {i : Nat} (h : i < 8) : (entB ix tm st kd cl rq fr ct d m g i 0).toI = byt ix i := by
  rw [ent_lo (by omega)]
  show byt (getAt [AV.int .u64 ix, .int .u64 tm, .int .u64 st] (i / 8 * 1 + 0)).toI (i % 8) = byt ix i
  rw [Nat.div_eq_of_lt h, Nat.mod_eq_of_lt h]; rfl
theorem ent_tm {i : Nat} (h : i < 8) : (entB ix tm st kd cl rq fr ct d m g (8 + i) 0).toI = byt tm i := by
  rw [ent_lo (by omega)]
  show byt (getAt [AV.int .u64 ix, .int .u64 tm, .int .u64 st] ((8 + i) / 8 * 1 + 0)).toI ((8 + i) % 8) = byt tm i
  rw [show (8 + i) / 8 = 1 by omega, show (8 + i) % 8 = i by omega]; rfl
theorem ent_st {i : Nat} (h : i < 8) : (entB ix tm st kd cl rq fr ct d m g (16 + i) 0).toI = byt st i := by
  rw [ent_lo (by omega)]
  show byt (getAt [AV.int .u64 ix, .int .u64 tm, .int .u64 st] ((16 + i) / 8 * 1 + 0)).toI ((16 + i) % 8) = byt st i
  rw [show (16 + i) / 8 = 2 by omega, show (16 + i) % 8 = i by omega]; rfl
theorem ent_kd : (entB ix tm st kd cl rq fr ct d m g 24 0).toI = byt (IntKind.wrap .u64 kd) 0 := by
  unfold entB
  rw [fjoin_lt (by omega), fjoin_lt (by omega), fjoin_lt (by omega), fjoin_lt (by omega), fjoin_lt (by omega), fjoin_ge (by omega)]; rfl
theorem ent_look {i : Nat} (h : i < 24) : (entB ix tm st kd cl rq fr ct d m g (25 + i) 0).toI = lookI cl rq fr ct i := by
  unfold entB
  rw [fjoin_lt (by omega), fjoin_lt (by omega), fjoin_lt (by omega), fjoin_lt (by omega), fjoin_ge (by omega), Nat.add_sub_cancel_left]; rfl
theorem ent_len {i : Nat} (h : i < 2) : (entB ix tm st kd cl rq fr ct d m g (49 + i) 0).toI = byt (IntKind.wrap .u64 (d.length : Int)) i := by
  unfold entB
  rw [fjoin_lt (by omega), fjoin_lt (by omega), fjoin_lt (by omega), fjoin_ge (by omega), Nat.add_sub_cancel_left]; rfl
theorem ent_str {i : Nat} (h : i < d.length) : (entB ix tm st kd cl rq fr ct d m g (51 + i) 0).toI = (natAt d i : Nat) := by
  unfold entB
  rw [fjoin_lt (by omega), fjoin_lt (by omega), fjoin_ge (by omega), Nat.add_sub_cancel_left]; rfl
theorem ent_num : (entB ix tm st kd cl rq fr ct d m g (51 + d.length) 0).toI = byt (IntKind.wrap .u64 (m : Int)) 0 := by
  unfold entB
  rw [fjoin_lt (by omega), fjoin_ge (by omega), Nat.sub_self]; rfl
theorem ent_beh {i : Nat} : (entB ix tm st kd cl rq fr ct d m g (52 + d.length + i) 0).toI = (behB g i 0).toI := by
  unfold entB
  rw [fjoin_ge (by omega), Nat.add_sub_cancel_left]
theorem ent_row {i b : Nat} (hb : b < 24) : (entB ix tm st kd cl rq fr ct d m g (52 + d.length + 24 * i + b) 0).toI = lookI (g i 0).toI (g i 1).toI (g i 2).toI (g i 3).toI b := by
  rw [show 52 + d.length + 24 * i + b = 52 + d.length + (24 * i + b) by omega, ent_beh, ← beh_at hb]; rfl
end
theorem natAt_lt {d : List Nat} (hd : ∀ b ∈ d, b < 256) (i : Nat) : natAt d i < 256 := by
  unfold natAt
  split
  · rename_i v hv; exact hd v (List.mem_of_getElem? hv)
  · decide
/-! ### What is written is read as it was -/
def u32R (x : Int) : Prop := 0 ≤ x ∧ x < 4294967296
structure EntR (ix tm st cl rq fr ct : Int) (d : List Nat) (n : Nat) (f : Nat → Nat → AV) : Prop where
  ix : u64B ix = true
  tm : u64B tm = true
  st : u64B st = true
  cl : u64B cl = true
  rq : u64B rq = true
  fr : u32R fr
  ct : u32R ct
  d : ∀ b ∈ d, b < 256
  row : ∀ i, i < n → u64B (f i 0).toI = true ∧ u64B (f i 1).toI = true ∧ u32R (f i 2).toI ∧ u32R (f i 3).toI
theorem wOK_of {kd : Int} {d : List Nat} {m : Nat} (h : wOK kd d m = true) : 0 ≤ kd ∧ kd ≤ 255 ∧ d.length ≤ 16384 ∧ m ≤ 64 := by
  unfold wOK at h
  simp only [Bool.and_eq_true, Bool.not_eq_true', decide_eq_false_iff_not] at h
  obtain ⟨h1, h2, h3, h4⟩ := h
  exact ⟨by omega, by omega, by omega, by omega⟩
theorem wOK_mk {kd : Int} {d : List Nat} {m : Nat} (h1 : 0 ≤ kd) (h2 : kd ≤ 255) (h3 : d.length ≤ 16384) (h4 : m ≤ 64) : wOK kd d m = true := by
  unfold wOK
  simp only [Bool.and_eq_true, Bool.not_eq_true', decide_eq_false_iff_not]
  exact ⟨by omega, by omega, by omega, by omega⟩
section
variable {ix tm st kd cl rq fr ct : Int} {d : List Nat} {n : Nat} {f F : Nat → Nat → AV}
theorem w_tlen (hw : wOK kd d n = true) (hF : ∀ i, i < 52 + d.length + 24 * n → (F i 0).toI = (entB ix tm st kd cl rq fr ct d n f i 0).toI) : val F 49 2 = (d.length : Int) := by
  obtain ⟨k0, k1, hl, hn⟩ := wOK_of hw
  refine val2_ (fun j hj => ?_) (by omega) (by omega)
  rw [hF _ (by omega), ent_len hj, wrap_u64 (by omega) (by omega)]
theorem w_bnum (hw : wOK kd d n = true) (hF : ∀ i, i < 52 + d.length + 24 * n → (F i 0).toI = (entB ix tm st kd cl rq fr ct d n f i 0).toI) : val F (51 + d.length) 1 = (n : Int) := by
  obtain ⟨k0, k1, hl, hn⟩ := wOK_of hw
  refine val1_ ?_ (by omega) (by omega)
  rw [hF _ (by omega), ent_num, wrap_u64 (by omega) (by omega)]
theorem tl_eq (hw : wOK kd d n = true) (hF : ∀ i, i < 52 + d.length + 24 * n → (F i 0).toI = (entB ix tm st kd cl rq fr ct d n f i 0).toI) : tlen F 0 = d.length := by
  unfold tlen
  rw [Nat.zero_add, w_tlen hw hF, Int.toNat_natCast]
theorem bn_eq (hw : wOK kd d n = true) (hF : ∀ i, i < 52 + d.length + 24 * n → (F i 0).toI = (entB ix tm st kd cl rq fr ct d n f i 0).toI) : bnum F 0 = n := by
  unfold bnum
  rw [Nat.zero_add, tl_eq hw hF, w_bnum hw hF, Int.toNat_natCast]
theorem ee_eq (hw : wOK kd d n = true) (hF : ∀ i, i < 52 + d.length + 24 * n → (F i 0).toI = (entB ix tm st kd cl rq fr ct d n f i 0).toI) : eEnd F 0 = 52 + d.length + 24 * n := by
  unfold eEnd
  rw [tl_eq hw hF, bn_eq hw hF]; omega
theorem w_ok {M : Nat} (hw : wOK kd d n = true) (hF : ∀ i, i < 52 + d.length + 24 * n → (F i 0).toI = (entB ix tm st kd cl rq fr ct d n f i 0).toI) (hM : 52 + d.length + 24 * n ≤ M) : entOK F 0 M = true := by
  obtain ⟨k0, k1, hl, hn⟩ := wOK_of hw
  exact entT ⟨by omega, by rw [tl_eq hw hF]; exact hl, by rw [tl_eq hw hF]; omega, by rw [bn_eq hw hF]; exact hn, by rw [ee_eq hw hF]; exact hM⟩
theorem same_mk {ix2 tm2 st2 kd2 cl2 rq2 fr2 ct2 : Int} {d2 : List Nat} {nl nl2 : Bool} {m : Nat} {g : Nat → Nat → AV} (h1 : ix = ix2) (h2 : tm = tm2) (h3 : st = st2) (h4 : kd = kd2) (h5 : cl = cl2) (h6 : rq = rq2) (h7 : fr = fr2) (h8 : ct = ct2) (h9 : d = d2) (h10 : n = m) (h11 : allE f g n = true) :
    sameR ix tm st kd cl rq fr ct d ix2 tm2 st2 kd2 cl2 rq2 fr2 ct2 d2 nl nl2 n m f g = true := by
  subst h1; subst h2; subst h3; subst h4; subst h5; subst h6; subst h7; subst h8; subst h9; subst h10
  simp only [sameR, beq_self_eq_true, bne_self_eq_false, Bool.and_self, cond_true, cond_false, h11]
theorem strV_eq (hd : ∀ b ∈ d, b < 256) {o : Nat} (h : ∀ i, i < d.length → (F (o + i) 0).toI = (natAt d i : Nat)) : strV F o d.length = d := by
  refine List.ext_getElem? fun i => ?_
  unfold strV
  rw [List.getElem?_map]
  by_cases hi : i < d.length
  · rw [List.getElem?_range hi, List.getElem?_eq_getElem hi, Option.map_some]
    have : (byteAt F (o + i)) = (natAt d i : Nat) := h i hi
    rw [this, Int.toNat_natCast]
    unfold natAt
    rw [List.getElem?_eq_getElem hi]
  · rw [List.getElem?_eq_none (by rw [List.length_range]; omega), List.getElem?_eq_none (by omega)]; rfl
theorem w_row {off i : Nat} {a b c e : Int} (h : ∀ j, j < 24 → (F (off + 24 * i + j) 0).toI = lookI a b c e j) (ha : u64B a = true) (hb : u64B b = true) (hc : u32R c) (he : u32R e) :
    (lookF F off i 0).toI = a ∧ (lookF F off i 1).toI = b ∧ (lookF F off i 2).toI = c ∧ (lookF F off i 3).toI = e := by
  refine ⟨?_, ?_, ?_, ?_⟩
  · show val F (off + 24 * i) 8 = a
    exact val8 (fun j hj => by rw [h j (by omega), lookI_a hj]) ha
  · show val F (off + 24 * i + 8) 8 = b
    exact val8 (fun j hj => by rw [Nat.add_assoc, h (8 + j) (by omega), lookI_b hj]) hb
  · show IntKind.wrap .u32 (val F (off + 24 * i + 16) 4) = c
    rw [val4 (x := c) (fun j hj => by rw [Nat.add_assoc, h (16 + j) (by omega), lookI_c hj, wrap_u64 hc.1 (Int.lt_trans hc.2 (by decide))]) hc.1 hc.2, wrap_u32 hc.1 hc.2]
  · show IntKind.wrap .u32 (val F (off + 24 * i + 20) 4) = e
    rw [val4 (x := e) (fun j hj => by rw [Nat.add_assoc, h (20 + j) (by omega), lookI_d hj, wrap_u64 he.1 (Int.lt_trans he.2 (by decide))]) he.1 he.2, wrap_u32 he.1 he.2]
theorem w_back (hR : EntR ix tm st cl rq fr ct d n f) (hw : wOK kd d n = true) (hF : ∀ i, i < 52 + d.length + 24 * n → (F i 0).toI = (entB ix tm st kd cl rq fr ct d n f i 0).toI) : backR F ix tm st kd cl rq fr ct d n f = true := by
  obtain ⟨k0, k1, hl, hn⟩ := wOK_of hw
  unfold backR
  rw [tl_eq hw hF, bn_eq hw hF]
  have hlk : ∀ j, j < 24 → (F (25 + j) 0).toI = lookI cl rq fr ct j := fun j hj => by rw [hF _ (by omega), ent_look hj]
  refine same_mk ?_ ?_ ?_ ?_ ?_ ?_ ?_ ?_ ?_ rfl ?_
  · exact val8 (fun j hj => by rw [Nat.zero_add, hF _ (by omega), ent_ix hj]) hR.ix
  · exact val8 (fun j hj => by rw [hF _ (by omega), ent_tm hj]) hR.tm
  · exact val8 (fun j hj => by rw [hF _ (by omega), ent_st hj]) hR.st
  · rw [val1_ (x := kd) (by rw [hF _ (by omega), ent_kd, wrap_u64 (by omega) (by omega)]) (by omega) (by omega)]
    obtain ⟨k, rfl⟩ : ∃ k : Nat, kd = (k : Int) := ⟨kd.toNat, by omega⟩
    exact wrap_i64 (by omega)
  · exact val8 (fun j hj => by rw [hlk j (by omega), lookI_a hj]) hR.cl
  · exact val8 (fun j hj => by rw [show 33 + j = 25 + (8 + j) by omega, hlk (8 + j) (by omega), lookI_b hj]) hR.rq
  · rw [val4 (x := fr) (fun j hj => by rw [show 41 + j = 25 + (16 + j) by omega, hlk (16 + j) (by omega), lookI_c hj, wrap_u64 hR.fr.1 (Int.lt_trans hR.fr.2 (by decide))]) hR.fr.1 hR.fr.2, wrap_u32 hR.fr.1 hR.fr.2]
  · rw [val4 (x := ct) (fun j hj => by rw [show 45 + j = 25 + (20 + j) by omega, hlk (20 + j) (by omega), lookI_d hj, wrap_u64 hR.ct.1 (Int.lt_trans hR.ct.2 (by decide))]) hR.ct.1 hR.ct.2, wrap_u32 hR.ct.1 hR.ct.2]
  · exact strV_eq hR.d (fun i hi => by rw [hF _ (by omega), ent_str hi])
  · refine okFrom_iff.2 fun i hi => ?_
    rw [Nat.zero_add]
    obtain ⟨r0, r1, r2, r3⟩ := hR.row i hi
    obtain ⟨e0, e1, e2, e3⟩ := w_row (F := F) (off := 51 + (d.length + 1)) (i := i) (fun j hj => by
      rw [hF _ (by omega), show 51 + (d.length + 1) + 24 * i + j = 52 + d.length + 24 * i + j by omega, ent_row hj]) r0 r1 r2 r3
    simp only [rowE, e0, e1, e2, e3, beq_self_eq_true, Bool.and_self]
end
/-! ### What is read, written, is what was read -/
section
variable {g : Nat → Nat → AV} {N : Nat}
theorem r_lookI (hok : okB g N = true) {o : Nat} (ho : o + 24 ≤ N) {j : Nat} (hj : j < 24) :
    lookI (val g o 8) (val g (o + 8) 8) (IntKind.wrap .u32 (val g (o + 16) 4)) (IntKind.wrap .u32 (val g (o + 20) 4)) j = (g (o + j) 0).toI := by
  have w4 : ∀ p, p + 4 ≤ N → IntKind.wrap .u64 (IntKind.wrap .u32 (val g p 4)) = val g p 4 := fun p hp => by
    obtain ⟨a, b⟩ := val_bnd hok 4 p hp
    rw [pow256_4] at b
    rw [wrap_u32 a b, wrap_u64 a (Int.lt_trans b (by decide))]
  by_cases h1 : j < 8
  · rw [lookI_a h1, byt_val hok 8 o j (by omega) h1]
  · by_cases h2 : j < 16
    · obtain ⟨k, rfl⟩ : ∃ k, j = 8 + k := ⟨j - 8, by omega⟩
      rw [lookI_b (by omega), byt_val hok 8 (o + 8) k (by omega) (by omega), Nat.add_assoc]
    · by_cases h3 : j < 20
      · obtain ⟨k, rfl⟩ : ∃ k, j = 16 + k := ⟨j - 16, by omega⟩
        rw [lookI_c (by omega), w4 _ (by omega), byt_val hok 4 (o + 16) k (by omega) (by omega), Nat.add_assoc]
      · obtain ⟨k, rfl⟩ : ∃ k, j = 20 + k := ⟨j - 20, by omega⟩
        rw [lookI_d (by omega), w4 _ (by omega), byt_val hok 4 (o + 20) k (by omega) (by omega), Nat.add_assoc]
theorem strV_len (o n : Nat) : (strV g o n).length = n := by simp [strV]
theorem strV_at {o n i : Nat} (hok : okB g N = true) (hi : i < n) (ho : o + n ≤ N) : ((natAt (strV g o n) i : Nat) : Int) = (g (o + i) 0).toI := by
  obtain ⟨a, b⟩ := okB_at hok (show o + i < N by omega)
  unfold natAt strV
  rw [List.getElem?_map, List.getElem?_range hi, Option.map_some]
  show ((Int.toNat (g (o + i) 0).toI : Nat) : Int) = _
  omega
theorem r_bytes (hok : okB g N = true) (hE : entOK g 0 N = true) {G : Nat → Nat → AV} (hG : bnum g 0 = 0 ∨ G = lookF g (51 + (tlen g 0 + 1))) {i : Nat} (hi : i < eEnd g 0) :
    (entB (val g 0 8) (val g 8 8) (val g 16 8) (IntKind.wrap .i64 (val g 24 1)) (val g 25 8) (val g 33 8) (IntKind.wrap .u32 (val g 41 4)) (IntKind.wrap .u32 (val g 45 4)) (strV g 51 (tlen g 0)) (bnum g 0) G i 0).toI = (g i 0).toI := by
  rw [entOK_eq] at hE
  simp only [Bool.and_eq_true, decide_eq_true_eq] at hE
  obtain ⟨a1, a2, a3, a4, a5⟩ := hE
  obtain ⟨T, hT, hT2⟩ := val2 hok (show 49 + 2 ≤ N by omega)
  have tl : tlen g 0 = T := by unfold tlen; rw [Nat.zero_add, hT, Int.toNat_natCast]
  have hl : (strV g 51 (tlen g 0)).length = T := by rw [strV_len, tl]
  obtain ⟨B, hB, hB2⟩ := val1 hok (show (51 + T) + 1 ≤ N by rw [tl] at a3; omega)
  have bn : bnum g 0 = B := by unfold bnum; rw [Nat.zero_add, tl, hB, Int.toNat_natCast]
  have he : eEnd g 0 = 52 + T + 24 * B := by unfold eEnd; rw [tl, bn]; omega
  rw [he] at hi a5
  rw [tl] at a2 a3
  rw [bn] at a4
  by_cases c1 : i < 8
  · rw [ent_ix c1, byt_val hok 8 0 i (by omega) c1, Nat.zero_add]
  by_cases c2 : i < 16
  · obtain ⟨k, rfl⟩ : ∃ k, i = 8 + k := ⟨i - 8, by omega⟩
    rw [ent_tm (by omega), byt_val hok 8 8 k (by omega) (by omega)]
  by_cases c3 : i < 24
  · obtain ⟨k, rfl⟩ : ∃ k, i = 16 + k := ⟨i - 16, by omega⟩
    rw [ent_st (by omega), byt_val hok 8 16 k (by omega) (by omega)]
  by_cases c4 : i < 25
  · have : i = 24 := by omega
    subst this
    obtain ⟨v, hv, hv2⟩ := val1 hok (show 24 + 1 ≤ N by omega)
    have e1 : IntKind.wrap .i64 (v : Int) = (v : Int) := wrap_i64 (by omega)
    rw [ent_kd, hv, e1, wrap_u64 (by omega) (by omega), ← hv, byt_val hok 1 24 0 (by omega) (by omega)]
  by_cases c5 : i < 49
  · obtain ⟨k, rfl⟩ : ∃ k, i = 25 + k := ⟨i - 25, by omega⟩
    rw [ent_look (by omega)]
    exact r_lookI hok (o := 25) (by omega) (by omega)
  by_cases c6 : i < 51
  · obtain ⟨k, rfl⟩ : ∃ k, i = 49 + k := ⟨i - 49, by omega⟩
    rw [ent_len (by omega), hl, wrap_u64 (by omega) (by omega), ← hT, byt_val hok 2 49 k (by omega) (by omega)]
  by_cases c7 : i < 51 + T
  · obtain ⟨k, rfl⟩ : ∃ k, i = 51 + k := ⟨i - 51, by omega⟩
    rw [ent_str (by rw [hl]; omega), strV_at hok (by rw [tl]; omega) (by rw [tl]; omega)]
  by_cases c8 : i < 52 + T
  · have : i = 51 + (strV g 51 (tlen g 0)).length := by rw [hl]; omega
    subst this
    rw [ent_num, bn, wrap_u64 (by omega) (by omega), ← hB, byt_val hok 1 (51 + T) 0 (by omega) (by omega), hl, Nat.add_zero]
  · obtain ⟨q, b, rfl, hb⟩ : ∃ q b, i = 52 + T + 24 * q + b ∧ b < 24 := ⟨(i - (52 + T)) / 24, (i - (52 + T)) % 24, by omega, by omega⟩
    rcases hG with h0 | rfl
    · rw [bn] at h0; omega
    · have e := ent_row (ix := val g 0 8) (tm := val g 8 8) (st := val g 16 8) (kd := IntKind.wrap .i64 (val g 24 1)) (cl := val g 25 8) (rq := val g 33 8) (fr := IntKind.wrap .u32 (val g 41 4)) (ct := IntKind.wrap .u32 (val g 45 4)) (d := strV g 51 (tlen g 0)) (m := bnum g 0) (g := lookF g (51 + (tlen g 0 + 1))) (i := q) hb
      rw [hl] at e
      rw [e, tl]
      have := r_lookI hok (o := 51 + (T + 1) + 24 * q) (by omega) hb
      rw [show 52 + T + 24 * q + b = 51 + (T + 1) + 24 * q + b by omega]
      exact this
theorem r_len (hok : okB g N = true) (hE : entOK g 0 N = true) : 52 + (strV g 51 (tlen g 0)).length + 24 * bnum g 0 = eEnd g 0 ∧ eEnd g 0 ≤ N ∧ wOK (IntKind.wrap .i64 (val g 24 1)) (strV g 51 (tlen g 0)) (bnum g 0) = true := by
  rw [entOK_eq] at hE
  simp only [Bool.and_eq_true, decide_eq_true_eq] at hE
  obtain ⟨a1, a2, a3, a4, a5⟩ := hE
  obtain ⟨v, hv, hv2⟩ := val1 hok (show 24 + 1 ≤ N by omega)
  have e1 : IntKind.wrap .i64 (v : Int) = (v : Int) := wrap_i64 (by omega)
  refine ⟨by rw [strV_len]; unfold eEnd; omega, a5, ?_⟩
  rw [hv, e1]
  exact wOK_mk (by omega) (by omega) (by rw [strV_len]; exact a2) a4
end

end Go.Proofs.Ytjbjjikdihghmaa.entry
