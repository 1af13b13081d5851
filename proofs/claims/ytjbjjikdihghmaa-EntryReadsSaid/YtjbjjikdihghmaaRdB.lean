/- Bytes, read: what the loops and the functions come to. -/
import Derived.Test.YtjbjjikdihghmaaOcB
import Derived.Test.YtjbjjikdihghmaaRdA
set_option linter.unusedSimpArgs false
set_option linter.unusedVariables false
set_option maxRecDepth 20000
namespace Go.Proofs.Ytjbjjikdihghmaa.entry
open Go Go.RowKit Go.Proofs.Ytjbjjikdihghmaa.Bm
theorem blt2 {i n : Nat} (h : i < n) : Nat.blt i n = true := by rw [blt_iff]; simp [h]
theorem r32_inv  {c : CS} {r : Nat × CS} (h : (r32  c).run = some r) : ∃ nl off n N f rw, c = c32 0 nl off n N f rw 0 ∧ (r32B  nl off n N f rw).run = some r := by
  unfold r32 at h
  split at h
  · rename_i z_1 nl off n z_2 z_3 z_4 sh_5 N f rw
    obtain ⟨hc, hb⟩ := chkT_run h
    have h0 := hc 0 _ rfl
    have h0 := of_decide_eq_true h0; subst h0
    have h1 := hc 1 _ rfl
    have h1 := of_decide_eq_true h1; subst h1
    have h2 := hc 2 _ rfl
    have h2 := of_decide_eq_true h2; subst h2
    have h3 := hc 3 _ rfl
    have h3 := of_decide_eq_true h3; subst h3
    have h4 := hc 4 _ rfl
    have h4 := (shBeq_eq h4).symm; subst h4
    exact ⟨nl, off, n, N, f, rw, rfl, hb⟩
  · cases h
theorem r36_inv  {c : CS} {r : Nat × CS} (h : (r36  c).run = some r) : ∃ nl off n N f rw, c = c36 nl off n N f rw 0 (IntKind.wrap .i64 ((n : Int) - 1)) ∧ (r36B  nl off n N f rw).run = some r := by
  unfold r36 at h
  split at h
  · rename_i nl off n z_1 z_2 z_3 sh_4 N f rw
    obtain ⟨hc, hb⟩ := chkT_run h
    have h0 := hc 0 _ rfl
    have h0 := of_decide_eq_true h0; subst h0
    have h1 := hc 1 _ rfl
    have h1 := of_decide_eq_true h1; subst h1
    have h2 := hc 2 _ rfl
    have h2 := of_decide_eq_true h2; subst h2
    have h3 := hc 3 _ rfl
    have h3 := (shBeq_eq h3).symm; subst h3
    exact ⟨nl, off, n, N, f, rw, rfl, hb⟩
  · cases h
theorem q32o_inv  {c : CS} {r : CS} (h : (q32o  c).run = some r) : ∃ nl off N f w, c = a32 nl off N f w ∧ (q32oB  nl off N f w).run = some r := by
  unfold q32o at h
  split at h
  · rename_i w nl off z_1 z_2 z_3 sh_4 N f
    obtain ⟨hc, hb⟩ := chkT_run h
    have h0 := hc 0 _ rfl
    have h0 := of_decide_eq_true h0; subst h0
    have h1 := hc 1 _ rfl
    have h1 := of_decide_eq_true h1; subst h1
    have h2 := hc 2 _ rfl
    have h2 := of_decide_eq_true h2; subst h2
    have h3 := hc 3 _ rfl
    have h3 := (shBeq_eq h3).symm; subst h3
    exact ⟨nl, off, N, f, w, rfl, hb⟩
  · cases h
theorem q36o_inv  {c : CS} {r : CS} (h : (q36o  c).run = some r) : ∃ nl a N f w, c = a36 nl a N f w ∧ (q36oB  nl a N f w).run = some r := by
  unfold q36o at h
  split at h
  · rename_i w nl N z_1 a z_2 sh_3 z_4 f
    obtain ⟨hc, hb⟩ := chkT_run h
    have h0 := hc 0 _ rfl
    have h0 := of_decide_eq_true h0; subst h0
    have h1 := hc 1 _ rfl
    have h1 := of_decide_eq_true h1; subst h1
    have h2 := hc 2 _ rfl
    have h2 := (shBeq_eq h2).symm; subst h2
    have h3 := hc 3 _ rfl
    have h3 := of_decide_eq_true h3; subst h3
    exact ⟨nl, a, N, f, w, rfl, hb⟩
  · cases h
theorem okB_at {f : Nat → Nat → AV} {n i : Nat} (h : okB f n = true) (hi : i < n) : 0 ≤ (f i 0).toI ∧ (f i 0).toI < 256 := by
  rw [okB_eq, List.all_eq_true] at h
  have := h i (List.mem_range.2 hi)
  simpa [Bool.and_eq_true, decide_eq_true_eq] using this
theorem val_snoc (f : Nat → Nat → AV) : ∀ (k o : Nat), val f o (k + 1) = val f o k + (f (o + k) 0).toI * 256 ^ k
  | 0, o => by simp [val]
  | k + 1, o => by
    have h1 : val f o (k + 2) = (f o 0).toI + 256 * val f (o + 1) (k + 1) := rfl
    have h2 : val f o (k + 1) = (f o 0).toI + 256 * val f (o + 1) k := rfl
    rw [h1, val_snoc f k (o + 1), h2, show o + 1 + k = o + (k + 1) by omega, Int.mul_add, Int.pow_succ, ← Int.add_assoc, ← Int.mul_assoc, Int.mul_comm 256 (f (o + (k + 1)) 0).toI, Int.mul_assoc, Int.mul_comm 256 (256 ^ k)]
theorem val_bnd {f : Nat → Nat → AV} {N : Nat} (h : okB f N = true) : ∀ (k o : Nat), o + k ≤ N → 0 ≤ val f o k ∧ val f o k < 256 ^ k
  | 0, o, _ => by simp [val]
  | k + 1, o, hk => by
    obtain ⟨a, b⟩ := val_bnd h k (o + 1) (by omega)
    obtain ⟨c, d⟩ := okB_at h (show o < N by omega)
    have h2 : val f o (k + 1) = (f o 0).toI + 256 * val f (o + 1) k := rfl
    rw [h2, Int.pow_succ]
    omega
theorem pow8 (i : Nat) : (256 : Int) ^ i = ((2 ^ (8 * i) : Nat) : Int) := by
  rw [Nat.pow_mul]; simp
theorem pow_le8 {i : Nat} (h : i < 8) : 2 ^ (8 * i) * 256 ≤ 18446744073709551616 := by
  have h1 : 2 ^ (8 * i) ≤ 2 ^ 56 := Nat.pow_le_pow_right (by decide) (by omega)
  have h2 : 2 ^ 56 * 256 = 18446744073709551616 := by decide
  omega
theorem or_add {v c i : Nat} (hv : v < 2 ^ (8 * i)) (hc : c < 256) (hi : i < 8) : bitsR .or .u64 (v : Int) ((2 ^ (8 * i) * c : Nat) : Int) = ((v + 2 ^ (8 * i) * c : Nat) : Int) := by
  have hb := pow_le8 hi
  have h1 : 2 ^ (8 * i) * c ≤ 2 ^ (8 * i) * 255 := Nat.mul_le_mul_left _ (by omega)
  have e1 : v % 18446744073709551616 = v := Nat.mod_eq_of_lt (by omega)
  have e2 : 2 ^ (8 * i) * c % 18446744073709551616 = 2 ^ (8 * i) * c := Nat.mod_eq_of_lt (by omega)
  have e3 : (v ||| 2 ^ (8 * i) * c) = v + 2 ^ (8 * i) * c := by
    rw [Nat.or_comm, ← Nat.two_pow_add_eq_or_of_lt hv c, Nat.add_comm]
  show IntKind.wrap .u64 ((BitVec.ofInt 64 (v : Int) ||| BitVec.ofInt 64 ((2 ^ (8 * i) * c : Nat) : Int)).toNat : Int) = _
  rw [BitVec.ofInt_natCast, BitVec.ofInt_natCast, BitVec.toNat_or, BitVec.toNat_ofNat, BitVec.toNat_ofNat]
  rw [show (2 : Nat) ^ 64 = 18446744073709551616 by decide, e1, e2, e3]
  exact wrap_u64 (by omega) (by omega)
theorem or_step {v c : Int} {i : Nat} (hv0 : 0 ≤ v) (hv : v < 256 ^ i) (hc0 : 0 ≤ c) (hc : c < 256) (hi : i < 8) :
    bitsR .or .u64 v (IntKind.wrap .u64 (IntKind.wrap .u64 c * 2 ^ min (Int.toNat (IntKind.wrap .i64 (8 * (i : Int)))) (IntKind.bits .u64))) = v + c * 256 ^ i := by
  obtain ⟨v', rfl⟩ : ∃ k : Nat, v = (k : Int) := ⟨v.toNat, by omega⟩
  obtain ⟨c', rfl⟩ : ∃ k : Nat, c = (k : Int) := ⟨c.toNat, by omega⟩
  have hb := pow_le8 hi
  have e1 : IntKind.wrap .i64 (8 * (i : Int)) = ((8 * i : Nat) : Int) := by
    have := wrap_i64 (i := 8 * i) (by omega)
    simpa using this
  have e2 : min (8 * i) (IntKind.bits .u64) = 8 * i := Nat.min_eq_left (by show 8 * i ≤ 64; omega)
  have h1 : 2 ^ (8 * i) * c' ≤ 2 ^ (8 * i) * 255 := Nat.mul_le_mul_left _ (by omega)
  have e3 : (c' : Int) * 2 ^ (8 * i) = ((2 ^ (8 * i) * c' : Nat) : Int) := by
    rw [Int.mul_comm]; simp
  rw [pow8] at hv
  rw [wrap_u64 (x := (c' : Int)) (by omega) (by omega), e1, Int.toNat_natCast, e2, e3, wrap_u64 (by omega) (by omega), or_add (by omega) (by omega) hi, pow8, Nat.mul_comm]
  simp
theorem i32 (c : CS) (r : Nat × CS) (h : (r32 c).run = some r) : ∃ n, iterC (stepC E1 300 (loopC E1 32 0) 0 h32 ((.normal, h32) :: x32) s32_p) n c = some r := by
  obtain ⟨nl, off, n, N, f, rw_, rfl, hb⟩ := r32_inv h
  obtain ⟨hn, hb2⟩ := chkT_run hb
  have hok := hn 0 _ rfl
  have hn8 := le_of (hn 1 _ rfl)
  have hN := le_of (hn 2 _ rfl)
  simp only [T.run, Option.some.injEq] at hb2; subst hb2; clear h hb
  refine iter_for (C := fun i => c32 (val f off i) nl off n N f rw_ i) (n := n) (by simp) (fun i hi => ?_) ?_
  · have e := s32_eq bitsR (val f off i) nl off n N f rw_ i
    obtain ⟨v0, v1⟩ := val_bnd hok i off (by omega)
    obtain ⟨b0, b1⟩ := okB_at hok (show off + i < N by omega)
    rw [lt1 hi, Int.toNat_natCast, blt2 (show off + i < N by omega), wrap8 (by omega), or_step v0 v1 b0 b1 (by omega), wrap_i64s (by omega), ← val_snoc] at e
    exact e
  · have e := s32_eq bitsR (val f off n) nl off n N f rw_ n
    rw [lt0] at e
    exact e
theorem q1 : Bm.Good Try.prog F1 := g1.addL (by kernel_rfl) rfl (by decide) (by decide) rfl i32
/-- From above. -/
theorem i36 (c : CS) (r : Nat × CS) (h : (r36 c).run = some r) : ∃ n, iterC (stepC F1 300 (loopC F1 36 0) 0 h36 ((.normal, h36) :: x36) s36_p) n c = some r := by
  obtain ⟨nl, off, n, N, f, rw_, rfl, hb⟩ := r36_inv h
  obtain ⟨hn, hb2⟩ := chkT_run hb
  have hok := hn 0 _ rfl
  have hn8 := le_of (hn 1 _ rfl)
  have hN := le_of (hn 2 _ rfl)
  simp only [T.run, Option.some.injEq] at hb2; subst hb2; clear h hb
  have hw : ∀ k : Int, -1 ≤ k → k < 100 → IntKind.wrap .i64 k = k := fun k h1 h2 => by
    by_cases hk : k = -1
    · subst hk; decide
    · obtain ⟨q, rfl⟩ : ∃ q : Nat, k = (q : Int) := ⟨k.toNat, by omega⟩
      exact wrap_i64 (by omega)
  have e0 : c36 nl off n N f rw_ 0 (IntKind.wrap .i64 ((n : Int) - 1)) = c36 nl off n N f rw_ (val f (off + (n - 0)) 0) ((n : Int) - 1 - (0 : Nat)) := by
    rw [hw _ (by omega) (by omega)]
    simp [val]
  rw [e0]
  refine iter_for (C := fun j => c36 nl off n N f rw_ (val f (off + (n - j)) j) ((n : Int) - 1 - (j : Nat))) (n := n) (by simp) (fun j hj => ?_) ?_
  · have e := s36_eq nl off n N f rw_ (val f (off + (n - j)) j) ((n : Int) - 1 - (j : Nat))
    obtain ⟨v0, v1⟩ := val_bnd hok j (off + (n - j)) (by omega)
    have hpos : off + (n - (j + 1)) < N := by omega
    obtain ⟨b0, b1⟩ := okB_at hok hpos
    have hb8 := pow_le8 (i := j) (by omega)
    rw [pow8] at v1
    have hi : ((n : Int) - 1 - (j : Nat)).toNat = n - (j + 1) := by omega
    have hv : val f (off + (n - (j + 1))) (j + 1) = (f (off + (n - (j + 1))) 0).toI + 256 * val f (off + (n - j)) j := by
      show _ + 256 * val f (off + (n - (j + 1)) + 1) j = _
      rw [show off + (n - (j + 1)) + 1 = off + (n - j) by omega]
    rw [decide_eq_true (show (n : Int) - 1 - (j : Nat) ≥ 0 by omega), decide_eq_true (show (n : Int) - 1 - (j : Nat) < n by omega), hi, blt2 hpos] at e
    rw [wrap_u64 (x := 256 * val f (off + (n - j)) j) (by omega) (by omega), wrap_u64 (x := (f (off + (n - (j + 1))) 0).toI) (by omega) (by omega), wrap_u64 (by omega) (by omega), hw _ (by omega) (by omega)] at e
    show s36 nl off n N f rw_ (val f (off + (n - j)) j) ((n : Int) - 1 - (j : Nat)) s36_p = _
    rw [e, hv, Int.add_comm (256 * _) _, show (n : Int) - 1 - (j : Nat) - 1 = (n : Int) - 1 - ((j + 1 : Nat) : Int) by omega]
    rfl
  · have e := s36_eq nl off n N f rw_ (val f (off + (n - n)) n) ((n : Int) - 1 - (n : Nat))
    rw [decide_eq_false (show ¬ (n : Int) - 1 - (n : Nat) ≥ 0 by omega), Nat.sub_self, Nat.add_zero] at e
    show s36 nl off n N f rw_ (val f (off + (n - n)) n) ((n : Int) - 1 - (n : Nat)) s36_p = _
    rw [Nat.sub_self, Nat.add_zero]
    exact e
theorem q2 : Bm.Good Try.prog F2 := q1.addL (by kernel_rfl) rfl (by decide) (by decide) rfl i36
theorem okB0 : okB (fun _ _ => .bad) 0 = true := by rw [okB_eq]; rfl
theorem blt_t {n m : Nat} (h : n < m) : Nat.blt n m = true := blt2 h
theorem blt_f {n m : Nat} (h : ¬ n < m) : Nat.blt n m = false := by rw [blt_iff, decide_eq_false h]
theorem t32 (c c' : CS) (h : (q32 c).run = some c') : ∃ m pr ros π c0 c1, Seen c c0 ∧ callC F2 m 32 1 pr ros π c0 = some c1 ∧ Seen c1 c' := by
  unfold q32 at h
  cases hb : badP c with
  | true =>
    rw [hb] at h
    simp only [cond_true] at h
    unfold q32f at h
    split at h
    · rename_i w z _ _ _ _ _
      obtain ⟨hn, hb2⟩ := chkT_run h
      have hz := hn 0 _ rfl
      subst hz
      have hw1 := not_lt (hn 1 _ rfl)
      have hw8 := not_gt (hn 2 _ rfl)
      simp only [T.run, Option.some.injEq] at hb2; subst hb2
      have e := k32f_eq w
      rw [decide_eq_false (show ¬ w < 1 by omega), decide_eq_false (show ¬ w > 8 by omega), decide_eq_false (show ¬ w < 0 by omega), decide_eq_true (show w > 0 by omega), okB0] at e
      exact ⟨1000, .keep, [pR], k32f_p, _, _, Seen.mk' (SeenVs.refl _) (.cons (SeenO.cells (.cons SeenV.nil (SeenVs.refl _))) (.skip .nil)), e, Seen.refl _⟩
    · cases h
  | false =>
    rw [hb] at h
    simp only [cond_false] at h
    clear hb
    obtain ⟨nl, off, N, f, w, rfl, hb⟩ := q32o_inv h
    obtain ⟨hn, hb2⟩ := chkT_run hb
    have hw1 := not_lt (hn 0 _ rfl)
    have hw8 := not_gt (hn 1 _ rfl)
    have hok := hn 2 _ rfl
    have hoN := le_of (hn 3 _ rfl)
    have hN := le_of (hn 4 _ rfl)
    clear h hb
    obtain ⟨k, rfl, hk⟩ := nat_of hw1
    have e := k32_eq nl off N f (k : Int)
    simp only [Int.toNat_natCast, Nat.sub_zero, Nat.add_zero] at e hb2
    rw [decide_eq_false (show ¬ (k : Int) < 1 by omega), decide_eq_false (show ¬ (k : Int) > 8 by omega), decide_eq_false (show ¬ (k : Int) < 0 by omega), okB0] at e
    simp only [T.run] at hb2
    by_cases hf : N < off + k
    · rw [blt_t hf] at hb2
      simp only [cond_true, Option.some.injEq] at hb2; subst hb2
      rw [decide_eq_true (show (k : Int) > ((N - off : Nat) : Int) by omega)] at e
      exact ⟨1000, .keep, [pR], k32_p, _, _, Seen.refl _, e, Seen.refl _⟩
    · rw [blt_f hf] at hb2
      simp only [cond_false, Option.some.injEq] at hb2; subst hb2
      rw [decide_eq_false (show ¬ (k : Int) > ((N - off : Nat) : Int) by omega), ble_t (show k ≤ N - off by omega), decide_eq_true (show 0 ≤ (k : Int) by omega), hok, ble_t (show k ≤ 8 by omega), ble_t (show off + k ≤ N by omega)] at e
      refine ⟨1000, .keep, [pR], k32_p, _, _, Seen.refl _, e, Seen.mk' (SeenVs.refl _) (.cons (SeenO.cells (.cons (SeenV.of_eq ?_) (SeenVs.refl _))) (SeenOs.refl _))⟩
      rw [Nat.sub_sub]
theorem t36 (c c' : CS) (h : (q36 c).run = some c') : ∃ m pr ros π c0 c1, Seen c c0 ∧ callC F2 m 36 1 pr ros π c0 = some c1 ∧ Seen c1 c' := by
  unfold q36 at h
  cases hb : badP c with
  | true =>
    rw [hb] at h
    simp only [cond_true] at h
    clear hb
    unfold q36f at h
    split at h
    · rename_i w nl N N2 _ sh M f
      obtain ⟨hn, hb2⟩ := chkT_run h
      have hw1 := not_lt (hn 0 _ rfl)
      have hw8 := not_gt (hn 1 _ rfl)
      have e1 := of_decide_eq_true (hn 2 _ rfl)
      have e2 := of_decide_eq_true (hn 3 _ rfl)
      have e3 := (shBeq_eq (hn 4 _ rfl)).symm
      subst e1; subst e2; subst e3
      simp only [T.run, Option.some.injEq] at hb2; subst hb2
      have e := k36f_eq nl N f w
      rw [decide_eq_false (show ¬ w < 1 by omega), decide_eq_false (show ¬ w > 8 by omega), decide_eq_false (show ¬ w < 0 by omega), decide_eq_true (show w > 0 by omega), okB0] at e
      exact ⟨1000, .keep, [pRR], k36f_p, _, _, Seen.mk' (SeenVs.refl _) (.cons (SeenO.cells (.cons (SeenV.refl _) (.cons SeenV.bad (SeenVs.refl _)))) (SeenOs.refl _)), e, Seen.refl _⟩
    · cases h
  | false =>
    rw [hb] at h
    simp only [cond_false] at h
    clear hb
    obtain ⟨nl, a, N, f, w, rfl, hb⟩ := q36o_inv h
    obtain ⟨hn, hb2⟩ := chkT_run hb
    have hw1 := not_lt (hn 0 _ rfl)
    have hw8 := not_gt (hn 1 _ rfl)
    have hok := hn 2 _ rfl
    have hoN := le_of (hn 3 _ rfl)
    have hN := le_of (hn 4 _ rfl)
    clear h hb
    obtain ⟨k, rfl, hk⟩ := nat_of hw1
    have e := k36_eq nl a N f (k : Int)
    have e1 : IntKind.wrap .i64 ((N : Int) - (a : Int)) = ((N - a : Nat) : Int) := by
      have := wrap_i64 (i := N - a) (by omega)
      rw [show (N : Int) - (a : Int) = ((N - a : Nat) : Int) by omega, this]
    have e2 : IntKind.wrap .i64 ((a : Int) + (k : Int)) = ((a + k : Nat) : Int) := by
      have := wrap_i64 (i := a + k) (by omega)
      rw [show (a : Int) + (k : Int) = ((a + k : Nat) : Int) by omega, this]
    rw [e1, e2] at e
    simp only [Int.toNat_natCast, Nat.zero_add, Nat.add_sub_cancel_left] at e hb2
    rw [decide_eq_false (show ¬ (k : Int) < 1 by omega), decide_eq_false (show ¬ (k : Int) > 8 by omega), decide_eq_false (show ¬ (k : Int) < 0 by omega), okB0] at e
    simp only [T.run] at hb2
    by_cases hf : N < a + k
    · rw [blt_t hf] at hb2
      simp only [cond_true, Option.some.injEq] at hb2; subst hb2
      rw [decide_eq_true (show (k : Int) > ((N - a : Nat) : Int) by omega)] at e
      exact ⟨1000, .keep, [pRR], k36_p, _, _, Seen.refl _, e, Seen.mk' (SeenVs.refl _) (.cons (SeenO.cells (.cons (SeenV.refl _) (.cons SeenV.bad (SeenVs.refl _)))) (SeenOs.refl _))⟩
    · rw [blt_f hf] at hb2
      simp only [cond_false, Option.some.injEq] at hb2; subst hb2
      rw [decide_eq_false (show ¬ (k : Int) > ((N - a : Nat) : Int) by omega), ble_t (show a ≤ a + k by omega), ble_t (show a + k ≤ N by omega), decide_eq_true (show 0 ≤ ((a + k : Nat) : Int) by omega), hok, ble_t (show k ≤ 8 by omega)] at e
      exact ⟨1000, .keep, [pRR], k36_p, _, _, Seen.refl _, e, Seen.refl _⟩
theorem q3 : Bm.Good Try.prog F3 := (q2.addI q2 (by kernel_rfl) t32).addI q2 (by kernel_rfl) t36
end Go.Proofs.Ytjbjjikdihghmaa.entry
