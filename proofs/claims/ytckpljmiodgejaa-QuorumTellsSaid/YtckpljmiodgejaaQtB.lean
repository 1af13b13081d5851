/- Sets of nodes: what the loops and the functions come to. No condition. -/
import Derived.Test.YtckpljmiodgejaaQtM
import Derived.KernelRfl
set_option linter.unusedSimpArgs false
set_option linter.unusedVariables false
set_option maxRecDepth 20000
namespace Go.Proofs.Ytckpljmiodgejaa.quorumTells
open Go Go.RowKit Go.Proofs.Ytckpljmiodgejaa.Bm
theorem f44_inv  {c : CS} {r : CS} (h : (f44  c).run = some r) : ∃ x, c = a44 x ∧ (f44B  x).run = some r := by
  unfold f44 at h
  split at h
  · rename_i x
    obtain ⟨hc, hb⟩ := chkT_run h
    exact ⟨x, rfl, hb⟩
  · cases h
theorem f26_inv  {c : CS} {r : CS} (h : (f26  c).run = some r) : ∃ s nd, c = a26 s nd ∧ (f26B  s nd).run = some r := by
  unfold f26 at h
  split at h
  · rename_i s nd
    obtain ⟨hc, hb⟩ := chkT_run h
    exact ⟨s, nd, rfl, hb⟩
  · cases h
theorem r24_inv  {c : CS} {r : Nat × CS} (h : (r24  c).run = some r) : ∃ s nd, c = c24 s nd 0 ∧ (r24B  s nd).run = some r := by
  unfold r24 at h
  split at h
  · rename_i s nd z_1
    obtain ⟨hc, hb⟩ := chkT_run h
    have h0 := hc 0 _ rfl
    have h0 := of_decide_eq_true h0; subst h0
    exact ⟨s, nd, rfl, hb⟩
  · cases h
theorem r25_inv  {c : CS} {r : Nat × CS} (h : (r25  c).run = some r) : ∃ s g, c = c25 s true 0 g 0 ∧ (r25B  s g).run = some r := by
  unfold r25 at h
  split at h
  · rename_i s z_1 z_2 z_3 z_4 sh_5 z_6 g
    obtain ⟨hc, hb⟩ := chkT_run h
    have h0 := hc 0 _ rfl
    have h0 := of_decide_eq_true h0; subst h0
    have h1 := hc 1 _ rfl
    have h1 := of_decide_eq_true h1; subst h1
    have h2 := hc 2 _ rfl
    have h2 := of_decide_eq_true h2; subst h2
    have h3 := hc 3 _ rfl
    have h3 := of_decide_eq_true h3; subst h3
    have h4 := hc 4 _ rfl
    have h4 := (shBeq_eq h4).symm; subst h4
    have h5 := hc 5 _ rfl
    have h5 := of_decide_eq_true h5; subst h5
    exact ⟨s, g, rfl, hb⟩
  · cases h
theorem r28_inv  {c : CS} {r : Nat × CS} (h : (r28  c).run = some r) : ∃ s g, c = c28 s true 0 g 0 ∧ (r28B  s g).run = some r := by
  unfold r28 at h
  split at h
  · rename_i s z_1 z_2 z_3 z_4 sh_5 z_6 g
    obtain ⟨hc, hb⟩ := chkT_run h
    have h0 := hc 0 _ rfl
    have h0 := of_decide_eq_true h0; subst h0
    have h1 := hc 1 _ rfl
    have h1 := of_decide_eq_true h1; subst h1
    have h2 := hc 2 _ rfl
    have h2 := of_decide_eq_true h2; subst h2
    have h3 := hc 3 _ rfl
    have h3 := of_decide_eq_true h3; subst h3
    have h4 := hc 4 _ rfl
    have h4 := (shBeq_eq h4).symm; subst h4
    have h5 := hc 5 _ rfl
    have h5 := of_decide_eq_true h5; subst h5
    exact ⟨s, g, rfl, hb⟩
  · cases h
theorem fm_inv  {c : CS} {r : CS} (h : (fm  c).run = some r) : ∃ s, c = am s ∧ (fmB  s).run = some r := by
  unfold fm at h
  split at h
  · rename_i s
    obtain ⟨hc, hb⟩ := chkT_run h
    exact ⟨s, rfl, hb⟩
  · cases h
theorem r27_inv  {c : CS} {r : Nat × CS} (h : (r27  c).run = some r) : ∃ al f bl n g, c = c27 al f bl n g 0 ∧ (r27B  al f bl n g).run = some r := by
  unfold r27 at h
  split at h
  · rename_i al n z_1 bl z_2 z_3 z_4 z_5 sh_6 z_7 f sh_8 z_9 g
    obtain ⟨hc, hb⟩ := chkT_run h
    have h0 := hc 0 _ rfl
    have h0 := of_decide_eq_true h0; subst h0
    have h1 := hc 1 _ rfl
    have h1 := of_decide_eq_true h1; subst h1
    have h2 := hc 2 _ rfl
    have h2 := of_decide_eq_true h2; subst h2
    have h3 := hc 3 _ rfl
    have h3 := of_decide_eq_true h3; subst h3
    have h4 := hc 4 _ rfl
    have h4 := of_decide_eq_true h4; subst h4
    have h5 := hc 5 _ rfl
    have h5 := (shBeq_eq h5).symm; subst h5
    have h6 := hc 6 _ rfl
    have h6 := of_decide_eq_true h6; subst h6
    have h7 := hc 7 _ rfl
    have h7 := (shBeq_eq h7).symm; subst h7
    have h8 := hc 8 _ rfl
    have h8 := of_decide_eq_true h8; subst h8
    exact ⟨al, f, bl, n, g, rfl, hb⟩
  · cases h
theorem f27_inv  {c : CS} {r : CS} (h : (f27  c).run = some r) : ∃ al f bl n g, c = a27 al f bl n g ∧ (f27B  al f bl n g).run = some r := by
  unfold f27 at h
  split at h
  · rename_i al n z_1 bl z_2 z_3 sh_4 z_5 f sh_6 z_7 g
    obtain ⟨hc, hb⟩ := chkT_run h
    have h0 := hc 0 _ rfl
    have h0 := of_decide_eq_true h0; subst h0
    have h1 := hc 1 _ rfl
    have h1 := of_decide_eq_true h1; subst h1
    have h2 := hc 2 _ rfl
    have h2 := of_decide_eq_true h2; subst h2
    have h3 := hc 3 _ rfl
    have h3 := (shBeq_eq h3).symm; subst h3
    have h4 := hc 4 _ rfl
    have h4 := of_decide_eq_true h4; subst h4
    have h5 := hc 5 _ rfl
    have h5 := (shBeq_eq h5).symm; subst h5
    have h6 := hc 6 _ rfl
    have h6 := of_decide_eq_true h6; subst h6
    exact ⟨al, f, bl, n, g, rfl, hb⟩
  · cases h
theorem r31_inv  {c : CS} {r : Nat × CS} (h : (r31  c).run = some r) : ∃ s nl n g, c = c31 s 0 nl n g 0 ∧ (r31B  s nl n g).run = some r := by
  unfold r31 at h
  split at h
  · rename_i s z_1 nl n z_2 z_3 sh_4 z_5 g
    obtain ⟨hc, hb⟩ := chkT_run h
    have h0 := hc 0 _ rfl
    have h0 := of_decide_eq_true h0; subst h0
    have h1 := hc 1 _ rfl
    have h1 := of_decide_eq_true h1; subst h1
    have h2 := hc 2 _ rfl
    have h2 := of_decide_eq_true h2; subst h2
    have h3 := hc 3 _ rfl
    have h3 := (shBeq_eq h3).symm; subst h3
    have h4 := hc 4 _ rfl
    have h4 := of_decide_eq_true h4; subst h4
    exact ⟨s, nl, n, g, rfl, hb⟩
  · cases h
theorem f31_inv  {c : CS} {r : CS} (h : (f31  c).run = some r) : ∃ s q, c = a31 s q ∧ (f31B  s q).run = some r := by
  unfold f31 at h
  split at h
  · rename_i s q
    obtain ⟨hc, hb⟩ := chkT_run h
    exact ⟨s, q, rfl, hb⟩
  · cases h
theorem r23_inv  {c : CS} {r : Nat × CS} (h : (r23  c).run = some r) : ∃ w nl n f, c = c23 w nl n f 0 ∧ (r23B  w nl n f).run = some r := by
  unfold r23 at h
  split at h
  · rename_i w nl n z_1 z_2 z_3 sh_4 z_5 f
    obtain ⟨hc, hb⟩ := chkT_run h
    have h0 := hc 0 _ rfl
    have h0 := of_decide_eq_true h0; subst h0
    have h1 := hc 1 _ rfl
    have h1 := of_decide_eq_true h1; subst h1
    have h2 := hc 2 _ rfl
    have h2 := of_decide_eq_true h2; subst h2
    have h3 := hc 3 _ rfl
    have h3 := (shBeq_eq h3).symm; subst h3
    have h4 := hc 4 _ rfl
    have h4 := of_decide_eq_true h4; subst h4
    exact ⟨w, nl, n, f, rfl, hb⟩
  · cases h
theorem f23_inv  {c : CS} {r : CS} (h : (f23  c).run = some r) : ∃ w nl n f, c = a23 w nl n f ∧ (f23B  w nl n f).run = some r := by
  unfold f23 at h
  split at h
  · rename_i w nl n z_1 sh_2 z_3 f
    obtain ⟨hc, hb⟩ := chkT_run h
    have h0 := hc 0 _ rfl
    have h0 := of_decide_eq_true h0; subst h0
    have h1 := hc 1 _ rfl
    have h1 := (shBeq_eq h1).symm; subst h1
    have h2 := hc 2 _ rfl
    have h2 := of_decide_eq_true h2; subst h2
    exact ⟨w, nl, n, f, rfl, hb⟩
  · cases h
theorem r52_inv  {c : CS} {r : Nat × CS} (h : (r52  c).run = some r) : ∃ s q nd nl n f w i b, c = c52 s q nd nl n f w i b 0 ∧ (r52B  s q nd nl n f w i b).run = some r := by
  unfold r52 at h
  split at h
  · rename_i s q nd nl n z_1 w i b z_2 z_3 z_4 z_5 z_6 z_7 sh_8 z_9 f
    obtain ⟨hc, hb⟩ := chkT_run h
    have h0 := hc 0 _ rfl
    have h0 := of_decide_eq_true h0; subst h0
    have h1 := hc 1 _ rfl
    have h1 := of_decide_eq_true h1; subst h1
    have h2 := hc 2 _ rfl
    have h2 := of_decide_eq_true h2; subst h2
    have h3 := hc 3 _ rfl
    have h3 := of_decide_eq_true h3; subst h3
    have h4 := hc 4 _ rfl
    have h4 := of_decide_eq_true h4; subst h4
    have h5 := hc 5 _ rfl
    have h5 := of_decide_eq_true h5; subst h5
    have h6 := hc 6 _ rfl
    have h6 := of_decide_eq_true h6; subst h6
    have h7 := hc 7 _ rfl
    have h7 := (shBeq_eq h7).symm; subst h7
    have h8 := hc 8 _ rfl
    have h8 := of_decide_eq_true h8; subst h8
    exact ⟨s, q, nd, nl, n, f, w, i, b, rfl, hb⟩
  · cases h
theorem r5_inv  {c : CS} {r : Nat × CS} (h : (r5  c).run = some r) : ∃ s q nd nl n f w, c = c5 s q nd nl n f w 0 ∧ (r5B  s q nd nl n f w).run = some r := by
  unfold r5 at h
  split at h
  · rename_i s q nd nl n z_1 w z_2 sh_3 z_4 f
    obtain ⟨hc, hb⟩ := chkT_run h
    have h0 := hc 0 _ rfl
    have h0 := of_decide_eq_true h0; subst h0
    have h1 := hc 1 _ rfl
    have h1 := of_decide_eq_true h1; subst h1
    have h2 := hc 2 _ rfl
    have h2 := (shBeq_eq h2).symm; subst h2
    have h3 := hc 3 _ rfl
    have h3 := of_decide_eq_true h3; subst h3
    exact ⟨s, q, nd, nl, n, f, w, rfl, hb⟩
  · cases h
theorem q0 : Bm.Good Try.prog E0 := good0 (by kernel_rfl) (by kernel_rfl) (by kernel_rfl)
theorem q0r : Bm.Good Try.prog { E0 with tyd := fun _ => false, bits := bitsR } := q0.bits
theorem q1 : Bm.Good Try.prog E1 := by
  have h : E1 = { E0 with tyd := fun _ => false, bits := bitsR } := by unfold E1; rw [bitsV_eq]
  rw [h]; exact q0.bits
theorem bits1 : Env.bits E1 = bitsR := bitsV_eq
theorem bits7 : Env.bits E7 = bitsR := bitsV_eq
theorem bits8 : Env.bits E8 = bitsR := bitsV_eq
/-! ### OnesCount64, Has -/
theorem j44 (c c' : CS) (h : (f44 c).run = some c') : ∃ m pr ros π, callC E1 m 44 0 pr ros π c = some c' := by
  obtain ⟨x, rfl, hb⟩ := f44_inv h
  obtain ⟨hn, hb2⟩ := chkT_run hb
  obtain ⟨n, rfl, hx⟩ := rng_of (hn 0 _ rfl)
  obtain ⟨b1, b2, b3, b4, b5, b6, b7, b8⟩ := steps n hx
  have e := k44_eq (n : Int)
  rw [bits1, s1 hx b1, s2 b1 b2, s4 b3, s8 b5, s16 b6, s32 (Nat.lt_trans b7 (by decide)), s7 b7, b8] at e
  refine ⟨1000, .keep, [], k44_p, e.trans ?_⟩
  rw [← hb2, popV_eq]
  rfl
theorem has_bit {n k : Nat} (hn : n < 18446744073709551616) (hk : k < 64) : (bitsR .and .u64 (Int.fdiv (n : Int) (2 ^ min (Int.toNat (k : Int)) (IntKind.bits .u64))) 1 == 1) = hasF n k := by
  have e : (2 : Int) ^ min (Int.toNat (k : Int)) (IntKind.bits .u64) = ((2 ^ k : Nat) : Int) := by
    rw [Int.toNat_natCast, Nat.min_eq_left (show k ≤ IntKind.bits .u64 from by show k ≤ 64; omega), Int.natCast_pow]; rfl
  have c1 : (1 : Int) = ((1 : Nat) : Int) := rfl
  rw [e, fdiv_nat, hasF_nat hk, testBit_div]
  have hlt : n / 2 ^ k < 18446744073709551616 := Nat.lt_of_le_of_lt (Nat.div_le_self _ _) hn
  rw [show bitsR .and .u64 ((n / 2 ^ k : Nat) : Int) 1 = ((n / 2 ^ k &&& 1 : Nat) : Int) from band hlt (by decide), Nat.and_one_is_mod]
  rw [Bool.eq_iff_iff, beq_iff_eq, decide_eq_true_eq]
  omega
theorem j26 (c c' : CS) (h : (f26 c).run = some c') : ∃ m pr ros π, callC E1 m 26 0 pr ros π c = some c' := by
  obtain ⟨s, nd, rfl, hb⟩ := f26_inv h
  obtain ⟨hn, hb2⟩ := chkT_run hb
  obtain ⟨n, rfl, hx⟩ := rng_of (hn 0 _ rfl)
  have e := k26_eq (n : Int) nd
  refine ⟨1000, .keep, [], k26_p, e.trans ?_⟩
  rw [← hb2, hasV_eq, bits1]
  by_cases h0 : nd < 0
  · rw [decide_eq_false (show ¬ nd ≥ 0 by omega), hasF_out (.inl h0)]; rfl
  · obtain ⟨k, rfl⟩ := Int.eq_ofNat_of_zero_le (show 0 ≤ nd by omega)
    by_cases h1 : k < 64
    · rw [decide_eq_true (show (k : Int) ≥ 0 by omega), decide_eq_true (show (k : Int) < 64 by omega), decide_eq_false h0, has_bit hx h1]; rfl
    · rw [decide_eq_true (show (k : Int) ≥ 0 by omega), decide_eq_false (show ¬ (k : Int) < 64 by omega), hasF_out (.inr (by omega))]; rfl
theorem q2a : Bm.Good Try.prog E1b := (q1.addR q1 (by kernel_rfl) j44).addR q1 (by kernel_rfl) j26
theorem i24 (c : CS) (r : Nat × CS) (h : (r24 c).run = some r) : Loops (stepC E1b 300 (loopC E1b 24 0) 0 h24 ((.normal, h24) :: x24) s24_p) c r.1 r.2 := by
  obtain ⟨s, nd, rfl, hb⟩ := r24_inv h
  obtain ⟨hn, hb2⟩ := chkT_run hb
  obtain ⟨n, rfl, hx⟩ := rng_of (hn 0 _ rfl)
  obtain ⟨k, rfl⟩ := Int.eq_ofNat_of_zero_le (not_lt (hn 1 _ rfl))
  have hk := not_gt (hn 2 _ rfl)
  simp only [T.run, Option.some.injEq] at hb2; subst hb2
  refine .see (c1 := c24 ((n / 2 ^ 0 : Nat) : Int) k 0) (by rw [Nat.pow_zero, Nat.div_one]; exact Seen.refl _) ?_
  refine Loops.for (C := fun i => c24 ((n / 2 ^ i : Nat) : Int) k i) (n := k) (fun i hi => ?_) ?_
  · have e := s24_eq ((n / 2 ^ i : Nat) : Int) k i
    have w2 : IntKind.wrap .u64 (Int.tdiv ((n / 2 ^ i : Nat) : Int) 2) = ((n / 2 ^ (i + 1) : Nat) : Int) := by
      have : Int.tdiv ((n / 2 ^ i : Nat) : Int) 2 = ((n / 2 ^ i / 2 : Nat) : Int) := by rw [Int.tdiv_eq_ediv_of_nonneg (Int.natCast_nonneg _)]; rfl
      rw [this, Nat.div_div_eq_div_mul, ← Nat.pow_succ]
      exact wrapu (Nat.lt_of_le_of_lt (Nat.div_le_self _ _) hx)
    rw [decide_eq_true (show (i : Int) < (k : Int) by omega), w2, wrap_i64s (by omega)] at e
    exact ⟨_, e, Seen.refl _⟩
  · have e := s24_eq ((n / 2 ^ k : Nat) : Int) k k
    rw [lt0] at e
    refine ⟨_, e, Seen.of_eq ?_⟩
    rw [divV_eq]
    have : divF (n : Int) k = ((n / 2 ^ k : Nat) : Int) := by unfold divF; rw [Int.toNat_natCast]; simp
    rw [this]
theorem q2 : Bm.Good Try.prog E2 := q2a.addS (by kernel_rfl) rfl (by decide) (by decide) rfl i24
theorem has_div {n k : Nat} (hk : k < 64) : (Int.tmod (divF (n : Int) k) 2 == 1) = hasF n k := by
  have : divF (n : Int) k = ((n / 2 ^ k : Nat) : Int) := by unfold divF; rw [Int.toNat_natCast]; simp
  rw [this, hasF_nat hk, testBit_div]
  have e : Int.tmod ((n / 2 ^ k : Nat) : Int) 2 = ((n / 2 ^ k % 2 : Nat) : Int) := by rw [Int.tmod_eq_emod_of_nonneg (Int.natCast_nonneg _)]; rfl
  rw [e, Bool.eq_iff_iff, beq_iff_eq, decide_eq_true_eq]
  omega
theorem j24 (c c' : CS) (h : (f26 c).run = some c') : ∃ m pr ros π, callC E2 m 24 0 pr ros π c = some c' := by
  obtain ⟨s, nd, rfl, hb⟩ := f26_inv h
  obtain ⟨hn, hb2⟩ := chkT_run hb
  have hr := hn 0 _ rfl
  obtain ⟨n, rfl, hx⟩ := rng_of hr
  have e := k24_eq (n : Int) nd
  refine ⟨1000, .keep, [], k24_p, e.trans ?_⟩
  rw [← hb2, hasV_eq, hr, divV_eq]
  by_cases h0 : nd < 0
  · rw [decide_eq_true h0, hasF_out (.inl h0)]; rfl
  · obtain ⟨k, rfl⟩ := Int.eq_ofNat_of_zero_le (show 0 ≤ nd by omega)
    by_cases h1 : k < 64
    · rw [decide_eq_false h0, decide_eq_false (show ¬ (k : Int) > 63 by omega), has_div h1]; rfl
    · rw [decide_eq_false h0, decide_eq_true (show (k : Int) > 63 by omega), hasF_out (.inr (by omega))]; rfl
theorem q3 : Bm.Good Try.prog E3 := q2.addR q2 (by kernel_rfl) j24
/-! ### Members -/
def mI (n i : Nat) : List Int := (mems n i).map fun t : Nat => (t : Int)
theorem mI_succ {n i : Nat} (hi : i < 64) : mI n (i + 1) = mI n i ++ cond (hasF (n : Int) (i : Int)) [(i : Int)] [] := by
  rw [hasF_nat hi]
  unfold mI
  rw [mems_succ, List.map_append]
  cases n.testBit i <;> rfl
theorem mI_len (n i : Nat) : (mI n i).length ≤ i := by unfold mI; rw [List.length_map]; exact mems_len n i
theorem mI_cnt (n : Nat) : (mI n 64).length = cntF (n : Int) := by unfold mI cntF; rw [List.length_map, Int.toNat_natCast]
theorem mI_mem (n t : Nat) : (fin .i64 (mI n 64) t 0).toI = (memA (n : Int) t 0).toI := by
  show (mI n 64).getD t 0 = memF (n : Int) t
  unfold memF mI
  rw [Int.toNat_natCast, List.getD_eq_getElem?_getD, List.getElem?_map]
  cases (mems n 64)[t]? <;> rfl
def st25 (n i : Nat) : CS := match mI n i with
  | [] => c25t (n : Int) i
  | x :: l => c25 (n : Int) false (x :: l).length (fin .i64 (x :: l)) i
theorem st25_nn {n i : Nat} {L : List Int} (h : mI n i = L) (hL : L ≠ []) : st25 n i = c25 (n : Int) false L.length (fin .i64 L) i := by
  unfold st25
  rw [h]
  cases L with
  | nil => exact absurd rfl hL
  | cons x l => rfl
theorem st25_n {n i : Nat} (h : mI n i = []) : st25 n i = c25t (n : Int) i := by
  unfold st25
  rw [h]
def pi25 (c : CS) : Plan := match c.ts with
  | [_, .nilSlice, _] => s25t_p
  | _ => s25_p
theorem i25 (c : CS) (r : Nat × CS) (h : (r25 c).run = some r) : Loops (fun c => stepC E3 300 (loopC E3 25 0) 0 h25 ((.normal, h25) :: x25) (pi25 c) c) c r.1 r.2 := by
  obtain ⟨s, g, rfl, hb⟩ := r25_inv h
  obtain ⟨hn, hb2⟩ := chkT_run hb
  have hr := hn 0 _ rfl
  obtain ⟨n, rfl, hx⟩ := rng_of hr
  have hr2 : r = (cond (Nat.beq (cntV (n : Int)) 0) 1 1, cond (Nat.beq (cntV (n : Int)) 0) ⟨[.osl true 0 0 0 0 1 true], [some (.tarr shI 0 (fun _ _ => .bad) true)]⟩ ⟨[.osl false 0 0 (cntV (n : Int)) (cntV (n : Int)) 1 true], [some (.tarr shI (cntV (n : Int)) (memV (n : Int)) true)]⟩) := by
    cases hk : Nat.beq (cntV (n : Int)) 0 <;> rw [hk] at hb2 <;> simpa [T.run] using hb2.symm
  subst hr2
  rw [show (cond (Nat.beq (cntV (n : Int)) 0) 1 1 : Nat) = 0 + 1 by cases Nat.beq (cntV (n : Int)) 0 <;> rfl]
  refine .see (c1 := st25 n 0) (by rw [st25_n rfl]; exact Seen.mk' (.cons (SeenV.refl _) (.cons SeenV.nil (SeenVs.refl _))) (.skip .nil)) ?_
  refine Loops.for (C := st25 n) (n := 64) (fun i hi => ?_) ?_
  · have hs := mI_succ (n := n) hi
    have hl := mI_len n i
    cases hL : mI n i with
    | nil =>
      rw [st25_n hL]
      have e := s25t_eq (n : Int) i
      rw [decide_eq_true (show (i : Int) < 64 by omega), hr, hasV_eq, wrap_i64s (by omega)] at e
      rw [hL] at hs
      cases hh : hasF (n : Int) (i : Int) with
      | true =>
        rw [hh] at e hs
        replace hs : mI n (i + 1) = [(i : Int)] := hs
        refine ⟨_, e, ?_⟩
        rw [st25_nn hs (by simp)]
        exact Seen.mk' (SeenVs.refl _) (.cons (SeenO.ints (L := [(i : Int)]) (Nat.le_refl _) (isL_one rfl)) .nil)
      | false =>
        rw [hh] at e hs
        refine ⟨_, e, ?_⟩
        replace hs : mI n (i + 1) = [] := hs
        rw [st25_n hs]
        exact Seen.mk' (.cons (SeenV.refl _) (.cons SeenV.nil (SeenVs.refl _))) (.skip .nil)
    | cons x l =>
      rw [hL] at hl hs
      have hne : x :: l ≠ [] := by simp
      rw [st25_nn hL hne]
      clear hL
      generalize x :: l = L at hl hs hne ⊢
      have e := s25_eq (n : Int) L.length (fin .i64 L) i
      rw [decide_eq_true (show (i : Int) < 64 by omega), hr, hasV_eq, wrap_i64s (by omega), ble_f (show ¬ L.length + 1 ≤ L.length by omega), growt (by omega), ble_t (show 0 + L.length ≤ L.length by omega)] at e
      cases hh : hasF (n : Int) (i : Int) with
      | true =>
        rw [hh] at e hs
        replace hs : mI n (i + 1) = L ++ [(i : Int)] := hs
        refine ⟨_, e, ?_⟩
        rw [st25_nn hs (by simp)]
        have hlen : (L ++ [(i : Int)]).length = L.length + 1 := by simp
        refine Seen.mk' (.cons (SeenV.refl _) (.cons (SeenV.osl hlen.symm) (SeenVs.refl _))) (.cons (SeenO.ints (by rw [hlen]; exact Nat.le_refl _) (isL_join rfl (fun a ha => ?_) (isL_one rfl))) .nil)
        simp [fin, AV.toI]
      | false =>
        rw [hh] at e hs
        refine ⟨_, e, ?_⟩
        rw [st25_nn (hs.trans (List.append_nil L)) hne]
        exact Seen.refl _
  · have hc := mI_cnt n
    rw [cntV_eq, memV_eq]
    cases hL : mI n 64 with
    | nil =>
      rw [hL] at hc
      rw [← hc, st25_n hL]
      have e := s25t_eq (n : Int) 64
      exact ⟨_, e, Seen.refl _⟩
    | cons x l =>
      rw [hL] at hc
      rw [← hc, st25_nn hL (by simp)]
      have hm := mI_mem n
      rw [hL] at hm
      have e := s25_eq (n : Int) (x :: l).length (fin .i64 (x :: l)) 64
      exact ⟨_, e, Seen.mk' (SeenVs.refl _) (.cons (SeenO.one rfl fun t _ => hm t) .nil)⟩
def st28 (n i : Nat) : CS := match mI n i with
  | [] => c28t (n : Int) i
  | x :: l => c28 (n : Int) false (x :: l).length (fin .i64 (x :: l)) i
theorem st28_nn {n i : Nat} {L : List Int} (h : mI n i = L) (hL : L ≠ []) : st28 n i = c28 (n : Int) false L.length (fin .i64 L) i := by
  unfold st28
  rw [h]
  cases L with
  | nil => exact absurd rfl hL
  | cons x l => rfl
theorem st28_n {n i : Nat} (h : mI n i = []) : st28 n i = c28t (n : Int) i := by
  unfold st28
  rw [h]
def pi28 (c : CS) : Plan := match c.ts with
  | [_, .nilSlice, _] => s28t_p
  | _ => s28_p
theorem i28 (c : CS) (r : Nat × CS) (h : (r28 c).run = some r) : Loops (fun c => stepC E3b 300 (loopC E3b 28 0) 0 h28 ((.normal, h28) :: x28) (pi28 c) c) c r.1 r.2 := by
  obtain ⟨s, g, rfl, hb⟩ := r28_inv h
  obtain ⟨hn, hb2⟩ := chkT_run hb
  have hr := hn 0 _ rfl
  obtain ⟨n, rfl, hx⟩ := rng_of hr
  have hr2 : r = (cond (Nat.beq (cntV (n : Int)) 0) 1 1, cond (Nat.beq (cntV (n : Int)) 0) ⟨[.osl true 0 0 0 0 1 true], [some (.tarr shI 0 (fun _ _ => .bad) true)]⟩ ⟨[.osl false 0 0 (cntV (n : Int)) (cntV (n : Int)) 1 true], [some (.tarr shI (cntV (n : Int)) (memV (n : Int)) true)]⟩) := by
    cases hk : Nat.beq (cntV (n : Int)) 0 <;> rw [hk] at hb2 <;> simpa [T.run] using hb2.symm
  subst hr2
  rw [show (cond (Nat.beq (cntV (n : Int)) 0) 1 1 : Nat) = 0 + 1 by cases Nat.beq (cntV (n : Int)) 0 <;> rfl]
  refine .see (c1 := st28 n 0) (by rw [st28_n rfl]; exact Seen.mk' (.cons (SeenV.refl _) (.cons SeenV.nil (SeenVs.refl _))) (.skip .nil)) ?_
  refine Loops.for (C := st28 n) (n := 64) (fun i hi => ?_) ?_
  · have hs := mI_succ (n := n) hi
    have hl := mI_len n i
    cases hL : mI n i with
    | nil =>
      rw [st28_n hL]
      have e := s28t_eq (n : Int) i
      rw [decide_eq_true (show (i : Int) < 64 by omega), hr, hasV_eq, wrap_i64s (by omega)] at e
      rw [hL] at hs
      cases hh : hasF (n : Int) (i : Int) with
      | true =>
        rw [hh] at e hs
        replace hs : mI n (i + 1) = [(i : Int)] := hs
        refine ⟨_, e, ?_⟩
        rw [st28_nn hs (by simp)]
        exact Seen.mk' (SeenVs.refl _) (.cons (SeenO.ints (L := [(i : Int)]) (Nat.le_refl _) (isL_one rfl)) .nil)
      | false =>
        rw [hh] at e hs
        refine ⟨_, e, ?_⟩
        replace hs : mI n (i + 1) = [] := hs
        rw [st28_n hs]
        exact Seen.mk' (.cons (SeenV.refl _) (.cons SeenV.nil (SeenVs.refl _))) (.skip .nil)
    | cons x l =>
      rw [hL] at hl hs
      have hne : x :: l ≠ [] := by simp
      rw [st28_nn hL hne]
      clear hL
      generalize x :: l = L at hl hs hne ⊢
      have e := s28_eq (n : Int) L.length (fin .i64 L) i
      rw [decide_eq_true (show (i : Int) < 64 by omega), hr, hasV_eq, wrap_i64s (by omega), ble_f (show ¬ L.length + 1 ≤ L.length by omega), growt (by omega), ble_t (show 0 + L.length ≤ L.length by omega)] at e
      cases hh : hasF (n : Int) (i : Int) with
      | true =>
        rw [hh] at e hs
        replace hs : mI n (i + 1) = L ++ [(i : Int)] := hs
        refine ⟨_, e, ?_⟩
        rw [st28_nn hs (by simp)]
        have hlen : (L ++ [(i : Int)]).length = L.length + 1 := by simp
        refine Seen.mk' (.cons (SeenV.refl _) (.cons (SeenV.osl hlen.symm) (SeenVs.refl _))) (.cons (SeenO.ints (by rw [hlen]; exact Nat.le_refl _) (isL_join rfl (fun a ha => ?_) (isL_one rfl))) .nil)
        simp [fin, AV.toI]
      | false =>
        rw [hh] at e hs
        refine ⟨_, e, ?_⟩
        rw [st28_nn (hs.trans (List.append_nil L)) hne]
        exact Seen.refl _
  · have hc := mI_cnt n
    rw [cntV_eq, memV_eq]
    cases hL : mI n 64 with
    | nil =>
      rw [hL] at hc
      rw [← hc, st28_n hL]
      have e := s28t_eq (n : Int) 64
      exact ⟨_, e, Seen.refl _⟩
    | cons x l =>
      rw [hL] at hc
      rw [← hc, st28_nn hL (by simp)]
      have hm := mI_mem n
      rw [hL] at hm
      have e := s28_eq (n : Int) (x :: l).length (fin .i64 (x :: l)) 64
      exact ⟨_, e, Seen.mk' (SeenVs.refl _) (.cons (SeenO.one rfl fun t _ => hm t) .nil)⟩
theorem q3b : Bm.Good Try.prog E3b := q3.addS (by kernel_rfl) rfl (by decide) (by decide) rfl i25
theorem q4 : Bm.Good Try.prog E4 := q3b.addS (by kernel_rfl) rfl (by decide) (by decide) rfl i28

theorem jm {k : Nat} {π : Plan} (hk : ∀ s, callC E4 1000 k 0 (.asl shI) [] π (am s) = cond (rngV s) (cond (Nat.beq (cntV s) 0) (some (CS.mk [.osl true 0 0 0 0 1 true] [some (.tarr [.int .i64] 0 (fun _ _ => .bad) true)])) (some (CS.mk [.osl false 0 0 (cntV s) (cntV s) 1 true] [some (.tarr [.int .i64] (cntV s) (memV s) true)]))) none) (c c' : CS) (h : (fm c).run = some c') : CallC Try.prog k 0 c c' := by
  obtain ⟨s, rfl, hb⟩ := fm_inv h
  obtain ⟨hn, hb2⟩ := chkT_run hb
  have e := hk s
  rw [hn 0 _ rfl] at e
  cases hz : Nat.beq (cntV s) 0 with
  | true =>
    rw [hz] at e hb2
    simp only [T.run, cond_true, Option.some.injEq] at hb2; subst hb2
    exact q4.callC (Seen.refl _) e (Seen.mk' (.cons SeenV.nil .nil) (.skip .nil))
  | false =>
    rw [hz] at e hb2
    simp only [T.run, cond_false, Option.some.injEq] at hb2; subst hb2
    exact q4.callC (Seen.refl _) e (Seen.refl _)
theorem q5 : Bm.Good Try.prog E5 := (q4.addN (by kernel_rfl) (jm k25_eq)).addN (by kernel_rfl) (jm k28_eq)
/-! ### The same numbers -/
theorem i27 (c : CS) (r : Nat × CS) (h : (r27 c).run = some r) : ∃ it, iterC (stepC E5 300 (loopC E5 27 0) 0 h27 ((.normal, h27) :: x27) s27_p) it c = some r := by
  obtain ⟨al, f, bl, n, g, rfl, hb⟩ := r27_inv h
  obtain ⟨hn, hb2⟩ := chkT_run hb
  have hn := le_of (hn 0 _ rfl)
  have hr : r = cond (eqF f g n) (1, ⟨[], []⟩) (2, ⟨[.bool false], []⟩) := by
    rw [eqV_eq] at hb2
    cases hk : eqF f g n <;> rw [hk] at hb2 <;> simpa [T.run] using hb2.symm
  subst hr
  refine iter_scan (C := fun i => c27 al f bl n g i) (q := fun i => (f i 0).toI == (g i 0).toI) (by simp) (by simp) (fun i hi => ?_) ?_
  · have e := s27_eq al f bl n g i
    rw [lt1 hi, ix_, blt_t hi, wrap_i64s (by omega)] at e
    refine Eq.trans e ?_
    simp only [bne]
    cases ((f i 0).toI == (g i 0).toI) <;> rfl
  · have e := s27_eq al f bl n g n
    rw [lt0] at e
    exact e
theorem q6 : Bm.Good Try.prog E6 := q5.addL (by kernel_rfl) rfl (by decide) (by decide) rfl i27
theorem j27 (c c' : CS) (h : (f27 c).run = some c') : ∃ m pr ros π, callC E6 m 27 0 pr ros π c = some c' := by
  obtain ⟨al, f, bl, n, g, rfl, hb⟩ := f27_inv h
  obtain ⟨hn, hb2⟩ := chkT_run hb
  have e := k27_eq al f bl n g
  rw [hn 0 _ rfl, show ((n : Int) != (n : Int)) = false from bne_self_eq_false' ..] at e
  refine ⟨1000, .keep, [], k27_p, e.trans ?_⟩
  rw [← hb2]
  cases eqV f g n <;> rfl
/-! ### ref.Majority -/
theorem i31 (c : CS) (r : Nat × CS) (h : (r31 c).run = some r) : Loops (stepC E6b 300 (loopC E6b 31 0) 0 h31 ((.normal, h31) :: x31) s31_p) c r.1 r.2 := by
  obtain ⟨s, nl, n, g, rfl, hb⟩ := r31_inv h
  obtain ⟨hn, hb2⟩ := chkT_run hb
  have hr := hn 0 _ rfl
  have hn := le_of (hn 1 _ rfl)
  simp only [T.run, Option.some.injEq] at hb2; subst hb2
  refine Loops.for (C := fun i => c31 s (ctF s g i) nl n g i) (n := n) (fun i hi => ?_) ?_
  · have e := s31_eq s (ctF s g i) nl n g i
    have hc := ctF_le s g i
    rw [lt1 hi, ix_, blt_t hi, hr, hasV_eq, wrap_i64s (show i < 999999999 by omega), wrap_i64s (show ctF s g i < 999999999 by omega)] at e
    rw [ctF_succ]
    cases hh : hasF s (g i 0).toI with
    | true => rw [hh] at e; exact ⟨_, e, Seen.refl _⟩
    | false => rw [hh] at e; exact ⟨_, e, Seen.refl _⟩
  · have e := s31_eq s (ctF s g n) nl n g n
    rw [lt0] at e
    rw [ctV_eq]
    exact ⟨_, e, Seen.refl _⟩
theorem q6b : Bm.Good Try.prog E6b := q6.addR q6 (by kernel_rfl) j27
theorem q7 : Bm.Good Try.prog E7 := q6b.addS (by kernel_rfl) rfl (by decide) (by decide) rfl i31
theorem wrap2 {m : Nat} (h : m < 1000000) : IntKind.wrap .i64 (2 * (m : Int)) = ((2 * m : Nat) : Int) := by
  have := wrapi (m := 2 * m) (by omega)
  simpa using this
theorem j31 (c c' : CS) (h : (f31 c).run = some c') : ∃ m pr ros π, callC E7 m 31 0 pr ros π c = some c' := by
  obtain ⟨s, q, rfl, hb⟩ := f31_inv h
  obtain ⟨hn, hb2⟩ := chkT_run hb
  have h1 := hn 0 _ rfl
  have h2 := hn 1 _ rfl
  obtain ⟨a, rfl, ha⟩ := rng_of h1
  obtain ⟨b, rfl, hbb⟩ := rng_of h2
  have hcnt : cntF (b : Int) = popN 64 b := by unfold cntF; rw [Int.toNat_natCast, mems_pop]
  have h64 := popN_le 64 b
  have e := k31_eq (a : Int) (b : Int)
  rw [h1, h2, cntV_eq, ctV_eq, memV_eq] at e
  refine ⟨1000, .keep, [], k31_p, e.trans ?_⟩
  rw [← hb2, majV_eq]
  have hle := popN_and_le 64 a b
  by_cases hz : cntF (b : Int) = 0
  · rw [hz]
    have hm : majF (a : Int) (b : Int) = false := by
      unfold majF
      rw [Int.toNat_natCast, Int.toNat_natCast]
      exact decide_eq_false (by omega)
    rw [hm]; rfl
  · rw [show Nat.beq (cntF (b : Int)) 0 = false from by rw [Bool.eq_false_iff]; intro h; exact hz (Nat.eq_of_beq_eq_true h), ble_t (show cntF (b : Int) ≤ 1000 by omega), ct_mem, wrap2 (m := popN 64 (a &&& b)) (by omega), hcnt]
    unfold majF
    rw [Int.toNat_natCast, Int.toNat_natCast]
    have : decide (((2 * popN 64 (a &&& b) : Nat) : Int) > ((popN 64 b : Nat) : Int)) = decide (2 * popN 64 (a &&& b) > popN 64 b) := by
      rw [decide_eq_decide]; omega
    rw [this]; rfl
theorem j30 (c c' : CS) (h : (f31 c).run = some c') : ∃ m pr ros π, callC E7 m 30 0 pr ros π c = some c' := by
  obtain ⟨s, q, rfl, hb⟩ := f31_inv h
  obtain ⟨hn, hb2⟩ := chkT_run hb
  have h1 := hn 0 _ rfl
  have h2 := hn 1 _ rfl
  obtain ⟨a, rfl, ha⟩ := rng_of h1
  obtain ⟨b, rfl, hbb⟩ := rng_of h2
  have e := k30_eq (a : Int) (b : Int)
  have hle := popN_and_le 64 a b
  have h64 := popN_le 64 b
  rw [bits7, band ha hbb, rng_nat (and_lt ha), h2, popV_eq] at e
  refine ⟨1000, .keep, [], k30_p, e.trans ?_⟩
  rw [← hb2, majV_eq]
  have p1 : popF ((a &&& b : Nat) : Int) = popN 64 (a &&& b) := by unfold popF; rw [Int.toNat_natCast]
  have p2 : popF (b : Int) = popN 64 b := by unfold popF; rw [Int.toNat_natCast]
  rw [p1, p2, wrap2 (m := popN 64 (a &&& b)) (by omega)]
  unfold majF
  rw [Int.toNat_natCast, Int.toNat_natCast]
  have : decide (((2 * popN 64 (a &&& b) : Nat) : Int) > ((popN 64 b : Nat) : Int)) = decide (2 * popN 64 (a &&& b) > popN 64 b) := by
    rw [decide_eq_decide]; omega
  rw [this]; rfl
theorem q8 : Bm.Good Try.prog E8 := (q7.addR q7 (by kernel_rfl) j31).addR q7 (by kernel_rfl) j30
/-! ### With -/
theorem i23 (c : CS) (r : Nat × CS) (h : (r23 c).run = some r) : Loops (stepC E8 300 (loopC E8 23 0) 0 h23 ((.normal, h23) :: x23) s23_p) c r.1 r.2 := by
  obtain ⟨w, nl, n, f, rfl, hb⟩ := r23_inv h
  obtain ⟨hn, hb2⟩ := chkT_run hb
  obtain ⟨m, rfl, hm⟩ := rng_of (hn 0 _ rfl)
  have hn := le_of (hn 1 _ rfl)
  simp only [T.run, Option.some.injEq] at hb2; subst hb2
  refine Loops.for (C := fun i => c23 ((withN m (fun t => (f t 0).toI) i : Nat) : Int) nl n f i) (n := n) (fun i hi => ?_) ?_
  · have hlt := withN_lt (fun t => (f t 0).toI) hm i
    have e := s23_eq ((withN m (fun t => (f t 0).toI) i : Nat) : Int) nl n f i
    rw [lt1 hi, ix_, blt_t hi, wrap_i64s (by omega), bits8] at e
    have hw : withN m (fun t => (f t 0).toI) (i + 1) = addN (withN m (fun t => (f t 0).toI) i) (f i 0).toI := rfl
    rw [hw]
    generalize withN m (fun t => (f t 0).toI) i = z at e hlt ⊢
    generalize hx : (f i 0).toI = x at e ⊢
    by_cases h0 : x < 0
    · have ha : addN z x = z := by unfold addN; rw [if_neg (by omega)]
      rw [ha]
      rw [decide_eq_false (show ¬ x ≥ 0 by omega)] at e
      exact ⟨_, e, Seen.refl _⟩
    · obtain ⟨k, rfl⟩ := Int.eq_ofNat_of_zero_le (show 0 ≤ x by omega)
      by_cases h1 : k < 64
      · have ha : addN z (k : Int) = z ||| 2 ^ k := by unfold addN; rw [if_pos (by omega), Int.toNat_natCast]
        rw [ha]
        rw [decide_eq_true (show (k : Int) ≥ 0 by omega), decide_eq_true (show (k : Int) < 64 by omega), decide_eq_false h0, (more_is hlt h1).1] at e
        exact ⟨_, e, Seen.refl _⟩
      · have ha : addN z (k : Int) = z := by unfold addN; rw [if_neg (by omega)]
        rw [ha]
        rw [decide_eq_true (show (k : Int) ≥ 0 by omega), decide_eq_false (show ¬ (k : Int) < 64 by omega)] at e
        exact ⟨_, e, Seen.refl _⟩
  · have e := s23_eq ((withN m (fun t => (f t 0).toI) n : Nat) : Int) nl n f n
    rw [lt0] at e
    refine ⟨_, e, Seen.of_eq ?_⟩
    rw [withV_eq]
    unfold withF
    rw [Int.toNat_natCast]
theorem q9 : Bm.Good Try.prog E9 := q8.addS (by kernel_rfl) rfl (by decide) (by decide) rfl i23
theorem j23 (c c' : CS) (h : (f23 c).run = some c') : ∃ m pr ros π, callC E9 m 23 0 pr ros π c = some c' := by
  obtain ⟨w, nl, n, f, rfl, hb⟩ := f23_inv h
  obtain ⟨hn, hb2⟩ := chkT_run hb
  have e := k23_eq w nl n f
  rw [hn 0 _ rfl, hn 1 _ rfl] at e
  exact ⟨1000, .keep, [], k23_p, e.trans hb2⟩
theorem qA : Bm.Good Try.prog EA := q9.addR q9 (by kernel_rfl) j23
/-! ### The law's loops -/
theorem i52 (c : CS) (r : Nat × CS) (h : (r52 c).run = some r) : Loops (stepC EA 300 (loopC EA 5 2) 0 h52 ((.normal, h52) :: x52) s52_p) c r.1 r.2 := by
  obtain ⟨s, q, nd, nl, n, f, w, i, b, rfl, hb⟩ := r52_inv h
  obtain ⟨hn, hb2⟩ := chkT_run hb
  obtain ⟨t, rfl⟩ := Int.eq_ofNat_of_zero_le (not_lt (hn 1 _ rfl))
  have hn := le_of (hn 0 _ rfl)
  simp only [T.run, Option.some.injEq] at hb2; subst hb2
  refine .see (c1 := c52 s q nd nl n f w t (b || anyN (fun z => (f z 0).toI) t 0) (0 : Nat)) (by simp only [anyN, Bool.or_false]; exact Seen.refl _) ?_
  refine Loops.for (C := fun j => c52 s q nd nl n f w t (b || anyN (fun z => (f z 0).toI) t j) j) (n := n) (fun j hj => ?_) ?_
  · have e := s52_eq s q nd nl n f w t (b || anyN (fun z => (f z 0).toI) t j) j
    rw [lt1 hj, ix_, blt_t hj, wrap_i64s (by omega)] at e
    have ha : (b || anyN (fun z => (f z 0).toI) t (j + 1)) = ((b || anyN (fun z => (f z 0).toI) t j) || ((f j 0).toI == (t : Int))) := by
      rw [Bool.or_assoc]; rfl
    rw [ha]
    generalize (b || anyN (fun z => (f z 0).toI) t j) = y at e ⊢
    cases y with
    | true => exact ⟨_, e, Seen.refl _⟩
    | false => exact ⟨_, e, Seen.refl _⟩
  · have e := s52_eq s q nd nl n f w t (b || anyN (fun z => (f z 0).toI) t n) n
    rw [lt0] at e
    refine ⟨_, e, Seen.of_eq ?_⟩
    rw [anyV_eq]
    unfold anyF
    rw [Int.toNat_natCast]
theorem qB : Bm.Good Try.prog EB := qA.addS (by kernel_rfl) rfl (by decide) (by decide) rfl i52
theorem i5 (c : CS) (r : Nat × CS) (h : (r5 c).run = some r) : Loops (stepC EB 300 (loopC EB 5 0) 0 h5 ((.normal, h5) :: x5) s5_p) c r.1 r.2 := by
  obtain ⟨s, q, nd, nl, n, f, w, rfl, hb⟩ := r5_inv h
  obtain ⟨hn, hb2⟩ := chkT_run hb
  have hr := hn 0 _ rfl
  have hw := of_decide_eq_true (hn 2 _ rfl)
  obtain ⟨m, rfl, hm⟩ := rng_of hr
  have hn1 := le_of (hn 1 _ rfl)
  subst hw
  simp only [T.run, Option.some.injEq] at hb2; subst hb2
  have hwn : withV (m : Int) f n = ((withN m (fun t => (f t 0).toI) n : Nat) : Int) := by
    rw [withV_eq]; unfold withF; rw [Int.toNat_natCast]
  rw [hwn]
  have hlt := withN_lt (fun t => (f t 0).toI) hm n
  refine Loops.for (C := fun i => c5 (m : Int) q nd nl n f ((withN m (fun t => (f t 0).toI) n : Nat) : Int) i) (n := 64) (fun i hi => ?_) ?_
  · have e := s5_eq (m : Int) q nd nl n f ((withN m (fun t => (f t 0).toI) n : Nat) : Int) i
    have hq : (hasF ((withN m (fun t => (f t 0).toI) n : Nat) : Int) (i : Int) == (hasF (m : Int) (i : Int) || anyF f (i : Int) n)) = true := by
      rw [hasF_nat hi, hasF_nat hi, withN_bit m _ hi]
      unfold anyF
      rw [Int.toNat_natCast]
      exact beq_self_eq_true _
    rw [decide_eq_true (show (i : Int) < 64 by omega), hr, ble_t hn1, rng_nat hlt, hasV_eq, anyV_eq, hq, wrap_i64s (by omega)] at e
    exact ⟨_, e, Seen.refl _⟩
  · have e := s5_eq (m : Int) q nd nl n f ((withN m (fun t => (f t 0).toI) n : Nat) : Int) 64
    rw [decide_eq_false (show ¬ ((64 : Nat) : Int) < 64 by omega)] at e
    exact ⟨_, e, Seen.refl _⟩
theorem qC : Bm.Good Try.prog EC := (qB.addS (by kernel_rfl) rfl (by decide) (by decide) rfl i5).addF (lives_ok (m := 5000) q0r (by kernel_rfl))
end Go.Proofs.Ytckpljmiodgejaa.quorumTells
