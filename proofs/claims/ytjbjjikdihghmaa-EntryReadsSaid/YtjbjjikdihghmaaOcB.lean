/- Bytes, written: what the loops and the functions come to. -/
import Derived.Test.YtjbjjikdihghmaaOcA
set_option linter.unusedSimpArgs false
set_option linter.unusedVariables false
namespace Go.Proofs.Ytjbjjikdihghmaa.entry
open Go Go.RowKit Go.Proofs.Ytjbjjikdihghmaa.Bm
theorem r21b_inv  {c : CS} {r : Nat × CS} (h : (r21b  c).run = some r) : ∃ w n f x m g j, c = c21b w n f x m g j 0 ∧ (r21bB  w n f x m g j).run = some r := by
  unfold r21b at h
  split at h
  · rename_i w z_1 n z_2 x z_3 m z_4 z_5 j z_6 z_7 sh_8 z_9 f sh_10 z_11 g
    obtain ⟨hc, hb⟩ := chkT_run h
    have h0 := hc 0 _ rfl
    have h0 := of_decide_eq_true h0; subst h0
    have h1 := hc 1 _ rfl
    have h1 := of_decide_eq_true h1; subst h1
    have h2 := hc 2 _ rfl
    have h2 := of_decide_eq_true h2; subst h2
    have h3 := hc 3 _ rfl
    have h3 := of_decide_eq_true h3; subst h3
    have h4 := hc 4 _ rfl
    have h4 := of_decide_eq_true h4; subst h4
    have h5 := hc 5 _ rfl
    have h5 := of_decide_eq_true h5; subst h5
    have h6 := hc 6 _ rfl
    have h6 := of_decide_eq_true h6; subst h6
    have h7 := hc 7 _ rfl
    have h7 := (shBeq_eq h7).symm; subst h7
    have h8 := hc 8 _ rfl
    have h8 := of_decide_eq_true h8; subst h8
    have h9 := hc 9 _ rfl
    have h9 := (shBeq_eq h9).symm; subst h9
    have h10 := hc 10 _ rfl
    have h10 := of_decide_eq_true h10; subst h10
    exact ⟨w, n, f, x, m, g, j, rfl, hb⟩
  · cases h
theorem r21a_inv  {c : CS} {r : Nat × CS} (h : (r21a  c).run = some r) : ∃ w n f m g, c = c21a w n f m g 0 ∧ (r21aB  w n f m g).run = some r := by
  unfold r21a at h
  split at h
  · rename_i w z_1 n z_2 z_3 m z_4 z_5 z_6 sh_7 z_8 f sh_9 z_10 g
    obtain ⟨hc, hb⟩ := chkT_run h
    have h0 := hc 0 _ rfl
    have h0 := of_decide_eq_true h0; subst h0
    have h1 := hc 1 _ rfl
    have h1 := of_decide_eq_true h1; subst h1
    have h2 := hc 2 _ rfl
    have h2 := of_decide_eq_true h2; subst h2
    have h3 := hc 3 _ rfl
    have h3 := of_decide_eq_true h3; subst h3
    have h4 := hc 4 _ rfl
    have h4 := of_decide_eq_true h4; subst h4
    have h5 := hc 5 _ rfl
    have h5 := of_decide_eq_true h5; subst h5
    have h6 := hc 6 _ rfl
    have h6 := (shBeq_eq h6).symm; subst h6
    have h7 := hc 7 _ rfl
    have h7 := of_decide_eq_true h7; subst h7
    have h8 := hc 8 _ rfl
    have h8 := (shBeq_eq h8).symm; subst h8
    have h9 := hc 9 _ rfl
    have h9 := of_decide_eq_true h9; subst h9
    exact ⟨w, n, f, m, g, rfl, hb⟩
  · cases h
theorem r27_inv  {c : CS} {r : Nat × CS} (h : (r27  c).run = some r) : ∃ w x nl n f, c = c27 w x nl n f 0 ∧ (r27B  w x nl n f).run = some r := by
  unfold r27 at h
  split at h
  · rename_i w x nl n z_1 z_2 sh_3 z_4 f
    obtain ⟨hc, hb⟩ := chkT_run h
    have h0 := hc 0 _ rfl
    have h0 := of_decide_eq_true h0; subst h0
    have h1 := hc 1 _ rfl
    have h1 := of_decide_eq_true h1; subst h1
    have h2 := hc 2 _ rfl
    have h2 := (shBeq_eq h2).symm; subst h2
    have h3 := hc 3 _ rfl
    have h3 := of_decide_eq_true h3; subst h3
    exact ⟨w, x, nl, n, f, rfl, hb⟩
  · cases h
theorem f21_inv  {c : CS} {r : CS} (h : (f21  c).run = some r) : ∃ nl n f w m g, c = a21 nl n f w m g ∧ (f21B  nl n f w m g).run = some r := by
  unfold f21 at h
  split at h
  · rename_i nl n z_1 w z_2 m z_3 sh_4 z_5 f sh_6 z_7 g
    obtain ⟨hc, hb⟩ := chkT_run h
    have h0 := hc 0 _ rfl
    have h0 := of_decide_eq_true h0; subst h0
    have h1 := hc 1 _ rfl
    have h1 := of_decide_eq_true h1; subst h1
    have h2 := hc 2 _ rfl
    have h2 := of_decide_eq_true h2; subst h2
    have h3 := hc 3 _ rfl
    have h3 := (shBeq_eq h3).symm; subst h3
    have h4 := hc 4 _ rfl
    have h4 := of_decide_eq_true h4; subst h4
    have h5 := hc 5 _ rfl
    have h5 := (shBeq_eq h5).symm; subst h5
    have h6 := hc 6 _ rfl
    have h6 := of_decide_eq_true h6; subst h6
    exact ⟨nl, n, f, w, m, g, rfl, hb⟩
  · cases h
theorem f27_inv  {c : CS} {r : CS} (h : (f27  c).run = some r) : ∃ nl n f w x, c = a27 nl n f w x ∧ (f27B  nl n f w x).run = some r := by
  unfold f27 at h
  split at h
  · rename_i nl n z_1 w x sh_2 z_3 f
    obtain ⟨hc, hb⟩ := chkT_run h
    have h0 := hc 0 _ rfl
    have h0 := of_decide_eq_true h0; subst h0
    have h1 := hc 1 _ rfl
    have h1 := (shBeq_eq h1).symm; subst h1
    have h2 := hc 2 _ rfl
    have h2 := of_decide_eq_true h2; subst h2
    exact ⟨nl, n, f, w, x, rfl, hb⟩
  · cases h
theorem r25_inv  {c : CS} {r : Nat × CS} (h : (r25  c).run = some r) : ∃ w m g nl n f, c = c25 w m g nl n f 0 ∧ (r25B  w m g nl n f).run = some r := by
  unfold r25 at h
  split at h
  · rename_i w z_1 m z_2 nl n z_3 z_4 sh_5 z_6 g sh_7 z_8 f
    obtain ⟨hc, hb⟩ := chkT_run h
    have h0 := hc 0 _ rfl
    have h0 := of_decide_eq_true h0; subst h0
    have h1 := hc 1 _ rfl
    have h1 := of_decide_eq_true h1; subst h1
    have h2 := hc 2 _ rfl
    have h2 := of_decide_eq_true h2; subst h2
    have h3 := hc 3 _ rfl
    have h3 := of_decide_eq_true h3; subst h3
    have h4 := hc 4 _ rfl
    have h4 := (shBeq_eq h4).symm; subst h4
    have h5 := hc 5 _ rfl
    have h5 := of_decide_eq_true h5; subst h5
    have h6 := hc 6 _ rfl
    have h6 := (shBeq_eq h6).symm; subst h6
    have h7 := hc 7 _ rfl
    have h7 := of_decide_eq_true h7; subst h7
    exact ⟨w, m, g, nl, n, f, rfl, hb⟩
  · cases h
theorem f25_inv  {c : CS} {r : CS} (h : (f25  c).run = some r) : ∃ nl n f w m g, c = a21 nl n f w m g ∧ (f25B  nl n f w m g).run = some r := by
  unfold f25 at h
  split at h
  · rename_i nl n z_1 w z_2 m z_3 sh_4 z_5 f sh_6 z_7 g
    obtain ⟨hc, hb⟩ := chkT_run h
    have h0 := hc 0 _ rfl
    have h0 := of_decide_eq_true h0; subst h0
    have h1 := hc 1 _ rfl
    have h1 := of_decide_eq_true h1; subst h1
    have h2 := hc 2 _ rfl
    have h2 := of_decide_eq_true h2; subst h2
    have h3 := hc 3 _ rfl
    have h3 := (shBeq_eq h3).symm; subst h3
    have h4 := hc 4 _ rfl
    have h4 := of_decide_eq_true h4; subst h4
    have h5 := hc 5 _ rfl
    have h5 := (shBeq_eq h5).symm; subst h5
    have h6 := hc 6 _ rfl
    have h6 := of_decide_eq_true h6; subst h6
    exact ⟨nl, n, f, w, m, g, rfl, hb⟩
  · cases h
theorem ble_t {n m : Nat} (h : n ≤ m) : Nat.ble n m = true := Nat.ble_eq_true_of_le h
theorem ble_f {n m : Nat} (h : ¬ n ≤ m) : Nat.ble n m = false := by rw [ble_iff, decide_eq_false h]
theorem le_of {n m : Nat} (h : Nat.ble n m = true) : n ≤ m := Nat.le_of_ble_eq_true h
theorem not_lt {a b : Int} (h : (!(decide (a < b))) = true) : b ≤ a := by
  cases hd : decide (a < b) with
  | true => rw [hd] at h; cases h
  | false => have := of_decide_eq_false hd; omega
theorem not_gt {a b : Int} (h : (!(decide (a > b))) = true) : a ≤ b := by
  cases hd : decide (a > b) with
  | true => rw [hd] at h; cases h
  | false => have := of_decide_eq_false hd; omega
theorem growt {n : Nat} (h : n ≤ 2000000) : growB 1 n = true := by
  unfold growB
  rw [ble_t (show n ≤ 281474976710656 by omega), ble_t (show n * 1 ≤ 17179869184 by omega)]; rfl
theorem bytP {x : Int} {i : Nat} (h : i < 8) : IntKind.wrap .u8 (Int.fdiv x (2 ^ min (Int.toNat (IntKind.wrap .i64 (8 * (i : Int)))) (IntKind.bits .u64))) = byt x i := by
  have e1 : IntKind.wrap .i64 (8 * (i : Int)) = ((8 * i : Nat) : Int) := by
    have := wrap_i64 (i := 8 * i) (by omega)
    simpa using this
  have e2 : min (8 * i) (IntKind.bits .u64) = 8 * i := Nat.min_eq_left (by show 8 * i ≤ 64; omega)
  rw [wrap_u8, e1, Int.toNat_natCast, e2, Int.fdiv_eq_ediv_of_nonneg _ (by exact Int.pow_nonneg (by decide))]
  unfold byt
  rw [Int.pow_mul]; rfl
theorem wrap8 {i : Nat} (h : i < 8) : decide (IntKind.wrap .i64 (8 * (i : Int)) < 0) = false := by
  have := wrap_i64 (i := 8 * i) (by omega)
  rw [show (8 * (i : Int)) = ((8 * i : Nat) : Int) by simp, this]
  exact decide_eq_false (by omega)
theorem lt1 {i n : Nat} (h : i < n) : decide ((i : Int) < (n : Int)) = true := decide_eq_true (by omega)
theorem lt0 (n : Nat) : decide ((n : Int) < (n : Int)) = false := decide_eq_false (by omega)
theorem blt1 {i n : Nat} (h : i < n) : Nat.blt (0 + Int.toNat (i : Int)) n = true := by rw [ix_, blt_iff]; exact decide_eq_true h
theorem nat_of {w : Int} (h : 1 ≤ w) : ∃ k : Nat, w = (k : Int) ∧ 1 ≤ k := ⟨w.toNat, by omega, by omega⟩
/-- The octets' inner loop. -/
theorem i21b (c : CS) (r : Nat × CS) (h : (r21b c).run = some r) : Loops (stepC E1 300 (loopC E1 21 2) 0 h21b ((.normal, h21b) :: x21b) s21b_p) c r.1 r.2 := by
  obtain ⟨w, n, f, x, m, g, j, rfl, hb⟩ := r21b_inv h
  obtain ⟨hn, hb2⟩ := chkT_run hb
  obtain ⟨k, rfl, hk⟩ := nat_of (not_lt (hn 0 _ rfl))
  have hk8 : k ≤ 8 := by have := not_gt (hn 1 _ rfl); omega
  have hl := le_of (hn 2 _ rfl)
  simp only [T.run, Option.some.injEq] at hb2; subst hb2; clear h hb
  simp only [Int.toNat_natCast]
  refine .see (c1 := c21b k (n + 0) (fjoin f n (oneB x)) x m g j (0 : Nat)) (Seen.mk' (SeenVs.refl _) (.cons (SeenO.one rfl fun i hi => by rw [fjoin_lt (n := n) (by omega)]) (SeenOs.refl _))) ?_
  refine Loops.for (C := fun i => c21b k (n + i) (fjoin f n (oneB x)) x m g j i) (n := k) (fun i hi => ?_) ?_
  · have e := s21b_eq (k : Int) (n + i) (fjoin f n (oneB x)) x m g j i (ble_t (by omega))
    rw [lt1 hi, wrap8 (by omega), ble_f (show ¬ n + i + 1 ≤ n + i by omega), growt (by omega)] at e
    refine ⟨_, e, Seen.mk' (.cons (SeenV.refl _) (.cons (SeenV.refl _) (.cons (SeenV.refl _) (.cons (SeenV.refl _) (.cons (SeenV.refl _) (.cons (SeenV.refl _) (.cons (SeenV.refl _) (.cons (SeenV.of_eq ?_) .nil)))))))) (.cons (SeenO.one rfl fun a ha => ?_) (SeenOs.refl _))⟩
    · rw [wrap_i64s (by omega)]
    · refine join_step (m := 1) rfl (fun b => by rw [Nat.zero_add]) (fun b hb => ?_) (by omega)
      have : b = 0 := by omega
      subst this
      show IntKind.wrap .u8 _ = byt x (i + 0)
      rw [Nat.add_zero]
      exact bytP (by omega)
  · have e := s21b_eq (k : Int) (n + k) (fjoin f n (oneB x)) x m g j k (ble_t (by omega))
    rw [lt0] at e
    exact ⟨_, e, Seen.refl _⟩
theorem g0 : Bm.Good Try.prog E0 := good0 (by kernel_rfl) (by kernel_rfl) (by kernel_rfl)
theorem g1 : Bm.Good Try.prog E1 := g0.bits
theorem g2 : Bm.Good Try.prog E2 := g1.addS (by kernel_rfl) rfl (by decide) (by decide) rfl i21b
/-- The octets' outer loop. -/
theorem i21a (c : CS) (r : Nat × CS) (h : (r21a c).run = some r) : Loops (stepC E2 300 (loopC E2 21 0) 0 h21a ((.normal, h21a) :: x21a) s21a_p) c r.1 r.2 := by
  obtain ⟨w, n, f, m, g, rfl, hb⟩ := r21a_inv h
  obtain ⟨hn, hb2⟩ := chkT_run hb
  have hw1 := not_lt (hn 0 _ rfl)
  have hw8 := not_gt (hn 1 _ rfl)
  obtain ⟨k, rfl, hk⟩ := nat_of hw1
  have hk8 : k ≤ 8 := by omega
  have hl := le_of (hn 2 _ rfl)
  simp only [T.run, Option.some.injEq] at hb2; subst hb2; clear h hb
  simp only [Int.toNat_natCast]
  refine .see (c1 := c21a k (n + k * 0) (fjoin f n (allB k g)) m g 0) (Seen.mk' (SeenVs.refl _) (.cons (SeenO.one rfl fun i hi => by rw [fjoin_lt (n := n) (by omega)]) (SeenOs.refl _))) ?_
  refine Loops.for (C := fun i => c21a k (n + k * i) (fjoin f n (allB k g)) m g i) (n := m) (fun i hi => ?_) ?_
  · have e := s21a_eq (k : Int) (n + k * i) (fjoin f n (allB k g)) m g i
    have hki : k * i + 8 ≤ 8 * m := Nat.le_trans (Nat.add_le_add_right (Nat.mul_le_mul_right i hk8) 8) (by omega)
    rw [lt1 hi, blt1 hi, decide_eq_false (show ¬ (k : Int) < 1 by omega), decide_eq_false (show ¬ (k : Int) > 8 by omega), ble_t (show n + k * i + 8 ≤ 1000000 by omega)] at e
    have hs : n + k * i + k = n + k * (i + 1) := by rw [Nat.mul_add]; omega
    simp only [Int.toNat_natCast, Nat.zero_add, hs] at e
    refine ⟨_, e, Seen.mk' (.cons (SeenV.refl _) (.cons (SeenV.refl _) (.cons (SeenV.refl _) (.cons (SeenV.refl _) (.cons (SeenV.of_eq ?_) .nil))))) (.cons (SeenO.one rfl fun a ha => ?_) (SeenOs.refl _))⟩
    · rw [wrap_i64s (by omega)]
    · refine join_step (m := k) rfl (fun b => rfl) (fun b hb => ?_) (by omega)
      show byt _ b = byt _ _
      rw [Nat.mul_add_div (by omega), Nat.div_eq_of_lt hb, Nat.mul_add_mod, Nat.mod_eq_of_lt hb, Nat.add_zero]
  · have e := s21a_eq (k : Int) (n + k * m) (fjoin f n (allB k g)) m g m
    rw [lt0] at e
    exact ⟨_, e, Seen.refl _⟩
theorem g3 : Bm.Good Try.prog E3 := g2.addS (by kernel_rfl) rfl (by decide) (by decide) rfl i21a
theorem u64_of {x : Int} (h : u64B x = true) : 0 ≤ x ∧ x < 18446744073709551616 := by
  simp only [u64B_eq, Bool.and_eq_true, decide_eq_true_eq] at h; exact h
theorem byt_tmod {x : Int} (h : 0 ≤ x) : IntKind.wrap .u8 (Int.tmod x 256) = byt x 0 := by
  rw [wrap_u8, Int.tmod_eq_emod_of_nonneg h]
  unfold byt
  simp
theorem byt_tdiv {x : Int} (h : 0 ≤ x) (h2 : x < 18446744073709551616) : IntKind.wrap .u64 (Int.tdiv x 256) = x / 256 := by
  rw [Int.tdiv_eq_ediv_of_nonneg h, wrap_u64 (by omega) (by omega)]
theorem div_pow (x : Int) (i : Nat) : x / 256 ^ i / 256 = x / 256 ^ (i + 1) := by
  rw [Int.ediv_ediv_of_nonneg (Int.pow_nonneg (by decide)), Int.pow_succ]
theorem div_bnd {x : Int} (h : 0 ≤ x) (h2 : x < 18446744073709551616) (i : Nat) : 0 ≤ x / 256 ^ i ∧ x / 256 ^ i < 18446744073709551616 :=
  ⟨Int.ediv_nonneg h (Int.pow_nonneg (by decide)), Int.lt_of_le_of_lt (Int.ediv_le_self _ h) h2⟩
/-- The document's loop. -/
theorem i27 (c : CS) (r : Nat × CS) (h : (r27 c).run = some r) : Loops (stepC E3 300 (loopC E3 27 0) 0 h27 ((.normal, h27) :: x27) s27_p) c r.1 r.2 := by
  obtain ⟨w, x, nl, n, f, rfl, hb⟩ := r27_inv h
  obtain ⟨hn, hb2⟩ := chkT_run hb
  obtain ⟨k, rfl, hk⟩ := nat_of (not_lt (hn 0 _ rfl))
  have hk8 : k ≤ 8 := by have := not_gt (hn 1 _ rfl); omega
  obtain ⟨hx0, hx1⟩ := u64_of (hn 2 _ rfl)
  have hnl := hn 3 _ rfl
  have hl := le_of (hn 4 _ rfl)
  simp only [T.run, Option.some.injEq] at hb2; subst hb2; clear h hb
  simp only [Int.toNat_natCast]
  refine .see (c1 := c27 k (x / 256 ^ 0) (nl && decide (0 = 0)) (n + 0) (fjoin f n (oneB x)) (0 : Nat)) (Seen.mk' ?_ (.cons (SeenO.one rfl fun i hi => by rw [fjoin_lt (n := n) (by omega)]) (SeenOs.refl _))) ?_
  · have e : (nl && decide ((0 : Nat) = 0)) = nl := by simp
    rw [e, Int.pow_zero, Int.ediv_one]; exact SeenVs.refl _
  refine Loops.for (C := fun i => c27 k (x / 256 ^ i) (nl && decide (i = 0)) (n + i) (fjoin f n (oneB x)) i) (n := k) (fun i hi => ?_) ?_
  · have e := s27_eq (k : Int) (x / 256 ^ i) (nl && decide (i = 0)) (n + i) (fjoin f n (oneB x)) i (ble_t (by omega))
    obtain ⟨d0, d1⟩ := div_bnd hx0 hx1 i
    rw [lt1 hi, ble_f (show ¬ n + i + 1 ≤ n + i by omega), growt (by omega), byt_tmod d0, byt_tdiv d0 d1, div_pow] at e
    have hby : byt (x / 256 ^ i) 0 = byt x i := by unfold byt; rw [Int.pow_zero, Int.ediv_one]
    have hfin : ∀ n' F, n' = n + i + 1 → (∀ a, a < n + i + 1 → (F a 0).toI = (fjoin f n (oneB x) a 0).toI) → Seen ⟨[.int .i64 (k : Nat), .int .u64 (x / 256 ^ (i + 1)), .osl false 0 0 n' n' 1 true, .int .i64 (IntKind.wrap IntKind.i64 ((i : Int) + 1))], [some (.tarr [.int .u8] n' F true)]⟩ (c27 k (x / 256 ^ (i + 1)) (nl && decide (i + 1 = 0)) (n + (i + 1)) (fjoin f n (oneB x)) ((i + 1 : Nat))) := fun n' F hn' hF => by
      subst hn'
      refine Seen.mk' (.cons (SeenV.refl _) (.cons (SeenV.refl _) (.cons (SeenV.of_eq ?_) (.cons (SeenV.of_eq ?_) .nil)))) (.cons (SeenO.one rfl hF) .nil)
      · rw [decide_eq_false (by omega), Bool.and_false]; rfl
      · rw [wrap_i64s (by omega)]
    by_cases hq : (nl && decide (i = 0)) = true
    · simp only [Bool.and_eq_true, decide_eq_true_eq] at hq
      obtain ⟨q1, q2⟩ := hq
      subst q1; subst q2
      have : n = 0 := by simpa using hnl
      subst this
      refine ⟨_, e, hfin _ _ rfl fun a ha => ?_⟩
      have : a = 0 := by omega
      subst this
      rw [fjoin_ge (Nat.zero_le _)]
      exact hby
    · have hq : (nl && decide (i = 0)) = false := by simpa using hq
      rw [hq] at e
      simp only [hq]
      refine ⟨_, e, hfin _ _ rfl fun a ha => ?_⟩
      refine join_step (m := 1) rfl (fun b => by rw [Nat.zero_add]) (fun b hb => ?_) (by omega)
      have : b = 0 := by omega
      subst this
      exact hby
  · have e := s27_eq (k : Int) (x / 256 ^ k) (nl && decide (k = 0)) (n + k) (fjoin f n (oneB x)) k (ble_t (by omega))
    rw [lt0] at e
    refine ⟨_, e, ?_⟩
    rw [decide_eq_false (show ¬ k = 0 by omega), Bool.and_false]
    exact Seen.refl _
theorem g4 : Bm.Good Try.prog E4 := g3.addS (by kernel_rfl) rfl (by decide) (by decide) rfl i27
theorem seenB {n1 n2 : Nat} {F G : Nat → Nat → AV} (e : n1 = n2) (h : ∀ i, i < n2 → (F i 0).toI = (G i 0).toI) : Seen ⟨[.osl false 0 0 n1 n1 1 true], [some (.tarr [.int .u8] n1 F true)]⟩ ⟨[.osl false 0 0 n2 n2 1 true], [some (.tarr [.int .u8] n2 G true)]⟩ :=
  Seen.mk' (.cons (SeenV.of_eq (by rw [e])) .nil) (.cons (SeenO.one e h) .nil)
theorem join0 {F f : Nat → Nat → AV} (b : Nat) : (fjoin F 0 (fun p q => f (0 + p) q) b 0).toI = (f b 0).toI := by
  rw [fjoin_ge (Nat.zero_le _), Nat.sub_zero, Nat.zero_add]
theorem joinC {F f X : Nat → Nat → AV} {n1 n : Nat} (e : n1 = n) (h : ∀ b, b < n → (F b 0).toI = (f b 0).toI) (a : Nat) : (fjoin F n1 X a 0).toI = (fjoin f n X a 0).toI := by
  subst e
  by_cases ha : a < n1
  · rw [fjoin_lt ha, fjoin_lt ha, h a ha]
  · rw [fjoin_ge (by omega), fjoin_ge (by omega)]
theorem joinZ {F f X : Nat → Nat → AV} (a : Nat) : (fjoin F 0 X a 0).toI = (fjoin f 0 X a 0).toI := joinC rfl (fun b hb => absurd hb (Nat.not_lt_zero _)) a
/-- octet.Put. -/
theorem t21 (c c' : CS) (h : (f21 c).run = some c') : ∃ m pr ros π c0 c1, Seen c c0 ∧ callC E4 m 21 0 pr ros π c0 = some c1 ∧ Seen c1 c' := by
  obtain ⟨nl, n, f, w, m, g, rfl, hb⟩ := f21_inv h
  obtain ⟨hn, hb2⟩ := chkT_run hb
  have hw1 := not_lt (hn 0 _ rfl)
  have hw8 := not_gt (hn 1 _ rfl)
  have hnl := hn 2 _ rfl
  have hl := le_of (hn 3 _ rfl)
  simp only [T.run, Option.some.injEq] at hb2; subst hb2; clear h hb
  have e := k21_eq nl n f w m g
  rw [decide_eq_false (show ¬ w < 1 by omega), decide_eq_false (show ¬ w > 8 by omega)] at e
  cases nl with
  | true =>
    have h0 : n = 0 := by simpa using hnl
    subst h0
    rw [ble_t (show 0 + 0 + 8 * m ≤ 1000000 by omega)] at e
    exact ⟨1000, .asl shB, [], k21_p, _, _, Seen.refl _, e, seenB (by omega) fun i hi => joinZ _⟩
  | false =>
    rw [ble_t (show 0 + n ≤ n by omega), growt (show 0 + n ≤ 2000000 by omega)] at e
    by_cases h0 : n = 0
    · subst h0
      rw [ble_t (show 0 + 0 ≤ 0 by omega), ble_t (show 0 + 8 * m ≤ 1000000 by omega)] at e
      exact ⟨1000, .asl shB, [], k21_p, _, _, Seen.refl _, e, seenB rfl fun i hi => joinZ _⟩
    · rw [ble_f (show ¬ 0 + n ≤ 0 by omega), ble_t (show 0 + n + 8 * m ≤ 1000000 by omega)] at e
      exact ⟨1000, .asl shB, [], k21_p, _, _, Seen.refl _, e, seenB (by omega) fun i hi => joinC (by omega) (fun b hb => join0 b) i⟩
/-- The document's Put. -/
theorem t27 (c c' : CS) (h : (f27 c).run = some c') : ∃ m pr ros π c0 c1, Seen c c0 ∧ callC E4 m 27 0 pr ros π c0 = some c1 ∧ Seen c1 c' := by
  obtain ⟨nl, n, f, w, x, rfl, hb⟩ := f27_inv h
  obtain ⟨hn, hb2⟩ := chkT_run hb
  have hnl := hn 0 _ rfl
  have hl := le_of (hn 1 _ rfl)
  have e := k27_eq nl n f w x
  clear h hb
  rw [ble_t (show 0 + n ≤ n by omega), growt (show 0 + n ≤ 2000000 by omega)] at e
  by_cases hw : w < 1
  · rw [decide_eq_true hw] at e hb2
    simp only [T.run, cond_true] at hb2 e
    by_cases h0 : n = 0
    · subst h0
      rw [Nat.beq_refl] at hb2
      simp only [cond_true, Option.some.injEq] at hb2; subst hb2
      rw [Nat.beq_refl] at e
      cases nl with
      | true => exact ⟨1000, .asl shB, [], k27_p, _, _, Seen.refl _, e, Seen.refl _⟩
      | false => exact ⟨1000, .asl shB, [], k27_p, _, _, Seen.refl _, e, Seen.refl _⟩
    · have hz : Nat.beq n 0 = false := by rw [beq_iff, decide_eq_false h0]
      rw [hz] at hb2 hnl e
      simp only [cond_false, Option.some.injEq] at hb2; subst hb2
      cases nl with
      | true => cases hnl
      | false => exact ⟨1000, .asl shB, [], k27_p, _, _, Seen.refl _, e, seenB (by omega) fun i hi => join0 i⟩
  · rw [decide_eq_false hw] at e hb2
    rw [ble_t (show 0 + n + 8 ≤ 1000000 by omega)] at e
    simp only [T.run, cond_false] at hb2 e
    obtain ⟨hn2, hb3⟩ := chkT_run hb2
    have hw8 := not_gt (hn2 0 _ rfl)
    have hx := hn2 1 _ rfl
    simp only [T.run, Option.some.injEq] at hb3; subst hb3
    rw [decide_eq_false (show ¬ w > 8 by omega), hx] at e
    by_cases h0 : n = 0
    · subst h0
      rw [Nat.beq_refl] at e
      cases nl with
      | true => exact ⟨1000, .asl shB, [], k27_p, _, _, Seen.refl _, e, seenB rfl fun i hi => joinZ _⟩
      | false => exact ⟨1000, .asl shB, [], k27_p, _, _, Seen.refl _, e, seenB rfl fun i hi => joinZ _⟩
    · have hz : Nat.beq n 0 = false := by rw [beq_iff, decide_eq_false h0]
      rw [hz] at hnl e
      cases nl with
      | true => cases hnl
      | false => exact ⟨1000, .asl shB, [], k27_p, _, _, Seen.refl _, e, seenB (by omega) fun i hi => joinC (by omega) (fun b hb => join0 b) i⟩
theorem g5 : Bm.Good Try.prog E5 := (g4.addI g4 (by kernel_rfl) t21).addI g4 (by kernel_rfl) t27
def p25 (c : CS) : Plan := match c.ts with
  | [_, _, .nilSlice, _] => s25t_p
  | _ => s25f_p
theorem all_at {g : Nat → Nat → AV} {m i : Nat} (h : allU g m = true) (hi : i < m) : u64B (g i 0).toI = true := by
  have := okFrom_iff.1 h i hi
  rwa [Nat.zero_add] at this
/-- All of the document. -/
theorem i25 (c : CS) (r : Nat × CS) (h : (r25 c).run = some r) : Loops (fun c => stepC E5 300 (loopC E5 25 0) 0 h25 ((.normal, h25) :: x25) (p25 c) c) c r.1 r.2 := by
  obtain ⟨w, m, g, nl, n, f, rfl, hb⟩ := r25_inv h
  obtain ⟨hn, hb2⟩ := chkT_run hb
  have hw1 := not_lt (hn 0 _ rfl)
  have hw8 := not_gt (hn 1 _ rfl)
  obtain ⟨k, rfl, hk⟩ := nat_of hw1
  have hk8 : k ≤ 8 := by omega
  have hm : 0 < m := by have := hn 2 _ rfl; rw [blt_iff] at this; exact of_decide_eq_true this
  have hg := hn 3 _ rfl
  have hnl := hn 4 _ rfl
  have hl := le_of (hn 5 _ rfl)
  simp only [T.run, Option.some.injEq] at hb2; subst hb2; clear h hb
  simp only [Int.toNat_natCast]
  have hall : ∀ i0, i0 ≤ m → Loops (fun c => stepC E5 300 (loopC E5 25 0) 0 h25 ((.normal, h25) :: x25) (p25 c) c) (c25 k m g false (n + k * i0) (fjoin f n (allB k g)) i0) 1 ⟨[.osl false 0 0 (n + k * m) (n + k * m) 1 true], [some (.tarr [.int .u8] (n + k * m) (fjoin f n (allB k g)) true)]⟩ := fun i0 h0 => by
    refine Loops.upto (C := fun i => c25 k m g false (n + k * i) (fjoin f n (allB k g)) i) h0 (fun i hi => ?_) ?_
    · have e := s25f_eq (k : Int) m g (n + k * i) (fjoin f n (allB k g)) i
      have hki : k * i + 8 ≤ 8 * m := Nat.le_trans (Nat.add_le_add_right (Nat.mul_le_mul_right i hk8) 8) (by omega)
      have hs : n + k * i + k = n + k * (i + 1) := by rw [Nat.mul_add]; omega
      rw [lt1 hi, blt1 hi, decide_eq_false (show ¬ (k : Int) < 1 by omega), decide_eq_false (show ¬ (k : Int) > 8 by omega), ble_t (show n + k * i + 8 ≤ 1000000 by omega)] at e
      simp only [Int.toNat_natCast, Nat.zero_add, hs] at e
      rw [all_at hg hi] at e
      refine ⟨_, e, Seen.mk' (.cons (SeenV.refl _) (.cons (SeenV.refl _) (.cons (SeenV.refl _) (.cons (SeenV.of_eq ?_) .nil)))) (.cons (SeenO.refl _) (.cons (SeenO.one rfl fun a ha => ?_) .nil))⟩
      · rw [wrap_i64s (by omega)]
      · refine join_step (m := k) rfl (fun b => rfl) (fun b hb => ?_) (by omega)
        show byt _ b = byt _ _
        rw [Nat.mul_add_div (by omega), Nat.div_eq_of_lt hb, Nat.mul_add_mod, Nat.mod_eq_of_lt hb, Nat.add_zero]
    · have e := s25f_eq (k : Int) m g (n + k * m) (fjoin f n (allB k g)) m
      rw [lt0] at e
      exact ⟨_, e, Seen.refl _⟩
  cases nl with
  | false =>
    refine .see (Seen.mk' ?_ ?_) (hall 0 (by omega))
    · exact SeenVs.refl _
    · exact .cons (SeenO.refl _) (.cons (SeenO.one rfl fun i hi => by rw [fjoin_lt (n := n) (by omega)]) .nil)
  | true =>
    have h0 : n = 0 := by simpa using hnl
    subst h0
    have e := s25t_eq (k : Int) m g 0
    rw [lt1 hm, blt1 hm, decide_eq_false (show ¬ (k : Int) < 1 by omega), decide_eq_false (show ¬ (k : Int) > 8 by omega)] at e
    simp only [Int.toNat_natCast, Nat.zero_add, all_at hg hm] at e
    refine .see (c1 := c25t k m g 0) (Seen.mk' (.cons (SeenV.refl _) (.cons (SeenV.refl _) (.cons SeenV.nil (.cons (SeenV.refl _) .nil)))) (.cons (SeenO.refl _) (.skip .nil))) ?_
    refine .go e (Seen.mk' ?_ ?_) (hall 1 hm)
    · refine .cons (SeenV.refl _) (.cons (SeenV.refl _) (.cons (SeenV.of_eq ?_) (.cons (SeenV.of_eq ?_) .nil)))
      · rw [Nat.mul_one, Nat.zero_add]
      · rfl
    · refine .cons (SeenO.refl _) (.cons (SeenO.one (by rw [Nat.mul_one, Nat.zero_add]) fun i hi => ?_) .nil)
      rw [fjoin_ge (Nat.zero_le _), fjoin_ge (Nat.zero_le _)]
      show byt _ _ = byt _ _
      have hi : i < k := by omega
      rw [Nat.sub_zero, Nat.div_eq_of_lt hi, Nat.mod_eq_of_lt hi]
theorem g6 : Bm.Good Try.prog E6 := g5.addS (by kernel_rfl) rfl (by decide) (by decide) rfl i25
/-- The document's All. -/
theorem t25 (c c' : CS) (h : (f25 c).run = some c') : ∃ m pr ros π c0 c1, Seen c c0 ∧ callC E6 m 25 0 pr ros π c0 = some c1 ∧ Seen c1 c' := by
  obtain ⟨nl, n, f, w, m, g, rfl, hb⟩ := f25_inv h
  obtain ⟨hn, hb2⟩ := chkT_run hb
  have hw1 := not_lt (hn 0 _ rfl)
  have hw8 := not_gt (hn 1 _ rfl)
  have hm := hn 2 _ rfl
  have hm0 : 0 < m := by rw [blt_iff] at hm; exact of_decide_eq_true hm
  have hg := hn 3 _ rfl
  have hnl := hn 4 _ rfl
  have hl := le_of (hn 5 _ rfl)
  simp only [T.run, Option.some.injEq] at hb2; subst hb2; clear h hb
  cases nl with
  | true =>
    have h0 : n = 0 := by simpa using hnl
    subst h0
    have e := k25t_eq w m g
    rw [decide_eq_false (show ¬ w < 1 by omega), decide_eq_false (show ¬ w > 8 by omega), hm, hg, ble_t (show 0 + 8 * m ≤ 1000000 by omega)] at e
    exact ⟨1000, .asl shB, [], k25t_p, a21t w m g, _, Seen.mk' (.cons SeenV.nil (SeenVs.refl _)) (.skip (SeenOs.refl _)), e, seenB rfl fun i hi => joinZ _⟩
  | false =>
    have e := k25f_eq n f w m g
    rw [decide_eq_false (show ¬ w < 1 by omega), decide_eq_false (show ¬ w > 8 by omega), hm, hg, ble_t (show 0 + 8 * m ≤ 1000000 by omega), ble_t (show n + 8 * m ≤ 1000000 by omega), ble_t (show n + 8 ≤ 1000000 by omega)] at e
    by_cases h0 : n = 0
    · subst h0
      rw [Nat.beq_refl] at e
      exact ⟨1000, .asl shB, [], k25f_p, _, _, Seen.refl _, e, seenB rfl fun i hi => joinZ _⟩
    · have hz : Nat.beq n 0 = false := by rw [beq_iff, decide_eq_false h0]
      rw [hz] at e
      exact ⟨1000, .asl shB, [], k25f_p, _, _, Seen.refl _, e, Seen.refl _⟩
theorem g7 : Bm.Good Try.prog E7 := g6.addI g6 (by kernel_rfl) t25
end Go.Proofs.Ytjbjjikdihghmaa.entry
