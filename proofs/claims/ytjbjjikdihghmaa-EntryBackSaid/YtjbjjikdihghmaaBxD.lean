/- Bytes, written and read: what the loops and the functions come to. -/
import Derived.Test.YtjbjjikdihghmaaBxA
import Derived.KernelRfl
set_option linter.unusedSimpArgs false
set_option linter.unusedVariables false
set_option maxRecDepth 20000
namespace Go.Proofs.Ytjbjjikdihghmaa.entry
open Go Go.RowKit Go.Proofs.Ytjbjjikdihghmaa.Bm
theorem r21b_inv  {c : CS} {r : Nat × CS} (h : (r21b  c).run = some r) : ∃ w n f x m g j, c = c21b w n f x m g j 0 ∧ (r21bB  w n f x m g j).run = some r := by
  unfold r21b at h
  split at h
  · rename_i w z_1 n z_2 x z_3 m z_4 z_5 j z_6 z_7 sh_8 z_9 f sh_10 z_11 g
    obtain ⟨hc, hb⟩ := chkT_run h
    have h0 := hc 0 _ rfl
    have h0 := of_decide_eq_true h0; subst h0
    have h1 := hc 1 _ rfl
    have h1 := of_decide_eq_true h1; subst h1
    have h2 := hc 2 _ rfl
    have h2 := of_decide_eq_true h2; subst h2
    have h3 := hc 3 _ rfl
    have h3 := of_decide_eq_true h3; subst h3
    have h4 := hc 4 _ rfl
    have h4 := of_decide_eq_true h4; subst h4
    have h5 := hc 5 _ rfl
    have h5 := of_decide_eq_true h5; subst h5
    have h6 := hc 6 _ rfl
    have h6 := of_decide_eq_true h6; subst h6
    have h7 := hc 7 _ rfl
    have h7 := (shBeq_eq h7).symm; subst h7
    have h8 := hc 8 _ rfl
    have h8 := of_decide_eq_true h8; subst h8
    have h9 := hc 9 _ rfl
    have h9 := (shBeq_eq h9).symm; subst h9
    have h10 := hc 10 _ rfl
    have h10 := of_decide_eq_true h10; subst h10
    exact ⟨w, n, f, x, m, g, j, rfl, hb⟩
  · cases h
theorem r21a_inv  {c : CS} {r : Nat × CS} (h : (r21a  c).run = some r) : ∃ w n f m g, c = c21a w n f m g 0 ∧ (r21aB  w n f m g).run = some r := by
  unfold r21a at h
  split at h
  · rename_i w z_1 n z_2 z_3 m z_4 z_5 z_6 sh_7 z_8 f sh_9 z_10 g
    obtain ⟨hc, hb⟩ := chkT_run h
    have h0 := hc 0 _ rfl
    have h0 := of_decide_eq_true h0; subst h0
    have h1 := hc 1 _ rfl
    have h1 := of_decide_eq_true h1; subst h1
    have h2 := hc 2 _ rfl
    have h2 := of_decide_eq_true h2; subst h2
    have h3 := hc 3 _ rfl
    have h3 := of_decide_eq_true h3; subst h3
    have h4 := hc 4 _ rfl
    have h4 := of_decide_eq_true h4; subst h4
    have h5 := hc 5 _ rfl
    have h5 := of_decide_eq_true h5; subst h5
    have h6 := hc 6 _ rfl
    have h6 := (shBeq_eq h6).symm; subst h6
    have h7 := hc 7 _ rfl
    have h7 := of_decide_eq_true h7; subst h7
    have h8 := hc 8 _ rfl
    have h8 := (shBeq_eq h8).symm; subst h8
    have h9 := hc 9 _ rfl
    have h9 := of_decide_eq_true h9; subst h9
    exact ⟨w, n, f, m, g, rfl, hb⟩
  · cases h
theorem f21_inv  {c : CS} {r : CS} (h : (f21  c).run = some r) : ∃ nl n f w m g, c = a21 nl n f w m g ∧ (f21B  nl n f w m g).run = some r := by
  unfold f21 at h
  split at h
  · rename_i nl n z_1 w z_2 m z_3 sh_4 z_5 f sh_6 z_7 g
    obtain ⟨hc, hb⟩ := chkT_run h
    have h0 := hc 0 _ rfl
    have h0 := of_decide_eq_true h0; subst h0
    have h1 := hc 1 _ rfl
    have h1 := of_decide_eq_true h1; subst h1
    have h2 := hc 2 _ rfl
    have h2 := of_decide_eq_true h2; subst h2
    have h3 := hc 3 _ rfl
    have h3 := (shBeq_eq h3).symm; subst h3
    have h4 := hc 4 _ rfl
    have h4 := of_decide_eq_true h4; subst h4
    have h5 := hc 5 _ rfl
    have h5 := (shBeq_eq h5).symm; subst h5
    have h6 := hc 6 _ rfl
    have h6 := of_decide_eq_true h6; subst h6
    exact ⟨nl, n, f, w, m, g, rfl, hb⟩
  · cases h
theorem ble_t {n m : Nat} (h : n ≤ m) : Nat.ble n m = true := Nat.ble_eq_true_of_le h
theorem ble_f {n m : Nat} (h : ¬ n ≤ m) : Nat.ble n m = false := by rw [ble_iff, decide_eq_false h]
theorem le_of {n m : Nat} (h : Nat.ble n m = true) : n ≤ m := Nat.le_of_ble_eq_true h
theorem not_lt {a b : Int} (h : (!(decide (a < b))) = true) : b ≤ a := by
  cases hd : decide (a < b) with
  | true => rw [hd] at h; cases h
  | false => have := of_decide_eq_false hd; omega
theorem not_gt {a b : Int} (h : (!(decide (a > b))) = true) : a ≤ b := by
  cases hd : decide (a > b) with
  | true => rw [hd] at h; cases h
  | false => have := of_decide_eq_false hd; omega
theorem growt {n : Nat} (h : n ≤ 2000000) : growB 1 n = true := by
  unfold growB
  rw [ble_t (show n ≤ 281474976710656 by omega), ble_t (show n * 1 ≤ 17179869184 by omega)]; rfl
theorem bytP {x : Int} {i : Nat} (h : i < 8) : IntKind.wrap .u8 (Int.fdiv x (2 ^ min (Int.toNat (IntKind.wrap .i64 (8 * (i : Int)))) (IntKind.bits .u64))) = byt x i := by
  have e1 : IntKind.wrap .i64 (8 * (i : Int)) = ((8 * i : Nat) : Int) := by
    have := wrap_i64 (i := 8 * i) (by omega)
    simpa using this
  have e2 : min (8 * i) (IntKind.bits .u64) = 8 * i := Nat.min_eq_left (by show 8 * i ≤ 64; omega)
  rw [wrap_u8, e1, Int.toNat_natCast, e2, Int.fdiv_eq_ediv_of_nonneg _ (by exact Int.pow_nonneg (by decide))]
  unfold byt
  rw [Int.pow_mul]; rfl
theorem wrap8 {i : Nat} (h : i < 8) : decide (IntKind.wrap .i64 (8 * (i : Int)) < 0) = false := by
  have := wrap_i64 (i := 8 * i) (by omega)
  rw [show (8 * (i : Int)) = ((8 * i : Nat) : Int) by simp, this]
  exact decide_eq_false (by omega)
theorem lt1 {i n : Nat} (h : i < n) : decide ((i : Int) < (n : Int)) = true := decide_eq_true (by omega)
theorem lt0 (n : Nat) : decide ((n : Int) < (n : Int)) = false := decide_eq_false (by omega)
theorem blt1 {i n : Nat} (h : i < n) : Nat.blt (0 + Int.toNat (i : Int)) n = true := by rw [ix_, blt_iff]; exact decide_eq_true h
theorem nat_of {w : Int} (h : 1 ≤ w) : ∃ k : Nat, w = (k : Int) ∧ 1 ≤ k := ⟨w.toNat, by omega, by omega⟩
/-- The octets' inner loop. -/
theorem i21b (c : CS) (r : Nat × CS) (h : (r21b c).run = some r) : Loops (stepC E1 300 (loopC E1 21 2) 0 h21b ((.normal, h21b) :: x21b) s21b_p) c r.1 r.2 := by
  obtain ⟨w, n, f, x, m, g, j, rfl, hb⟩ := r21b_inv h
  obtain ⟨hn, hb2⟩ := chkT_run hb
  obtain ⟨k, rfl, hk⟩ := nat_of (not_lt (hn 0 _ rfl))
  have hk8 : k ≤ 8 := by have := not_gt (hn 1 _ rfl); omega
  have hl := le_of (hn 2 _ rfl)
  simp only [T.run, Option.some.injEq] at hb2; subst hb2; clear h hb
  simp only [Int.toNat_natCast]
  refine .see (c1 := c21b k (n + 0) (fjoin f n (oneB x)) x m g j (0 : Nat)) (Seen.mk' (SeenVs.refl _) (.cons (SeenO.one rfl fun i hi => by rw [fjoin_lt (n := n) (by omega)]) (SeenOs.refl _))) ?_
  refine Loops.for (C := fun i => c21b k (n + i) (fjoin f n (oneB x)) x m g j i) (n := k) (fun i hi => ?_) ?_
  · have e := s21b_eq (k : Int) (n + i) (fjoin f n (oneB x)) x m g j i (ble_t (by omega))
    rw [lt1 hi, wrap8 (by omega), ble_f (show ¬ n + i + 1 ≤ n + i by omega), growt (by omega)] at e
    refine ⟨_, e, Seen.mk' (.cons (SeenV.refl _) (.cons (SeenV.refl _) (.cons (SeenV.refl _) (.cons (SeenV.refl _) (.cons (SeenV.refl _) (.cons (SeenV.refl _) (.cons (SeenV.refl _) (.cons (SeenV.of_eq ?_) .nil)))))))) (.cons (SeenO.one rfl fun a ha => ?_) (SeenOs.refl _))⟩
    · rw [wrap_i64s (by omega)]
    · refine join_step (m := 1) rfl (fun b => by rw [Nat.zero_add]) (fun b hb => ?_) (by omega)
      have : b = 0 := by omega
      subst this
      show IntKind.wrap .u8 _ = byt x (i + 0)
      rw [Nat.add_zero]
      exact bytP (by omega)
  · have e := s21b_eq (k : Int) (n + k) (fjoin f n (oneB x)) x m g j k (ble_t (by omega))
    rw [lt0] at e
    exact ⟨_, e, Seen.refl _⟩
theorem g0 : Bm.Good Try.prog E0 := good0 (by kernel_rfl) (by kernel_rfl) (by kernel_rfl)
theorem g1 : Bm.Good Try.prog E1 := g0.bits
theorem g2 : Bm.Good Try.prog E2 := g1.addS (by kernel_rfl) rfl (by decide) (by decide) rfl i21b
/-- The octets' outer loop. -/
theorem i21a (c : CS) (r : Nat × CS) (h : (r21a c).run = some r) : Loops (stepC E2 300 (loopC E2 21 0) 0 h21a ((.normal, h21a) :: x21a) s21a_p) c r.1 r.2 := by
  obtain ⟨w, n, f, m, g, rfl, hb⟩ := r21a_inv h
  obtain ⟨hn, hb2⟩ := chkT_run hb
  have hw1 := not_lt (hn 0 _ rfl)
  have hw8 := not_gt (hn 1 _ rfl)
  obtain ⟨k, rfl, hk⟩ := nat_of hw1
  have hk8 : k ≤ 8 := by omega
  have hl := le_of (hn 2 _ rfl)
  simp only [T.run, Option.some.injEq] at hb2; subst hb2; clear h hb
  simp only [Int.toNat_natCast]
  refine .see (c1 := c21a k (n + k * 0) (fjoin f n (allB k g)) m g 0) (Seen.mk' (SeenVs.refl _) (.cons (SeenO.one rfl fun i hi => by rw [fjoin_lt (n := n) (by omega)]) (SeenOs.refl _))) ?_
  refine Loops.for (C := fun i => c21a k (n + k * i) (fjoin f n (allB k g)) m g i) (n := m) (fun i hi => ?_) ?_
  · have e := s21a_eq (k : Int) (n + k * i) (fjoin f n (allB k g)) m g i
    have hki : k * i + 8 ≤ 8 * m := Nat.le_trans (Nat.add_le_add_right (Nat.mul_le_mul_right i hk8) 8) (by omega)
    rw [lt1 hi, blt1 hi, decide_eq_false (show ¬ (k : Int) < 1 by omega), decide_eq_false (show ¬ (k : Int) > 8 by omega), ble_t (show n + k * i + 8 ≤ 1000000 by omega)] at e
    have hs : n + k * i + k = n + k * (i + 1) := by rw [Nat.mul_add]; omega
    simp only [Int.toNat_natCast, Nat.zero_add, hs] at e
    refine ⟨_, e, Seen.mk' (.cons (SeenV.refl _) (.cons (SeenV.refl _) (.cons (SeenV.refl _) (.cons (SeenV.refl _) (.cons (SeenV.of_eq ?_) .nil))))) (.cons (SeenO.one rfl fun a ha => ?_) (SeenOs.refl _))⟩
    · rw [wrap_i64s (by omega)]
    · refine join_step (m := k) rfl (fun b => rfl) (fun b hb => ?_) (by omega)
      show byt _ b = byt _ _
      rw [Nat.mul_add_div (by omega), Nat.div_eq_of_lt hb, Nat.mul_add_mod, Nat.mod_eq_of_lt hb, Nat.add_zero]
  · have e := s21a_eq (k : Int) (n + k * m) (fjoin f n (allB k g)) m g m
    rw [lt0] at e
    exact ⟨_, e, Seen.refl _⟩
theorem g3 : Bm.Good Try.prog E3 := g2.addS (by kernel_rfl) rfl (by decide) (by decide) rfl i21a
theorem u64_of {x : Int} (h : u64B x = true) : 0 ≤ x ∧ x < 18446744073709551616 := by
  simp only [u64B_eq, Bool.and_eq_true, decide_eq_true_eq] at h; exact h
theorem byt_tmod {x : Int} (h : 0 ≤ x) : IntKind.wrap .u8 (Int.tmod x 256) = byt x 0 := by
  rw [wrap_u8, Int.tmod_eq_emod_of_nonneg h]
  unfold byt
  simp
theorem byt_tdiv {x : Int} (h : 0 ≤ x) (h2 : x < 18446744073709551616) : IntKind.wrap .u64 (Int.tdiv x 256) = x / 256 := by
  rw [Int.tdiv_eq_ediv_of_nonneg h, wrap_u64 (by omega) (by omega)]
theorem div_pow (x : Int) (i : Nat) : x / 256 ^ i / 256 = x / 256 ^ (i + 1) := by
  rw [Int.ediv_ediv_of_nonneg (Int.pow_nonneg (by decide)), Int.pow_succ]
theorem div_bnd {x : Int} (h : 0 ≤ x) (h2 : x < 18446744073709551616) (i : Nat) : 0 ≤ x / 256 ^ i ∧ x / 256 ^ i < 18446744073709551616 :=
  ⟨Int.ediv_nonneg h (Int.pow_nonneg (by decide)), Int.lt_of_le_of_lt (Int.ediv_le_self _ h) h2⟩
theorem g4 : Bm.Good Try.prog E4 := g3
theorem seenB {n1 n2 : Nat} {F G : Nat → Nat → AV} (e : n1 = n2) (h : ∀ i, i < n2 → (F i 0).toI = (G i 0).toI) : Seen ⟨[.osl false 0 0 n1 n1 1 true], [some (.tarr [.int .u8] n1 F true)]⟩ ⟨[.osl false 0 0 n2 n2 1 true], [some (.tarr [.int .u8] n2 G true)]⟩ :=
  Seen.mk' (.cons (SeenV.of_eq (by rw [e])) .nil) (.cons (SeenO.one e h) .nil)
theorem join0 {F f : Nat → Nat → AV} (b : Nat) : (fjoin F 0 (fun p q => f (0 + p) q) b 0).toI = (f b 0).toI := by
  rw [fjoin_ge (Nat.zero_le _), Nat.sub_zero, Nat.zero_add]
theorem joinC {F f X : Nat → Nat → AV} {n1 n : Nat} (e : n1 = n) (h : ∀ b, b < n → (F b 0).toI = (f b 0).toI) (a : Nat) : (fjoin F n1 X a 0).toI = (fjoin f n X a 0).toI := by
  subst e
  by_cases ha : a < n1
  · rw [fjoin_lt ha, fjoin_lt ha, h a ha]
  · rw [fjoin_ge (by omega), fjoin_ge (by omega)]
theorem joinZ {F f X : Nat → Nat → AV} (a : Nat) : (fjoin F 0 X a 0).toI = (fjoin f 0 X a 0).toI := joinC rfl (fun b hb => absurd hb (Nat.not_lt_zero _)) a
/-- octet.Put. -/
theorem t21 (c c' : CS) (h : (f21 c).run = some c') : ∃ m pr ros π c0 c1, Seen c c0 ∧ callC E4 m 21 0 pr ros π c0 = some c1 ∧ Seen c1 c' := by
  obtain ⟨nl, n, f, w, m, g, rfl, hb⟩ := f21_inv h
  obtain ⟨hn, hb2⟩ := chkT_run hb
  have hw1 := not_lt (hn 0 _ rfl)
  have hw8 := not_gt (hn 1 _ rfl)
  have hnl := hn 2 _ rfl
  have hl := le_of (hn 3 _ rfl)
  simp only [T.run, Option.some.injEq] at hb2; subst hb2; clear h hb
  have e := k21_eq nl n f w m g
  rw [decide_eq_false (show ¬ w < 1 by omega), decide_eq_false (show ¬ w > 8 by omega)] at e
  cases nl with
  | true =>
    have h0 : n = 0 := by simpa using hnl
    subst h0
    rw [ble_t (show 0 + 0 + 8 * m ≤ 1000000 by omega)] at e
    exact ⟨1000, .asl shB, [], k21_p, _, _, Seen.refl _, e, seenB (by omega) fun i hi => joinZ _⟩
  | false =>
    rw [ble_t (show 0 + n ≤ n by omega), growt (show 0 + n ≤ 2000000 by omega)] at e
    by_cases h0 : n = 0
    · subst h0
      rw [ble_t (show 0 + 0 ≤ 0 by omega), ble_t (show 0 + 8 * m ≤ 1000000 by omega)] at e
      exact ⟨1000, .asl shB, [], k21_p, _, _, Seen.refl _, e, seenB rfl fun i hi => joinZ _⟩
    · rw [ble_f (show ¬ 0 + n ≤ 0 by omega), ble_t (show 0 + n + 8 * m ≤ 1000000 by omega)] at e
      exact ⟨1000, .asl shB, [], k21_p, _, _, Seen.refl _, e, seenB (by omega) fun i hi => joinC (by omega) (fun b hb => join0 b) i⟩
theorem g5 : Bm.Good Try.prog E5 := g4.addI g4 (by kernel_rfl) t21
theorem all_at {g : Nat → Nat → AV} {m i : Nat} (h : allU g m = true) (hi : i < m) : u64B (g i 0).toI = true := by
  have := okFrom_iff.1 h i hi
  rwa [Nat.zero_add] at this
theorem g6 : Bm.Good Try.prog E6 := g5
theorem g7 : Bm.Good Try.prog E7 := g6
theorem blt2 {i n : Nat} (h : i < n) : Nat.blt i n = true := by rw [blt_iff]; simp [h]
theorem r32_inv  {c : CS} {r : Nat × CS} (h : (r32  c).run = some r) : ∃ nl off n N f rw, c = c32 0 nl off n N f rw 0 ∧ (r32B  nl off n N f rw).run = some r := by
  unfold r32 at h
  split at h
  · rename_i z_1 nl off n z_2 z_3 z_4 sh_5 N f rw
    obtain ⟨hc, hb⟩ := chkT_run h
    have h0 := hc 0 _ rfl
    have h0 := of_decide_eq_true h0; subst h0
    have h1 := hc 1 _ rfl
    have h1 := of_decide_eq_true h1; subst h1
    have h2 := hc 2 _ rfl
    have h2 := of_decide_eq_true h2; subst h2
    have h3 := hc 3 _ rfl
    have h3 := of_decide_eq_true h3; subst h3
    have h4 := hc 4 _ rfl
    have h4 := (shBeq_eq h4).symm; subst h4
    exact ⟨nl, off, n, N, f, rw, rfl, hb⟩
  · cases h
theorem q32o_inv  {c : CS} {r : CS} (h : (q32o  c).run = some r) : ∃ nl off N f w, c = a32 nl off N f w ∧ (q32oB  nl off N f w).run = some r := by
  unfold q32o at h
  split at h
  · rename_i w nl off z_1 z_2 z_3 sh_4 N f
    obtain ⟨hc, hb⟩ := chkT_run h
    have h0 := hc 0 _ rfl
    have h0 := of_decide_eq_true h0; subst h0
    have h1 := hc 1 _ rfl
    have h1 := of_decide_eq_true h1; subst h1
    have h2 := hc 2 _ rfl
    have h2 := of_decide_eq_true h2; subst h2
    have h3 := hc 3 _ rfl
    have h3 := (shBeq_eq h3).symm; subst h3
    exact ⟨nl, off, N, f, w, rfl, hb⟩
  · cases h
theorem okB_at {f : Nat → Nat → AV} {n i : Nat} (h : okB f n = true) (hi : i < n) : 0 ≤ (f i 0).toI ∧ (f i 0).toI < 256 := by
  rw [okB_eq, List.all_eq_true] at h
  have := h i (List.mem_range.2 hi)
  simpa [Bool.and_eq_true, decide_eq_true_eq] using this
theorem val_snoc (f : Nat → Nat → AV) : ∀ (k o : Nat), val f o (k + 1) = val f o k + (f (o + k) 0).toI * 256 ^ k
  | 0, o => by simp [val]
  | k + 1, o => by
    have h1 : val f o (k + 2) = (f o 0).toI + 256 * val f (o + 1) (k + 1) := rfl
    have h2 : val f o (k + 1) = (f o 0).toI + 256 * val f (o + 1) k := rfl
    rw [h1, val_snoc f k (o + 1), h2, show o + 1 + k = o + (k + 1) by omega, Int.mul_add, Int.pow_succ, ← Int.add_assoc, ← Int.mul_assoc, Int.mul_comm 256 (f (o + (k + 1)) 0).toI, Int.mul_assoc, Int.mul_comm 256 (256 ^ k)]
theorem val_bnd {f : Nat → Nat → AV} {N : Nat} (h : okB f N = true) : ∀ (k o : Nat), o + k ≤ N → 0 ≤ val f o k ∧ val f o k < 256 ^ k
  | 0, o, _ => by simp [val]
  | k + 1, o, hk => by
    obtain ⟨a, b⟩ := val_bnd h k (o + 1) (by omega)
    obtain ⟨c, d⟩ := okB_at h (show o < N by omega)
    have h2 : val f o (k + 1) = (f o 0).toI + 256 * val f (o + 1) k := rfl
    rw [h2, Int.pow_succ]
    omega
theorem pow8 (i : Nat) : (256 : Int) ^ i = ((2 ^ (8 * i) : Nat) : Int) := by
  rw [Nat.pow_mul]; simp
theorem pow_le8 {i : Nat} (h : i < 8) : 2 ^ (8 * i) * 256 ≤ 18446744073709551616 := by
  have h1 : 2 ^ (8 * i) ≤ 2 ^ 56 := Nat.pow_le_pow_right (by decide) (by omega)
  have h2 : 2 ^ 56 * 256 = 18446744073709551616 := by decide
  omega
theorem or_add {v c i : Nat} (hv : v < 2 ^ (8 * i)) (hc : c < 256) (hi : i < 8) : bitsR .or .u64 (v : Int) ((2 ^ (8 * i) * c : Nat) : Int) = ((v + 2 ^ (8 * i) * c : Nat) : Int) := by
  have hb := pow_le8 hi
  have h1 : 2 ^ (8 * i) * c ≤ 2 ^ (8 * i) * 255 := Nat.mul_le_mul_left _ (by omega)
  have e1 : v % 18446744073709551616 = v := Nat.mod_eq_of_lt (by omega)
  have e2 : 2 ^ (8 * i) * c % 18446744073709551616 = 2 ^ (8 * i) * c := Nat.mod_eq_of_lt (by omega)
  have e3 : (v ||| 2 ^ (8 * i) * c) = v + 2 ^ (8 * i) * c := by
    rw [Nat.or_comm, ← Nat.two_pow_add_eq_or_of_lt hv c, Nat.add_comm]
  show IntKind.wrap .u64 ((BitVec.ofInt 64 (v : Int) ||| BitVec.ofInt 64 ((2 ^ (8 * i) * c : Nat) : Int)).toNat : Int) = _
  rw [BitVec.ofInt_natCast, BitVec.ofInt_natCast, BitVec.toNat_or, BitVec.toNat_ofNat, BitVec.toNat_ofNat]
  rw [show (2 : Nat) ^ 64 = 18446744073709551616 by decide, e1, e2, e3]
  exact wrap_u64 (by omega) (by omega)
theorem or_step {v c : Int} {i : Nat} (hv0 : 0 ≤ v) (hv : v < 256 ^ i) (hc0 : 0 ≤ c) (hc : c < 256) (hi : i < 8) :
    bitsR .or .u64 v (IntKind.wrap .u64 (IntKind.wrap .u64 c * 2 ^ min (Int.toNat (IntKind.wrap .i64 (8 * (i : Int)))) (IntKind.bits .u64))) = v + c * 256 ^ i := by
  obtain ⟨v', rfl⟩ : ∃ k : Nat, v = (k : Int) := ⟨v.toNat, by omega⟩
  obtain ⟨c', rfl⟩ : ∃ k : Nat, c = (k : Int) := ⟨c.toNat, by omega⟩
  have hb := pow_le8 hi
  have e1 : IntKind.wrap .i64 (8 * (i : Int)) = ((8 * i : Nat) : Int) := by
    have := wrap_i64 (i := 8 * i) (by omega)
    simpa using this
  have e2 : min (8 * i) (IntKind.bits .u64) = 8 * i := Nat.min_eq_left (by show 8 * i ≤ 64; omega)
  have h1 : 2 ^ (8 * i) * c' ≤ 2 ^ (8 * i) * 255 := Nat.mul_le_mul_left _ (by omega)
  have e3 : (c' : Int) * 2 ^ (8 * i) = ((2 ^ (8 * i) * c' : Nat) : Int) := by
    rw [Int.mul_comm]; simp
  rw [pow8] at hv
  rw [wrap_u64 (x := (c' : Int)) (by omega) (by omega), e1, Int.toNat_natCast, e2, e3, wrap_u64 (by omega) (by omega), or_add (by omega) (by omega) hi, pow8, Nat.mul_comm]
  simp
theorem i32 (c : CS) (r : Nat × CS) (h : (r32 c).run = some r) : ∃ n, iterC (stepC E1 300 (loopC E1 32 0) 0 h32 ((.normal, h32) :: x32) s32_p) n c = some r := by
  obtain ⟨nl, off, n, N, f, rw_, rfl, hb⟩ := r32_inv h
  obtain ⟨hn, hb2⟩ := chkT_run hb
  have hok := hn 0 _ rfl
  have hn8 := le_of (hn 1 _ rfl)
  have hN := le_of (hn 2 _ rfl)
  simp only [T.run, Option.some.injEq] at hb2; subst hb2; clear h hb
  refine iter_for (C := fun i => c32 (val f off i) nl off n N f rw_ i) (n := n) (by simp) (fun i hi => ?_) ?_
  · have e := s32_eq bitsR (val f off i) nl off n N f rw_ i
    obtain ⟨v0, v1⟩ := val_bnd hok i off (by omega)
    obtain ⟨b0, b1⟩ := okB_at hok (show off + i < N by omega)
    rw [lt1 hi, Int.toNat_natCast, blt2 (show off + i < N by omega), wrap8 (by omega), or_step v0 v1 b0 b1 (by omega), wrap_i64s (by omega), ← val_snoc] at e
    exact e
  · have e := s32_eq bitsR (val f off n) nl off n N f rw_ n
    rw [lt0] at e
    exact e
theorem q1 : Bm.Good Try.prog F1 := g1.addL (by kernel_rfl) rfl (by decide) (by decide) rfl i32
theorem q2 : Bm.Good Try.prog F2 := q1
theorem okB0 : okB (fun _ _ => .bad) 0 = true := by rw [okB_eq]; rfl
theorem blt_t {n m : Nat} (h : n < m) : Nat.blt n m = true := blt2 h
theorem blt_f {n m : Nat} (h : ¬ n < m) : Nat.blt n m = false := by rw [blt_iff, decide_eq_false h]
theorem t32 (c c' : CS) (h : (q32 c).run = some c') : ∃ m pr ros π c0 c1, Seen c c0 ∧ callC F2 m 32 1 pr ros π c0 = some c1 ∧ Seen c1 c' := by
  unfold q32 at h
  cases hb : badP c with
  | true =>
    rw [hb] at h
    simp only [cond_true] at h
    unfold q32f at h
    split at h
    · rename_i w z _ _ _ _ _
      obtain ⟨hn, hb2⟩ := chkT_run h
      have hz := hn 0 _ rfl
      subst hz
      have hw1 := not_lt (hn 1 _ rfl)
      have hw8 := not_gt (hn 2 _ rfl)
      simp only [T.run, Option.some.injEq] at hb2; subst hb2
      have e := k32f_eq w
      rw [decide_eq_false (show ¬ w < 1 by omega), decide_eq_false (show ¬ w > 8 by omega), decide_eq_false (show ¬ w < 0 by omega), decide_eq_true (show w > 0 by omega), okB0] at e
      exact ⟨1000, .keep, [pR], k32f_p, _, _, Seen.mk' (SeenVs.refl _) (.cons (SeenO.cells (.cons SeenV.nil (SeenVs.refl _))) (.skip .nil)), e, Seen.refl _⟩
    · cases h
  | false =>
    rw [hb] at h
    simp only [cond_false] at h
    clear hb
    obtain ⟨nl, off, N, f, w, rfl, hb⟩ := q32o_inv h
    obtain ⟨hn, hb2⟩ := chkT_run hb
    have hw1 := not_lt (hn 0 _ rfl)
    have hw8 := not_gt (hn 1 _ rfl)
    have hok := hn 2 _ rfl
    have hoN := le_of (hn 3 _ rfl)
    have hN := le_of (hn 4 _ rfl)
    clear h hb
    obtain ⟨k, rfl, hk⟩ := nat_of hw1
    have e := k32_eq nl off N f (k : Int)
    simp only [Int.toNat_natCast, Nat.sub_zero, Nat.add_zero] at e hb2
    rw [decide_eq_false (show ¬ (k : Int) < 1 by omega), decide_eq_false (show ¬ (k : Int) > 8 by omega), decide_eq_false (show ¬ (k : Int) < 0 by omega), okB0] at e
    simp only [T.run] at hb2
    by_cases hf : N < off + k
    · rw [blt_t hf] at hb2
      simp only [cond_true, Option.some.injEq] at hb2; subst hb2
      rw [decide_eq_true (show (k : Int) > ((N - off : Nat) : Int) by omega)] at e
      exact ⟨1000, .keep, [pR], k32_p, _, _, Seen.refl _, e, Seen.refl _⟩
    · rw [blt_f hf] at hb2
      simp only [cond_false, Option.some.injEq] at hb2; subst hb2
      rw [decide_eq_false (show ¬ (k : Int) > ((N - off : Nat) : Int) by omega), ble_t (show k ≤ N - off by omega), decide_eq_true (show 0 ≤ (k : Int) by omega), hok, ble_t (show k ≤ 8 by omega), ble_t (show off + k ≤ N by omega)] at e
      refine ⟨1000, .keep, [pR], k32_p, _, _, Seen.refl _, e, Seen.mk' (SeenVs.refl _) (.cons (SeenO.cells (.cons (SeenV.of_eq ?_) (SeenVs.refl _))) (SeenOs.refl _))⟩
      rw [Nat.sub_sub]
theorem q3 : Bm.Good Try.prog F3 := q2.addI q2 (by kernel_rfl) t32
theorem q34o_inv  {c : CS} {r : CS} (h : (q34o  c).run = some r) : ∃ nl off N f, c = rk nl off N f ∧ (q34oB  nl off N f).run = some r := by
  unfold q34o at h
  split at h
  · rename_i nl off z_1 z_2 z_3 sh_4 N f
    obtain ⟨hc, hb⟩ := chkT_run h
    have h0 := hc 0 _ rfl
    have h0 := of_decide_eq_true h0; subst h0
    have h1 := hc 1 _ rfl
    have h1 := of_decide_eq_true h1; subst h1
    have h2 := hc 2 _ rfl
    have h2 := of_decide_eq_true h2; subst h2
    have h3 := hc 3 _ rfl
    have h3 := (shBeq_eq h3).symm; subst h3
    exact ⟨nl, off, N, f, rfl, hb⟩
  · cases h
theorem q33o_inv  {c : CS} {r : CS} (h : (q33o  c).run = some r) : ∃ nl off N f, c = rk nl off N f ∧ (q33oB  nl off N f).run = some r := by
  unfold q33o at h
  split at h
  · rename_i nl off z_1 z_2 z_3 sh_4 N f
    obtain ⟨hc, hb⟩ := chkT_run h
    have h0 := hc 0 _ rfl
    have h0 := of_decide_eq_true h0; subst h0
    have h1 := hc 1 _ rfl
    have h1 := of_decide_eq_true h1; subst h1
    have h2 := hc 2 _ rfl
    have h2 := of_decide_eq_true h2; subst h2
    have h3 := hc 3 _ rfl
    have h3 := (shBeq_eq h3).symm; subst h3
    exact ⟨nl, off, N, f, rfl, hb⟩
  · cases h
theorem val2 {f : Nat → Nat → AV} {N o : Nat} (h : okB f N = true) (hk : o + 2 ≤ N) : ∃ v : Nat, val f o 2 = (v : Int) ∧ v < 65536 := by
  obtain ⟨a, b⟩ := val_bnd h 2 o hk
  have b' : val f o 2 < 65536 := b
  exact ⟨(val f o 2).toNat, by omega, by omega⟩
theorem all_at2 {f : Nat → Nat → AV} {N o n : Nat} (h : okB f N = true) (hk : o + n ≤ N) {F : Nat → Int} (hF : ∀ i, i < n → F i = (f (o + i) 0).toI) : (List.all (List.range n) fun i => decide (0 ≤ F i) && decide (F i < 256)) = true := by
  rw [List.all_eq_true]
  intro i hi
  have hi := List.mem_range.1 hi
  obtain ⟨a, b⟩ := okB_at h (show o + i < N by omega)
  rw [hF i hi, decide_eq_true a, decide_eq_true b]; rfl
theorem str_eq {f : Nat → Nat → AV} {o n : Nat} {F : Nat → Int} (hF : ∀ i, i < n → F i = (f (o + i) 0).toI) : (List.map (fun i => Int.toNat (F i)) (List.range n)) = strV f o n := by
  unfold strV
  exact List.map_congr_left fun i hi => by rw [hF i (List.mem_range.1 hi)]; rfl
theorem t34 (c c' : CS) (h : (q34 c).run = some c') : ∃ m pr ros π c0 c1, Seen c c0 ∧ callC F3 m 34 1 pr ros π c0 = some c1 ∧ Seen c1 c' := by
  unfold q34 at h
  cases hb : badP c with
  | true =>
    rw [hb] at h
    simp only [cond_true] at h
    unfold q34f at h
    split at h
    · rename_i z _ _ _ _
      obtain ⟨hn, hb2⟩ := chkT_run h
      have hz := hn 0 _ rfl
      subst hz
      simp only [T.run, Option.some.injEq] at hb2; subst hb2
      exact ⟨1000, .keep, [pR], k34f_p, _, _, Seen.mk' (SeenVs.refl _) (.cons (SeenO.cells (.cons SeenV.nil (SeenVs.refl _))) (.skip .nil)), k34f_eq, Seen.refl _⟩
    · cases h
  | false =>
    rw [hb] at h
    simp only [cond_false] at h
    clear hb
    obtain ⟨nl, off, N, f, rfl, hb⟩ := q34o_inv h
    obtain ⟨hn, hb2⟩ := chkT_run hb
    have hok := hn 0 _ rfl
    have hoN := le_of (hn 1 _ rfl)
    have hN := le_of (hn 2 _ rfl)
    have hnl := hn 3 _ rfl
    clear h hb hn
    have e := k34_eq nl off N f
    simp only [show Int.toNat 2 = 2 from rfl] at e
    rw [hok, ble_t hoN, ble_t hN] at e
    simp only [T.run] at hb2
    by_cases hf : N < off + 2
    · rw [blt_t hf] at hb2 e
      simp only [cond_true, Option.some.injEq] at hb2; subst hb2
      exact ⟨1000, .keep, [pR], k34_p, _, _, Seen.refl _, e, Seen.refl _⟩
    · rw [blt_f hf] at hb2 e
      simp only [cond_false] at hb2
      obtain ⟨v, hv, hv2⟩ := val2 hok (show off + 2 ≤ N by omega)
      rw [hv] at hb2 e
      have e1 : IntKind.wrap .i64 (v : Int) = (v : Int) := wrap_i64 (by omega)
      rw [e1, decide_eq_false (show ¬ (v : Int) < 0 by omega)] at e
      cases nl with
      | true =>
        have : N = 0 := by simpa using hnl
        omega
      | false =>
      by_cases hg : (v : Int) > 16384
      · rw [decide_eq_true hg] at hb2 e
        simp only [cond_true, Option.some.injEq] at hb2; subst hb2
        cases hz : decide ((v : Int) > 0) <;> rw [hz] at e <;> exact ⟨1000, .keep, [pR], k34_p, _, _, Seen.refl _, e, Seen.refl _⟩
      · rw [decide_eq_false hg] at hb2 e
        simp only [cond_false, Int.toNat_natCast] at hb2 e
        by_cases hl : N < off + 2 + v
        · rw [blt_t hl] at hb2
          simp only [cond_true, Option.some.injEq] at hb2; subst hb2
          rw [decide_eq_true (show (v : Int) > ((N - (off + 2) : Nat) : Int) by omega)] at e
          exact ⟨1000, .keep, [pR], k34_p, _, _, Seen.refl _, e, Seen.refl _⟩
        · rw [blt_f hl] at hb2
          simp only [cond_false, Option.some.injEq] at hb2; subst hb2
          rw [decide_eq_false (show ¬ (v : Int) > ((N - (off + 2) : Nat) : Int) by omega), ble_t (show v ≤ N - (off + 2) by omega), decide_eq_true (show 0 ≤ (v : Int) by omega)] at e
          simp only [Nat.sub_zero, Nat.zero_add, Nat.add_zero] at e
          rw [ble_t (show off + 2 + v ≤ N by omega), growt (show v ≤ 2000000 by omega), ble_t (Nat.le_refl v)] at e
          by_cases h0 : v = 0
          · subst h0
            rw [Nat.beq_refl] at e
            refine ⟨1000, .keep, [pR], k34_p, _, _, Seen.refl _, e, Seen.mk' (SeenVs.refl _) (.cons (SeenO.cells (.cons (SeenV.of_eq ?_) (SeenVs.refl _))) (SeenOs.refl _))⟩
            rw [Nat.sub_sub]
          · have hz : Nat.beq v 0 = false := by rw [beq_iff, decide_eq_false h0]
            have hF : ∀ i, i < v → byteAt (fjoin (fun _ _ => AV.bad) 0 fun i j => f (off + 2 + i) j) i = (f (off + 2 + i) 0).toI := fun i hi => by
              unfold byteAt
              rw [fjoin_ge (Nat.zero_le _), Nat.sub_zero]
            rw [hz, all_at2 (o := off + 2) (n := v) hok (by omega) hF, str_eq (o := off + 2) (n := v) hF] at e
            refine ⟨1000, .keep, [pR], k34_p, _, _, Seen.refl _, e, Seen.mk' (SeenVs.refl _) (.cons (SeenO.cells (.cons (SeenV.of_eq ?_) (SeenVs.refl _))) (SeenOs.refl _))⟩
            rw [Nat.sub_sub]
theorem q4 : Bm.Good Try.prog F4 := q3.addI q3 (by kernel_rfl) t34
theorem t33 (c c' : CS) (h : (q33 c).run = some c') : ∃ m pr ros π c0 c1, Seen c c0 ∧ callC F4 m 33 1 pr ros π c0 = some c1 ∧ Seen c1 c' := by
  unfold q33 at h
  cases hb : badP c with
  | true =>
    rw [hb] at h
    simp only [cond_true] at h
    unfold q33f at h
    split at h
    · rename_i z _ _ _ _
      obtain ⟨hn, hb2⟩ := chkT_run h
      have hz := hn 0 _ rfl
      subst hz
      simp only [T.run, Option.some.injEq] at hb2; subst hb2
      exact ⟨1000, .keep, [pR], k33f_p, _, _, Seen.mk' (SeenVs.refl _) (.cons (SeenO.cells (.cons SeenV.nil (SeenVs.refl _))) (.skip .nil)), k33f_eq, Seen.refl _⟩
    · cases h
  | false =>
    rw [hb] at h
    simp only [cond_false] at h
    clear hb
    obtain ⟨nl, off, N, f, rfl, hb⟩ := q33o_inv h
    obtain ⟨hn, hb2⟩ := chkT_run hb
    have hok := hn 0 _ rfl
    have hoN := le_of (hn 1 _ rfl)
    have hN := le_of (hn 2 _ rfl)
    clear h hb hn
    have e := k33_eq nl off N f
    simp only [show Int.toNat 8 = 8 from rfl, show Int.toNat 4 = 4 from rfl, Nat.add_assoc, Nat.reduceAdd] at e
    rw [hok, ble_t hoN, ble_t hN] at e
    simp only [T.run] at hb2
    by_cases h1 : N < off + 8
    · rw [blt_t h1] at hb2 e
      simp only [cond_true, Option.some.injEq] at hb2; subst hb2
      exact ⟨1000, .keep, [pR], k33_p, _, _, Seen.refl _, e, Seen.refl _⟩
    · rw [blt_f h1, ble_t (show off + 8 ≤ N by omega)] at e
      rw [blt_f h1] at hb2
      by_cases h2 : N < off + 16
      · rw [blt_t h2] at hb2 e
        simp only [cond_true, cond_false, Option.some.injEq] at hb2; subst hb2
        exact ⟨1000, .keep, [pR], k33_p, _, _, Seen.refl _, e, Seen.refl _⟩
      · rw [blt_f h2, ble_t (show off + 16 ≤ N by omega)] at e
        rw [blt_f h2] at hb2
        by_cases h3 : N < off + 20
        · rw [blt_t h3] at hb2 e
          simp only [cond_true, cond_false, Option.some.injEq] at hb2; subst hb2
          exact ⟨1000, .keep, [pR], k33_p, _, _, Seen.refl _, e, Seen.refl _⟩
        · rw [blt_f h3, ble_t (show off + 20 ≤ N by omega)] at e
          rw [blt_f h3] at hb2
          by_cases h4 : N < off + 24
          · rw [blt_t h4] at hb2 e
            simp only [cond_true, cond_false, Option.some.injEq] at hb2; subst hb2
            exact ⟨1000, .keep, [pR], k33_p, _, _, Seen.refl _, e, Seen.refl _⟩
          · rw [blt_f h4] at e hb2
            simp only [cond_false, Option.some.injEq] at hb2; subst hb2
            exact ⟨1000, .keep, [pR], k33_p, _, _, Seen.refl _, e, Seen.refl _⟩
theorem q5 : Bm.Good Try.prog F5 := q4.addI q4 (by kernel_rfl) t33
theorem fail14 (n : Int) (i : Nat) : Loops (fun c => stepC F5 1000 (loopC F5 14 0) 1 h14 ((.normal, h14) :: x14) (p14 c) c) (c14b n i) 1 FAIL14 := by
  have e := s14b_eq n i
  cases hd : decide ((i : Int) < n) <;> rw [hd] at e <;> exact .out e (Seen.refl _)
theorem b14 {n : Int} {i : Nat} (hi : i < 1000) {s : AV} (hs : SeenV s .nilSlice) {x1 x2 x3 x4 x5 x6 x7 x8 x9 x10 : AV} {o3 o4 : Option AObj} :
    Seen ⟨[.ptr 0 0, .ptr 1 0, .ptr 2 0, .int .i64 n, .int .i64 (IntKind.wrap .i64 ((i : Int) + 1))], [some (.cells [s, .bool true] true), some (.cells [.bad, .bad, .bad, .bad, .bad, .bad, .bad, .bad, .bad, .bad] true), some (.cells [x1, x2, x3, x4, x5, x6, x7, x8, x9, x10] true), o3, o4]⟩ (c14b n (i + 1)) :=
  Seen.mk' (.cons (SeenV.refl _) (.cons (SeenV.refl _) (.cons (SeenV.refl _) (.cons (SeenV.refl _) (.cons (SeenV.of_eq (by rw [wrap_i64s (by omega)])) .nil)))))
    (.cons (SeenO.cells (.cons hs (SeenVs.refl _))) (.cons (SeenO.refl _) (.cons (SeenO.cells (.cons SeenV.bad (.cons SeenV.bad (.cons SeenV.bad (.cons SeenV.bad (.cons SeenV.bad (.cons SeenV.bad (.cons SeenV.bad (.cons SeenV.bad (.cons SeenV.bad (.cons SeenV.bad .nil))))))))))) (.skip (.skip .nil)))))
theorem rows_at {f : Nat → Nat → AV} {off j : Nat} {o : Nat} (ho : o = off + 24 * j) {F : Nat → Nat → AV} (hF : ∀ a b, a < j → F a b = lookF f off a b) {i : Nat} (hi : i < j + 1) {q : Nat} {s : Sh} (hs : shL[q]? = some s) :
    view s (fjoin F j (rowsOf 4 [.int .u64 (val f o 8), .int .u64 (val f (o + 8) 8), .int .u32 (IntKind.wrap .u32 (val f (o + 16) 4)), .int .u32 (IntKind.wrap .u32 (val f (o + 20) 4))] 1) i q) = view s (lookF f off i q) := by
  subst ho
  unfold fjoin
  rw [blt_iff]
  by_cases h : i < j
  · rw [decide_eq_true h, cond_true, hF i q h]
  · have : i = j := by omega
    subst this
    rw [decide_eq_false h, cond_false]
    match q, hs with
    | 0, hs => simp at hs; subst hs; rfl
    | 1, hs => simp at hs; subst hs; rfl
    | 2, hs => simp at hs; subst hs; rfl
    | 3, hs => simp at hs; subst hs; rfl
    | q + 4, hs => simp at hs
theorem grow24 {n : Nat} (h : n ≤ 2000) : growB 24 n = true := by
  unfold growB
  rw [ble_t (show n ≤ 281474976710656 by omega), ble_t (show n * 24 ≤ 17179869184 by omega)]; rfl
theorem l14 (nl : Bool) (off N : Nat) (f : Nat → Nat → AV) (ix tm st kd cl rq fr ct : Int) (d : List Nat) (K : Nat) (hK : K ≤ 64) (hok : okB f N = true) (hN : N ≤ 1000000) : ∀ (r j : Nat), j + r = K → 1 ≤ j → off + 24 * j ≤ N →
    Loops (fun c => stepC F5 1000 (loopC F5 14 0) 1 h14 ((.normal, h14) :: x14) (p14 c) c) (c14f nl (off + 24 * j) N f ix tm st kd cl rq fr ct d j (lookF f off) K j) 1
      (cond (Nat.blt N (off + 24 * K)) FAIL14 ⟨[.ptr 0 0, .ptr 1 0, .ptr 2 0], [some (.cells [.osl nl 3 (off + 24 * K) (N - (off + 24 * K)) (N - (off + 24 * K)) 1 true, .bool false] true), some (.cells b10 true), some (.cells [.int .u64 ix, .int .u64 tm, .int .u64 st, .int .i64 kd, .int .u64 cl, .int .u64 rq, .int .u32 fr, .int .u32 ct, .str d, .osl false 4 0 K K 4 true] true), some (.tarr shB N f false), some (.tarr shL K (lookF f off) true)]⟩)
  | 0, j, hj, _, hb => by
    have : j = K := by omega
    subst this
    have e := s14f_eq nl (off + 24 * j) N f ix tm st kd cl rq fr ct d j (lookF f off) j j
    rw [lt0] at e
    rw [blt_f (show ¬ N < off + 24 * j by omega)]
    exact .out e (Seen.refl _)
  | r + 1, j, hj, h1, hb => by
    have e := s14f_eq nl (off + 24 * j) N f ix tm st kd cl rq fr ct d j (lookF f off) K j
    have hB : ∀ x, N < off + 24 * j + x → x ≤ 24 → Nat.blt N (off + 24 * K) = true := fun x h1 h2 => blt_t (by omega)
    rw [lt1 (show j < K by omega), hok, ble_t hb, ble_t hN, ble_f (show ¬ j + 1 ≤ j by omega), grow24 (by omega), ble_t (show 0 + j ≤ j by omega)] at e
    by_cases q1 : N < off + 24 * j + 8
    · rw [blt_t q1] at e
      rw [hB _ q1 (by omega)]
      exact .go e (b14 (by omega) SeenV.nil) (fail14 _ _)
    · rw [blt_f q1] at e
      by_cases q2 : N < off + 24 * j + 16
      · rw [blt_t q2] at e
        rw [hB _ q2 (by omega)]
        exact .go e (b14 (by omega) SeenV.nil) (fail14 _ _)
      · rw [blt_f q2] at e
        by_cases q3 : N < off + 24 * j + 20
        · rw [blt_t q3] at e
          rw [hB _ q3 (by omega)]
          exact .go e (b14 (by omega) SeenV.nil) (fail14 _ _)
        · rw [blt_f q3] at e
          by_cases q4 : N < off + 24 * j + 24
          · rw [blt_t q4] at e
            rw [hB _ q4 (by omega)]
            exact .go e (b14 (by omega) SeenV.nil) (fail14 _ _)
          · rw [blt_f q4] at e
            refine .go e (Seen.mk' (.cons (SeenV.refl _) (.cons (SeenV.refl _) (.cons (SeenV.refl _) (.cons (SeenV.refl _) (.cons (SeenV.of_eq ?_) .nil))))) (.cons (SeenO.cells (.cons (SeenV.of_eq ?_) (SeenVs.refl _))) (.cons (SeenO.refl _) (.cons (SeenO.refl _) (.cons (SeenO.refl _) (.cons (SeenO.arr fun i hi q s hs => ?_) .nil)))))) (l14 nl off N f ix tm st kd cl rq fr ct d K hK hok hN r (j + 1) (by omega) (by omega) (by omega))
            · rw [wrap_i64s (by omega)]
            · rw [show off + 24 * j + 24 = off + 24 * (j + 1) by omega]
            · exact rows_at rfl (fun a b _ => by rw [Nat.zero_add]) hi hs
theorem i14 (c : CS) (r : Nat × CS) (h : (r14 c).run = some r) : Loops (fun c => stepC F5 1000 (loopC F5 14 0) 1 h14 ((.normal, h14) :: x14) (p14 c) c) c r.1 r.2 := by
  unfold r14 at h
  cases hb : badP c with
  | true =>
    rw [hb] at h
    simp only [cond_true] at h
    unfold r14f at h
    split at h
    · rename_i n z0 z _ _ _ _ x1 x2 x3 x4 x5 x6 x7 x8 x9 x10 y1 y2 y3 y4 y5 y6 y7 y8 y9 y10 _ _
      obtain ⟨hn, hb2⟩ := chkT_run h
      have e1 := of_decide_eq_true (hn 0 _ rfl)
      have e2 := hn 1 _ rfl
      subst e1; subst e2
      simp only [T.run, Option.some.injEq] at hb2; subst hb2
      refine .see (c1 := c14b n 0) (Seen.mk' (SeenVs.refl _) (.cons (SeenO.cells (.cons SeenV.nil (SeenVs.refl _))) (.cons (SeenO.cells ?_) (.cons (SeenO.cells ?_) (.skip (.skip .nil)))))) (fail14 n 0)
      · exact (.cons SeenV.bad (.cons SeenV.bad (.cons SeenV.bad (.cons SeenV.bad (.cons SeenV.bad (.cons SeenV.bad (.cons SeenV.bad (.cons SeenV.bad (.cons SeenV.bad (.cons SeenV.bad .nil))))))))))
      · exact (.cons SeenV.bad (.cons SeenV.bad (.cons SeenV.bad (.cons SeenV.bad (.cons SeenV.bad (.cons SeenV.bad (.cons SeenV.bad (.cons SeenV.bad (.cons SeenV.bad (.cons SeenV.bad .nil))))))))))
    · cases h
  | false =>
    rw [hb] at h
    simp only [cond_false] at h
    unfold r14o at h
    split at h
    · rename_i n z0 nl off l l2 x1 x2 x3 x4 x5 x6 x7 x8 x9 x10 ix tm st kd cl rq fr ct d z1 _ _ _ _ sh N f _
      obtain ⟨hn, hb2⟩ := chkT_run h
      have e1 := of_decide_eq_true (hn 0 _ rfl)
      have e2 := of_decide_eq_true (hn 1 _ rfl)
      have e3 := of_decide_eq_true (hn 2 _ rfl)
      have e4 := hn 3 _ rfl
      have e5 := (shBeq_eq (hn 4 _ rfl)).symm
      have hok := hn 5 _ rfl
      have hoN := le_of (hn 6 _ rfl)
      have hN := le_of (hn 7 _ rfl)
      have h64 := not_gt (hn 8 _ rfl)
      subst e1; subst e2; subst e3; subst e4; subst e5
      clear hn h hb
      refine .see (c1 := c14t nl off N f ix tm st kd cl rq fr ct d n 0) (Seen.mk' (SeenVs.refl _) (.cons (SeenO.refl _) (.cons (SeenO.cells ?_) (.cons (SeenO.cells ?_) (.cons (SeenO.refl _) (.skip .nil)))))) ?_
      · exact (.cons SeenV.bad (.cons SeenV.bad (.cons SeenV.bad (.cons SeenV.bad (.cons SeenV.bad (.cons SeenV.bad (.cons SeenV.bad (.cons SeenV.bad (.cons SeenV.bad (.cons SeenV.bad .nil))))))))))
      · exact (.cons (SeenV.refl _) (.cons (SeenV.refl _) (.cons (SeenV.refl _) (.cons (SeenV.refl _) (.cons (SeenV.refl _) (.cons (SeenV.refl _) (.cons (SeenV.refl _) (.cons (SeenV.refl _) (.cons (SeenV.refl _) (.cons SeenV.nil .nil))))))))))
      have e := s14t_eq nl off N f ix tm st kd cl rq fr ct d n 0
      simp only [T.run] at hb2
      by_cases h0 : n.toNat = 0
      · rw [h0, Nat.beq_refl] at hb2
        simp only [cond_true, Option.some.injEq] at hb2; subst hb2
        rw [decide_eq_false (show ¬ ((0 : Nat) : Int) < n by omega)] at e
        exact .out e (Seen.refl _)
      · have hz : Nat.beq n.toNat 0 = false := by rw [beq_iff, decide_eq_false h0]
        rw [hz] at hb2
        simp only [cond_false] at hb2
        obtain ⟨K, rfl⟩ : ∃ K : Nat, n = (K : Int) := ⟨n.toNat, by omega⟩
        simp only [Int.toNat_natCast] at hb2 h0
        have hr : r = (1, cond (Nat.blt N (off + 24 * K)) FAIL14 ⟨[.ptr 0 0, .ptr 1 0, .ptr 2 0], [some (.cells [.osl nl 3 (off + 24 * K) (N - (off + 24 * K)) (N - (off + 24 * K)) 1 true, .bool false] true), some (.cells b10 true), some (.cells [.int .u64 ix, .int .u64 tm, .int .u64 st, .int .i64 kd, .int .u64 cl, .int .u64 rq, .int .u32 fr, .int .u32 ct, .str d, .osl false 4 0 K K 4 true] true), some (.tarr shB N f false), some (.tarr shL K (lookF f off) true)]⟩) := by
          cases hq : Nat.blt N (off + 24 * K) <;> rw [hq] at hb2 <;> simp only [cond_true, cond_false, Option.some.injEq] at hb2 <;> exact hb2.symm
        subst hr; clear hb2
        have hB : ∀ x, N < off + x → x ≤ 24 → Nat.blt N (off + 24 * K) = true := fun x h1 h2 => blt_t (by omega)
        rw [lt1 (show 0 < K by omega), hok, ble_t hoN, ble_t hN] at e
        by_cases q1 : N < off + 8
        · rw [blt_t q1] at e
          rw [hB _ q1 (by omega)]
          exact .go e (b14 (by omega) SeenV.nil) (fail14 _ _)
        · rw [blt_f q1] at e
          by_cases q2 : N < off + 16
          · rw [blt_t q2] at e
            rw [hB _ q2 (by omega)]
            exact .go e (b14 (by omega) SeenV.nil) (fail14 _ _)
          · rw [blt_f q2] at e
            by_cases q3 : N < off + 20
            · rw [blt_t q3] at e
              rw [hB _ q3 (by omega)]
              exact .go e (b14 (by omega) SeenV.nil) (fail14 _ _)
            · rw [blt_f q3] at e
              by_cases q4 : N < off + 24
              · rw [blt_t q4] at e
                rw [hB _ q4 (by omega)]
                exact .go e (b14 (by omega) SeenV.nil) (fail14 _ _)
              · rw [blt_f q4] at e
                refine .go e (Seen.mk' (.cons (SeenV.refl _) (.cons (SeenV.refl _) (.cons (SeenV.refl _) (.cons (SeenV.refl _) (.cons (SeenV.of_eq ?_) .nil))))) (.cons (SeenO.cells (.cons (SeenV.of_eq ?_) (SeenVs.refl _))) (.cons (SeenO.refl _) (.cons (SeenO.refl _) (.cons (SeenO.refl _) (.cons (SeenO.arr fun i hi q s hs => ?_) .nil)))))) (l14 nl off N f ix tm st kd cl rq fr ct d K (by omega) hok hN (K - 1) 1 (by omega) (by omega) (by omega))
                · rfl
                · rfl
                · have : i = 0 := by omega
                  subst this
                  match q, hs with
                  | 0, hs => simp at hs; subst hs; rfl
                  | 1, hs => simp at hs; subst hs; rfl
                  | 2, hs => simp at hs; subst hs; rfl
                  | 3, hs => simp at hs; subst hs; rfl
                  | q + 4, hs => simp at hs
    · cases h
theorem q6 : Bm.Good Try.prog F6 := q5.addS (by kernel_rfl) rfl (by decide) (by decide) rfl i14
theorem q7 : Bm.Good Try.prog F7 := q6
theorem q14o_inv  {c : CS} {r : CS} (h : (q14o  c).run = some r) : ∃ nl off N f, c = rk nl off N f ∧ (q14oB  nl off N f).run = some r := by
  unfold q14o at h
  split at h
  · rename_i nl off z_1 z_2 z_3 sh_4 N f
    obtain ⟨hc, hb⟩ := chkT_run h
    have h0 := hc 0 _ rfl
    have h0 := of_decide_eq_true h0; subst h0
    have h1 := hc 1 _ rfl
    have h1 := of_decide_eq_true h1; subst h1
    have h2 := hc 2 _ rfl
    have h2 := of_decide_eq_true h2; subst h2
    have h3 := hc 3 _ rfl
    have h3 := (shBeq_eq h3).symm; subst h3
    exact ⟨nl, off, N, f, rfl, hb⟩
  · cases h
theorem entF {f : Nat → Nat → AV} {off N : Nat} (h : ¬ (off + 51 ≤ N ∧ tlen f off ≤ 16384 ∧ off + (51 + (tlen f off + 1)) ≤ N ∧ bnum f off ≤ 64 ∧ eEnd f off ≤ N)) : entOK f off N = false := by
  cases hq : entOK f off N with
  | false => rfl
  | true =>
    rw [entOK_eq] at hq
    simp only [Bool.and_eq_true, decide_eq_true_eq] at hq
    exact absurd hq h
theorem entT {f : Nat → Nat → AV} {off N : Nat} (h : off + 51 ≤ N ∧ tlen f off ≤ 16384 ∧ off + (51 + (tlen f off + 1)) ≤ N ∧ bnum f off ≤ 64 ∧ eEnd f off ≤ N) : entOK f off N = true := by
  rw [entOK_eq]
  simp only [Bool.and_eq_true, decide_eq_true_eq]
  exact h
theorem val1 {f : Nat → Nat → AV} {N o : Nat} (h : okB f N = true) (hk : o + 1 ≤ N) : ∃ v : Nat, val f o 1 = (v : Int) ∧ v < 256 := by
  obtain ⟨a, b⟩ := val_bnd h 1 o hk
  have b' : val f o 1 < 256 := b
  exact ⟨(val f o 1).toNat, by omega, by omega⟩
theorem t14 (c c' : CS) (h : (q14o c).run = some c') : ∃ m pr ros π c0 c1, Seen c c0 ∧ callC F7 m 14 1 pr ros π c0 = some c1 ∧ Seen c1 c' := by
  obtain ⟨nl, off, N, f, rfl, hb⟩ := q14o_inv h
  obtain ⟨hn, hb2⟩ := chkT_run hb
  have hok := hn 0 _ rfl
  have hoN := le_of (hn 1 _ rfl)
  have hN := le_of (hn 2 _ rfl)
  have hnl := hn 3 _ rfl
  clear h hb hn
  have e := k14_eq nl off N f
  simp only [show Int.toNat 8 = 8 from rfl, show Int.toNat 1 = 1 from rfl, Nat.add_assoc, Nat.reduceAdd] at e
  rw [hok, ble_t hoN, ble_t hN, hnl] at e
  simp only [T.run] at hb2
  have fin : entOK f off N = false → k14 nl off N f k14_p = some ⟨[eZero], failP⟩ → ∃ m pr ros π c0 c1, Seen (rk nl off N f) c0 ∧ callC F7 m 14 1 pr ros π c0 = some c1 ∧ Seen c1 c' := fun h1 h2 => by
    rw [h1] at hb2
    simp only [cond_false, Option.some.injEq] at hb2; subst hb2
    exact ⟨1000, .keep, [pR], k14_p, _, _, Seen.refl _, h2, Seen.refl _⟩
  by_cases p1 : N < off + 8
  · rw [blt_t p1] at e
    exact fin (entF (by omega)) e
  rw [blt_f p1, ble_t (show off + 8 ≤ N by omega)] at e
  by_cases p2 : N < off + 16
  · rw [blt_t p2] at e
    exact fin (entF (by omega)) e
  rw [blt_f p2, ble_t (show off + 16 ≤ N by omega)] at e
  by_cases p3 : N < off + 24
  · rw [blt_t p3] at e
    exact fin (entF (by omega)) e
  rw [blt_f p3, ble_t (show off + 24 ≤ N by omega)] at e
  by_cases p4 : N < off + 25
  · rw [blt_t p4] at e
    exact fin (entF (by omega)) e
  rw [blt_f p4, ble_t (show off + 25 ≤ N by omega)] at e
  by_cases p5 : N < off + 33
  · rw [blt_t p5] at e
    exact fin (entF (by omega)) e
  rw [blt_f p5] at e
  by_cases p6 : N < off + 41
  · rw [blt_t p6] at e
    exact fin (entF (by omega)) e
  rw [blt_f p6] at e
  by_cases p7 : N < off + 45
  · rw [blt_t p7] at e
    exact fin (entF (by omega)) e
  rw [blt_f p7] at e
  by_cases p8 : N < off + 49
  · rw [blt_t p8] at e
    exact fin (entF (by omega)) e
  rw [blt_f p8, ble_t (show off + 49 ≤ N by omega)] at e
  by_cases p9 : N < off + 51
  · rw [blt_t p9] at e
    exact fin (entF (by omega)) e
  rw [blt_f p9] at e
  obtain ⟨T, hT, hT2⟩ := val2 hok (show off + 49 + 2 ≤ N by omega)
  have tl : tlen f off = T := by unfold tlen; rw [hT, Int.toNat_natCast]
  simp only [hT, Int.toNat_natCast] at e
  by_cases p10 : (T : Int) > 16384
  · rw [decide_eq_true p10] at e
    exact fin (entF (by rw [tl]; omega)) e
  rw [decide_eq_false p10] at e
  by_cases p11 : N < off + (51 + T)
  · rw [blt_t p11] at e
    exact fin (entF (by rw [tl]; omega)) e
  rw [blt_f p11, ble_t (show off + (51 + T) ≤ N by omega)] at e
  by_cases p12 : N < off + (51 + (T + 1))
  · rw [blt_t p12] at e
    exact fin (entF (by rw [tl]; omega)) e
  rw [blt_f p12, ble_t (show off + (51 + (T + 1)) ≤ N by omega)] at e
  obtain ⟨B, hB, hB2⟩ := val1 hok (show off + (51 + T) + 1 ≤ N by omega)
  have bn : bnum f off = B := by unfold bnum; rw [tl, hB, Int.toNat_natCast]
  have e1 : IntKind.wrap .i64 (B : Int) = (B : Int) := wrap_i64 (by omega)
  simp only [hB, e1, Int.toNat_natCast] at e
  by_cases p13 : (B : Int) > 64
  · rw [decide_eq_true p13] at e
    exact fin (entF (by rw [bn]; omega)) e
  rw [decide_eq_false p13] at e
  by_cases p14 : B = 0
  · subst p14
    rw [Nat.beq_refl] at e
    have hE : entOK f off N = true := entT ⟨by omega, by rw [tl]; omega, by rw [tl]; omega, by rw [bn]; omega, by unfold eEnd; rw [tl, bn]; omega⟩
    rw [hE, bn, Nat.beq_refl] at hb2
    simp only [cond_true, Option.some.injEq] at hb2; subst hb2
    refine ⟨1000, .keep, [pR], k14_p, _, _, Seen.refl _, e, Seen.of_eq ?_⟩
    unfold eVal eEnd
    rw [tl, bn]
    rfl
  · have hz : Nat.beq B 0 = false := by rw [beq_iff, decide_eq_false p14]
    rw [hz] at e
    by_cases p15 : N < off + (51 + (T + (1 + 24 * B)))
    · rw [blt_t p15] at e
      exact fin (entF (by unfold eEnd; rw [tl, bn]; omega)) e
    rw [blt_f p15] at e
    have hE : entOK f off N = true := entT ⟨by omega, by rw [tl]; omega, by rw [tl]; omega, by rw [bn]; omega, by unfold eEnd; rw [tl, bn]; omega⟩
    rw [hE, bn, hz] at hb2
    simp only [cond_true, cond_false, Option.some.injEq] at hb2; subst hb2
    refine ⟨1000, .keep, [pR], k14_p, _, _, Seen.refl _, e, Seen.of_eq ?_⟩
    unfold eVal eEnd
    rw [tl, bn]
    rfl
theorem q8 : Bm.Good Try.prog F8 := q7.addI q7 (by kernel_rfl) t14
end Go.Proofs.Ytjbjjikdihghmaa.entry
