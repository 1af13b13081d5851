/- Entries, written: what the loops and the functions come to. -/
import Derived.Test.YtjbjjikdihghmaaOcB
import Derived.Test.YtjbjjikdihghmaaEwA
set_option linter.unusedSimpArgs false
set_option linter.unusedVariables false
namespace Go.Proofs.Ytjbjjikdihghmaa.entry
open Go Go.RowKit Go.Proofs.Ytjbjjikdihghmaa.Bm
theorem f24_inv  {c : CS} {r : CS} (h : (f24  c).run = some r) : ∃ n f d, c = a24 n f d ∧ (f24B  n f d).run = some r := by
  unfold f24 at h
  split at h
  · rename_i z_1 n z_2 d sh_3 z_4 f
    obtain ⟨hc, hb⟩ := chkT_run h
    have h0 := hc 0 _ rfl
    have h0 := of_decide_eq_true h0; subst h0
    have h1 := hc 1 _ rfl
    have h1 := of_decide_eq_true h1; subst h1
    have h2 := hc 2 _ rfl
    have h2 := (shBeq_eq h2).symm; subst h2
    have h3 := hc 3 _ rfl
    have h3 := of_decide_eq_true h3; subst h3
    exact ⟨n, f, d, rfl, hb⟩
  · cases h
theorem f29_inv  {c : CS} {r : CS} (h : (f29  c).run = some r) : ∃ n f d, c = a24 n f d ∧ (f29B  n f d).run = some r := by
  unfold f29 at h
  split at h
  · rename_i z_1 n z_2 d sh_3 z_4 f
    obtain ⟨hc, hb⟩ := chkT_run h
    have h0 := hc 0 _ rfl
    have h0 := of_decide_eq_true h0; subst h0
    have h1 := hc 1 _ rfl
    have h1 := of_decide_eq_true h1; subst h1
    have h2 := hc 2 _ rfl
    have h2 := (shBeq_eq h2).symm; subst h2
    have h3 := hc 3 _ rfl
    have h3 := of_decide_eq_true h3; subst h3
    exact ⟨n, f, d, rfl, hb⟩
  · cases h
theorem f22_inv  {c : CS} {r : CS} (h : (f22  c).run = some r) : ∃ n f cl rq fr ct, c = a22 n f cl rq fr ct ∧ (f22B  n f cl rq fr ct).run = some r := by
  unfold f22 at h
  split at h
  · rename_i z_1 n z_2 cl rq fr ct sh_3 z_4 f
    obtain ⟨hc, hb⟩ := chkT_run h
    have h0 := hc 0 _ rfl
    have h0 := of_decide_eq_true h0; subst h0
    have h1 := hc 1 _ rfl
    have h1 := of_decide_eq_true h1; subst h1
    have h2 := hc 2 _ rfl
    have h2 := (shBeq_eq h2).symm; subst h2
    have h3 := hc 3 _ rfl
    have h3 := of_decide_eq_true h3; subst h3
    exact ⟨n, f, cl, rq, fr, ct, rfl, hb⟩
  · cases h
theorem f26_inv  {c : CS} {r : CS} (h : (f26  c).run = some r) : ∃ n f cl rq fr ct, c = a22 n f cl rq fr ct ∧ (f26B  n f cl rq fr ct).run = some r := by
  unfold f26 at h
  split at h
  · rename_i z_1 n z_2 cl rq fr ct sh_3 z_4 f
    obtain ⟨hc, hb⟩ := chkT_run h
    have h0 := hc 0 _ rfl
    have h0 := of_decide_eq_true h0; subst h0
    have h1 := hc 1 _ rfl
    have h1 := of_decide_eq_true h1; subst h1
    have h2 := hc 2 _ rfl
    have h2 := (shBeq_eq h2).symm; subst h2
    have h3 := hc 3 _ rfl
    have h3 := of_decide_eq_true h3; subst h3
    exact ⟨n, f, cl, rq, fr, ct, rfl, hb⟩
  · cases h
theorem r8_inv  {c : CS} {r : Nat × CS} (h : (r8  c).run = some r) : ∃ n f nl2 m g, c = c8 n f nl2 m g 0 ∧ (r8B  n f nl2 m g).run = some r := by
  unfold r8 at h
  split at h
  · rename_i z_1 n z_2 nl2 m z_3 z_4 z_5 sh_6 z_7 f sh_8 z_9 g
    obtain ⟨hc, hb⟩ := chkT_run h
    have h0 := hc 0 _ rfl
    have h0 := of_decide_eq_true h0; subst h0
    have h1 := hc 1 _ rfl
    have h1 := of_decide_eq_true h1; subst h1
    have h2 := hc 2 _ rfl
    have h2 := of_decide_eq_true h2; subst h2
    have h3 := hc 3 _ rfl
    have h3 := of_decide_eq_true h3; subst h3
    have h4 := hc 4 _ rfl
    have h4 := of_decide_eq_true h4; subst h4
    have h5 := hc 5 _ rfl
    have h5 := (shBeq_eq h5).symm; subst h5
    have h6 := hc 6 _ rfl
    have h6 := of_decide_eq_true h6; subst h6
    have h7 := hc 7 _ rfl
    have h7 := (shBeq_eq h7).symm; subst h7
    have h8 := hc 8 _ rfl
    have h8 := of_decide_eq_true h8; subst h8
    exact ⟨n, f, nl2, m, g, rfl, hb⟩
  · cases h
theorem r9_inv  {c : CS} {r : Nat × CS} (h : (r9  c).run = some r) : ∃ ix tm st kd cl rq fr ct d nl2 n f m g, c = c9 ix tm st kd cl rq fr ct d nl2 n f m g 0 ∧ (r9B  ix tm st kd cl rq fr ct d nl2 n f m g).run = some r := by
  unfold r9 at h
  split at h
  · rename_i z_1 n z_2 z_3 ix tm st kd cl rq fr ct d nl2 m z_4 sh_5 z_6 f sh_7 z_8 g
    obtain ⟨hc, hb⟩ := chkT_run h
    have h0 := hc 0 _ rfl
    have h0 := of_decide_eq_true h0; subst h0
    have h1 := hc 1 _ rfl
    have h1 := of_decide_eq_true h1; subst h1
    have h2 := hc 2 _ rfl
    have h2 := of_decide_eq_true h2; subst h2
    have h3 := hc 3 _ rfl
    have h3 := of_decide_eq_true h3; subst h3
    have h4 := hc 4 _ rfl
    have h4 := (shBeq_eq h4).symm; subst h4
    have h5 := hc 5 _ rfl
    have h5 := of_decide_eq_true h5; subst h5
    have h6 := hc 6 _ rfl
    have h6 := (shBeq_eq h6).symm; subst h6
    have h7 := hc 7 _ rfl
    have h7 := of_decide_eq_true h7; subst h7
    exact ⟨ix, tm, st, kd, cl, rq, fr, ct, d, nl2, n, f, m, g, rfl, hb⟩
  · cases h
theorem f8_inv  {c : CS} {r : CS} (h : (f8  c).run = some r) : ∃ ix tm st kd cl rq fr ct d nl2 m g, c = a8 ix tm st kd cl rq fr ct d nl2 m g ∧ (f8B  ix tm st kd cl rq fr ct d nl2 m g).run = some r := by
  unfold f8 at h
  split at h
  · rename_i ix tm st kd cl rq fr ct d nl2 m z_1 sh_2 z_3 g
    obtain ⟨hc, hb⟩ := chkT_run h
    have h0 := hc 0 _ rfl
    have h0 := of_decide_eq_true h0; subst h0
    have h1 := hc 1 _ rfl
    have h1 := (shBeq_eq h1).symm; subst h1
    have h2 := hc 2 _ rfl
    have h2 := of_decide_eq_true h2; subst h2
    exact ⟨ix, tm, st, kd, cl, rq, fr, ct, d, nl2, m, g, rfl, hb⟩
  · cases h
theorem f9_inv  {c : CS} {r : CS} (h : (f9  c).run = some r) : ∃ ix tm st kd cl rq fr ct d nl2 m g, c = a8 ix tm st kd cl rq fr ct d nl2 m g ∧ (f9B  ix tm st kd cl rq fr ct d nl2 m g).run = some r := by
  unfold f9 at h
  split at h
  · rename_i ix tm st kd cl rq fr ct d nl2 m z_1 sh_2 z_3 g
    obtain ⟨hc, hb⟩ := chkT_run h
    have h0 := hc 0 _ rfl
    have h0 := of_decide_eq_true h0; subst h0
    have h1 := hc 1 _ rfl
    have h1 := (shBeq_eq h1).symm; subst h1
    have h2 := hc 2 _ rfl
    have h2 := of_decide_eq_true h2; subst h2
    exact ⟨ix, tm, st, kd, cl, rq, fr, ct, d, nl2, m, g, rfl, hb⟩
  · cases h
theorem joinCC {F f X Y : Nat → Nat → AV} {n1 n m : Nat} (e : n1 = n) (h : ∀ b, b < n → (F b 0).toI = (f b 0).toI) (hX : ∀ b, b < m → (X b 0).toI = (Y b 0).toI) (a : Nat) (ha : a < n + m) : (fjoin F n1 X a 0).toI = (fjoin f n Y a 0).toI := by
  subst e
  by_cases h1 : a < n1
  · rw [fjoin_lt h1, fjoin_lt h1, h a h1]
  · rw [fjoin_ge (by omega), fjoin_ge (by omega), hX _ (by omega)]
theorem one_all (x : Int) (b : Nat) (hb : b < 1) : (allB 1 (rowsOf 1 [.int .u64 x] 1) b 0).toI = (oneB x b 0).toI := by
  have : b = 0 := by omega
  subst this; rfl
theorem lookI1 {cl rq fr ct : Int} {a : Nat} (h : a < 8) : lookI cl rq fr ct a = byt cl a := by
  simp only [lookI, blt_iff, decide_eq_true h, cond_true]
theorem lookI2 {cl rq fr ct : Int} {a : Nat} (h : 8 ≤ a) (h2 : a < 16) : lookI cl rq fr ct a = byt rq (a - 8) := by
  simp only [lookI, blt_iff, decide_eq_true h2, decide_eq_false (show ¬ a < 8 by omega), cond_true, cond_false]
theorem lookI3 {cl rq fr ct : Int} {a : Nat} (h : 16 ≤ a) (h2 : a < 20) : lookI cl rq fr ct a = byt (IntKind.wrap .u64 fr) (a - 16) := by
  simp only [lookI, blt_iff, decide_eq_true h2, decide_eq_false (show ¬ a < 8 by omega), decide_eq_false (show ¬ a < 16 by omega), cond_true, cond_false]
theorem lookI4 {cl rq fr ct : Int} {a : Nat} (h : 20 ≤ a) : lookI cl rq fr ct a = byt (IntKind.wrap .u64 ct) (a - 20) := by
  simp only [lookI, blt_iff, decide_eq_false (show ¬ a < 20 by omega), decide_eq_false (show ¬ a < 8 by omega), decide_eq_false (show ¬ a < 16 by omega), cond_true, cond_false]
theorem two8 {x y : Int} {a : Nat} (h : a < 16) : (allB 8 (rowsOf 1 [.int .u64 x, .int .u64 y] 2) a 0).toI = cond (Nat.blt a 8) (byt x a) (byt y (a - 8)) := by
  show byt _ _ = _
  by_cases h1 : a < 8
  · rw [blt_iff, decide_eq_true h1, cond_true, show a / 8 = 0 by omega, show a % 8 = a by omega]; rfl
  · rw [blt_iff, decide_eq_false h1, cond_false, show a / 8 = 1 by omega, show a % 8 = a - 8 by omega]; rfl
theorem two4 {x y : Int} {a : Nat} (h : a < 8) : (allB 4 (rowsOf 1 [.int .u64 x, .int .u64 y] 2) a 0).toI = cond (Nat.blt a 4) (byt x a) (byt y (a - 4)) := by
  show byt _ _ = _
  by_cases h1 : a < 4
  · rw [blt_iff, decide_eq_true h1, cond_true, show a / 4 = 0 by omega, show a % 4 = a by omega]; rfl
  · rw [blt_iff, decide_eq_false h1, cond_false, show a / 4 = 1 by omega, show a % 4 = a - 4 by omega]; rfl
theorem look_at {f : Nat → Nat → AV} {n : Nat} {cl rq fr ct : Int} {i : Nat} (hi : i < n + 24) :
    (fjoin (fjoin f n (allB 8 (rowsOf 1 [.int .u64 cl, .int .u64 rq] 2))) (n + 16) (allB 4 (rowsOf 1 [.int .u64 (IntKind.wrap .u64 fr), .int .u64 (IntKind.wrap .u64 ct)] 2)) i 0).toI = (fjoin f n (lookB cl rq fr ct) i 0).toI := by
  by_cases h1 : i < n
  · rw [fjoin_lt (by omega), fjoin_lt h1, fjoin_lt h1]
  · rw [fjoin_ge (n := n) (g := lookB cl rq fr ct) (by omega)]
    show _ = lookI cl rq fr ct (i - n)
    by_cases h2 : i < n + 16
    · rw [fjoin_lt h2, fjoin_ge (by omega), two8 (by omega), blt_iff]
      by_cases h3 : i - n < 8
      · rw [decide_eq_true h3, cond_true, lookI1 h3]
      · rw [decide_eq_false h3, cond_false, lookI2 (by omega) (by omega)]
    · rw [fjoin_ge (by omega), two4 (by omega), blt_iff]
      by_cases h3 : i - (n + 16) < 4
      · rw [decide_eq_true h3, cond_true, lookI3 (by omega) (by omega), show i - (n + 16) = i - n - 16 by omega]
      · rw [decide_eq_false h3, cond_false, lookI4 (by omega), show i - (n + 16) - 4 = i - n - 20 by omega]
theorem t22 (c c' : CS) (h : (f22 c).run = some c') : ∃ m pr ros π c0 c1, Seen c c0 ∧ callC E7 m 22 0 pr ros π c0 = some c1 ∧ Seen c1 c' := by
  obtain ⟨n, f, cl, rq, fr, ct, rfl, hb⟩ := f22_inv h
  obtain ⟨hn, hb2⟩ := chkT_run hb
  have hl := le_of (hn 0 _ rfl)
  simp only [T.run, Option.some.injEq] at hb2; subst hb2; clear h hb
  have e := k22_eq n f cl rq fr ct
  simp only [show Int.toNat 8 = 8 from rfl, show Int.toNat 4 = 4 from rfl, Nat.reduceMul] at e
  rw [ble_t (show n + 16 ≤ 1000000 by omega), ble_t (show n + 16 + 16 ≤ 1000000 by omega)] at e
  exact ⟨1000, .asl shB, [], k22_p, _, _, Seen.refl _, e, seenB (by omega) fun i hi => look_at hi⟩
theorem allU_two {x y : Int} (h1 : u64B x = true) (h2 : u64B y = true) : allU (rowsOf 1 [.int .u64 x, .int .u64 y] 2) 2 = true := by
  show (u64B x && (u64B y && true)) = true
  rw [h1, h2]; rfl
theorem t26 (c c' : CS) (h : (f26 c).run = some c') : ∃ m pr ros π c0 c1, Seen c c0 ∧ callC E7 m 26 0 pr ros π c0 = some c1 ∧ Seen c1 c' := by
  obtain ⟨n, f, cl, rq, fr, ct, rfl, hb⟩ := f26_inv h
  obtain ⟨hn, hb2⟩ := chkT_run hb
  have hk := hn 0 _ rfl
  have hl := le_of (hn 1 _ rfl)
  simp only [T.run, Option.some.injEq] at hb2; subst hb2; clear h hb
  simp only [lookOk, Bool.and_eq_true] at hk
  have e := k26_eq n f cl rq fr ct
  simp only [show Int.toNat 8 = 8 from rfl, show Int.toNat 4 = 4 from rfl, Nat.reduceMul] at e
  rw [ble_t (show n + 16 ≤ 1000000 by omega), ble_t (show n + 16 + 16 ≤ 1000000 by omega), allU_two hk.1.1.1 hk.1.1.2, allU_two hk.1.2 hk.2] at e
  exact ⟨1000, .asl shB, [], k26_p, _, _, Seen.refl _, e, seenB (by omega) fun i hi => look_at hi⟩
theorem seenT {n1 m1 n2 : Nat} {F G : Nat → Nat → AV} {v : AV} (e1 : n1 = n2) (e2 : m1 = n2) (h : ∀ i, i < n2 → (F i 0).toI = (G i 0).toI) : Seen ⟨[.tuple [.tsl 0 0 n1 n1 1 true, v]], [some (.tarr [.int .u8] m1 F true)]⟩ ⟨[.tuple [.tsl 0 0 n2 n2 1 true, v]], [some (.tarr [.int .u8] n2 G true)]⟩ :=
  Seen.mk' (.cons (SeenV.of_eq (by rw [e1])) .nil) (.cons (SeenO.one e2 h) .nil)
theorem over0 {F g : Nat → Nat → AV} {o i : Nat} : fover F o 0 g i 0 = F i 0 := by
  unfold fover
  have : (Nat.ble o i && Nat.blt i (o + 0)) = false := by
    rw [ble_iff, blt_iff]
    by_cases h : o ≤ i
    · rw [decide_eq_false (show ¬ i < o + 0 by omega), Bool.and_false]
    · rw [decide_eq_false h, Bool.false_and]
  rw [this]; rfl
theorem two2 {x : Int} {a : Nat} (h : a < 2) : (allB 2 (rowsOf 1 [.int .u64 x] 1) a 0).toI = (oneB x a 0).toI := by
  show byt _ _ = byt x a
  rw [show a / 2 = 0 by omega, show a % 2 = a by omega]; rfl
theorem t24 (c c' : CS) (h : (f24 c).run = some c') : ∃ m pr ros π c0 c1, Seen c c0 ∧ callC E7 m 24 0 pr ros π c0 = some c1 ∧ Seen c1 c' := by
  obtain ⟨n, f, d, rfl, hb⟩ := f24_inv h
  obtain ⟨hn, hb2⟩ := chkT_run hb
  have hl := le_of (hn 0 _ rfl)
  have e := k24_eq n f d
  clear h hb
  simp only [show Int.toNat 2 = 2 from rfl, Nat.reduceMul] at e
  by_cases hd : (d.length : Int) > 16384
  · rw [decide_eq_true hd] at e hb2
    simp only [T.run, cond_true, Option.some.injEq] at hb2; subst hb2
    exact ⟨1000, .keep, [], k24_p, _, _, Seen.refl _, e, Seen.refl _⟩
  · rw [decide_eq_false hd] at e hb2
    simp only [T.run, cond_false, Option.some.injEq] at hb2; subst hb2
    rw [ble_t (show n + 8 ≤ 1000000 by omega)] at e
    by_cases h0 : d.length = 0
    · rw [ble_t (show n + 2 + d.length ≤ n + 2 by omega), ble_t (show 0 + (n + 2 + d.length) ≤ n + 2 by omega), h0] at e
      refine ⟨1000, .keep, [], k24_p, _, _, Seen.refl _, e, seenT (by omega) (by omega) fun i hi => ?_⟩
      rw [h0, fjoin_lt (n := n + 2) (by omega), over0]
      exact joinCC (m := 2) rfl (fun b _ => rfl) (fun b hb => two2 hb) i (by omega)
    · rw [ble_f (show ¬ n + 2 + d.length ≤ n + 2 by omega), ble_t (show 0 + (n + 2) ≤ n + 2 by omega), growt (by omega)] at e
      refine ⟨1000, .keep, [], k24_p, _, _, Seen.refl _, e, seenT rfl rfl fun i hi => ?_⟩
      refine joinC rfl (fun b hb => ?_) i
      rw [Nat.zero_add]
      exact joinCC (m := 2) rfl (fun b _ => rfl) (fun b hb => two2 hb) b (by omega)
theorem u64_len {n : Nat} (h : n < 18446744073709551616) : IntKind.wrap .u64 (n : Int) = n := wrap_u64 (by omega) (by omega)
theorem u64_wrap (x : Int) : u64B (IntKind.wrap .u64 x) = true := by
  have h1 : IntKind.wrap .u64 x = x % 18446744073709551616 := by
    unfold IntKind.wrap
    simp [IntKind.bits, IntKind.signed]
  rw [u64B_eq, h1, decide_eq_true (by omega), decide_eq_true (by omega)]; rfl
theorem t29 (c c' : CS) (h : (f29 c).run = some c') : ∃ m pr ros π c0 c1, Seen c c0 ∧ callC E7 m 29 0 pr ros π c0 = some c1 ∧ Seen c1 c' := by
  obtain ⟨n, f, d, rfl, hb⟩ := f29_inv h
  obtain ⟨hn, hb2⟩ := chkT_run hb
  have hl := le_of (hn 0 _ rfl)
  have e := k29_eq n f d
  clear h hb
  simp only [show Int.toNat 2 = 2 from rfl, u64_wrap] at e
  by_cases hd : (d.length : Int) > 16384
  · rw [decide_eq_true hd] at e hb2
    simp only [T.run, cond_true, Option.some.injEq] at hb2; subst hb2
    exact ⟨1000, .keep, [], k29_p, _, _, Seen.refl _, e, Seen.refl _⟩
  · rw [decide_eq_false hd] at e hb2
    simp only [T.run, cond_false, Option.some.injEq] at hb2; subst hb2
    rw [ble_t (show n + 8 ≤ 1000000 by omega)] at e
    by_cases h0 : d.length = 0
    · rw [ble_t (show n + 2 + d.length ≤ n + 2 by omega), ble_t (show 0 + (n + 2 + d.length) ≤ n + 2 by omega), h0] at e
      refine ⟨1000, .keep, [], k29_p, _, _, Seen.refl _, e, seenT (by omega) (by omega) fun i hi => ?_⟩
      rw [h0, fjoin_lt (n := n + 2) (by omega), over0]
    · rw [ble_f (show ¬ n + 2 + d.length ≤ n + 2 by omega), ble_t (show 0 + (n + 2) ≤ n + 2 by omega), growt (by omega)] at e
      refine ⟨1000, .keep, [], k29_p, _, _, Seen.refl _, e, seenT rfl rfl fun i hi => ?_⟩
      refine joinC rfl (fun b hb => ?_) i
      rw [Nat.zero_add]
theorem g8 : Bm.Good Try.prog E8 := (g7.addI g7 (by kernel_rfl) t24).addI g7 (by kernel_rfl) t29
theorem g9 : Bm.Good Try.prog E9 := (g8.addI g7 (by kernel_rfl) t22).addI g7 (by kernel_rfl) t26
theorem beh_at {g : Nat → Nat → AV} {i b : Nat} (hb : b < 24) : (lookB (g i 0).toI (g i 1).toI (g i 2).toI (g i 3).toI b 0).toI = (behB g (24 * i + b) 0).toI := by
  show lookI _ _ _ _ b = lookI _ _ _ _ _
  rw [show (24 * i + b) / 24 = i by omega, show (24 * i + b) % 24 = b by omega]
theorem i8 (c : CS) (r : Nat × CS) (h : (r8 c).run = some r) : Loops (stepC E9 300 (loopC E9 8 1) 0 h8 ((.normal, h8) :: x8) s8_p) c r.1 r.2 := by
  obtain ⟨n, f, nl2, m, g, rfl, hb⟩ := r8_inv h
  obtain ⟨hn, hb2⟩ := chkT_run hb
  have hm := le_of (hn 0 _ rfl)
  have hl := le_of (hn 1 _ rfl)
  simp only [T.run, Option.some.injEq] at hb2; subst hb2; clear h hb
  refine .see (c1 := c8 (n + 24 * 0) (fjoin f n (behB g)) nl2 m g 0) (Seen.mk' (SeenVs.refl _) (.cons (SeenO.one rfl fun i hi => by rw [fjoin_lt (n := n) (by omega)]) (SeenOs.refl _))) ?_
  refine Loops.for (C := fun i => c8 (n + 24 * i) (fjoin f n (behB g)) nl2 m g i) (n := m) (fun i hi => ?_) ?_
  · have e := s8_eq (n + 24 * i) (fjoin f n (behB g)) nl2 m g i
    rw [lt1 hi, blt1 hi, ble_t (show n + 24 * i + 32 ≤ 1000000 by omega)] at e
    simp only [Int.toNat_natCast, Nat.zero_add] at e
    refine ⟨_, e, Seen.mk' (.cons (SeenV.of_eq ?_) (.cons (SeenV.refl _) (.cons (SeenV.refl _) (.cons (SeenV.of_eq ?_) .nil)))) (.cons (SeenO.one (by omega) fun a ha => ?_) (SeenOs.refl _))⟩
    · rw [show n + 24 * i + 24 = n + 24 * (i + 1) by omega]
    · rw [wrap_i64s (by omega)]
    · exact join_step (m := 24) rfl (fun b => rfl) (fun b hb => beh_at hb) (by omega)
  · have e := s8_eq (n + 24 * m) (fjoin f n (behB g)) nl2 m g m
    rw [lt0] at e
    exact ⟨_, e, Seen.refl _⟩
theorem g9b : Bm.Good Try.prog E9b := g9.addS (by kernel_rfl) rfl (by decide) (by decide) rfl i8
theorem i9 (c : CS) (r : Nat × CS) (h : (r9 c).run = some r) : Loops (stepC E9b 300 (loopC E9b 9 0) 0 h9 ((.normal, h9) :: x9) s9_p) c r.1 r.2 := by
  obtain ⟨ix, tm, st, kd, cl, rq, fr, ct, d, nl2, n, f, m, g, rfl, hb⟩ := r9_inv h
  obtain ⟨hn, hb2⟩ := chkT_run hb
  have hm := le_of (hn 0 _ rfl)
  have hl := le_of (hn 1 _ rfl)
  have hg := hn 2 _ rfl
  simp only [T.run, Option.some.injEq] at hb2; subst hb2; clear h hb
  refine .see (c1 := c9 ix tm st kd cl rq fr ct d nl2 (n + 24 * 0) (fjoin f n (behB g)) m g 0) (Seen.mk' (SeenVs.refl _) (.cons (SeenO.refl _) (.cons (SeenO.one rfl fun i hi => by rw [fjoin_lt (n := n) (by omega)]) (SeenOs.refl _)))) ?_
  refine Loops.for (C := fun i => c9 ix tm st kd cl rq fr ct d nl2 (n + 24 * i) (fjoin f n (behB g)) m g i) (n := m) (fun i hi => ?_) ?_
  · have e := s9_eq ix tm st kd cl rq fr ct d nl2 (n + 24 * i) (fjoin f n (behB g)) m g i
    rw [lt1 hi, blt1 hi, ble_t (show n + 24 * i + 32 ≤ 1000000 by omega)] at e
    simp only [Int.toNat_natCast, Nat.zero_add] at e
    have hr : lookOk (g i 0).toI (g i (Nat.succ 0)).toI (g i (Nat.succ (Nat.succ 0))).toI (g i (Nat.succ (Nat.succ (Nat.succ 0)))).toI = true := by
      have := okFrom_iff.1 hg i hi
      rw [Nat.zero_add] at this
      exact this
    rw [hr] at e
    refine ⟨_, e, Seen.mk' (.cons (SeenV.refl _) (.cons (SeenV.of_eq ?_) (.cons (SeenV.of_eq ?_) .nil))) (.cons (SeenO.refl _) (.cons (SeenO.one (by omega) fun a ha => ?_) (SeenOs.refl _)))⟩
    · rw [show n + 24 * i + 24 = n + 24 * (i + 1) by omega]
    · rw [wrap_i64s (by omega)]
    · exact join_step (m := 24) rfl (fun b => rfl) (fun b hb => beh_at hb) (by omega)
  · have e := s9_eq ix tm st kd cl rq fr ct d nl2 (n + 24 * m) (fjoin f n (behB g)) m g m
    rw [lt0] at e
    exact ⟨_, e, Seen.refl _⟩
theorem g10 : Bm.Good Try.prog E10 := g9b.addS (by kernel_rfl) rfl (by decide) (by decide) rfl i9
theorem allU_three {x y z : Int} (h1 : u64B x = true) (h2 : u64B y = true) (h3 : u64B z = true) : allU (rowsOf 1 [.int .u64 x, .int .u64 y, .int .u64 z] 3) 3 = true := by
  show (u64B x && (u64B y && (u64B z && true))) = true
  rw [h1, h2, h3]; rfl
theorem t8 (c c' : CS) (h : (f8 c).run = some c') : ∃ m pr ros π c0 c1, Seen c c0 ∧ callC E10 m 8 0 pr ros π c0 = some c1 ∧ Seen c1 c' := by
  obtain ⟨ix, tm, st, kd, cl, rq, fr, ct, d, nl2, m, g, rfl, hb⟩ := f8_inv h
  have e := k8_eq ix tm st kd cl rq fr ct d nl2 m g
  clear h
  simp only [show Int.toNat 8 = 8 from rfl, show Int.toNat 1 = 1 from rfl, Nat.reduceMul, Nat.reduceAdd] at e
  simp only [f8B, T.run] at hb
  by_cases h1 : kd < 0
  · rw [decide_eq_true h1] at e hb
    simp only [cond_true, Option.some.injEq] at hb; subst hb
    exact ⟨1000, .keep, [], k8_p, _, _, Seen.refl _, e, Seen.refl _⟩
  · rw [decide_eq_false h1] at e hb
    by_cases h2 : kd > 255
    · rw [decide_eq_true h2] at e hb
      simp only [cond_true, cond_false, Option.some.injEq] at hb; subst hb
      exact ⟨1000, .keep, [], k8_p, _, _, Seen.refl _, e, Seen.refl _⟩
    · rw [decide_eq_false h2] at e hb
      by_cases h3 : (d.length : Int) > 16384
      · rw [decide_eq_true h3] at e hb
        simp only [cond_true, cond_false, Option.some.injEq] at hb; subst hb
        exact ⟨1000, .keep, [], k8_p, _, _, Seen.refl _, e, Seen.refl _⟩
      · rw [decide_eq_false h3] at e hb
        by_cases h4 : (m : Int) > 64
        · rw [decide_eq_true h4] at e hb
          simp only [cond_true, cond_false, Option.some.injEq] at hb; subst hb
          exact ⟨1000, .keep, [], k8_p, _, _, Seen.refl _, e, Seen.refl _⟩
        · rw [decide_eq_false h4] at e hb
          simp only [cond_false, Option.some.injEq] at hb; subst hb
          rw [ble_t (show 51 + d.length + 8 ≤ 1000000 by omega), ble_t (show m ≤ 1000 by omega), ble_t (show 51 + d.length + 1 + 24 * m + 32 ≤ 1000000 by omega)] at e
          refine ⟨1000, .keep, [], k8_p, _, _, Seen.refl _, e, seenT (by omega) (by omega) fun i hi => ?_⟩
          unfold entB
          exact joinC (by omega) (fun b hb => rfl) i
theorem t9 (c c' : CS) (h : (f9 c).run = some c') : ∃ m pr ros π c0 c1, Seen c c0 ∧ callC E10 m 9 0 pr ros π c0 = some c1 ∧ Seen c1 c' := by
  obtain ⟨ix, tm, st, kd, cl, rq, fr, ct, d, nl2, m, g, rfl, hb⟩ := f9_inv h
  have e := k9_eq ix tm st kd cl rq fr ct d nl2 m g
  clear h
  simp only [show Int.toNat 8 = 8 from rfl, show Int.toNat 1 = 1 from rfl, Nat.reduceMul, Nat.reduceAdd, u64_wrap] at e
  simp only [f9B, T.run] at hb
  by_cases h1 : kd < 0
  · rw [decide_eq_true h1] at e hb
    simp only [cond_true, Option.some.injEq] at hb; subst hb
    exact ⟨1000, .keep, [], k9_p, _, _, Seen.refl _, e, Seen.refl _⟩
  · rw [decide_eq_false h1] at e hb
    by_cases h2 : kd > 255
    · rw [decide_eq_true h2] at e hb
      simp only [cond_true, cond_false, Option.some.injEq] at hb; subst hb
      exact ⟨1000, .keep, [], k9_p, _, _, Seen.refl _, e, Seen.refl _⟩
    · rw [decide_eq_false h2] at e hb
      by_cases h3 : (d.length : Int) > 16384
      · rw [decide_eq_true h3] at e hb
        simp only [cond_true, cond_false, Option.some.injEq] at hb; subst hb
        exact ⟨1000, .keep, [], k9_p, _, _, Seen.refl _, e, Seen.refl _⟩
      · rw [decide_eq_false h3] at e hb
        by_cases h4 : (m : Int) > 64
        · rw [decide_eq_true h4] at e hb
          simp only [cond_true, cond_false, Option.some.injEq] at hb; subst hb
          exact ⟨1000, .keep, [], k9_p, _, _, Seen.refl _, e, Seen.refl _⟩
        · rw [decide_eq_false h4] at e hb
          simp only [cond_false] at hb
          obtain ⟨hn, hb2⟩ := chkT_run hb
          simp only [T.run, Option.some.injEq] at hb2; subst hb2
          rw [allU_three (hn 0 _ rfl) (hn 1 _ rfl) (hn 2 _ rfl), hn 3 _ rfl, hn 4 _ rfl, ble_t (show 51 + d.length + 8 ≤ 1000000 by omega), ble_t (show m ≤ 1000 by omega), ble_t (show 51 + d.length + 1 + 24 * m + 32 ≤ 1000000 by omega)] at e
          refine ⟨1000, .keep, [], k9_p, _, _, Seen.refl _, e, seenT (by omega) (by omega) fun i hi => ?_⟩
          unfold entB
          refine joinC (by omega) (fun b hb => ?_) i
          refine joinCC (m := 1) (by omega) (fun b hb => ?_) (fun b hb => (one_all _ b hb).symm) b (by omega)
          refine joinC rfl (fun b hb => ?_) b
          refine joinC rfl (fun b hb => ?_) b
          refine joinC rfl (fun b hb => ?_) b
          exact joinCC (m := 1) rfl (fun b hb => rfl) (fun b hb => (one_all _ b hb).symm) b (by omega)
theorem g11 : Bm.Good Try.prog E11 := (g10.addI g10 (by kernel_rfl) t8).addI g10 (by kernel_rfl) t9
end Go.Proofs.Ytjbjjikdihghmaa.entry
