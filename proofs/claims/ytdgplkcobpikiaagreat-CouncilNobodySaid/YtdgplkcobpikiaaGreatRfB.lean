/- Reads of a blank device: what the loops come to. -/
import Derived.Test.YtdgplkcobpikiaaGreatRfA
import Derived.KernelRfl
set_option linter.unusedSimpArgs false
set_option linter.unusedVariables false
set_option maxRecDepth 20000
namespace Go.Proofs.YtdgplkcobpikiaaGreat.raftOpen
open Go Go.RowKit Go.Proofs.YtdgplkcobpikiaaGreat.Bm
theorem ble_t {n m : Nat} (h : n ≤ m) : Nat.ble n m = true := Nat.ble_eq_true_of_le h
theorem ble_f {n m : Nat} (h : ¬ n ≤ m) : Nat.ble n m = false := by rw [ble_iff, decide_eq_false h]
theorem le_of {n m : Nat} (h : Nat.ble n m = true) : n ≤ m := Nat.le_of_ble_eq_true h
theorem growt {n : Nat} (h : n ≤ 2000000) : growB 1 n = true := by
  unfold growB
  rw [ble_t (show n ≤ 281474976710656 by omega), ble_t (show n * 1 ≤ 17179869184 by omega)]; rfl
theorem lt1 {i n : Nat} (h : i < n) : decide ((i : Int) < (n : Int)) = true := decide_eq_true (by omega)
theorem lt0 (n : Nat) : decide ((n : Int) < (n : Int)) = false := decide_eq_false (by omega)
theorem blt_t {n m : Nat} (h : n < m) : Nat.blt n m = true := by rw [blt_iff]; exact decide_eq_true h
theorem r85_inv {c : CS} {r : Nat × CS} (h : (r85 c).run = some r) : ∃ (s k d : Int) (t : Nat) (at_ : Int) (n l2 : Nat) (f : Nat → Nat → AV), c = ⟨[.ptr 0 0, .int .i64 at_, .osl false 1 0 0 0 1 true, .int .i64 (n : Nat), .int .i64 0], [some (.cells [.int .i64 s, .map 2, .nilSlice, .bool false, .int .i64 k, .int .i64 d] true), some (.tarr shB l2 f true), some (.map [] t)]⟩ ∧ n ≤ 1000 ∧ r = (1, ⟨[.ptr 0 0, .osl false 1 0 (64 * n) (64 * n) 1 true], [some (.cells [.int .i64 s, .map 2, .nilSlice, .bool false, .int .i64 k, .int .i64 d] true), some (.tarr shB (64 * n) zf true), some (.map [] t)]⟩) := by
  unfold r85 at h
  split at h
  · rename_i at_ l z1 n i s k d sh l2 f t
    obtain ⟨hc, hb⟩ := chkT_run h
    have h0 := of_decide_eq_true (hc 0 _ rfl)
    have h1 := of_decide_eq_true (hc 1 _ rfl)
    have h2 := of_decide_eq_true (hc 2 _ rfl)
    have h3 := (shBeq_eq (hc 3 _ rfl)).symm
    have h5 := le_of (hc 4 _ rfl)
    subst h3; subst h2; subst h0; subst h1
    simp only [T.run, Option.some.injEq] at hb
    exact ⟨s, k, d, t, at_, n, l2, f, rfl, h5, hb.symm⟩
  · cases h
theorem r86_inv {c : CS} {r : Nat × CS} (h : (r86 c).run = some r) : ∃ (n : Nat) (f : Nat → Nat → AV) (rw : Bool), c = c86 false 0 n n f rw 0 ∧ (∀ i, i < n → (f i 0).toI = 0) ∧ r = (1, ⟨[.int .u64 0], [some (.tarr shB n zf rw)]⟩) := by
  unfold r86 at h
  split at h
  · rename_i nl o n z m sh N f rw
    obtain ⟨hc, hb⟩ := chkT_run h
    have h0 := of_decide_eq_true (hc 0 _ rfl)
    have h1 := of_decide_eq_true (hc 1 _ rfl)
    have h2 := of_decide_eq_true (hc 2 _ rfl)
    have h3 := of_decide_eq_true (hc 3 _ rfl)
    have h4 := (shBeq_eq (hc 4 _ rfl)).symm
    have h5 := of_decide_eq_true (hc 5 _ rfl)
    have h6 := okFrom_iff.1 (hc 6 _ rfl)
    subst h4; subst h0; subst h1; subst h2; subst h3; subst h5
    simp only [T.run, Option.some.injEq] at hb
    exact ⟨_, f, rw, rfl, fun i hi => by have := of_decide_eq_true (h6 i hi); rwa [Nat.zero_add] at this, hb.symm⟩
  · cases h
theorem rz : ∀ b, b < 64 → (rowsOf 1 (List.replicate 64 (AV.int IntKind.u8 0)) 64 b 0).toI = 0 := by decide
/-- device.Read's loop. -/
theorem i85 (c : CS) (r : Nat × CS) (h : (r85 c).run = some r) : Loops (stepC E1 400 (loopC E1 100 0) 1 h85 ((.normal, h85) :: x85) s85_p) c r.1 r.2 := by
  obtain ⟨s, k, d, t, at_, n, l2, f, rfl, hn, rfl⟩ := r85_inv h
  refine .see (c1 := c85 s k d t at_ n 0 (fin .u8 []) 0) (Seen.mk' (SeenVs.refl _) (SeenOs.same (.cons (SeenO.ints (L := []) (Nat.zero_le _) (isL_nil f)) (SeenOs.refl _)))) ?_
  refine .see (c1 := c85 s k d t at_ n (64 * 0) zf (0 : Nat)) (Seen.mk' (SeenVs.refl _) (SeenOs.same (.cons (SeenO.one rfl fun i hi => by omega) (SeenOs.refl _)))) ?_
  refine Loops.for (C := fun i => c85 s k d t at_ n (64 * i) zf i) (n := n) (fun i hi => ?_) ?_
  · have e := s85_eq s k d t at_ n (64 * i) i
    rw [lt1 hi, ble_f (show ¬ 64 * i + 64 ≤ 64 * i by omega), growt (show 64 * i + (64 - 0) ≤ 2000000 by omega), ble_t (show 0 + 64 * i ≤ 64 * i by omega)] at e
    refine ⟨_, e, Seen.mk' (.cons (SeenV.refl _) (.cons (SeenV.refl _) (.cons (SeenV.of_eq ?_) (.cons (SeenV.refl _) (.cons (SeenV.of_eq ?_) .nil))))) (SeenOs.same (.cons (SeenO.one ?_ fun a ha => ?_) (SeenOs.refl _)))⟩
    · rw [show 64 * i + (64 - 0) = 64 * (i + 1) by omega]
    · rw [wrap_i64s (by omega)]
    · omega
    · by_cases hl : a < 64 * i
      · rw [fjoin_lt hl]; rfl
      · rw [fjoin_ge (by omega)]
        exact rz _ (by omega)
  · have e := s85_eq s k d t at_ n (64 * n) n
    rw [lt0] at e
    exact ⟨_, e, Seen.refl _⟩
theorem g0 : Bm.Good Tryz.prog E0 := good0 (by kernel_rfl) (by kernel_rfl) (by kernel_rfl)
theorem g1 : Bm.Good Tryz.prog E1 := g0.bits
theorem g2 : Bm.Good Tryz.prog E2 := g1.addS (by kernel_rfl) rfl (by decide) (by decide) rfl i85
/-- frame.Most's loop. -/
theorem i86 (c : CS) (r : Nat × CS) (h : (r86 c).run = some r) : Loops (stepC E2 400 (loopC E2 101 0) 1 h86 ((.normal, h86) :: x86) s86_p) c r.1 r.2 := by
  obtain ⟨N, f, rw_, rfl, hf, rfl⟩ := r86_inv h
  refine .see (c1 := c86 false (64 * 0) (N - 64 * 0) N zf rw_ 0) (Seen.mk' (SeenVs.refl _) (.cons (SeenO.one rfl fun i hi => hf i hi) .nil)) ?_
  refine Loops.for (C := fun k => c86 false (64 * k) (N - 64 * k) N zf rw_ 0) (n := N / 64) (fun k hk => ?_) ?_
  · have hN : 64 * k + 64 ≤ N := by
      have := Nat.div_mul_le_self N 64
      omega
    have e := s86_eq (64 * k) (N - 64 * k) N rw_
    have w1 : IntKind.wrap IntKind.i64 (0 + 1) = 1 := by decide
    have w2 : IntKind.wrap IntKind.i64 (1 + 1) = 2 := by decide
    have w3 : IntKind.wrap IntKind.i64 (2 + 1) = 3 := by decide
    have w4 : IntKind.wrap IntKind.i64 (3 + 1) = 4 := by decide
    have w5 : IntKind.wrap IntKind.i64 (4 + 1) = 5 := by decide
    have w6 : IntKind.wrap IntKind.i64 (5 + 1) = 6 := by decide
    have w7 : IntKind.wrap IntKind.i64 (6 + 1) = 7 := by decide
    have t0 : Int.toNat 0 = 0 := rfl
    have t1 : Int.toNat 1 = 1 := rfl
    have t2 : Int.toNat 2 = 2 := rfl
    have t3 : Int.toNat 3 = 3 := rfl
    have t4 : Int.toNat 4 = 4 := rfl
    have t5 : Int.toNat 5 = 5 := rfl
    have t6 : Int.toNat 6 = 6 := rfl
    have t7 : Int.toNat 7 = 7 := rfl
    have t8 : Int.toNat 8 = 8 := rfl
    have t56 : Int.toNat 56 = 56 := rfl
    have t64 : Int.toNat 64 = 64 := rfl
    rw [t8, t56, t64, w1, w2, w3, w4, w5, w6, w7, t0, t1, t2, t3, t4, t5, t6, t7,
      decide_eq_true (show (↑(N - 64 * k) : Int) ≥ 64 by omega), decide_eq_false (show ¬ (↑(N - 64 * k) : Int) < 64 by omega), ble_t (show 8 ≤ N - 64 * k by omega),
      ble_t (show 64 * k + 0 + (8 - 0) ≤ N by omega), ble_t (show 56 ≤ N - 64 * k by omega), decide_eq_false (show ¬ 8 > (↑(N - 64 * k - 56) : Int) by omega), ble_t (show 8 ≤ N - 64 * k - 56 by omega),
      blt_t (show 64 * k + 56 + 0 + 0 < N by omega), blt_t (show 64 * k + 56 + 0 + 1 < N by omega), blt_t (show 64 * k + 56 + 0 + 2 < N by omega), blt_t (show 64 * k + 56 + 0 + 3 < N by omega),
      blt_t (show 64 * k + 56 + 0 + 4 < N by omega), blt_t (show 64 * k + 56 + 0 + 5 < N by omega), blt_t (show 64 * k + 56 + 0 + 6 < N by omega), blt_t (show 64 * k + 56 + 0 + 7 < N by omega),
      ble_t (show 64 ≤ N - 64 * k by omega)] at e
    refine ⟨_, e, Seen.mk' (.cons (SeenV.of_eq ?_) (SeenVs.refl _)) (SeenOs.refl _)⟩
    rw [show 64 * k + 64 = 64 * (k + 1) by omega, show N - 64 * k - 64 = N - 64 * (k + 1) by omega]
  · have e := s86_eq (64 * (N / 64)) (N - 64 * (N / 64)) N rw_
    have hm : ¬ (↑(N - 64 * (N / 64)) : Int) ≥ 64 := by omega
    rw [decide_eq_false hm] at e
    exact ⟨_, e, Seen.refl _⟩
theorem g3 : Bm.Good Tryz.prog E3 := g2.addS (by kernel_rfl) rfl (by decide) (by decide) rfl i86
end Go.Proofs.YtdgplkcobpikiaaGreat.raftOpen
