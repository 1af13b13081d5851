/- Entries, read. -/
import Derived.Test.YtjbjjikdihghmaaRdF
import Derived.Test.YtjbjjikdihghmaaRdG
set_option linter.unusedSimpArgs false
set_option linter.unusedVariables false
set_option maxRecDepth 20000
namespace Go.Proofs.Ytjbjjikdihghmaa.entry
open Go Go.RowKit Go.Proofs.Ytjbjjikdihghmaa.Bm
theorem q14o_inv  {c : CS} {r : CS} (h : (q14o  c).run = some r) : ∃ nl off N f, c = rk nl off N f ∧ (q14oB  nl off N f).run = some r := by
  unfold q14o at h
  split at h
  · rename_i nl off z_1 z_2 z_3 sh_4 N f
    obtain ⟨hc, hb⟩ := chkT_run h
    have h0 := hc 0 _ rfl
    have h0 := of_decide_eq_true h0; subst h0
    have h1 := hc 1 _ rfl
    have h1 := of_decide_eq_true h1; subst h1
    have h2 := hc 2 _ rfl
    have h2 := of_decide_eq_true h2; subst h2
    have h3 := hc 3 _ rfl
    have h3 := (shBeq_eq h3).symm; subst h3
    exact ⟨nl, off, N, f, rfl, hb⟩
  · cases h
theorem q15o_inv  {c : CS} {r : CS} (h : (q15o  c).run = some r) : ∃ nl a N f, c = rr nl a N f ∧ (q15oB  nl a N f).run = some r := by
  unfold q15o at h
  split at h
  · rename_i nl N z_1 a z_2 sh_3 z_4 f
    obtain ⟨hc, hb⟩ := chkT_run h
    have h0 := hc 0 _ rfl
    have h0 := of_decide_eq_true h0; subst h0
    have h1 := hc 1 _ rfl
    have h1 := of_decide_eq_true h1; subst h1
    have h2 := hc 2 _ rfl
    have h2 := (shBeq_eq h2).symm; subst h2
    have h3 := hc 3 _ rfl
    have h3 := of_decide_eq_true h3; subst h3
    exact ⟨nl, a, N, f, rfl, hb⟩
  · cases h
theorem entF {f : Nat → Nat → AV} {off N : Nat} (h : ¬ (off + 51 ≤ N ∧ tlen f off ≤ 16384 ∧ off + (51 + (tlen f off + 1)) ≤ N ∧ bnum f off ≤ 64 ∧ eEnd f off ≤ N)) : entOK f off N = false := by
  cases hq : entOK f off N with
  | false => rfl
  | true =>
    rw [entOK_eq] at hq
    simp only [Bool.and_eq_true, decide_eq_true_eq] at hq
    exact absurd hq h
theorem entT {f : Nat → Nat → AV} {off N : Nat} (h : off + 51 ≤ N ∧ tlen f off ≤ 16384 ∧ off + (51 + (tlen f off + 1)) ≤ N ∧ bnum f off ≤ 64 ∧ eEnd f off ≤ N) : entOK f off N = true := by
  rw [entOK_eq]
  simp only [Bool.and_eq_true, decide_eq_true_eq]
  exact h
theorem val1 {f : Nat → Nat → AV} {N o : Nat} (h : okB f N = true) (hk : o + 1 ≤ N) : ∃ v : Nat, val f o 1 = (v : Int) ∧ v < 256 := by
  obtain ⟨a, b⟩ := val_bnd h 1 o hk
  have b' : val f o 1 < 256 := b
  exact ⟨(val f o 1).toNat, by omega, by omega⟩
theorem t14 (c c' : CS) (h : (q14o c).run = some c') : ∃ m pr ros π c0 c1, Seen c c0 ∧ callC F7 m 14 1 pr ros π c0 = some c1 ∧ Seen c1 c' := by
  obtain ⟨nl, off, N, f, rfl, hb⟩ := q14o_inv h
  obtain ⟨hn, hb2⟩ := chkT_run hb
  have hok := hn 0 _ rfl
  have hoN := le_of (hn 1 _ rfl)
  have hN := le_of (hn 2 _ rfl)
  have hnl := hn 3 _ rfl
  clear h hb hn
  have e := k14_eq nl off N f
  simp only [show Int.toNat 8 = 8 from rfl, show Int.toNat 1 = 1 from rfl, Nat.add_assoc, Nat.reduceAdd] at e
  rw [hok, ble_t hoN, ble_t hN, hnl] at e
  simp only [T.run] at hb2
  have fin : entOK f off N = false → k14 nl off N f k14_p = some ⟨[eZero], failP⟩ → ∃ m pr ros π c0 c1, Seen (rk nl off N f) c0 ∧ callC F7 m 14 1 pr ros π c0 = some c1 ∧ Seen c1 c' := fun h1 h2 => by
    rw [h1] at hb2
    simp only [cond_false, Option.some.injEq] at hb2; subst hb2
    exact ⟨1000, .keep, [pR], k14_p, _, _, Seen.refl _, h2, Seen.refl _⟩
  by_cases p1 : N < off + 8
  · rw [blt_t p1] at e
    exact fin (entF (by omega)) e
  rw [blt_f p1, ble_t (show off + 8 ≤ N by omega)] at e
  by_cases p2 : N < off + 16
  · rw [blt_t p2] at e
    exact fin (entF (by omega)) e
  rw [blt_f p2, ble_t (show off + 16 ≤ N by omega)] at e
  by_cases p3 : N < off + 24
  · rw [blt_t p3] at e
    exact fin (entF (by omega)) e
  rw [blt_f p3, ble_t (show off + 24 ≤ N by omega)] at e
  by_cases p4 : N < off + 25
  · rw [blt_t p4] at e
    exact fin (entF (by omega)) e
  rw [blt_f p4, ble_t (show off + 25 ≤ N by omega)] at e
  by_cases p5 : N < off + 33
  · rw [blt_t p5] at e
    exact fin (entF (by omega)) e
  rw [blt_f p5] at e
  by_cases p6 : N < off + 41
  · rw [blt_t p6] at e
    exact fin (entF (by omega)) e
  rw [blt_f p6] at e
  by_cases p7 : N < off + 45
  · rw [blt_t p7] at e
    exact fin (entF (by omega)) e
  rw [blt_f p7] at e
  by_cases p8 : N < off + 49
  · rw [blt_t p8] at e
    exact fin (entF (by omega)) e
  rw [blt_f p8, ble_t (show off + 49 ≤ N by omega)] at e
  by_cases p9 : N < off + 51
  · rw [blt_t p9] at e
    exact fin (entF (by omega)) e
  rw [blt_f p9] at e
  obtain ⟨T, hT, hT2⟩ := val2 hok (show off + 49 + 2 ≤ N by omega)
  have tl : tlen f off = T := by unfold tlen; rw [hT, Int.toNat_natCast]
  simp only [hT, Int.toNat_natCast] at e
  by_cases p10 : (T : Int) > 16384
  · rw [decide_eq_true p10] at e
    exact fin (entF (by rw [tl]; omega)) e
  rw [decide_eq_false p10] at e
  by_cases p11 : N < off + (51 + T)
  · rw [blt_t p11] at e
    exact fin (entF (by rw [tl]; omega)) e
  rw [blt_f p11, ble_t (show off + (51 + T) ≤ N by omega)] at e
  by_cases p12 : N < off + (51 + (T + 1))
  · rw [blt_t p12] at e
    exact fin (entF (by rw [tl]; omega)) e
  rw [blt_f p12, ble_t (show off + (51 + (T + 1)) ≤ N by omega)] at e
  obtain ⟨B, hB, hB2⟩ := val1 hok (show off + (51 + T) + 1 ≤ N by omega)
  have bn : bnum f off = B := by unfold bnum; rw [tl, hB, Int.toNat_natCast]
  have e1 : IntKind.wrap .i64 (B : Int) = (B : Int) := wrap_i64 (by omega)
  simp only [hB, e1, Int.toNat_natCast] at e
  by_cases p13 : (B : Int) > 64
  · rw [decide_eq_true p13] at e
    exact fin (entF (by rw [bn]; omega)) e
  rw [decide_eq_false p13] at e
  by_cases p14 : B = 0
  · subst p14
    rw [Nat.beq_refl] at e
    have hE : entOK f off N = true := entT ⟨by omega, by rw [tl]; omega, by rw [tl]; omega, by rw [bn]; omega, by unfold eEnd; rw [tl, bn]; omega⟩
    rw [hE, bn, Nat.beq_refl] at hb2
    simp only [cond_true, Option.some.injEq] at hb2; subst hb2
    refine ⟨1000, .keep, [pR], k14_p, _, _, Seen.refl _, e, Seen.of_eq ?_⟩
    unfold eVal eEnd
    rw [tl, bn]
    rfl
  · have hz : Nat.beq B 0 = false := by rw [beq_iff, decide_eq_false p14]
    rw [hz] at e
    by_cases p15 : N < off + (51 + (T + (1 + 24 * B)))
    · rw [blt_t p15] at e
      exact fin (entF (by unfold eEnd; rw [tl, bn]; omega)) e
    rw [blt_f p15] at e
    have hE : entOK f off N = true := entT ⟨by omega, by rw [tl]; omega, by rw [tl]; omega, by rw [bn]; omega, by unfold eEnd; rw [tl, bn]; omega⟩
    rw [hE, bn, hz] at hb2
    simp only [cond_true, cond_false, Option.some.injEq] at hb2; subst hb2
    refine ⟨1000, .keep, [pR], k14_p, _, _, Seen.refl _, e, Seen.of_eq ?_⟩
    unfold eVal eEnd
    rw [tl, bn]
    rfl
theorem t15 (c c' : CS) (h : (q15o c).run = some c') : ∃ m pr ros π c0 c1, Seen c c0 ∧ callC F7 m 15 1 pr ros π c0 = some c1 ∧ Seen c1 c' := by
  obtain ⟨nl, off, N, f, rfl, hb⟩ := q15o_inv h
  obtain ⟨hn, hb2⟩ := chkT_run hb
  have hok := hn 0 _ rfl
  have hoN := le_of (hn 1 _ rfl)
  have hN := le_of (hn 2 _ rfl)
  clear h hb hn
  have e := k15_eq nl off N f
  simp only [show Int.toNat 8 = 8 from rfl, show Int.toNat 1 = 1 from rfl, Nat.add_assoc, Nat.reduceAdd] at e
  rw [hok, ble_t hoN, ble_t hN] at e
  simp only [T.run] at hb2
  have fin : entOK f off N = false → k15 nl off N f k15_p = some ⟨[eZero], rdX nl N f⟩ → ∃ m pr ros π c0 c1, Seen (rr nl off N f) c0 ∧ callC F7 m 15 1 pr ros π c0 = some c1 ∧ Seen c1 c' := fun h1 h2 => by
    rw [h1] at hb2
    simp only [cond_false, Option.some.injEq] at hb2; subst hb2
    exact ⟨1000, .keep, [pRR], k15_p, _, _, Seen.refl _, h2, Seen.refl _⟩
  by_cases p1 : N < off + 8
  · rw [blt_t p1] at e
    exact fin (entF (by omega)) e
  rw [blt_f p1, ble_t (show off + 8 ≤ N by omega)] at e
  by_cases p2 : N < off + 16
  · rw [blt_t p2] at e
    exact fin (entF (by omega)) e
  rw [blt_f p2, ble_t (show off + 16 ≤ N by omega)] at e
  by_cases p3 : N < off + 24
  · rw [blt_t p3] at e
    exact fin (entF (by omega)) e
  rw [blt_f p3, ble_t (show off + 24 ≤ N by omega)] at e
  by_cases p4 : N < off + 25
  · rw [blt_t p4] at e
    exact fin (entF (by omega)) e
  rw [blt_f p4, ble_t (show off + 25 ≤ N by omega)] at e
  by_cases p5 : N < off + 33
  · rw [blt_t p5] at e
    exact fin (entF (by omega)) e
  rw [blt_f p5] at e
  by_cases p6 : N < off + 41
  · rw [blt_t p6] at e
    exact fin (entF (by omega)) e
  rw [blt_f p6] at e
  by_cases p7 : N < off + 45
  · rw [blt_t p7] at e
    exact fin (entF (by omega)) e
  rw [blt_f p7] at e
  by_cases p8 : N < off + 49
  · rw [blt_t p8] at e
    exact fin (entF (by omega)) e
  rw [blt_f p8, ble_t (show off + 49 ≤ N by omega)] at e
  by_cases p9 : N < off + 51
  · rw [blt_t p9] at e
    exact fin (entF (by omega)) e
  rw [blt_f p9] at e
  obtain ⟨T, hT, hT2⟩ := val2 hok (show off + 49 + 2 ≤ N by omega)
  have tl : tlen f off = T := by unfold tlen; rw [hT, Int.toNat_natCast]
  simp only [hT, Int.toNat_natCast] at e
  by_cases p10 : (T : Int) > 16384
  · rw [decide_eq_true p10] at e
    exact fin (entF (by rw [tl]; omega)) e
  rw [decide_eq_false p10] at e
  by_cases p11 : N < off + (51 + T)
  · rw [blt_t p11] at e
    exact fin (entF (by rw [tl]; omega)) e
  rw [blt_f p11, ble_t (show off + (51 + T) ≤ N by omega)] at e
  by_cases p12 : N < off + (51 + (T + 1))
  · rw [blt_t p12] at e
    exact fin (entF (by rw [tl]; omega)) e
  rw [blt_f p12, ble_t (show off + (51 + (T + 1)) ≤ N by omega)] at e
  obtain ⟨B, hB, hB2⟩ := val1 hok (show off + (51 + T) + 1 ≤ N by omega)
  have bn : bnum f off = B := by unfold bnum; rw [tl, hB, Int.toNat_natCast]
  simp only [hB, Int.toNat_natCast] at e
  by_cases p13 : (B : Int) > 64
  · rw [decide_eq_true p13] at e
    exact fin (entF (by rw [bn]; omega)) e
  rw [decide_eq_false p13] at e
  by_cases p14 : B = 0
  · subst p14
    rw [Nat.beq_refl] at e
    have hE : entOK f off N = true := entT ⟨by omega, by rw [tl]; omega, by rw [tl]; omega, by rw [bn]; omega, by unfold eEnd; rw [tl, bn]; omega⟩
    rw [hE, bn, Nat.beq_refl] at hb2
    simp only [cond_true, Option.some.injEq] at hb2; subst hb2
    refine ⟨1000, .keep, [pRR], k15_p, _, _, Seen.refl _, e, Seen.of_eq ?_⟩
    unfold eVal eEnd
    rw [tl, bn]
    rfl
  · have hz : Nat.beq B 0 = false := by rw [beq_iff, decide_eq_false p14]
    rw [hz] at e
    by_cases p15 : N < off + (51 + (T + (1 + 24 * B)))
    · rw [blt_t p15] at e
      exact fin (entF (by unfold eEnd; rw [tl, bn]; omega)) e
    rw [blt_f p15] at e
    have hE : entOK f off N = true := entT ⟨by omega, by rw [tl]; omega, by rw [tl]; omega, by rw [bn]; omega, by unfold eEnd; rw [tl, bn]; omega⟩
    rw [hE, bn, hz] at hb2
    simp only [cond_true, cond_false, Option.some.injEq] at hb2; subst hb2
    refine ⟨1000, .keep, [pRR], k15_p, _, _, Seen.refl _, e, Seen.of_eq ?_⟩
    unfold eVal eEnd
    rw [tl, bn]
    rfl
theorem q8 : Bm.Good Try.prog F8 := (q7.addI q7 (by kernel_rfl) t14).addI q7 (by kernel_rfl) t15
end Go.Proofs.Ytjbjjikdihghmaa.entry
