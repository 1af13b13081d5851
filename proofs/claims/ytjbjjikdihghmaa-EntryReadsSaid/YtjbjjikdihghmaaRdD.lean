/- Texts and looks, read. -/
import Derived.Test.YtjbjjikdihghmaaRdB
import Derived.Test.YtjbjjikdihghmaaRdC
set_option linter.unusedSimpArgs false
set_option linter.unusedVariables false
set_option maxRecDepth 20000
namespace Go.Proofs.Ytjbjjikdihghmaa.entry
open Go Go.RowKit Go.Proofs.Ytjbjjikdihghmaa.Bm
theorem q34o_inv  {c : CS} {r : CS} (h : (q34o  c).run = some r) : ∃ nl off N f, c = rk nl off N f ∧ (q34oB  nl off N f).run = some r := by
  unfold q34o at h
  split at h
  · rename_i nl off z_1 z_2 z_3 sh_4 N f
    obtain ⟨hc, hb⟩ := chkT_run h
    have h0 := hc 0 _ rfl
    have h0 := of_decide_eq_true h0; subst h0
    have h1 := hc 1 _ rfl
    have h1 := of_decide_eq_true h1; subst h1
    have h2 := hc 2 _ rfl
    have h2 := of_decide_eq_true h2; subst h2
    have h3 := hc 3 _ rfl
    have h3 := (shBeq_eq h3).symm; subst h3
    exact ⟨nl, off, N, f, rfl, hb⟩
  · cases h
theorem q38o_inv  {c : CS} {r : CS} (h : (q38o  c).run = some r) : ∃ nl a N f, c = rr nl a N f ∧ (q38oB  nl a N f).run = some r := by
  unfold q38o at h
  split at h
  · rename_i nl N z_1 a z_2 sh_3 z_4 f
    obtain ⟨hc, hb⟩ := chkT_run h
    have h0 := hc 0 _ rfl
    have h0 := of_decide_eq_true h0; subst h0
    have h1 := hc 1 _ rfl
    have h1 := of_decide_eq_true h1; subst h1
    have h2 := hc 2 _ rfl
    have h2 := (shBeq_eq h2).symm; subst h2
    have h3 := hc 3 _ rfl
    have h3 := of_decide_eq_true h3; subst h3
    exact ⟨nl, a, N, f, rfl, hb⟩
  · cases h
theorem q33o_inv  {c : CS} {r : CS} (h : (q33o  c).run = some r) : ∃ nl off N f, c = rk nl off N f ∧ (q33oB  nl off N f).run = some r := by
  unfold q33o at h
  split at h
  · rename_i nl off z_1 z_2 z_3 sh_4 N f
    obtain ⟨hc, hb⟩ := chkT_run h
    have h0 := hc 0 _ rfl
    have h0 := of_decide_eq_true h0; subst h0
    have h1 := hc 1 _ rfl
    have h1 := of_decide_eq_true h1; subst h1
    have h2 := hc 2 _ rfl
    have h2 := of_decide_eq_true h2; subst h2
    have h3 := hc 3 _ rfl
    have h3 := (shBeq_eq h3).symm; subst h3
    exact ⟨nl, off, N, f, rfl, hb⟩
  · cases h
theorem q37o_inv  {c : CS} {r : CS} (h : (q37o  c).run = some r) : ∃ nl a N f, c = rr nl a N f ∧ (q37oB  nl a N f).run = some r := by
  unfold q37o at h
  split at h
  · rename_i nl N z_1 a z_2 sh_3 z_4 f
    obtain ⟨hc, hb⟩ := chkT_run h
    have h0 := hc 0 _ rfl
    have h0 := of_decide_eq_true h0; subst h0
    have h1 := hc 1 _ rfl
    have h1 := of_decide_eq_true h1; subst h1
    have h2 := hc 2 _ rfl
    have h2 := (shBeq_eq h2).symm; subst h2
    have h3 := hc 3 _ rfl
    have h3 := of_decide_eq_true h3; subst h3
    exact ⟨nl, a, N, f, rfl, hb⟩
  · cases h
theorem val2 {f : Nat → Nat → AV} {N o : Nat} (h : okB f N = true) (hk : o + 2 ≤ N) : ∃ v : Nat, val f o 2 = (v : Int) ∧ v < 65536 := by
  obtain ⟨a, b⟩ := val_bnd h 2 o hk
  have b' : val f o 2 < 65536 := b
  exact ⟨(val f o 2).toNat, by omega, by omega⟩
theorem all_at2 {f : Nat → Nat → AV} {N o n : Nat} (h : okB f N = true) (hk : o + n ≤ N) {F : Nat → Int} (hF : ∀ i, i < n → F i = (f (o + i) 0).toI) : (List.all (List.range n) fun i => decide (0 ≤ F i) && decide (F i < 256)) = true := by
  rw [List.all_eq_true]
  intro i hi
  have hi := List.mem_range.1 hi
  obtain ⟨a, b⟩ := okB_at h (show o + i < N by omega)
  rw [hF i hi, decide_eq_true a, decide_eq_true b]; rfl
theorem str_eq {f : Nat → Nat → AV} {o n : Nat} {F : Nat → Int} (hF : ∀ i, i < n → F i = (f (o + i) 0).toI) : (List.map (fun i => Int.toNat (F i)) (List.range n)) = strV f o n := by
  unfold strV
  exact List.map_congr_left fun i hi => by rw [hF i (List.mem_range.1 hi)]; rfl
theorem t34 (c c' : CS) (h : (q34 c).run = some c') : ∃ m pr ros π c0 c1, Seen c c0 ∧ callC F3 m 34 1 pr ros π c0 = some c1 ∧ Seen c1 c' := by
  unfold q34 at h
  cases hb : badP c with
  | true =>
    rw [hb] at h
    simp only [cond_true] at h
    unfold q34f at h
    split at h
    · rename_i z _ _ _ _
      obtain ⟨hn, hb2⟩ := chkT_run h
      have hz := hn 0 _ rfl
      subst hz
      simp only [T.run, Option.some.injEq] at hb2; subst hb2
      exact ⟨1000, .keep, [pR], k34f_p, _, _, Seen.mk' (SeenVs.refl _) (.cons (SeenO.cells (.cons SeenV.nil (SeenVs.refl _))) (.skip .nil)), k34f_eq, Seen.refl _⟩
    · cases h
  | false =>
    rw [hb] at h
    simp only [cond_false] at h
    clear hb
    obtain ⟨nl, off, N, f, rfl, hb⟩ := q34o_inv h
    obtain ⟨hn, hb2⟩ := chkT_run hb
    have hok := hn 0 _ rfl
    have hoN := le_of (hn 1 _ rfl)
    have hN := le_of (hn 2 _ rfl)
    have hnl := hn 3 _ rfl
    clear h hb hn
    have e := k34_eq nl off N f
    simp only [show Int.toNat 2 = 2 from rfl] at e
    rw [hok, ble_t hoN, ble_t hN] at e
    simp only [T.run] at hb2
    by_cases hf : N < off + 2
    · rw [blt_t hf] at hb2 e
      simp only [cond_true, Option.some.injEq] at hb2; subst hb2
      exact ⟨1000, .keep, [pR], k34_p, _, _, Seen.refl _, e, Seen.refl _⟩
    · rw [blt_f hf] at hb2 e
      simp only [cond_false] at hb2
      obtain ⟨v, hv, hv2⟩ := val2 hok (show off + 2 ≤ N by omega)
      rw [hv] at hb2 e
      have e1 : IntKind.wrap .i64 (v : Int) = (v : Int) := wrap_i64 (by omega)
      rw [e1, decide_eq_false (show ¬ (v : Int) < 0 by omega)] at e
      cases nl with
      | true =>
        have : N = 0 := by simpa using hnl
        omega
      | false =>
      by_cases hg : (v : Int) > 16384
      · rw [decide_eq_true hg] at hb2 e
        simp only [cond_true, Option.some.injEq] at hb2; subst hb2
        cases hz : decide ((v : Int) > 0) <;> rw [hz] at e <;> exact ⟨1000, .keep, [pR], k34_p, _, _, Seen.refl _, e, Seen.refl _⟩
      · rw [decide_eq_false hg] at hb2 e
        simp only [cond_false, Int.toNat_natCast] at hb2 e
        by_cases hl : N < off + 2 + v
        · rw [blt_t hl] at hb2
          simp only [cond_true, Option.some.injEq] at hb2; subst hb2
          rw [decide_eq_true (show (v : Int) > ((N - (off + 2) : Nat) : Int) by omega)] at e
          exact ⟨1000, .keep, [pR], k34_p, _, _, Seen.refl _, e, Seen.refl _⟩
        · rw [blt_f hl] at hb2
          simp only [cond_false, Option.some.injEq] at hb2; subst hb2
          rw [decide_eq_false (show ¬ (v : Int) > ((N - (off + 2) : Nat) : Int) by omega), ble_t (show v ≤ N - (off + 2) by omega), decide_eq_true (show 0 ≤ (v : Int) by omega)] at e
          simp only [Nat.sub_zero, Nat.zero_add, Nat.add_zero] at e
          rw [ble_t (show off + 2 + v ≤ N by omega), growt (show v ≤ 2000000 by omega), ble_t (Nat.le_refl v)] at e
          by_cases h0 : v = 0
          · subst h0
            rw [Nat.beq_refl] at e
            refine ⟨1000, .keep, [pR], k34_p, _, _, Seen.refl _, e, Seen.mk' (SeenVs.refl _) (.cons (SeenO.cells (.cons (SeenV.of_eq ?_) (SeenVs.refl _))) (SeenOs.refl _))⟩
            rw [Nat.sub_sub]
          · have hz : Nat.beq v 0 = false := by rw [beq_iff, decide_eq_false h0]
            have hF : ∀ i, i < v → byteAt (fjoin (fun _ _ => AV.bad) 0 fun i j => f (off + 2 + i) j) i = (f (off + 2 + i) 0).toI := fun i hi => by
              unfold byteAt
              rw [fjoin_ge (Nat.zero_le _), Nat.sub_zero]
            rw [hz, all_at2 (o := off + 2) (n := v) hok (by omega) hF, str_eq (o := off + 2) (n := v) hF] at e
            refine ⟨1000, .keep, [pR], k34_p, _, _, Seen.refl _, e, Seen.mk' (SeenVs.refl _) (.cons (SeenO.cells (.cons (SeenV.of_eq ?_) (SeenVs.refl _))) (SeenOs.refl _))⟩
            rw [Nat.sub_sub]
theorem t38 (c c' : CS) (h : (q38 c).run = some c') : ∃ m pr ros π c0 c1, Seen c c0 ∧ callC F3 m 38 1 pr ros π c0 = some c1 ∧ Seen c1 c' := by
  unfold q38 at h
  cases hb : badP c with
  | true =>
    rw [hb] at h
    simp only [cond_true] at h
    clear hb
    unfold q38f at h
    split at h
    · rename_i nl N N2 _ sh M f
      obtain ⟨hn, hb2⟩ := chkT_run h
      have e1 := of_decide_eq_true (hn 0 _ rfl)
      have e2 := of_decide_eq_true (hn 1 _ rfl)
      have e3 := (shBeq_eq (hn 2 _ rfl)).symm
      subst e1; subst e2; subst e3
      simp only [T.run, Option.some.injEq] at hb2; subst hb2
      have e := k38f_eq nl N f
      exact ⟨1000, .keep, [pRR], k38f_p, _, _, Seen.mk' (SeenVs.refl _) (.cons (SeenO.cells (.cons (SeenV.refl _) (.cons SeenV.bad (SeenVs.refl _)))) (SeenOs.refl _)), e, Seen.refl _⟩
    · cases h
  | false =>
    rw [hb] at h
    simp only [cond_false] at h
    clear hb
    obtain ⟨nl, a, N, f, rfl, hb⟩ := q38o_inv h
    obtain ⟨hn, hb2⟩ := chkT_run hb
    have hok := hn 0 _ rfl
    have hoN := le_of (hn 1 _ rfl)
    have hN := le_of (hn 2 _ rfl)
    clear h hb hn
    have e := k38_eq nl a N f
    simp only [show Int.toNat 2 = 2 from rfl] at e
    rw [hok, ble_t hoN, ble_t hN] at e
    simp only [T.run] at hb2
    by_cases hf : N < a + 2
    · rw [blt_t hf] at hb2 e
      simp only [cond_true, Option.some.injEq] at hb2; subst hb2
      exact ⟨1000, .keep, [pRR], k38_p, _, _, Seen.refl _, e, Seen.mk' (SeenVs.refl _) (.cons (SeenO.cells (.cons (SeenV.refl _) (.cons SeenV.bad (SeenVs.refl _)))) (SeenOs.refl _))⟩
    · rw [blt_f hf] at hb2 e
      simp only [cond_false] at hb2
      obtain ⟨v, hv, hv2⟩ := val2 hok (show a + 2 ≤ N by omega)
      rw [hv] at hb2 e
      have e1 : IntKind.wrap .i64 (v : Int) = (v : Int) := wrap_i64 (by omega)
      have e2 : IntKind.wrap .i64 ((N : Int) - ((a + 2 : Nat) : Int)) = ((N - (a + 2) : Nat) : Int) := by
        have := wrap_i64 (i := N - (a + 2)) (by omega)
        rw [show (N : Int) - ((a + 2 : Nat) : Int) = ((N - (a + 2) : Nat) : Int) by omega, this]
      have e3 : IntKind.wrap .i64 (((a + 2 : Nat) : Int) + (v : Int)) = ((a + 2 + v : Nat) : Int) := by
        have := wrap_i64 (i := a + 2 + v) (by omega)
        rw [show ((a + 2 : Nat) : Int) + (v : Int) = ((a + 2 + v : Nat) : Int) by omega, this]
      rw [e1, decide_eq_false (show ¬ (v : Int) < 0 by omega)] at e
      by_cases hg : (v : Int) > 16384
      · rw [decide_eq_true hg] at hb2 e
        simp only [cond_true, Option.some.injEq] at hb2; subst hb2
        cases hz : decide ((v : Int) > 0) <;> rw [hz] at e <;> exact ⟨1000, .keep, [pRR], k38_p, _, _, Seen.refl _, e, Seen.mk' (SeenVs.refl _) (.cons (SeenO.cells (.cons (SeenV.refl _) (.cons SeenV.bad (SeenVs.refl _)))) (SeenOs.refl _))⟩
      · rw [decide_eq_false hg, e2, e3] at e
        rw [decide_eq_false hg] at hb2
        simp only [cond_false, Int.toNat_natCast] at hb2 e
        by_cases hl : N < a + 2 + v
        · rw [blt_t hl] at hb2
          simp only [cond_true, Option.some.injEq] at hb2; subst hb2
          rw [decide_eq_true (show (v : Int) > ((N - (a + 2) : Nat) : Int) by omega)] at e
          exact ⟨1000, .keep, [pRR], k38_p, _, _, Seen.refl _, e, Seen.mk' (SeenVs.refl _) (.cons (SeenO.cells (.cons (SeenV.refl _) (.cons SeenV.bad (SeenVs.refl _)))) (SeenOs.refl _))⟩
        · rw [blt_f hl] at hb2
          simp only [cond_false, Option.some.injEq] at hb2; subst hb2
          simp only [Nat.zero_add, Nat.add_sub_cancel_left] at e
          have hF : ∀ i, i < v → byteAt f (a + 2 + i) = (f (a + 2 + i) 0).toI := fun i hi => rfl
          rw [decide_eq_false (show ¬ (v : Int) > ((N - (a + 2) : Nat) : Int) by omega), ble_t (show a + 2 ≤ a + 2 + v by omega), decide_eq_true (show 0 ≤ ((a + 2 + v : Nat) : Int) by omega), ble_t (show a + 2 + v ≤ N by omega), all_at2 (o := a + 2) (n := v) hok (by omega) hF] at e
          exact ⟨1000, .keep, [pRR], k38_p, _, _, Seen.refl _, e, Seen.refl _⟩
theorem q4 : Bm.Good Try.prog F4 := (q3.addI q3 (by kernel_rfl) t34).addI q3 (by kernel_rfl) t38
theorem t33 (c c' : CS) (h : (q33 c).run = some c') : ∃ m pr ros π c0 c1, Seen c c0 ∧ callC F4 m 33 1 pr ros π c0 = some c1 ∧ Seen c1 c' := by
  unfold q33 at h
  cases hb : badP c with
  | true =>
    rw [hb] at h
    simp only [cond_true] at h
    unfold q33f at h
    split at h
    · rename_i z _ _ _ _
      obtain ⟨hn, hb2⟩ := chkT_run h
      have hz := hn 0 _ rfl
      subst hz
      simp only [T.run, Option.some.injEq] at hb2; subst hb2
      exact ⟨1000, .keep, [pR], k33f_p, _, _, Seen.mk' (SeenVs.refl _) (.cons (SeenO.cells (.cons SeenV.nil (SeenVs.refl _))) (.skip .nil)), k33f_eq, Seen.refl _⟩
    · cases h
  | false =>
    rw [hb] at h
    simp only [cond_false] at h
    clear hb
    obtain ⟨nl, off, N, f, rfl, hb⟩ := q33o_inv h
    obtain ⟨hn, hb2⟩ := chkT_run hb
    have hok := hn 0 _ rfl
    have hoN := le_of (hn 1 _ rfl)
    have hN := le_of (hn 2 _ rfl)
    clear h hb hn
    have e := k33_eq nl off N f
    simp only [show Int.toNat 8 = 8 from rfl, show Int.toNat 4 = 4 from rfl, Nat.add_assoc, Nat.reduceAdd] at e
    rw [hok, ble_t hoN, ble_t hN] at e
    simp only [T.run] at hb2
    by_cases h1 : N < off + 8
    · rw [blt_t h1] at hb2 e
      simp only [cond_true, Option.some.injEq] at hb2; subst hb2
      exact ⟨1000, .keep, [pR], k33_p, _, _, Seen.refl _, e, Seen.refl _⟩
    · rw [blt_f h1, ble_t (show off + 8 ≤ N by omega)] at e
      rw [blt_f h1] at hb2
      by_cases h2 : N < off + 16
      · rw [blt_t h2] at hb2 e
        simp only [cond_true, cond_false, Option.some.injEq] at hb2; subst hb2
        exact ⟨1000, .keep, [pR], k33_p, _, _, Seen.refl _, e, Seen.refl _⟩
      · rw [blt_f h2, ble_t (show off + 16 ≤ N by omega)] at e
        rw [blt_f h2] at hb2
        by_cases h3 : N < off + 20
        · rw [blt_t h3] at hb2 e
          simp only [cond_true, cond_false, Option.some.injEq] at hb2; subst hb2
          exact ⟨1000, .keep, [pR], k33_p, _, _, Seen.refl _, e, Seen.refl _⟩
        · rw [blt_f h3, ble_t (show off + 20 ≤ N by omega)] at e
          rw [blt_f h3] at hb2
          by_cases h4 : N < off + 24
          · rw [blt_t h4] at hb2 e
            simp only [cond_true, cond_false, Option.some.injEq] at hb2; subst hb2
            exact ⟨1000, .keep, [pR], k33_p, _, _, Seen.refl _, e, Seen.refl _⟩
          · rw [blt_f h4] at e hb2
            simp only [cond_false, Option.some.injEq] at hb2; subst hb2
            exact ⟨1000, .keep, [pR], k33_p, _, _, Seen.refl _, e, Seen.refl _⟩
theorem t37 (c c' : CS) (h : (q37 c).run = some c') : ∃ m pr ros π c0 c1, Seen c c0 ∧ callC F4 m 37 1 pr ros π c0 = some c1 ∧ Seen c1 c' := by
  unfold q37 at h
  cases hb : badP c with
  | true =>
    rw [hb] at h
    simp only [cond_true] at h
    clear hb
    unfold q37f at h
    split at h
    · rename_i nl N N2 _ sh M f
      obtain ⟨hn, hb2⟩ := chkT_run h
      have e1 := of_decide_eq_true (hn 0 _ rfl)
      have e2 := of_decide_eq_true (hn 1 _ rfl)
      have e3 := (shBeq_eq (hn 2 _ rfl)).symm
      subst e1; subst e2; subst e3
      simp only [T.run, Option.some.injEq] at hb2; subst hb2
      have e := k37f_eq nl N f
      exact ⟨1000, .keep, [pRR], k37f_p, _, _, Seen.mk' (SeenVs.refl _) (.cons (SeenO.cells (.cons (SeenV.refl _) (.cons SeenV.bad (SeenVs.refl _)))) (SeenOs.refl _)), e, Seen.refl _⟩
    · cases h
  | false =>
    rw [hb] at h
    simp only [cond_false] at h
    clear hb
    obtain ⟨nl, a, N, f, rfl, hb⟩ := q37o_inv h
    obtain ⟨hn, hb2⟩ := chkT_run hb
    have hok := hn 0 _ rfl
    have hoN := le_of (hn 1 _ rfl)
    have hN := le_of (hn 2 _ rfl)
    clear h hb hn
    have e := k37_eq nl a N f
    simp only [show Int.toNat 8 = 8 from rfl, show Int.toNat 4 = 4 from rfl, Nat.add_assoc, Nat.reduceAdd] at e
    rw [hok, ble_t hoN, ble_t hN] at e
    simp only [T.run] at hb2
    by_cases h1 : N < a + 8
    · rw [blt_t h1] at hb2 e
      simp only [cond_true, Option.some.injEq] at hb2; subst hb2
      exact ⟨1000, .keep, [pRR], k37_p, _, _, Seen.refl _, e, Seen.mk' (SeenVs.refl _) (.cons (SeenO.cells (.cons (SeenV.refl _) (.cons SeenV.bad (SeenVs.refl _)))) (SeenOs.refl _))⟩
    · rw [blt_f h1, ble_t (show a + 8 ≤ N by omega)] at e
      rw [blt_f h1] at hb2
      by_cases h2 : N < a + 16
      · rw [blt_t h2] at hb2 e
        simp only [cond_true, cond_false, Option.some.injEq] at hb2; subst hb2
        exact ⟨1000, .keep, [pRR], k37_p, _, _, Seen.refl _, e, Seen.mk' (SeenVs.refl _) (.cons (SeenO.cells (.cons (SeenV.refl _) (.cons SeenV.bad (SeenVs.refl _)))) (SeenOs.refl _))⟩
      · rw [blt_f h2, ble_t (show a + 16 ≤ N by omega)] at e
        rw [blt_f h2] at hb2
        by_cases h3 : N < a + 20
        · rw [blt_t h3] at hb2 e
          simp only [cond_true, cond_false, Option.some.injEq] at hb2; subst hb2
          exact ⟨1000, .keep, [pRR], k37_p, _, _, Seen.refl _, e, Seen.mk' (SeenVs.refl _) (.cons (SeenO.cells (.cons (SeenV.refl _) (.cons SeenV.bad (SeenVs.refl _)))) (SeenOs.refl _))⟩
        · rw [blt_f h3, ble_t (show a + 20 ≤ N by omega)] at e
          rw [blt_f h3] at hb2
          by_cases h4 : N < a + 24
          · rw [blt_t h4] at hb2 e
            simp only [cond_true, cond_false, Option.some.injEq] at hb2; subst hb2
            exact ⟨1000, .keep, [pRR], k37_p, _, _, Seen.refl _, e, Seen.mk' (SeenVs.refl _) (.cons (SeenO.cells (.cons (SeenV.refl _) (.cons SeenV.bad (SeenVs.refl _)))) (SeenOs.refl _))⟩
          · rw [blt_f h4] at e hb2
            simp only [cond_false, Option.some.injEq] at hb2; subst hb2
            exact ⟨1000, .keep, [pRR], k37_p, _, _, Seen.refl _, e, Seen.refl _⟩
theorem q5 : Bm.Good Try.prog F5 := (q4.addI q4 (by kernel_rfl) t33).addI q4 (by kernel_rfl) t37
end Go.Proofs.Ytjbjjikdihghmaa.entry
