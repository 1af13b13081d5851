/- An entry that is written is read as it was, whatever stands behind; what is read of any bytes, written, is their beginning: for every input the law returns true, and the input reads as it did. No condition. -/
import Derived.Test.YtjbjjikdihghmaaBxE
set_option linter.unusedSimpArgs false
set_option linter.unusedVariables false
set_option maxRecDepth 20000
namespace Go.Proofs.Ytjbjjikdihghmaa.entry
open Go Go.ChangeShapes Go.WideShapes Go.ChangeAt Go.RowKit Go.Proofs.Ytjbjjikdihghmaa.Bm
theorem r18_inv  {c : CS} {r : Nat × CS} (h : (r18  c).run = some r) : ∃ ix tm st kd cl rq fr ct d ix2 tm2 st2 kd2 cl2 rq2 fr2 ct2 d2 nl nl2 n m f g, c = c18 ix tm st kd cl rq fr ct d ix2 tm2 st2 kd2 cl2 rq2 fr2 ct2 d2 nl nl2 n m f g 0 ∧ (r18B  ix tm st kd cl rq fr ct d ix2 tm2 st2 kd2 cl2 rq2 fr2 ct2 d2 nl nl2 n m f g).run = some r := by
  unfold r18 at h
  split at h
  · rename_i z_1 ix tm st kd cl rq fr ct d nl n z_2 ix2 tm2 st2 kd2 cl2 rq2 fr2 ct2 d2 nl2 m z_3 sh_4 z_5 f sh_6 z_7 g
    obtain ⟨hc, hb⟩ := chkT_run h
    have h0 := hc 0 _ rfl
    have h0 := of_decide_eq_true h0; subst h0
    have h1 := hc 1 _ rfl
    have h1 := of_decide_eq_true h1; subst h1
    have h2 := hc 2 _ rfl
    have h2 := of_decide_eq_true h2; subst h2
    have h3 := hc 3 _ rfl
    have h3 := (shBeq_eq h3).symm; subst h3
    have h4 := hc 4 _ rfl
    have h4 := of_decide_eq_true h4; subst h4
    have h5 := hc 5 _ rfl
    have h5 := (shBeq_eq h5).symm; subst h5
    have h6 := hc 6 _ rfl
    have h6 := of_decide_eq_true h6; subst h6
    exact ⟨ix, tm, st, kd, cl, rq, fr, ct, d, ix2, tm2, st2, kd2, cl2, rq2, fr2, ct2, d2, nl, nl2, n, m, f, g, rfl, hb⟩
  · cases h
theorem f18_inv  {c : CS} {r : CS} (h : (f18  c).run = some r) : ∃ ix tm st kd cl rq fr ct d ix2 tm2 st2 kd2 cl2 rq2 fr2 ct2 d2 nl nl2 n m f g, c = a17 ix tm st kd cl rq fr ct d ix2 tm2 st2 kd2 cl2 rq2 fr2 ct2 d2 nl nl2 n m f g ∧ (f18B  ix tm st kd cl rq fr ct d ix2 tm2 st2 kd2 cl2 rq2 fr2 ct2 d2 nl nl2 n m f g).run = some r := by
  unfold f18 at h
  split at h
  · rename_i ix tm st kd cl rq fr ct d nl n z_1 ix2 tm2 st2 kd2 cl2 rq2 fr2 ct2 d2 nl2 m z_2 sh_3 z_4 f sh_5 z_6 g
    obtain ⟨hc, hb⟩ := chkT_run h
    have h0 := hc 0 _ rfl
    have h0 := of_decide_eq_true h0; subst h0
    have h1 := hc 1 _ rfl
    have h1 := of_decide_eq_true h1; subst h1
    have h2 := hc 2 _ rfl
    have h2 := (shBeq_eq h2).symm; subst h2
    have h3 := hc 3 _ rfl
    have h3 := of_decide_eq_true h3; subst h3
    have h4 := hc 4 _ rfl
    have h4 := (shBeq_eq h4).symm; subst h4
    have h5 := hc 5 _ rfl
    have h5 := of_decide_eq_true h5; subst h5
    exact ⟨ix, tm, st, kd, cl, rq, fr, ct, d, ix2, tm2, st2, kd2, cl2, rq2, fr2, ct2, d2, nl, nl2, n, m, f, g, rfl, hb⟩
  · cases h
theorem scan_run {α : Type} {b : Bool} {x y r : α} (h : (T.ask b (.ret x) (.ret y)).run = some r) : r = cond b x y := by
  simp only [T.run] at h
  cases b <;> simp only [cond_true, cond_false, Option.some.injEq] at h ⊢ <;> exact h.symm
theorem ne_of {n m : Nat} (h : (!((n : Int) != (m : Int))) = true) : n = m := by
  simp only [bne, Bool.not_not, beq_iff_eq] at h
  omega
theorem i18 (c : CS) (r : Nat × CS) (h : (r18 c).run = some r) : ∃ n, iterC (stepC F8 300 (loopC F8 16 0) 0 h18 ((.normal, h18) :: x18) s18_p) n c = some r := by
  obtain ⟨ix, tm, st, kd, cl, rq, fr, ct, d, ix2, tm2, st2, kd2, cl2, rq2, fr2, ct2, d2, nl, nl2, n, m, f, g, rfl, hb⟩ := r18_inv h
  obtain ⟨hn, hb2⟩ := chkT_run hb
  have hm := ne_of (hn 0 _ rfl)
  have hn := le_of (hn 1 _ rfl)
  subst hm
  rw [scan_run hb2]
  refine iter_scan (C := fun i => c18 ix tm st kd cl rq fr ct d ix2 tm2 st2 kd2 cl2 rq2 fr2 ct2 d2 nl nl2 n n f g i) (q := rowE f g) (by simp) (by simp) (fun i hi => ?_) ?_
  · show s18 ix tm st kd cl rq fr ct d ix2 tm2 st2 kd2 cl2 rq2 fr2 ct2 d2 nl nl2 n n f g i s18_p = _
    rw [s18_eq]
    simp only [ix_, lt1 hi, blt2 hi, wrap_i64s (i := i) (by omega), cond_true]
    change cond (rowE f g i) _ _ = cond (rowE f g i) _ _
    cases rowE f g i <;> rfl
  · show s18 ix tm st kd cl rq fr ct d ix2 tm2 st2 kd2 cl2 rq2 fr2 ct2 d2 nl nl2 n n f g n s18_p = _
    rw [s18_eq]
    simp only [lt0, cond_false]
theorem q9 : Bm.Good Try.prog F9 := q8.addL (by kernel_rfl) rfl (by decide) (by decide) rfl i18
set_option maxRecDepth 100000 in
theorem q10 : Bm.Good Try.prog F10 := by
  refine q9.addR q9 (by kernel_rfl) (fun c c' h => ?_)
  obtain ⟨ix, tm, st, kd, cl, rq, fr, ct, d, ix2, tm2, st2, kd2, cl2, rq2, fr2, ct2, d2, nl, nl2, n, m, f, g, rfl, hb⟩ := f18_inv h
  obtain ⟨hn, hb2⟩ := chkT_run hb
  simp only [T.run, Option.some.injEq] at hb2; subst hb2
  exact ⟨1000, .keep, [], k18_p, k18_S ix tm st kd cl rq fr ct d ix2 tm2 st2 kd2 cl2 rq2 fr2 ct2 d2 nl nl2 n m f g (hn 0 _ rfl)⟩
/-- Bytes. -/
def BR (F : Nat → Nat → AV) (n : Nat) : Prop := ∀ i, i < n → 0 ≤ (F i 0).toI ∧ (F i 0).toI < 256
theorem br_byt (x : Int) (i : Nat) : 0 ≤ byt x i ∧ byt x i < 256 := by unfold byt; omega
theorem br_one {x : Int} {n : Nat} : BR (oneB x) n := fun i _ => br_byt _ _
theorem br_all {w n : Nat} {g : Nat → Nat → AV} : BR (allB w g) n := fun i _ => br_byt _ _
theorem br_look {cl rq fr ct : Int} (a : Nat) : 0 ≤ lookI cl rq fr ct a ∧ lookI cl rq fr ct a < 256 := by
  unfold lookI
  cases Nat.blt a 8 <;> cases Nat.blt a 16 <;> cases Nat.blt a 20 <;> exact br_byt _ _
theorem br_str {d : List Nat} {n : Nat} (h : ∀ b ∈ d, b < 256) : BR (strB d) n := fun i _ => by
  show 0 ≤ ((natAt d i : Nat) : Int) ∧ ((natAt d i : Nat) : Int) < 256
  have : natAt d i < 256 := by
    unfold natAt
    split
    · rename_i v hv; exact h v (List.mem_of_getElem? hv)
    · decide
  omega
theorem br_join {F X : Nat → Nat → AV} {n m : Nat} (h : BR F n) (k : BR X m) : BR (fjoin F n X) (n + m) := fun i hi => by
  by_cases h1 : i < n
  · rw [fjoin_lt h1]; exact h i h1
  · rw [fjoin_ge (by omega)]; exact k _ (by omega)
theorem br_ent {ix tm st kd cl rq fr ct : Int} {d : List Nat} {m : Nat} {g : Nat → Nat → AV} (h : ∀ b ∈ d, b < 256) : BR (entB ix tm st kd cl rq fr ct d m g) (52 + d.length + 24 * m) := by
  unfold entB
  refine br_join ?_ (fun i _ => br_look _)
  have := br_join (n := 51 + d.length) (m := 1) (X := allB 1 (rowsOf 1 [.int .u64 (IntKind.wrap .u64 (m : Int))] 1)) (F := fjoin (fjoin (fjoin (fjoin (fjoin (fun _ _ => .bad) 0 (allB 8 (rowsOf 1 [.int .u64 ix, .int .u64 tm, .int .u64 st] 3))) 24 (allB 1 (rowsOf 1 [.int .u64 (IntKind.wrap .u64 kd)] 1))) 25 (lookB cl rq fr ct)) 49 (oneB (IntKind.wrap .u64 (d.length : Int)))) 51 (strB d)) ?_ br_all
  · rw [show 52 + d.length = 51 + d.length + 1 by omega]; exact this
  · refine br_join ?_ (br_str h)
    refine br_join (n := 49) (m := 2) ?_ br_one
    refine br_join (n := 25) (m := 24) ?_ (fun i _ => br_look _)
    refine br_join (n := 24) (m := 1) ?_ br_all
    exact br_join (n := 0) (m := 24) (fun i hi => absurd hi (Nat.not_lt_zero _)) br_all
theorem u64_rng {x : Int} (h : IntKind.min .u64 ≤ x ∧ x ≤ IntKind.max .u64) : u64B x = true := by
  have a : (0 : Int) ≤ x := h.1
  have b : x ≤ 18446744073709551615 := h.2
  rw [u64B_eq, decide_eq_true a, decide_eq_true (show x < 18446744073709551616 by omega)]; rfl
theorem u8_ok {f : Nat → Nat → AV} {N : Nat} (h : ∀ i, i < N → ∀ (j : Nat) s, shB[j]? = some s → Rng s (f i j)) : okB f N = true := by
  rw [okB_eq, List.all_eq_true]
  intro i hi
  have := h i (List.mem_range.1 hi) 0 (.int .u8) rfl
  have a : (0 : Int) ≤ (f i 0).toI := this.1
  have b : (f i 0).toI ≤ 255 := this.2
  rw [decide_eq_true a, decide_eq_true (show (f i 0).toI < 256 by omega)]; rfl
theorem f8x_inv  {c : CS} {r : CS} (h : (f8x  c).run = some r) : ∃ ix tm st kd cl rq fr ct d nl2 m g, c = a8 ix tm st kd cl rq fr ct d nl2 m g ∧ (f8xB  ix tm st kd cl rq fr ct d nl2 m g).run = some r := by
  unfold f8x at h
  split at h
  · rename_i ix tm st kd cl rq fr ct d nl2 m z_1 sh_2 z_3 g
    obtain ⟨hc, hb⟩ := chkT_run h
    have h0 := hc 0 _ rfl
    have h0 := of_decide_eq_true h0; subst h0
    have h1 := hc 1 _ rfl
    have h1 := (shBeq_eq h1).symm; subst h1
    have h2 := hc 2 _ rfl
    have h2 := of_decide_eq_true h2; subst h2
    exact ⟨ix, tm, st, kd, cl, rq, fr, ct, d, nl2, m, g, rfl, hb⟩
  · cases h
theorem rT_inv  {c : CS} {r : Nat × CS} (h : (rT  c).run = some r) : ∃ nl2 N g, c = cT nl2 N g ∧ (rTB  nl2 N g).run = some r := by
  unfold rT at h
  split at h
  · rename_i nl2 N z_1 sh_2 z_3 g
    obtain ⟨hc, hb⟩ := chkT_run h
    have h0 := hc 0 _ rfl
    have h0 := of_decide_eq_true h0; subst h0
    have h1 := hc 1 _ rfl
    have h1 := (shBeq_eq h1).symm; subst h1
    have h2 := hc 2 _ rfl
    have h2 := of_decide_eq_true h2; subst h2
    exact ⟨nl2, N, g, rfl, hb⟩
  · cases h
theorem r2_inv  {c : CS} {r : Nat × CS} (h : (r2  c).run = some r) : ∃ nl2 N g ix tm st kd cl rq fr ct d nl n f M F, c = c2 nl2 N g ix tm st kd cl rq fr ct d nl n f M F ∧ (r2B  nl2 N g ix tm st kd cl rq fr ct d nl n f M F).run = some r := by
  unfold r2 at h
  split at h
  · rename_i nl2 N z_1 sh_2 z_3 g ix tm st kd cl rq fr ct d nl n z_4 z_5 M z_6 z_7 sh_8 z_9 f sh_10 z_11 F
    obtain ⟨hc, hb⟩ := chkT_run h
    have h0 := hc 0 _ rfl
    have h0 := of_decide_eq_true h0; subst h0
    have h1 := hc 1 _ rfl
    have h1 := (shBeq_eq h1).symm; subst h1
    have h2 := hc 2 _ rfl
    have h2 := of_decide_eq_true h2; subst h2
    have h3 := hc 3 _ rfl
    have h3 := of_decide_eq_true h3; subst h3
    have h4 := hc 4 _ rfl
    have h4 := of_decide_eq_true h4; subst h4
    have h5 := hc 5 _ rfl
    have h5 := of_decide_eq_true h5; subst h5
    have h6 := hc 6 _ rfl
    have h6 := of_decide_eq_true h6; subst h6
    have h7 := hc 7 _ rfl
    have h7 := (shBeq_eq h7).symm; subst h7
    have h8 := hc 8 _ rfl
    have h8 := of_decide_eq_true h8; subst h8
    have h9 := hc 9 _ rfl
    have h9 := (shBeq_eq h9).symm; subst h9
    have h10 := hc 10 _ rfl
    have h10 := of_decide_eq_true h10; subst h10
    exact ⟨nl2, N, g, ix, tm, st, kd, cl, rq, fr, ct, d, nl, n, f, M, F, rfl, hb⟩
  · cases h
theorem must {α : Type} {b : Bool} {x : Option α} {r : α} (h : b = true) (k : x = some r) : cond b x none = some r := by rw [h]; exact k
theorem condt {α : Type} {b : Bool} {x y r : α} (h : b = true) (k : x = r) : cond b x y = r := by rw [h]; exact k
theorem condf {α : Type} {b : Bool} {x y r : α} (h : b = false) (k : y = r) : cond b x y = r := by rw [h]; exact k
theorem errN_ne {kd : Int} {d : List Nat} {m : Nat} : (errN kd d m == 0) = false := by
  unfold errN
  cases (decide (kd < 0) || decide (kd > 255)) <;> rfl
theorem f8_of {c c' : CS} (h : (f8x c).run = some c') : (f8 c).run = some c' := by
  obtain ⟨ix, tm, st, kd, cl, rq, fr, ct, d, nl2, m, g, rfl, hb⟩ := f8x_inv h
  have e : (f8 (a8 ix tm st kd cl rq fr ct d nl2 m g)).run = (f8B ix tm st kd cl rq fr ct d nl2 m g).run := by
    show (chkT [decide (m = m), shBeq shL shL, decide (m = m)] (f8B ix tm st kd cl rq fr ct d nl2 m g)).run = _
    rw [decide_eq_true (show m = m from rfl)]; rfl
  rw [e]
  unfold f8xB wOK errN at hb
  unfold f8B
  simp only [T.run] at hb ⊢
  cases h1 : decide (kd < 0) <;> rw [h1] at hb <;> cases h2 : decide (kd > 255) <;> rw [h2] at hb <;> cases h3 : decide ((d.length : Int) > 16384) <;> rw [h3] at hb <;> cases h4 : decide ((m : Int) > 64) <;> rw [h4] at hb <;> exact hb
theorem hh1 : Bm.Good Try.prog H1 := q10.addN (by kernel_rfl) (fun c c' h => by
  obtain ⟨m, pr, ros, π, c0, c1, h1, h2, h3⟩ := t8 c c' (f8_of h)
  exact g10.callC h1 h2 h3)
theorem hh2 : Bm.Good Try.prog H2 := hh1.addC (by kernel_rfl) (fun c c' h => by
  unfold q14x at h
  cases hr : rwP c with
  | true =>
    rw [hr] at h
    obtain ⟨m, pr, ros, π, c0, c1, h1, h2, h3⟩ := t14w c c' h
    exact w6.callC h1 h2 h3
  | false =>
    rw [hr] at h
    obtain ⟨m, pr, ros, π, c0, c1, h1, h2, h3⟩ := t14 c c' h
    exact q7.callC h1 h2 h3)
set_option maxRecDepth 100000 in
theorem hh3 : Bm.Good Try.prog H3 := hh2.addF (lives_ok (m := 100000) g0 (by kernel_rfl))
/-! ### What is read of any bytes -/
theorem all_eq {G : Nat → Nat → AV} {n : Nat} (h : ∀ i, i < n → 0 ≤ (G i 0).toI ∧ (G i 0).toI < 256) : (List.all (List.range n) fun i => decide (0 ≤ byteAt G i) && decide (byteAt G i < 256)) = true := by
  rw [List.all_eq_true]
  intro i hi
  obtain ⟨a, b⟩ := h i (List.mem_range.1 hi)
  rw [Bool.and_eq_true, decide_eq_true_eq, decide_eq_true_eq]
  exact ⟨a, b⟩
theorem map_eq {G H : Nat → Nat → AV} {n m : Nat} (e : n = m) (h : ∀ i, i < n → (G i 0).toI = (H i 0).toI) : (List.map (fun i => Int.toNat (byteAt G i)) (List.range n) == List.map (fun i => Int.toNat (byteAt H i)) (List.range m)) = true := by
  subst e
  rw [beq_iff_eq]
  refine List.map_congr_left fun i hi => ?_
  show Int.toNat (G i 0).toI = Int.toNat (H i 0).toI
  rw [h i (List.mem_range.1 hi)]
set_option maxRecDepth 100000 in
theorem kT_true (nl2 : Bool) (N : Nat) (g : Nat → Nat → AV) (hok : okB g N = true) (hN : N ≤ 20000) (hnl : cond nl2 (Nat.beq N 0) true = true) : kT nl2 N g kT_p = some (0, ⟨[.bool true], []⟩) := by
  rw [kT_eq nl2 N g (ble_t (by omega)) hok hnl errN_ne errN_ne]
  refine must (decide_eq_true (Nat.sub_zero N)) ?_
  cases hE : entOK g 0 N with
  | false => rfl
  | true =>
    obtain ⟨hl, he, hw⟩ := r_len hok hE
    have ew : IntKind.wrap .i64 ((N : Int) - ((N - eEnd g 0 : Nat) : Int)) = ((eEnd g 0 : Nat) : Int) := by
      have := wrap_i64 (i := eEnd g 0) (by omega)
      rw [show (N : Int) - ((N - eEnd g 0 : Nat) : Int) = ((eEnd g 0 : Nat) : Int) by omega, this]
    simp only [Nat.zero_add, Nat.sub_zero, ew, Int.toNat_natCast, cond_true]
    have hb : ∀ i, i < eEnd g 0 → 0 ≤ (g i 0).toI ∧ (g i 0).toI < 256 := fun i hi => okB_at hok (by omega)
    cases h0 : Nat.beq (bnum g 0) 0 with
    | true =>
      have h0 := Nat.eq_of_beq_eq_true h0
      have hbytes := fun {i : Nat} (hi : i < eEnd g 0) => r_bytes hok hE (G := fun _ _ => AV.bad) (.inl h0) hi
      rw [h0] at hw hl hbytes
      refine condt rfl (condt hw ?_)
      refine condt (by rw [hl, beq_self_eq_true]) ?_
      refine must (ble_t he) (must (decide_eq_true (by omega)) (must (ble_t he) (must (all_eq hb) (must (ble_t (Nat.le_refl _)) (must (all_eq fun i hi => ?_) (condt (map_eq hl.symm fun i hi => ?_) rfl))))))
      · rw [hl] at hi
        rw [hbytes hi]; exact hb i hi
      · rw [hbytes hi]
    | false =>
      have hbytes := fun {i : Nat} (hi : i < eEnd g 0) => r_bytes hok hE (.inr rfl) hi
      refine condf rfl (condt hw ?_)
      refine condt (by rw [hl, beq_self_eq_true]) ?_
      refine must (ble_t he) (must (decide_eq_true (by omega)) (must (ble_t he) (must (all_eq hb) (must (ble_t (Nat.le_refl _)) (must (all_eq fun i hi => ?_) (condt (map_eq hl.symm fun i hi => ?_) rfl))))))
      · rw [hl] at hi
        rw [hbytes hi]; exact hb i hi
      · rw [hbytes hi]
theorem tT (c : CS) (r : Nat × CS) (h : (rT c).run = some r) : ∃ m π c0 c1, Seen c c0 ∧ stepC H3 m (pieceC H3 5 pT) 0 hT xT π c0 = some (r.1, c1) ∧ Seen c1 r.2 := by
  obtain ⟨nl2, N, g, rfl, hb⟩ := rT_inv h
  obtain ⟨hn, hb2⟩ := chkT_run hb
  have hok := hn 0 _ rfl
  have hN := le_of (hn 1 _ rfl)
  have hnl := hn 2 _ rfl
  simp only [T.run, Option.some.injEq] at hb2; subst hb2
  exact ⟨1000, kT_p, _, _, Seen.refl _, kT_true nl2 N g hok hN hnl, Seen.refl _⟩
theorem hh4 : Bm.Good Try.prog H4 := hh3.addB (by kernel_rfl) rfl (by decide) tT
/-! ### What was written, read -/
theorem ne_self {a b : Nat} (h : a = b) : ((a : Int) != (b : Int)) = false := by subst h; simp
theorem t2 (c : CS) (r : Nat × CS) (h : (r2 c).run = some r) : ∃ m π c0 c1, Seen c c0 ∧ stepC H4 m (pieceC H4 5 p2) 0 h2 x2 π c0 = some (r.1, c1) ∧ Seen c1 r.2 := by
  obtain ⟨nl2, N, g, ix, tm, st, kd, cl, rq, fr, ct, d, nl, n, f, M, F, rfl, hb⟩ := r2_inv h
  obtain ⟨hn, hb2⟩ := chkT_run hb
  have hok := hn 0 _ rfl
  have hM := hn 1 _ rfl
  have hE := hn 2 _ rfl
  have hR := hn 3 _ rfl
  have hN := of_decide_eq_true (hn 4 _ rfl)
  simp only [T.run, Option.some.injEq] at hb2; subst hb2
  refine ⟨1000, kP_p, _, _, Seen.refl _, ?_, Seen.refl _⟩
  show kP nl2 N g ix tm st kd cl rq fr ct d nl n f M F kP_p = _
  rw [kP_eq nl2 N g ix tm st kd cl rq fr ct d nl n f M F hok hM hE]
  refine must (decide_eq_true (Nat.sub_zero M)) ?_
  unfold backR at hR
  have hbn : bnum F 0 ≤ 64 := by
    rw [entOK_eq] at hE
    simp only [Bool.and_eq_true, decide_eq_true_eq] at hE
    exact hE.2.2.2.1
  simp only [Nat.zero_add]
  cases h0 : Nat.beq (bnum F 0) 0 with
  | true =>
    have h0 := Nat.eq_of_beq_eq_true h0
    refine condt rfl (must ?_ (condf (ne_self hN) rfl))
    rw [h0] at hR
    exact hR
  | false => exact condf rfl (must (ble_t (by omega)) (must hR (condf (ne_self hN) rfl)))
theorem hh5 : Bm.Good Try.prog H5 := hh4.addB (by kernel_rfl) rfl (by decide) t2
/-! ### The law -/
theorem okB_mk {F : Nat → Nat → AV} {n : Nat} (h : ∀ i, i < n → 0 ≤ (F i 0).toI ∧ (F i 0).toI < 256) : okB F n = true := by
  rw [okB_eq, List.all_eq_true]
  intro i hi
  obtain ⟨a, b⟩ := h i (List.mem_range.1 hi)
  rw [Bool.and_eq_true, decide_eq_true_eq, decide_eq_true_eq]
  exact ⟨a, b⟩
theorem sh1 {X Y G : Nat → Nat → AV} {p i : Nat} : (fover (fjoin X 0 fun a b => G (0 + a) b) p 0 Y i 0).toI = (G i 0).toI := by
  rw [over0, fjoin_ge (Nat.zero_le _), Nat.sub_zero, Nat.zero_add]
theorem sh4 {X Y G : Nat → Nat → AV} {L i : Nat} (hi : i < L) : (fjoin (fun a b => fjoin X 0 (fun c e => G (0 + c) e) (0 + a) b) L Y i 0).toI = (G i 0).toI := by
  rw [fjoin_lt hi, Nat.zero_add, fjoin_ge (Nat.zero_le _), Nat.sub_zero, Nat.zero_add]
theorem sh5 {X g : Nat → Nat → AV} {L i : Nat} (hi : L ≤ i) : (fjoin X L (fun a b => g (0 + a) b) i 0).toI = (g (i - L) 0).toI := by
  rw [fjoin_ge hi, Nat.zero_add]
theorem fin_eq {F : Nat → Nat → AV} {E M N : Nat} (h : eEnd F 0 = E) (k : M - E = N) : M - eEnd F 0 = N := by rw [h]; exact k
set_option maxRecDepth 100000 in
theorem k5_true (ix tm st kd cl rq fr ct : Int) (d : List Nat) (nl : Bool) (n : Nat) (f : Nat → Nat → AV) (nl2 : Bool) (N : Nat) (g : Nat → Nat → AV) (hR : EntR ix tm st cl rq fr ct d n f) (hnl : nl2 = true → N = 0) (hok : okB g N = true) :
    k5 ix tm st kd cl rq fr ct d nl n f nl2 N g k5_p = some true := by
  have hL : Nat.ble ((0) + (52 + List.length d + 24 * n)) (0) = false := ble_f (by omega)
  have hnl' : cond nl2 (Nat.beq N 0) true = true := by
    cases nl2 with
    | true => rw [hnl rfl]; rfl
    | false => rfl
  by_cases hN : (N : Int) > 20000
  · rw [k5_is, decide_eq_true hN]
    cases decide ((d.length : Int) ≤ 20000) <;> cases decide ((n : Int) ≤ 200) <;> rfl
  · rw [k5_eq ix tm st kd cl rq fr ct d nl n f nl2 N g (ble_t (by omega)) hok errN_ne hL]
    cases decide ((d.length : Int) ≤ 20000) with
    | false => rfl
    | true =>
    cases decide ((n : Int) ≤ 200) with
    | false => rfl
    | true =>
    refine condt rfl (condt rfl (condf (decide_eq_false hN) ?_))
    cases hw : wOK kd d n with
    | false => exact condf rfl (must hnl' rfl)
    | true =>
      obtain ⟨k0, k1, hl, hn⟩ := wOK_of hw
      have hbr : ∀ i, i < 52 + d.length + 24 * n → 0 ≤ (entB ix tm st kd cl rq fr ct d n f i 0).toI ∧ (entB ix tm st kd cl rq fr ct d n f i 0).toI < 256 := br_ent hR.d
      refine condt rfl (must (growt (by omega)) (must (ble_t (by omega)) ?_))
      cases nl2 with
      | true =>
        have h0 := hnl rfl
        subst h0
        refine condt rfl (condt (ble_t (by omega)) (must (ble_t (by omega)) (must (decide_eq_true (by omega)) ?_)))
        refine must (okB_mk fun i hi => ?_) (must (ble_t (by omega)) (must (w_ok hw (fun i hi => sh1) (by omega)) (must (w_back hR hw (fun i hi => sh1)) (must (decide_eq_true (fin_eq (ee_eq hw (fun i hi => sh1)) (by omega))) (must hnl' rfl)))))
        rw [sh1]; exact hbr i (by omega)
      | false =>
        refine condf rfl ?_
        by_cases hz : N = 0
        · subst hz
          refine condt (ble_t (by omega)) (must (ble_t (by omega)) (must (ble_t (by omega)) (must (decide_eq_true (by omega)) ?_)))
          refine must (okB_mk fun i hi => ?_) (must (ble_t (by omega)) (must (w_ok hw (fun i hi => sh1) (by omega)) (must (w_back hR hw (fun i hi => sh1)) (must (decide_eq_true (fin_eq (ee_eq hw (fun i hi => sh1)) (by omega))) (must hnl' rfl)))))
          rw [sh1]; exact hbr i (by omega)
        · refine condf (ble_f (by omega)) (must (growt (by omega)) (must (ble_t (by omega)) (must (ble_t (by omega)) ?_)))
          refine must (okB_mk fun i hi => ?_) (must (ble_t (by omega)) (must (w_ok hw (fun i hi => sh4 (by omega)) (by omega)) (must (w_back hR hw (fun i hi => sh4 (by omega))) (must (decide_eq_true (fin_eq (ee_eq hw (fun i hi => sh4 (by omega))) (by omega))) (must hnl' rfl)))))
          by_cases hi2 : i < 0 + (52 + d.length + 24 * n)
          · rw [sh4 hi2]; exact hbr i (by omega)
          · rw [sh5 (by omega)]; exact okB_at hok (by omega)
theorem u32_rng {x : Int} (h : IntKind.min .u32 ≤ x ∧ x ≤ IntKind.max .u32) : u32R x := by
  have a : (0 : Int) ≤ x := h.1
  have b : x ≤ 4294967295 := h.2
  exact ⟨a, by omega⟩
end Go.Proofs.Ytjbjjikdihghmaa.entry
namespace Go.Proofs.Ytjbjjikdihghmaa.entryBack
open Go Go.ChangeShapes Go.WideShapes Go.ChangeAt Go.RowKit Go.Proofs.Ytjbjjikdihghmaa.Bm Go.Proofs.Ytjbjjikdihghmaa.entry

theorem own : ownKnob Try.prog.godebug = none := by kernel_rfl
theorem laidOut : laidOutB Try.prog = true := by kernel_rfl
theorem readable : ((Try.f5.params.toList).all fun t => Try.prog.readableRec t && Nat.blt t Try.prog.types.size) = true := by kernel_rfl
theorem fits : argsIs Try.prog [.st [.one (.int .u64), .one (.int .u64), .one (.int .u64), .one (.int .i64), .one (.int .u64), .one (.int .u64), .one (.int .u32), .one (.int .u32), .one .str, .sl shL], .one (.sl shB)] Try.f5.params.toList = true := by kernel_rfl
set_option maxRecDepth 100000 in
theorem walk {H : Type} {enc : TypeId × Value → H} (W : World) (args : Array Value) (base : Nat) (ds : List (DataW H)) (p : List MemPlace) (hA : DataW.TrodAll enc Try.prog W 0 (fun _ => true) true Try.f5.params.toList args.toList ds p)
    (hval : ∀ (j : Nat) t v, Try.f5.params[j]? = some t → args[j]? = some v → Value.okWide Try.prog W .any base t v) : Calls Try.prog 5 args W fun e W' => e = .returned (.bool true) ∧ Below W.heap.size W W' := by
    obtain ⟨xs, os1, φ', hI, _, h3, h4⟩ := args_ok (base := base) (P := Try.prog) (fun _ => rfl) fits hA (fun j t v h1 h2 => hval j t v (by rw [← Array.getElem?_toList]; exact h1) (by rw [← Array.getElem?_toList]; exact h2)) (RO.nil W)
    obtain ⟨_, _, _, _, rfl, rfl, ⟨_, rfl, hs0⟩, hI⟩ := hI
    obtain ⟨_, _, _, _, rfl, rfl, ⟨⟨x0, rfl, y0⟩, rfl⟩, hs0⟩ := hs0
    obtain ⟨_, _, _, _, rfl, rfl, ⟨⟨x1, rfl, y1⟩, rfl⟩, hs0⟩ := hs0
    obtain ⟨_, _, _, _, rfl, rfl, ⟨⟨x2, rfl, y2⟩, rfl⟩, hs0⟩ := hs0
    obtain ⟨_, _, _, _, rfl, rfl, ⟨⟨x3, rfl, y3⟩, rfl⟩, hs0⟩ := hs0
    obtain ⟨_, _, _, _, rfl, rfl, ⟨⟨x4, rfl, y4⟩, rfl⟩, hs0⟩ := hs0
    obtain ⟨_, _, _, _, rfl, rfl, ⟨⟨x5, rfl, y5⟩, rfl⟩, hs0⟩ := hs0
    obtain ⟨_, _, _, _, rfl, rfl, ⟨⟨x6, rfl, y6⟩, rfl⟩, hs0⟩ := hs0
    obtain ⟨_, _, _, _, rfl, rfl, ⟨⟨x7, rfl, y7⟩, rfl⟩, hs0⟩ := hs0
    obtain ⟨_, _, _, _, rfl, rfl, ⟨⟨x8, rfl, y8⟩, rfl⟩, hs0⟩ := hs0
    obtain ⟨_, _, _, _, rfl, rfl, ⟨nlx9, x9, fx9, rfl, rfl, hnx9, hlx9, y9⟩, hs0⟩ := hs0
    obtain ⟨rfl, rfl⟩ := hs0
    obtain ⟨_, _, _, _, rfl, rfl, ⟨nlx10, x10, fx10, rfl, rfl, hnx10, hlx10, y10⟩, hI⟩ := hI
    obtain ⟨rfl, rfl⟩ := hI
    have hl := k5_true x0 x1 x2 x3 x4 x5 x6 x7 x8 nlx9 x9 fx9 nlx10 x10 fx10 ⟨u64_rng y0, u64_rng y1, u64_rng y2, u64_rng y4, u64_rng y5, u32_rng y6, u32_rng y7, y8.1, fun j hj => ⟨u64_rng (y9 j hj 0 (.int .u64) rfl), u64_rng (y9 j hj 1 (.int .u64) rfl), u32_rng (y9 j hj 2 (.int .u32) rfl), u32_rng (y9 j hj 3 (.int .u32) rfl)⟩⟩ hnx10 (u8_ok y10)
    have := law_T hh5 h4.rel h3 hl
    simpa using this
set_option maxRecDepth 100000 in
theorem lifted (os : Os) (started : os.Started) (H : Type) (enc : TypeId × Value → H) :
    ReturnsInHanded {} Try.checked os 5 .any (Rows.entryBackSpec.pre6 enc Try.prog Try.f5 Rows.entryBackRow.domain false) (Rows.entryBackSpec.post enc Try.prog Try.f5 false true false false) := by
  refine returnsInHanded_of_change_sized (C := Try.checked) own started (by kernel_rfl) Try.func5
    (ChangeSpec.witness6 (enc := enc) (C := Try.checked) false ⟨#[], #[.agg #[.int .u64 0, .int .u64 0, .int .u64 0, .int .i64 0, .int .u64 0, .int .u64 0, .int .u32 0, .int .u32 0, .string ⟨#[]⟩, .slice none 0 0], .slice none 0 0], []⟩ 8 (by kernel_rfl) (by kernel_rfl) (by kernel_rfl) (by kernel_rfl)) ?_
  intro W base args ds gs before hval0 hW hcnd hsz0 _
  have hW' := hW
  obtain ⟨p, q, hA0, hV, rfl, hfz, hnd⟩ := hW
  have hA : DataW.TrodAll enc Try.prog W 0 (fun _ => true) true Try.f5.params.toList args.toList ds p := hA0
  obtain ⟨rfl, rfl⟩ := trodVars_none hV
  obtain ⟨d1, d2, rfl⟩ : ∃ d1 d2, ds = [d1, d2] := by
    have hA := hA
    obtain ⟨_, _, d1, ds1, _, _, _, rfl, _, _, hA⟩ := trodAll_cons hA
    obtain ⟨_, _, d2, ds2, _, _, _, rfl, _, _, hA⟩ := trodAll_cons hA
    obtain ⟨_, rfl, _⟩ := trodAll_nil hA
    exact ⟨d1, d2, rfl⟩
  refine (walk W args base _ p hA hval0).mono fun e W' ⟨he, bel⟩ => ?_
  subst he
  exact ⟨_, rfl, _, _, _, [], _, [], hW', trodAll_mk1 (shut_bool Try.underlying4 _), trods_below (ts := []) laidOut bel readable hA, rfl, bel.frame _, fun h => by cases h⟩
theorem over : Rows.entryBackRow.holds Try.pinned (OpenSpec.ofChange Rows.entryBackSpec) :=
  OpenClaim.holds_of_wide 5 Try.f5 rfl rfl rfl rfl rfl rfl rfl ⟨rfl, rfl, rfl, rfl, rfl⟩ rfl rfl rfl rfl rfl (by kernel_rfl) Try.func5 (by kernel_rfl)
    (of_decide_eq_true (by kernel_rfl)) (by unfold Func.isWrapper; first | (rw [if_pos (by decide +kernel)]; kernel_rfl) | (rw [if_neg (by decide +kernel)]; exact ⟨rfl, rfl⟩))
    (fun os started H enc _ => lifted os started H enc)
theorem proved : Rows.EntryBackSaid := over
#print axioms proved
end Go.Proofs.Ytjbjjikdihghmaa.entryBack
