/- Orders of a history: what the loops and the functions come to, the last of them. No condition. -/
import Derived.Test.YtbcilfbdbphjgaaWvC
import Derived.KernelRfl
set_option linter.unusedSimpArgs false
set_option linter.unusedVariables false
set_option maxRecDepth 20000
namespace Go.Proofs.Ytbcilfbdbphjgaa.witnessValid
open Go Go.RowKit Go.Proofs.Ytbcilfbdbphjgaa.Bm
theorem good_bl {bl : Int} {f : Nat → Nat → AV} {n : Nat} (h : gF bl f n = true) : (n : Int) ≤ 16 ∧ 1 ≤ bl ∧ bl ≤ 64 ∧ okG bl f n = true := by
  simp only [gF, Bool.and_eq_true] at h
  obtain ⟨⟨⟨h1, h2⟩, h3⟩, h4⟩ := h
  exact ⟨not_gt h1, not_lt h2, not_gt h3, h4⟩
theorem okR_of_W {f g : Nat → Nat → AV} {n m : Nat} (h : okW f n g m = true) : okRV n g m = true := by
  rw [okRV_eq]
  refine okFrom_iff.2 fun j hj => ?_
  have := okFrom_iff.1 h j hj
  simp only [Bool.and_eq_true] at this
  exact this.1.1
/-- What stands may be done. -/
theorem okD_of {f g : Nat → Nat → AV} {n m z : Nat} (hz : z ≤ 64) (hr : rngV f n = true) (hg : okG (z : Int) f n = true) (hw : ∀ k, k < m → inR n (ordI g k) = true ∧ mayO (opAt f (ordI g k).toNat) = true) : okDV f n g m (8 * z) = true := by
  rw [okDV_eq]
  unfold okD
  rw [Bool.and_eq_true]
  refine ⟨decide_eq_true (by omega), okFrom_iff.2 fun k hk => ?_⟩
  rw [Nat.zero_add]
  obtain ⟨h1, h2⟩ := hw k hk
  have h3 := h1
  simp only [inR, Bool.and_eq_true, Bool.not_eq_true'] at h3
  obtain ⟨t, ht, hlt⟩ := inR_of (of_decide_eq_false h3.1) (of_decide_eq_false h3.2)
  obtain ⟨a, b, ha, hb, la, lb⟩ := rngA_at hr hlt
  have hgt := okFrom_iff.1 hg t hlt
  rw [Nat.zero_add, good_eq ha hb] at hgt
  simp only [Bool.and_eq_true, Bool.not_eq_true'] at hgt
  obtain ⟨⟨⟨⟨g1, g2⟩, g3⟩, g4⟩, g5⟩ := hgt
  have g1 := of_decide_eq_false g1
  have g2 := of_decide_eq_false g2
  rw [ht, Int.toNat_natCast] at h2 ⊢
  have hmay : ((f t 1).toB || (f t 6).toI != 0) = true := by
    have h2 : (!((f t 7).toB) && ((f t 1).toB || (f t 6).toI != 0)) = true := h2
    rw [Bool.and_eq_true] at h2
    exact h2.2
  rw [hmay, Bool.true_and, bne_eq_false_iff_eq] at g5
  show (inR n (t : Int) && ((decide (0 ≤ (f t 2).toI) && decide ((f t 2).toI < 4294967296) && decide (0 ≤ (f t 3).toI) && decide ((f t 3).toI < 4294967296)) && (decide (1 ≤ (f t 3).toI) && (decide (8 * ((f t 2).toI + (f t 3).toI) ≤ ((8 * z : Nat) : Int)) && decide (((f t 4).toS.length : Int) = 8 * (f t 3).toI))))) = true
  rw [inR_t hlt, ha, hb, decide_eq_true (show 0 ≤ (a : Int) by omega), decide_eq_true (show (a : Int) < 4294967296 by omega), decide_eq_true (show 0 ≤ (b : Int) by omega), decide_eq_true (show (b : Int) < 4294967296 by omega), decide_eq_true (show 1 ≤ (b : Int) by omega), decide_eq_true (show 8 * ((a : Int) + (b : Int)) ≤ ((8 * z : Nat) : Int) by omega), decide_eq_true (show ((f t 4).toS.length : Int) = 8 * (b : Int) from g5)]
  rfl
theorem okW_may {f g : Nat → Nat → AV} {n m : Nat} (h : okW f n g m = true) : ∀ k, k < m → inR n (ordI g k) = true ∧ mayO (opAt f (ordI g k).toNat) = true := fun k hk => by
  have := okFrom_iff.1 h k hk
  rw [Nat.zero_add] at this
  simp only [Bool.and_eq_true] at this
  exact ⟨this.1.1, this.2⟩
theorem okS_may {f g : Nat → Nat → AV} {n m : Nat} (h : okS f n g m = true) : ∀ k, k < m → inR n (ordI g k) = true ∧ mayO (opAt f (ordI g k).toNat) = true := fun k hk => by
  have := okFrom_iff.1 h k hk
  rw [Nat.zero_add] at this
  simp only [Bool.and_eq_true] at this
  exact ⟨this.1.1, this.2⟩
theorem j6 (c c' : CS) (h : (f6 c).run = some c') : ∃ m pr ros π, callC EI m 6 0 pr ros π c = some c' := by
  obtain ⟨nl, n, f, bl, ol, m, g, rfl, hb⟩ := f6_inv h
  obtain ⟨hn, hb2⟩ := chkT_run hb
  have hr := hn 0 _ rfl
  have e := k6_eq nl n f bl ol m g
  rw [hr, hn 1 _ rfl, hn 2 _ rfl, gV_eq, okMV_eq, okWV_eq, okJV_eq, dskV_eq] at e
  refine ⟨1500, .keep, [], k6_p, e.trans ?_⟩
  rw [← hb2, vRV_eq]
  unfold vR
  cases hg : gF bl f n with
  | false => rfl
  | true =>
    obtain ⟨g1, g2, g3, g4⟩ := good_bl hg
    obtain ⟨z, rfl⟩ := Int.eq_ofNat_of_zero_le (show 0 ≤ bl by omega)
    cases hM : okM f n g m with
    | false => rfl
    | true =>
      cases hW : okW f n g m with
      | false => rfl
      | true =>
        have hR := okR_of_W hW
        have hD := okD_of (z := z) (by omega) hr g4 (okW_may hW)
        rw [hR, blankV_is, List.length_replicate, hD, decide_eq_false (show ¬ (z : Int) < 1 by omega), decide_eq_false (show ¬ (z : Int) > 64 by omega)]
        rw [show blank (z : Int) = List.replicate (8 * z) 0 from by have := blankV_is (z := z); rw [blankV_eq] at this; exact this]
        cases okJ f g m <;> cases (dskO f g m (List.replicate (8 * z) 0)).isSome <;> rfl
theorem qJ : Bm.Good Try.prog EJ := qI.addR qI (by kernel_rfl) j6
/-! ### witness.Valid -/
theorem tdiv8 {L : Nat} (h : L ≤ 1000) : IntKind.wrap .u64 (IntKind.wrap .u32 (IntKind.wrap .i64 (Int.tdiv (L : Int) 8))) = ((L / 8 : Nat) : Int) := by
  have e : Int.tdiv (L : Int) 8 = ((L / 8 : Nat) : Int) := by rw [Int.tdiv_eq_ediv_of_nonneg (Int.natCast_nonneg _)]; rfl
  rw [e, wi (by omega), w32 (by omega), wu (by omega)]
theorem i8 (c : CS) (r : Nat × CS) (h : (r8 c).run = some r) : Loops (stepC EJ 800 (loopC EJ 8 0) 0 h8 ((.normal, h8) :: x8) s8_p) c r.1 r.2 := by
  obtain ⟨nl, n, f, s, ol, m, g, rfl, hb⟩ := r8_inv h
  obtain ⟨hn, hb2⟩ := chkT_run hb
  have hd := hn 2 _ rfl
  have hm := le_of (hn 1 _ rfl)
  have hn := le_of (hn 0 _ rfl)
  have hr := ask_ret hb2; subst hr; clear h hb hb2
  obtain ⟨hL, hat⟩ := okD_at hd
  rw [witV_eq]
  let q : Nat → Bool := fun k => okB f g k && (dskF f g s (k + 1)).isSome
  refine Loops.inv (C := fun (x : Nat × List Nat) => c8 nl n f x.2 (lateF f g x.1) ol m g x.1) (fun x => x.1 ≤ m ∧ dskF f g s x.1 = some x.2 ∧ x.2.length = s.length ∧ ∀ j, j < x.1 → q j = true) (fun x => m - x.1) (fun _ => (cond (witF f g m s) 1 2, cond (witF f g m s) ⟨[], []⟩ ⟨[.bool false], []⟩)) (fun x hx => ?_) (0, s) ⟨Nat.zero_le _, rfl, rfl, fun j hj => absurd hj (Nat.not_lt_zero _)⟩
  obtain ⟨i, u⟩ := x
  obtain ⟨h1, h2, h3, h4⟩ := hx
  simp only at h1 h2 h3 h4
  by_cases hi : i = m
  · subst hi
    have e := s8_eq nl n f u (lateF f g i) ol i g i
    rw [lt0] at e
    rw [show witF f g i s = true from okFrom_iff.2 fun j hj => by rw [Nat.zero_add]; exact h4 j hj]
    exact .inr ⟨_, 0, e, rfl, Seen.refl _⟩
  · have hi : i < m := by omega
    obtain ⟨t, a, b, ok⟩ := hat i hi
    have hle := ok.le
    have hlen := ok.len
    have hone := ok.one
    have hdo := doO_eq ok u
    have hsucc := dsk_succ f g s i
    rw [h2] at hsucc
    have bad : q i = false → witF f g m s = false := fun hq => by
      rw [Bool.eq_false_iff]; intro ho
      have := okFrom_iff.1 ho i hi
      rw [Nat.zero_add] at this
      rw [show q i = true from this] at hq; cases hq
    have hB : okB f g i = !((f t 6).toI != 0 && decide ((f t 6).toI ≤ lateF f g i)) := by
      unfold okB
      rw [show ordI g i = (t : Int) from ok.ord, Int.toNat_natCast]; rfl
    have hlate : lateF f g (i + 1) = (if (f t 5).toI > lateF f g i then (f t 5).toI else lateF f g i) := by
      show (if (opAt f (ordI g i).toNat).b > lateF f g i then _ else _) = _
      rw [show ordI g i = (t : Int) from ok.ord, Int.toNat_natCast]; rfl
    have e := s8_eq nl n f u (lateF f g i) ol m g i
    rw [lt1 hi, ix_, blt_t hi, wrap_i64s (by omega), ok.ord, decide_eq_true (show 0 ≤ (t : Int) by omega), lt1 ok.lt, ix_, blt_t ok.lt, ok.fr, ok.ct, wu (a := a) (by omega), wu (a := b) (by omega), wadu (a := a) (b := b) (by omega), tdiv8 (by omega), wi (a := a) (by omega), wi (a := b) (by omega), w8 (a := b) (by omega), w8r (a := a) (by omega), hlen, wad (a := 8 * a) (b := 8 * b) (by omega), Int.toNat_natCast, Int.toNat_natCast,
      decide_eq_true (show 0 ≤ ((8 * a : Nat) : Int) by omega), decide_eq_true (show 0 ≤ ((8 * a + 8 * b : Nat) : Int) by omega), ble_t (show 8 * a ≤ u.length by omega), ble_t (show 8 * a + 8 * b ≤ u.length by omega), ble_t (show 8 * a ≤ 8 * a + 8 * b by omega), take_rest, take_first, show 8 * a + 8 * b - 8 * a = 8 * b by omega,
      decide_eq_true (show (b : Int) > 0 by omega), decide_eq_true (show ((a + b : Nat) : Int) ≤ ((u.length / 8 : Nat) : Int) by omega), show (((8 * b : Nat) : Int) != ((8 * b : Nat) : Int)) = false from bne_self_eq_false' ..,
      ble_t (show (List.take (8 * a) u).length + 8 * b ≤ 140737488355328 by rw [List.length_take]; omega), ble_t (show (List.take (8 * a) u ++ (f t 4).toS).length + (List.drop (8 * a + 8 * b) u).length ≤ 140737488355328 by rw [List.length_append, List.length_take, List.length_drop]; omega), sel ((f t 6).toI != 0) (decide ((f t 6).toI ≤ lateF f g i)), ← hlate] at e
    cases hq6 : ((f t 6).toI != 0 && decide ((f t 6).toI ≤ lateF f g i)) with
    | true =>
      rw [hq6] at e hB
      rw [bad (by show (okB f g i && _) = false; rw [hB]; rfl)]
      exact .inr ⟨_, 1, e, rfl, Seen.refl _⟩
    | false =>
      rw [hq6] at e hB
      have hB : okB f g i = true := hB
      have next : ∀ {v : List Nat}, doO (opAt f (ordI g i).toNat) u = some v → i + 1 ≤ m ∧ dskF f g s (i + 1) = some v ∧ v.length = s.length ∧ ∀ j, j < i + 1 → q j = true := fun {v} hv => by
        have hd1 : dskF f g s (i + 1) = some v := hsucc.trans hv
        refine ⟨by omega, hd1, doO_len ok h3 hv, fun j hj => ?_⟩
        by_cases hj' : j = i
        · subst hj'
          show (okB f g j && (dskF f g s (j + 1)).isSome) = true
          rw [hB, hd1]; rfl
        · exact h4 j (by omega)
      cases hw : (f t 1).toB with
      | true =>
        rw [hw] at e hdo
        have hdo2 : doO (opAt f (ordI g i).toNat) u = some (List.take (8 * a) u ++ (f t 4).toS ++ List.drop (8 * a + 8 * b) u) := by rw [hdo, show 8 * (a + b) = 8 * a + 8 * b by omega]; rfl
        exact .inl ⟨_, (i + 1, List.take (8 * a) u ++ (f t 4).toS ++ List.drop (8 * a + 8 * b) u), e, Seen.refl _, next hdo2, by simp only; omega, rfl⟩
      | false =>
        rw [hw] at e hdo
        cases hq : (List.take (8 * b) (List.drop (8 * a) u) == (f t 4).toS) with
        | true =>
          rw [hq] at e hdo
          exact .inl ⟨_, (i + 1, u), e, Seen.refl _, next hdo, by simp only; omega, rfl⟩
        | false =>
          rw [hq] at e hdo
          rw [bad (by show (okB f g i && (dskF f g s (i + 1)).isSome) = false; rw [show dskF f g s (i + 1) = none from hsucc.trans hdo]; exact Bool.and_false _)]
          exact .inr ⟨_, 1, e, rfl, Seen.refl _⟩
theorem qK : Bm.Good Try.prog EK := qJ.addS (by kernel_rfl) rfl (by decide) (by decide) rfl i8
theorem j8 (c c' : CS) (h : (f8 c).run = some c') : ∃ m pr ros π, callC EK m 8 0 pr ros π c = some c' := by
  obtain ⟨nl, n, f, bl, ol, m, g, rfl, hb⟩ := f8_inv h
  obtain ⟨hn, hb2⟩ := chkT_run hb
  have hr := hn 0 _ rfl
  have e := k8_eq nl n f bl ol m g
  rw [hr, hn 1 _ rfl, hn 2 _ rfl, gV_eq, okSV_eq, okTV_eq, seenV_eq, witV_eq] at e
  refine ⟨1500, .keep, [], k8_p, e.trans ?_⟩
  rw [← hb2, vWV_eq]
  unfold vW
  cases hg : gF bl f n with
  | false => rfl
  | true =>
    obtain ⟨g1, g2, g3, g4⟩ := good_bl hg
    obtain ⟨z, rfl⟩ := Int.eq_ofNat_of_zero_le (show 0 ≤ bl by omega)
    cases hM : okS f n g m with
    | false => rfl
    | true =>
      cases hW : okT f n (seenA g m) with
      | false => rfl
      | true =>
        have hD := okD_of (z := z) (by omega) hr g4 (okS_may hM)
        rw [wi (a := z) (by omega), w8r (a := z) (by omega), Int.toNat_natCast, decide_eq_true (show 0 ≤ ((8 * z : Nat) : Int) by omega), decide_eq_true (show ((8 * z : Nat) : Int) ≤ 281474976710656 by omega), ble_t (show 1 * (8 * z) ≤ 281474976710656 by omega), ble_t (show 0 + 8 * z ≤ 8 * z by omega),
          blank_all (fun x j => getAt [AV.int IntKind.u8 (Int.ofNat 0)] j) (fun _ => rfl), blank_is (fun x j => getAt [AV.int IntKind.u8 (Int.ofNat 0)] j) (fun _ => rfl), List.length_replicate, hD]
        rw [show blank (z : Int) = List.replicate (8 * z) 0 from by have := blankV_is (z := z); rw [blankV_eq] at this; exact this]
        cases witF f g m (List.replicate (8 * z) 0) <;> rfl
theorem qL : Bm.Good Try.prog EL := qK.addR qK (by kernel_rfl) j8
/-! ### witness.Disk -/
theorem dw_len {f g : Nat → Nat → AV} {n L i t a b : Nat} (h : DoOK f n g L i t a b) {s : List Nat} (hs : s.length = L) : ((doO (opAt f (ordI g i).toNat) s).getD s).length = L := by
  cases hd : doO (opAt f (ordI g i).toNat) s with
  | none => exact hs
  | some v => exact doO_len h hs hd
theorem i9 (c : CS) (r : Nat × CS) (h : (r9 c).run = some r) : Loops (stepC EL 800 (loopC EL 9 0) 0 h9 ((.normal, h9) :: x9) s9_p) c r.1 r.2 := by
  obtain ⟨nl, n, f, s, ol, m, g, rfl, hb⟩ := r9_inv h
  obtain ⟨hn, hb2⟩ := chkT_run hb
  have hd := hn 2 _ rfl
  have hm := le_of (hn 1 _ rfl)
  have hn := le_of (hn 0 _ rfl)
  simp only [T.run, Option.some.injEq] at hb2; subst hb2; clear h hb
  obtain ⟨hL, hat⟩ := okD_at hd
  rw [dwV_eq]
  have hlen0 : ∀ i, i ≤ m → (dwF f g s i).length = s.length := by
    intro i
    induction i with
    | zero => intro _; rfl
    | succ i ih =>
      intro hi
      obtain ⟨t, a, b, ok⟩ := hat i (by omega)
      exact dw_len ok (ih (by omega))
  refine Loops.for (C := fun i => c9 nl n f (dwF f g s i) ol m g i) (n := m) (fun i hi => ?_) ?_
  · obtain ⟨t, a, b, ok⟩ := hat i hi
    have hle := ok.le
    have hlen := ok.len
    have hone := ok.one
    have h3 := hlen0 i (by omega)
    have hsucc : dwF f g s (i + 1) = (doO (opAt f (ordI g i).toNat) (dwF f g s i)).getD (dwF f g s i) := rfl
    rw [hsucc]
    generalize dwF f g s i = u at h3 ⊢
    have hdo := doO_eq ok u
    have e := s9_eq nl n f u ol m g i
    rw [lt1 hi, ix_, blt_t hi, wrap_i64s (by omega), ok.ord, decide_eq_true (show 0 ≤ (t : Int) by omega), lt1 ok.lt, ix_, blt_t ok.lt, ok.fr, ok.ct, wu (a := a) (by omega), wu (a := b) (by omega), wadu (a := a) (b := b) (by omega), tdiv8 (by omega), wi (a := a) (by omega), wi (a := b) (by omega), w8 (a := b) (by omega), w8r (a := a) (by omega), hlen, wad (a := 8 * a) (b := 8 * b) (by omega), Int.toNat_natCast, Int.toNat_natCast,
      decide_eq_true (show 0 ≤ ((8 * a : Nat) : Int) by omega), decide_eq_true (show 0 ≤ ((8 * a + 8 * b : Nat) : Int) by omega), ble_t (show 8 * a ≤ u.length by omega), ble_t (show 8 * a + 8 * b ≤ u.length by omega), ble_t (show 8 * a ≤ 8 * a + 8 * b by omega), take_rest, take_first,
      decide_eq_true (show (b : Int) > 0 by omega), decide_eq_true (show ((a + b : Nat) : Int) ≤ ((u.length / 8 : Nat) : Int) by omega), show (((8 * b : Nat) : Int) != ((8 * b : Nat) : Int)) = false from bne_self_eq_false' ..,
      ble_t (show (List.take (8 * a) u).length + 8 * b ≤ 140737488355328 by rw [List.length_take]; omega), ble_t (show (List.take (8 * a) u ++ (f t 4).toS).length + (List.drop (8 * a + 8 * b) u).length ≤ 140737488355328 by rw [List.length_append, List.length_take, List.length_drop]; omega)] at e
    cases hw : (f t 1).toB with
    | true =>
      rw [hw] at e hdo
      have hdo2 : doO (opAt f (ordI g i).toNat) u = some (List.take (8 * a) u ++ (f t 4).toS ++ List.drop (8 * a + 8 * b) u) := by rw [hdo, show 8 * (a + b) = 8 * a + 8 * b by omega]; rfl
      rw [hdo2]
      exact ⟨_, e, Seen.refl _⟩
    | false =>
      rw [hw] at e hdo
      have hg : (doO (opAt f (ordI g i).toNat) u).getD u = u := by
        rw [hdo]
        cases (List.take (8 * b) (List.drop (8 * a) u) == (f t 4).toS) <;> rfl
      rw [hg]
      exact ⟨_, e, Seen.refl _⟩
  · have e := s9_eq nl n f (dwF f g s m) ol m g m
    rw [lt0] at e
    exact ⟨_, e, Seen.refl _⟩
theorem qM : Bm.Good Try.prog EM := qL.addS (by kernel_rfl) rfl (by decide) (by decide) rfl i9
theorem j9 (c c' : CS) (h : (f9 c).run = some c') : ∃ m pr ros π, callC EM m 9 0 pr ros π c = some c' := by
  obtain ⟨nl, n, f, bl, ol, m, g, rfl, hb⟩ := f9_inv h
  obtain ⟨hn, hb2⟩ := chkT_run hb
  have hr := hn 0 _ rfl
  have e := k9_eq nl n f bl ol m g
  rw [hr, hn 1 _ rfl, hn 2 _ rfl] at e
  refine ⟨1500, .keep, [], k9_p, e.trans ?_⟩
  rw [← hb2]
  cases hv : vWV bl f n g m with
  | false => rfl
  | true =>
    have hv2 := hv
    rw [vWV_eq] at hv2
    simp only [vW, Bool.and_eq_true] at hv2
    obtain ⟨⟨hg, hS, hT⟩, hw⟩ := hv2
    obtain ⟨g1, g2, g3, g4⟩ := good_bl hg
    obtain ⟨z, rfl⟩ := Int.eq_ofNat_of_zero_le (show 0 ≤ bl by omega)
    have hD := okD_of (z := z) (by omega) hr g4 (okS_may hS)
    rw [wi (a := z) (by omega), w8r (a := z) (by omega), Int.toNat_natCast, decide_eq_true (show 0 ≤ ((8 * z : Nat) : Int) by omega), decide_eq_true (show ((8 * z : Nat) : Int) ≤ 281474976710656 by omega), ble_t (show 1 * (8 * z) ≤ 281474976710656 by omega), ble_t (show 0 + 8 * z ≤ 8 * z by omega),
      blank_all (fun x j => getAt [AV.int IntKind.u8 (Int.ofNat 0)] j) (fun _ => rfl), blank_is (fun x j => getAt [AV.int IntKind.u8 (Int.ofNat 0)] j) (fun _ => rfl), List.length_replicate, hD, blankV_is]
    rfl
theorem qN : Bm.Good Try.prog EN := (qM.addR qM (by kernel_rfl) j9).addF (lives_ok (m := 20000) q1 (by kernel_rfl))
end Go.Proofs.Ytbcilfbdbphjgaa.witnessValid
