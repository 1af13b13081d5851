/- Orders of a history: what the loops and the functions come to, more. No condition. -/
import Derived.Test.YtbcilfbdbphjgaaWvB
import Derived.Test.YtbcilfbdbphjgaaWvE
import Derived.KernelRfl
set_option linter.unusedSimpArgs false
set_option linter.unusedVariables false
set_option maxRecDepth 20000
namespace Go.Proofs.Ytbcilfbdbphjgaa.witnessValid
open Go Go.RowKit Go.Proofs.Ytbcilfbdbphjgaa.Bm
/-! ### witness.stands -/
theorem seenN_succ (g : Nat → Nat → AV) (k i : Nat) : seenN g (k + 1) i = (seenN g k i || ordI g k == (i : Int)) := by
  unfold seenN
  rw [List.range_succ, List.any_append]
  simp
theorem SeenO.bools {n : Nat} {f g : Nat → Nat → AV} {b : Bool} (h : ∀ i, i < n → (f i 0).toB = (g i 0).toB) : SeenO (.tarr [.bool] n f b) (.tarr [.bool] n g b) :=
  SeenO.arr fun i hi j s hs => by
    cases j with
    | zero =>
      simp at hs; subst hs
      show AV.bool (f i 0).toB = AV.bool (g i 0).toB
      rw [h i hi]
    | succ j => simp at hs
theorem fput_bool (sq : Nat → Nat → AV) (t i : Nat) : (fput sq t 0 [.bool true] i 0).toB = ((sq i 0).toB || Nat.beq i t) := by
  unfold fput
  show (cond (Nat.ble 0 0 && Nat.blt 0 (0 + 1)) (cond (Nat.beq i t) (getAt [AV.bool true] (0 - 0)) (sq i 0)) (sq i 0)).toB = _
  have h1 : (Nat.ble 0 0 && Nat.blt 0 (0 + 1)) = true := by decide
  rw [h1]
  cases Nat.beq i t with
  | true => simp only [cond_true, Bool.or_true]; rfl
  | false => simp only [cond_true, cond_false, Bool.or_false]
theorem i14a (c : CS) (r : Nat × CS) (h : (r14a c).run = some r) : Loops (stepC EB 400 (loopC EB 14 0) 0 h14a ((.normal, h14a) :: x14a) s14a_p) c r.1 r.2 := by
  obtain ⟨nl, n, f, sq, ol, m, g, rfl, hb⟩ := r14a_inv h
  obtain ⟨hn, hb2⟩ := chkT_run hb
  have hm := le_of (hn 1 _ rfl)
  have hz := hn 2 _ rfl
  have hn := le_of (hn 0 _ rfl)
  rw [okZV_eq] at hz
  have hr := ask_ret hb2; subst hr; clear h hb hb2
  rw [okSV_eq, seenV_eq]
  have hsee : Seen (c14a nl n f sq ol m g 0) (c14a nl n f (seenA g 0) ol m g 0) := by
    refine Seen.mk' (SeenVs.refl _) (SeenOs.same (.cons (SeenO.bools fun i hi => ?_) (SeenOs.refl _)))
    have := okFrom_iff.1 hz i hi
    rw [Nat.zero_add] at this
    show _ = seenN g 0 i
    cases hq : (sq i 0).toB with
    | false => rfl
    | true => rw [hq] at this; cases this
  refine .see hsee ?_
  let q : Nat → Bool := fun k => inR n (ordI g k) && !(seenN g k (ordI g k).toNat) && mayO (opAt f (ordI g k).toNat)
  refine Loops.inv (C := fun i => c14a nl n f (seenA g i) ol m g i) (fun i => i ≤ m ∧ ∀ j, j < i → q j = true) (fun i => m - i) (fun _ => (cond (okS f n g m) 1 2, cond (okS f n g m) ⟨[.osl nl 0 0 n n 8 true, .osl false 1 0 n n 1 true], [some (.tarr shO n f false), some (.tarr shB n (seenA g m) true)]⟩ ⟨[.bool false], []⟩)) (fun i hi => ?_) 0 ⟨Nat.zero_le _, fun j hj => absurd hj (Nat.not_lt_zero _)⟩
  obtain ⟨h1, h2⟩ := hi
  by_cases hi : i = m
  · subst hi
    have e := s14a_eq nl n f (seenA g i) ol i g i
    rw [lt0] at e
    rw [show okS f n g i = true from okFrom_iff.2 fun j hj => by rw [Nat.zero_add]; exact h2 j hj]
    exact .inr ⟨_, 0, e, rfl, Seen.refl _⟩
  · have hi : i < m := by omega
    have bad : q i = false → okS f n g m = false := fun hq => by
      rw [Bool.eq_false_iff]; intro ho
      have := okFrom_iff.1 ho i hi
      rw [Nat.zero_add] at this
      rw [show q i = true from this] at hq; cases hq
    have e := s14a_eq nl n f (seenA g i) ol m g i
    rw [lt1 hi, ix_, blt_t hi, wrap_i64s (by omega)] at e
    have hqi : q i = (inR n (g i 0).toI && !(seenN g i (g i 0).toI.toNat) && mayO (opAt f (g i 0).toI.toNat)) := rfl
    by_cases h0 : (g i 0).toI < 0
    · rw [decide_eq_true h0] at e
      rw [bad (by rw [hqi]; unfold inR; rw [decide_eq_true h0]; rfl)]
      exact .inr ⟨_, 1, e, rfl, Seen.refl _⟩
    · by_cases h1' : (g i 0).toI ≥ (n : Int)
      · rw [decide_eq_false h0, decide_eq_true h1'] at e
        rw [bad (by rw [hqi]; unfold inR; rw [decide_eq_true h1', Bool.not_true, Bool.and_false]; rfl)]
        exact .inr ⟨_, 1, e, rfl, Seen.refl _⟩
      · obtain ⟨t, ht, hlt⟩ := inR_of h0 h1'
        rw [ht] at e hqi
        rw [decide_eq_false (show ¬ (t : Int) < 0 by omega), decide_eq_false (show ¬ (t : Int) ≥ (n : Int) by omega), decide_eq_true (show 0 ≤ (t : Int) by omega), lt1 hlt, ix_, blt_t hlt, show (seenA g i t 0).toB = seenN g i t from rfl] at e
        rw [inR_t hlt, Int.toNat_natCast, show mayO (opAt f t) = (!((f t 7).toB) && ((f t 1).toB || (f t 6).toI != 0)) from rfl] at hqi
        have go : Seen ⟨[.osl nl 0 0 n n 8 true, .osl false 1 0 n n 1 true, .osl ol 2 0 m m 1 true, .int .i64 (m : Nat), .int .i64 ((i + 1 : Nat) : Int)], [some (.tarr shO n f false), some (.tarr shB n (fput (seenA g i) t 0 [.bool true]) true), some (.tarr shI m g false)]⟩ (c14a nl n f (seenA g (i + 1)) ol m g (i + 1)) := by
          refine Seen.mk' (SeenVs.refl _) (SeenOs.same (.cons (SeenO.bools fun z hz => ?_) (SeenOs.refl _)))
          rw [fput_bool]
          show (seenN g i z || Nat.beq z t) = seenN g (i + 1) z
          rw [seenN_succ, show ordI g i = (t : Int) from ht]
          congr 1
          rw [Bool.eq_iff_iff, beq_iff_eq]
          constructor
          · intro h; have := Nat.eq_of_beq_eq_true h; omega
          · intro h; have : z = t := by omega
            subst this; exact Nat.beq_refl _
        cases hs : seenN g i t with
        | true =>
          rw [hs] at e hqi
          rw [bad hqi]
          exact .inr ⟨_, 1, e, rfl, Seen.refl _⟩
        | false =>
          rw [hs] at e hqi
          cases h7 : (f t 7).toB with
          | true =>
            rw [h7] at e hqi
            rw [bad hqi]
            exact .inr ⟨_, 1, e, rfl, Seen.refl _⟩
          | false =>
            rw [h7] at e hqi
            have next : q i = true → i + 1 ≤ m ∧ ∀ j, j < i + 1 → q j = true := fun hq => ⟨by omega, fun j hj => by
              by_cases hj' : j = i
              · subst hj'; exact hq
              · exact h2 j (by omega)⟩
            cases h11 : (f t 1).toB with
            | true =>
              rw [h11] at e hqi
              exact .inl ⟨_, i + 1, e, go, next hqi, by omega, rfl⟩
            | false =>
              rw [h11] at e hqi
              cases h6 : ((f t 6).toI != 0) with
              | true =>
                rw [h6] at e hqi
                exact .inl ⟨_, i + 1, e, go, next hqi, by omega, rfl⟩
              | false =>
                rw [h6] at e hqi
                rw [bad hqi]
                exact .inr ⟨_, 1, e, rfl, Seen.refl _⟩
theorem qC : Bm.Good Try.prog EC := qB.addS (by kernel_rfl) rfl (by decide) (by decide) rfl i14a
theorem i14b (c : CS) (r : Nat × CS) (h : (r14b c).run = some r) : ∃ it, iterC (stepC EC 400 (loopC EC 14 2) 0 h14b ((.normal, h14b) :: x14b) s14b_p) it c = some r := by
  obtain ⟨n, sq, nl, f, rfl, hb⟩ := r14b_inv h
  obtain ⟨hn, hb2⟩ := chkT_run hb
  have hn := le_of (hn 0 _ rfl)
  have hr := ask_scan hb2; subst hr
  rw [okTV_eq]
  refine iter_scan (C := fun i => c14b n sq nl f i) (q := fun i => !(mustO (opAt f i) && !((sq i 0).toB))) (by simp) (by simp) (fun i hi => ?_) ?_
  · have e := s14b_eq n sq nl f i
    rw [lt1 hi, ix_, blt_t hi, wrap_i64s (by omega)] at e
    refine Eq.trans e ?_
    rw [show mustO (opAt f i) = (!((f i 7).toB) && (f i 6).toI != 0) from rfl]
    cases (f i 7).toB <;> cases ((f i 6).toI != 0) <;> cases (sq i 0).toB <;> rfl
  · have e := s14b_eq n sq nl f n
    rw [lt0] at e
    exact e
theorem qD : Bm.Good Try.prog ED := qC.addL (by kernel_rfl) rfl (by decide) (by decide) rfl i14b
theorem j14 (c c' : CS) (h : (f14 c).run = some c') : ∃ m pr ros π, callC ED m 14 0 pr ros π c = some c' := by
  obtain ⟨nl, n, f, ol, m, g, rfl, hb⟩ := f14_inv h
  obtain ⟨hn, hb2⟩ := chkT_run hb
  have hn1 := le_of (hn 0 _ rfl)
  have e := k14_eq nl n f ol m g
  have hz : okZV (fun p_ q_ => getAt [AV.bool false] q_) n = true := by
    rw [okZV_eq]; exact okFrom_iff.2 fun j _ => rfl
  rw [hn 0 _ rfl, hn 1 _ rfl, hz, Int.toNat_natCast, decide_eq_true (show (n : Int) ≤ 281474976710656 by omega), ble_t (show 1 * n ≤ 281474976710656 by omega), decide_eq_true (rfl : n = n)] at e
  refine ⟨1500, .keep, [], k14_p, e.trans ?_⟩
  rw [← hb2]
  cases okSV f n g m <;> cases okTV f n (seenV g m) <;> rfl
theorem qE : Bm.Good Try.prog EE := qD.addR qD (by kernel_rfl) j14
/-! ### Bytes -/
/-- What is known of an order's operations. -/
structure DoOK (f : Nat → Nat → AV) (n : Nat) (g : Nat → Nat → AV) (L i t a b : Nat) : Prop where
  ord : (g i 0).toI = (t : Int)
  lt : t < n
  fr : (f t 2).toI = (a : Int)
  ct : (f t 3).toI = (b : Int)
  one : 1 ≤ b
  le : 8 * (a + b) ≤ L
  len : (f t 4).toS.length = 8 * b
theorem okD_at {f g : Nat → Nat → AV} {n m L : Nat} (h : okDV f n g m L = true) : L ≤ 1000 ∧ ∀ i, i < m → ∃ t a b : Nat, DoOK f n g L i t a b := by
  rw [okDV_eq] at h
  simp only [okD, Bool.and_eq_true] at h
  refine ⟨of_decide_eq_true h.1, fun i hi => ?_⟩
  have h2 := okFrom_iff.1 h.2 i hi
  rw [Nat.zero_add] at h2
  simp only [Bool.and_eq_true] at h2
  obtain ⟨h3, h4, h5, h6, h7⟩ := h2
  have hr : ¬ (g i 0).toI < 0 ∧ ¬ (g i 0).toI ≥ (n : Int) := by
    simp only [inR, Bool.and_eq_true, Bool.not_eq_true', decide_eq_false_iff_not] at h3
    exact h3
  obtain ⟨t, ht, hlt⟩ := inR_of hr.1 hr.2
  rw [show ordI g i = (t : Int) from ht, Int.toNat_natCast] at h4 h5 h6 h7
  have h4 : (decide (0 ≤ (f t 2).toI) && decide ((f t 2).toI < 4294967296) && decide (0 ≤ (f t 3).toI) && decide ((f t 3).toI < 4294967296)) = true := h4
  simp only [Bool.and_eq_true, decide_eq_true_eq] at h4
  obtain ⟨a, ha⟩ := Int.eq_ofNat_of_zero_le h4.1.1.1
  obtain ⟨b, hb⟩ := Int.eq_ofNat_of_zero_le h4.1.2
  have h5 : 1 ≤ (f t 3).toI := of_decide_eq_true h5
  have h6 : 8 * ((f t 2).toI + (f t 3).toI) ≤ (L : Int) := of_decide_eq_true h6
  have h7 : ((f t 4).toS.length : Int) = 8 * (f t 3).toI := of_decide_eq_true h7
  exact ⟨t, a, b, ht, hlt, ha, hb, by omega, by omega, by omega⟩
theorem doO_eq {f g : Nat → Nat → AV} {n L i t a b : Nat} (h : DoOK f n g L i t a b) (s : List Nat) : doO (opAt f (ordI g i).toNat) s = cond (f t 1).toB (some (s.take (8 * a) ++ (f t 4).toS ++ s.drop (8 * (a + b)))) (cond ((s.drop (8 * a)).take (8 * b) == (f t 4).toS) (some s) none) := by
  rw [show ordI g i = (t : Int) from h.ord, Int.toNat_natCast]
  show cond (f t 1).toB (some (s.take (8 * (f t 2).toI).toNat ++ (f t 4).toS ++ s.drop (8 * ((f t 2).toI + (f t 3).toI)).toNat)) (cond ((s.drop (8 * (f t 2).toI).toNat).take (8 * (f t 3).toI).toNat == (f t 4).toS) (some s) none) = _
  rw [h.fr, h.ct, show (8 * (a : Int)).toNat = 8 * a by omega, show (8 * (b : Int)).toNat = 8 * b by omega, show (8 * ((a : Int) + (b : Int))).toNat = 8 * (a + b) by omega]
theorem doO_len {f g : Nat → Nat → AV} {n L i t a b : Nat} (h : DoOK f n g L i t a b) {s s' : List Nat} (hs : s.length = L) (hd : doO (opAt f (ordI g i).toNat) s = some s') : s'.length = L := by
  rw [doO_eq h] at hd
  have := h.le
  have := h.len
  cases hw : (f t 1).toB with
  | true =>
    rw [hw] at hd
    simp only [cond_true, Option.some.injEq] at hd; subst hd
    simp only [List.length_append, List.length_take, List.length_drop]
    omega
  | false =>
    rw [hw] at hd
    simp only [cond_false] at hd
    cases hq : ((s.drop (8 * a)).take (8 * b) == (f t 4).toS) with
    | true =>
      rw [hq] at hd
      simp only [cond_true, Option.some.injEq] at hd; subst hd
      exact hs
    | false => rw [hq] at hd; cases hd
theorem dsk_succ (f g : Nat → Nat → AV) (s : List Nat) (i : Nat) : dskF f g s (i + 1) = match dskF f g s i with
    | some t => doO (opAt f (ordI g i).toNat) t
    | none => none := rfl
theorem dsk_none {f g : Nat → Nat → AV} {s : List Nat} {i : Nat} (h : dskF f g s i = none) : ∀ k, dskF f g s (i + k) = none
  | 0 => h
  | k + 1 => by rw [← Nat.add_assoc, dsk_succ, dsk_none h k]
theorem nil0 : bytesOf { data := #[] } = [] := rfl
theorem take_rest (s : List Nat) (k : Nat) : List.take (s.length - k) (List.drop k s) = List.drop k s := by
  rw [List.take_of_length_le]; simp
theorem take_first (s : List Nat) (k : Nat) : List.take (k - 0) (List.drop 0 s) = List.take k s := rfl
theorem i7 (c : CS) (r : Nat × CS) (h : (r7 c).run = some r) : Loops (stepC EE 400 (loopC EE 7 0) 0 h7 ((.normal, h7) :: x7) s7_p) c r.1 r.2 := by
  obtain ⟨nl, n, f, ol, m, g, s, rfl, hb⟩ := r7_inv h
  obtain ⟨hn, hb2⟩ := chkT_run hb
  have hd := hn 2 _ rfl
  have hm := le_of (hn 1 _ rfl)
  have hn := le_of (hn 0 _ rfl)
  have hr := ask_ret hb2; subst hr; clear h hb hb2
  obtain ⟨hL, hat⟩ := okD_at hd
  rw [dskV_eq]
  show Loops _ _ (cond (dskF f g s m).isSome 1 2) (cond (dskF f g s m).isSome ⟨[.str ((dskF f g s m).getD [])], []⟩ ⟨[.str [], .bool false], []⟩)
  refine Loops.inv (C := fun (x : Nat × List Nat) => c7 nl n f ol m g x.2 x.1) (fun x => x.1 ≤ m ∧ dskF f g s x.1 = some x.2 ∧ x.2.length = s.length) (fun x => m - x.1) (fun _ => (cond (dskF f g s m).isSome 1 2, cond (dskF f g s m).isSome ⟨[.str ((dskF f g s m).getD [])], []⟩ ⟨[.str [], .bool false], []⟩)) (fun x hx => ?_) (0, s) ⟨Nat.zero_le _, rfl, rfl⟩
  obtain ⟨i, u⟩ := x
  obtain ⟨h1, h2, h3⟩ := hx
  simp only at h1 h2 h3
  by_cases hi : i = m
  · subst hi
    have e := s7_eq nl n f ol i g u i
    rw [lt0] at e
    rw [h2]
    exact .inr ⟨_, 0, e, rfl, Seen.refl _⟩
  · have hi : i < m := by omega
    obtain ⟨t, a, b, ok⟩ := hat i hi
    have hle := ok.le
    have hlen := ok.len
    have hdo := doO_eq ok u
    have hsucc := dsk_succ f g s i
    rw [h2] at hsucc
    have hfail : doO (opAt f (ordI g i).toNat) u = none → dskF f g s m = none := fun hz => by
      have hz2 : dskF f g s (i + 1) = none := hsucc.trans hz
      have := dsk_none hz2 (m - (i + 1))
      rwa [show i + 1 + (m - (i + 1)) = m by omega] at this
    have e := s7_eq nl n f ol m g u i
    rw [lt1 hi, ix_, blt_t hi, wrap_i64s (by omega), ok.ord, decide_eq_true (show 0 ≤ (t : Int) by omega), lt1 ok.lt, ix_, blt_t ok.lt, ok.fr, ok.ct, wi (a := a) (by omega), wi (a := b) (by omega), w8 (a := a) (by omega), w8 (a := b) (by omega), wad (a := 8 * a) (b := 8 * b) (by omega), Int.toNat_natCast, Int.toNat_natCast,
      decide_eq_true (show 0 ≤ ((8 * a : Nat) : Int) by omega), decide_eq_true (show 0 ≤ ((8 * a + 8 * b : Nat) : Int) by omega), ble_t (show 8 * a ≤ u.length by omega), ble_t (show 8 * a + 8 * b ≤ u.length by omega), ble_t (show 8 * a ≤ 8 * a + 8 * b by omega), take_rest, take_first, show 8 * a + 8 * b - 8 * a = 8 * b by omega] at e
    cases hw : (f t 1).toB with
    | true =>
      rw [hw] at e hdo
      rw [ble_t (show (List.take (8 * a) u).length + (f t 4).toS.length ≤ 140737488355328 by rw [List.length_take]; omega), ble_t (show (List.take (8 * a) u ++ (f t 4).toS).length + (List.drop (8 * a + 8 * b) u).length ≤ 140737488355328 by rw [List.length_append, List.length_take, List.length_drop]; omega)] at e
      have hdo2 : doO (opAt f (ordI g i).toNat) u = some (List.take (8 * a) u ++ (f t 4).toS ++ List.drop (8 * a + 8 * b) u) := by rw [hdo, show 8 * (a + b) = 8 * a + 8 * b by omega]; rfl
      exact .inl ⟨_, (i + 1, List.take (8 * a) u ++ (f t 4).toS ++ List.drop (8 * a + 8 * b) u), e, Seen.refl _, ⟨by simp only; omega, hsucc.trans hdo2, doO_len ok h3 hdo2⟩, by simp only; omega, rfl⟩
    | false =>
      rw [hw] at e hdo
      cases hq : (List.take (8 * b) (List.drop (8 * a) u) == (f t 4).toS) with
      | true =>
        rw [hq] at e hdo
        exact .inl ⟨_, (i + 1, u), e, Seen.refl _, ⟨by simp only; omega, hsucc.trans hdo, h3⟩, by simp only; omega, rfl⟩
      | false =>
        rw [hq] at e hdo
        rw [hfail hdo]
        exact .inr ⟨_, 1, e, rfl, Seen.of_eq (by rw [nil0]; rfl)⟩
theorem qF : Bm.Good Try.prog EF := qE.addS (by kernel_rfl) rfl (by decide) (by decide) rfl i7
theorem blank_is (f : Nat → Nat → AV) (hf : ∀ i, (f i 0).toI = 0) (k : Nat) : List.map (fun i => Int.toNat (byteAt f (0 + i))) (List.range k) = List.replicate k 0 := by
  refine List.ext_getElem (by simp) fun i h1 h2 => ?_
  simp [byteAt, hf]
theorem blank_all (f : Nat → Nat → AV) (hf : ∀ i, (f i 0).toI = 0) (k : Nat) : (List.all (List.range k) fun i => decide (0 ≤ byteAt f (0 + i)) && decide (byteAt f (0 + i) < 256)) = true := by
  rw [List.all_eq_true]
  intro i _
  show (decide (0 ≤ (f (0 + i) 0).toI) && decide ((f (0 + i) 0).toI < 256)) = true
  rw [hf]; rfl
theorem blankV_is {z : Nat} : blankV (z : Int) = List.replicate (8 * z) 0 := by
  rw [blankV_eq]
  show List.replicate (8 * (z : Int)).toNat 0 = _
  rw [show (8 * (z : Int)).toNat = 8 * z by omega]
theorem j7 (c c' : CS) (h : (f7 c).run = some c') : ∃ m pr ros π, callC EF m 7 0 pr ros π c = some c' := by
  obtain ⟨nl, n, f, bl, ol, m, g, rfl, hb⟩ := f7_inv h
  obtain ⟨hn, hb2⟩ := chkT_run hb
  have h1 := not_lt (hn 2 _ rfl)
  have h2 := not_gt (hn 3 _ rfl)
  have hd := hn 4 _ rfl
  obtain ⟨z, rfl⟩ := Int.eq_ofNat_of_zero_le (show 0 ≤ bl by omega)
  have e := k7_eq nl n f (z : Int) ol m g
  rw [wi (a := z) (by omega), w8 (a := z) (by omega), Int.toNat_natCast, decide_eq_true (show 0 ≤ ((8 * z : Nat) : Int) by omega), decide_eq_true (show ((8 * z : Nat) : Int) ≤ 281474976710656 by omega), ble_t (show 1 * (8 * z) ≤ 281474976710656 by omega), ble_t (show 0 + 8 * z ≤ 8 * z by omega),
    blank_all (fun x j => getAt [AV.int IntKind.u8 (Int.ofNat 0)] j) (fun _ => rfl), blank_is (fun x j => getAt [AV.int IntKind.u8 (Int.ofNat 0)] j) (fun _ => rfl), hn 0 _ rfl, hn 1 _ rfl] at e
  rw [blankV_is] at hb2 hd
  rw [hd] at e
  exact ⟨1500, .keep, [], k7_p, e.trans hb2⟩
theorem qG : Bm.Good Try.prog EG := qF.addR qF (by kernel_rfl) j7
/-! ### ref.Valid -/
theorem okR_at {g : Nat → Nat → AV} {n m i : Nat} (h : okRV n g m = true) (hi : i < m) : ∃ t : Nat, (g i 0).toI = (t : Int) ∧ t < n := by
  rw [okRV_eq] at h
  have h2 := okFrom_iff.1 h i hi
  rw [Nat.zero_add] at h2
  have h2 : (!(decide ((g i 0).toI < 0)) && !(decide ((g i 0).toI ≥ (n : Int)))) = true := h2
  simp only [Bool.and_eq_true, Bool.not_eq_true'] at h2
  exact inR_of (of_decide_eq_false h2.1) (of_decide_eq_false h2.2)
theorem i6b (c : CS) (r : Nat × CS) (h : (r6b c).run = some r) : Loops (stepC EG 400 (loopC EG 6 2) 0 h6b ((.normal, h6b) :: x6b) s6b_p) c r.1 r.2 := by
  obtain ⟨nl, n, f, bl, ol, m, g, a, rfl, hb⟩ := r6b_inv h
  obtain ⟨hn, hb2⟩ := chkT_run hb
  have hrr := hn 2 _ rfl
  have ha := lt_of (hn 3 _ rfl)
  have hm := le_of (hn 1 _ rfl)
  have hn := le_of (hn 0 _ rfl)
  have hr := ask_ret hb2; subst hr; clear h hb hb2
  obtain ⟨ta, hta, lta⟩ := okR_at hrr ha
  rw [okIV_eq]
  let q : Nat → Bool := fun k => !(beforeO (opAt f (ordI g a).toNat) (opAt f (ordI g k).toNat))
  refine Loops.inv (C := fun i => c6b nl n f bl ol m g a i) (fun i => a + 1 ≤ i ∧ i ≤ m ∧ ∀ j, a + 1 ≤ j → j < i → q j = true) (fun i => m - i) (fun _ => (cond (okI f g m a) 1 2, cond (okI f g m a) ⟨[.osl nl 0 0 n n 8 true, .int .u32 bl, .osl ol 1 0 m m 1 true, .int .i64 (a : Nat)], [some (.tarr shO n f false), some (.tarr shI m g false)]⟩ ⟨[.bool false], []⟩)) (fun i hi => ?_) (a + 1) ⟨Nat.le_refl _, ha, fun j h1 h2 => by omega⟩
  obtain ⟨h0, h1, h2⟩ := hi
  by_cases hi : i = m
  · subst hi
    have e := s6b_eq nl n f bl ol i g a i
    rw [lt0] at e
    rw [show okI f g i a = true from okFrom_iff.2 fun j hj => h2 _ (by omega) (by omega)]
    exact .inr ⟨_, 0, e, rfl, Seen.refl _⟩
  · have hi : i < m := by omega
    obtain ⟨t, ht, hlt⟩ := okR_at hrr hi
    have bad : q i = false → okI f g m a = false := fun hq => by
      rw [Bool.eq_false_iff]; intro ho
      have := okFrom_iff.1 ho (i - (a + 1)) (by omega)
      rw [show a + 1 + (i - (a + 1)) = i by omega] at this
      rw [show q i = true from this] at hq; cases hq
    have hqi : q i = !((f t 6).toI != 0 && decide ((f t 6).toI ≤ (f ta 5).toI)) := by
      show (!(beforeO (opAt f (g a 0).toI.toNat) (opAt f (g i 0).toI.toNat))) = _
      rw [hta, ht, Int.toNat_natCast, Int.toNat_natCast]; rfl
    have e := s6b_eq nl n f bl ol m g a i
    rw [lt1 hi, lt1 ha, ix_, ix_, blt_t hi, blt_t ha, wrap_i64s (by omega), ht, hta, decide_eq_true (show 0 ≤ (t : Int) by omega), decide_eq_true (show 0 ≤ (ta : Int) by omega), lt1 hlt, lt1 lta, ix_, ix_, blt_t hlt, blt_t lta] at e
    have next : q i = true → a + 1 ≤ i + 1 ∧ i + 1 ≤ m ∧ ∀ j, a + 1 ≤ j → j < i + 1 → q j = true := fun hq => ⟨by omega, by omega, fun j hj1 hj => by
      by_cases hj' : j = i
      · subst hj'; exact hq
      · exact h2 j hj1 (by omega)⟩
    cases h6 : ((f t 6).toI != 0) with
    | false =>
      rw [h6] at e hqi
      exact .inl ⟨_, i + 1, e, Seen.refl _, next hqi, by omega, rfl⟩
    | true =>
      rw [h6] at e hqi
      cases h7 : decide ((f t 6).toI ≤ (f ta 5).toI) with
      | false =>
        rw [h7] at e hqi
        exact .inl ⟨_, i + 1, e, Seen.refl _, next hqi, by omega, rfl⟩
      | true =>
        rw [h7] at e hqi
        rw [bad hqi]
        exact .inr ⟨_, 1, e, rfl, Seen.refl _⟩
theorem qH : Bm.Good Try.prog EH := qG.addS (by kernel_rfl) rfl (by decide) (by decide) rfl i6b
theorem i6a (c : CS) (r : Nat × CS) (h : (r6a c).run = some r) : ∃ it, iterC (stepC EH 400 (loopC EH 6 0) 0 h6a ((.normal, h6a) :: x6a) s6a_p) it c = some r := by
  obtain ⟨nl, n, f, bl, ol, m, g, rfl, hb⟩ := r6a_inv h
  obtain ⟨hn, hb2⟩ := chkT_run hb
  have hrr := hn 2 _ rfl
  have hm0 := hn 1 _ rfl
  have hn0 := hn 0 _ rfl
  have hm := le_of hm0
  have hr := ask_scan hb2; subst hr
  rw [okJV_eq]
  refine iter_scan (C := fun i => c6a nl n f bl ol m g i) (q := fun a => okI f g m a) (by simp) (by simp) (fun i hi => ?_) ?_
  · have e := s6a_eq nl n f bl ol m g i
    rw [lt1 hi, wrap_i64s (by omega), decide_eq_true (show (i : Int) + 1 = ((i + 1 : Nat) : Int) by omega), hn0, hm0, hrr, blt_t hi, okIV_eq] at e
    refine Eq.trans e ?_
    cases okI f g m i <;> rfl
  · have e := s6a_eq nl n f bl ol m g m
    rw [lt0] at e
    exact e
theorem qI : Bm.Good Try.prog EI := qH.addL (by kernel_rfl) rfl (by decide) (by decide) rfl i6a
end Go.Proofs.Ytbcilfbdbphjgaa.witnessValid
