/- Orders of a history: what both say is the same. No program. -/
import Derived.Test.YtbcilfbdbphjgaaWvA
import Derived.KernelRfl
set_option linter.unusedSimpArgs false
set_option linter.unusedVariables false
set_option maxRecDepth 20000
namespace Go.Proofs.Ytbcilfbdbphjgaa.witnessValid
open Go Go.RowKit Go.Proofs.Ytbcilfbdbphjgaa.Bm
/-! ### What both say -/
theorem firstN_spec' (q : Nat → Bool) : ∀ m, firstN q m ≤ m ∧ (∀ j, j < firstN q m → q j = false) ∧ (firstN q m < m → q (firstN q m) = true)
  | 0 => ⟨Nat.le_refl _, fun j hj => absurd hj (Nat.not_lt_zero _), fun h => absurd h (Nat.not_lt_zero _)⟩
  | m + 1 => by
    obtain ⟨h1, h2, h3⟩ := firstN_spec' q m
    simp only [firstN, blt_iff]
    by_cases h : firstN q m < m
    · rw [decide_eq_true h]
      simp only [cond_true]
      exact ⟨by omega, h2, fun _ => h3 h⟩
    · have hm : firstN q m = m := by omega
      rw [decide_eq_false h]
      simp only [cond_false]
      rw [hm] at h2
      cases hq : q m with
      | true => simp only [cond_true]; exact ⟨by omega, h2, fun _ => hq⟩
      | false =>
        simp only [cond_false]
        refine ⟨Nat.le_refl _, fun j hj => ?_, fun h => absurd h (Nat.lt_irrefl _)⟩
        by_cases hj' : j = m
        · subst hj'; exact hq
        · exact h2 j (by omega)
theorem seenN_iff {g : Nat → Nat → AV} {k i : Nat} : seenN g k i = true ↔ ∃ j, j < k ∧ (g j 0).toI = (i : Int) := by
  unfold seenN
  rw [List.any_eq_true]
  constructor
  · rintro ⟨j, h1, h2⟩
    exact ⟨j, List.mem_range.1 h1, by simpa [ordI] using h2⟩
  · rintro ⟨j, h1, h2⟩
    exact ⟨j, List.mem_range.2 h1, by simpa [ordI] using h2⟩
theorem at_seen (g : Nat → Nat → AV) (m i : Nat) : Nat.blt (atF g i m) m = seenN g m i := by
  obtain ⟨h1, h2, h3⟩ := firstN_spec' (fun k => (g k 0).toI == (i : Int)) m
  have he : atF g i m = firstN (fun k => (g k 0).toI == (i : Int)) m := rfl
  rw [he, blt_iff, Bool.eq_iff_iff, decide_eq_true_eq, seenN_iff]
  constructor
  · intro h
    exact ⟨_, h, by simpa using h3 h⟩
  · rintro ⟨j, hj, hq⟩
    by_cases h : firstN (fun k => (g k 0).toI == (i : Int)) m < m
    · exact h
    · have := h2 j (by omega)
      rw [hq] at this; simp at this
theorem at_self (g : Nat → Nat → AV) {m k t : Nat} (hk : k < m) (ht : (g k 0).toI = (t : Int)) : Nat.beq (atF g (t : Int) m) k = !(seenN g k t) := by
  obtain ⟨h1, h2, h3⟩ := firstN_spec' (fun j => (g j 0).toI == (t : Int)) m
  have he : atF g t m = firstN (fun k => (g k 0).toI == (t : Int)) m := rfl
  rw [he]
  cases hs : seenN g k t with
  | true =>
    obtain ⟨j, hj, hq⟩ := seenN_iff.1 hs
    rw [Bool.not_true, Bool.eq_false_iff]
    intro hb
    have hb := Nat.eq_of_beq_eq_true hb
    have := h2 j (by omega)
    rw [hq] at this; simp at this
  | false =>
    have hle : firstN (fun k => (g k 0).toI == (t : Int)) m ≤ k := by
      by_cases h : k < firstN (fun k => (g k 0).toI == (t : Int)) m
      · have := h2 k h
        rw [ht] at this; simp at this
      · omega
    have hge : ¬ firstN (fun k => (g k 0).toI == (t : Int)) m < k := fun h => by
      have h4 := h3 (by omega)
      have : seenN g k t = true := seenN_iff.2 ⟨_, h, by simpa using h4⟩
      rw [hs] at this; cases this
    rw [show firstN (fun k => (g k 0).toI == (t : Int)) m = k by omega]
    exact Nat.beq_refl k
theorem inR_nat {n : Nat} {x : Int} (h : inR n x = true) : ∃ t : Nat, x = (t : Int) ∧ t < n := by
  simp only [inR, Bool.and_eq_true, Bool.not_eq_true'] at h
  have h1 := of_decide_eq_false h.1
  have h2 := of_decide_eq_false h.2
  obtain ⟨t, ht⟩ := Int.eq_ofNat_of_zero_le (show 0 ≤ x by omega)
  exact ⟨t, ht, by omega⟩
theorem stands_same (f : Nat → Nat → AV) (n : Nat) (g : Nat → Nat → AV) (m : Nat) : (okM f n g m && okW f n g m) = (okS f n g m && okT f n (seenA g m)) := by
  have e1 : okM f n g m = okT f n (seenA g m) := okFrom_congr fun i _ _ => by
    show (!(mustO (opAt f i) && !(Nat.blt (atF g i m) m))) = (!(mustO (opAt f i) && !(seenN g m i)))
    rw [at_seen]
  have e2 : okW f n g m = okS f n g m := okFrom_congr fun k _ hk => by
    show (inR n (ordI g k) && Nat.beq (atF g (ordI g k) m) k && mayO _) = (inR n (ordI g k) && !(seenN g k (ordI g k).toNat) && mayO _)
    cases hr : inR n (ordI g k) with
    | false => rfl
    | true =>
      obtain ⟨t, ht, _⟩ := inR_nat hr
      rw [ht, Int.toNat_natCast, at_self g (by omega) ht]
  rw [e1, e2, Bool.and_comm]
theorem late_ge (f g : Nat → Nat → AV) : ∀ k j, j < k → (opAt f (ordI g j).toNat).b ≤ lateF f g k
  | 0, j, h => absurd h (Nat.not_lt_zero _)
  | k + 1, j, h => by
    simp only [lateF]
    by_cases hj : j = k
    · subst hj; split <;> omega
    · have := late_ge f g k j (by omega)
      split <;> omega
theorem late_is (f g : Nat → Nat → AV) : ∀ k, lateF f g k = 0 ∨ ∃ j, j < k ∧ lateF f g k = (opAt f (ordI g j).toNat).b
  | 0 => .inl rfl
  | k + 1 => by
    simp only [lateF]
    split
    · exact .inr ⟨k, by omega, rfl⟩
    · rcases late_is f g k with h | ⟨j, h1, h2⟩
      · exact .inl h
      · exact .inr ⟨j, by omega, h2⟩
/-- Those that are looked at begin at nought, or behind it, and end behind their beginning. -/
def Times (f g : Nat → Nat → AV) (m : Nat) : Prop := ∀ k, k < m → (opAt f (ordI g k).toNat).e ≠ 0 → 0 < (opAt f (ordI g k).toNat).e
theorem okB_iff {f g : Nat → Nat → AV} {m k : Nat} (ht : Times f g m) (hk : k < m) : okB f g k = true ↔ ∀ a, a < k → beforeO (opAt f (ordI g a).toNat) (opAt f (ordI g k).toNat) = false := by
  unfold okB beforeO
  rw [Bool.not_eq_true']
  constructor
  · intro h a ha
    rw [Bool.and_eq_false_iff] at h ⊢
    rcases h with h | h
    · exact .inl h
    · have := of_decide_eq_false h
      have := late_ge f g k a ha
      exact .inr (decide_eq_false (by omega))
  · intro h
    rw [Bool.and_eq_false_iff]
    by_cases he : (opAt f (ordI g k).toNat).e = 0
    · exact .inl (by simp [he])
    · have hp := ht k hk he
      refine .inr (decide_eq_false ?_)
      intro hle
      rcases late_is f g k with h0 | ⟨j, hj, hb⟩
      · omega
      · have := h j hj
        rw [Bool.and_eq_false_iff] at this
        rcases this with h1 | h1
        · simp at h1; exact he h1
        · have := of_decide_eq_false h1; omega
theorem dsk_some {f g : Nat → Nat → AV} {s : List Nat} : ∀ m, (dskF f g s m).isSome = true ↔ ∀ k, k < m → (dskF f g s (k + 1)).isSome = true
  | 0 => ⟨fun _ k hk => absurd hk (Nat.not_lt_zero _), fun _ => rfl⟩
  | m + 1 => by
    constructor
    · intro h k hk
      by_cases hkm : k = m
      · subst hkm; exact h
      · have hm : (dskF f g s m).isSome = true := by
          cases hd : dskF f g s m with
          | none => simp only [dskF, hd] at h; cases h
          | some t => rfl
        exact (dsk_some m).1 hm k (by omega)
    · intro h; exact h m (by omega)
theorem valid_same {f g : Nat → Nat → AV} {m : Nat} {s : List Nat} (ht : Times f g m) : (okJ f g m && (dskO f g m s).isSome) = witF f g m s := by
  rw [Bool.eq_iff_iff, Bool.and_eq_true]
  unfold okJ witF
  rw [okFrom_iff, okFrom_iff, show dskO f g m s = dskF f g s m from rfl, dsk_some]
  constructor
  · rintro ⟨h1, h2⟩ k hk
    rw [Nat.zero_add]
    simp only [Bool.and_eq_true]
    refine ⟨(okB_iff ht hk).2 fun a ha => ?_, h2 k hk⟩
    have h3 := h1 a (by omega)
    rw [Nat.zero_add] at h3
    have h4 := okFrom_iff.1 h3 (k - (a + 1)) (by omega)
    rw [show a + 1 + (k - (a + 1)) = k by omega] at h4
    simpa using h4
  · intro h
    refine ⟨fun a ha => ?_, fun k hk => ?_⟩
    · rw [Nat.zero_add]
      refine okFrom_iff.2 fun j hj => ?_
      have h3 := h (a + 1 + j) (by omega)
      rw [Nat.zero_add] at h3
      simp only [Bool.and_eq_true] at h3
      have := (okB_iff ht (by omega)).1 h3.1 a (by omega)
      simp [this]
    · have h3 := h k hk
      rw [Nat.zero_add] at h3
      simp only [Bool.and_eq_true] at h3
      exact h3.2
theorem times_of {bl : Int} {f g : Nat → Nat → AV} {n m : Nat} (hg : okG bl f n = true) (hw : ∀ k, k < m → inR n (ordI g k) = true) : Times f g m := by
  intro k hk he
  obtain ⟨t, ht, hlt⟩ := inR_nat (hw k hk)
  rw [ht, Int.toNat_natCast] at he ⊢
  have h := okFrom_iff.1 hg t hlt
  rw [Nat.zero_add] at h
  simp only [goodO, Bool.and_eq_true, Bool.not_eq_true'] at h
  obtain ⟨⟨⟨⟨_, _⟩, g3⟩, g4⟩, _⟩ := h
  have g3 := of_decide_eq_false g3
  rw [Bool.and_eq_false_iff] at g4
  rcases g4 with g4 | g4
  · simp at g4; exact absurd g4 he
  · have := of_decide_eq_false g4; omega
theorem vW_vR (bl : Int) (f : Nat → Nat → AV) (n : Nat) (g : Nat → Nat → AV) (m : Nat) : vW bl f n g m = vR bl f n g m := by
  unfold vW vR
  cases hg : gF bl f n with
  | false => rfl
  | true =>
    rw [← stands_same]
    cases hs : (okM f n g m && okW f n g m) with
    | false => rfl
    | true =>
      have hW : okW f n g m = true := by rw [Bool.and_eq_true] at hs; exact hs.2
      have hgg : okG bl f n = true := by
        simp only [gF, Bool.and_eq_true] at hg
        exact hg.2
      have ht : Times f g m := times_of hgg fun k hk => by
        have := okFrom_iff.1 hW k hk
        rw [Nat.zero_add] at this
        simp only [Bool.and_eq_true] at this
        exact this.1.1
      rw [← valid_same ht]
      simp [Bool.and_assoc]
theorem dw_is {f g : Nat → Nat → AV} {s : List Nat} : ∀ {m : Nat} {t : List Nat}, dskF f g s m = some t → dwF f g s m = t
  | 0, t, h => by
    simp only [dskF, Option.some.injEq] at h
    exact h
  | m + 1, t, h => by
    simp only [dskF] at h
    cases hd : dskF f g s m with
    | none => rw [hd] at h; cases h
    | some u =>
      rw [hd] at h
      have := dw_is hd
      simp only [dwF, this]
      have h : doO (opAt f (ordI g m).toNat) u = some t := h
      rw [h]; rfl
end Go.Proofs.Ytbcilfbdbphjgaa.witnessValid
