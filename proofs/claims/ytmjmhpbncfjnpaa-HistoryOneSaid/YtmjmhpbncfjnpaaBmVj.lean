/- The abstract machine: arrays of numbers as lists; loops whose states are seen less exactly. -/
import Derived.Test.YtmjmhpbncfjnpaaBmVi
set_option linter.unusedSimpArgs false
set_option linter.unusedVariables false
namespace Go.Proofs.Ytmjmhpbncfjnpaa.Bm
open Go.RowKit
def fin (k : IntKind) (L : List Int) (i _ : Nat) : AV := .int k (L.getD i 0)
def rd (f : Nat → Nat → AV) (n : Nat) : List Int := (List.range n).map fun i => (f i 0).toI
theorem rd_len (f : Nat → Nat → AV) (n : Nat) : (rd f n).length = n := by simp [rd]
theorem rd_at {f : Nat → Nat → AV} {n i : Nat} (h : i < n) : (rd f n).getD i 0 = (f i 0).toI := by
 simp [rd, List.getD_eq_getElem?_getD, h]
theorem rd_fin (k : IntKind) (L : List Int) : rd (fin k L) L.length = L := by
 refine List.ext_getElem (rd_len _ _) fun i h1 h2 => ?_
 simp [rd, fin, AV.toI, List.getD_eq_getElem?_getD, h2]
theorem rd_congr {f g : Nat → Nat → AV} {n : Nat} (h : ∀ i, i < n → (f i 0).toI = (g i 0).toI) : rd f n = rd g n := by
 unfold rd
 refine List.map_congr_left fun i hi => h i (List.mem_range.1 hi)
def IsL (f : Nat → Nat → AV) (L : List Int) : Prop := ∀ i, i < L.length → (f i 0).toI = L.getD i 0
theorem isL_fin (k : IntKind) (L : List Int) : IsL (fin k L) L := fun _ _ => rfl
theorem isL_rd (f : Nat → Nat → AV) (n : Nat) : IsL f (rd f n) := fun i hi => (rd_at (by rw [rd_len] at hi; exact hi)).symm
theorem isL_join {f g : Nat → Nat → AV} {L M : List Int} {n : Nat} (hn : n = L.length) (hf : IsL f L) (hg : IsL g M) : IsL (fjoin f n g) (L ++ M) := by
 subst hn
 intro i hi
 unfold fjoin
 rw [blt_iff]
 by_cases h : i < L.length
 ·rw [decide_eq_true h, cond_true, hf i h, List.getD_eq_getElem?_getD, List.getD_eq_getElem?_getD, List.getElem?_append_left h]
 ·rw [List.length_append] at hi
  rw [decide_eq_false h, cond_false, hg (i - L.length) (by omega), List.getD_eq_getElem?_getD, List.getD_eq_getElem?_getD, List.getElem?_append_right (by omega)]
theorem isL_over0 {f g : Nat → Nat → AV} {L : List Int} {o : Nat} (hf : IsL f L) : IsL (fover f o 0 g) L := by
 intro i hi
 unfold fover
 have : (Nat.ble o i && Nat.blt i (o + 0)) = false := by
  rw [ble_iff, blt_iff]
  by_cases h : o ≤ i
  ·rw [decide_eq_false (show ¬ i < o + 0 by omega), Bool.and_false]
  ·rw [decide_eq_false h, Bool.false_and]
 rw [this]
 exact hf i hi
theorem isL_nil (f : Nat → Nat → AV) : IsL f [] := fun i hi => by simp at hi
theorem isL_one {f : Nat → Nat → AV} {x : Int} (h : (f 0 0).toI = x) : IsL f [x] := fun i hi => by
 simp at hi; subst hi; simpa using h
theorem SeenO.ints {k : IntKind} {f : Nat → Nat → AV} {m : Nat} {L : List Int} {b : Bool} (h : L.length ≤ m) (hv : IsL f L) : SeenO (.tarr [.int k] m f b) (.tarr [.int k] L.length (fin k L) b) := by
 refine ⟨rfl, fun φ w lo hO => ?_⟩
 have e : tcells [.int k] f 0 L.length = tcells [.int k] (fin k L) 0 L.length := tcells_congr _ 0 fun i _ h2 j s hs => by
  cases j with
  | zero =>
    simp at hs; subst hs
    show AV.int k (f i 0).toI = AV.int k (fin k L i 0).toI
    rw [hv i (by omega)]; rfl
  | succ j => simp at hs
 have pre : ∀ (n i m : Nat), n ≤ m → tcells [.int k] f i n <+: tcells [.int k] f i m := by
  intro n
  induction n with
  | zero => intro i m _; exact List.nil_prefix
  | succ n ih =>
    intro i m hm
    cases m with
    | zero => omega
    | succ m =>
      simp only [tcells]
      exact (List.prefix_append_right_inj _).2 (ih (i + 1) m (by omega))
 obtain ⟨t, ht⟩ := pre L.length 0 m h
 simp only [ObjR] at hO ⊢
 rw [← e]
 rw [← ht] at hO
 refine ⟨fun j x hj => hO.1 j x ?_, ?_, hO.2.2⟩
 ·rw [List.getElem?_append_left (List.getElem?_eq_some_iff.1 hj).1]; exact hj
 ·have := hO.2.1
  rw [List.length_append] at this
  omega
theorem SeenV.osl {nl : Bool} {id off n n' cap es : Nat} {h : Bool} (e : n = n') : SeenV (.osl nl id off n cap es h) (.osl nl id off n' n' es true) := by
 subst e; exact SeenV.hid
theorem SeenV.of_eq {x y : AV} (e : x = y) : SeenV x y := e ▸ SeenV.refl x
def lS (nl : Bool) (id es : Nat) (L : List Int) : AV := .osl nl id 0 L.length L.length es true
def lO (k : IntKind) (L : List Int) (b : Bool) : Option AObj := some (.tarr [.int k] L.length (fin k L) b)
theorem SeenV.lS {nl : Bool} {id n cap es : Nat} {h : Bool} {L : List Int} (e : n = L.length) : SeenV (.osl nl id 0 n cap es h) (Bm.lS nl id es L) := SeenV.osl e
theorem SeenOs.lO {k : IntKind} {f : Nat → Nat → AV} {m : Nat} {L : List Int} {b : Bool} {xs xs' : List (Option AObj)} (h : L.length ≤ m) (hv : IsL f L) (t : SeenOs xs xs') : SeenOs (some (.tarr [.int k] m f b) :: xs) (Bm.lO k L b :: xs') :=
 .cons (SeenO.ints h hv) t
theorem SeenOs.same {x : Option AObj} {xs xs' : List (Option AObj)} (t : SeenOs xs xs') : SeenOs (x :: xs) (x :: xs') := by
 cases x with
 | none => exact .skip t
 | some x => exact .cons (SeenO.refl x) t
theorem SeenO.one {k : IntKind} {f g : Nat → Nat → AV} {n m : Nat} {b : Bool} (e : n = m) (h : ∀ i, i < m → (f i 0).toI = (g i 0).toI) : SeenO (.tarr [.int k] n f b) (.tarr [.int k] m g b) := by
 subst e
 refine SeenO.arr fun i hi j s hs => ?_
 cases j with
 | zero =>
   simp at hs; subst hs
   show AV.int k (f i 0).toI = AV.int k (g i 0).toI
   rw [h i hi]
 | succ j => simp at hs
theorem SeenV.nil {id off n c es : Nat} {h : Bool} : SeenV (.osl true id off n c es h) .nilSlice := by
 intro φ v hv
 simp only [VR] at hv ⊢
 rcases hv with ⟨_, h2, _, _⟩ | ⟨h1, _⟩
 ·exact h2
 ·cases h1
theorem join_step {f g1 g2 F : Nat → Nat → AV} {n i k m a : Nat} (hk : k = n + i) (hF : ∀ b, (F b 0).toI = (fjoin f n g1 b 0).toI) (h : ∀ b, b < m → (g2 b 0).toI = (g1 (i + b) 0).toI) (ha : a < n + i + m) : (fjoin F k g2 a 0).toI = (fjoin f n g1 a 0).toI := by
 subst hk
 show (cond (Nat.blt a (n + i)) (F a 0) (g2 (a - (n + i)) 0)).toI = _
 rw [blt_iff]
 by_cases h1 : a < n + i
 ·rw [decide_eq_true h1, cond_true, hF]
 ·rw [decide_eq_false h1, cond_false, h _ (by omega)]
  show _ = (cond (Nat.blt a n) (f a 0) (g1 (a - n) 0)).toI
  rw [blt_iff, decide_eq_false (show ¬ a < n by omega), cond_false, show i + (a - (n + i)) = a - n by omega]
theorem fjoin_lt {f g : Nat → Nat → AV} {n a : Nat} (h : a < n) : fjoin f n g a 0 = f a 0 := by
 unfold fjoin
 rw [blt_iff, decide_eq_true h, cond_true]
theorem fjoin_ge {f g : Nat → Nat → AV} {n a : Nat} (h : n ≤ a) : fjoin f n g a 0 = g (a - n) 0 := by
 unfold fjoin
 rw [blt_iff, decide_eq_false (show ¬ a < n by omega), cond_false]
theorem SeenV.bad {x : AV} : SeenV x .bad := fun _ _ _ => by simp only [VR]
theorem SeenO.cells {vs vs' : List AV} {b : Bool} (h : SeenVs vs vs') : SeenO (.cells vs b) (.cells vs' b) := by
 refine ⟨rfl, fun φ w lo hO => ?_⟩
 simp only [ObjR] at hO ⊢
 refine ⟨fun j x' hx => ?_, by rw [h.at_.1]; exact hO.2.1, hO.2.2⟩
 obtain ⟨x, h1, h2⟩ := h.at_.2 j x' hx
 obtain ⟨v, h3, h4⟩ := hO.1 j x h1
 exact ⟨v, h3, h2 _ _ h4⟩
theorem SeenV.agg {xs xs' : List AV} (h : SeenVs xs xs') : SeenV (.agg xs) (.agg xs') := by
 intro φ v hv
 simp only [VR] at hv ⊢
 obtain ⟨l, e, h1⟩ := hv
 refine ⟨l, e, vrl_mk (by rw [h.at_.1]; exact h1.length) fun i x' hx => ?_⟩
 obtain ⟨x, h3, h4⟩ := h.at_.2 i x' hx
 obtain ⟨u, h5, h6⟩ := h1.at_ i x h3
 exact ⟨u, h5, h4 _ _ h6⟩
theorem Loops.inv {X : Type} {step : CS → Option (Nat × CS)} {C : X → CS} (Inv : X → Prop) (μ : X → Nat) (res : X → Nat × CS)
  (hs : ∀ x, Inv x → (∃ c1 x', step (C x) = some (0, c1) ∧ Seen c1 (C x') ∧ Inv x' ∧ μ x' < μ x ∧ res x' = res x) ∨ (∃ c1 k, step (C x) = some (k + 1, c1) ∧ (res x).1 = k + 1 ∧ Seen c1 (res x).2)) : ∀ x, Inv x → Loops step (C x) (res x).1 (res x).2 := by
 have key : ∀ k x, μ x ≤ k → Inv x → Loops step (C x) (res x).1 (res x).2 := by
  intro k
  induction k with
  | zero =>
    intro x hx hi
    rcases hs x hi with ⟨c1, x', _, _, _, h4, _⟩ | ⟨c1, k, h1, h2, h3⟩
    ·omega
    ·rw [h2]; exact .out h1 h3
  | succ k ih =>
    intro x hx hi
    rcases hs x hi with ⟨c1, x', h1, h2, h3, h4, h5⟩ | ⟨c1, k, h1, h2, h3⟩
    ·have := ih x' (by omega) h3
     rw [h5] at this
     exact .go h1 h2 this
    ·rw [h2]; exact .out h1 h3
 exact fun x hi => key (μ x) x (Nat.le_refl _) hi
theorem Loops.for {step : CS → Option (Nat × CS)} {C : Nat → CS} {n k : Nat} {c' : CS} (hs : ∀ i, i < n → ∃ c1, step (C i) = some (0, c1) ∧ Seen c1 (C (i + 1))) (he : ∃ c1, step (C n) = some (k + 1, c1) ∧ Seen c1 c') : Loops step (C 0) (k + 1) c' :=
 Loops.inv (C := C) (fun i => i ≤ n) (fun i => n - i) (fun _ => (k + 1, c')) (fun i hi => by
  by_cases h : i = n
  ·subst h
   obtain ⟨c1, h1, h2⟩ := he
   exact .inr ⟨c1, k, h1, rfl, h2⟩
  ·obtain ⟨c1, h1, h2⟩ := hs i (by omega)
   exact .inl ⟨c1, i + 1, h1, h2, by omega, by omega, rfl⟩) 0 (Nat.zero_le _)
theorem Loops.upto {step : CS → Option (Nat × CS)} {C : Nat → CS} {n k i0 : Nat} {c' : CS} (h0 : i0 ≤ n) (hs : ∀ i, i < n → ∃ c1, step (C i) = some (0, c1) ∧ Seen c1 (C (i + 1))) (he : ∃ c1, step (C n) = some (k + 1, c1) ∧ Seen c1 c') : Loops step (C i0) (k + 1) c' :=
 Loops.inv (C := C) (fun i => i ≤ n) (fun i => n - i) (fun _ => (k + 1, c')) (fun i hi => by
  by_cases h : i = n
  ·subst h
   obtain ⟨c1, h1, h2⟩ := he
   exact .inr ⟨c1, k, h1, rfl, h2⟩
  ·obtain ⟨c1, h1, h2⟩ := hs i (by omega)
   exact .inl ⟨c1, i + 1, h1, h2, by omega, by omega, rfl⟩) i0 h0
theorem wrap_i64 {i : Nat} (h : i < 1000000000) : IntKind.wrap .i64 (i : Int) = (i : Int) := i64_small (Nat.le_trans (Nat.le_of_lt h) (by decide))
theorem wrap_i64s {i : Nat} (h : i < 999999999) : IntKind.wrap .i64 ((i : Int) + 1) = ((i + 1 : Nat) : Int) := by
 have := wrap_i64 (i := i + 1) (by omega)
 simpa using this
theorem ix_ (i : Nat) : 0 + Int.toNat (i : Int) = i := by simp
theorem wrap_u8 (x : Int) : IntKind.wrap .u8 x = x % 256 := by
 unfold IntKind.wrap
 simp [IntKind.bits, IntKind.signed]
theorem wrap_u64 {x : Int} (h : 0 ≤ x) (h' : x < 18446744073709551616) : IntKind.wrap .u64 x = x := by
 unfold IntKind.wrap
 simp only [IntKind.bits, IntKind.signed]
 exact Int.emod_eq_of_lt h h'
end Go.Proofs.Ytmjmhpbncfjnpaa.Bm
