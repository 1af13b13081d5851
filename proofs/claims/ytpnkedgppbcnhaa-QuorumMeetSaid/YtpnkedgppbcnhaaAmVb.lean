/- The abstract machine: states that are brought into a wanted form; loops whose rounds are not counted ahead. -/
import Derived.Test.YtpnkedgppbcnhaaAmVa
set_option linter.unusedSimpArgs false
set_option linter.unusedVariables false
namespace Go.Proofs.Ytpnkedgppbcnhaa.Am
open Go.RowKit

/-! ### What is seen less exactly, under other numbers -/
def allP : List Prop → Prop
  | [] => True
  | p :: ps => p ∧ allP ps
theorem allP_append : ∀ {ps qs : List Prop}, allP (ps ++ qs) → allP ps ∧ allP qs
  | [], qs, h => ⟨trivial, h⟩
  | p :: ps, qs, h => ⟨⟨h.1, (allP_append h.2).1⟩, (allP_append h.2).2⟩
def oblP : List Bool → List Prop
  | [] => []
  | b :: bs => (b = true) :: oblP bs
theorem oblP_all : ∀ {bs : List Bool}, allP (oblP bs) → (bs.all fun b => b) = true
  | [], _ => rfl
  | b :: bs, h => by
    simp only [List.all_cons, h.1, Bool.true_and]
    exact oblP_all h.2

def optIs (o : Option Nat) (i : Nat) : Bool := match o with
  | some j => Nat.beq j i
  | none => false
theorem optIs_eq {o : Option Nat} {i : Nat} (h : optIs o i = true) : o = some i := by
  unfold optIs at h
  split at h
  · rw [Nat.eq_of_beq_eq_true h]
  · cases h

def capP (hid : Bool) (len cap cap' : Nat) : Prop := match hid with
  | true => len ≤ cap ∧ cap ≤ cap'
  | false => cap = cap'

mutual
/-- The first one says less of a value than the second one does; its numbers are told by 's'. -/
def wkV (s : Nat → Option Nat) : AV → AV → Option (List Prop)
  | .bad, v => match v with
    | .agg _ => none
    | _ => some []
  | .bool a, .bool b => some [a = b]
  | .int k a, .int l b => cond (decide (k = l)) (some [a = b]) none
  | .str a, .str b => some [a = b]
  | .ptr i o, .ptr i' o' => cond (optIs (s i) i' && Nat.beq o o') (some []) none
  | .nilPtr, .nilPtr => some []
  | .slice i o n c e h, .slice i' o' n' c' e' h' => cond (optIs (s i) i' && Nat.beq e e' && (h || !h')) (some [o = o', n = n', capP h n c c']) none
  | .tsl i o n c e h, .tsl i' o' n' c' e' h' => cond (optIs (s i) i' && Nat.beq e e' && (h || !h')) (some [o = o', n = n', capP h n c c']) none
  | .tsl i o n c e h, .slice i' o' n' c' e' h' => cond (optIs (s i) i' && Nat.beq e e' && (h || !h')) (some [o * e = o', n = n', capP h n c c']) none
  | .tptr i a b e, .tptr i' a' b' e' => cond (optIs (s i) i' && Nat.beq b b' && Nat.beq e e') (some [a = a']) none
  | .nilSlice, .nilSlice => some []
  | .map i, .map i' => cond (optIs (s i) i') (some []) none
  | .nilMap, .nilMap => some []
  | .func f a b, .func g c d => cond (decide (f = g)) (match wkVs s a c, wkVs s b d with
    | some p, some q => some (p ++ q)
    | _, _ => none) none
  | .yld l, .yld l' => cond (optIs (s l) l') (some []) none
  | .nilFunc, .nilFunc => some []
  | .iface t a, .iface u b => cond (Nat.beq t u) (wkV s a b) none
  | .nilIface, .nilIface => some []
  | .agg a, .agg b => wkVs s a b
  | .tuple a, .tuple b => wkVs s a b
  | _, _ => none
def wkVs (s : Nat → Option Nat) : List AV → List AV → Option (List Prop)
  | [], [] => some []
  | a :: as, b :: bs => match wkV s a b, wkVs s as bs with
    | some p, some q => some (p ++ q)
    | _, _ => none
  | _, _ => none
end
/-- The first list's beginning alone. -/
def wkPre (s : Nat → Option Nat) : List AV → List AV → Option (List Prop)
  | [], _ => some []
  | a :: as, b :: bs => match wkV s a b, wkPre s as bs with
    | some p, some q => some (p ++ q)
    | _, _ => none
  | _, _ => none
def wkEs (s : Nat → Option Nat) : List (AV × AV × Nat) → List (AV × AV × Nat) → Option (List Prop)
  | [], [] => some []
  | (k, v, b) :: es, (k', v', b') :: es' => cond (Nat.beq b b') (match wkV s k k', wkV s v v', wkEs s es es' with
    | some p, some q, some r => some (p ++ (q ++ r))
    | _, _, _ => none) none
  | _, _ => none
def wkO (s : Nat → Option Nat) : AObj → AObj → Option (List Prop)
  | .cells vs rw, .cells us rw' => cond (rw == rw') (wkPre s vs us) none
  | .tarr sh n f rw, .tarr sh' n' f' rw' => cond (shBeq sh sh' && (rw == rw')) (some [n ≤ n', ∀ i j, i < n → f i j = f' i j]) none
  | .tarr sh n f rw, .cells us rw' => cond (rw == rw') (wkPre s (tcells sh f 0 n) us) none
  | .map es c, .map es' c' => cond (Nat.beq c c') (wkEs s es es') none
  | _, _ => none

mutual
/-- Nothing is known of it, but how many cells it has. -/
def blur : AV → AV
  | .agg cs => .agg (blurs cs)
  | _ => .bad
def blurs : List AV → List AV
  | [] => []
  | x :: xs => blur x :: blurs xs
end
def fillO : List (Option AV) → (Nat → AV) → Nat → List AV
  | [], _, _ => []
  | none :: l, o, j => o j :: fillO l o (Nat.succ j)
  | some v :: l, o, j => v :: fillO l o (Nat.succ j)
/-- A frame of which some temporaries alone are known. -/
def frO (l : List (Option AV)) (o : Nat → AV) : Fr := { tmps := Tr.ofList (fillO l o 0) 0 .nil, size := l.length, marks := [], rnd := none }
def Tr.ofOpts {α : Type} : List (Option α) → Nat → Tr α → Tr α
  | [], _, t => t
  | none :: xs, n, t => Tr.ofOpts xs (Nat.succ n) t
  | some x :: xs, n, t => Tr.ofOpts xs (Nat.succ n) (t.set n (some x))
def stC (h : List (Option AObj)) : St := { heap := Tr.ofOpts h 0 .nil, next := h.length }

def wkTmps (s : Nat → Option Nat) (fr1 : Fr) : List (Option AV) → Nat → Option (List Prop)
  | [], _ => some []
  | none :: vs, j => wkTmps s fr1 vs (Nat.succ j)
  | some v :: vs, j => match wkV s v (fr1.get j), wkTmps s fr1 vs (Nat.succ j) with
    | some p, some q => some (p ++ q)
    | _, _ => none
def wkHeap (s : Nat → Option Nat) (g : Nat → Option AObj) : List (Option AObj) → Nat → Option (List Prop)
  | [], _ => some []
  | none :: os, id => wkHeap s g os (Nat.succ id)
  | some o :: os, id => match s id with
    | none => none
    | some i => match g i with
      | none => none
      | some o1 => match wkO s o o1, wkHeap s g os (Nat.succ id) with
        | some p, some q => some (p ++ q)
        | _, _ => none
/-- Where the objects that live lie: no two at one. -/
def apartL : List (Option AObj) → List Nat → List Nat → Bool
  | [], _, _ => true
  | none :: os, [], seen => apartL os [] seen
  | none :: os, _ :: l, seen => apartL os l seen
  | some _ :: _, [], _ => false
  | some _ :: os, i :: l, seen => !(seen.any (Nat.beq i)) && apartL os l (i :: seen)

def isNil {α : Type} : List α → Bool
  | [] => true
  | _ => false
def isNone {α : Type} : Option α → Bool
  | none => true
  | _ => false
def recan (l : List Nat) (fr1 : Fr) (σ1 : St) (L : List (Option AV)) (H : List (Option AObj)) : Option (List Prop) :=
  cond (Nat.beq fr1.size L.length && isNil fr1.marks && isNone fr1.rnd && Nat.ble l.length H.length && apartL H l [])
    (match wkTmps (fun id => l[id]?) fr1 L 0, wkHeap (fun id => l[id]?) σ1.get H 0 with
     | some p, some q => some (p ++ q)
     | _, _ => none) none

def ren (s : Nat → Option Nat) (φ : Phi) : Phi := fun id => match s id with
  | some i => φ i
  | none => none

section
variable {φ : Phi} {s : Nat → Option Nat}
theorem ren_of {i i' : Nat} (h : optIs (s i) i' = true) : ren s φ i = φ i' := by
  unfold ren
  rw [optIs_eq h]
theorem capP_ok {h h' : Bool} {n n' c c' cc : Nat} (hh : (h || !h') = true) (hp : capP h n c c') (hn : n = n') (h1 : n' ≤ c') (h2 : c' ≤ cc) (h3 : h' = false → cc = c') : n ≤ c ∧ c ≤ cc ∧ (h = false → cc = c) := by
  cases h with
  | true =>
    simp only [capP] at hp
    exact ⟨hp.1, by omega, fun h => by cases h⟩
  | false =>
    simp only [capP] at hp
    have : h' = false := by simpa using hh
    have := h3 this
    exact ⟨by omega, by omega, fun _ => by omega⟩

mutual
theorem wkV_ok : ∀ (x y : AV) (ps : List Prop) (v : Value), wkV s x y = some ps → allP ps → VR φ y v → VR (ren s φ) x v
  | x, y, ps, v, h, hp, hv => by
    unfold wkV at h
    split at h
    · simp only [VR]
      split at h
      · cases h
      · rename_i hna
        exact hv.not_agg (fun cs hc => hna cs hc)
    · simp only [Option.some.injEq] at h; subst h
      rw [hp.1]; simpa only [VR] using hv
    · rename_i k a l b
      cases hk : decide (k = l) with
      | false => rw [hk] at h; cases h
      | true =>
        rw [hk] at h
        simp only [cond_true, Option.some.injEq] at h; subst h
        have := of_decide_eq_true hk; subst this
        rw [hp.1]; simpa only [VR] using hv
    · simp only [Option.some.injEq] at h; subst h
      rw [hp.1]; simpa only [VR] using hv
    · rename_i i o i' o'
      cases hk : (optIs (s i) i' && Nat.beq o o') with
      | false => rw [hk] at h; cases h
      | true =>
        simp only [Bool.and_eq_true] at hk
        have := Nat.eq_of_beq_eq_true hk.2; subst this
        simp only [VR] at hv ⊢
        rw [ren_of hk.1]; exact hv
    · simpa only [VR] using hv
    · rename_i i o n c e hh i' o' n' c' e' hh'
      cases hk : (optIs (s i) i' && Nat.beq e e' && (hh || !hh')) with
      | false => rw [hk] at h; cases h
      | true =>
        rw [hk] at h
        simp only [cond_true, Option.some.injEq] at h; subst h
        simp only [Bool.and_eq_true] at hk
        obtain ⟨⟨k1, k2⟩, k3⟩ := hk
        have := Nat.eq_of_beq_eq_true k2; subst this
        obtain ⟨p1, p2, p3, _⟩ := hp
        subst p1; subst p2
        simp only [VR] at hv ⊢
        obtain ⟨l, ad, cc, a1, a2, a3, a4, a5, a6, a7⟩ := hv
        obtain ⟨b1, b2, b3⟩ := capP_ok k3 p3 rfl a3 a4 a5
        exact ⟨l, ad, cc, by rw [ren_of k1]; exact a1, a2, b1, b2, b3, a6, a7⟩
    · rename_i i o n c e hh i' o' n' c' e' hh'
      cases hk : (optIs (s i) i' && Nat.beq e e' && (hh || !hh')) with
      | false => rw [hk] at h; cases h
      | true =>
        rw [hk] at h
        simp only [cond_true, Option.some.injEq] at h; subst h
        simp only [Bool.and_eq_true] at hk
        obtain ⟨⟨k1, k2⟩, k3⟩ := hk
        have := Nat.eq_of_beq_eq_true k2; subst this
        obtain ⟨p1, p2, p3, _⟩ := hp
        subst p1; subst p2
        simp only [VR] at hv ⊢
        obtain ⟨l, ad, cc, a1, a2, a3, a4, a5, a6, a7⟩ := hv
        obtain ⟨b1, b2, b3⟩ := capP_ok k3 p3 rfl a3 a4 a5
        exact ⟨l, ad, cc, by rw [ren_of k1]; exact a1, a2, b1, b2, b3, a6, a7⟩
    · rename_i i o n c e hh i' o' n' c' e' hh'
      cases hk : (optIs (s i) i' && Nat.beq e e' && (hh || !hh')) with
      | false => rw [hk] at h; cases h
      | true =>
        rw [hk] at h
        simp only [cond_true, Option.some.injEq] at h; subst h
        simp only [Bool.and_eq_true] at hk
        obtain ⟨⟨k1, k2⟩, k3⟩ := hk
        have := Nat.eq_of_beq_eq_true k2; subst this
        obtain ⟨p1, p2, p3, _⟩ := hp
        subst p2
        simp only [VR] at hv ⊢
        obtain ⟨l, ad, cc, a1, a2, a3, a4, a5, a6, a7⟩ := hv
        obtain ⟨b1, b2, b3⟩ := capP_ok k3 p3 rfl a3 a4 a5
        exact ⟨l, ad, cc, by rw [ren_of k1]; exact a1, a2, b1, b2, b3, by rw [p1]; exact a6, by rw [p1]; exact a7⟩
    · rename_i i a b e i' a' b' e'
      cases hk : (optIs (s i) i' && Nat.beq b b' && Nat.beq e e') with
      | false => rw [hk] at h; cases h
      | true =>
        rw [hk] at h
        simp only [cond_true, Option.some.injEq] at h; subst h
        simp only [Bool.and_eq_true] at hk
        obtain ⟨⟨k1, k2⟩, k3⟩ := hk
        have := Nat.eq_of_beq_eq_true k2; subst this
        have := Nat.eq_of_beq_eq_true k3; subst this
        rw [hp.1]
        simp only [VR] at hv ⊢
        rw [ren_of k1]; exact hv
    · simpa only [VR] using hv
    · rename_i i i'
      cases hk : optIs (s i) i' with
      | false => rw [hk] at h; cases h
      | true =>
        simp only [VR] at hv ⊢
        rw [ren_of hk]; exact hv
    · simpa only [VR] using hv
    · rename_i f a b g c d
      cases hk : decide (f = g) with
      | false => rw [hk] at h; cases h
      | true =>
        rw [hk] at h
        have := of_decide_eq_true hk; subst this
        simp only [cond_true] at h
        split at h
        · rename_i p q h1 h2
          simp only [Option.some.injEq] at h; subst h
          obtain ⟨p1, p2⟩ := allP_append hp
          simp only [VR] at hv ⊢
          obtain ⟨hn, x', y', e1, e2, e3⟩ := hv
          exact ⟨hn, x', y', e1, wkVs_ok a c p x' h1 p1 e2, wkVs_ok b d q y' h2 p2 e3⟩
        · cases h
    · rename_i i i'
      cases hk : optIs (s i) i' with
      | false => rw [hk] at h; cases h
      | true =>
        simp only [VR] at hv ⊢
        rw [ren_of hk]; exact hv
    · simpa only [VR] using hv
    · rename_i t a u b
      cases hk : Nat.beq t u with
      | false => rw [hk] at h; cases h
      | true =>
        rw [hk] at h
        have := Nat.eq_of_beq_eq_true hk; subst this
        simp only [VR] at hv ⊢
        obtain ⟨y', e1, e2⟩ := hv
        exact ⟨y', e1, wkV_ok a b ps y' h hp e2⟩
    · simpa only [VR] using hv
    · rename_i a b
      simp only [VR] at hv ⊢
      obtain ⟨l, e1, e2⟩ := hv
      exact ⟨l, e1, wkVs_ok a b ps l h hp e2⟩
    · rename_i a b
      simp only [VR] at hv ⊢
      obtain ⟨l, e1, e2⟩ := hv
      exact ⟨l, e1, wkVs_ok a b ps l h hp e2⟩
    · cases h
theorem wkVs_ok : ∀ (x y : List AV) (ps : List Prop) (l : List Value), wkVs s x y = some ps → allP ps → VRL φ y l → VRL (ren s φ) x l
  | [], [], ps, l, _, _, hv => by simpa only [VRL] using hv
  | a :: as, b :: bs, ps, l, h, hp, hv => by
    simp only [wkVs] at h
    split at h
    · rename_i p q h1 h2
      simp only [Option.some.injEq] at h; subst h
      obtain ⟨p1, p2⟩ := allP_append hp
      simp only [VRL] at hv ⊢
      obtain ⟨u, us, e1, e2, e3⟩ := hv
      exact ⟨u, us, e1, wkV_ok a b p u h1 p1 e2, wkVs_ok as bs q us h2 p2 e3⟩
    · cases h
  | [], _ :: _, ps, l, h, _, _ => by simp [wkVs] at h
  | _ :: _, [], ps, l, h, _, _ => by simp [wkVs] at h
end

theorem wkPre_ok : ∀ {x y : List AV} {ps : List Prop}, wkPre s x y = some ps → allP ps → x.length ≤ y.length ∧ ∀ (j : Nat) (a : AV), x[j]? = some a → ∃ b q, y[j]? = some b ∧ wkV s a b = some q ∧ allP q
  | [], y, ps, _, _ => ⟨by simp, fun j a h => by simp at h⟩
  | a :: as, b :: bs, ps, h, hp => by
    simp only [wkPre] at h
    split at h
    · rename_i p q h1 h2
      simp only [Option.some.injEq] at h; subst h
      obtain ⟨p1, p2⟩ := allP_append hp
      obtain ⟨k1, k2⟩ := wkPre_ok h2 p2
      refine ⟨by simp; omega, fun j c hj => ?_⟩
      cases j with
      | zero => simp at hj; subst hj; exact ⟨b, p, rfl, h1, p1⟩
      | succ j => simpa using k2 j c (by simpa using hj)
    · cases h
  | a :: as, [], ps, h, _ => by simp [wkPre] at h

theorem wkEs_ok : ∀ {x y : List (AV × AV × Nat)} {ps : List Prop}, wkEs s x y = some ps → allP ps → x.length = y.length ∧ ∀ (j : Nat) (a : AV × AV × Nat), x[j]? = some a → ∃ b, y[j]? = some b ∧ a.2.2 = b.2.2 ∧
    (∃ q, wkV s a.1 b.1 = some q ∧ allP q) ∧ ∃ q, wkV s a.2.1 b.2.1 = some q ∧ allP q
  | [], [], ps, _, _ => ⟨rfl, fun j a h => by simp at h⟩
  | (k, v, c) :: as, (k', v', c') :: bs, ps, h, hp => by
    simp only [wkEs] at h
    cases hc : Nat.beq c c' with
    | false => rw [hc] at h; cases h
    | true =>
      rw [hc] at h
      have := Nat.eq_of_beq_eq_true hc; subst this
      simp only [cond_true] at h
      split at h
      · rename_i p q r h1 h2 h3
        simp only [Option.some.injEq] at h; subst h
        obtain ⟨p1, p23⟩ := allP_append hp
        obtain ⟨p2, p3⟩ := allP_append p23
        obtain ⟨k1, k2⟩ := wkEs_ok h3 p3
        refine ⟨by simp [k1], fun j d hj => ?_⟩
        cases j with
        | zero => simp at hj; subst hj; exact ⟨_, rfl, rfl, ⟨p, h1, p1⟩, ⟨q, h2, p2⟩⟩
        | succ j => simpa using k2 j d (by simpa using hj)
      · cases h
  | [], _ :: _, ps, h, _ => by simp [wkEs] at h
  | _ :: _, [], ps, h, _ => by simp [wkEs] at h

theorem wkO_rw {o o1 : AObj} {ps : List Prop} (h : wkO s o o1 = some ps) : o.rw = o1.rw := by
  unfold wkO at h
  split at h
  · rename_i vs rw_ us rw'
    cases hk : (rw_ == rw') with
    | false => rw [hk] at h; cases h
    | true => exact eq_of_beq hk
  · rename_i sh n f rw_ sh' n' f' rw'
    cases hk : (shBeq sh sh' && (rw_ == rw')) with
    | false => rw [hk] at h; cases h
    | true =>
      simp only [Bool.and_eq_true] at hk
      exact eq_of_beq hk.2
  · rename_i sh n f rw_ us rw'
    cases hk : (rw_ == rw') with
    | false => rw [hk] at h; cases h
    | true => exact eq_of_beq hk
  · rfl
  · cases h

theorem pre_cells {w : World} {l : Loc} {vs us : List AV} {rw_ : Bool} {ps : List Prop} (h : wkPre s vs us = some ps) (hp : allP ps) (hc : CellsR φ w l us rw_) : CellsR (ren s φ) w l vs rw_ := by
  obtain ⟨k1, k2⟩ := wkPre_ok h hp
  obtain ⟨c1, c2, c3⟩ := hc
  refine ⟨fun j x hj => ?_, by omega, c3⟩
  obtain ⟨b, q, e1, e2, e3⟩ := k2 j x hj
  obtain ⟨v, d1, d2⟩ := c1 j b e1
  exact ⟨v, d1, wkV_ok x b q v e2 e3 d2⟩

theorem wkO_ok {w : World} {l : Loc} {o o1 : AObj} {ps : List Prop} (h : wkO s o o1 = some ps) (hp : allP ps) (hO : ObjR φ w l o1) : ObjR (ren s φ) w l o := by
  unfold wkO at h
  split at h
  · rename_i vs rw_ us rw'
    cases hk : (rw_ == rw') with
    | false => rw [hk] at h; cases h
    | true =>
      rw [hk] at h
      have := eq_of_beq hk; subst this
      exact pre_cells h hp hO
  · rename_i sh n f rw_ sh' n' f' rw'
    cases hk : (shBeq sh sh' && (rw_ == rw')) with
    | false => rw [hk] at h; cases h
    | true =>
      rw [hk] at h
      simp only [cond_true, Option.some.injEq] at h; subst h
      simp only [Bool.and_eq_true] at hk
      have := shBeq_eq hk.1; subst this
      have := eq_of_beq hk.2; subst this
      obtain ⟨p1, p2, _⟩ := hp
      have hO : CellsR φ w l (tcells sh f' 0 n') rw_ := hO
      obtain ⟨c1, c2, c3⟩ := hO
      rw [tcells_length] at c2
      have hm : n * sh.length ≤ n' * sh.length := Nat.mul_le_mul_right _ p1
      refine ⟨fun j x hj => ?_, by rw [tcells_length]; omega, c3⟩
      have hlt := (List.getElem?_eq_some_iff.1 hj).1
      rw [tcells_length] at hlt
      obtain ⟨q1, q2, q3⟩ := split_lt hlt
      have hj' := hj
      rw [q3, tcells_get q1 q2, p2 _ _ q1] at hj'
      have hold : (tcells sh f' 0 n')[j]? = some x := by
        rw [q3, tcells_get (by omega) q2]; exact hj'
      obtain ⟨v, d1, d2⟩ := c1 j x hold
      refine ⟨v, d1, ?_⟩
      injection hj' with hj'
      rw [← hj'] at d2 ⊢
      generalize sh[j % sh.length] = q at d2 ⊢
      cases q <;> simpa only [view, VR] using d2
  · rename_i sh n f rw_ us rw'
    cases hk : (rw_ == rw') with
    | false => rw [hk] at h; cases h
    | true =>
      rw [hk] at h
      have := eq_of_beq hk; subst this
      exact pre_cells h hp hO
  · rename_i es c es' c'
    cases hk : Nat.beq c c' with
    | false => rw [hk] at h; cases h
    | true =>
      rw [hk] at h
      have := Nat.eq_of_beq_eq_true hk; subst this
      obtain ⟨ms, m1, m2, m3⟩ := hO
      obtain ⟨k1, k2⟩ := wkEs_ok h hp
      refine ⟨ms, m1, by rw [k1]; exact m2, fun j e he => ?_⟩
      obtain ⟨b, e1, e2, ⟨q, q1, q2⟩, ⟨q', q3, q4⟩⟩ := k2 j e he
      obtain ⟨m, d1, d2, d3, d4⟩ := m3 j b e1
      exact ⟨m, d1, wkV_ok _ _ _ _ q1 q2 d2, wkV_ok _ _ _ _ q3 q4 d3, by rw [e2]; exact d4⟩
  · cases h

theorem ofOpts_get {α : Type} : ∀ (xs : List (Option α)) (i : Nat) (t : Tr α) (j : Nat), (∀ k, i ≤ k → t.get k = none) → (Tr.ofOpts xs i t).get j = if i ≤ j then (match xs[j - i]? with | some o => o | none => none) else t.get j
  | [], i, t, j, h => by
    simp only [Tr.ofOpts]
    by_cases hj : i ≤ j
    · rw [if_pos hj, h j hj]; simp
    · rw [if_neg hj]
  | none :: xs, i, t, j, h => by
    have e : Nat.succ i = i + 1 := rfl
    simp only [Tr.ofOpts]
    rw [ofOpts_get xs _ _ _ (fun k hk => h k (by omega)), e]
    by_cases hj : i + 1 ≤ j
    · rw [if_pos hj, if_pos (by omega)]
      obtain ⟨d, rfl⟩ : ∃ d, j = i + 1 + d := ⟨j - (i + 1), by omega⟩
      rw [show i + 1 + d - (i + 1) = d by omega, show i + 1 + d - i = d + 1 by omega]; rfl
    · rw [if_neg hj]
      by_cases hji : i ≤ j
      · have : j = i := by omega
        subst this
        rw [if_pos (by omega), h j (by omega), Nat.sub_self]; rfl
      · rw [if_neg hji]
  | some x :: xs, i, t, j, h => by
    have e : Nat.succ i = i + 1 := rfl
    simp only [Tr.ofOpts]
    rw [ofOpts_get xs _ _ _ (fun k hk => by rw [Tr.get_set, if_neg (by omega)]; exact h k (by omega)), e]
    by_cases hj : i + 1 ≤ j
    · rw [if_pos hj, if_pos (by omega)]
      obtain ⟨d, rfl⟩ : ∃ d, j = i + 1 + d := ⟨j - (i + 1), by omega⟩
      rw [show i + 1 + d - (i + 1) = d by omega, show i + 1 + d - i = d + 1 by omega]; rfl
    · rw [if_neg hj, Tr.get_set]
      by_cases hji : i ≤ j
      · have : j = i := by omega
        subst this
        rw [if_pos rfl, if_pos (by omega), Nat.sub_self]; rfl
      · rw [if_neg hji, if_neg (by omega)]
theorem stC_get (H : List (Option AObj)) (j : Nat) : (stC H).get j = (match H[j]? with | some o => o | none => none) := by
  show (Tr.ofOpts H 0 .nil).get j = _
  rw [ofOpts_get H 0 .nil j (fun _ _ => rfl), if_pos (Nat.zero_le _), Nat.sub_zero]
  cases H[j]? <;> rfl

theorem wkTmps_ok {fr1 : Fr} : ∀ {vs : List (Option AV)} {j : Nat} {ps : List Prop}, wkTmps s fr1 vs j = some ps → allP ps → ∀ (k : Nat) (v : AV), vs[k]? = some (some v) → ∃ q, wkV s v (fr1.get (j + k)) = some q ∧ allP q
  | [], j, ps, _, _, k, v, h => by simp at h
  | none :: vs, j, ps, h, hp, k, v, hk => by
    simp only [wkTmps] at h
    cases k with
    | zero => simp at hk
    | succ k =>
      have := wkTmps_ok h hp k v (by simpa using hk)
      rw [show Nat.succ j + k = j + (k + 1) by omega] at this
      exact this
  | some u :: vs, j, ps, h, hp, k, v, hk => by
    simp only [wkTmps] at h
    split at h
    · rename_i p q h1 h2
      simp only [Option.some.injEq] at h; subst h
      obtain ⟨p1, p2⟩ := allP_append hp
      cases k with
      | zero => simp at hk; subst hk; exact ⟨p, h1, p1⟩
      | succ k =>
        have := wkTmps_ok h2 p2 k v (by simpa using hk)
        rw [show Nat.succ j + k = j + (k + 1) by omega] at this
        exact this
    · cases h
theorem wkHeap_ok {g : Heap} : ∀ {os : List (Option AObj)} {j : Nat} {ps : List Prop}, wkHeap s g os j = some ps → allP ps → ∀ (k : Nat) (o : AObj), os[k]? = some (some o) → ∃ i o1 q, s (j + k) = some i ∧ g i = some o1 ∧ wkO s o o1 = some q ∧ allP q
  | [], j, ps, _, _, k, v, h => by simp at h
  | none :: os, j, ps, h, hp, k, o, hk => by
    simp only [wkHeap] at h
    cases k with
    | zero => simp at hk
    | succ k =>
      have := wkHeap_ok h hp k o (by simpa using hk)
      rw [show Nat.succ j + k = j + (k + 1) by omega] at this
      exact this
  | some u :: os, j, ps, h, hp, k, o, hk => by
    simp only [wkHeap] at h
    split at h
    · cases h
    · rename_i i hi
      split at h
      · cases h
      · rename_i o1 hg
        split at h
        · rename_i p q h1 h2
          simp only [Option.some.injEq] at h; subst h
          obtain ⟨p1, p2⟩ := allP_append hp
          cases k with
          | zero => simp at hk; subst hk; exact ⟨i, o1, p, hi, hg, h1, p1⟩
          | succ k =>
            have := wkHeap_ok h2 p2 k o (by simpa using hk)
            rw [show Nat.succ j + k = j + (k + 1) by omega] at this
            exact this
        · cases h
theorem apartL_ok : ∀ {os : List (Option AObj)} {l seen : List Nat}, apartL os l seen = true → (∀ (k : Nat) (o : AObj) (i : Nat), os[k]? = some (some o) → l[k]? = some i → ¬ i ∈ seen) ∧
    ∀ (j k : Nat) (o o' : AObj) (i i' : Nat), j ≠ k → os[j]? = some (some o) → os[k]? = some (some o') → l[j]? = some i → l[k]? = some i' → i ≠ i'
  | [], l, seen, _ => ⟨fun k o i h => by simp at h, fun j k o o' i i' _ h => by simp at h⟩
  | none :: os, [], seen, h => by
    refine ⟨fun k o i _ h => by simp at h, fun j k o o' i i' _ _ _ h => by simp at h⟩
  | none :: os, a :: l, seen, h => by
    simp only [apartL] at h
    obtain ⟨h1, h2⟩ := apartL_ok h
    refine ⟨fun k o i hk hl => ?_, fun j k o o' i i' hjk hj hk hl hl' => ?_⟩
    · cases k with
      | zero => simp at hk
      | succ k => exact h1 k o i (by simpa using hk) (by simpa using hl)
    · cases j with
      | zero => simp at hj
      | succ j =>
        cases k with
        | zero => simp at hk
        | succ k => exact h2 j k o o' i i' (by omega) (by simpa using hj) (by simpa using hk) (by simpa using hl) (by simpa using hl')
  | some _ :: os, [], seen, h => by simp [apartL] at h
  | some u :: os, a :: l, seen, h => by
    simp only [apartL, Bool.and_eq_true, Bool.not_eq_true'] at h
    obtain ⟨h0, h⟩ := h
    obtain ⟨h1, h2⟩ := apartL_ok h
    have ha : ¬ a ∈ seen := fun hm => by
      have : seen.any (Nat.beq a) = true := List.any_eq_true.2 ⟨a, hm, Nat.beq_refl a⟩
      rw [this] at h0; cases h0
    refine ⟨fun k o i hk hl => ?_, fun j k o o' i i' hjk hj hk hl hl' => ?_⟩
    · cases k with
      | zero => simp at hl; subst hl; exact ha
      | succ k => exact fun hm => h1 k o i (by simpa using hk) (by simpa using hl) (List.mem_cons_of_mem _ hm)
    · cases j with
      | zero =>
        cases k with
        | zero => exact absurd rfl hjk
        | succ k =>
          simp at hl; subst hl
          exact fun e => h1 k o' i' (by simpa using hk) (by simpa using hl') (by rw [e]; exact List.mem_cons_self)
      | succ j =>
        cases k with
        | zero =>
          simp at hl'; subst hl'
          exact fun e => h1 j o i (by simpa using hj) (by simpa using hl) (by rw [e]; exact List.mem_cons_self)
        | succ k => exact h2 j k o o' i i' (by omega) (by simpa using hj) (by simpa using hk) (by simpa using hl) (by simpa using hl')
end

mutual
theorem blur_ok {φ φ' : Phi} : ∀ (x : AV) (v : Value), VR φ x v → VR φ' (blur x) v
  | .agg cs, v, h => by
    simp only [blur, VR] at h ⊢
    obtain ⟨l, h1, h2⟩ := h
    exact ⟨l, h1, blurs_ok cs l h2⟩
  | .bool _, v, h => by simp only [blur, VR]; exact h.not_agg (fun _ h => by cases h)
  | .int _ _, v, h => by simp only [blur, VR]; exact h.not_agg (fun _ h => by cases h)
  | .str _, v, h => by simp only [blur, VR]; exact h.not_agg (fun _ h => by cases h)
  | .ptr _ _, v, h => by simp only [blur, VR]; exact h.not_agg (fun _ h => by cases h)
  | .nilPtr, v, h => by simp only [blur, VR]; exact h.not_agg (fun _ h => by cases h)
  | .slice _ _ _ _ _ _, v, h => by simp only [blur, VR]; exact h.not_agg (fun _ h => by cases h)
  | .tptr _ _ _ _, v, h => by simp only [blur, VR]; exact h.not_agg (fun _ h => by cases h)
  | .tsl _ _ _ _ _ _, v, h => by simp only [blur, VR]; exact h.not_agg (fun _ h => by cases h)
  | .nilSlice, v, h => by simp only [blur, VR]; exact h.not_agg (fun _ h => by cases h)
  | .map _, v, h => by simp only [blur, VR]; exact h.not_agg (fun _ h => by cases h)
  | .nilMap, v, h => by simp only [blur, VR]; exact h.not_agg (fun _ h => by cases h)
  | .func _ _ _, v, h => by simp only [blur, VR]; exact h.not_agg (fun _ h => by cases h)
  | .yld _, v, h => by simp only [blur, VR]; exact h.not_agg (fun _ h => by cases h)
  | .nilFunc, v, h => by simp only [blur, VR]; exact h.not_agg (fun _ h => by cases h)
  | .iface _ _, v, h => by simp only [blur, VR]; exact h.not_agg (fun _ h => by cases h)
  | .nilIface, v, h => by simp only [blur, VR]; exact h.not_agg (fun _ h => by cases h)
  | .tuple _, v, h => by simp only [blur, VR]; exact h.not_agg (fun _ h => by cases h)
  | .bad, v, h => by simp only [blur, VR]; exact h.not_agg (fun _ h => by cases h)
theorem blurs_ok {φ φ' : Phi} : ∀ (x : List AV) (l : List Value), VRL φ x l → VRL φ' (blurs x) l
  | [], l, h => by simpa only [blurs, VRL] using h
  | x :: xs, l, h => by
    simp only [blurs, VRL] at h ⊢
    obtain ⟨y, ys, h1, h2, h3⟩ := h
    exact ⟨y, ys, h1, blur_ok x y h2, blurs_ok xs ys h3⟩
end
theorem fillO_length : ∀ (l : List (Option AV)) (o : Nat → AV) (j : Nat), (fillO l o j).length = l.length
  | [], _, _ => rfl
  | none :: l, o, j => by simp [fillO, fillO_length l]
  | some _ :: l, o, j => by simp [fillO, fillO_length l]
theorem fillO_at : ∀ (l : List (Option AV)) (o : Nat → AV) (j k : Nat), k < l.length → (fillO l o j)[k]? = (match l[k]? with | some (some v) => some v | _ => some (o (j + k)))
  | [], _, _, k, h => by simp at h
  | none :: l, o, j, 0, h => by simp [fillO]
  | some _ :: l, o, j, 0, h => by simp [fillO]
  | none :: l, o, j, k + 1, h => by
    simp only [fillO, List.getElem?_cons_succ]
    rw [fillO_at l o _ k (by simpa using h), show Nat.succ j + k = j + (k + 1) by omega]
  | some _ :: l, o, j, k + 1, h => by
    simp only [fillO, List.getElem?_cons_succ]
    rw [fillO_at l o _ k (by simpa using h), show Nat.succ j + k = j + (k + 1) by omega]

/-! ### At a state -/
def At (w0 : World) (fr : Fr) (σ : St) (r : Option Nat) (a : Act) (w : World) : Prop := ∃ φ, Rel w0 φ σ.get σ.next w ∧ FrR φ fr a r

def AtO (w0 : World) (L : List (Option AV)) (H : List (Option AObj)) (r : Option Nat) (a : Act) (w : World) : Prop := ∃ o, At w0 (frO L o) (stC H) r a w
section
variable {P : Program} {E : Env} {w0 w w' : World} {φ φ' : Phi} {g : Heap} {n : Nat} {σ σ' σ1 : St} {fr fr' fr1 : Fr} {a : Act} {r : Option Nat} {F : Fence}

theorem recan_at {l : List Nat} {L : List (Option AV)} {H : List (Option AObj)} {ps : List Prop} (h : recan l fr1 σ1 L H = some ps) (hp : allP ps) (hA : At w0 fr1 σ1 r a w) : AtO w0 L H r a w := by
  unfold recan at h
  cases hk : (Nat.beq fr1.size L.length && isNil fr1.marks && isNone fr1.rnd && Nat.ble l.length H.length && apartL H l []) with
  | false => rw [hk] at h; cases h
  | true =>
    rw [hk] at h
    simp only [cond_true] at h
    simp only [Bool.and_eq_true] at hk
    obtain ⟨⟨⟨⟨k1, k2⟩, k3⟩, k4⟩, k5⟩ := hk
    have hsz := Nat.eq_of_beq_eq_true k1
    have hll := Nat.le_of_ble_eq_true k4
    have hm : fr1.marks = [] := by
      cases hm : fr1.marks with
      | nil => rfl
      | cons _ _ => rw [hm] at k2; cases k2
    have hr : fr1.rnd = none := by
      cases hm : fr1.rnd with
      | none => rfl
      | some _ => rw [hm] at k3; cases k3
    split at h
    · rename_i p q h1 h2
      simp only [Option.some.injEq] at h; subst h
      obtain ⟨p1, p2⟩ := allP_append hp
      obtain ⟨φ, hR, hF⟩ := hA
      have hap := (apartL_ok k5).2
      have hobj : ∀ id o, (stC H).get id = some o → H[id]? = some (some o) := by
        intro id o ho
        rw [stC_get] at ho
        split at ho
        · rename_i x hx; rw [hx, ho]
        · cases ho
      refine ⟨fun j => blur (fr1.get j), ren (fun id => l[id]?) φ, ⟨?_, ?_, ?_, ?_, ?_, hR.below⟩, ⟨?_, ?_, ?_⟩⟩
      · intro id o lo ho hlo
        obtain ⟨i, o1, qq, e1, e2, e3, e4⟩ := wkHeap_ok h2 p2 id o (hobj _ _ ho)
        rw [Nat.zero_add] at e1
        simp only [ren, e1] at hlo
        exact wkO_ok e3 e4 (hR.objs i o1 lo e2 hlo)
      · intro id o lo ho hlo
        obtain ⟨i, o1, qq, e1, e2, e3, e4⟩ := wkHeap_ok h2 p2 id o (hobj _ _ ho)
        rw [Nat.zero_add] at e1
        simp only [ren, e1] at hlo
        rw [wkO_rw e3]
        exact hR.own i o1 lo e2 hlo
      · intro i j oi oj li lj hij hi hj hli hlj hrw
        obtain ⟨i', oi', qi, a1, a2, a3, a4⟩ := wkHeap_ok h2 p2 i oi (hobj _ _ hi)
        obtain ⟨j', oj', qj, b1, b2, b3, b4⟩ := wkHeap_ok h2 p2 j oj (hobj _ _ hj)
        rw [Nat.zero_add] at a1 b1
        simp only [ren, a1] at hli
        simp only [ren, b1] at hlj
        rw [wkO_rw a3] at hrw
        exact hR.inj i' j' oi' oj' li lj (hap i j oi oj i' j' hij (hobj _ _ hi) (hobj _ _ hj) a1 b1) a2 b2 hli hlj hrw
      · intro id hid
        have hid : H.length ≤ id := hid
        simp only [ren, List.getElem?_eq_none (show l.length ≤ id by omega)]
      · intro id hid
        have hid : H.length ≤ id := hid
        rw [stC_get, List.getElem?_eq_none hid]
      · obtain ⟨t1, t2⟩ := hF.tmps
        refine ⟨by show a.tmps.size = L.length; omega, fun j => ?_⟩
        show VR _ (match (Tr.ofList (fillO L _ 0) 0 .nil).get j with | some v => v | none => .undef) _
        rw [ofList_get, fillO_length]
        by_cases hj : j < L.length
        · rw [if_pos (by omega), Nat.sub_zero, fillO_at _ _ _ _ hj, List.getElem?_eq_getElem hj]
          cases hLj : L[j] with
          | some v =>
            obtain ⟨qq, e1, e2⟩ := wkTmps_ok h1 p1 j v (by rw [List.getElem?_eq_getElem hj, hLj])
            rw [Nat.zero_add] at e1
            exact wkV_ok _ _ _ _ e1 e2 (hF.get_ j)
          | none =>
            simp only [Nat.zero_add]
            exact blur_ok _ _ (hF.get_ j)
        · rw [if_neg (by omega)]
          have : a.tmps.getD j undef = undef := by
            rw [Array.getD_eq_getD_getElem?, Array.getElem?_eq_none (by omega)]; rfl
          rw [this]
          exact VR.undef_
      · have := hF.defs
        rw [hm] at this
        exact this
      · have := hF.rnd
        rw [hr] at this
        exact this
    · cases h

theorem ev_at (hE : EnvOK P E) (hI : IntrOK P w0 E) {m : Nat} {c : Code} {e : Ex} (h : ev E m (.code c fr) σ = some (.ex e fr', σ')) (hA : At w0 fr σ r a w) :
    c.wpIn (fen r) n P (fun x a' w' => x = e.out ∧ At w0 fr' σ' r a' w') a w := by
  obtain ⟨φ, hR, hF⟩ := hA
  have hj := ev_sound hE hI m _ _ _ _ h
  refine wpIn_mono (hj n r φ w a hR hF).1 fun x a' w' hq => ?_
  obtain ⟨rfl, φ', h2, h3, h4⟩ := hq
  exact ⟨rfl, φ', h3, h2⟩

/-- One path through code, from one wanted form to another. -/
def exIs : Ex → Ex → Bool
  | .normal, .normal => true
  | .exit a, .exit b => Nat.beq a b
  | .goto a, .goto b => Nat.beq a b
  | .ret, .ret => true
  | _, _ => false
theorem exIs_eq {a b : Ex} (h : exIs a b = true) : a = b := by
  cases a <;> cases b <;> simp [exIs] at h <;> first | rfl | (rw [h])
def pathB (E : Env) (m : Nat) (c : Code) (fr : Fr) (σ : St) (t : Tape) (ex : Ex) (l : List Nat) (L : List (Option AV)) (H : List (Option AObj)) : Option (List Prop) :=
  match evA E m (.code c fr) σ t with
  | some ((.ex e fr1, σ1), _, obl) => cond (exIs e ex) (match recan l fr1 σ1 L H with
    | some ps => some (oblP obl ++ ps)
    | none => none) none
  | _ => none
theorem path_at (hE : EnvOK P E) (hI : IntrOK P w0 E) {m : Nat} {c : Code} {t : Tape} {ex : Ex} {l : List Nat} {L : List (Option AV)} {H : List (Option AObj)} {ps : List Prop} (h : pathB E m c fr σ t ex l L H = some ps) (hp : allP ps) (hA : At w0 fr σ r a w) :
    c.wpIn (fen r) n P (fun x a' w' => x = ex.out ∧ AtO w0 L H r a' w') a w := by
  unfold pathB at h
  split at h
  · rename_i e fr1 σ1 t' obl hev
    cases he : exIs e ex with
    | false => rw [he] at h; cases h
    | true =>
      rw [he] at h
      have := exIs_eq he; subst this
      simp only [cond_true] at h
      split at h
      · rename_i qs hq
        simp only [Option.some.injEq] at h; subst h
        obtain ⟨p1, p2⟩ := allP_append hp
        refine wpIn_mono (ev_at hE hI (evA_ev hev (oblP_all p1)) hA) fun x a' w' hx => ?_
        exact ⟨hx.1, recan_at hq p2 hx.2⟩
      · cases h
  · cases h

/-! ### Loops -/
theorem loop_at {X : Type} {c : Code} {Q : Exit → Act → World → Prop} (C : X → Act → World → Prop) (Inv : X → Prop) (μ : X → Nat)
    (step : ∀ x, Inv x → ∀ a w, C x a w → c.wpIn F n P (fun e a' w' => (e = .normal ∧ ∃ x', Inv x' ∧ μ x' < μ x ∧ C x' a' w') ∨ (e ≠ .normal ∧ Q e a' w')) a w) :
    ∀ x, Inv x → ∀ a w, C x a w → (Code.loop c).wpIn F n P Q a w := by
  have key : ∀ k x, μ x ≤ k → Inv x → ∀ a w, C x a w → LoopIn F n P c Q a w := by
    intro k
    induction k with
    | zero =>
      intro x hx hi a w hc
      refine loopIn_of (wpIn_mono (step x hi a w hc) fun e a' w' hq => ?_)
      rcases hq with ⟨rfl, x', _, h2, _⟩ | ⟨h1, h2⟩
      · omega
      · cases e with
        | normal => exact absurd rfl h1
        | _ => exact h2
    | succ k ih =>
      intro x hx hi a w hc
      refine loopIn_of (wpIn_mono (step x hi a w hc) fun e a' w' hq => ?_)
      rcases hq with ⟨rfl, x', h1, h2, h3⟩ | ⟨h1, h2⟩
      · exact ih x' (by omega) h1 a' w' h3
      · cases e with
        | normal => exact absurd rfl h1
        | _ => exact h2
  exact fun x hi a w hc => wpIn_loopIn (key _ x (Nat.le_refl _) hi a w hc)

/-! ### Code as a row of codes -/
def flat : Code → List Code
  | .seq a b => flat a ++ flat b
  | c => [c]
def seqs : List Code → Code
  | [] => .skip
  | c :: cs => .seq c (seqs cs)
def codeOf (E : Env) (f : Nat) : List Code := match E.fn.get f with
  | some fn => match fn.body with
    | some c => flat c
    | none => []
  | none => []
def loopOf (l : List Code) (k : Nat) : Code := match l[k]? with
  | some (.block _ (.loop b)) => b
  | _ => .skip
def lwp (F : Fence) (n : Nat) (P : Program) : List Code → (Exit → Act → World → Prop) → Act → World → Prop
  | [], Q => Q .normal
  | c :: cs, Q => c.wpIn F n P (Exit.then (lwp F n P cs Q) Q)
theorem then_then {A Q : Exit → Act → World → Prop} {B : Act → World → Prop} : ∀ e a w, Exit.then B (Exit.then B Q) e a w → Exit.then B Q e a w := by
  intro e a w h
  cases e <;> exact h
theorem lwp_append : ∀ (xs ys : List Code) (Q : Exit → Act → World → Prop) (a : Act) (w : World), lwp F n P (xs ++ ys) Q a w → lwp F n P xs (Exit.then (lwp F n P ys Q) Q) a w
  | [], ys, Q, a, w, h => h
  | x :: xs, ys, Q, a, w, h => by
    refine wpIn_mono h fun e a' w' hq => ?_
    cases e with
    | normal => exact lwp_append xs ys Q a' w' hq
    | _ => exact hq
theorem lwp_flat : ∀ (c : Code) (Q : Exit → Act → World → Prop) (a : Act) (w : World), lwp F n P (flat c) Q a w → c.wpIn F n P Q a w
  | .seq x y, Q, a, w, h => by
    refine wpIn_seq ?_
    have h := lwp_append _ _ _ _ _ h
    refine wpIn_mono (lwp_flat x _ a w h) fun e a' w' hq => ?_
    cases e with
    | normal => exact lwp_flat y Q a' w' hq
    | _ => exact hq
  | .skip, Q, a, w, h => wpIn_mono h fun e a' w' hq => by cases e <;> exact hq
  | .label _, Q, a, w, h => wpIn_mono h fun e a' w' hq => by cases e <;> exact hq
  | .exit _, Q, a, w, h => wpIn_mono h fun e a' w' hq => by cases e <;> exact hq
  | .goto _, Q, a, w, h => wpIn_mono h fun e a' w' hq => by cases e <;> exact hq
  | .ret, Q, a, w, h => wpIn_mono h fun e a' w' hq => by cases e <;> exact hq
  | .refuse _, Q, a, w, h => wpIn_mono h fun e a' w' hq => by cases e <;> exact hq
  | .region _ _ _, Q, a, w, h => wpIn_mono h fun e a' w' hq => by cases e <;> exact hq
  | .cond _ _ _, Q, a, w, h => wpIn_mono h fun e a' w' hq => by cases e <;> exact hq
  | .block _ _, Q, a, w, h => wpIn_mono h fun e a' w' hq => by cases e <;> exact hq
  | .loop _, Q, a, w, h => wpIn_mono h fun e a' w' hq => by cases e <;> exact hq
  | .scope _, Q, a, w, h => wpIn_mono h fun e a' w' hq => by cases e <;> exact hq
  | .rangeFunc _ _ _ _, Q, a, w, h => wpIn_mono h fun e a' w' hq => by cases e <;> exact hq
theorem lwp_mono {Q Q' : Exit → Act → World → Prop} (h : ∀ e a w, Q e a w → Q' e a w) : ∀ (xs : List Code) (a : Act) (w : World), lwp F n P xs Q a w → lwp F n P xs Q' a w
  | [], a, w, hl => h _ _ _ hl
  | x :: xs, a, w, hl => by
    refine wpIn_mono hl fun e a' w' hq => ?_
    cases e with
    | normal => exact lwp_mono h xs a' w' hq
    | _ => exact h _ _ _ hq
theorem lwp_join {Q : Exit → Act → World → Prop} {ys : List Code} : ∀ (xs : List Code) (a : Act) (w : World), lwp F n P xs (Exit.then (lwp F n P ys Q) Q) a w → lwp F n P (xs ++ ys) Q a w
  | [], a, w, h => h
  | x :: xs, a, w, h => by
    refine wpIn_mono h fun e a' w' hq => ?_
    cases e with
    | normal => exact lwp_join xs a' w' hq
    | _ => exact hq
theorem lwp_ev (hE : EnvOK P E) (hI : IntrOK P w0 E) {e : Ex} : ∀ (xs : List Code) (m : Nat) (fr : Fr) (σ : St) (a : Act) (w : World), ev E m (.code (seqs xs) fr) σ = some (.ex e fr', σ') → At w0 fr σ r a w →
    lwp (fen r) n P xs (fun x a' w' => x = e.out ∧ At w0 fr' σ' r a' w') a w
  | [], m, fr, σ, a, w, h, hA => by
    cases m with
    | zero => cases h
    | succ m =>
      simp only [seqs, ev, Option.some.injEq, Prod.mk.injEq, Out.ex.injEq] at h
      obtain ⟨⟨rfl, rfl⟩, rfl⟩ := h
      exact ⟨rfl, hA⟩
  | x :: xs, m, fr, σ, a, w, h, hA => by
    cases m with
    | zero => cases h
    | succ m =>
      simp only [seqs, ev] at h
      split at h
      · rename_i fr1 σ1 h1
        refine wpIn_mono (ev_at hE hI h1 hA) fun y a' w' hq => ?_
        obtain ⟨rfl, hA'⟩ := hq
        exact lwp_ev hE hI xs m fr1 σ1 a' w' h hA'
      · rename_i e1 fr1 σ1 hne h1
        simp only [Option.some.injEq, Prod.mk.injEq, Out.ex.injEq] at h
        obtain ⟨⟨rfl, rfl⟩, rfl⟩ := h
        refine wpIn_mono (ev_at hE hI h1 hA) fun y a' w' hq => ?_
        obtain ⟨rfl, hA'⟩ := hq
        cases e1 with
        | normal => exact (hne rfl).elim
        | exit id => exact ⟨rfl, hA'⟩
        | goto l => exact ⟨rfl, hA'⟩
        | ret => exact ⟨rfl, hA'⟩
      · cases h
theorem lwp_path (hE : EnvOK P E) (hI : IntrOK P w0 E) {m : Nat} {xs : List Code} {t : Tape} {ex : Ex} {l : List Nat} {L : List (Option AV)} {H : List (Option AObj)} {ps : List Prop} (h : pathB E m (seqs xs) fr σ t ex l L H = some ps) (hp : allP ps) (hA : At w0 fr σ r a w) :
    lwp (fen r) n P xs (fun x a' w' => x = ex.out ∧ AtO w0 L H r a' w') a w := by
  unfold pathB at h
  split at h
  · rename_i e fr1 σ1 t' obl hev
    cases he : exIs e ex with
    | false => rw [he] at h; cases h
    | true =>
      rw [he] at h
      have := exIs_eq he; subst this
      simp only [cond_true] at h
      split at h
      · rename_i qs hq
        simp only [Option.some.injEq] at h; subst h
        obtain ⟨p1, p2⟩ := allP_append hp
        refine lwp_mono (fun x a' w' hx => ?_) _ _ _ (lwp_ev hE hI xs m fr σ a w (evA_ev hev (oblP_all p1)) hA)
        exact ⟨hx.1, recan_at hq p2 hx.2⟩
      · cases h
  · cases h

/-- A call of which the body was walked. -/
theorem calls_at (hE : EnvOK P E) {f : FuncId} {fn : Func} {c : Code} {args : List AV} {us : List Value} {k : Nat} {R : Ending → World → Prop} (hfn : E.fn.get f = some fn) (hb : fn.body = some c) (hle : args.length ≤ fn.ntmps)
    (hR : Rel w0 φ σ.get σ.next w) (hus : VRL φ args us)
    (hcode : ∀ a, At w0 { tmps := Tr.ofList args 0 .nil, size := fn.ntmps, marks := [], rnd := none } σ none a w → c.wpIn (fen none) k P (fun x a' w' => (x = .normal ∨ x = .ret) ∧ ∃ fr' σ' σ2 v, At w0 fr' σ' none a' w' ∧ amarks fr'.marks σ' = some σ2 ∧
      aresults E fr' σ2.get fn.results.toList = some v ∧ ∀ φ' u w'', VR φ' v u → Rel w0 φ' σ2.get σ2.next w'' → R (.returned u) w'') a w) :
    CallsIn (fen none) k P f us.toArray w R := by
  obtain ⟨hf1, hf2⟩ := hE.fn f fn hfn
  refine callsIn_of_wp_marks hf1 hb trivial ?_
  have hF0 : FrR φ { tmps := Tr.ofList args 0 .nil, size := fn.ntmps, marks := [], rnd := none } { tmps := us.toArray ++ Array.replicate (fn.ntmps - us.toArray.size) undef, defers := [] } none := ⟨TmpsR.args hus hle, rfl, rfl⟩
  refine wpIn_mono (hcode _ ⟨φ, hR, hF0⟩) fun x a1 w1 hq => ?_
  obtain ⟨hx, fr', σ', σ2, v, ⟨φ1, r1, f1⟩, hm, hr, hK⟩ := hq
  have key : LeavesInM (fen none) k P fn a1.tmps R a1.defers .returning w1 :=
    leaves_sound hE fr'.marks a1.defers σ' φ1 w1 hm f1.defs r1 (fun t => f1.get_ t) hr fun u w' q1 q2 q3 => hK φ1 u w' q1 q2
  rcases hx with rfl | rfl <;> exact key
end
end Go.Proofs.Ytpnkedgppbcnhaa.Am
