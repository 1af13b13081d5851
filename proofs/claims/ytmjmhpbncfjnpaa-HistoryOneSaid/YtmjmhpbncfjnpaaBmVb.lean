/- The abstract machine: states brought into a form of their own: what is not needed is forgotten, objects are numbered in the order in which they are met. -/
import Derived.Test.YtmjmhpbncfjnpaaBmVa
set_option linter.unusedSimpArgs false
set_option linter.unusedVariables false
namespace Go.Proofs.Ytmjmhpbncfjnpaa.Bm
open Go.RowKit
inductive Nm where
 | id (n : Nat)
 | typed (n : Nat) (sh : List Sh)
 | ghost (sh : List Sh)
abbrev Names := List Nm
def Nm.src : Nm → Option Nat
 | .id n => some n
 | .typed n _ => some n
 | .ghost _ => none
def Nm.is (x : Nm) (id : Nat) : Bool := match x with
 | .id n => Nat.beq n id
 | .typed n _ => Nat.beq n id
 | .ghost _ => false
theorem Nm.is_src {x : Nm} {id : Nat} : x.is id = true ↔ x.src = some id := by
 cases x <;> simp only [Nm.is, Nm.src, Option.some.injEq] <;> first
  | exact ⟨fun h => Nat.eq_of_beq_eq_true h, fun h => by subst h; exact Nat.beq_refl _⟩
  | simp
def idxOf (id : Nat) : Names → Nat → Option Nat
 | [], _ => none
 | x :: l, k => cond (x.is id) (some k) (idxOf id l (Nat.succ k))
def nm (id : Nat) (new : Nm) (l : Names) : Nat × Names := match idxOf id l 0 with
 | some k => (k, l)
 | none => (l.length, l ++ [new])
theorem idxOf_some {id : Nat} : ∀ {l : Names} {k j : Nat}, idxOf id l k = some j → ∃ i x, j = k + i ∧ l[i]? = some x ∧ x.src = some id
 | [], k, j, h => by simp [idxOf] at h
 | x :: l, k, j, h => by
   simp only [idxOf] at h
   cases hx : x.is id with
   | true =>
     rw [hx] at h
     simp only [cond_true, Option.some.injEq] at h
     exact ⟨0, x, by omega, rfl, Nm.is_src.1 hx⟩
   | false =>
     rw [hx] at h
     obtain ⟨i, y, h1, h2, h3⟩ := idxOf_some (l := l) h
     exact ⟨i + 1, y, by omega, by simpa using h2, h3⟩
theorem idxOf_none {id : Nat} : ∀ {l : Names} {k : Nat}, idxOf id l k = none → ∀ (i : Nat) (x : Nm), l[i]? = some x → x.src ≠ some id
 | [], k, h, i, x, hi => by simp at hi
 | y :: l, k, h, i, x, hi => by
   simp only [idxOf] at h
   cases hx : y.is id with
   | true => rw [hx] at h; cases h
   | false =>
     rw [hx] at h
     cases i with
     | zero =>
       simp at hi; subst hi
       intro hs
       rw [Nm.is_src.2 hs] at hx; cases hx
     | succ i => exact idxOf_none (l := l) h i x (by simpa using hi)
def Dist (l : Names) : Prop := ∀ (i j : Nat) (x y : Nm) (id : Nat), l[i]? = some x → l[j]? = some y → x.src = some id → y.src = some id → i = j
def Fol (l l' : Names) : Prop := l <+: l' ∧ (Dist l → Dist l')
theorem Fol.refl (l : Names) : Fol l l := ⟨List.prefix_rfl, id⟩
theorem Fol.trans {a b c : Names} (h : Fol a b) (k : Fol b c) : Fol a c := ⟨h.1.trans k.1, fun d => k.2 (h.2 d)⟩
theorem pre_at {l l' : Names} (h : l <+: l') {k : Nat} {x : Nm} (hx : l[k]? = some x) : l'[k]? = some x := by
 obtain ⟨t, rfl⟩ := h
 rw [List.getElem?_append_left (List.getElem?_eq_some_iff.1 hx).1]; exact hx
theorem dist_push {l : Names} {new : Nm} (hn : ∀ id, new.src = some id → ∀ (i : Nat) (x : Nm), l[i]? = some x → x.src ≠ some id) (h : Dist l) : Dist (l ++ [new]) := by
 intro i j x y id hi hj hx hy
 have hli := (List.getElem?_eq_some_iff.1 hi).1
 have hlj := (List.getElem?_eq_some_iff.1 hj).1
 rw [List.length_append, List.length_singleton] at hli hlj
 by_cases h1 : i < l.length
 ·rw [List.getElem?_append_left h1] at hi
  by_cases h2 : j < l.length
  ·rw [List.getElem?_append_left h2] at hj
   exact h i j x y id hi hj hx hy
  ·rw [List.getElem?_append_right (by omega), show j - l.length = 0 by omega] at hj
   simp at hj; subst hj
   exact absurd hx (hn id hy i x hi)
 ·rw [List.getElem?_append_right (by omega), show i - l.length = 0 by omega] at hi
  simp at hi; subst hi
  by_cases h2 : j < l.length
  ·rw [List.getElem?_append_left h2] at hj
   exact absurd hy (hn id hx j y hj)
  ·omega
theorem nm_ok {id k : Nat} {new : Nm} {l l' : Names} (h : nm id new l = (k, l')) (hs : new.src = some id) : Fol l l' ∧ ∃ x, l'[k]? = some x ∧ x.src = some id := by
 unfold nm at h
 split at h
 ·rename_i j hj
  simp only [Prod.mk.injEq] at h
  obtain ⟨rfl, rfl⟩ := h
  obtain ⟨i, x, h1, h2, h3⟩ := idxOf_some hj
  rw [Nat.zero_add] at h1; subst h1
  exact ⟨Fol.refl _, x, h2, h3⟩
 ·rename_i hn
  simp only [Prod.mk.injEq] at h
  obtain ⟨rfl, rfl⟩ := h
  refine ⟨⟨⟨[new], rfl⟩, dist_push fun id' hid => ?_⟩, new, by simp, hs⟩
  rw [hs] at hid
  injection hid with hid; subst hid
  exact idxOf_none hn
theorem ghost_ok (l : Names) (sh : List Sh) : Fol l (l ++ [.ghost sh]) := ⟨⟨_, rfl⟩, dist_push fun id h => by cases h⟩
def rnm (l : Names) (φ : Phi) : Phi := fun k => match l[k]? with
 | some x => match x.src with
   | some id => φ id
   | none => none
 | none => none
theorem rnm_at {l l' : Names} {φ : Phi} {k id : Nat} {x : Nm} (hl : l <+: l') (h : l[k]? = some x) (hs : x.src = some id) : rnm l' φ k = φ id := by
 simp only [rnm, pre_at hl h, hs]
theorem rnm_some {l : Names} {φ : Phi} {k : Nat} {lo : Loc} (h : rnm l φ k = some lo) : ∃ x id, l[k]? = some x ∧ x.src = some id ∧ φ id = some lo := by
 unfold rnm at h
 split at h
 ·rename_i x hx
  split at h
  ·rename_i id hid
   exact ⟨x, id, hx, hid, h⟩
  ·cases h
 ·cases h
mutual
def cv (l : Names) : AV → Option (AV × Names)
 | .bool b => some (.bool b, l)
 | .int k n => some (.int k n, l)
 | .str s => some (.str s, l)
 | .ptr id o => match nm id (.id id) l with
   | (k, l') => some (.ptr k o, l')
 | .nilPtr => some (.nilPtr, l)
 | .slice id o n c e h => match nm id (.id id) l with
   | (k, l') => some (.slice k o n (cond h n c) e h, l')
 | .tptr id i j e => match nm id (.id id) l with
   | (k, l') => some (.tptr k i j e, l')
 | .tsl id o n c e h => match nm id (.id id) l with
   | (k, l') => some (.tsl k o n (cond h n c) e h, l')
 | .osl nl id o n c e h => match nm id (.id id) l with
   | (k, l') => some (.osl nl k o n (cond h n c) e h, l')
 | .nilSlice => some (.nilSlice, l)
 | .map id => match nm id (.id id) l with
   | (k, l') => some (.map k, l')
 | .nilMap => some (.nilMap, l)
 | .func f a b => match cvs l a with
   | some (a', l1) => match cvs l1 b with
     | some (b', l2) => some (.func f a' b', l2)
     | none => none
   | none => none
 | .yld _ => none
 | .nilFunc => some (.nilFunc, l)
 | .iface t x => match cv l x with
   | some (x', l') => some (.iface t x', l')
   | none => none
 | .nilIface => some (.nilIface, l)
 | .agg a => match cvs l a with
   | some (a', l') => some (.agg a', l')
   | none => none
 | .tuple a => match cvs l a with
   | some (a', l') => some (.tuple a', l')
   | none => none
 | .bad => some (.bad, l)
def cvs (l : Names) : List AV → Option (List AV × Names)
 | [] => some ([], l)
 | x :: xs => match cv l x with
   | some (x', l1) => match cvs l1 xs with
     | some (xs', l2) => some (x' :: xs', l2)
     | none => none
   | none => none
end
def Lesser (l' : Names) (x x' : AV) : Prop := ∀ φ v l'', l' <+: l'' → VR φ x v → VR (rnm l'' φ) x' v
def LesserL (l' : Names) (xs xs' : List AV) : Prop := ∀ φ vs l'', l' <+: l'' → VRL φ xs vs → VRL (rnm l'' φ) xs' vs
theorem capw {h : Bool} {n c cc : Nat} (h1 : n ≤ c) (h2 : c ≤ cc) (h3 : h = false → cc = c) : n ≤ cond h n c ∧ cond h n c ≤ cc ∧ (h = false → cc = cond h n c) := by
 cases h with
 | true => exact ⟨Nat.le_refl _, by simp only [cond_true]; omega, fun h => by cases h⟩
 | false => exact ⟨h1, h2, h3⟩
mutual
theorem cv_ok : ∀ (l : Names) (x x' : AV) (l' : Names), cv l x = some (x', l') → Fol l l' ∧ Lesser l' x x'
 | l, .bool b, x', l', h => by
   simp only [cv, Option.some.injEq, Prod.mk.injEq] at h
   obtain ⟨rfl, rfl⟩ := h
   exact ⟨Fol.refl _, fun φ v l'' _ hv => by simpa only [VR] using hv⟩
 | l, .int k n, x', l', h => by
   simp only [cv, Option.some.injEq, Prod.mk.injEq] at h
   obtain ⟨rfl, rfl⟩ := h
   exact ⟨Fol.refl _, fun φ v l'' _ hv => by simpa only [VR] using hv⟩
 | l, .str s, x', l', h => by
   simp only [cv, Option.some.injEq, Prod.mk.injEq] at h
   obtain ⟨rfl, rfl⟩ := h
   exact ⟨Fol.refl _, fun φ v l'' _ hv => by simpa only [VR] using hv⟩
 | l, .ptr id o, x', l', h => by
   simp only [cv] at h
   generalize hn : nm id (.id id) l = p at h
   obtain ⟨k, l1⟩ := p
   simp only [Option.some.injEq, Prod.mk.injEq] at h
   obtain ⟨rfl, rfl⟩ := h
   obtain ⟨h1, y, h2, h3⟩ := nm_ok hn rfl
   refine ⟨h1, fun φ v l'' hl hv => ?_⟩
   simp only [VR] at hv ⊢
   rw [rnm_at hl h2 h3]; exact hv
 | l, .nilPtr, x', l', h => by
   simp only [cv, Option.some.injEq, Prod.mk.injEq] at h
   obtain ⟨rfl, rfl⟩ := h
   exact ⟨Fol.refl _, fun φ v l'' _ hv => by simpa only [VR] using hv⟩
 | l, .slice id o n c e hh, x', l', h => by
   simp only [cv] at h
   generalize hn : nm id (.id id) l = p at h
   obtain ⟨k, l1⟩ := p
   simp only [Option.some.injEq, Prod.mk.injEq] at h
   obtain ⟨rfl, rfl⟩ := h
   obtain ⟨h1, y, h2, h3⟩ := nm_ok hn rfl
   refine ⟨h1, fun φ v l'' hl hv => ?_⟩
   simp only [VR] at hv ⊢
   rw [rnm_at hl h2 h3]
   obtain ⟨lo, ad, cc, a1, a2, a3, a4, a5, a6⟩ := hv
   obtain ⟨b1, b2, b3⟩ := capw a3 a4 a5
   exact ⟨lo, ad, cc, a1, a2, b1, b2, b3, a6⟩
 | l, .tptr id i j e, x', l', h => by
   simp only [cv] at h
   generalize hn : nm id (.id id) l = p at h
   obtain ⟨k, l1⟩ := p
   simp only [Option.some.injEq, Prod.mk.injEq] at h
   obtain ⟨rfl, rfl⟩ := h
   obtain ⟨h1, y, h2, h3⟩ := nm_ok hn rfl
   refine ⟨h1, fun φ v l'' hl hv => ?_⟩
   simp only [VR] at hv ⊢
   rw [rnm_at hl h2 h3]; exact hv
 | l, .tsl id o n c e hh, x', l', h => by
   simp only [cv] at h
   generalize hn : nm id (.id id) l = p at h
   obtain ⟨k, l1⟩ := p
   simp only [Option.some.injEq, Prod.mk.injEq] at h
   obtain ⟨rfl, rfl⟩ := h
   obtain ⟨h1, y, h2, h3⟩ := nm_ok hn rfl
   refine ⟨h1, fun φ v l'' hl hv => ?_⟩
   simp only [VR] at hv ⊢
   rw [rnm_at hl h2 h3]
   obtain ⟨lo, ad, cc, a1, a2, a3, a4, a5, a6⟩ := hv
   obtain ⟨b1, b2, b3⟩ := capw a3 a4 a5
   exact ⟨lo, ad, cc, a1, a2, b1, b2, b3, a6⟩
 | l, .osl nl id o n c e hh, x', l', h => by
   simp only [cv] at h
   generalize hn : nm id (.id id) l = p at h
   obtain ⟨k, l1⟩ := p
   simp only [Option.some.injEq, Prod.mk.injEq] at h
   obtain ⟨rfl, rfl⟩ := h
   obtain ⟨h1, y, h2, h3⟩ := nm_ok hn rfl
   refine ⟨h1, fun φ v l'' hl hv => ?_⟩
   simp only [VR] at hv ⊢
   rw [rnm_at hl h2 h3]
   rcases hv with ⟨c0, c1, c2, c3⟩ | ⟨c0, lo, ad, cc, a1, a2, a3, a4, a5, a6⟩
   ·exact .inl ⟨c0, c1, c2, by cases hh <;> simp only [cond_true, cond_false] <;> assumption⟩
   ·obtain ⟨b1, b2, b3⟩ := capw a3 a4 a5
    exact .inr ⟨c0, lo, ad, cc, a1, a2, b1, b2, b3, a6⟩
 | l, .nilSlice, x', l', h => by
   simp only [cv, Option.some.injEq, Prod.mk.injEq] at h
   obtain ⟨rfl, rfl⟩ := h
   exact ⟨Fol.refl _, fun φ v l'' _ hv => by simpa only [VR] using hv⟩
 | l, .map id, x', l', h => by
   simp only [cv] at h
   generalize hn : nm id (.id id) l = p at h
   obtain ⟨k, l1⟩ := p
   simp only [Option.some.injEq, Prod.mk.injEq] at h
   obtain ⟨rfl, rfl⟩ := h
   obtain ⟨h1, y, h2, h3⟩ := nm_ok hn rfl
   refine ⟨h1, fun φ v l'' hl hv => ?_⟩
   simp only [VR] at hv ⊢
   rw [rnm_at hl h2 h3]; exact hv
 | l, .nilMap, x', l', h => by
   simp only [cv, Option.some.injEq, Prod.mk.injEq] at h
   obtain ⟨rfl, rfl⟩ := h
   exact ⟨Fol.refl _, fun φ v l'' _ hv => by simpa only [VR] using hv⟩
 | l, .func f a b, x', l', h => by
   simp only [cv] at h
   cases ha : cvs l a with
   | none => rw [ha] at h; cases h
   | some p =>
     obtain ⟨a', l1⟩ := p
     rw [ha] at h
     simp only at h
     cases hb : cvs l1 b with
     | none => rw [hb] at h; cases h
     | some p =>
       obtain ⟨b', l2⟩ := p
       rw [hb] at h
       simp only [Option.some.injEq, Prod.mk.injEq] at h
       obtain ⟨rfl, rfl⟩ := h
       obtain ⟨f1, g1⟩ := cvs_ok l a a' l1 ha
       obtain ⟨f2, g2⟩ := cvs_ok l1 b b' _ hb
       refine ⟨f1.trans f2, fun φ v l'' hl hv => ?_⟩
       simp only [VR] at hv ⊢
       obtain ⟨h0, x, y, h1, h2, h3⟩ := hv
       exact ⟨h0, x, y, h1, g1 φ x l'' (f2.1.trans hl) h2, g2 φ y l'' hl h3⟩
 | l, .yld _, x', l', h => by simp [cv] at h
 | l, .nilFunc, x', l', h => by
   simp only [cv, Option.some.injEq, Prod.mk.injEq] at h
   obtain ⟨rfl, rfl⟩ := h
   exact ⟨Fol.refl _, fun φ v l'' _ hv => by simpa only [VR] using hv⟩
 | l, .iface t x, x', l', h => by
   simp only [cv] at h
   cases ha : cv l x with
   | none => rw [ha] at h; cases h
   | some p =>
     obtain ⟨a', l1⟩ := p
     rw [ha] at h
     simp only [Option.some.injEq, Prod.mk.injEq] at h
     obtain ⟨rfl, rfl⟩ := h
     obtain ⟨f1, g1⟩ := cv_ok l x a' _ ha
     refine ⟨f1, fun φ v l'' hl hv => ?_⟩
     simp only [VR] at hv ⊢
     obtain ⟨y, h1, h2⟩ := hv
     exact ⟨y, h1, g1 φ y l'' hl h2⟩
 | l, .nilIface, x', l', h => by
   simp only [cv, Option.some.injEq, Prod.mk.injEq] at h
   obtain ⟨rfl, rfl⟩ := h
   exact ⟨Fol.refl _, fun φ v l'' _ hv => by simpa only [VR] using hv⟩
 | l, .agg a, x', l', h => by
   simp only [cv] at h
   cases ha : cvs l a with
   | none => rw [ha] at h; cases h
   | some p =>
     obtain ⟨a', l1⟩ := p
     rw [ha] at h
     simp only [Option.some.injEq, Prod.mk.injEq] at h
     obtain ⟨rfl, rfl⟩ := h
     obtain ⟨f1, g1⟩ := cvs_ok l a a' _ ha
     refine ⟨f1, fun φ v l'' hl hv => ?_⟩
     simp only [VR] at hv ⊢
     obtain ⟨y, h1, h2⟩ := hv
     exact ⟨y, h1, g1 φ y l'' hl h2⟩
 | l, .tuple a, x', l', h => by
   simp only [cv] at h
   cases ha : cvs l a with
   | none => rw [ha] at h; cases h
   | some p =>
     obtain ⟨a', l1⟩ := p
     rw [ha] at h
     simp only [Option.some.injEq, Prod.mk.injEq] at h
     obtain ⟨rfl, rfl⟩ := h
     obtain ⟨f1, g1⟩ := cvs_ok l a a' _ ha
     refine ⟨f1, fun φ v l'' hl hv => ?_⟩
     simp only [VR] at hv ⊢
     obtain ⟨y, h1, h2⟩ := hv
     exact ⟨y, h1, g1 φ y l'' hl h2⟩
 | l, .bad, x', l', h => by
   simp only [cv, Option.some.injEq, Prod.mk.injEq] at h
   obtain ⟨rfl, rfl⟩ := h
   exact ⟨Fol.refl _, fun φ v l'' _ hv => by simp only [VR]⟩
theorem cvs_ok : ∀ (l : Names) (xs xs' : List AV) (l' : Names), cvs l xs = some (xs', l') → Fol l l' ∧ LesserL l' xs xs'
 | l, [], xs', l', h => by
   simp only [cvs, Option.some.injEq, Prod.mk.injEq] at h
   obtain ⟨rfl, rfl⟩ := h
   exact ⟨Fol.refl _, fun φ v l'' _ hv => by simpa only [VRL] using hv⟩
 | l, x :: xs, xs', l', h => by
   simp only [cvs] at h
   cases ha : cv l x with
   | none => rw [ha] at h; cases h
   | some p =>
     obtain ⟨a', l1⟩ := p
     rw [ha] at h
     simp only at h
     cases hb : cvs l1 xs with
     | none => rw [hb] at h; cases h
     | some p =>
       obtain ⟨b', l2⟩ := p
       rw [hb] at h
       simp only [Option.some.injEq, Prod.mk.injEq] at h
       obtain ⟨rfl, rfl⟩ := h
       obtain ⟨f1, g1⟩ := cv_ok l x a' l1 ha
       obtain ⟨f2, g2⟩ := cvs_ok l1 xs b' _ hb
       refine ⟨f1.trans f2, fun φ v l'' hl hv => ?_⟩
       simp only [VRL] at hv ⊢
       obtain ⟨y, ys, h1, h2, h3⟩ := hv
       exact ⟨y, ys, h1, g1 φ y l'' (f2.1.trans hl) h2, g2 φ ys l'' hl h3⟩
end
inductive PV where
 | keep
 | any
 | asl (sh : List Sh)
 | agg (ps : List PV)
def aslV (sh : List Sh) (l : Names) : AV → Option (AV × Names)
 | .nilSlice => some (.osl true l.length 0 0 0 sh.length true, l ++ [.ghost sh])
 | .osl nl id o n c e h => match nm id (.typed id sh) l with
   | (k, l') => some (.osl nl k o n n e true, l')
 | .tsl id o n c e h => match nm id (.typed id sh) l with
   | (k, l') => some (.osl false k o n n e true, l')
 | .slice id o n c e h => cond (Nat.beq e sh.length && Nat.beq (Nat.mul (Nat.div o e) e) o) (match nm id (.typed id sh) l with
   | (k, l') => some (.osl false k (Nat.div o e) n n e true, l')) none
 | _ => none
theorem aslV_ok {sh : List Sh} {l l' : Names} {x x' : AV} (h : aslV sh l x = some (x', l')) : Fol l l' ∧ Lesser l' x x' := by
 unfold aslV at h
 split at h
 ·simp only [Option.some.injEq, Prod.mk.injEq] at h
  obtain ⟨rfl, rfl⟩ := h
  refine ⟨ghost_ok l sh, fun φ v l'' hl hv => ?_⟩
  simp only [VR] at hv ⊢
  exact .inl ⟨trivial, hv, trivial, trivial⟩
 ·rename_i nl id o n c e hh
  generalize hn : nm id (.typed id sh) l = p at h
  obtain ⟨k, l1⟩ := p
  simp only [Option.some.injEq, Prod.mk.injEq] at h
  obtain ⟨rfl, rfl⟩ := h
  obtain ⟨h1, y, h2, h3⟩ := nm_ok hn rfl
  refine ⟨h1, fun φ v l'' hl hv => ?_⟩
  simp only [VR] at hv ⊢
  rw [rnm_at hl h2 h3]
  rcases hv with ⟨c0, c1, c2, c3⟩ | ⟨c0, lo, ad, cc, a1, a2, a3, a4, a5, a6⟩
  ·exact .inl ⟨c0, c1, c2, c2⟩
  ·have b1 : n ≤ n := Nat.le_refl _
   have b2 : n ≤ cc := Nat.le_trans a3 a4
   have b3 : true = false → cc = n := fun h => by cases h
   exact .inr ⟨c0, lo, ad, cc, a1, a2, b1, b2, b3, a6⟩
 ·rename_i id o n c e hh
  generalize hn : nm id (.typed id sh) l = p at h
  obtain ⟨k, l1⟩ := p
  simp only [Option.some.injEq, Prod.mk.injEq] at h
  obtain ⟨rfl, rfl⟩ := h
  obtain ⟨h1, y, h2, h3⟩ := nm_ok hn rfl
  refine ⟨h1, fun φ v l'' hl hv => ?_⟩
  simp only [VR] at hv ⊢
  rw [rnm_at hl h2 h3]
  obtain ⟨lo, ad, cc, a1, a2, a3, a4, a5, a6⟩ := hv
  have b1 : n ≤ n := Nat.le_refl _
  have b2 : n ≤ cc := Nat.le_trans a3 a4
  have b3 : true = false → cc = n := fun h => by cases h
  exact .inr ⟨trivial, lo, ad, cc, a1, a2, b1, b2, b3, a6⟩
 ·rename_i id o n c e hh
  cases hk : (Nat.beq e sh.length && Nat.beq (Nat.mul (Nat.div o e) e) o) with
  | false => rw [hk] at h; cases h
  | true =>
    rw [hk] at h
    simp only [cond_true] at h
    simp only [Bool.and_eq_true] at hk
    have ho : Nat.div o e * e = o := Nat.eq_of_beq_eq_true hk.2
    generalize hn : nm id (.typed id sh) l = p at h
    obtain ⟨k, l1⟩ := p
    simp only [Option.some.injEq, Prod.mk.injEq] at h
    obtain ⟨rfl, rfl⟩ := h
    obtain ⟨h1, y, h2, h3⟩ := nm_ok hn rfl
    refine ⟨h1, fun φ v l'' hl hv => ?_⟩
    simp only [VR] at hv ⊢
    rw [rnm_at hl h2 h3, ho]
    obtain ⟨lo, ad, cc, a1, a2, a3, a4, a5, a6⟩ := hv
    have b1 : n ≤ n := Nat.le_refl _
    have b2 : n ≤ cc := Nat.le_trans a3 a4
    have b3 : true = false → cc = n := fun h => by cases h
    exact .inr ⟨trivial, lo, ad, cc, a1, a2, b1, b2, b3, a6⟩
 ·cases h
mutual
def cvP (l : Names) : PV → AV → Option (AV × Names)
 | .keep, x => cv l x
 | .any, _ => some (.bad, l)
 | .asl sh, x => aslV sh l x
 | .agg ps, .agg xs => match cvPs l ps xs with
   | some (xs', l') => some (.agg xs', l')
   | none => none
 | .agg ps, .tuple xs => match cvPs l ps xs with
   | some (xs', l') => some (.tuple xs', l')
   | none => none
 | .agg _, _ => none
def cvPs (l : Names) : List PV → List AV → Option (List AV × Names)
 | [], xs => cvs l xs
 | _ :: _, [] => some ([], l)
 | p :: ps, x :: xs => match cvP l p x with
   | some (x', l1) => match cvPs l1 ps xs with
     | some (xs', l2) => some (x' :: xs', l2)
     | none => none
   | none => none
end
mutual
theorem cvP_ok : ∀ (l : Names) (p : PV) (x x' : AV) (l' : Names), cvP l p x = some (x', l') → Fol l l' ∧ Lesser l' x x'
 | l, .keep, x, x', l', h => cv_ok l x x' l' (by simpa only [cvP] using h)
 | l, .any, x, x', l', h => by
   simp only [cvP, Option.some.injEq, Prod.mk.injEq] at h
   obtain ⟨rfl, rfl⟩ := h
   exact ⟨Fol.refl _, fun φ v l'' _ hv => by simp only [VR]⟩
 | l, .asl sh, x, x', l', h => aslV_ok (by simpa only [cvP] using h)
 | l, .agg ps, x, x', l', h => by
   cases x with
   | agg xs =>
     simp only [cvP] at h
     cases ha : cvPs l ps xs with
     | none => rw [ha] at h; cases h
     | some p =>
       obtain ⟨a', l1⟩ := p
       rw [ha] at h
       simp only [Option.some.injEq, Prod.mk.injEq] at h
       obtain ⟨rfl, rfl⟩ := h
       obtain ⟨f1, g1⟩ := cvPs_ok l ps xs a' _ ha
       refine ⟨f1, fun φ v l'' hl hv => ?_⟩
       simp only [VR] at hv ⊢
       obtain ⟨y, h1, h2⟩ := hv
       exact ⟨y, h1, g1 φ y l'' hl h2⟩
   | tuple xs =>
     simp only [cvP] at h
     cases ha : cvPs l ps xs with
     | none => rw [ha] at h; cases h
     | some p =>
       obtain ⟨a', l1⟩ := p
       rw [ha] at h
       simp only [Option.some.injEq, Prod.mk.injEq] at h
       obtain ⟨rfl, rfl⟩ := h
       obtain ⟨f1, g1⟩ := cvPs_ok l ps xs a' _ ha
       refine ⟨f1, fun φ v l'' hl hv => ?_⟩
       simp only [VR] at hv ⊢
       obtain ⟨y, h1, h2⟩ := hv
       exact ⟨y, h1, g1 φ y l'' hl h2⟩
   | _ => simp [cvP] at h
theorem cvPs_ok : ∀ (l : Names) (ps : List PV) (xs xs' : List AV) (l' : Names), cvPs l ps xs = some (xs', l') → Fol l l' ∧ LesserL l' xs xs'
 | l, [], xs, xs', l', h => cvs_ok l xs xs' l' (by simpa only [cvPs] using h)
 | l, _ :: _, [], xs', l', h => by
   simp only [cvPs, Option.some.injEq, Prod.mk.injEq] at h
   obtain ⟨rfl, rfl⟩ := h
   exact ⟨Fol.refl _, fun φ v l'' _ hv => by simpa only [VRL] using hv⟩
 | l, p :: ps, x :: xs, xs', l', h => by
   simp only [cvPs] at h
   cases ha : cvP l p x with
   | none => rw [ha] at h; cases h
   | some q =>
     obtain ⟨a', l1⟩ := q
     rw [ha] at h
     simp only at h
     cases hb : cvPs l1 ps xs with
     | none => rw [hb] at h; cases h
     | some q =>
       obtain ⟨b', l2⟩ := q
       rw [hb] at h
       simp only [Option.some.injEq, Prod.mk.injEq] at h
       obtain ⟨rfl, rfl⟩ := h
       obtain ⟨f1, g1⟩ := cvP_ok l p x a' l1 ha
       obtain ⟨f2, g2⟩ := cvPs_ok l1 ps xs b' _ hb
       refine ⟨f1.trans f2, fun φ v l'' hl hv => ?_⟩
       simp only [VRL] at hv ⊢
       obtain ⟨y, ys, h1, h2, h3⟩ := hv
       exact ⟨y, ys, h1, g1 φ y l'' (f2.1.trans hl) h2, g2 φ ys l'' hl h3⟩
end
end Go.Proofs.Ytmjmhpbncfjnpaa.Bm
