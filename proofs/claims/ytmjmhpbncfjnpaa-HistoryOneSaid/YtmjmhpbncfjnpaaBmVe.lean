/- The abstract machine: what stands in place of a loop, or of a function, told at canonical states. -/
import Derived.Test.YtmjmhpbncfjnpaaBmVd
set_option linter.unusedSimpArgs false
set_option linter.unusedVariables false
namespace Go.Proofs.Ytmjmhpbncfjnpaa.Bm
open Go.RowKit
def srcN (l : Names) (j : Nat) : Nat := match l[j]? with
 | some x => match x.src with
   | some id => id
   | none => 0
 | none => 0
def trN (l : Names) (p next j : Nat) : Nat := cond (Nat.blt j p) (srcN l j) (Nat.add next (Nat.sub j p))
def killL : Names → St → St
 | [], σ => σ
 | x :: l, σ => killL l (match x.src with
   | some id => match σ.get id with
     | some o => cond o.rw (σ.kill id) σ
     | none => σ
   | none => σ)
def putL (t : Nat → Nat) : Names → List (Option AObj) → St → Option St
 | [], _, σ => some σ
 | x :: l, os, σ => match x.src, os with
   | some id, some o :: os' => match rnO t o with
     | some o' => putL t l os' (σ.put id o')
     | none => none
   | some id, none :: os' => putL t l os' (σ.kill id)
   | _, _ => none
def newL (t : Nat → Nat) : List (Option AObj) → St → Option St
 | [], σ => some σ
 | some o :: os, σ => match rnO t o with
   | some o' => newL t os (σ.new o')
   | none => none
 | none :: os, σ => newL t os { σ with next := Nat.succ σ.next }
def back (l : Names) (p : Nat) (os : List (Option AObj)) (σ : St) : Option St :=
 match putL (trN l p σ.next) (l.take p) os (killL (l.drop p) σ) with
 | some σ1 => newL (trN l p σ.next) (os.drop p) σ1
 | none => none
section
variable {φ φ' φ'' : Phi} {w0 w w' : World} {g g' : Heap} {n n' : Nat} {σ σ' : St} {fr fr' : Fr} {a a' : Act} {t : Nat → Nat}
theorem killL_ok : ∀ (l : Names) (σ : St), (killL l σ).next = σ.next ∧ ∀ id, ((killL l σ).get id = σ.get id ∧ ∀ x ∈ l, x.src = some id → ∀ o, σ.get id = some o → o.rw = false) ∨
  ((killL l σ).get id = none ∧ ∃ x ∈ l, x.src = some id ∧ ∃ o, σ.get id = some o ∧ o.rw = true)
 | [], σ => ⟨rfl, fun id => .inl ⟨rfl, fun x hx => by simp at hx⟩⟩
 | x :: l, σ => by
   have step : ∀ σ1, (σ1 = σ ∧ ∀ id, x.src = some id → ∀ o, σ.get id = some o → o.rw = false) ∨ (∃ id0 o0, x.src = some id0 ∧ σ.get id0 = some o0 ∧ o0.rw = true ∧ σ1 = σ.kill id0) →
     (killL l σ1).next = σ.next ∧ ∀ id, ((killL l σ1).get id = σ.get id ∧ ∀ y ∈ x :: l, y.src = some id → ∀ o, σ.get id = some o → o.rw = false) ∨ ((killL l σ1).get id = none ∧ ∃ y ∈ x :: l, y.src = some id ∧ ∃ o, σ.get id = some o ∧ o.rw = true) := by
    intro σ1 h
    obtain ⟨k1, k2⟩ := killL_ok l σ1
    rcases h with ⟨rfl, h⟩ | ⟨id0, o0, h1, h2, h3, rfl⟩
    ·refine ⟨k1, fun id => ?_⟩
     rcases k2 id with ⟨e1, e2⟩ | ⟨e1, y, hy, e2⟩
     ·refine .inl ⟨e1, fun y hy hs o ho => ?_⟩
      rcases List.mem_cons.1 hy with rfl | hy
      ·exact h id hs o ho
      ·exact e2 y hy hs o ho
     ·exact .inr ⟨e1, y, List.mem_cons_of_mem _ hy, e2⟩
    ·refine ⟨k1, fun id => ?_⟩
     have hget : ∀ i, (σ.kill id0).get i = if i = id0 then none else σ.get i := fun i => by rw [get_kill]; rfl
     by_cases hid : id = id0
     ·subst hid
      refine .inr ⟨?_, x, by simp, h1, o0, h2, h3⟩
      rcases k2 id with ⟨e1, _⟩ | ⟨e1, _⟩
      ·rw [e1, hget, if_pos rfl]
      ·exact e1
     ·have hg := hget id
      rw [if_neg hid] at hg
      rcases k2 id with ⟨e1, e2⟩ | ⟨e1, y, hy, e2, o, e3, e4⟩
      ·rw [hg] at e1 e2
       refine .inl ⟨e1, fun y hy hs o ho => ?_⟩
       rcases List.mem_cons.1 hy with rfl | hy
       ·rw [h1] at hs; injection hs with hs; exact absurd hs.symm hid
       ·exact e2 y hy hs o ho
      ·rw [hg] at e3
       exact .inr ⟨e1, y, List.mem_cons_of_mem _ hy, e2, o, e3, e4⟩
   simp only [killL]
   refine step _ ?_
   cases hs : x.src with
   | none => exact .inl ⟨rfl, fun id h => by cases h⟩
   | some id0 =>
     simp only
     cases hg : σ.get id0 with
     | none => exact .inl ⟨rfl, fun id h o ho => by injection h with h; subst h; rw [hg] at ho; cases ho⟩
     | some o0 =>
       simp only
       cases hrw : o0.rw with
       | true => exact .inr ⟨id0, o0, rfl, hg, hrw, rfl⟩
       | false => exact .inl ⟨rfl, fun id h o ho => by injection h with h; subst h; rw [hg] at ho; injection ho with ho; subst ho; exact hrw⟩
theorem dist_tail {x : Nm} {l : Names} (h : Dist (x :: l)) : Dist l := fun i j y z id hi hj hy hz => by
 have := h (i + 1) (j + 1) y z id (by simpa using hi) (by simpa using hj) hy hz
 omega
theorem putL_ok : ∀ (l : Names) (os : List (Option AObj)) (σ σ' : St), putL t l os σ = some σ' → Dist l → σ'.next = σ.next ∧ (∀ id, (∀ x ∈ l, x.src ≠ some id) → σ'.get id = σ.get id) ∧
  ∀ (j : Nat) (x : Nm) (id : Nat), l[j]? = some x → x.src = some id → (os[j]? = some none ∧ σ'.get id = none) ∨ ∃ o o', os[j]? = some (some o) ∧ rnO t o = some o' ∧ σ'.get id = some o'
 | [], os, σ, σ', h, _ => by
   simp only [putL, Option.some.injEq] at h; subst h
   exact ⟨rfl, fun _ _ => rfl, fun j x id hj => by simp at hj⟩
 | x :: l, os, σ, σ', h, hd => by
   simp only [putL] at h
   have hno : ∀ id, x.src = some id → ∀ y ∈ l, y.src ≠ some id := fun id hx y hy hs => by
    obtain ⟨j, hj, rfl⟩ := List.getElem_of_mem hy
    have := hd 0 (j + 1) x l[j] id rfl (by simp [List.getElem?_eq_getElem hj]) hx hs
    omega
   split at h
   ·rename_i id o os' hs
    split at h
    ·rename_i o' ho
     obtain ⟨k1, k2, k3⟩ := putL_ok l os' _ σ' h (dist_tail hd)
     have hget : ∀ i, (σ.put id o').get i = if i = id then some o' else σ.get i := fun i => by rw [get_put]; rfl
     refine ⟨k1, fun i hi => ?_, fun j y i hj hy => ?_⟩
     ·rw [k2 i (fun y hy => hi y (List.mem_cons_of_mem _ hy)), hget, if_neg (fun e => hi x (by simp) (by rw [hs, e]))]
     ·cases j with
      | zero =>
        simp at hj; subst hj
        rw [hs] at hy; injection hy with hy; subst hy
        exact .inr ⟨o, o', rfl, ho, by rw [k2 id (hno id hs), hget, if_pos rfl]⟩
      | succ j => simpa using k3 j y i (by simpa using hj) hy
    ·cases h
   ·rename_i id os' hs
    obtain ⟨k1, k2, k3⟩ := putL_ok l os' _ σ' h (dist_tail hd)
    have hget : ∀ i, (σ.kill id).get i = if i = id then none else σ.get i := fun i => by rw [get_kill]; rfl
    refine ⟨k1, fun i hi => ?_, fun j y i hj hy => ?_⟩
    ·rw [k2 i (fun y hy => hi y (List.mem_cons_of_mem _ hy)), hget, if_neg (fun e => hi x (by simp) (by rw [hs, e]))]
    ·cases j with
     | zero =>
       simp at hj; subst hj
       rw [hs] at hy; injection hy with hy; subst hy
       exact .inl ⟨rfl, by rw [k2 id (hno id hs), hget, if_pos rfl]⟩
     | succ j => simpa using k3 j y i (by simpa using hj) hy
   ·cases h
theorem newL_ok : ∀ (os : List (Option AObj)) (σ σ' : St), newL t os σ = some σ' → σ'.next = σ.next + os.length ∧ (∀ id, id < σ.next ∨ σ.next + os.length ≤ id → σ'.get id = σ.get id) ∧
  ∀ i, i < os.length → (os[i]? = some none ∧ σ'.get (σ.next + i) = σ.get (σ.next + i)) ∨ ∃ o o', os[i]? = some (some o) ∧ rnO t o = some o' ∧ σ'.get (σ.next + i) = some o'
 | [], σ, σ', h => by
   simp only [newL, Option.some.injEq] at h; subst h
   exact ⟨rfl, fun _ _ => rfl, fun i hi => by simp at hi⟩
 | some o :: os, σ, σ', h => by
   simp only [newL] at h
   split at h
   ·rename_i o' ho
    obtain ⟨k1, k2, k3⟩ := newL_ok os _ σ' h
    have hnx : (σ.new o').next = σ.next + 1 := rfl
    rw [hnx] at k1 k2 k3
    have hget : ∀ i, (σ.new o').get i = if i = σ.next then some o' else σ.get i := fun i => by rw [get_new]; rfl
    refine ⟨by simp; omega, fun id hid => ?_, fun i hi => ?_⟩
    ·simp at hid
     rw [k2 id (by omega), hget, if_neg (by omega)]
    ·cases i with
     | zero => exact .inr ⟨o, o', rfl, ho, by rw [Nat.add_zero, k2 _ (by omega), hget, if_pos rfl]⟩
     | succ i =>
       have := k3 i (by simpa using hi)
       rw [show σ.next + 1 + i = σ.next + (i + 1) by omega, hget, if_neg (by omega)] at this
       simpa using this
   ·cases h
 | none :: os, σ, σ', h => by
   simp only [newL] at h
   obtain ⟨k1, k2, k3⟩ := newL_ok os _ σ' h
   have hget : ∀ i, ({ σ with next := Nat.succ σ.next } : St).get i = σ.get i := fun i => rfl
   have hnx : ({ σ with next := Nat.succ σ.next } : St).next = σ.next + 1 := rfl
   rw [hnx] at k1 k2 k3
   refine ⟨by simp; omega, fun id hid => ?_, fun i hi => ?_⟩
   ·simp at hid
    rw [k2 id (by omega), hget]
   ·cases i with
    | zero => exact .inl ⟨rfl, by rw [Nat.add_zero, k2 _ (by omega), hget]⟩
    | succ i =>
      have := k3 i (by simpa using hi)
      rw [show σ.next + 1 + i = σ.next + (i + 1) by omega, hget] at this
      simpa using this
def okNames (g : Nat → Option AObj) (p : Nat) : List Bool → Names → Nat → Bool
 | _, [], _ => true
 | [], _ :: _, _ => false
 | b :: bs, x :: l, j => cond (Nat.blt j p) ((match x.src with | some _ => true | none => false) && b) (match x.src with
    | none => true
    | some id => match g id with
      | some o => !o.rw || b
      | none => true) && okNames g p bs l (Nat.succ j)
theorem okNames_at {g : Nat → Option AObj} {p : Nat} : ∀ {bs : List Bool} {l : Names} {k : Nat}, okNames g p bs l k = true → ∀ (j : Nat) (x : Nm), l[j]? = some x →
  (k + j < p → ∃ id, x.src = some id ∧ bs[j]? = some true) ∧ (p ≤ k + j → ∀ id o, x.src = some id → g id = some o → o.rw = true → bs[j]? = some true)
 | _, [], k, h, j, x, hj => by simp at hj
 | [], _ :: _, k, h, j, x, hj => by simp [okNames] at h
 | b :: bs, y :: l, k, h, j, x, hj => by
   simp only [okNames, Bool.and_eq_true] at h
   obtain ⟨h1, h2⟩ := h
   cases j with
   | succ j =>
     have := okNames_at h2 j x (by simpa using hj)
     rw [show Nat.succ k + j = k + (j + 1) by omega] at this
     simpa using this
   | zero =>
     simp at hj; subst hj
     refine ⟨fun hlt => ?_, fun hle id o hs hg hrw => ?_⟩
     ·have hb : Nat.blt k p = true := by rw [blt_iff]; simpa using hlt
      rw [hb] at h1
      simp only [cond_true, Bool.and_eq_true] at h1
      cases hs : y.src with
      | none => rw [hs] at h1; exact absurd h1.1 (by simp)
      | some id => exact ⟨id, rfl, by simp [h1.2]⟩
     ·have hb : Nat.blt k p = false := by rw [blt_iff]; simp; omega
      rw [hb] at h1
      simp only [cond_false] at h1
      rw [hs] at h1
      simp only [hg, hrw, Bool.not_true, Bool.false_or] at h1
      simp [h1]
structure Entry (w0 : World) (φ : Phi) (σ : St) (w : World) (l : Names) (os : List (Option AObj)) (p : Nat) : Prop where
 rel : Rel w0 φ σ.get σ.next w
 dist : Dist l
 crel : Rel w0 (rnm l φ) (stC os).get (stC os).next w
 corr : ∀ k o lo, (stC os).get k = some o → rnm l φ k = some lo → ∃ x id o0, l[k]? = some x ∧ x.src = some id ∧ σ.get id = some o0 ∧ φ id = some lo ∧ o.rw = o0.rw
 len : os.length = l.length
 solid : ∀ j x, l[j]? = some x → (j < p → ∃ id, x.src = some id ∧ φ id ≠ none) ∧ (p ≤ j → ∀ id o, x.src = some id → σ.get id = some o → o.rw = true → φ id ≠ none)
 ple : p ≤ l.length
def kcOf (w : World) (l : Names) (φ : Phi) (os : List (Option AObj)) (p : Nat) : KC :=
 { p := p, pin := rnm l φ, n0 := w.heap.size, h0 := fun c => w.heap[c]?, S := fun b => ∃ k o lo, (stC os).get k = some o ∧ rnm l φ k = some lo ∧ o.rw = true ∧ lo.c = b }
theorem Entry.kept {l : Names} {os : List (Option AObj)} {p : Nat} (h : Entry w0 φ σ w l os p) : Kept (kcOf w l φ os p) (rnm l φ) (stC os).get w where
 size := Nat.le_refl _
 frame := fun _ _ _ => rfl
 own := fun id o lo hg hl hrw => .inl ⟨id, o, lo, hg, hl, hrw, rfl⟩
 pins := fun _ _ => rfl
theorem Entry.pins {l : Names} {os : List (Option AObj)} {p : Nat} (h : Entry w0 φ σ w l os p) : ∀ j, j < (kcOf w l φ os p).p → (kcOf w l φ os p).pin j ≠ none := by
 intro j hj
 have hj : j < p := hj
 have hl := h.ple
 have hx := List.getElem?_eq_getElem (show j < l.length by omega)
 obtain ⟨id, h1, h2⟩ := (h.solid j _ hx).1 hj
 show rnm l φ j ≠ none
 simp only [rnm, hx, h1]; exact h2
theorem back_ok {l : Names} {os os' : List (Option AObj)} {p : Nat} (hE : Entry w0 φ σ w l os p) (hR' : Rel w0 φ' (stC os').get (stC os').next w') (hK : Kept (kcOf w l φ os p) φ' (stC os').get w') (hb : back l p os' σ = some σ') :
  ∃ φ'', Rel w0 φ'' σ'.get σ'.next w' ∧ Ext w0 φ σ.get σ.next w φ'' σ'.get σ'.next w' ∧ ∀ j lo, φ' j = some lo → φ'' (trN l p σ.next j) = some lo := by
 unfold back at hb
 split at hb
 ·rename_i σ1 hput
  have hR := hE.rel
  obtain ⟨n1, n2, n3⟩ := newL_ok _ _ _ hb
  have hdt : Dist (l.take p) := fun i j x y id hi hj hx hy => by
   rw [List.getElem?_take] at hi hj
   split at hi
   ·split at hj
    ·exact hE.dist i j x y id hi hj hx hy
    ·cases hj
   ·cases hi
  obtain ⟨q1, q2, q3⟩ := putL_ok _ _ _ _ hput hdt
  obtain ⟨k1, k2⟩ := killL_ok (l.drop p) σ
  have hnext1 : σ1.next = σ.next := q1.trans k1
  rw [hnext1] at n1 n2 n3
  have hple := hE.ple
  -- pinned ones
  have pinAt : ∀ j, j < p → ∃ x id, l[j]? = some x ∧ x.src = some id ∧ φ id ≠ none ∧ id < σ.next ∧ srcN l j = id ∧ φ' j = φ id := by
   intro j hj
   have hx := List.getElem?_eq_getElem (show j < l.length by omega)
   obtain ⟨id, h1, h2⟩ := (hE.solid j _ hx).1 hj
   refine ⟨_, id, hx, h1, h2, ?_, by simp only [srcN, hx, h1], ?_⟩
   ·by_cases hlt : id < σ.next
    ·exact hlt
    ·exact absurd (hR.fresh id (by omega)) h2
   ·have := hK.pins j hj
    rw [this]
    show rnm l φ j = φ id
    simp only [rnm, hx, h1]
  have hlen : p ≤ os'.length := by
   by_cases h0 : p = 0
   ·omega
   ·obtain ⟨x, id, _, _, h2, _, _, h3⟩ := pinAt (p - 1) (by omega)
    by_cases hle : p ≤ os'.length
    ·exact hle
    ·have := hR'.fresh (p - 1) (by show os'.length ≤ p - 1; omega)
     rw [this] at h3
     exact absurd h3.symm h2
  let φ2 : Phi := fun id => if id < σ.next then φ id else φ' (p + (id - σ.next))
  have hold : ∀ id, id < σ.next → φ2 id = φ id := fun id h => if_pos h
  have hnew : ∀ id, ¬ id < σ.next → φ2 id = φ' (p + (id - σ.next)) := fun id h => if_neg h
  have htr : ∀ j, φ2 (trN l p σ.next j) = φ' j := by
   intro j
   unfold trN
   rw [blt_iff]
   by_cases hj : j < p
   ·obtain ⟨x, id, _, _, _, h4, h5, h6⟩ := pinAt j hj
    rw [decide_eq_true hj, cond_true, h5, hold id h4, h6]
   ·rw [decide_eq_false hj, cond_false]
    show φ2 (σ.next + (j - p)) = _
    rw [hnew _ (by omega), show p + (σ.next + (j - p) - σ.next) = j by omega]
  have hle2 : ∀ id lo, φ id = some lo → φ2 id = some lo := fun id lo h => by
   by_cases hlt : id < σ.next
   ·rw [hold id hlt]; exact h
   ·rw [hR.fresh id (by omega)] at h; cases h
  have hdl : (os'.drop p).length = os'.length - p := List.length_drop
  have hnx' : σ'.next = σ.next + (os'.length - p) := by rw [n1, hdl]
  -- an old object that stays
  have oldGet : ∀ id, id < σ.next → (∀ (j : Nat) (x : Nm), j < p → l[j]? = some x → x.src ≠ some id) → σ'.get id = (killL (l.drop p) σ).get id := by
   intro id hid hno
   rw [n2 id (.inl hid)]
   refine q2 id fun x hx hs => ?_
   obtain ⟨j, hj, rfl⟩ := List.getElem_of_mem hx
   rw [List.length_take] at hj
   rw [List.getElem_take] at hs
   exact hno j _ (by omega) (List.getElem?_eq_getElem (by omega)) hs
  -- what there is behind
  have cases_ : ∀ id o lo, σ'.get id = some o → φ2 id = some lo → (∃ j o', id = trN l p σ.next j ∧ os'[j]? = some (some o') ∧ rnO (trN l p σ.next) o' = some o ∧ φ' j = some lo) ∨
    (id < σ.next ∧ σ.get id = some o ∧ φ id = some lo ∧ ∀ (j : Nat) (x : Nm), l[j]? = some x → x.src = some id → o.rw = false) := by
   intro id o lo hg hl
   by_cases hid : id < σ.next
   ·by_cases hpin : ∃ (j : Nat) (x : Nm), j < p ∧ l[j]? = some x ∧ x.src = some id
    ·obtain ⟨j, x, hj, hx, hs⟩ := hpin
     rw [n2 id (.inl hid)] at hg
     have hxt : (l.take p)[j]? = some x := by rw [List.getElem?_take, if_pos hj]; exact hx
     rcases q3 j x id hxt hs with ⟨e1, e2⟩ | ⟨o0, o1, e1, e2, e3⟩
     ·rw [e2] at hg; cases hg
     ·rw [e3] at hg; injection hg with hg; subst hg
      obtain ⟨x', id', h1, h2, _, _, h5, h6⟩ := pinAt j hj
      rw [hx] at h1; injection h1 with h1; subst h1
      rw [hs] at h2; injection h2 with h2; subst h2
      refine .inl ⟨j, o0, ?_, e1, e2, ?_⟩
      ·unfold trN
       rw [blt_iff, decide_eq_true hj, cond_true, h5]
      ·rw [h6, ← hold id hid]; exact hl
    ·have hno : ∀ (j : Nat) (x : Nm), j < p → l[j]? = some x → x.src ≠ some id := fun j x hj hx hs => hpin ⟨j, x, hj, hx, hs⟩
     rw [oldGet id hid hno] at hg
     rw [hold id hid] at hl
     rcases k2 id with ⟨e1, e2⟩ | ⟨e1, _⟩
     ·rw [e1] at hg
      refine .inr ⟨hid, hg, hl, fun j x hx hs => ?_⟩
      by_cases hj : j < p
      ·exact absurd hs (hno j x hj hx)
      ·refine e2 x ?_ hs o hg
       have : (l.drop p)[j - p]? = some x := by rw [List.getElem?_drop, show p + (j - p) = j by omega]; exact hx
       exact List.mem_of_getElem? this
     ·rw [e1] at hg; cases hg
   ·rw [hnew id hid] at hl
    have hjl : p + (id - σ.next) < os'.length := by
     by_cases h : p + (id - σ.next) < os'.length
     ·exact h
     ·rw [hR'.fresh _ (by show os'.length ≤ _; omega)] at hl; cases hl
    rcases n3 (id - σ.next) (by rw [hdl]; omega) with ⟨e1, e2⟩ | ⟨o0, o1, e1, e2, e3⟩
    ·rw [show σ.next + (id - σ.next) = id by omega] at e2
     rw [e2] at hg
     have : σ1.get id = none := by
      rw [q2 id (fun x hx hs => by
       obtain ⟨j, hj, rfl⟩ := List.getElem_of_mem hx
       rw [List.length_take] at hj
       rw [List.getElem_take] at hs
       obtain ⟨x', id', h1, h2, _, h4, _, _⟩ := pinAt j (by omega)
       rw [List.getElem?_eq_getElem (by omega)] at h1
       injection h1 with h1
       rw [← h1, hs] at h2
       injection h2 with h2
       omega)]
      rcases k2 id with ⟨e1, _⟩ | ⟨e1, _⟩
      ·rw [e1]; exact hR.gfresh id (by omega)
      ·exact e1
     rw [this] at hg; cases hg
    ·rw [show σ.next + (id - σ.next) = id by omega] at e3
     rw [e3] at hg; injection hg with hg; subst hg
     rw [List.getElem?_drop] at e1
     refine .inl ⟨p + (id - σ.next), o0, ?_, e1, e2, hl⟩
     unfold trN
     rw [blt_iff, decide_eq_false (by omega), cond_false]
     show id = σ.next + (p + (id - σ.next) - p)
     omega
  -- blocks that the run leaves alone
  have safe : ∀ id o lo, id < σ.next → σ.get id = some o → φ id = some lo → (∀ (j : Nat) (x : Nm), l[j]? = some x → x.src = some id → o.rw = false) → lo.c < w.heap.size ∧ ¬ (kcOf w l φ os p).S lo.c := by
   intro id o lo hid hg hl hno
   refine ⟨hR.lt hg hl, fun hS => ?_⟩
   obtain ⟨k, ok, lok, e1, e2, e3, e4⟩ := hS
   obtain ⟨x, idk, o0, d1, d2, d3, d4, d5⟩ := hE.corr k ok lok e1 e2
   rw [d5] at e3
   by_cases hi : idk = id
   ·subst hi
    rw [d3] at hg; injection hg with hg; subst hg
    have := hno k x d1 d2
    rw [this] at e3; cases e3
   ·exact hR.inj idk id o0 o lok lo hi d3 hg d4 hl e3 e4
  have h2 : ∀ j lo, φ' j = some lo → φ2 (trN l p σ.next j) = some lo := fun j lo h => by rw [htr j]; exact h
  refine ⟨φ2, ⟨?_, ?_, ?_, ?_, ?_, hR'.below⟩, ⟨hle2, ?_, ?_, ?_, ?_, by omega, hK.size⟩, h2⟩
  ·intro id o lo hg hl
   rcases cases_ id o lo hg hl with ⟨j, o', rfl, e1, e2, e3⟩ | ⟨e1, e2, e3, e4⟩
   ·exact (rnO_ok h2 e2).2 (hR'.objs j o' lo (stC_some.2 e1) e3)
   ·obtain ⟨s1, s2⟩ := safe id o lo e1 e2 e3 e4
    exact (hR.objs id o lo e2 e3).keep (hK.frame _ s1 s2) hle2
  ·intro id o lo hg hl
   rcases cases_ id o lo hg hl with ⟨j, o', rfl, e1, e2, e3⟩ | ⟨e1, e2, e3, e4⟩
   ·rw [(rnO_ok (w := w') (lo := lo) h2 e2).1]
    exact hR'.own j o' lo (stC_some.2 e1) e3
   ·exact hR.own id o lo e2 e3
  ·intro i j oi oj li lj hij hi hj hli hlj hrw
   rcases cases_ i oi li hi hli with ⟨x, ox, rfl, e1, e2, e3⟩ | ⟨e1, e2, e3, e4⟩
   ·have hrw' : ox.rw = true := by rw [← (rnO_ok (w := w') (lo := li) h2 e2).1]; exact hrw
    rcases cases_ j oj lj hj hlj with ⟨y, oy, rfl, d1, d2, d3⟩ | ⟨d1, d2, d3, d4⟩
    ·exact hR'.inj x y ox oy li lj (fun h => hij (by rw [h])) (stC_some.2 e1) (stC_some.2 d1) e3 d3 hrw'
    ·obtain ⟨s1, s2⟩ := safe j oj lj d1 d2 d3 d4
     rcases hK.own x ox li (stC_some.2 e1) e3 hrw' with h | h
     ·intro he; rw [he] at h; exact s2 h
     ·have h : w.heap.size ≤ li.c := h
      omega
   ·obtain ⟨s1, s2⟩ := safe i oi li e1 e2 e3 e4
    rcases cases_ j oj lj hj hlj with ⟨y, oy, rfl, d1, d2, d3⟩ | ⟨d1, d2, d3, d4⟩
    ·cases hrwy : oy.rw with
     | true =>
       rcases hK.own y oy lj (stC_some.2 d1) d3 hrwy with h | h
       ·intro he; rw [← he] at h; exact s2 h
       ·have h : w.heap.size ≤ lj.c := h
        omega
     | false =>
       have h1 := (hR.own i oi li e2 e3).1 hrw
       have h3 := (hR'.own y oy lj (stC_some.2 d1) d3).2
       intro he
       have := h3 (by omega)
       rw [hrwy] at this; cases this
    ·exact hR.inj i j oi oj li lj hij e2 d2 e3 d3 hrw
  ·intro id hid
   rw [hnx'] at hid
   rw [hnew id (by omega)]
   exact hR'.fresh _ (by show os'.length ≤ _; omega)
  ·intro id hid
   rw [hnx'] at hid
   rw [n2 id (.inr (by rw [hdl]; omega)), q2 id (fun x hx hs => by
    obtain ⟨j, hj, rfl⟩ := List.getElem_of_mem hx
    rw [List.length_take] at hj
    rw [List.getElem_take] at hs
    obtain ⟨x', id', h1, h2, _, h4, _, _⟩ := pinAt j (by omega)
    rw [List.getElem?_eq_getElem (by omega)] at h1
    injection h1 with h1
    rw [← h1, hs] at h2
    injection h2 with h2
    omega)]
   rcases k2 id with ⟨e1, _⟩ | ⟨e1, _⟩
   ·rw [e1]; exact hR.gfresh id (by omega)
   ·exact e1
  ·intro id hid hn
   rw [hold id hid]; exact hn
  ·intro id hid hn
   rw [oldGet id hid (fun j x hj hx hs => by
    obtain ⟨x', id', h1, h2, h3, _, _, _⟩ := pinAt j hj
    rw [hx] at h1; injection h1 with h1; subst h1
    rw [hs] at h2; injection h2 with h2; subst h2
    exact h3 hn)]
   rcases k2 id with ⟨e1, _⟩ | ⟨_, x, hx, e2, o, e3, e4⟩
   ·exact e1
   ·exfalso
    obtain ⟨j, hj, rfl⟩ := List.getElem_of_mem hx
    rw [List.length_drop] at hj
    rw [List.getElem_drop] at e2
    exact (hE.solid (p + j) _ (List.getElem?_eq_getElem (by omega))).2 (by omega) id o e2 e3 e4 hn
  ·intro c hc hno
   refine hK.frame c hc fun hS => ?_
   obtain ⟨k, ok, lok, e1, e2, e3, e4⟩ := hS
   obtain ⟨x, idk, o0, d1, d2, d3, d4, d5⟩ := hE.corr k ok lok e1 e2
   rw [d5] at e3
   exact hno idk o0 lok d3 d4 e3 e4
  ·intro id o lo hg hl hrw
   rcases cases_ id o lo hg hl with ⟨j, o', rfl, e1, e2, e3⟩ | ⟨e1, e2, e3, e4⟩
   ·have hrw' : o'.rw = true := by rw [← (rnO_ok (w := w') (lo := lo) h2 e2).1]; exact hrw
    rcases hK.own j o' lo (stC_some.2 e1) e3 hrw' with h | h
    ·obtain ⟨k, ok, lok, c1, c2, c3, c4⟩ := h
     obtain ⟨x, idk, o0, d1, d2, d3, d4, d5⟩ := hE.corr k ok lok c1 c2
     rw [d5] at c3
     exact .inr ⟨idk, o0, lok, d3, d4, c3, c4⟩
    ·exact .inl h
   ·exact .inr ⟨id, o, lo, e2, e3, hrw, rfl⟩
 ·cases hb
end
end Go.Proofs.Ytmjmhpbncfjnpaa.Bm
