/- The abstract machine: canonical states; what a run keeps; a round of a loop; loops. -/
import Derived.Test.YtmjmhpbncfjnpaaBmVb
set_option linter.unusedSimpArgs false
set_option linter.unusedVariables false
namespace Go.Proofs.Ytmjmhpbncfjnpaa.Bm
open Go.RowKit
def Tr.ofOpts {α : Type} : List (Option α) → Nat → Tr α → Tr α
 | [], _, t => t
 | none :: xs, n, t => Tr.ofOpts xs (Nat.succ n) t
 | some x :: xs, n, t => Tr.ofOpts xs (Nat.succ n) (t.set n (some x))
def stC (h : List (Option AObj)) : St := { heap := Tr.ofOpts h 0 .nil, next := h.length }
theorem ofOpts_get {α : Type} : ∀ (xs : List (Option α)) (i : Nat) (t : Tr α) (j : Nat), (∀ k, i ≤ k → t.get k = none) → (Tr.ofOpts xs i t).get j = if i ≤ j then (match xs[j - i]? with | some o => o | none => none) else t.get j
 | [], i, t, j, h => by
   simp only [Tr.ofOpts]
   by_cases hj : i ≤ j
   ·rw [if_pos hj, h j hj]; simp
   ·rw [if_neg hj]
 | none :: xs, i, t, j, h => by
   have e : Nat.succ i = i + 1 := rfl
   simp only [Tr.ofOpts]
   rw [ofOpts_get xs _ _ _ (fun k hk => h k (by omega)), e]
   by_cases hj : i + 1 ≤ j
   ·rw [if_pos hj, if_pos (by omega)]
    obtain ⟨d, rfl⟩ : ∃ d, j = i + 1 + d := ⟨j - (i + 1), by omega⟩
    rw [show i + 1 + d - (i + 1) = d by omega, show i + 1 + d - i = d + 1 by omega]; rfl
   ·rw [if_neg hj]
    by_cases hji : i ≤ j
    ·have : j = i := by omega
     subst this
     rw [if_pos (by omega), h j (by omega), Nat.sub_self]; rfl
    ·rw [if_neg hji]
 | some x :: xs, i, t, j, h => by
   have e : Nat.succ i = i + 1 := rfl
   simp only [Tr.ofOpts]
   rw [ofOpts_get xs _ _ _ (fun k hk => by rw [Tr.get_set, if_neg (by omega)]; exact h k (by omega)), e]
   by_cases hj : i + 1 ≤ j
   ·rw [if_pos hj, if_pos (by omega)]
    obtain ⟨d, rfl⟩ : ∃ d, j = i + 1 + d := ⟨j - (i + 1), by omega⟩
    rw [show i + 1 + d - (i + 1) = d by omega, show i + 1 + d - i = d + 1 by omega]; rfl
   ·rw [if_neg hj, Tr.get_set]
    by_cases hji : i ≤ j
    ·have : j = i := by omega
     subst this
     rw [if_pos rfl, if_pos (by omega), Nat.sub_self]; rfl
    ·rw [if_neg hji, if_neg (by omega)]
theorem stC_get (H : List (Option AObj)) (j : Nat) : (stC H).get j = (match H[j]? with | some o => o | none => none) := by
 show (Tr.ofOpts H 0 .nil).get j = _
 rw [ofOpts_get H 0 .nil j (fun _ _ => rfl), if_pos (Nat.zero_le _), Nat.sub_zero]
 cases H[j]? <;> rfl
theorem stC_some {H : List (Option AObj)} {j : Nat} {o : AObj} : (stC H).get j = some o ↔ H[j]? = some (some o) := by
 rw [stC_get]
 constructor
 ·intro h
  split at h
  ·rename_i x hx; rw [hx, h]
  ·cases h
 ·intro h; rw [h]
def cents (l : Names) : List (AV × AV × Nat) → Option (List (AV × AV × Nat) × Names)
 | [] => some ([], l)
 | (k, v, b) :: es => match cv l k with
   | some (k', l1) => match cv l1 v with
     | some (v', l2) => match cents l2 es with
       | some (es', l3) => some ((k', v', b) :: es', l3)
       | none => none
     | none => none
   | none => none
def co (l : Names) (ps : List PV) : Nm → AObj → Option (AObj × Names)
 | .typed _ sh, .cells vs rw => cond (rowsFit sh 0 vs && Nat.beq (Nat.mul (Nat.div vs.length sh.length) sh.length) vs.length)
    (some (.tarr sh (Nat.div vs.length sh.length) (rowsOf sh.length vs (Nat.div vs.length sh.length)) rw, l)) none
 | _, .cells vs rw => match cvPs l ps vs with
   | some (vs', l') => some (.cells vs' rw, l')
   | none => none
 | _, .tarr sh n f rw => some (.tarr sh n f rw, l)
 | _, .omap ks vs ka va z has f rw => some (.omap ks vs ka va z has f rw, l)
 | _, .map es c => match cents l es with
   | some (es', l') => some (.map es' c, l')
   | none => none
 | _, _ => none
theorem VR_view {φ φ' : Phi} {s : Sh} {a : AV} {v : Value} (h : VR φ (view s a) v) : VR φ' (view s a) v := by
 cases s <;> simpa only [view, VR] using h
theorem trow_view (f : Nat → AV) : ∀ (sh : List Sh) (j : Nat), ∀ x ∈ trow f sh j, ∃ s a, x = view s a
 | [], _, x, h => by simp [trow] at h
 | s :: sh, j, x, h => by
   simp only [trow, List.mem_cons] at h
   rcases h with h | h
   ·exact ⟨s, _, h⟩
   ·exact trow_view f sh _ x h
theorem tcells_view (sh : List Sh) (f : Nat → Nat → AV) : ∀ (i n : Nat), ∀ x ∈ tcells sh f i n, ∃ s a, x = view s a
 | _, 0, x, h => by simp [tcells] at h
 | i, n + 1, x, h => by
   simp only [tcells, List.mem_append] at h
   rcases h with h | h
   ·exact trow_view _ sh _ x h
   ·exact tcells_view sh f _ _ x h
theorem cells_tarr {φ φ' : Phi} {w : World} {lo : Loc} {sh : List Sh} {n : Nat} {f : Nat → Nat → AV} {rw_ : Bool} (h : CellsR φ w lo (tcells sh f 0 n) rw_) : CellsR φ' w lo (tcells sh f 0 n) rw_ := by
 obtain ⟨h1, h2, h3⟩ := h
 refine ⟨fun j x hj => ?_, h2, h3⟩
 obtain ⟨v, d1, d2⟩ := h1 j x hj
 obtain ⟨s, a, rfl⟩ := tcells_view _ _ _ _ x (List.mem_of_getElem? hj)
 exact ⟨v, d1, VR_view d2⟩
theorem cells_row {φ : Phi} {w : World} {c o : Nat} : ∀ (vs : List AV) (i : Nat), (∀ (j : Nat) (x : AV), vs[j]? = some x → ∃ v, w.cell? ⟨c, o + (i + j), none⟩ = some v ∧ VR φ x v) → ∃ us : List Value, VRL φ vs us ∧ ∀ j u, us[j]? = some u → w.cell? ⟨c, o + (i + j), none⟩ = some u
 | [], i, _ => ⟨[], VRL.nil, fun j u h => by simp at h⟩
 | x :: vs, i, h => by
   obtain ⟨v, h1, h2⟩ := h 0 x rfl
   obtain ⟨us, k1, k2⟩ := cells_row vs (i + 1) fun j y hj => by
    have := h (j + 1) y (by simpa using hj)
    rw [show i + 1 + j = i + (j + 1) by omega]; exact this
   refine ⟨v :: us, VRL.cons h2 k1, fun j u hj => ?_⟩
   cases j with
   | zero => simp at hj; subst hj; exact h1
   | succ j =>
     have := k2 j u (by simpa using hj)
     rw [show i + (j + 1) = i + 1 + j by omega]; exact this
theorem cents_ok : ∀ (l : Names) (es es' : List (AV × AV × Nat)) (l' : Names), cents l es = some (es', l') → Fol l l' ∧ es'.length = es.length ∧
  ∀ (j : Nat) (e' : AV × AV × Nat), es'[j]? = some e' → ∃ e, es[j]? = some e ∧ e.2.2 = e'.2.2 ∧ Lesser l' e.1 e'.1 ∧ Lesser l' e.2.1 e'.2.1
 | l, [], es', l', h => by
   simp only [cents, Option.some.injEq, Prod.mk.injEq] at h
   obtain ⟨rfl, rfl⟩ := h
   exact ⟨Fol.refl _, rfl, fun j e h => by simp at h⟩
 | l, (k, v, b) :: es, es', l', h => by
   simp only [cents] at h
   cases h1 : cv l k with
   | none => rw [h1] at h; cases h
   | some p =>
     obtain ⟨k', l1⟩ := p
     rw [h1] at h
     simp only at h
     cases h2 : cv l1 v with
     | none => rw [h2] at h; cases h
     | some p =>
       obtain ⟨v', l2⟩ := p
       rw [h2] at h
       simp only at h
       cases h3 : cents l2 es with
       | none => rw [h3] at h; cases h
       | some p =>
         obtain ⟨r, l3⟩ := p
         rw [h3] at h
         simp only [Option.some.injEq, Prod.mk.injEq] at h
         obtain ⟨rfl, rfl⟩ := h
         obtain ⟨f1, g1⟩ := cv_ok l k k' l1 h1
         obtain ⟨f2, g2⟩ := cv_ok l1 v v' l2 h2
         obtain ⟨f3, q1, q2⟩ := cents_ok l2 es r _ h3
         refine ⟨(f1.trans f2).trans f3, by simp [q1], fun j e' hj => ?_⟩
         cases j with
         | zero =>
           simp at hj; subst hj
           exact ⟨_, rfl, rfl, fun φ u l'' hl hv => g1 φ u l'' ((f2.1.trans f3.1).trans hl) hv, fun φ u l'' hl hv => g2 φ u l'' (f3.1.trans hl) hv⟩
         | succ j => simpa using q2 j e' (by simpa using hj)
theorem flat_any {φ φ' : Phi} {s : Sh} {x : AV} {v : Value} (h : shOk s x = true) (hv : VR φ x v) : VR φ' x v := by
 cases s <;> cases x <;> simp [shOk] at h <;> (simp only [VR] at hv ⊢; exact hv)
theorem flats_any {φ φ' : Phi} : ∀ {ks : List Sh} {xs : List AV} {vs : List Value}, shFit ks xs = true → VRL φ xs vs → VRL φ' xs vs
 | _, [], vs, _, hv => by simp only [VRL] at hv ⊢; exact hv
 | [], _ :: _, _, h, _ => by simp [shFit] at h
 | s :: ks, x :: xs, vs, h, hv => by
   simp only [shFit, Bool.and_eq_true] at h
   simp only [VRL] at hv ⊢
   obtain ⟨v, us, rfl, h1, h2⟩ := hv
   exact ⟨v, us, rfl, flat_any h.1 h1, flats_any h.2 h2⟩
theorem key_any {φ φ' : Phi} {ks : List Sh} {ka : Bool} {k : AV} {v : Value} (h : keyFit ks ka k = true) (hv : VR φ k v) : VR φ' k v := by
 cases ka with
 | false =>
   simp only [keyFit] at h
   split at h
   ·exact flat_any h hv
   ·cases h
 | true =>
   simp only [keyFit] at h
   split at h
   ·simp only [Bool.and_eq_true] at h
    simp only [VR] at hv ⊢
    obtain ⟨vs, e, hv⟩ := hv
    exact ⟨vs, e, flats_any h.1 hv⟩
   ·cases h
theorem view_any {φ φ' : Phi} {s : Sh} {a : AV} {v : Value} (hv : VR φ (view s a) v) : VR φ' (view s a) v := by
 cases s <;> (simp only [view, VR] at hv ⊢; exact hv)
theorem trow_any {φ φ' : Phi} {f : Nat → AV} : ∀ {sh : List Sh} {j : Nat} {vs : List Value}, VRL φ (trow f sh j) vs → VRL φ' (trow f sh j) vs
 | [], j, vs, hv => by simp only [trow, VRL] at hv ⊢; exact hv
 | s :: sh, j, vs, hv => by
   simp only [trow, VRL] at hv ⊢
   obtain ⟨v, us, rfl, h1, h2⟩ := hv
   exact ⟨v, us, rfl, view_any h1, trow_any h2⟩
theorem val_any {φ φ' : Phi} {va : Bool} {f : AV → Nat → AV} {vs : List Sh} {k x : AV} {v : Value} (h : ofCells va (trow (f k) vs 0) = some x) (hv : VR φ x v) : VR φ' x v := by
 cases va with
 | true =>
   simp only [ofCells, cond_true, Option.some.injEq] at h; subst h
   simp only [VR] at hv ⊢
   obtain ⟨us, e, hv⟩ := hv
   exact ⟨us, e, trow_any hv⟩
 | false =>
   cases vs with
   | nil => simp [ofCells, trow] at h
   | cons s sh =>
     cases sh with
     | nil =>
       simp only [ofCells, trow, cond_false, Option.some.injEq] at h; subst h
       exact view_any hv
     | cons s' sh => simp [ofCells, trow] at h
theorem omap_any {φ φ' : Phi} {w : World} {lo : Loc} {ks vs : List Sh} {ka va : Bool} {z : List AV} {has : AV → Bool} {f : AV → Nat → AV} {b : Bool} (h : ObjR φ w lo (.omap ks vs ka va z has f b)) : ObjR φ' w lo (.omap ks vs ka va z has f b) := by
 obtain ⟨es, clock, ⟨ms, a, b1, b2⟩, c⟩ := h
 refine ⟨es, clock, ⟨ms, a, b1, fun j e he => ?_⟩, c⟩
 obtain ⟨m, m1, m2, m3, m4⟩ := b2 j e he
 obtain ⟨c1, c2, c3⟩ := c.1 e (List.mem_of_getElem? he)
 exact ⟨m, m1, key_any c1 m2, val_any c3 m3, m4⟩
theorem co_ok {l l' : Names} {ps : List PV} {x : Nm} {o o' : AObj} (h : co l ps x o = some (o', l')) : Fol l l' ∧ o'.rw = o.rw ∧ ∀ φ w lo l'', l' <+: l'' → ObjR φ w lo o → ObjR (rnm l'' φ) w lo o' := by
 have cellsCase : ∀ (vs : List AV) (rw_ : Bool), (match cvPs l ps vs with | some (vs', l') => some (AObj.cells vs' rw_, l') | none => none) = some (o', l') → Fol l l' ∧ o'.rw = rw_ ∧ ∀ φ w lo l'', l' <+: l'' → ObjR φ w lo (.cells vs rw_) → ObjR (rnm l'' φ) w lo o' := by
  intro vs rw_ h
  cases ha : cvPs l ps vs with
  | none => rw [ha] at h; cases h
  | some p =>
    obtain ⟨vs', l1⟩ := p
    rw [ha] at h
    simp only [Option.some.injEq, Prod.mk.injEq] at h
    obtain ⟨rfl, rfl⟩ := h
    obtain ⟨f1, g1⟩ := cvPs_ok l ps vs vs' _ ha
    refine ⟨f1, rfl, fun φ w lo l'' hl hO => ?_⟩
    obtain ⟨c1, c2, c3⟩ := hO
    obtain ⟨us, k1, k2⟩ := cells_row (φ := φ) (w := w) (c := lo.c) (o := lo.o) vs 0 (fun j y hj => by simpa using c1 j y hj)
    have k3 := g1 φ us l'' hl k1
    refine ⟨fun j y hj => ?_, by rw [← k3.length, k1.length]; exact c2, c3⟩
    obtain ⟨u, q1, q2⟩ := k3.at_ j y hj
    have := k2 j u q1
    rw [Nat.zero_add] at this
    exact ⟨u, this, q2⟩
 cases o with
 | cells vs rw_ =>
   cases x with
   | typed n sh =>
     simp only [co] at h
     cases hk : (rowsFit sh 0 vs && Nat.beq (Nat.mul (Nat.div vs.length sh.length) sh.length) vs.length) with
     | false => rw [hk] at h; cases h
     | true =>
       rw [hk] at h
       simp only [cond_true, Option.some.injEq, Prod.mk.injEq] at h
       obtain ⟨rfl, rfl⟩ := h
       simp only [Bool.and_eq_true] at hk
       have hlen : vs.length = Nat.div vs.length sh.length * sh.length := (Nat.eq_of_beq_eq_true hk.2).symm
       refine ⟨Fol.refl _, rfl, fun φ w lo l'' hl hO => ?_⟩
       have heq := rows_cells hk.1 hlen
       have : CellsR φ w lo (tcells sh (rowsOf sh.length vs (Nat.div vs.length sh.length)) 0 (Nat.div vs.length sh.length)) rw_ := by rw [heq]; exact hO
       exact cells_tarr this
   | id n => exact cellsCase vs rw_ (by simpa only [co] using h)
   | ghost sh => exact cellsCase vs rw_ (by simpa only [co] using h)
 | tarr sh n f rw_ =>
   have h : some (AObj.tarr sh n f rw_, l) = some (o', l') := by cases x <;> simpa only [co] using h
   simp only [Option.some.injEq, Prod.mk.injEq] at h
   obtain ⟨rfl, rfl⟩ := h
   exact ⟨Fol.refl _, rfl, fun φ w lo l'' hl hO => cells_tarr hO⟩
 | omap ks vs ka va z has f rw_ =>
   have h : some (AObj.omap ks vs ka va z has f rw_, l) = some (o', l') := by cases x <;> simpa only [co] using h
   simp only [Option.some.injEq, Prod.mk.injEq] at h
   obtain ⟨rfl, rfl⟩ := h
   exact ⟨Fol.refl _, rfl, fun φ w lo l'' hl hO => omap_any hO⟩
 | map es c =>
   have h : (match cents l es with | some (es', l') => some (AObj.map es' c, l') | none => none) = some (o', l') := by cases x <;> simpa only [co] using h
   cases ha : cents l es with
   | none => rw [ha] at h; cases h
   | some p =>
     obtain ⟨es', l1⟩ := p
     rw [ha] at h
     simp only [Option.some.injEq, Prod.mk.injEq] at h
     obtain ⟨rfl, rfl⟩ := h
     obtain ⟨f1, q1, q2⟩ := cents_ok l es es' _ ha
     refine ⟨f1, rfl, fun φ w lo l'' hl hO => ?_⟩
     obtain ⟨ms, m1, m2, m3⟩ := hO
     refine ⟨ms, m1, by rw [q1]; exact m2, fun j e' he => ?_⟩
     obtain ⟨e, e1, e2, e3, e4⟩ := q2 j e' he
     obtain ⟨m, d1, d2, d3, d4⟩ := m3 j e e1
     exact ⟨m, d1, e3 φ _ l'' hl d2, e4 φ _ l'' hl d3, by rw [← e2]; exact d4⟩
 | loop lp => cases x <;> simp [co] at h
 | defd => cases x <;> simp [co] at h
 | miter m s z y => cases x <;> simp [co] at h
structure Pat where
 size : Nat
 ts : List (Tmp × PV)
 os : List (List PV)
structure CS where
 ts : List AV
 os : List (Option AObj)
def patAt : List (List PV) → Nat → List PV
 | [], _ => []
 | p :: _, 0 => p
 | _ :: ps, n + 1 => patAt ps n
def badTr (n : Nat) : Tr AV := Tr.ofList (List.replicate n .bad) 0 .nil
def setTs : List (Tmp × PV) → List AV → Tr AV → Tr AV
 | t :: ts, v :: vs, tr => setTs ts vs (tr.set t.1 (some v))
 | _, _, tr => tr
def frC (P : Pat) (c : CS) : Fr := { tmps := setTs P.ts c.ts (badTr P.size), size := P.size, marks := [], rnd := none }
def canonT (fr : Fr) (l : Names) : List (Tmp × PV) → Option (List AV × Names)
 | [] => some ([], l)
 | (t, p) :: r => match cond (Nat.blt t fr.size) (cvP l p (fr.get t)) none with
   | some (v, l1) => match canonT fr l1 r with
     | some (vs, l2) => some (v :: vs, l2)
     | none => none
   | none => none
def canon1 (g : Nat → Option AObj) (ps : List PV) (l : Names) (x : Nm) : Option (Option AObj × Names) := match x with
 | .ghost sh => some (some (.tarr sh 0 (fun _ _ => .bad) true), l)
 | .id n => match g n with
   | none => some (none, l)
   | some o => match co l ps (.id n) o with
     | some (o', l1) => some (some o', l1)
     | none => none
 | .typed n sh => match g n with
   | none => some (none, l)
   | some o => match co l ps (.typed n sh) o with
     | some (o', l1) => some (some o', l1)
     | none => none
def canonO (g : Nat → Option AObj) (ops : List (List PV)) : Nat → Nat → Names → Option (List (Option AObj) × Names)
 | 0, _, _ => none
 | f + 1, k, l => match l[k]? with
   | none => some ([], l)
   | some x => match canon1 g (patAt ops k) l x with
     | none => none
     | some (o, l1) => match canonO g ops f (Nat.succ k) l1 with
       | some (os, l2) => some (o :: os, l2)
       | none => none
def isNil {α : Type} : List α → Bool
 | [] => true
 | _ => false
def isNone {α : Type} : Option α → Bool
 | none => true
 | _ => false
def canon (P : Pat) (seeds : Names) (fr : Fr) (σ : St) : Option (CS × Names) :=
 cond (Nat.beq fr.size P.size && isNil fr.marks && isNone fr.rnd) (match canonT fr seeds P.ts with
  | some (ts, l) => match canonO σ.get P.os 1000 0 l with
    | some (os, l') => some (⟨ts, os⟩, l')
    | none => none
  | none => none) none
section
variable {φ φ' : Phi} {w0 w w' : World} {g g' : Heap} {n n' : Nat} {σ σ' : St} {fr fr' : Fr} {a : Act}
theorem canonT_ok : ∀ {ts : List (Tmp × PV)} {l l' : Names} {vs : List AV}, canonT fr l ts = some (vs, l') → Fol l l' ∧ vs.length = ts.length ∧
  ∀ (i : Nat) (t : Tmp × PV) (v : AV), ts[i]? = some t → vs[i]? = some v → t.1 < fr.size ∧ Lesser l' (fr.get t.1) v
 | [], l, l', vs, h => by
   simp only [canonT, Option.some.injEq, Prod.mk.injEq] at h
   obtain ⟨rfl, rfl⟩ := h
   exact ⟨Fol.refl _, rfl, fun i t v h => by simp at h⟩
 | (t, p) :: r, l, l', vs, h => by
   simp only [canonT] at h
   cases hb : Nat.blt t fr.size with
   | false => rw [hb] at h; cases h
   | true =>
     rw [hb] at h
     simp only [cond_true] at h
     cases ha : cvP l p (fr.get t) with
     | none => rw [ha] at h; cases h
     | some q =>
       obtain ⟨v, l1⟩ := q
       rw [ha] at h
       simp only at h
       cases hr : canonT fr l1 r with
       | none => rw [hr] at h; cases h
       | some q =>
         obtain ⟨us, l2⟩ := q
         rw [hr] at h
         simp only [Option.some.injEq, Prod.mk.injEq] at h
         obtain ⟨rfl, rfl⟩ := h
         obtain ⟨f1, g1⟩ := cvP_ok l p _ v l1 ha
         obtain ⟨f2, k1, k2⟩ := canonT_ok hr
         refine ⟨f1.trans f2, by simp [k1], fun i t' v' ht hv => ?_⟩
         cases i with
         | zero =>
           simp at ht hv; subst ht; subst hv
           exact ⟨by simpa [Nat.blt_eq] using hb, fun φ u l'' hl hu => g1 φ u l'' (f2.1.trans hl) hu⟩
         | succ i => exact k2 i t' v' (by simpa using ht) (by simpa using hv)
theorem canon1_ok {ps : List PV} {l l' : Names} {x : Nm} {o : Option AObj} (h : canon1 g ps l x = some (o, l')) : Fol l l' ∧
  ∀ o', o = some o' → ∀ id, x.src = some id → ∃ o0, g id = some o0 ∧ o'.rw = o0.rw ∧ ∀ φ w lo l'', l' <+: l'' → ObjR φ w lo o0 → ObjR (rnm l'' φ) w lo o' := by
 have key : ∀ (n : Nat) (y : Nm), (match g n with | none => some (none, l) | some o => match co l ps y o with | some (o', l1) => some (some o', l1) | none => none) = some (o, l') → Fol l l' ∧
   ∀ o', o = some o' → ∃ o0, g n = some o0 ∧ o'.rw = o0.rw ∧ ∀ φ w lo l'', l' <+: l'' → ObjR φ w lo o0 → ObjR (rnm l'' φ) w lo o' := by
  intro n y h
  cases hg : g n with
  | none =>
    rw [hg] at h
    simp only [Option.some.injEq, Prod.mk.injEq] at h
    obtain ⟨rfl, rfl⟩ := h
    exact ⟨Fol.refl _, fun o' h => by cases h⟩
  | some o0 =>
    rw [hg] at h
    simp only at h
    cases hc : co l ps y o0 with
    | none => rw [hc] at h; cases h
    | some q =>
      obtain ⟨o1, l1⟩ := q
      rw [hc] at h
      simp only [Option.some.injEq, Prod.mk.injEq] at h
      obtain ⟨rfl, rfl⟩ := h
      obtain ⟨f1, k1, k2⟩ := co_ok hc
      refine ⟨f1, fun o' he => ?_⟩
      injection he with he; subst he
      exact ⟨o0, rfl, k1, k2⟩
 cases x with
 | ghost sh =>
   simp only [canon1, Option.some.injEq, Prod.mk.injEq] at h
   obtain ⟨rfl, rfl⟩ := h
   exact ⟨Fol.refl _, fun o' _ id hs => by cases hs⟩
 | id n =>
   obtain ⟨k1, k2⟩ := key n _ (by simpa only [canon1] using h)
   refine ⟨k1, fun o' ho id hs => ?_⟩
   simp only [Nm.src, Option.some.injEq] at hs; subst hs
   exact k2 o' ho
 | typed n sh =>
   obtain ⟨k1, k2⟩ := key n _ (by simpa only [canon1] using h)
   refine ⟨k1, fun o' ho id hs => ?_⟩
   simp only [Nm.src, Option.some.injEq] at hs; subst hs
   exact k2 o' ho
theorem canonO_ok : ∀ {f : Nat} {ops : List (List PV)} {k : Nat} {l l' : Names} {os : List (Option AObj)}, canonO g ops f k l = some (os, l') → k ≤ l.length → Fol l l' ∧ k + os.length = l'.length ∧
  ∀ (j : Nat) (o : AObj), os[j]? = some (some o) → ∀ x id, l'[k + j]? = some x → x.src = some id → ∃ o0, g id = some o0 ∧ o.rw = o0.rw ∧ ∀ φ w lo, ObjR φ w lo o0 → ObjR (rnm l' φ) w lo o
 | 0, ops, k, l, l', os, h, hk => by simp [canonO] at h
 | f + 1, ops, k, l, l', os, h, hk => by
   simp only [canonO] at h
   cases hx : l[k]? with
   | none =>
     rw [hx] at h
     simp only [Option.some.injEq, Prod.mk.injEq] at h
     obtain ⟨rfl, rfl⟩ := h
     have := List.getElem?_eq_none_iff.1 hx
     exact ⟨Fol.refl _, by simp; omega, fun j o h => by simp at h⟩
   | some x =>
     rw [hx] at h
     simp only at h
     cases hc : canon1 g (patAt ops k) l x with
     | none => rw [hc] at h; cases h
     | some q =>
       obtain ⟨o, l1⟩ := q
       rw [hc] at h
       simp only at h
       cases hr : canonO g ops f (Nat.succ k) l1 with
       | none => rw [hr] at h; cases h
       | some q =>
         obtain ⟨os', l2⟩ := q
         rw [hr] at h
         simp only [Option.some.injEq, Prod.mk.injEq] at h
         obtain ⟨rfl, rfl⟩ := h
         obtain ⟨f1, k1⟩ := canon1_ok hc
         have hkl := (List.getElem?_eq_some_iff.1 hx).1
         have hle := f1.1.length_le
         obtain ⟨f2, q1, q2⟩ := canonO_ok hr (show k + 1 ≤ l1.length by omega)
         refine ⟨f1.trans f2, by simp; omega, fun j o' ho y id hy hs => ?_⟩
         cases j with
         | zero =>
           simp at ho
           rw [Nat.add_zero, pre_at (f1.trans f2).1 hx] at hy
           injection hy with hy; subst hy
           obtain ⟨o0, e1, e2, e3⟩ := k1 o' ho id hs
           exact ⟨o0, e1, e2, fun φ w lo hO => e3 φ w lo _ f2.1 hO⟩
         | succ j =>
           exact q2 j o' (by simpa using ho) y id (by rw [show Nat.succ k + j = k + (j + 1) by omega]; exact hy) hs
theorem setTs_ok {arr : Array Value} : ∀ {ts : List (Tmp × PV)} {vs : List AV} {tr : Tr AV}, (∀ j, VR φ (match tr.get j with | some v => v | none => .undef) (arr.getD j undef)) →
  (∀ (i : Nat) (t : Tmp × PV) (v : AV), ts[i]? = some t → vs[i]? = some v → VR φ v (arr.getD t.1 undef)) → ∀ j, VR φ (match (setTs ts vs tr).get j with | some v => v | none => .undef) (arr.getD j undef)
 | [], vs, tr, h, _, j => by cases vs <;> exact h j
 | t :: ts, [], tr, h, _, j => h j
 | t :: ts, v :: vs, tr, h, hv, j => by
   simp only [setTs]
   refine setTs_ok (fun j => ?_) (fun i t' v' ht hv' => hv (i + 1) t' v' (by simpa using ht) (by simpa using hv')) j
   rw [Tr.get_set]
   by_cases hj : j = t.1
   ·subst hj
    rw [if_pos rfl]
    exact hv 0 t v rfl rfl
   ·rw [if_neg hj]; exact h j
theorem badTr_ok {arr : Array Value} {k : Nat} (hs : arr.size = k) (j : Nat) : VR φ (match (badTr k).get j with | some v => v | none => .undef) (arr.getD j undef) := by
 unfold badTr
 rw [ofList_get, List.length_replicate]
 by_cases hj : j < k
 ·rw [if_pos (by omega), Nat.sub_zero, List.getElem?_replicate, if_pos hj]
  simp only [VR]
 ·rw [if_neg (by omega)]
  have : arr.getD j undef = undef := by
   rw [Array.getD_eq_getD_getElem?, Array.getElem?_eq_none (by omega)]; rfl
  rw [this]
  exact VR.undef_
structure TsR (φ : Phi) (P : Pat) (c : CS) (a : Act) : Prop where
 size : a.tmps.size = P.size
 defs : a.defers = []
 vals : ∀ (i : Nat) (t : Tmp × PV) (v : AV), P.ts[i]? = some t → c.ts[i]? = some v → VR φ v (a.tmps.getD t.1 undef)
 len : c.ts.length = P.ts.length
theorem TsR.frR {P : Pat} {c : CS} (h : TsR φ P c a) : FrR φ (frC P c) a none := by
 refine ⟨⟨h.size, fun j => ?_⟩, h.defs, rfl⟩
 show VR _ (match (setTs P.ts c.ts (badTr P.size)).get j with | some v => v | none => .undef) _
 exact setTs_ok (badTr_ok h.size) h.vals j
theorem canon_at {P : Pat} {seeds l : Names} {c : CS} (h : canon P seeds fr σ = some (c, l)) (hd : Dist seeds) (hR : Rel w0 φ σ.get σ.next w) (hF : FrR φ fr a none) :
  seeds <+: l ∧ Dist l ∧ c.os.length = l.length ∧ Rel w0 (rnm l φ) (stC c.os).get (stC c.os).next w ∧ TsR (rnm l φ) P c a ∧
  ∀ k o lo, (stC c.os).get k = some o → rnm l φ k = some lo → ∃ x id o0, l[k]? = some x ∧ x.src = some id ∧ σ.get id = some o0 ∧ φ id = some lo ∧ o.rw = o0.rw := by
 unfold canon at h
 cases hk : (Nat.beq fr.size P.size && isNil fr.marks && isNone fr.rnd) with
 | false => rw [hk] at h; cases h
 | true =>
   rw [hk] at h
   simp only [cond_true] at h
   simp only [Bool.and_eq_true] at hk
   obtain ⟨⟨k1, k2⟩, k3⟩ := hk
   have hsz := Nat.eq_of_beq_eq_true k1
   have hm : fr.marks = [] := by
    cases hm : fr.marks with
    | nil => rfl
    | cons _ _ => rw [hm] at k2; cases k2
   cases ht : canonT fr seeds P.ts with
   | none => rw [ht] at h; cases h
   | some q =>
     obtain ⟨ts, l1⟩ := q
     rw [ht] at h
     simp only at h
     cases ho : canonO σ.get P.os 1000 0 l1 with
     | none => rw [ho] at h; cases h
     | some q =>
       obtain ⟨os, l2⟩ := q
       rw [ho] at h
       simp only [Option.some.injEq, Prod.mk.injEq] at h
       obtain ⟨rfl, rfl⟩ := h
       obtain ⟨f1, t1, t2⟩ := canonT_ok ht
       obtain ⟨f2, o1, o2⟩ := canonO_ok ho (Nat.zero_le _)
       have hD := (f1.trans f2).2 hd
       have hlen : os.length = l2.length := by omega
       have corr : ∀ k o lo, (stC os).get k = some o → rnm l2 φ k = some lo → ∃ x id o0, l2[k]? = some x ∧ x.src = some id ∧ σ.get id = some o0 ∧ φ id = some lo ∧ o.rw = o0.rw ∧ (ObjR φ w lo o0 → ObjR (rnm l2 φ) w lo o) := by
        intro k o lo hg hl
        obtain ⟨x, id, e1, e2, e3⟩ := rnm_some hl
        obtain ⟨o0, d1, d2, d3⟩ := o2 k o (stC_some.1 hg) x id (by rw [Nat.zero_add]; exact e1) e2
        exact ⟨x, id, o0, e1, e2, d1, e3, d2, d3 φ w lo⟩
       refine ⟨(f1.trans f2).1, hD, hlen, ⟨?_, ?_, ?_, ?_, ?_, hR.below⟩, ⟨?_, ?_, ?_, ?_⟩, ?_⟩
       ·intro k o lo hg hl
        obtain ⟨x, id, o0, e1, e2, e3, e4, e5, e6⟩ := corr k o lo hg hl
        exact e6 (hR.objs id o0 lo e3 e4)
       ·intro k o lo hg hl
        obtain ⟨x, id, o0, e1, e2, e3, e4, e5, e6⟩ := corr k o lo hg hl
        rw [e5]; exact hR.own id o0 lo e3 e4
       ·intro i j oi oj li lj hij hi hj hli hlj hrw
        obtain ⟨xi, idi, oi0, e1, e2, e3, e4, e5, _⟩ := corr i oi li hi hli
        obtain ⟨xj, idj, oj0, d1, d2, d3, d4, d5, _⟩ := corr j oj lj hj hlj
        rw [e5] at hrw
        refine hR.inj idi idj oi0 oj0 li lj (fun he => ?_) e3 d3 e4 d4 hrw
        subst he
        exact hij (hD i j xi xj idi e1 d1 e2 d2)
       ·intro k hk
        have hk : os.length ≤ k := hk
        simp only [rnm, List.getElem?_eq_none (show l2.length ≤ k by omega)]
       ·intro k hk
        have hk : os.length ≤ k := hk
        rw [stC_get, List.getElem?_eq_none hk]
       ·show a.tmps.size = P.size
        rw [hF.tmps.1]; exact hsz
       ·have := hF.defs
        rw [hm] at this
        exact this
       ·exact fun i t v hti hvi => (t2 i t v hti hvi).2 φ _ l2 f2.1 (hF.get_ t.1)
       ·exact t1
       ·intro k o lo hg hl
        obtain ⟨x, id, o0, e1, e2, e3, e4, e5, _⟩ := corr k o lo hg hl
        exact ⟨x, id, o0, e1, e2, e3, e4, e5⟩
structure KC where
 p : Nat
 pin : Phi
 n0 : Nat
 h0 : Nat → Option Obj
 S : Nat → Prop
structure Kept (K : KC) (φ : Phi) (g : Heap) (w : World) : Prop where
 size : K.n0 ≤ w.heap.size
 frame : ∀ c, c < K.n0 → ¬ K.S c → w.heap[c]? = K.h0 c
 own : ∀ id o l, g id = some o → φ id = some l → o.rw = true → K.S l.c ∨ K.n0 ≤ l.c
 pins : ∀ j, j < K.p → φ j = K.pin j
theorem Kept.ext {K : KC} (h : Kept K φ g w) (hp : ∀ j, j < K.p → K.pin j ≠ none) (hX : Ext w0 φ g n w φ' g' n' w') : Kept K φ' g' w' where
 size := Nat.le_trans h.size hX.wle
 frame := fun c hc hS => by
  refine (hX.frame c (Nat.lt_of_lt_of_le hc h.size) fun id o l h1 h2 h3 he => ?_).trans (h.frame c hc hS)
  rcases h.own id o l h1 h2 h3 with h4 | h4
  ·rw [he] at h4; exact hS h4
  ·omega
 own := fun id o l h1 h2 h3 => by
  rcases hX.img id o l h1 h2 h3 with h4 | ⟨i, o0, l0, h4, h5, h6, h7⟩
  ·exact .inr (Nat.le_trans h.size h4)
  ·rw [← h7]; exact h.own i o0 l0 h4 h5 h6
 pins := fun j hj => by
  cases hq : K.pin j with
  | none => exact absurd hq (hp j hj)
  | some lo => exact hX.le j lo (by rw [h.pins j hj, hq])
def seedsN : Nat → Names
 | 0 => []
 | n + 1 => seedsN n ++ [.id n]
theorem seedsN_length : ∀ n, (seedsN n).length = n
 | 0 => rfl
 | n + 1 => by simp [seedsN, seedsN_length n]
theorem seedsN_at : ∀ {n j : Nat}, j < n → (seedsN n)[j]? = some (.id j)
 | n + 1, j, h => by
   simp only [seedsN]
   by_cases hj : j < n
   ·rw [List.getElem?_append_left (by rw [seedsN_length]; exact hj)]; exact seedsN_at hj
   ·have : j = n := by omega
    subst this
    rw [List.getElem?_append_right (by rw [seedsN_length]; exact Nat.le_refl _), seedsN_length]; simp
theorem seedsN_dist (n : Nat) : Dist (seedsN n) := by
 intro i j x y id hi hj hx hy
 have h1 := (List.getElem?_eq_some_iff.1 hi).1
 have h2 := (List.getElem?_eq_some_iff.1 hj).1
 rw [seedsN_length] at h1 h2
 rw [seedsN_at h1] at hi
 rw [seedsN_at h2] at hj
 injection hi with hi; injection hj with hj
 subst hi; subst hj
 simp only [Nm.src, Option.some.injEq] at hx hy
 omega
def AtK (K : KC) (w0 : World) (P : Pat) (c : CS) (a : Act) (w : World) : Prop := ∃ φ, Rel w0 φ (stC c.os).get (stC c.os).next w ∧ TsR φ P c a ∧ Kept K φ (stC c.os).get w
theorem canon_atK {K : KC} {P : Pat} {l : Names} {c : CS} (h : canon P (seedsN K.p) fr σ = some (c, l)) (hR : Rel w0 φ σ.get σ.next w) (hF : FrR φ fr a none) (hK : Kept K φ σ.get w) : AtK K w0 P c a w := by
 obtain ⟨h1, h2, h3, h4, h5, h6⟩ := canon_at h (seedsN_dist _) hR hF
 refine ⟨_, h4, h5, hK.size, hK.frame, fun k o lo hg hl hrw => ?_, fun j hj => ?_⟩
 ·obtain ⟨x, id, o0, e1, e2, e3, e4, e5⟩ := h6 k o lo hg hl
  rw [e5] at hrw
  exact hK.own id o0 lo e3 e4 hrw
 ·rw [rnm_at (l := seedsN K.p) h1 (seedsN_at hj) rfl]
  exact hK.pins j hj
def exIs : Ex → Ex → Bool
 | .normal, .normal => true
 | .exit a, .exit b => Nat.beq a b
 | .goto a, .goto b => Nat.beq a b
 | .ret, .ret => true
 | _, _ => false
theorem exIs_eq {a b : Ex} (h : exIs a b = true) : a = b := by
 cases a <;> cases b <;> simp [exIs] at h <;> first | rfl | (rw [h])
def patOf (e : Ex) : List (Ex × Pat) → Nat → Option (Nat × Pat)
 | [], _ => none
 | (x, P) :: r, k => cond (exIs x e) (some (k, P)) (patOf e r (Nat.succ k))
theorem patOf_at {e : Ex} : ∀ {ps : List (Ex × Pat)} {k i : Nat} {P : Pat}, patOf e ps k = some (i, P) → ∃ j, i = k + j ∧ ps[j]? = some (e, P)
 | [], k, i, P, h => by simp [patOf] at h
 | (x, Q) :: r, k, i, P, h => by
   simp only [patOf] at h
   cases hx : exIs x e with
   | true =>
     rw [hx] at h
     simp only [cond_true, Option.some.injEq, Prod.mk.injEq] at h
     obtain ⟨rfl, rfl⟩ := h
     have := exIs_eq hx; subst this
     exact ⟨0, rfl, rfl⟩
   | false =>
     rw [hx] at h
     obtain ⟨j, h1, h2⟩ := patOf_at (ps := r) h
     exact ⟨j + 1, by omega, by simpa using h2⟩
def leafC (p : Nat) (pats : List (Ex × Pat)) (r : (Out × St) × Plan) : T (Nat × CS) := match r.1.1 with
 | .ex e fr => match patOf e pats 0 with
   | some (k, P) => match canon P (seedsN p) fr r.1.2 with
     | some (c, _) => .ret (k, c)
     | none => .fail
   | none => .fail
 | .val _ => .fail
def stepC (E : Env) (m : Nat) (body : Code) (p : Nat) (head : Pat) (pats : List (Ex × Pat)) (π : Plan) (c : CS) : Option (Nat × CS) :=
 ((evA E m (.code body (frC head c)) (stC c.os) π).bind (leafC p pats)).run
variable {Pr : Program} {E : Env}
theorem step_at (hE : EnvOK Pr E) (hI : IntrOK Pr w0 E) {m : Nat} {body : Code} {K : KC} (hp : ∀ j, j < K.p → K.pin j ≠ none) {head : Pat} {pats : List (Ex × Pat)} {π : Plan} {c c' : CS} {k q : Nat} (h : stepC E m body K.p head pats π c = some (k, c')) (hA : AtK K w0 head c a w) :
  (erase E body).wpIn (fen none) q Pr (fun x a' w' => ∃ e P', pats[k]? = some (e, P') ∧ x = e.out ∧ AtK K w0 P' c' a' w') a w := by
 unfold stepC at h
 rw [T.run_bind] at h
 cases hev : (evA E m (.code body (frC head c)) (stC c.os) π).run with
 | none => rw [hev] at h; cases h
 | some r =>
   obtain ⟨⟨out, σ1⟩, π'⟩ := r
   rw [hev] at h
   simp only [leafC] at h
   cases out with
   | val v => cases h
   | ex e fr1 =>
     simp only at h
     cases hpt : patOf e pats 0 with
     | none => rw [hpt] at h; cases h
     | some z =>
       obtain ⟨k', P'⟩ := z
       rw [hpt] at h
       simp only at h
       cases hc : canon P' (seedsN K.p) fr1 σ1 with
       | none => rw [hc] at h; cases h
       | some z =>
         obtain ⟨c1, l⟩ := z
         rw [hc] at h
         simp only [T.run, Option.some.injEq, Prod.mk.injEq] at h
         obtain ⟨rfl, rfl⟩ := h
         obtain ⟨j, h1, h2⟩ := patOf_at hpt
         rw [Nat.zero_add] at h1; subst h1
         obtain ⟨φ, hR, hF, hK⟩ := hA
         have hj : CodeOK Pr w0 (erase E body) _ _ _ _ _ := ev_sound hE hI m _ _ _ _ (evA_ev hev)
         refine wpIn_mono (hj q none φ w a hR hF.frR).1 fun x a' w' hq => ?_
         obtain ⟨rfl, φ', g1, g2, g3⟩ := hq
         exact ⟨e, P', h2, rfl, canon_atK hc g2 g1 (hK.ext hp g3)⟩
def iterC (step : CS → Option (Nat × CS)) : Nat → CS → Option (Nat × CS)
 | 0, _ => none
 | n + 1, c => match step c with
   | some (0, c') => iterC step n c'
   | r => r
theorem loop_C (hE : EnvOK Pr E) (hI : IntrOK Pr w0 E) {m : Nat} {body : Code} {K : KC} (hp : ∀ j, j < K.p → K.pin j ≠ none) {head : Pat} {exits : List (Ex × Pat)} (hx : ∀ e P, (e, P) ∈ exits → e ≠ .normal) {π : Plan} {k q : Nat} {c' : CS} :
  ∀ (n : Nat) (c : CS), iterC (stepC E m body K.p head ((.normal, head) :: exits) π) n c = some (k, c') → ∀ a w, AtK K w0 head c a w →
  LoopIn (fen none) q Pr (erase E body) (fun x a' w' => ∃ e P', ((.normal, head) :: exits)[k]? = some (e, P') ∧ k ≠ 0 ∧ x = e.out ∧ AtK K w0 P' c' a' w') a w := by
 intro n
 induction n with
 | zero => intro c h; simp [iterC] at h
 | succ n ih =>
   intro c h a w hA
   simp only [iterC] at h
   cases hs : stepC E m body K.p head ((.normal, head) :: exits) π c with
   | none => rw [hs] at h; cases h
   | some r =>
     obtain ⟨k1, c1⟩ := r
     rw [hs] at h
     refine loopIn_of (wpIn_mono (step_at hE hI hp hs hA) fun x a1 w1 hq => ?_)
     obtain ⟨e, P', h1, rfl, h3⟩ := hq
     cases k1 with
     | zero =>
       simp only at h
       simp at h1
       obtain ⟨rfl, rfl⟩ := h1
       exact ih c1 h a1 w1 h3
     | succ k1 =>
       simp only [Option.some.injEq, Prod.mk.injEq] at h
       obtain ⟨rfl, rfl⟩ := h
       have hne : e ≠ .normal := hx e P' (List.mem_of_getElem? (by simpa using h1))
       have hpost : (fun x a' w' => ∃ e P', ((Ex.normal, head) :: exits)[k1 + 1]? = some (e, P') ∧ k1 + 1 ≠ 0 ∧ x = e.out ∧ AtK K w0 P' c1 a' w') e.out a1 w1 := ⟨e, P', h1, by omega, rfl, h3⟩
       cases e with
       | normal => exact absurd rfl hne
       | exit id => exact hpost
       | goto l => exact hpost
       | ret => exact hpost
end
end Go.Proofs.Ytmjmhpbncfjnpaa.Bm
