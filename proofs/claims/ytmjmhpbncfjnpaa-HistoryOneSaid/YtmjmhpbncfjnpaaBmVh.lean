/- The abstract machine: a law's arguments: numbers, texts, bools, slices of rows of these, structs and arrays of all of these. -/
import Derived.Test.YtmjmhpbncfjnpaaBmVg
import Derived.Deep.Slices
import Derived.WalkKit
import Derived.ProofKit
import Derived.OpenShut
import Derived.ChangeOld
import Derived.Carry
import Derived.SizedLaws
set_option linter.unusedSimpArgs false
set_option linter.unusedVariables false
namespace Go.Proofs.Ytmjmhpbncfjnpaa.Bm
open Go.ChangeShapes Go.WideShapes Go.ChangeAt Go.RowKit
def Sh.descIs : Sh → Option TypeDesc → Bool
 | .int k, some (.int l) => decide (k = l)
 | .str, some .string => true
 | .bool, some .bool => true
 | _, _ => false
def Rng : Sh → AV → Prop
 | .int k, a => k.min ≤ a.toI ∧ a.toI ≤ k.max
 | .str, a => (∀ b ∈ a.toS, b < 256) ∧ a.toS.length ≤ 9223372036854775807
 | .bool, _ => True
def flatFs (P : Program) (rec : TypeId → Option (List TypeId)) : List Field → Nat → Option (List TypeId)
 | [], _ => some []
 | f :: fs, off => match rec f.type with
   | some ts => cond (Nat.beq f.offset off && Nat.beq (P.cellsOf f.type) ts.length) (match flatFs P rec fs (off + ts.length) with
     | some r => some (ts ++ r)
     | none => none) none
   | none => none
def flatT (P : Program) : Nat → TypeId → Option (List TypeId)
 | 0, _ => none
 | d + 1, t => match P.underlying t with
   | some (.struct fs) => match flatFs P (flatT P d) fs.toList 0 with
     | some ts => cond (Nat.beq (P.cellsOf t) ts.length) (some ts) none
     | none => none
   | some (.array n e) => match flatT P d e with
     | some ts => cond (Nat.beq (P.cellsOf e) ts.length && Nat.beq (P.cellsOf t) (n * ts.length) && Nat.blt 0 ts.length) (some (rep n ts)) none
     | none => none
   | some (.int _) => some [t]
   | some .string => some [t]
   | some .bool => some [t]
   | some (.slice _) => some [t]
   | _ => none
section
variable {H : Type} {enc : TypeId × Value → H} {P : Program} {W : World} {sp : Nat → Bool} {held : Bool}
def CellsT (enc : TypeId × Value → H) (P : Program) (W : World) (sp : Nat → Bool) (held : Bool) (ts : List TypeId) (cs : List Value) : Prop :=
 cs.length = ts.length ∧ ∀ (i : Nat) u, ts[i]? = some u → ∃ v n' y', cs[i]? = some v ∧ DataW.trod enc P W 0 sp held n' u [v] = some y'
theorem CellsT.one {t : TypeId} {n : Nat} {v : Value} {y : DataW H × List MemPlace} (h : DataW.trod enc P W 0 sp held n t [v] = some y) : CellsT enc P W sp held [t] [v] :=
 ⟨rfl, fun i u hi => by
   cases i with
   | zero => simp at hi; subst hi; exact ⟨v, n, y, rfl, h⟩
   | succ i => simp at hi⟩
theorem CellsT.append {ts us : List TypeId} {cs ds : List Value} (h : CellsT enc P W sp held ts cs) (k : CellsT enc P W sp held us ds) : CellsT enc P W sp held (ts ++ us) (cs ++ ds) := by
 refine ⟨by simp [h.1, k.1], fun i u hi => ?_⟩
 by_cases hlt : i < ts.length
 ·rw [List.getElem?_append_left hlt] at hi
  obtain ⟨v, n, y, h1, h2⟩ := h.2 i u hi
  exact ⟨v, n, y, by rw [List.getElem?_append_left (by rw [h.1]; exact hlt)]; exact h1, h2⟩
 ·rw [List.getElem?_append_right (by omega)] at hi
  obtain ⟨v, n, y, h1, h2⟩ := k.2 _ u hi
  exact ⟨v, n, y, by rw [List.getElem?_append_right (by rw [h.1]; omega), h.1]; exact h1, h2⟩
theorem single_of {cs : List Value} {ht : ∃ v, cs = [v]} {t : TypeId} {n : Nat} {y : DataW H × List MemPlace} (h : DataW.trod enc P W 0 sp held n t cs = some y) : CellsT enc P W sp held [t] cs := by
 obtain ⟨v, rfl⟩ := ht
 exact CellsT.one h
theorem flatFs_ok {rec : TypeId → Option (List TypeId)} (hrec : ∀ t ts cs n y, rec t = some ts → DataW.trod enc P W 0 sp held n t cs = some y → CellsT enc P W sp held ts cs) {n : Nat} {cs : List Value} :
  ∀ (fs : List Field) (off : Nat) (ts : List TypeId), flatFs P rec fs off = some ts → (∀ f ∈ fs, ∃ y, DataW.trod enc P W 0 sp held n f.type ((cs.drop f.offset).take (P.cellsOf f.type)) = some y) → off + ts.length ≤ cs.length →
  CellsT enc P W sp held ts ((cs.drop off).take ts.length)
 | [], off, ts, h, _, _ => by
   simp only [flatFs, Option.some.injEq] at h; subst h
   exact ⟨by simp, fun i u hi => by simp at hi⟩
 | f :: fs, off, ts, h, hf, hle => by
   simp only [flatFs] at h
   cases hr : rec f.type with
   | none => rw [hr] at h; cases h
   | some us =>
     rw [hr] at h
     simp only at h
     cases hb : (Nat.beq f.offset off && Nat.beq (P.cellsOf f.type) us.length) with
     | false => rw [hb] at h; cases h
     | true =>
       rw [hb] at h
       simp only [cond_true] at h
       simp only [Bool.and_eq_true] at hb
       have ho := Nat.eq_of_beq_eq_true hb.1
       have hc := Nat.eq_of_beq_eq_true hb.2
       cases hfs : flatFs P rec fs (off + us.length) with
       | none => rw [hfs] at h; cases h
       | some r =>
         rw [hfs] at h
         simp only [Option.some.injEq] at h; subst h
         obtain ⟨y, hy⟩ := hf f (by simp)
         rw [ho, hc] at hy
         have h1 := hrec _ _ _ _ _ hr hy
         rw [List.length_append] at hle
         have h2 := flatFs_ok hrec fs (off + us.length) r hfs (fun g hg => hf g (List.mem_cons_of_mem _ hg)) (by omega)
         have := h1.append h2
         rw [List.length_append]
         have he : (cs.drop off).take (us.length + r.length) = (cs.drop off).take us.length ++ (cs.drop (off + us.length)).take r.length := by
          rw [List.take_add, List.drop_drop]
         rw [he]
         exact this
theorem rep_append {α : Type} (l : List α) : ∀ n, rep (n + 1) l = rep n l ++ l
 | 0 => by simp [rep]
 | n + 1 => by
   have h := rep_append l n
   have e1 : rep (n + 1 + 1) l = l ++ rep (n + 1) l := rfl
   have e2 : rep (n + 1) l = l ++ rep n l := rfl
   rw [e1]
   calc l ++ rep (n + 1) l = l ++ (rep n l ++ l) := by rw [h]
    _ = (l ++ rep n l) ++ l := by rw [List.append_assoc]
    _ = rep (n + 1) l ++ l := by rw [e2]
theorem flatT_ok : ∀ (d : Nat) (t : TypeId) (ts : List TypeId) (cs : List Value) (n : Nat) (y : DataW H × List MemPlace), flatT P d t = some ts → DataW.trod enc P W 0 sp held n t cs = some y → CellsT enc P W sp held ts cs
 | 0, t, ts, cs, n, y, h, _ => by simp [flatT] at h
 | d + 1, t, ts, cs, n, y, h, hy => by
   simp only [flatT] at h
   split at h
   ·rename_i fs hu
    cases hf : flatFs P (flatT P d) fs.toList 0 with
    | none => rw [hf] at h; cases h
    | some us =>
      rw [hf] at h
      simp only at h
      cases hb : Nat.beq (P.cellsOf t) us.length with
      | false => rw [hb] at h; cases h
      | true =>
        rw [hb] at h
        simp only [cond_true, Option.some.injEq] at h; subst h
        have hc := Nat.eq_of_beq_eq_true hb
        obtain ⟨xs, m, rfl, rfl, hl, hlen, hfx⟩ := DataW.trod_struct hu hy
        have := flatFs_ok (cs := cs) (n := m) (fun t ts cs n y => flatT_ok d t ts cs n y) fs.toList 0 us hf (fun f hm => by
         obtain ⟨i, hi, rfl⟩ := List.getElem_of_mem hm
         have hi' : i < fs.size := by simpa using hi
         have := hfx i fs[i] (Array.getElem?_eq_getElem hi')
         rw [List.getElem?_eq_getElem (by omega)] at this
         exact ⟨_, by simpa using this⟩) (by omega)
        rw [List.drop_zero, List.take_of_length_le (by omega)] at this
        exact this
   ·rename_i k e hu
    cases hf : flatT P d e with
    | none => rw [hf] at h; cases h
    | some us =>
      rw [hf] at h
      simp only at h
      cases hb : (Nat.beq (P.cellsOf e) us.length && Nat.beq (P.cellsOf t) (k * us.length) && Nat.blt 0 us.length) with
      | false => rw [hb] at h; cases h
      | true =>
        rw [hb] at h
        simp only [cond_true, Option.some.injEq] at h; subst h
        simp only [Bool.and_eq_true] at hb
        have hc := Nat.eq_of_beq_eq_true hb.1.1
        have hct := Nat.eq_of_beq_eq_true hb.1.2
        obtain ⟨xs, m, rfl, rfl, hl, hlen, hfx⟩ := DataW.trod_array hu hy
        have key : ∀ j, j ≤ k → CellsT enc P W sp held (rep j us) (cs.take (j * us.length)) := by
         intro j
         induction j with
         | zero => intro _; exact ⟨by simp [rep], fun i u hi => by simp [rep] at hi⟩
         | succ j ih =>
           intro hj
           have h1 := hfx j (by omega)
           rw [List.getElem?_eq_getElem (by omega), hc] at h1
           have h2 := flatT_ok d e us _ m _ hf h1
           have := (ih (by omega)).append h2
           rw [rep_append, Nat.add_mul, Nat.one_mul, List.take_add]
           exact this
        have := key k (Nat.le_refl _)
        rw [List.take_of_length_le (by omega)] at this
        exact this
   ·rename_i k hu
    simp only [Option.some.injEq] at h; subst h
    obtain ⟨m, rfl, _, _⟩ := DataW.trod_int hu hy
    exact CellsT.one hy
   ·rename_i hu
    simp only [Option.some.injEq] at h; subst h
    obtain ⟨m, rfl, _, _⟩ := DataW.trod_string hu hy
    exact CellsT.one hy
   ·rename_i hu
    simp only [Option.some.injEq] at h; subst h
    obtain ⟨m, rfl, _⟩ := DataW.trod_bool hu hy
    exact CellsT.one hy
   ·rename_i e hu
    simp only [Option.some.injEq] at h; subst h
    rcases DataW.trod_slice hu hy with ⟨rfl, _⟩ | ⟨a, len, cap, el, re, m, _, rfl, _⟩
    ·exact CellsT.one hy
    ·exact CellsT.one hy
   ·cases h
theorem one_cellR {t : TypeId} {s : Sh} {n : Nat} {cs : List Value} {y : DataW H × List MemPlace} (hu : s.descIs (P.underlying t) = true)
  (h : DataW.trod enc P W 0 sp held n t cs = some y) : ∃ a v, cs = [v] ∧ (∀ φ, VR φ (view s a) v) ∧ Rng s a := by
 cases s with
 | int k =>
   cases hd : P.underlying t with
   | none => rw [hd] at hu; simp [Sh.descIs] at hu
   | some d =>
     rw [hd] at hu
     cases d <;> simp [Sh.descIs] at hu
     subst hu
     obtain ⟨m, q1, _, q3⟩ := DataW.trod_int hd h
     refine ⟨.int k m, _, q1, fun φ => by simp only [view, AV.toI, VR], ?_⟩
     simp only [Lit.wf, Bool.and_eq_true, decide_eq_true_eq] at q3
     exact q3
 | str =>
   cases hd : P.underlying t with
   | none => rw [hd] at hu; simp [Sh.descIs] at hu
   | some d =>
     rw [hd] at hu
     cases d <;> simp [Sh.descIs] at hu
     obtain ⟨b, q1, _, q3⟩ := DataW.trod_string hd h
     refine ⟨.str (bytesOf b), _, q1, fun φ => by simp only [view, AV.toS, VR]; exact ⟨b, rfl, rfl⟩, fun x hx => ?_, ?_⟩
     ·simp only [AV.toS, bytesOf, List.mem_map] at hx
      obtain ⟨z, _, rfl⟩ := hx
      exact z.toNat_lt
     ·simp only [AV.toS, bytesOf_length]
      have : maxLen = 9223372036854775807 := by decide
      omega
 | bool =>
   cases hd : P.underlying t with
   | none => rw [hd] at hu; simp [Sh.descIs] at hu
   | some d =>
     rw [hd] at hu
     cases d <;> simp [Sh.descIs] at hu
     obtain ⟨b, q1, _⟩ := DataW.trod_bool hd h
     exact ⟨.bool b, _, q1, fun φ => by simp only [view, AV.toB, VR], trivial⟩
def shsIs (P : Program) : List Sh → List TypeId → Bool
 | [], [] => true
 | s :: sh, t :: ts => s.descIs (P.underlying t) && shsIs P sh ts
 | _, _ => false
theorem shsIs_at : ∀ {sh : List Sh} {ts : List TypeId}, shsIs P sh ts = true → ts.length = sh.length ∧ ∀ (i : Nat) t, ts[i]? = some t → ∃ s, sh[i]? = some s ∧ s.descIs (P.underlying t) = true
 | [], [], _ => ⟨rfl, fun i t h => by simp at h⟩
 | s :: sh, t :: ts, h => by
   simp only [shsIs, Bool.and_eq_true] at h
   obtain ⟨k1, k2⟩ := shsIs_at h.2
   refine ⟨by simp [k1], fun i u hi => ?_⟩
   cases i with
   | zero => simp at hi; subst hi; exact ⟨s, rfl, h.1⟩
   | succ i => simpa using k2 i u (by simpa using hi)
 | [], _ :: _, h => by simp [shsIs] at h
 | _ :: _, [], h => by simp [shsIs] at h
theorem row_of {sh : List Sh} {ts : List TypeId} (hsh : shsIs P sh ts = true) {cs : List Value} (h : CellsT enc P W sp held ts cs) : ∃ r : Nat → AV, (∀ φ, VRL φ (trow r sh 0) cs) ∧ ∀ (j : Nat) s, sh[j]? = some s → Rng s (r j) := by
 obtain ⟨hl, hs⟩ := shsIs_at hsh
 obtain ⟨k1, k2⟩ := h
 have key : ∀ i, i < sh.length → ∃ a : AV, ∃ s v, sh[i]? = some s ∧ cs[i]? = some v ∧ (∀ φ, VR φ (view s a) v) ∧ Rng s a := by
  intro i hi
  have hit : i < ts.length := by omega
  obtain ⟨v, n', y', q1, q2⟩ := k2 i _ (List.getElem?_eq_getElem hit)
  obtain ⟨s, s1, s2⟩ := hs i _ (List.getElem?_eq_getElem hit)
  obtain ⟨a, v', h1, h2, h3⟩ := one_cellR s2 q2
  injection h1 with h1 _
  subst h1
  exact ⟨a, s, _, s1, q1, h2, h3⟩
 obtain ⟨r, hr⟩ := Go.Deep.choose_lt (α := AV) (n := sh.length) (p := fun i a => ∃ s v, sh[i]? = some s ∧ cs[i]? = some v ∧ (∀ φ, VR φ (view s a) v) ∧ Rng s a) key
 refine ⟨r, fun φ => VRL.of_at (by rw [trow_length, k1, hl]) fun j x hx => ?_, fun j s hj => ?_⟩
 ·have hj : j < sh.length := by
   have := (List.getElem?_eq_some_iff.1 hx).1
   rw [trow_length] at this
   exact this
  obtain ⟨s, v, q1, q2, q3, _⟩ := hr j hj
  refine ⟨v, q2, ?_⟩
  rw [trow_get, q1] at hx
  simp only [Option.map_some, Nat.zero_add, Option.some.injEq] at hx
  subst hx
  exact q3 φ
 ·obtain ⟨s', v, q1, _, _, q4⟩ := hr j (List.getElem?_eq_some_iff.1 hj).1
  rw [hj] at q1; injection q1 with q1; subst q1
  exact q4
theorem cell_lt {a : Addr} {v : Value} (h : W.cell? a = some v) : a.block < W.heap.size ∧ a.spot = none := by
 unfold World.cell? at h
 split at h
 ·rename_i c t z hb
  refine ⟨(Array.getElem?_eq_some_iff.1 hb).1, ?_⟩
  cases hs : a.spot with
  | none => rfl
  | some _ => rw [hs] at h; simp at h
 ·cases h
theorem add_eq {a : Addr} (h : a.spot = none) (n : Nat) : a.add n = ⟨a.block, a.off + n, none⟩ := by
 unfold Addr.add
 by_cases hn : n = 0
 ·subst hn
  simp only [if_true, Nat.add_zero]
  cases a; simp_all
 ·simp [hn]
theorem shape_lt {b : Nat} {x : TypeId × Nat} (h : W.shape? b = some x) : b < W.heap.size := by
 unfold World.shape? at h
 split at h
 ·rename_i hb
  exact (Array.getElem?_eq_some_iff.1 hb).1
 ·cases h
theorem open_sl {base : Nat} {t e : TypeId} {sh : List Sh} {d : Nat} {us : List TypeId} {v : Value} {fuel : Nat} {x : DataW H × List MemPlace}
  (ht : P.underlying t = some (.slice e)) (hf : flatT P d e = some us) (hsh : shsIs P sh us = true) (hc : P.cellsOf e = sh.length) (hpos : 0 < sh.length) (hsp : ∀ b, sp b = true)
  (hv : DataW.trod enc P W 0 sp held fuel t [v] = some x) (hok : Cell.okWide P W .any base t v) :
  v = .slice none 0 0 ∨ ∃ (l : Loc) (n cap : Nat) (f : Nat → Nat → AV), l.c < W.heap.size ∧ n ≤ cap ∧ cap ≤ maxLen ∧ v = .slice (some ⟨l.c, l.o, none⟩) n cap ∧ cap * sh.length ≤ l.room ∧
   (∀ φ, CellsR φ W l (tcells sh f 0 n) false) ∧ ∀ i, i < n → ∀ (j : Nat) s, sh[j]? = some s → Rng s (f i j) := by
 rcases Go.Deep.open_slice ht hv with ⟨h1, _⟩ | ⟨a, len0, cap, m, n, D, Pl, h1, hb, hle, hcm, hm, _, hrow⟩
 ·left
  simpa using h1
 ·have h1 : v = .slice (some a) len0 cap := by simpa using h1
  subst h1
  right
  rw [hsp] at hm
  simp only [if_true] at hm
  subst hm
  simp only [Cell.okWide, ht, Cell.ok] at hok
  obtain ⟨_, _, _, hspot, row, cells, hshape, _⟩ := hok
  have hlt := shape_lt hshape
  rw [hc] at hrow
  have ha : a = ⟨a.block, a.off, none⟩ := by cases a; simp_all
  obtain ⟨f, hf⟩ := Go.Deep.choose_lt (α := Nat → AV) (n := m) (p := fun i r => ∃ cs', W.cells? 0 (a.add (i * sh.length)) sh.length = some cs' ∧ (∀ φ, VRL φ (trow r sh 0) cs') ∧ ∀ (j : Nat) s, sh[j]? = some s → Rng s (r j)) (fun i hi => by
   obtain ⟨cs', q1, q2⟩ := hrow i hi
   obtain ⟨r, hr1, hr2⟩ := row_of hsh (flatT_ok d e us _ _ _ hf q2)
   exact ⟨r, cs', q1, hr1, hr2⟩)
  refine ⟨⟨a.block, a.off, m * sh.length⟩, len0, m, f, hlt, hle, hcm, by rw [← ha], Nat.le_refl _, fun φ => ⟨fun j x hj => ?_, ?_, fun h => by cases h⟩, fun i hi => ?_⟩
  ·have hltj := (List.getElem?_eq_some_iff.1 hj).1
   rw [tcells_length] at hltj
   obtain ⟨q1, q2, q3⟩ := split_lt hltj
   obtain ⟨cs', r1, r2, _⟩ := hf (j / sh.length) (by omega)
   obtain ⟨_, r3, r4⟩ := World.cells?_some r1
   have hcell := r4 (j % sh.length) q2
   rw [Go.Deep.add_add, ← q3, add_eq hspot] at hcell
   have hx : (trow (f (j / sh.length)) sh 0)[j % sh.length]? = some x := by
    have := tcells_get (f := f) q1 q2
    rw [← q3, hj] at this
    injection this with this
    rw [trow_get, List.getElem?_eq_getElem q2, Option.map_some, Nat.zero_add, this]
   obtain ⟨u, u1, u2⟩ := (r2 φ).at_ _ _ hx
   exact ⟨u, by rw [hcell]; exact u1, u2⟩
  ·rw [tcells_length]
   exact Nat.mul_le_mul_right _ hle
  ·obtain ⟨cs', _, _, q⟩ := hf i (by omega)
   exact q
inductive Lf where
 | one (s : Sh)
 | sl (sh : List Sh)
inductive ArgS where
 | one (l : Lf)
 | st (ls : List Lf)
def lfIs (P : Program) (l : Lf) (t : TypeId) : Bool := match l with
 | .one s => s.descIs (P.underlying t)
 | .sl sh => match P.underlying t with
   | some (.slice e) => match flatT P 20 e with
     | some us => shsIs P sh us && Nat.beq (P.cellsOf e) sh.length && Nat.blt 0 sh.length
     | none => false
   | _ => false
def lfsIs (P : Program) : List Lf → List TypeId → Bool
 | [], [] => true
 | l :: ls, t :: ts => lfIs P l t && lfsIs P ls ts
 | _, _ => false
def natsEq : List Nat → List Nat → Bool
 | [], [] => true
 | a :: x, b :: y => Nat.beq a b && natsEq x y
 | _, _ => false
theorem natsEq_ok : ∀ {a b : List Nat}, natsEq a b = true → a = b
 | [], [], _ => rfl
 | a :: x, b :: y, h => by
   simp only [natsEq, Bool.and_eq_true] at h
   rw [Nat.eq_of_beq_eq_true h.1, natsEq_ok h.2]
 | [], _ :: _, h => by simp [natsEq] at h
 | _ :: _, [], h => by simp [natsEq] at h
def argIs (P : Program) (a : ArgS) (t : TypeId) : Bool := match a with
 | .one l => lfIs P l t
 | .st ls => (match P.underlying t with
   | some (.struct _) => true
   | some (.array _ _) => true
   | _ => false) && (match flatT P 20 t, P.cellTypes P.depth t with
   | some ts, some us => natsEq ts us && lfsIs P ls ts
   | _, _ => false)
def argsIs (P : Program) : List ArgS → List TypeId → Bool
 | [], [] => true
 | a :: as, t :: ts => argIs P a t && argsIs P as ts
 | _, _ => false
def IsLf (l : Lf) (id : Nat) (x : AV) (os : List (Option AObj)) : Prop := match l with
 | .one (.int k) => (∃ n, x = .int k n ∧ k.min ≤ n ∧ n ≤ k.max) ∧ os = []
 | .one .str => (∃ s, x = .str s ∧ (∀ b ∈ s, b < 256) ∧ s.length ≤ 9223372036854775807) ∧ os = []
 | .one .bool => (∃ b, x = .bool b) ∧ os = []
 | .sl sh => ∃ nl n f, x = .osl nl id 0 n n sh.length true ∧ os = [some (.tarr sh n f false)] ∧ (nl = true → n = 0) ∧ n ≤ 9223372036854775807 ∧ ∀ i, i < n → ∀ (j : Nat) s, sh[j]? = some s → Rng s (f i j)
def IsLfs : List Lf → Nat → List AV → List (Option AObj) → Prop
 | [], _, xs, os => xs = [] ∧ os = []
 | l :: ls, id, xs, os => ∃ x os1 xs' os2, xs = x :: xs' ∧ os = os1 ++ os2 ∧ IsLf l id x os1 ∧ IsLfs ls (id + os1.length) xs' os2
def IsArg (a : ArgS) (id : Nat) (x : AV) (os : List (Option AObj)) : Prop := match a with
 | .one l => IsLf l id x os
 | .st ls => ∃ xs, x = .agg xs ∧ IsLfs ls id xs os
def IsArgs : List ArgS → Nat → List AV → List (Option AObj) → Prop
 | [], _, xs, os => xs = [] ∧ os = []
 | a :: as, id, xs, os => ∃ x os1 xs' os2, xs = x :: xs' ∧ os = os1 ++ os2 ∧ IsArg a id x os1 ∧ IsArgs as (id + os1.length) xs' os2
structure RO (W : World) (φ : Phi) (os : List (Option AObj)) : Prop where
 rel : Rel W φ (stC os).get (stC os).next W
 ro : ∀ o, some o ∈ os → o.rw = false
theorem RO.nil (W : World) : RO W (fun _ => none) [] := ⟨rel_empty W, fun o h => by simp at h⟩
theorem stC_push {os : List (Option AObj)} {o : AObj} {id : Nat} {o1 : AObj} (h : (stC (os ++ [some o])).get id = some o1) : (id = os.length ∧ o1 = o) ∨ (id ≠ os.length ∧ (stC os).get id = some o1) := by
 rw [stC_some] at h
 by_cases hid : id < os.length
 ·rw [List.getElem?_append_left hid] at h
  exact .inr ⟨by omega, stC_some.2 h⟩
 ·rw [List.getElem?_append_right (by omega)] at h
  by_cases he : id = os.length
  ·subst he
   simp at h
   exact .inl ⟨rfl, h.symm⟩
  ·have : ([some o] : List (Option AObj))[id - os.length]? = none := List.getElem?_eq_none (by simp; omega)
   rw [this] at h
   cases h
theorem RO.push {φ : Phi} {os : List (Option AObj)} (h : RO W φ os) {o : AObj} (hrw : o.rw = false) (ol : Option Loc) (hl : ∀ l, ol = some l → l.c < W.heap.size ∧ ∀ φ, ObjR φ W l o) :
  RO W (fun id => if id = os.length then ol else φ id) (os ++ [some o]) := by
 have hfr := h.rel.fresh os.length (Nat.le_refl _)
 have hle : ∀ id lo, φ id = some lo → (if id = os.length then ol else φ id) = some lo := fun id lo hi => by
  by_cases he : id = os.length
  ·rw [he, hfr] at hi; cases hi
  ·rw [if_neg he]; exact hi
 refine ⟨⟨?_, ?_, ?_, ?_, ?_, h.rel.below⟩, fun o' ho' => ?_⟩
 ·intro id o1 l1 h1 h2
  rcases stC_push h1 with ⟨rfl, rfl⟩ | ⟨hne, h1⟩
  ·rw [if_pos rfl] at h2
   exact (hl l1 h2).2 _
  ·rw [if_neg hne] at h2
   exact (h.rel.objs id o1 l1 h1 h2).keep rfl hle
 ·intro id o1 l1 h1 h2
  rcases stC_push h1 with ⟨rfl, rfl⟩ | ⟨hne, h1⟩
  ·rw [if_pos rfl] at h2
   have := (hl l1 h2).1
   rw [hrw]
   exact ⟨(fun h => by cases h), (fun h => by omega)⟩
  ·rw [if_neg hne] at h2
   exact h.rel.own id o1 l1 h1 h2
 ·intro i j oi oj li lj hij hi hj hli hlj hrwi
  rcases stC_push hi with ⟨rfl, rfl⟩ | ⟨_, hi⟩
  ·rw [hrw] at hrwi; cases hrwi
  ·rw [h.ro oi (List.mem_of_getElem? (stC_some.1 hi))] at hrwi; cases hrwi
 ·intro id hid
  have hid : (os ++ [some o]).length ≤ id := hid
  rw [List.length_append] at hid
  have hid : os.length + 1 ≤ id := hid
  show (if id = os.length then ol else φ id) = none
  rw [if_neg (by omega)]
  exact h.rel.fresh id (by show os.length ≤ id; omega)
 ·intro id hid
  have hid : (os ++ [some o]).length ≤ id := hid
  rw [stC_get, List.getElem?_eq_none hid]
 ·rcases List.mem_append.1 ho' with ho' | ho'
  ·exact h.ro o' ho'
  ·simp at ho'; subst ho'; exact hrw
def PLe (φ φ' : Phi) : Prop := ∀ id l, φ id = some l → φ' id = some l
theorem lf_ok {base : Nat} {l : Lf} {t : TypeId} {v : Value} {n : Nat} {y : DataW H × List MemPlace} (hsp : ∀ b, sp b = true) (hl : lfIs P l t = true) (hv : DataW.trod enc P W 0 sp held n t [v] = some y) (hok : Cell.okWide P W .any base t v)
  {φ : Phi} {os : List (Option AObj)} (hO : RO W φ os) : ∃ x os1 φ', IsLf l os.length x os1 ∧ PLe φ φ' ∧ VR φ' x v ∧ RO W φ' (os ++ os1) := by
 cases l with
 | one s =>
   obtain ⟨a, v', h1, h2, h3⟩ := one_cellR hl hv
   injection h1 with h1 _; subst h1
   refine ⟨view s a, [], φ, ?_, fun _ _ h => h, h2 φ, by rw [List.append_nil]; exact hO⟩
   cases s with
   | int k => exact ⟨⟨_, rfl, h3⟩, rfl⟩
   | str => exact ⟨⟨_, rfl, h3.1, h3.2⟩, rfl⟩
   | bool => exact ⟨⟨_, rfl⟩, rfl⟩
 | sl sh =>
   simp only [lfIs] at hl
   split at hl
   ·rename_i e ht
    split at hl
    ·rename_i us hf
     simp only [Bool.and_eq_true] at hl
     obtain ⟨⟨hsh, hc⟩, hp⟩ := hl
     have hc := Nat.eq_of_beq_eq_true hc
     have hp : 0 < sh.length := by rw [blt_iff] at hp; simpa using hp
     rcases open_sl (base := base) ht hf hsh hc hp hsp hv hok with rfl | ⟨lo, k, cap, f, h1, h2, h3, rfl, h5, h6, h7⟩
     ·refine ⟨.osl true os.length 0 0 0 sh.length true, [some (.tarr sh 0 (fun _ _ => .bad) false)], _, ⟨true, 0, _, rfl, rfl, fun _ => rfl, by omega, fun i hi => by omega⟩, ?_, ?_, hO.push rfl none (fun l h => by cases h)⟩
      ·intro id lo hi
       have hfr := hO.rel.fresh os.length (Nat.le_refl _)
       show (if id = os.length then none else φ id) = some lo
       by_cases he : id = os.length
       ·rw [he, hfr] at hi; cases hi
       ·rw [if_neg he]; exact hi
      ·simp only [VR]
       exact .inl ⟨trivial, trivial, trivial, trivial⟩
     ·refine ⟨.osl false os.length 0 k k sh.length true, [some (.tarr sh k f false)], _, ⟨false, k, f, rfl, rfl, (fun h => by cases h), ?_, h7⟩, ?_, ?_, hO.push rfl (some lo) (fun l h => by injection h with h; subst h; exact ⟨h1, h6⟩)⟩
      ·have : maxLen = 9223372036854775807 := by decide
       omega
      ·intro id l2 hi
       have hfr := hO.rel.fresh os.length (Nat.le_refl _)
       show (if id = os.length then some lo else φ id) = some l2
       by_cases he : id = os.length
       ·rw [he, hfr] at hi; cases hi
       ·rw [if_neg he]; exact hi
      ·simp only [VR]
       refine .inr ⟨trivial, lo, _, cap, by simp, rfl, Nat.le_refl _, h2, (fun h => by cases h), (fun _ => by simp), fun _ => by simpa using h5⟩
    ·cases hl
   ·cases hl
theorem lfs_ok {base : Nat} (hsp : ∀ b, sp b = true) : ∀ {ls : List Lf} {ts : List TypeId} {cs : List Value} {φ : Phi} {os : List (Option AObj)}, lfsIs P ls ts = true → CellsT enc P W sp held ts cs →
  (∀ (i : Nat) u v, ts[i]? = some u → cs[i]? = some v → Cell.okWide P W .any base u v) → RO W φ os → ∃ xs os1 φ', IsLfs ls os.length xs os1 ∧ PLe φ φ' ∧ VRL φ' xs cs ∧ RO W φ' (os ++ os1)
 | [], [], cs, φ, os, _, hc, _, hO => by
   have : cs = [] := List.eq_nil_of_length_eq_zero (by rw [hc.1]; rfl)
   subst this
   exact ⟨[], [], φ, ⟨rfl, rfl⟩, fun _ _ h => h, VRL.nil, by rw [List.append_nil]; exact hO⟩
 | l :: ls, t :: ts, cs, φ, os, hl, hc, hok, hO => by
   simp only [lfsIs, Bool.and_eq_true] at hl
   cases cs with
   | nil => exact absurd hc.1 (by simp)
   | cons v cs =>
     obtain ⟨v0, n0, y0, e1, e2⟩ := hc.2 0 t rfl
     simp at e1; subst e1
     obtain ⟨x, os1, φ1, a1, a2, a3, a4⟩ := lf_ok hsp hl.1 e2 (hok 0 t v rfl rfl) hO
     have hc' : CellsT enc P W sp held ts cs := ⟨by have := hc.1; simpa using this, fun i u hi => by
      obtain ⟨w, n', y', f1, f2⟩ := hc.2 (i + 1) u (by simpa using hi)
      exact ⟨w, n', y', by simpa using f1, f2⟩⟩
     obtain ⟨xs, os2, φ2, b1, b2, b3, b4⟩ := lfs_ok hsp hl.2 hc' (fun i u w h1 h2 => hok (i + 1) u w (by simpa using h1) (by simpa using h2)) a4
     refine ⟨x :: xs, os1 ++ os2, φ2, ⟨x, os1, xs, os2, rfl, rfl, a1, by rw [← List.length_append]; exact b1⟩, fun id lo h => b2 id lo (a2 id lo h), VRL.cons (VR.mono b2 _ _ a3) b3, by rw [← List.append_assoc]; exact b4⟩
 | [], _ :: _, cs, φ, os, hl, _, _, _ => by simp [lfsIs] at hl
 | _ :: _, [], cs, φ, os, hl, _, _, _ => by simp [lfsIs] at hl
theorem args_ok {base : Nat} (hsp : ∀ b, sp b = true) : ∀ {as : List ArgS} {ts : List TypeId} {vs : List Value} {ds : List (DataW H)} {p : List MemPlace} {φ : Phi} {os : List (Option AObj)}, argsIs P as ts = true → DataW.TrodAll enc P W 0 sp held ts vs ds p →
  (∀ (j : Nat) t v, ts[j]? = some t → vs[j]? = some v → Value.okWide P W .any base t v) → RO W φ os → ∃ xs os1 φ', IsArgs as os.length xs os1 ∧ PLe φ φ' ∧ VRL φ' xs vs ∧ RO W φ' (os ++ os1)
 | [], [], vs, ds, p, φ, os, _, hA, _, hO => by
   obtain ⟨rfl, _, _⟩ := trodAll_nil hA
   exact ⟨[], [], φ, ⟨rfl, rfl⟩, fun _ _ h => h, VRL.nil, by rw [List.append_nil]; exact hO⟩
 | a :: as, t :: ts, vs, ds, p, φ, os, hl, hA, hok, hO => by
   simp only [argsIs, Bool.and_eq_true] at hl
   obtain ⟨v, vs', d, ds', p', q, rfl, rfl, rfl, hv, hr⟩ := trodAll_cons hA
   have hokv := hok 0 t v rfl rfl
   have key : ∃ x os1 φ', IsArg a os.length x os1 ∧ PLe φ φ' ∧ VR φ' x v ∧ RO W φ' (os ++ os1) := by
    obtain ⟨fuel, hv⟩ := hv
    cases a with
    | one l =>
      have h1 : argIs P (.one l) t = true := hl.1
      simp only [argIs] at h1
      have hnagg : (∀ fs, P.underlying t ≠ some (.struct fs)) ∧ ∀ n e, P.underlying t ≠ some (.array n e) := by
       refine ⟨fun fs hu => ?_, fun n e hu => ?_⟩ <;> cases l with
       | one s => cases s <;> simp [lfIs, hu, Sh.descIs] at h1
       | sl sh => simp [lfIs, hu] at h1
      have hcell : Cell.okWide P W .any base t v := by
       have := hokv
       unfold Value.okWide at this
       split at this
       ·rename_i fs hu; exact absurd hu (hnagg.1 fs)
       ·rename_i n e hu; exact absurd hu (hnagg.2 n e)
       ·exact this
      have hcs : v.cells.toList = [v] := by
       cases v <;> first | rfl | skip
       rename_i cs
       exfalso
       unfold Cell.okWide at hcell
       split at hcell <;> first | (rename_i h; cases h; done) | skip
       all_goals (unfold Cell.ok at hcell; split at hcell <;> simp_all)
      rw [hcs] at hv
      exact lf_ok hsp h1 hv hcell hO
    | st ls =>
      have h1 : argIs P (.st ls) t = true := hl.1
      simp only [argIs, Bool.and_eq_true] at h1
      obtain ⟨hagg, h2⟩ := h1
      split at h2
      ·rename_i us ws hf hct
       simp only [Bool.and_eq_true] at h2
       have := natsEq_ok h2.1; subst this
       have hrow : ∃ cs, v = .agg cs ∧ cs.size = P.cellsOf t ∧ Row.okWide P W .any base t cs := by
        have := hokv
        unfold Value.okWide at this
        split at this
        ·exact this
        ·exact this
        ·rename_i hn1 hn2
         split at hagg
         ·rename_i fs hu; exact absurd hu (hn1 fs)
         ·rename_i n e hu; exact absurd hu (hn2 n e)
         ·cases hagg
       obtain ⟨cs, rfl, hsz, tsx, q1, _, q3⟩ := hrow
       rw [hct] at q1; injection q1 with q1; subst q1
       have hC := flatT_ok 20 t us _ _ _ hf hv
       have hcl : (Value.agg cs).cells.toList = cs.toList := rfl
       rw [hcl] at hC
       obtain ⟨xs, os1, φ', b1, b2, b3, b4⟩ := lfs_ok hsp h2.2 hC (fun i u w hi hw => by
        have hlt := (List.getElem?_eq_some_iff.1 hi).1
        obtain ⟨u', e1, e2⟩ := q3 i w (by rw [Array.getElem?_toList] at hw; exact hw)
        rw [Nat.mod_eq_of_lt hlt, hi] at e1
        injection e1 with e1; subst e1
        exact e2) hO
       refine ⟨.agg xs, os1, φ', ⟨xs, rfl, b1⟩, b2, ?_, b4⟩
       simp only [VR]
       exact ⟨cs.toList, by simp, b3⟩
      ·cases h2
   obtain ⟨x, os1, φ1, a1, a2, a3, a4⟩ := key
   obtain ⟨xs, os2, φ2, b1, b2, b3, b4⟩ := args_ok hsp hl.2 hr (fun j u w h1 h2 => hok (j + 1) u w (by simpa using h1) (by simpa using h2)) a4
   exact ⟨x :: xs, os1 ++ os2, φ2, ⟨x, os1, xs, os2, rfl, rfl, a1, by rw [← List.length_append]; exact b1⟩, fun id lo h => b2 id lo (a2 id lo h), VRL.cons (VR.mono b2 _ _ a3) b3, by rw [← List.append_assoc]; exact b4⟩
 | [], _ :: _, vs, ds, p, φ, os, hl, _, _, _ => by simp [argsIs] at hl
 | _ :: _, [], vs, ds, p, φ, os, hl, _, _, _ => by simp [argsIs] at hl
theorem trods_below {ts : List TypeId} (hl : laidOutB P = true) {W' : World} (hb : Below W.heap.size W W') : ∀ {ts : List TypeId} {vs : List Value} {ds : List (DataW H)} {p : List MemPlace}, (ts.all fun t => P.readableRec t && Nat.blt t P.types.size) = true →
  DataW.TrodAll enc P W 0 (fun _ => true) true ts vs ds p → DataW.TrodAll enc P W' 0 (fun b => decide (b < W.heap.size)) true ts vs ds p
 | [], vs, ds, p, _, hA => by
   obtain ⟨rfl, rfl, rfl⟩ := trodAll_nil hA
   exact trodAll_mk0
 | t :: ts, vs, ds, p, h, hA => by
   simp only [List.all_cons, Bool.and_eq_true] at h
   obtain ⟨v, vs', d, ds', p', q, rfl, rfl, rfl, hv, hr⟩ := trodAll_cons hA
   have hlt : ∀ y ∈ p', y.block < W.heap.size := by obtain ⟨m, hm⟩ := hv; exact DataW.trod_lt m _ _ _ hm
   have hsz : t < P.types.size := by have := h.1.2; rw [blt_iff] at this; simpa using this
   exact trodAll_cons_mk (Below.trod hl h.1.1 hsz hv hb hlt) (trods_below (ts := ts) hl hb h.2 hr)
end
end Go.Proofs.Ytmjmhpbncfjnpaa.Bm
