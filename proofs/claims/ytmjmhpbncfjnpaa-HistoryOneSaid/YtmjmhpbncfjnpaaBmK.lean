/- The abstract machine: what lays new objects, and what changes the heap. -/
import Derived.Test.YtmjmhpbncfjnpaaBmX
import Derived.Laws.IdiomCopy
set_option linter.unusedSimpArgs false
set_option linter.unusedVariables false
namespace Go.Proofs.Ytmjmhpbncfjnpaa.Bm
open Go.RowKit
def upd (φ : Phi) (id : Nat) (l : Loc) : Phi := fun i => if i = id then some l else φ i
theorem upd_same (φ : Phi) (id : Nat) (l : Loc) : upd φ id l id = some l := by simp [upd]
theorem upd_ne (φ : Phi) {id i : Nat} (l : Loc) (h : i ≠ id) : upd φ id l i = φ i := by simp [upd, h]
theorem upd_le {φ : Phi} {id : Nat} (l : Loc) (h : φ id = none) : ∀ i m, φ i = some m → upd φ id l i = some m := by
 intro i m hm
 rw [upd_ne φ l (fun e => by subst e; rw [h] at hm; cases hm)]
 exact hm
theorem cell?_of_heap {w w' : World} {c : Nat} (h : w'.heap[c]? = w.heap[c]?) (o : Nat) : w'.cell? ⟨c, o, none⟩ = w.cell? ⟨c, o, none⟩ := by
 simp [World.cell?, h]
theorem frozen?_of_heap {w w' : World} {c : Nat} (h : w'.heap[c]? = w.heap[c]?) (o : Nat) : w'.frozen? ⟨c, o, none⟩ = w.frozen? ⟨c, o, none⟩ := by
 simp [World.frozen?, h]
theorem TmpsR.mono {φ φ' : Phi} (h : ∀ id l, φ id = some l → φ' id = some l) {t : Tr AV} {n : Nat} {a : Array Value} (ht : TmpsR φ t n a) : TmpsR φ' t n a :=
 ⟨ht.1, fun j => VR.mono h _ _ (ht.2 j)⟩
theorem EntsR.mono {φ φ' : Phi} (h : ∀ id l, φ id = some l → φ' id = some l) {es : List (AV × AV × Nat)} {ms : List MapEntry} (he : EntsR φ es ms) : EntsR φ' es ms :=
 ⟨he.1, fun j e hj => by
   obtain ⟨m, h1, h2, h3, h4⟩ := he.2 j e hj
   exact ⟨m, h1, VR.mono h _ _ h2, VR.mono h _ _ h3, h4⟩⟩
theorem CellsR.keep {φ φ' : Phi} {w w' : World} {l : Loc} {vs : List AV} {rw : Bool} (h : CellsR φ w l vs rw) (hh : w'.heap[l.c]? = w.heap[l.c]?) (hle : ∀ id l, φ id = some l → φ' id = some l) : CellsR φ' w' l vs rw := by
 obtain ⟨h1, h2, h3⟩ := h
 refine ⟨fun j x hx => ?_, h2, fun hr => ?_⟩
 ·obtain ⟨v, a, b⟩ := h1 j x hx
  exact ⟨v, (cell?_of_heap hh _).trans a, VR.mono hle _ _ b⟩
 ·obtain ⟨arr, e, fz, a, b, c⟩ := h3 hr
  exact ⟨arr, e, fz, hh.trans a, b, fun j hj => (frozen?_of_heap hh _).trans (c j hj)⟩
theorem ObjR.keep {φ φ' : Phi} {w w' : World} {l : Loc} {o : AObj} (h : ObjR φ w l o) (hh : w'.heap[l.c]? = w.heap[l.c]?) (hle : ∀ id l, φ id = some l → φ' id = some l) : ObjR φ' w' l o := by
 cases o with
 | cells vs rw => exact CellsR.keep h hh hle
 | tarr sh n f rw => exact CellsR.keep h hh hle
 | map es clock =>
   obtain ⟨ms, a, b⟩ := h
   exact ⟨ms, hh.trans a, b.mono hle⟩
 | omap ks vs ka va z has f rw_ =>
   obtain ⟨es, clock, ⟨ms, a, b⟩, c⟩ := h
   exact ⟨es, clock, ⟨ms, hh.trans a, b.mono hle⟩, c⟩
 | loop lp =>
   obtain ⟨fn, tmps, ld, a, b, c⟩ := h
   exact ⟨fn, tmps, ld, hh.trans a, hle _ _ b, c.mono hle⟩
 | defd => exact hh.trans h
 | miter m since seen last =>
   obtain ⟨h0, cm, a, b⟩ := h
   refine ⟨h0, cm, hh.trans a, ?_⟩
   cases m with
   | none => exact b
   | some id => obtain ⟨lm, b1, b2⟩ := b; exact ⟨lm, hle _ _ b1, b2⟩
section
variable {w0 w w' : World} {φ : Phi} {g : Heap} {n : Nat}
theorem Rel.base (hR : Rel w0 φ g n w) : w0.heap.size ≤ w.heap.size := hR.below.size
theorem Rel.lt (hR : Rel w0 φ g n w) {id : Nat} {o : AObj} {l : Loc} (hg : g id = some o) (hl : φ id = some l) : l.c < w.heap.size := by
 have hO := hR.objs id o l hg hl
 have some_lt : ∀ {x : Obj}, w.heap[l.c]? = some x → l.c < w.heap.size := fun h => (Array.getElem?_eq_some_iff.1 h).1
 cases o with
 | cells vs rw =>
   cases rw with
   | true => obtain ⟨arr, e, fz, h, _⟩ := hO.2.2 rfl; exact some_lt h
   | false =>
     have : ¬ w0.heap.size ≤ l.c := fun h => by have := (hR.own id _ l hg hl).2 h; simp [AObj.rw] at this
     have := hR.base
     omega
 | tarr sh n f rw =>
   cases rw with
   | true => obtain ⟨arr, e, fz, h, _⟩ := hO.2.2 rfl; exact some_lt h
   | false =>
     have : ¬ w0.heap.size ≤ l.c := fun h => by have := (hR.own id _ l hg hl).2 h; simp [AObj.rw] at this
     have := hR.base
     omega
 | map es clock => obtain ⟨ms, h, _⟩ := hO; exact some_lt h
 | omap ks vs ka va z has f rw_ => obtain ⟨es, clock, ⟨ms, h, _⟩, _⟩ := hO; exact some_lt h
 | loop lp => obtain ⟨fn, tmps, ld, h, _⟩ := hO; exact some_lt h
 | defd => exact some_lt hO
 | miter m since seen last => obtain ⟨_, cm, h, _⟩ := hO; exact some_lt h
structure Laid (w w' : World) : Prop where
 os : w'.os = w.os
 tape : w'.tape = w.tape
 output : w'.output = w.output
 size : w'.heap.size = w.heap.size + 1
 block : ∀ c, c < w.heap.size → w'.heap[c]? = w.heap[c]?
theorem Laid.below (h : Laid w w') (hb : Below w0.heap.size w0 w) : Below w0.heap.size w0 w' :=
 ⟨h.os.trans hb.os, h.tape.trans hb.tape, h.output.trans hb.output, by have := hb.size; have := h.size; omega,
   fun k hk => (h.block k (Nat.lt_of_lt_of_le hk hb.size)).trans (hb.block k hk)⟩
theorem Laid.alloc (w : World) (o : Obj) : Laid w (w.alloc o) where
 os := rfl
 tape := rfl
 output := rfl
 size := by show (w.heap.push o).size = _; simp
 block := fun c hc => by show (w.heap.push o)[c]? = _; simp [Array.getElem?_push, Nat.ne_of_lt hc]
theorem Laid.new (w : World) (o : Obj) : (w.alloc o).heap[w.heap.size]? = some o := by show (w.heap.push o)[w.heap.size]? = _; simp
theorem Laid.drewN (h : Laid w w') (k : Nat) : Laid w { w' with drawn := k } := ⟨h.os, h.tape, h.output, h.size, h.block⟩
theorem Rel.alloc (hR : Rel w0 φ g n w) (hL : Laid w w') {id n' : Nat} {o : AObj} {l : Loc} (hid : φ id = none) (hn : n ≤ n') (hid' : id < n') (hc : l.c = w.heap.size) (hrw : o.rw = true) (hO : ObjR (upd φ id l) w' l o) :
  Rel w0 (upd φ id l) (gset g id (some o)) n' w' := by
 have hle := upd_le (φ := φ) (id := id) l hid
 refine ⟨?_, ?_, ?_, ?_, fun i hi => by simp only [gset]; rw [if_neg (by omega)]; exact hR.gfresh i (by omega), hL.below hR.below⟩
 ·intro i oi li hg hl
  by_cases hi : i = id
  ·subst hi
   simp only [gset, if_true, Option.some.injEq] at hg
   rw [upd_same] at hl
   injection hl with hl
   subst hg; subst hl
   exact hO
  ·simp only [gset, hi, if_false] at hg
   rw [upd_ne φ l hi] at hl
   exact (hR.objs i oi li hg hl).keep (hL.block _ (hR.lt hg hl)) hle
 ·intro i oi li hg hl
  by_cases hi : i = id
  ·subst hi
   simp only [gset, if_true, Option.some.injEq] at hg
   rw [upd_same] at hl
   injection hl with hl
   subst hg; subst hl
   have := hR.base
   exact ⟨fun _ => by omega, fun _ => hrw⟩
  ·simp only [gset, hi, if_false] at hg
   rw [upd_ne φ l hi] at hl
   exact hR.own i oi li hg hl
 ·intro i j oi oj li lj hij hgi hgj hli hlj hrwi
  by_cases hi : i = id
  ·subst hi
   have hj : j ≠ i := fun e => hij e.symm
   simp only [gset, hj, if_false] at hgj
   rw [upd_ne φ l hj] at hlj
   rw [upd_same] at hli
   injection hli with hli; subst hli
   have := hR.lt hgj hlj
   omega
  ·simp only [gset, hi, if_false] at hgi
   rw [upd_ne φ l hi] at hli
   by_cases hj : j = id
   ·subst hj
    rw [upd_same] at hlj
    injection hlj with hlj; subst hlj
    have := hR.lt hgi hli
    omega
   ·simp only [gset, hj, if_false] at hgj
    rw [upd_ne φ l hj] at hlj
    exact hR.inj i j oi oj li lj hij hgi hgj hli hlj hrwi
 ·intro i hi
  rw [upd_ne φ l (by omega)]
  exact hR.fresh i (by omega)
theorem Ext.alloc (hR : Rel w0 φ g n w) (hL : Laid w w') {o : AObj} {l : Loc} (hc : l.c = w.heap.size) : Ext w0 φ g n w (upd φ n l) (gset g n (some o)) (n + 1) w' where
 le := upd_le l (hR.fresh n (Nat.le_refl _))
 dom := fun i hi h => by rw [upd_ne φ l (by omega)]; exact h
 ghost := fun i hi h => by simp [gset, show ¬ i = n by omega]
 frame := fun c hc _ => hL.block c hc
 img := fun i oi li hg hl hr => by
  by_cases hi : i = n
  ·subst hi
   rw [upd_same] at hl
   injection hl with hl; subst hl
   exact .inl (by omega)
  ·simp only [gset, hi, if_false] at hg
   rw [upd_ne φ l hi] at hl
   exact .inr ⟨i, oi, li, hg, hl, hr, rfl⟩
 nle := by omega
 wle := by rw [hL.size]; omega
structure Turned (w w' : World) (c : Nat) : Prop where
 os : w'.os = w.os
 tape : w'.tape = w.tape
 output : w'.output = w.output
 size : w'.heap.size = w.heap.size
 block : ∀ i, i ≠ c → w'.heap[i]? = w.heap[i]?
theorem Turned.refl (w : World) (c : Nat) : Turned w w c := ⟨rfl, rfl, rfl, rfl, fun _ _ => rfl⟩
theorem Rel.turn (hR : Rel w0 φ g n w) {id : Nat} {o o' : AObj} {l : Loc} (hg : g id = some o) (hl : φ id = some l) (hrw : o.rw = true) (hrw' : o'.rw = true) (hT : Turned w w' l.c) (hO : ObjR φ w' l o') :
  Rel w0 φ (gset g id (some o')) n w' ∧ Ext w0 φ g n w φ (gset g id (some o')) n w' := by
 have hown := (hR.own id o l hg hl).1 hrw
 refine ⟨⟨?_, ?_, ?_, hR.fresh, (fun i hi => by
  have := hR.gfresh i hi
  simp only [gset]
  rw [if_neg (fun e => by subst e; rw [hg] at this; cases this)]
  exact this), ?_⟩, ⟨fun _ _ h => h, fun _ _ h => h, ?_, ?_, ?_, Nat.le_refl _, by rw [hT.size]; exact Nat.le_refl _⟩⟩
 ·intro i oi li hgi hli
  by_cases hi : i = id
  ·subst hi
   simp only [gset, if_true, Option.some.injEq] at hgi
   rw [hl] at hli
   injection hli with hli
   subst hgi; subst hli
   exact hO
  ·simp only [gset, hi, if_false] at hgi
   have hne : l.c ≠ li.c := hR.inj id i o oi l li (fun e => hi e.symm) hg hgi hl hli hrw
   exact (hR.objs i oi li hgi hli).keep (hT.block _ (fun e => hne e.symm)) (fun _ _ h => h)
 ·intro i oi li hgi hli
  by_cases hi : i = id
  ·subst hi
   simp only [gset, if_true, Option.some.injEq] at hgi
   rw [hl] at hli
   injection hli with hli
   subst hgi; subst hli
   exact ⟨fun _ => hown, fun _ => hrw'⟩
  ·simp only [gset, hi, if_false] at hgi
   exact hR.own i oi li hgi hli
 ·intro i j oi oj li lj hij hgi hgj hli hlj hrwi
  have pull : ∀ k ok lk, gset g id (some o') k = some ok → φ k = some lk → ∃ ok', g k = some ok' ∧ (ok.rw = true → ok'.rw = true) := by
   intro k ok lk h1 h2
   by_cases hk : k = id
   ·subst hk; exact ⟨o, hg, fun _ => hrw⟩
   ·simp only [gset, hk, if_false] at h1
    exact ⟨ok, h1, fun h => h⟩
  obtain ⟨oi', gi', ri⟩ := pull i oi li hgi hli
  obtain ⟨oj', gj', _⟩ := pull j oj lj hgj hlj
  exact hR.inj i j oi' oj' li lj hij gi' gj' hli hlj (ri hrwi)
 ·have hb := hR.below
  exact ⟨hT.os.trans hb.os, hT.tape.trans hb.tape, hT.output.trans hb.output, by rw [hT.size]; exact hb.size, fun k hk => (hT.block k (by omega)).trans (hb.block k hk)⟩
 ·intro i hi h
  have : i ≠ id := fun e => by subst e; rw [h] at hl; cases hl
  simp [gset, this]
 ·intro c hc hno
  exact hT.block c (fun e => hno id o l hg hl hrw e.symm)
 ·intro i oi li hgi hli hr
  by_cases hi : i = id
  ·subst hi
   rw [hl] at hli
   injection hli with hli; subst hli
   exact .inr ⟨i, o, l, hg, hl, hrw, rfl⟩
  ·simp only [gset, hi, if_false] at hgi
   exact .inr ⟨i, oi, li, hgi, hli, hr, rfl⟩
theorem Rel.kill (hR : Rel w0 φ g n w) (id : Nat) : Rel w0 φ (gset g id none) n w := by
 have pull : ∀ i o, gset g id none i = some o → g i = some o := by
  intro i o h
  by_cases hi : i = id
  ·subst hi; simp [gset] at h
  ·simpa [gset, hi] using h
 exact ⟨fun i o l h1 h2 => hR.objs i o l (pull _ _ h1) h2, fun i o l h1 h2 => hR.own i o l (pull _ _ h1) h2,
  fun i j oi oj li lj hij h1 h2 h3 h4 h5 => hR.inj i j oi oj li lj hij (pull _ _ h1) (pull _ _ h2) h3 h4 h5, hR.fresh, (fun i hi => by simp only [gset]; split <;> first | rfl | exact hR.gfresh i hi), hR.below⟩
theorem Ext.kill {l : Loc} {id : Nat} (hl : φ id = some l) (hw : w.heap.size ≤ w'.heap.size) (hb : ∀ c, c < w.heap.size → w'.heap[c]? = w.heap[c]?) : Ext w0 φ g n w φ (gset g id none) n w' where
 le := fun _ _ h => h
 dom := fun _ _ h => h
 ghost := fun i _ h => by
  have : i ≠ id := fun e => by subst e; rw [h] at hl; cases hl
  simp [gset, this]
 frame := fun c hc _ => hb c hc
 img := fun i o li h1 h2 h3 => by
  by_cases hi : i = id
  ·subst hi; simp [gset] at h1
  ·simp only [gset, hi, if_false] at h1
   exact .inr ⟨i, o, li, h1, h2, h3, rfl⟩
 nle := Nat.le_refl _
 wle := hw
end
section
variable {P : Program} {E : Env} {w0 w w' : World} {φ : Phi} {g : Heap} {n : Nat}
theorem setCells_spec (b : Nat) (e : TypeId) (fz : Nat × Nat) : ∀ (vs : List Value) (o : Nat) (arr : Array Value) (w : World), w.heap[b]? = some (.cells arr e fz) → o + vs.length ≤ arr.size →
  Turned w (w.setCells b o vs) b ∧ ∃ arr', (w.setCells b o vs).heap[b]? = some (.cells arr' e fz) ∧ arr'.size = arr.size ∧ ∀ j : Nat, arr'[j]? = if o ≤ j ∧ j < o + vs.length then vs[j - o]? else arr[j]?
 | [], o, arr, w, h, _ => by
   refine ⟨Turned.refl _ _, arr, h, rfl, fun j => ?_⟩
   rw [if_neg (by simp)]
 | v :: vs, o, arr, w, h, hl => by
   simp only [List.length_cons] at hl
   simp only [World.setCells]
   have hs : (w.setCell ⟨b, o, none⟩ v).heap[b]? = some (.cells (arr.setIfInBounds o v) e fz) := by
    simp [World.setCell, Array.getElem?_modify, h]
   obtain ⟨hT, arr', h1, h2, h3⟩ := setCells_spec b e fz vs (o + 1) (arr.setIfInBounds o v) (w.setCell ⟨b, o, none⟩ v) hs (by simp; omega)
   refine ⟨⟨hT.os, hT.tape, hT.output, by rw [hT.size]; simp [World.setCell], fun i hi => ?_⟩, arr', h1, by rw [h2]; simp, fun j => ?_⟩
   ·rw [hT.block i hi]
    simp only [World.setCell, Array.getElem?_modify]
    rw [if_neg (fun e => hi e.symm)]
   ·rw [h3]
    by_cases hj : j = o
    ·subst hj
     rw [if_neg (by omega), if_pos ⟨by omega, by simp⟩]
     simp [Array.getElem?_setIfInBounds, show j < arr.size by omega]
    ·by_cases hj2 : o ≤ j ∧ j < o + (v :: vs).length
     ·simp only [List.length_cons] at hj2
      rw [if_pos ⟨by omega, by omega⟩, if_pos ⟨by omega, by simp; omega⟩]
      rw [show j - o = (j - (o + 1)) + 1 by omega]
      simp
     ·simp only [List.length_cons] at hj2
      rw [if_neg (by omega), if_neg (by simp; omega)]
      rw [Array.getElem?_setIfInBounds_ne (by omega)]
theorem oneCell_of {x : AV} {v : Value} (h : VR φ x v) (hx : x.one = true) : v.oneCell' = true := by
 obtain ⟨h1, h2⟩ := h.one hx
 cases v <;> first | rfl | exact absurd rfl (h1 _) | exact absurd rfl (h2 _)
theorem run_storeCells (hR : Rel w0 φ g n w) {id : Nat} {l : Loc} {vs : List AV} (hg : g id = some (.cells vs true)) (hl : φ id = some l) {off : Nat} {news : List AV} {cs : List Value} (hcs : VRL φ news cs)
  (hone : news.all AV.one = true) (hfit : off + cs.length ≤ l.room) :
  ∃ w', (storeCells ⟨l.c, l.o + off, none⟩ cs).run P w = .ok () w' ∧ Turned w w' l.c ∧
   ∃ arr arr' e fz, w.heap[l.c]? = some (.cells arr e fz) ∧ w'.heap[l.c]? = some (.cells arr' e fz) ∧ arr.size = l.o + l.room ∧ arr'.size = l.o + l.room ∧
    (∀ j, j < l.room → w'.frozen? ⟨l.c, l.o + j, none⟩ = false) ∧
    ∀ j : Nat, w'.cell? ⟨l.c, l.o + j, none⟩ = if off ≤ j ∧ j < off + cs.length then cs[j - off]? else w.cell? ⟨l.c, l.o + j, none⟩ := by
 obtain ⟨arr, e, fz, h1, h2, h3⟩ := (hR.objs id _ l hg hl).2.2 rfl
 have hall : ∀ v ∈ cs, v.oneCell' = true := by
  intro v hv
  obtain ⟨j, hj1, hj2⟩ := List.getElem_of_mem hv
  have hjl : j < news.length := by rw [← hcs.length]; exact hj1
  obtain ⟨v', a, b⟩ := hcs.at_ j _ (List.getElem?_eq_getElem hjl)
  rw [List.getElem?_eq_getElem hj1] at a
  injection a with a
  rw [← hj2, a]
  exact oneCell_of b (List.all_eq_true.1 hone _ (List.getElem_mem hjl))
 have hrun := run_storeCells_cells (P := P) l.c (l.o + off) cs 0 w (fun j hj => by
   simp only [Nat.add_zero, World.cell?, h1]
   simp [show l.o + off + j < arr.size by omega]) (fun j hj => by
   have := h3 (off + j) (by omega)
   rw [Nat.add_zero, Nat.add_assoc]; exact this) hall
 obtain ⟨hT, arr', a1, a2, a3⟩ := setCells_spec l.c e fz cs (l.o + off) arr w h1 (by omega)
 refine ⟨_, hrun, hT, arr, arr', e, fz, h1, a1, h2, by rw [a2]; exact h2, fun j hj => ?_, fun j => ?_⟩
 ·have := h3 j hj
  simp only [World.frozen?, h1] at this
  simp only [World.frozen?, Nat.add_zero, a1]
  exact this
 ·have e1 : (w.setCells l.c (l.o + off + 0) cs).cell? ⟨l.c, l.o + j, none⟩ = arr'[l.o + j]? := by simp [World.cell?, a1]
  have e2 : w.cell? ⟨l.c, l.o + j, none⟩ = arr[l.o + j]? := by simp [World.cell?, h1]
  rw [e1, e2, a3]
  by_cases hj : off ≤ j ∧ j < off + cs.length
  ·rw [if_pos hj, if_pos ⟨by omega, by omega⟩]
   congr 1; omega
  ·rw [if_neg hj, if_neg (by omega)]
theorem run_write {σ σ' : St} (hR : Rel w0 φ σ.get σ.next w) {id off : Nat} {news : List AV} {l : Loc} {cs : List Value} (h : awrite σ id off news = some σ') (hl : φ id = some l) (hcs : VRL φ news cs) :
  ∃ w', (storeCells ⟨l.c, l.o + off, none⟩ cs).run P w = .ok () w' ∧ Rel w0 φ σ'.get σ'.next w' ∧ Ext w0 φ σ.get σ.next w φ σ'.get σ'.next w' := by
 unfold awrite at h
 split at h
 ·simp only [Option.some.injEq] at h; subst h
  simp only [VRL] at hcs; subst hcs
  exact ⟨w, by simp [storeCells, Sem.run_pure], hR, Ext.refl _ _ _ _ _⟩
 ·rename_i hne
  split at h
  ·rename_i vs hg
   cases hone : news.all AV.one with
   | false => rw [hone] at h; cases h
   | true =>
     rw [hone] at h
     simp only [cond_true] at h
     split at h
     ·rename_i vs' hw
      simp only [Option.some.injEq] at h; subst h
      obtain ⟨s1, s2, s3⟩ := wr_spec _ _ _ _ hw
      have hO := hR.objs id _ l hg hl
      have hfit : off + cs.length ≤ l.room := by
       rw [hcs.length]
       have := s2 (fun e => hne (by simp [e]))
       have := hO.2.1
       omega
      obtain ⟨w', hrun, hT, arr, arr', e, fz, a1, a2, a3, a4, a5, a6⟩ := run_storeCells (P := P) hR hg hl hcs hone hfit
      have hObj : ObjR φ w' l (.cells vs' true) := by
       refine ⟨fun j x hx => ?_, by rw [s1]; exact hO.2.1, fun _ => ⟨arr', e, fz, a2, a4, a5⟩⟩
       rw [s3] at hx
       rw [a6, hcs.length]
       split at hx
       ·rename_i hc
        rw [if_pos hc]
        exact hcs.at_ _ _ hx
       ·rename_i hc
        rw [if_neg hc]
        exact hO.1 _ _ hx
      obtain ⟨r1, r2⟩ := hR.turn hg hl rfl rfl hT hObj
      have hgs : (σ.put id (.cells vs' true)).get = gset σ.get id (some (.cells vs' true)) := by
       funext i
       simp only [St.get, St.put, gset, Tr.get_set]
      exact ⟨w', hrun, by rw [hgs]; exact r1, by rw [hgs]; exact r2⟩
     ·cases h
  ·cases h
end
end Go.Proofs.Ytmjmhpbncfjnpaa.Bm
