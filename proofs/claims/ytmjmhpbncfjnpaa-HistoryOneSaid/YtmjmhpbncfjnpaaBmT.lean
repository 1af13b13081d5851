/- The abstract machine: a region that draws its order. -/
import Derived.Test.YtmjmhpbncfjnpaaBmTe
set_option linter.unusedSimpArgs false
set_option linter.unusedVariables false
namespace Go.Proofs.Ytmjmhpbncfjnpaa.Bm
open Go.RowKit
theorem count_set : ∀ (l : List Bool) (i : Nat), l[i]? = some false → (l.set i true).count false + 1 = l.count false
 | [], i, h => by simp at h
 | b :: l, 0, h => by
   simp at h; subst h
   simp
 | b :: l, i + 1, h => by
   have := count_set l i (by simpa using h)
   simp only [List.set_cons_succ, List.count_cons]
   omega
section
variable {P : Program} {E : Env} {rec : Job → St → Option (Out × St)} {ops : Array Oper} {mk wr : Tr Nat} {st : Nat → DS} {vs : Nat → AV} {obs : Nat → AObj} {w0 ws : World} {φ0 : Phi} {g0 : Heap} {n0 n1 : Nat}
variable {a0 : Act} {n : Nat} {r : Option Nat} {Q : Exit → Act → World → Prop}
theorem getD_cases {listed : Array Bool} {i : Nat} (h : listed.getD i true = false) : i < listed.size ∧ listed.toList[i]? = some false ∧ listed.getD i false = false := by
 rcases Nat.lt_or_ge i listed.size with hi | hi
 ·have e : listed.getD i true = listed[i] := by simp [Array.getD_eq_getD_getElem?, hi]
  have e' : listed.getD i false = listed[i] := by simp [Array.getD_eq_getD_getElem?, hi]
  rw [e] at h
  exact ⟨hi, by simp [hi, h], by rw [e', h]⟩
 ·have e : listed.getD i true = true := by simp [Array.getD_eq_getD_getElem?, Array.getElem?_eq_none hi]
  rw [e] at h; cases h
theorem draw_all (C : Ctx P E rec ops mk wr st vs obs w0 ws φ0 g0 n0 n1) (h0 : (st 0).effs = []) (hQ : ∀ p φ (S : Nat → Prop) a w, (∀ j, j < ops.size → S j) → Inv E ops mk st vs obs w0 ws φ0 g0 n0 n1 a0 p φ S a w → Q .normal a w) :
  ∀ (fuel : Nat) (listed : Array Bool) (p : Nat) (φ : Phi) (a : Act) (w : World), listed.size = ops.size → listed.toList.count false ≤ fuel →
   Inv E ops mk st vs obs w0 ws φ0 g0 n0 n1 a0 p φ (fun j => listed.getD j false = true) a w → wpAnyIn (fen r) n P .any ops Q fuel listed a w := by
 have done : ∀ (listed : Array Bool) (p : Nat) (φ : Phi) (a : Act) (w : World), listed.size = ops.size → Region.ready .any ops listed = [] →
   Inv E ops mk st vs obs w0 ws φ0 g0 n0 n1 a0 p φ (fun j => listed.getD j false = true) a w → Q .normal a w := by
  intro listed p φ a w hsz hr I
  refine hQ p φ _ a w ?_ I
  intro j
  induction j using Nat.strongRecOn with
  | _ j ih =>
    intro hj
    cases hb : listed.getD j false with
    | true => rfl
    | false =>
      exfalso
      obtain ⟨o, ho⟩ := at_of_lt hj
      have hmem : j ∈ Region.ready .any ops listed := by
       rw [mem_ready]
       refine ⟨?_, o, ho, fun e he hbd => ?_⟩
       ·have hjl : j < listed.size := by omega
        have e1 : listed.getD j true = listed[j] := by simp [Array.getD_eq_getD_getElem?, hjl]
        have e2 : listed.getD j false = listed[j] := by simp [Array.getD_eq_getD_getElem?, hjl]
        rw [e1, ← e2, hb]
       ·have hok := C.ok j o ho
        simp only [operOk, Bool.and_eq_true] at hok
        have he' : edgeOk j e = true := List.all_eq_true.1 hok.1.1.1 e (Array.mem_toList_iff.2 he)
        unfold edgeOk at he'
        rw [ebinds_any, hbd] at he'
        simp only [cond_true] at he'
        have hlt : e.on < j := by simpa [Nat.blt_eq] using he'
        exact ih e.on hlt (by omega)
      rw [hr] at hmem
      cases hmem
 intro fuel
 induction fuel with
 | zero =>
   intro listed p φ a w hsz hc I
   have hr : Region.ready .any ops listed = [] := by
    cases hr : Region.ready .any ops listed with
    | nil => rfl
    | cons i rest =>
      exfalso
      have hi : i ∈ Region.ready .any ops listed := by rw [hr]; exact List.mem_cons_self
      obtain ⟨h1, _⟩ := mem_ready.1 hi
      obtain ⟨_, h2, _⟩ := getD_cases h1
      have := count_set _ _ h2
      omega
   exact ⟨hr, done listed p φ a w hsz hr I⟩
 | succ fuel ih =>
   intro listed p φ a w hsz hc I
   refine ⟨fun hr => done listed p φ a w hsz hr I, fun i hi => ?_⟩
   obtain ⟨h1, o, ho, h2⟩ := mem_ready.1 hi
   obtain ⟨h3, h4, h5⟩ := getD_cases h1
   have hS : ¬ listed.getD i false = true := by rw [h5]; intro h; cases h
   refine I.exec C h0 ho hS ?_ ?_
   ·intro b hb
    obtain ⟨e, e1, e2, e3⟩ := C.bits i o ho b hb
    have he := h2 e e1 (by rw [← ebinds_any]; exact e2)
    rcases e3 with e3 | e3
    ·rw [← e3]; exact he
    ·exact I.cl e.on he b e3
   ·intro p' φ' a' w' I'
    have hset : (fun j => (listed.setIfInBounds i true).getD j false = true) = (fun j => listed.getD j false = true ∨ j = i) := by
     funext j
     apply propext
     simp only [Array.getD_eq_getD_getElem?, Array.getElem?_setIfInBounds]
     by_cases hj : i = j
     ·subst hj
      simp [h3]
     ·have hj' : ¬ j = i := fun e => hj e.symm
      simp [hj, hj']
    refine ih (listed.setIfInBounds i true) p' φ' a' w' (by simpa using hsz) ?_ ?_
    ·have := count_set _ _ h4
     rw [Array.toList_setIfInBounds]
     omega
    ·rw [hset]; exact I'
end
section
variable {P : Program} {E : Env} {w0 w w' : World} {φ φ' : Phi} {g : Heap} {n : Nat} {σ σ' : St} {fr fr' : Fr} {a : Act} {r : Option Nat} {rec : Job → St → Option (Out × St)}
theorem Rel.widen {n' : Nat} (hR : Rel w0 φ g n w) (h : n ≤ n') : Rel w0 φ g n' w :=
 ⟨hR.objs, hR.own, hR.inj, fun id hi => hR.fresh id (by omega), fun id hi => hR.gfresh id (by omega), hR.below⟩
theorem adraw_sound (hE : EnvOK P E) (hrec : RecOK P w0 rec) {id : Nat} {ops : Array Oper} (h : adraw E rec ops fr σ = some (fr', σ')) (hR : Rel w0 φ σ.get σ.next w) (hF : FrR φ fr a r) :
  (Code.region id ops true).wpIn (fen r) n P (CodePost w0 φ σ w r .normal fr' σ') a w := by
 unfold adraw at h
 simp only at h
 split at h
 ·cases h
 ·rename_i wr hwr
  obtain ⟨hok, h⟩ := cond_some h
  split at h
  ·cases h
  ·rename_i s hs
   obtain ⟨hreads, h⟩ := cond_some h
   simp only [Option.some.injEq, Prod.mk.injEq] at h
   obtain ⟨rfl, rfl⟩ := h
   obtain ⟨st, vs, obs, t1, t2, t3⟩ := dloop_trace _ _ _ _ hs
   rw [Nat.zero_add, Array.length_toList] at t2
   have at_ : ∀ (i : Nat) (o : Oper), ops[i]? = some o → ops.toList[i]? = some o := fun i o h => by simpa using h
   have hstep : ∀ i o, ops[i]? = some o → DStep E rec ops (masks ops.toList 0 .nil) o i (st i) (vs i) (obs i) (st (i + 1)) := fun i o ho => by
    have := t3 i o (at_ i o ho)
    simpa only [Nat.zero_add] using this
   have hal0 : (st 0).al = σ.next := by rw [t1]
   have hal := nallocs_al (st := st) (vs := vs) (obs := obs) ops.toList 0 t3
   rw [Nat.zero_add, Array.length_toList, hal0] at hal
   have hwspec := writers_spec ops.toList 0 .nil wr hwr
   have hWw : ∀ t j, wr.get t = some j ↔ W ops t j := by
    intro t j
    rw [hwspec t j]
    constructor
    ·rintro (h | ⟨k, o, h1, h2, h3⟩)
     ·simp [Tr.get] at h
     ·exact ⟨o, by rw [h3, Nat.zero_add]; simpa using h1, h2⟩
    ·rintro ⟨o, h1, h2⟩
     exact .inr ⟨j, o, at_ j o h1, h2, by omega⟩
   have C : Ctx P E rec ops (masks ops.toList 0 .nil) wr st vs obs w0 w.drew φ σ.get σ.next (σ.next + nallocs E ops.toList) := {
    hE := hE
    hrec := hrec
    step := hstep
    uniq := fun t j j' h1 h2 => by
     have a1 := (hWw t j).2 h1
     have a2 := (hWw t j').2 h2
     rw [a1] at a2
     injection a2
    wr_ := hWw
    ok := fun i o ho => by
     have := opersOk_at ops.toList 0 hok i o (at_ i o ho)
     simpa only [Nat.zero_add] using this
    bits := fun i o ho b hb => by
     have := masks_spec ops.toList 0 .nil (fun k _ => rfl) i o (at_ i o ho) b (by rw [Nat.zero_add]; exact hb)
     exact this
    al1 := hal
    base := hR.base
    n0le := by rw [hal0]; exact Nat.le_refl _
    reads := fun r hr => by
     rw [t2] at hr ⊢
     exact List.all_eq_true.1 hreads r hr }
   have h0 : (st 0).effs = [] := by rw [t1]
   refine wpIn_region_any hE.mixed ?_
   have hst0 : (st 0).σ = { heap := σ.heap, next := σ.next + nallocs E ops.toList } := by rw [t1]; rfl
   have hget0 : (st 0).σ.get = σ.get := by rw [hst0]; rfl
   have hfr0 : (st 0).fr = fr := by rw [t1]
   have hhid : hid (σ.next + nallocs E ops.toList) (st 0).al φ = φ := by
    funext i
    unfold hid
    split
    ·rename_i hh
     rw [hal0] at hh
     exact (hR.fresh i hh.1).symm
    ·rfl
   have hS0 : ∀ j, ¬ (Array.replicate ops.size false).getD j false = true := by
    intro j h
    rw [Array.getD_eq_getD_getElem?, Array.getElem?_replicate] at h
    split at h <;> simp at h
   have I : Inv E ops (masks ops.toList 0 .nil) st vs obs w0 w.drew φ σ.get σ.next (σ.next + nallocs E ops.toList) a 0 φ (fun j => (Array.replicate ops.size false).getD j false = true) a w.drew := {
    hp := Nat.zero_le _
    cl := fun i h => absurd h (hS0 i)
    ef := fun i _ => ⟨fun h => absurd h (hS0 i), fun h => by omega⟩
    sz := by rw [hfr0]; exact hF.tmps.1
    tm1 := fun t j _ h => absurd h (hS0 j)
    tm2 := fun t _ => by rw [hfr0]; exact hF.get_ t
    df := rfl
    rel := by rw [hhid, hget0, hst0]; exact hR.drew.widen (Nat.le_add_right _ _)
    nx := by rw [hst0]; exact Nat.le_refl _
    ext := by
     rw [hhid, hget0, hst0]
     have h := Ext.refl w0 φ σ.get σ.next w.drew
     exact ⟨h.le, h.dom, h.ghost, h.frame, h.img, Nat.le_add_right _ _, h.wle⟩
    early := fun i _ _ h => absurd h (hS0 i)
    dist := fun i j _ _ _ _ _ h => absurd h (hS0 i)
    none_ := fun i o ho _ _ => hR.fresh _ (C.n0_le (Nat.le_of_lt (lt_of_at ho)))
    ghost := fun i h => by omega
    g5 := fun i h1 _ => by rw [hget0]; exact hR.gfresh i (by rw [hal0] at h1; exact h1) }
   refine draw_all C h0 ?_ ops.size (Array.replicate ops.size false) 0 φ a w.drew (by simp) (by simp) I
   intro p φ1 S a1 w1 hall I
   have hpN := I.hp
   have I := I.move C (ops.size - p) p ops.size (by omega) (Nat.le_refl _) (fun j h1 h2 he => by
    have := (I.ef j he).1 (hall j h2)
    omega)
   have hrel := I.rel
   have hext := I.ext
   rw [hal, hid_all, t2] at hrel hext
   obtain ⟨f1, f2, f3, f4⟩ := C.frame ops.size (Nat.le_refl _)
   rw [t2] at f1 f2 f3 f4
   refine ⟨rfl, φ1, ⟨⟨?_, fun t => ?_⟩, ?_, ?_⟩, hrel, ⟨hext.le, hext.dom, hext.ghost, hext.frame, hext.img, hext.nle, hext.wle⟩⟩
   ·rw [f1]; exact I.sz
   ·show VR φ1 (s.fr.get t) (a1.tmps.getD t undef)
    by_cases hw : ∃ j, W ops t j
    ·obtain ⟨j, hj⟩ := hw
     rw [(f4 t).1 j hj hj.lt]
     exact VR.mono (fun id l h => hid_le h) _ _ (I.tm1 t j hj (hall j hj.lt))
    ·have hno : ∀ j, ¬ W ops t j := fun j hj => hw ⟨j, hj⟩
     rw [(f4 t).2 fun j hj => absurd hj (hno j)]
     exact VR.mono hext.le _ _ (I.tm2 t fun j hj => absurd hj (hno j))
   ·rw [f2, I.df, hfr0]
    exact DefR.mono hext.le _ _ hF.defs
   ·rw [f3, hfr0]
    exact hF.rnd.mono hext.le
end
end Go.Proofs.Ytmjmhpbncfjnpaa.Bm
