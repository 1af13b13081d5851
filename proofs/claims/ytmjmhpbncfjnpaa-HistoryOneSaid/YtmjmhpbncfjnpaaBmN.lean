/- The abstract machine: append, copy, iterators; whatever changes the heap. -/
import Derived.Test.YtmjmhpbncfjnpaaBmM
set_option linter.unusedSimpArgs false
set_option linter.unusedVariables false
namespace Go.Proofs.Ytmjmhpbncfjnpaa.Bm
open Go.RowKit
section
variable {P : Program} {E : Env} {w0 w w' : World} {φ : Phi} {σ σ' : St}
theorem newObj_run (o : Obj) (w : World) : (newObj o).run P w = .ok w.heap.size (w.alloc o) := rfl
theorem eff_new (hR : Rel w0 φ σ.get σ.next w) (hL : Laid w w') {o : AObj} {l : Loc} (hc : l.c = w.heap.size) (hrw : o.rw = true) (hO : ObjR (upd φ σ.next l) w' l o) :
  Rel w0 (upd φ σ.next l) (σ.new o).get (σ.new o).next w' ∧ Ext w0 φ σ.get σ.next w (upd φ σ.next l) (σ.new o).get (σ.new o).next w' := by
 rw [get_new]
 exact ⟨hR.alloc hL (hR.fresh _ (Nat.le_refl _)) (Nat.le_succ _) (Nat.lt_succ_self _) hc hrw hO, Ext.alloc hR hL hc⟩
theorem eff_range (hE : EnvOK P E) (hR : Rel w0 φ σ.get σ.next w) {t : TypeId} {x r : AV} {u : Value} (h : arange E σ t x = some (r, σ')) (hu : VR φ x u) :
  ∃ φ' z w', (Instr.range t u).run P w = .ok z w' ∧ VR φ' r z ∧ Rel w0 φ' σ'.get σ'.next w' ∧ Ext w0 φ σ.get σ.next w φ' σ'.get σ'.next w' := by
 unfold arange at h
 split at h
 ·rename_i ti ht
  have hT := hE.at_ ht
  obtain ⟨d, hd, hk⟩ := hT.und_
  split at h
  ·rename_i kt et hkk
   rw [hkk] at hk
   have := mkK_map hk; subst this
   simp only [Option.some.injEq, Prod.mk.injEq] at h
   obtain ⟨rfl, rfl⟩ := h
   simp only [VR] at hu; subst hu
   obtain ⟨r1, r2⟩ := eff_new hR (Laid.alloc w (.mapIter none 0 #[] 0)) (o := .miter none 0 [] 0) (l := ⟨w.heap.size, 0, 0⟩) rfl rfl ⟨rfl, none, Laid.new w _, rfl⟩
   refine ⟨_, .pointer (some ⟨w.heap.size, 0, none⟩), _, ?_, by simp only [VR]; exact ⟨_, upd_same _ _ _, rfl⟩, r1, r2⟩
   simp only [Instr.range, Sem.run_bind, hd, Result.andThen_ok, Sem.run_pure, newObj_run]
  ·rename_i kt et id hkk
   rw [hkk] at hk
   have := mkK_map hk; subst this
   simp only [VR] at hu
   obtain ⟨l, hl, rfl⟩ := hu
   split at h
   ·rename_i es clock hg
    simp only [Option.some.injEq, Prod.mk.injEq] at h
    obtain ⟨rfl, rfl⟩ := h
    obtain ⟨ms, hm1, hm2⟩ := hR.objs id _ l hg hl
    have hgo : (getObj l.c).run P w = .ok (.map ms.toArray clock) w := getObj_run hm1 (fun _ _ _ h => by cases h)
    obtain ⟨r1, r2⟩ := eff_new hR (Laid.alloc w (.mapIter (some l.c) clock #[] clock)) (o := .miter (some id) clock [] clock) (l := ⟨w.heap.size, 0, 0⟩) rfl rfl
     ⟨rfl, some l.c, Laid.new w _, l, upd_le _ (hR.fresh _ (Nat.le_refl _)) _ _ hl, rfl⟩
    refine ⟨_, .pointer (some ⟨w.heap.size, 0, none⟩), _, ?_, by simp only [VR]; exact ⟨_, upd_same _ _ _, rfl⟩, r1, r2⟩
    simp only [Instr.range, Sem.run_bind, hd, Result.andThen_ok, Sem.run_pure, hgo, newObj_run]
   ·cases h
  ·cases h
 ·cases h
theorem EntsR.filter {p : Nat → Bool} : ∀ {es : List (AV × AV × Nat)} {ms : List MapEntry}, EntsR φ es ms → EntsR φ (es.filter fun e => p e.2.2) (ms.filter fun m => p m.born)
 | [], ms, h => by
   have : ms = [] := List.eq_nil_of_length_eq_zero h.1
   subst this; exact ⟨rfl, fun j e he => by simp at he⟩
 | e :: es, ms, h => by
   obtain ⟨m, ms', rfl, h1, h2⟩ := h.tail
   have ih := EntsR.filter (p := p) h2
   have hb : e.2.2 = m.born := h1.2.2
   by_cases hp : p e.2.2 = true
   ·rw [List.filter_cons_of_pos (p := fun e : AV × AV × Nat => p e.2.2) hp, List.filter_cons_of_pos (p := fun m : MapEntry => p m.born) (by rw [← hb]; exact hp)]
    refine ⟨by simp [ih.1], fun j e' he => ?_⟩
    cases j with
    | zero => simp at he; subst he; exact ⟨m, rfl, h1⟩
    | succ j => simpa using ih.2 j e' (by simpa using he)
   ·rw [List.filter_cons_of_neg (p := fun e : AV × AV × Nat => p e.2.2) hp, List.filter_cons_of_neg (p := fun m : MapEntry => p m.born) (by rw [← hb]; exact hp)]
    exact ih
theorem EntsR.all_born {p : Nat → Bool} : ∀ {es : List (AV × AV × Nat)} {ms : List MapEntry}, EntsR φ es ms → (ms.all fun m => p m.born) = (es.all fun e => p e.2.2)
 | [], ms, h => by
   have : ms = [] := List.eq_nil_of_length_eq_zero h.1
   subst this; rfl
 | e :: es, ms, h => by
   obtain ⟨m, ms', rfl, h1, h2⟩ := h.tail
   have hb : e.2.2 = m.born := h1.2.2
   simp only [List.all_cons, EntsR.all_born h2, hb]
theorem eff_next (hR : Rel w0 φ σ.get σ.next w) {it r : AV} {u : Value} {b : Bool} {ty : TypeId} (h : anext σ it b = some (r, σ')) (hu : VR φ it u) :
  ∃ z w', (Instr.next u b ty).run P w = .ok z w' ∧ VR φ r z ∧ Rel w0 φ σ'.get σ'.next w' ∧ Ext w0 φ σ.get σ.next w φ σ'.get σ'.next w' := by
 unfold anext at h
 split at h
 ·rename_i id
  simp only [VR] at hu
  obtain ⟨l, hl, rfl⟩ := hu
  have over : VR φ (.tuple [.bool false]) (.tuple #[.bool false]) := by simp only [VR]; exact ⟨[.bool false], rfl, VRL.cons (by simp only [VR]) VRL.nil⟩
  split at h
  ·-- nil
   rename_i since seen last hg
   simp only [Option.some.injEq, Prod.mk.injEq] at h
   obtain ⟨rfl, rfl⟩ := h
   obtain ⟨h0, cm, hm1, hm2⟩ := hR.objs id _ l hg hl
   simp only at hm2; subst hm2
   have hgo : (getObj l.c).run P w = .ok (.mapIter none since seen.toArray last) w := getObj_run hm1 (fun _ _ _ h => by cases h)
   refine ⟨.tuple #[.bool false], w, ?_, over, hR, Ext.refl _ _ _ _ _⟩
   rw [h0]
   simp only [Instr.next, Sem.run_bind, hgo, Result.andThen_ok, Sem.run_pure]
  ·rename_i m since seen last hg
   split at h
   ·rename_i es clock hgm
    obtain ⟨h0, cm, hm1, lm, hlm, rfl⟩ := hR.objs id _ l hg hl
    obtain ⟨ms, hn1, hn2⟩ := hR.objs m _ lm hgm hlm
    have hgo : (getObj l.c).run P w = .ok (.mapIter (some lm.c) since seen.toArray last) w := getObj_run hm1 (fun _ _ _ h => by cases h)
    have hgo2 : (getObj lm.c).run P w = .ok (.map ms.toArray clock) w := getObj_run hn1 (fun _ _ _ h => by cases h)
    have hseen : seen.toArray.isEmpty = seen.isEmpty := by cases seen <;> rfl
    have hemp : ms.toArray.isEmpty = es.isEmpty := by
     have := hn2.1
     cases ms <;> cases es <;> simp_all
    have hall : (ms.toArray.all fun e => decide (e.born ≥ last)) = es.all fun e => Nat.ble last e.2.2 := by
     rw [← hn2.all_born (p := fun b => Nat.ble last b)]
     simp only [List.all_toArray]
     congr 1
     funext e
     rw [Bool.eq_iff_iff]; simp [Nat.ble_eq]
    cases hq : (!seen.isEmpty && !es.isEmpty && es.all (fun e => Nat.ble last e.2.2)) with
    | true => rw [hq] at h; cases h
    | false =>
      rw [hq] at h
      simp only [cond_false] at h
      have hleft : EntsR φ (es.filter fun e => !seen.contains e.2.2) (ms.filter fun e => !seen.contains e.born) := hn2.filter (p := fun b => !seen.contains b)
      have hcont : (fun e : MapEntry => !seen.toArray.contains e.born) = fun e => !seen.contains e.born := by funext e; simp
      split at h
      ·rename_i hnil
       simp only [Option.some.injEq, Prod.mk.injEq] at h
       obtain ⟨rfl, rfl⟩ := h
       rw [hnil] at hleft
       have hl0 : ms.filter (fun e => !seen.contains e.born) = [] := List.eq_nil_of_length_eq_zero hleft.1
       refine ⟨.tuple #[.bool false], w, ?_, over, hR, Ext.refl _ _ _ _ _⟩
       rw [h0]
       simp only [Instr.next, Sem.run_bind, hgo, Result.andThen_ok, Sem.run_pure, hgo2, hseen, hemp, hall, hq, Bool.false_eq_true, if_false, hcont]
       have hfl : ms.toArray.filter (fun e => !seen.contains e.born) = #[] := by rw [List.filter_toArray, hl0]
       simp only [hfl]
       simp [choose, Sem.run, Question.forced, Sem.run_pure]
      ·rename_i k v b hone
       cases hbs : Nat.blt b since with
       | false => rw [hbs] at h; cases h
       | true =>
         rw [hbs] at h
         simp only [cond_true, Option.some.injEq, Prod.mk.injEq] at h
         obtain ⟨rfl, rfl⟩ := h
         rw [hone] at hleft
         obtain ⟨m0, ms', hms', e1, e2⟩ := hleft.tail
         have : ms' = [] := List.eq_nil_of_length_eq_zero e2.1
         subst this
         obtain ⟨c1, c2, c3⟩ := e1
         simp only at c1 c2 c3
         have hlt : m0.born < since := by rw [← c3]; simpa [Nat.blt_eq] using hbs
         obtain ⟨w', s1, s2, s3⟩ := run_setObj (P := P) (o' := .mapIter (some lm.c) since (seen.toArray.push m0.born) clock) hm1 (fun _ _ _ h => by cases h)
         have hO : ObjR φ w' l (.miter (some m) since (seen ++ [b]) clock) := ⟨h0, some lm.c, by rw [s3, c3]; simp, lm, hlm, rfl⟩
         obtain ⟨r1, r2⟩ := hR.turn hg hl rfl rfl s2 hO
         refine ⟨.tuple #[.bool true, m0.key, m0.val], w', ?_, ?_, by rw [get_put]; exact r1, by rw [get_put]; exact r2⟩
         ·rw [h0]
          simp only [Instr.next, Sem.run_bind, hgo, Result.andThen_ok, Sem.run_pure, hgo2, hseen, hemp, hall, hq, Bool.false_eq_true, if_false, hcont]
          have hfl : ms.toArray.filter (fun e => !seen.contains e.born) = #[m0] := by rw [List.filter_toArray, hms']
          simp only [hfl]
          have hd1 : decide (m0.born < since) = true := decide_eq_true hlt
          have hd2 : decide (m0.born ≥ since) = false := decide_eq_false (by omega)
          have hf1 : #[m0].filter (fun e => decide (e.born < since)) = #[m0] := by simp [hlt]
          have hf2 : #[m0].filter (fun e => decide (e.born ≥ since)) = #[] := by simp; omega
          simp only [hf1, hf2]
          have hch : (choose (.mapNext 1)).run P w = .ok 0 w := by simp [choose, Sem.run, Question.forced, Sem.run_pure]
          have s1' := s1
          simp only [List.push_toArray] at s1'
          simp [hch, s1', Result.andThen, Sem.run_pure]
         ·simp only [VR]
          exact ⟨[.bool true, m0.key, m0.val], rfl, VRL.cons (by simp only [VR]) (VRL.cons c1 (VRL.cons c2 VRL.nil))⟩
      ·cases h
   ·cases h
  ·cases h
 ·cases h
theorem EntsR.find {p : Nat → Bool} : ∀ {es : List (AV × AV × Nat)} {ms : List MapEntry} {e : AV × AV × Nat}, EntsR φ es ms → es.find? (fun e => p e.2.2) = some e → ∃ m, ms.find? (fun m => p m.born) = some m ∧ EntR φ e m
 | [], ms, e, _, h => by simp at h
 | e0 :: es, ms, e, hR, h => by
   obtain ⟨m, ms', rfl, h1, h2⟩ := hR.tail
   have hb : e0.2.2 = m.born := h1.2.2
   rw [List.find?_cons] at h ⊢
   rw [← hb]
   cases hp : p e0.2.2 with
   | true => rw [hp] at h; simp only [Option.some.injEq] at h; subst h; exact ⟨m, rfl, h1⟩
   | false => rw [hp] at h; exact EntsR.find h2 h
theorem eff_entry (hR : Rel w0 φ σ.get σ.next w) {it r : AV} {u : Value} (h : aentry σ it = some (r, σ')) (hu : VR φ it u) :
  ∃ z w', (Instr.entry u).run P w = .ok z w' ∧ VR φ r z ∧ Rel w0 φ σ'.get σ'.next w' ∧ Ext w0 φ σ.get σ.next w φ σ'.get σ'.next w' := by
 unfold aentry at h
 split at h
 ·rename_i id
  simp only [VR] at hu
  obtain ⟨l, hl, rfl⟩ := hu
  split at h
  ·rename_i m since seen last hg
   split at h
   ·rename_i stamp es clock hlast hgm
    cases hcl : Nat.beq clock last with
    | false => rw [hcl] at h; cases h
    | true =>
      rw [hcl] at h
      simp only [cond_true] at h
      split at h
      ·rename_i e hf
       simp only [Option.some.injEq, Prod.mk.injEq] at h
       obtain ⟨rfl, rfl⟩ := h
       obtain ⟨h0, cm, hm1, lm, hlm, rfl⟩ := hR.objs id _ l hg hl
       obtain ⟨ms, hn1, hn2⟩ := hR.objs m _ lm hgm hlm
       have hgo : (getObj l.c).run P w = .ok (.mapIter (some lm.c) since seen.toArray last) w := getObj_run hm1 (fun _ _ _ h => by cases h)
       have hgo2 : (getObj lm.c).run P w = .ok (.map ms.toArray clock) w := getObj_run hn1 (fun _ _ _ h => by cases h)
       obtain ⟨m0, f1, f2, f3, f4⟩ := hn2.find (p := fun b => Nat.beq b stamp) hf
       have hcl := Nat.eq_of_beq_eq_true hcl; subst hcl
       have hfe : (fun e : MapEntry => e.born == stamp) = fun e => Nat.beq e.born stamp := by funext e; rw [Bool.eq_iff_iff]; simp [Nat.beq_eq]
       refine ⟨.tuple #[m0.key, m0.val], w, ?_, ?_, hR, Ext.refl _ _ _ _ _⟩
       ·rw [h0]
        simp only [Instr.entry, Sem.run_bind, hgo, Result.andThen_ok, Sem.run_pure, hgo2, List.back?_toArray, hlast, List.find?_toArray, hfe, f1]
        simp [Sem.run_bind, hgo2, Result.andThen_ok, Sem.run_pure, f1, hfe]
       ·simp only [VR]
        exact ⟨[m0.key, m0.val], rfl, VRL.cons f2 (VRL.cons f3 VRL.nil)⟩
      ·cases h
   ·cases h
  ·cases h
 ·cases h
theorem eff_copy (hE : EnvOK P E) (hR : Rel w0 φ σ.get σ.next w) {t ty : TypeId} {ts : List TypeId} {us : List Value} {d s r : AV} {ud us0 : Value} (h : acopy E σ t d s = some (r, σ')) (hd : VR φ d ud) (hs : VR φ s us0) :
  ∃ z w', (Builtin.copy_ (t :: ts).toArray ty (ud :: us0 :: us).toArray).run P w = .ok z w' ∧ VR φ r z ∧ Rel w0 φ σ'.get σ'.next w' ∧ Ext w0 φ σ.get σ.next w φ σ'.get σ'.next w' := by
 unfold acopy at h
 split at h
 ·cases h
 ·rename_i ti ht
  have hT := hE.at_ ht
  obtain ⟨dd, hdd, hk⟩ := hT.und_
  split at h
  ·rename_i e hkk
   rw [hkk] at hk
   have := mkK_slice hk; subst this
   split at h
   ·cases h
   ·rename_i te hte
    have hTe := hE.at_ hte
    split at h
    ·cases h
    ·rename_i n hn
     have hlen : (Builtin.lenOf us0).run P w = .ok n w := by
      unfold alenOf at hn
      split at hn
      ·simp only [Option.some.injEq] at hn; subst hn
       simp only [VR] at hs
       obtain ⟨_, _, _, _, rfl, _⟩ := hs
       simp [Builtin.lenOf, Sem.run_pure]
      ·simp only [Option.some.injEq] at hn; subst hn
       simp only [VR] at hs; subst hs
       simp [Builtin.lenOf, Sem.run_pure]
      ·simp only [Option.some.injEq] at hn; subst hn
       simp only [VR] at hs
       obtain ⟨b, rfl, rfl⟩ := hs
       simp [Builtin.lenOf, Sem.run_pure, bytesOf_length]
      ·cases hn
     split at h
     ·-- nil
      simp only [Option.some.injEq, Prod.mk.injEq] at h
      obtain ⟨rfl, rfl⟩ := h
      simp only [VR] at hd; subst hd
      have hf : ∃ cs : List Value, (Builtin.firstCells te.size 0 us0).run P w = .ok cs.toArray w := by
       unfold alenOf at hn
       split at hn
       ·simp only [VR] at hs
        obtain ⟨_, ad, _, _, rfl, _⟩ := hs
        exact ⟨[], by simp [Builtin.firstCells, loadCells, loadCellsFrom, Sem.run_pure]⟩
       ·simp only [VR] at hs; subst hs
        exact ⟨[], by simp [Builtin.firstCells, Sem.run_pure]⟩
       ·simp only [VR] at hs
        obtain ⟨b, rfl, rfl⟩ := hs
        exact ⟨_, by simp only [Builtin.firstCells, Sem.run_pure]; rw [Array.toArray_toList]⟩
       ·cases hn
      obtain ⟨cs, hcs⟩ := hf
      refine ⟨goInt (0 : Nat), w, ?_, by simp only [VR, goInt]; rfl, hR, Ext.refl _ _ _ _ _⟩
      simp [Builtin.copy_, Sem.run_bind, hdd, hlen, hTe.sizeOf_, hcs, Sem.run_pure]
     ·rename_i id off len cap es hid
      cases hb : Nat.beq te.size es with
      | false => rw [hb] at h; cases h
      | true =>
        rw [hb] at h
        have hes := Nat.eq_of_beq_eq_true hb
        simp only [cond_true] at h
        split at h
        ·rename_i cs hcs
         split at h
         ·rename_i σ1 hw
          simp only [Option.some.injEq, Prod.mk.injEq] at h
          obtain ⟨rfl, rfl⟩ := h
          obtain ⟨cl, hf1, hf2⟩ := run_first (P := P) hR hcs hs (fun m hm => by
           rw [hn] at hm; injection hm with hm; subst hm; exact Nat.min_le_left _ _)
          simp only [VR] at hd
          obtain ⟨l, ad, cc, h1, rfl, h2, h3, h4, h5, h6⟩ := hd
          have hstore : ∃ w', (storeCells ad cl).run P w = .ok () w' ∧ Rel w0 φ σ1.get σ1.next w' ∧ Ext w0 φ σ.get σ.next w φ σ1.get σ1.next w' := by
           by_cases hz : cc = 0
           ·have hcl : cl = [] := by
             have : len = 0 := by omega
             subst this
             have hmin : Nat.min n 0 = 0 := Nat.min_zero n
             rw [hmin] at hcs
             unfold afirst at hcs
             split at hcs
             ·rename_i id2 off2 len2 cap2 es2 hid2
              cases hq : Nat.beq es es2 with
              | false => rw [hq] at hcs; cases hcs
              | true =>
                rw [hq] at hcs
                simp only [cond_true] at hcs
                split at hcs
                ·have := (cut_some hcs).2
                 have : cl.length = 0 := by rw [hf2.length, this]; simp
                 exact List.eq_nil_of_length_eq_zero this
                ·cases hcs
             ·simp only [Option.some.injEq] at hcs; subst hcs
              simp only [VRL] at hf2; exact hf2
             ·cases hq : Nat.beq es 1 with
              | false => rw [hq] at hcs; cases hcs
              | true =>
                rw [hq] at hcs
                simp only [cond_true, List.take_zero, List.map_nil, Option.some.injEq] at hcs; subst hcs
                simp only [VRL] at hf2; exact hf2
             ·cases hcs
            subst hcl
            have hcs0 : cs = [] := List.eq_nil_of_length_eq_zero (by have := hf2.length; simpa using this.symm)
            subst hcs0
            simp only [awrite, Option.some.injEq] at hw; subst hw
            exact ⟨w, by simp [storeCells, Sem.run_pure], hR, Ext.refl _ _ _ _ _⟩
           ·have := h5 (by omega); subst this
            exact run_write (P := P) hR hw h1 hf2
          obtain ⟨w', s1, s2, s3⟩ := hstore
          refine ⟨goInt (Nat.min n len), w', ?_, by simp only [VR, goInt], s2, s3⟩
          rw [← hes] at hf1
          simp [Builtin.copy_, Sem.run_bind, hdd, hlen, hTe.sizeOf_, hf1, s1, Sem.run_pure]
         ·cases h
        ·cases h
     ·cases h
  ·cases h
end
end Go.Proofs.Ytmjmhpbncfjnpaa.Bm
