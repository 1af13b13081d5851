/- The abstract machine: what changes the heap. -/
import Derived.Test.YtmjmhpbncfjnpaaBmL
set_option linter.unusedSimpArgs false
set_option linter.unusedVariables false
namespace Go.Proofs.Ytmjmhpbncfjnpaa.Bm
open Go.RowKit
section
variable {P : Program} {E : Env} {w0 w w' : World} {φ : Phi} {σ σ' : St}
theorem get_put (σ : St) (id : Nat) (o : AObj) : (σ.put id o).get = gset σ.get id (some o) := by
 funext i; simp only [St.get, St.put, gset, Tr.get_set]
theorem next_put (σ : St) (id : Nat) (o : AObj) : (σ.put id o).next = σ.next := rfl
theorem get_kill (σ : St) (id : Nat) : (σ.kill id).get = gset σ.get id none := by
 funext i; simp only [St.get, St.kill, gset, Tr.get_set]
theorem get_new (σ : St) (o : AObj) : (σ.new o).get = gset σ.get σ.next (some o) := by
 funext i; simp only [St.get, St.new, gset, Tr.get_set]
theorem run_setObj {r : Nat} {o o' : Obj} (h : w.heap[r]? = some o) (hc : ∀ c e f, o ≠ .cells c e f) :
  ∃ w', (setObj r o').run P w = .ok () w' ∧ Turned w w' r ∧ w'.heap[r]? = some o' := by
 have hr := (Array.getElem?_eq_some_iff.1 h).1
 refine ⟨{ w with heap := w.heap.setIfInBounds r o' }, ?_, ⟨rfl, rfl, rfl, by simp, fun i hi => ?_⟩, by simp [hr]⟩
 ·simp only [setObj, Sem.run, h]
 ·show (w.heap.setIfInBounds r o')[i]? = _
  rw [Array.getElem?_setIfInBounds_ne (fun e => hi e.symm)]
theorem EntsR.push {es : List (AV × AV × Nat)} {ms : List MapEntry} (h : EntsR φ es ms) {e : AV × AV × Nat} {m : MapEntry} (he : EntR φ e m) : EntsR φ (es ++ [e]) (ms ++ [m]) := by
 obtain ⟨h1, h2⟩ := h
 refine ⟨by simp [h1], fun j e' hj => ?_⟩
 by_cases hlt : j < es.length
 ·rw [List.getElem?_append_left hlt] at hj
  obtain ⟨m', a, b⟩ := h2 j e' hj
  exact ⟨m', by rw [List.getElem?_append_left (by omega)]; exact a, b⟩
 ·rw [List.getElem?_append_right (by omega)] at hj
  have : j = es.length := by
   have := (List.getElem?_eq_some_iff.1 hj).1
   simp at this; omega
  subst this
  simp at hj; subst hj
  exact ⟨m, by rw [List.getElem?_append_right (by omega)]; simp [h1], he⟩
theorem setNth_at {α : Type} : ∀ (l : List α) (i j : Nat) (y : α), (setNth l i y)[j]? = if j = i then (l[i]?).map (fun _ => y) else l[j]?
 | [], i, j, y => by simp [setNth]
 | x :: xs, 0, 0, y => by simp [setNth]
 | x :: xs, 0, j + 1, y => by simp [setNth]
 | x :: xs, i + 1, 0, y => by simp [setNth]
 | x :: xs, i + 1, j + 1, y => by simp [setNth, setNth_at xs i j y]
theorem setNth_length {α : Type} : ∀ (l : List α) (i : Nat) (y : α), (setNth l i y).length = l.length
 | [], i, y => rfl
 | x :: xs, 0, y => rfl
 | x :: xs, i + 1, y => by simp [setNth, setNth_length xs i y]
theorem EntsR.turn {es : List (AV × AV × Nat)} {ms : List MapEntry} (h : EntsR φ es ms) {i : Nat} {e : AV × AV × Nat} (f : MapEntry → MapEntry) (he : ∀ m, ms[i]? = some m → EntR φ e (f m)) : EntsR φ (setNth es i e) (ms.modify i f) := by
 obtain ⟨h1, h2⟩ := h
 refine ⟨by simp [setNth_length, h1], fun j e' hj => ?_⟩
 rw [setNth_at] at hj
 by_cases hji : j = i
 ·subst hji
  rw [if_pos rfl] at hj
  cases hes : es[j]? with
  | none => rw [hes] at hj; cases hj
  | some e0 =>
    rw [hes] at hj
    simp only [Option.map_some, Option.some.injEq] at hj; subst hj
    obtain ⟨m, a, b⟩ := h2 j e0 hes
    exact ⟨f m, by simp [List.getElem?_modify, a], he m a⟩
 ·rw [if_neg hji] at hj
  obtain ⟨m, a, b⟩ := h2 j e' hj
  refine ⟨m, ?_, b⟩
  have hij : ¬ i = j := fun e => hji e.symm
  simp [List.getElem?_modify, a, hij]
theorem delNth_eq {α : Type} : ∀ (l : List α) (i : Nat), delNth l i = l.eraseIdx i
 | [], i => by simp [delNth]
 | x :: xs, 0 => by simp [delNth]
 | x :: xs, i + 1 => by simp [delNth, delNth_eq xs i]
theorem EntsR.del {es : List (AV × AV × Nat)} {ms : List MapEntry} (h : EntsR φ es ms) (i : Nat) : EntsR φ (delNth es i) (ms.eraseIdx i) := by
 obtain ⟨h1, h2⟩ := h
 rw [delNth_eq]
 refine ⟨by rw [List.length_eraseIdx, List.length_eraseIdx, h1], fun j e' hj => ?_⟩
 rw [List.getElem?_eraseIdx] at hj
 split at hj
 ·rename_i hlt
  obtain ⟨m, a, b⟩ := h2 j e' hj
  exact ⟨m, by rw [List.getElem?_eraseIdx, if_pos hlt]; exact a, b⟩
 ·rename_i hlt
  obtain ⟨m, a, b⟩ := h2 _ e' hj
  exact ⟨m, by rw [List.getElem?_eraseIdx, if_neg hlt]; exact a, b⟩
theorem sameBits_flat {x : AV} {u v : Value} (hx : x.flat = true) (hu : VR φ x u) (hv : VR φ x v) (d : Nat) : Instr.sameBits d u v = true := by
 cases x <;> simp [AV.flat] at hx <;> simp only [VR] at hu hv
 ·subst hu; subst hv; cases d <;> simp [Instr.sameBits]
 ·subst hu; subst hv; cases d <;> simp [Instr.sameBits]
 ·obtain ⟨a, rfl, h1⟩ := hu
  obtain ⟨b, rfl, h2⟩ := hv
  have : a = b := bytesOf_inj (h1.trans h2.symm)
  subst this
  have hb : (a == a) = true := by rw [beq_toListBytes]; simp
  cases d <;> simp [Instr.sameBits, hb]
theorem keyStays {kt : TypeId} {k : AV} {u v : Value} (h : akeyOk E kt k = true) (hu : VR φ k u) (hv : VR φ k v) (w : World) : (Instr.keyThatStays u v).run P w = .ok v w := by
 have hs : ∀ d, Instr.sameBits (d + 1) u v = true := by
  intro d
  unfold akeyOk at h
  split at h
  ·cases h
  ·rename_i ti ht
   cases hf : ti.k.flat with
   | true => rw [hf] at h; exact sameBits_flat h hu hv _
   | false =>
     rw [hf] at h
     simp only [cond_false] at h
     split at h
     ·rename_i fs cs hkk
      simp only [Bool.and_eq_true] at h
      simp only [VR] at hu hv
      obtain ⟨l, rfl, hl⟩ := hu
      obtain ⟨m, rfl, hm⟩ := hv
      have hall := h.1
      simp only [Instr.sameBits, Bool.and_eq_true]
      refine ⟨by simp [hl.length, hm.length], ?_⟩
      rw [List.all_eq_true]
      intro p hp
      obtain ⟨j, hj1, hj2⟩ := List.getElem_of_mem hp
      simp only [List.length_zip] at hj1
      have hjl : j < l.length := (Nat.lt_min.1 hj1).1
      have hjm : j < m.length := (Nat.lt_min.1 hj1).2
      have hjc : j < cs.length := by rw [← hl.length]; exact hjl
      obtain ⟨a, a1, a2⟩ := hl.at_ j _ (List.getElem?_eq_getElem hjc)
      obtain ⟨b, b1, b2⟩ := hm.at_ j _ (List.getElem?_eq_getElem hjc)
      rw [List.getElem?_eq_getElem hjl] at a1
      rw [List.getElem?_eq_getElem hjm] at b1
      injection a1 with a1
      injection b1 with b1
      rw [← hj2]
      simp only [List.getElem_zip]
      rw [a1, b1]
      exact sameBits_flat (List.all_eq_true.1 hall _ (List.getElem_mem hjc)) a2 b2 d
     ·cases h
 have := hs 9999
 simp only [Instr.keyThatStays, this, if_true, Sem.run_pure]
def EffOK (P : Program) (w0 : World) (φ : Phi) (σ : St) (w : World) (s : Sem Next) (v : AV) (σ' : St) : Prop :=
 ∃ φ' w', ((s.run P w = .ok .skip w' ∧ v = .undef) ∨ ∃ z, s.run P w = .ok (.value z) w' ∧ VR φ' v z) ∧ Rel w0 φ' σ'.get σ'.next w' ∧ Ext w0 φ σ.get σ.next w φ' σ'.get σ'.next w'
theorem eff_store (hE : EnvOK P E) (hR : Rel w0 φ σ.get σ.next w) {t : TypeId} {a x : AV} {u v : Value} (h : astore E σ t a x = some σ') (hu : VR φ a u) (hv : VR φ x v) :
  ∃ w', (Instr.storeAt t u v).run P w = .ok () w' ∧ Rel w0 φ σ'.get σ'.next w' ∧ Ext w0 φ σ.get σ.next w φ σ'.get σ'.next w' := by
 unfold astore at h
 split at h
 ·rename_i id off ti ht
  have hT := hE.at_ ht
  cases hb0 : (!x.isBad && Nat.beq x.cells.length ti.size) with
  | false => rw [hb0] at h; cases h
  | true =>
    rw [hb0] at h
    simp only [cond_true] at h
    simp only [Bool.and_eq_true, Bool.not_eq_true'] at hb0
    obtain ⟨hbad, hb⟩ := hb0
    have hc := hv.cells hbad
    have hsz : v.cells.size = ti.size := by
     rw [← Array.length_toList, hc.length]; exact Nat.eq_of_beq_eq_true hb
    simp only [VR] at hu
    obtain ⟨l, hl, rfl⟩ := hu
    obtain ⟨w', h1, h2, h3⟩ := run_write (P := P) hR h hl hc
    refine ⟨w', ?_, h2, h3⟩
    simp only [Instr.storeAt, Instr.sureAddr, storeVar, Sem.run_bind, Sem.run_pure, Result.andThen_ok, hT.sizeOf_, hsz, ne_eq, not_true_eq_false, if_false, h1]
 ·cases h
theorem getObj_run {r : Nat} {o : Obj} (h : w.heap[r]? = some o) (hc : ∀ c e f, o ≠ .cells c e f) : (getObj r).run P w = .ok o w := by
 simp only [getObj, Sem.run, h]
theorem eff_mapUpdate (hE : EnvOK P E) (hR : Rel w0 φ σ.get σ.next w) {t : TypeId} {m k x : AV} {um uk ux : Value} (h : amapUpdate E σ t m k x = some σ') (hm : VR φ m um) (hk : VR φ k uk) (hx : VR φ x ux) :
  ∃ w', (Instr.mapUpdate t um uk ux).run P w = .ok () w' ∧ Rel w0 φ σ'.get σ'.next w' ∧ Ext w0 φ σ.get σ.next w φ σ'.get σ'.next w' := by
 unfold amapUpdate at h
 split at h
 ·rename_i ti id ht
  have hT := hE.at_ ht
  obtain ⟨d, hd, hkk⟩ := hT.und_
  split at h
  ·rename_i kt et es clock hk1 hg
   rw [hk1] at hkk
   have := mkK_map hkk; subst this
   simp only [VR] at hm
   obtain ⟨l, hl, rfl⟩ := hm
   obtain ⟨ms, hm1, hm2⟩ := hR.objs id _ l hg hl
   cases hko : akeyOk E kt k with
   | false => rw [hko] at h; cases h
   | true =>
     rw [hko] at h
     simp only [cond_true] at h
     obtain ⟨tk, htk⟩ := akeyOk_ty hko
     have hck := run_checkKey' hE hko hk false 9998 w
     have hgo : (getObj l.c).run P w = .ok (.map ms.toArray clock) w := getObj_run hm1 (fun _ _ _ h => by cases h)
     split at h
     ·cases h
     ·rename_i hf
      simp only [Option.some.injEq] at h; subst h
      obtain ⟨r', hf1, hf2⟩ := run_findKey hE htk hk hf hm2 w
      cases r' with
      | some _ => exact hf2.elim
      | none =>
        obtain ⟨w', s1, s2, s3⟩ := run_setObj (P := P) (o' := .map (ms.toArray.push { key := uk, val := ux, born := clock }) (clock + 1)) hm1 (fun _ _ _ h => by cases h)
        have hO : ObjR φ w' l (.map (es ++ [(k, x, clock)]) (clock + 1)) := ⟨ms ++ [{ key := uk, val := ux, born := clock }], by rw [s3]; simp, hm2.push ⟨hk, hx, rfl⟩⟩
        obtain ⟨r1, r2⟩ := hR.turn hg hl rfl rfl s2 hO
        refine ⟨w', ?_, by rw [get_put]; exact r1, by rw [get_put]; exact r2⟩
        simp only [Instr.mapUpdate, Sem.run_bind, hd, Result.andThen_ok, hgo]
        have hck' : (Instr.checkKey false 10000 kt uk).run P w = .ok () w := hck
        simp only [hck', Result.andThen_ok, hf1, s1]
     ·rename_i i xv hf
      split at h
      ·rename_i k' x' b hes
       cases hbq : AV.beq k' k with
       | false => rw [hbq] at h; cases h
       | true =>
         rw [hbq] at h
         simp only [cond_true, Option.some.injEq] at h; subst h
         have := AV.eq_of_beq _ _ hbq; subst this
         obtain ⟨r', hf1, hf2⟩ := run_findKey hE htk hk hf hm2 w
         cases r' with
         | none => exact hf2.elim
         | some q =>
           obtain ⟨j, vv⟩ := q
           obtain ⟨rfl, _⟩ := hf2
           obtain ⟨m0, a1, a2⟩ := hm2.2 i _ hes
           have hold : ((ms.toArray[i]?).map (·.key)).getD uk = m0.key := by simp [a1]
           have hst := keyStays (P := P) hko a2.1 hk w
           obtain ⟨w', s1, s2, s3⟩ := run_setObj (P := P) (o' := .map (ms.toArray.modify i fun e => { e with key := uk, val := ux }) clock) hm1 (fun _ _ _ h => by cases h)
           have hO : ObjR φ w' l (.map (setNth es i (k', x, b)) clock) := ⟨ms.modify i fun e => { e with key := uk, val := ux }, by rw [s3]; simp, hm2.turn _ fun m hm' => by
            rw [a1] at hm'; injection hm' with hm'; subst hm'
            exact ⟨hk, hx, a2.2.2⟩⟩
           obtain ⟨r1, r2⟩ := hR.turn hg hl rfl rfl s2 hO
           refine ⟨w', ?_, by rw [get_put]; exact r1, by rw [get_put]; exact r2⟩
           simp only [Instr.mapUpdate, Sem.run_bind, hd, Result.andThen_ok, hgo]
           have hck' : (Instr.checkKey false 10000 kt uk).run P w = .ok () w := hck
           simp only [hck', Result.andThen_ok, hf1, Sem.run_bind, hold, hst, s1]
      ·cases h
  ·cases h
 ·cases h
theorem eff_mapEntry (hE : EnvOK P E) (hR : Rel w0 φ σ.get σ.next w) {t : TypeId} {m k r : AV} {um uk : Value} (h : amapEntry E σ t m k = some (r, σ')) (hm : VR φ m um) (hk : VR φ k uk) :
  ∃ z w', (Instr.mapEntry t um uk).run P w = .ok z w' ∧ VR φ r z ∧ Rel w0 φ σ'.get σ'.next w' ∧ Ext w0 φ σ.get σ.next w φ σ'.get σ'.next w' := by
 unfold amapEntry at h
 split at h
 ·rename_i ti id ht
  have hT := hE.at_ ht
  obtain ⟨d, hd, hkk⟩ := hT.und_
  split at h
  ·rename_i kt et es clock hk1 hg
   rw [hk1] at hkk
   have := mkK_map hkk; subst this
   simp only [VR] at hm
   obtain ⟨l, hl, rfl⟩ := hm
   obtain ⟨ms, hm1, hm2⟩ := hR.objs id _ l hg hl
   cases hko : akeyOk E kt k with
   | false => rw [hko] at h; cases h
   | true =>
     rw [hko] at h
     simp only [cond_true] at h
     obtain ⟨tk, htk⟩ := akeyOk_ty hko
     have hck := run_checkKey' hE hko hk false 9998 w
     have hck' : (Instr.checkKey false 10000 kt uk).run P w = .ok () w := hck
     have hgo : (getObj l.c).run P w = .ok (.map ms.toArray clock) w := getObj_run hm1 (fun _ _ _ h => by cases h)
     split at h
     ·cases h
     ·rename_i hf
      split at h
      ·rename_i te hte
       split at h
       ·rename_i zv hzv
        simp only [Option.some.injEq, Prod.mk.injEq] at h
        obtain ⟨rfl, rfl⟩ := h
        obtain ⟨r', hf1, hf2⟩ := run_findKey hE htk hk hf hm2 w
        obtain ⟨z0, hz1, hz2⟩ := zero_cells (φ := φ) hE hte hzv w
        cases r' with
        | some _ => exact hf2.elim
        | none =>
          obtain ⟨w', s1, s2, s3⟩ := run_setObj (P := P) (o' := .map (ms.toArray.push { key := uk, val := z0, born := clock }) (clock + 1)) hm1 (fun _ _ _ h => by cases h)
          have hO : ObjR φ w' l (.map (es ++ [(k, zv, clock)]) (clock + 1)) := ⟨ms ++ [{ key := uk, val := z0, born := clock }], by rw [s3]; simp, hm2.push ⟨hk, hz2, rfl⟩⟩
          obtain ⟨r1, r2⟩ := hR.turn hg hl rfl rfl s2 hO
          refine ⟨.tuple #[z0, goInt clock], w', ?_, ?_, by rw [get_put]; exact r1, by rw [get_put]; exact r2⟩
          ·simp only [Instr.mapEntry, Sem.run_bind, hd, Result.andThen_ok, hgo, hck', hf1, hz1, s1, Sem.run_pure]
          ·simp only [VR]
           exact ⟨[z0, goInt clock], rfl, VRL.cons hz2 (VRL.cons (by simp only [VR, goInt]) VRL.nil)⟩
       ·cases h
      ·cases h
     ·rename_i i xv hf
      split at h
      ·rename_i k' x' b hes
       cases hbq : AV.beq k' k with
       | false => rw [hbq] at h; cases h
       | true =>
         rw [hbq] at h
         simp only [cond_true, Option.some.injEq, Prod.mk.injEq] at h
         obtain ⟨rfl, rfl⟩ := h
         have := AV.eq_of_beq _ _ hbq; subst this
         obtain ⟨r', hf1, hf2⟩ := run_findKey hE htk hk hf hm2 w
         cases r' with
         | none => exact hf2.elim
         | some q =>
           obtain ⟨j, vv⟩ := q
           obtain ⟨rfl, hvv⟩ := hf2
           obtain ⟨m0, a1, a2⟩ := hm2.2 i _ hes
           have hold : ((ms.toArray[i]?).map (·.key)).getD uk = m0.key := by simp [a1]
           have hborn : ((ms.toArray[i]?).map (fun e => (e.born : Int))).getD 0 = m0.born := by simp [a1]
           have hst := keyStays (P := P) hko a2.1 hk w
           have hxv : x' = xv := by
            have : ∀ (es : List (AV × AV × Nat)) (s : Nat), afind E kt k' es s = some (some (i, xv)) → ∀ e, es[i - s]? = some e → s ≤ i ∧ e.2.1 = xv := by
             intro es
             induction es with
             | nil => intro s h; simp [afind] at h
             | cons e es ih =>
               intro s h e' he'
               obtain ⟨ek, ev, eb⟩ := e
               simp only [afind] at h
               split at h
               ·simp only [Option.some.injEq, Prod.mk.injEq] at h
                obtain ⟨rfl, rfl⟩ := h
                simp at he'; subst he'
                exact ⟨Nat.le_refl _, rfl⟩
               ·have hgt : s + 1 ≤ i := by
                 have h2 : ∀ (es : List (AV × AV × Nat)) (s : Nat), afind E kt k' es s = some (some (i, xv)) → s ≤ i := by
                  intro es
                  induction es with
                  | nil => intro s h; simp [afind] at h
                  | cons e es ih =>
                    intro s h
                    obtain ⟨ek, ev, eb⟩ := e
                    simp only [afind] at h
                    split at h
                    ·simp only [Option.some.injEq, Prod.mk.injEq] at h; omega
                    ·have := ih _ h; omega
                    ·cases h
                 exact h2 es _ h
                have := ih (s + 1) h e' (by
                 rw [show i - s = (i - (s + 1)) + 1 by omega] at he'
                 simpa using he')
                exact ⟨by omega, this.2⟩
               ·cases h
            exact (this es 0 hf _ hes).2
           subst hxv
           obtain ⟨w', s1, s2, s3⟩ := run_setObj (P := P) (o' := .map (ms.toArray.modify i fun e => { e with key := uk }) clock) hm1 (fun _ _ _ h => by cases h)
           have hO : ObjR φ w' l (.map (setNth es i (k', x', b)) clock) := ⟨ms.modify i fun e => { e with key := uk }, by rw [s3]; simp, hm2.turn _ fun m hm' => by
            rw [a1] at hm'; injection hm' with hm'; subst hm'
            exact ⟨hk, a2.2.1, a2.2.2⟩⟩
           obtain ⟨r1, r2⟩ := hR.turn hg hl rfl rfl s2 hO
           refine ⟨.tuple #[vv, goInt m0.born], w', ?_, ?_, by rw [get_put]; exact r1, by rw [get_put]; exact r2⟩
           ·simp only [Instr.mapEntry, Sem.run_bind, hd, Result.andThen_ok, hgo, hck', hf1, hold, hst, s1, hborn, Sem.run_pure]
           ·simp only [VR]
            refine ⟨[vv, goInt m0.born], rfl, VRL.cons hvv (VRL.cons ?_ VRL.nil)⟩
            simp only [VR, goInt]
            rw [← a2.2.2]
      ·cases h
  ·cases h
 ·cases h
theorem eff_entryStore (hR : Rel w0 φ σ.get σ.next w) {t : TypeId} {m s x : AV} {um us ux : Value} (h : aentryStore σ m s x = some σ') (hm : VR φ m um) (hs : VR φ s us) (hx : VR φ x ux) :
  ∃ w', (Instr.entryStore t um us ux).run P w = .ok () w' ∧ Rel w0 φ σ'.get σ'.next w' ∧ Ext w0 φ σ.get σ.next w φ σ'.get σ'.next w' := by
 unfold aentryStore at h
 split at h
 ·rename_i id kk n
  simp only [VR] at hm hs
  obtain ⟨l, hl, rfl⟩ := hm
  subst hs
  split at h
  ·rename_i es clock hg
   obtain ⟨ms, hm1, hm2⟩ := hR.objs id _ l hg hl
   have hgo : (getObj l.c).run P w = .ok (.map ms.toArray clock) w := getObj_run hm1 (fun _ _ _ h => by cases h)
   split at h
   ·rename_i i k b hf
    simp only [Option.some.injEq] at h; subst h
    have key : ∀ (es : List (AV × AV × Nat)) (ms : List MapEntry) (s : Nat), EntsR φ es ms → findBorn es n s = some (i, k, b) →
      s ≤ i ∧ ms.findIdx? (fun e => (e.born : Int) == n) = some (i - s) ∧ ∃ x0, es[i - s]? = some (k, x0, b) := by
     intro es
     induction es with
     | nil => intro ms s _ h; simp [findBorn] at h
     | cons e es ih =>
       intro ms s hms h
       obtain ⟨ek, ev, eb⟩ := e
       obtain ⟨m0, ms', rfl, h1, h2⟩ := hms.tail
       simp only [findBorn] at h
       by_cases hb : (eb : Int) = n
       ·simp only [hb, decide_true, cond_true, Option.some.injEq, Prod.mk.injEq] at h
        obtain ⟨rfl, rfl, rfl⟩ := h
        have hborn := h1.2.2
        simp only at hborn
        refine ⟨Nat.le_refl _, ?_, ev, by simp⟩
        rw [List.findIdx?_cons]
        simp [← hborn, hb]
       ·simp only [hb, decide_false, cond_false] at h
        obtain ⟨a1, a2, x0, a3⟩ := ih ms' (s + 1) h2 h
        have hborn := h1.2.2
        simp only at hborn
        refine ⟨by omega, ?_, x0, ?_⟩
        ·rw [List.findIdx?_cons]
         simp only [← hborn]
         have : ((eb : Int) == n) = false := beq_eq_false_iff_ne.2 hb
         simp only [this, Bool.false_eq_true, if_false, a2, Option.map_some, Option.some.injEq]
         omega
        ·rw [show i - s = (i - (s + 1)) + 1 by omega]
         simpa using a3
    obtain ⟨_, k1, x0, k2⟩ := key es ms 0 hm2 hf
    simp only [Nat.sub_zero] at k1 k2
    obtain ⟨m0, a1, a2⟩ := hm2.2 i _ k2
    obtain ⟨w', s1, s2, s3⟩ := run_setObj (P := P) (o' := .map (ms.toArray.modify i fun e => { e with val := ux }) clock) hm1 (fun _ _ _ h => by cases h)
    have hO : ObjR φ w' l (.map (setNth es i (k, x, b)) clock) := ⟨ms.modify i fun e => { e with val := ux }, by rw [s3]; simp, hm2.turn _ fun m hm' => by
     rw [a1] at hm'; injection hm' with hm'; subst hm'
     exact ⟨a2.1, hx, a2.2.2⟩⟩
    obtain ⟨r1, r2⟩ := hR.turn hg hl rfl rfl s2 hO
    refine ⟨w', ?_, by rw [get_put]; exact r1, by rw [get_put]; exact r2⟩
    have k1' : (ms.toArray.findIdx? fun e => (e.born : Int) == n) = some i := by simpa using k1
    simp only [Instr.entryStore, Sem.run_bind, hgo, Result.andThen_ok, asInt, asIntOf, Sem.run_pure, k1', s1]
   ·cases h
  ·cases h
 ·cases h
end
end Go.Proofs.Ytmjmhpbncfjnpaa.Bm
