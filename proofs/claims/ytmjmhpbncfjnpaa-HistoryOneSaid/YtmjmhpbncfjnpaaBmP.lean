/- The abstract machine: append, delete, clear; then each operation that changes the heap. -/
import Derived.Test.YtmjmhpbncfjnpaaBmO
set_option linter.unusedSimpArgs false
set_option linter.unusedVariables false
namespace Go.Proofs.Ytmjmhpbncfjnpaa.Bm
open Go.RowKit
section
variable {P : Program} {E : Env} {w0 w w' : World} {φ : Phi} {g : Heap} {n : Nat} {σ σ' : St}
theorem aappNew_length {te tx : TI} {t : TypeId} (hT : TyOK P t te) {x : AV} {m : Nat} {new : List AV} (hn : aappN te tx x = some m) (hnew : aappNew g te tx m x = some new) : new.length = m * te.size := by
 unfold aappN at hn
 unfold aappNew at hnew
 split at hn
 ·rename_i k hk
  simp only [hk] at hnew
  cases hz : te.zero.all AV.one with
  | false => rw [hz] at hnew; cases hnew
  | true =>
    rw [hz] at hnew
    simp only [cond_true, Option.some.injEq] at hnew
    subst hnew
    rw [rep_length, hT.zlen]
 ·rename_i hni
  have hnew' : afirst g te.size m x = some new := by
   split at hnew
   ·rename_i k hk; exact absurd hk (hni k)
   ·exact hnew
  exact afirst_length hnew' hn
theorem rowObj {φ' : Phi} (hle : ∀ id l, φ id = some l → φ' id = some l) {vs : List AV} {cs rs : List Value} {arr : Array Value} (hv : VRL φ vs cs) (ha : arr.toList = cs ++ rs) (e : TypeId) (w : World) :
  ObjR φ' (w.alloc (.cells arr e)) ⟨w.heap.size, 0, arr.size⟩ (.cells vs true) := by
 have hn := Laid.new w (.cells arr e)
 have hlen : vs.length ≤ arr.size := by rw [← Array.length_toList, ha, List.length_append, hv.length]; omega
 refine ⟨fun j x hx => ?_, hlen, fun _ => ⟨arr, e, (0, 0), hn, by simp, fun j _ => by simp only [World.frozen?, hn]; simp⟩⟩
 obtain ⟨v, h1, h2⟩ := hv.at_ j x hx
 refine ⟨v, ?_, VR.mono hle _ _ h2⟩
 simp only [World.cell?, hn]
 have : arr.toList[j]? = some v := by
  rw [ha, List.getElem?_append_left (List.getElem?_eq_some_iff.1 h1).1]; exact h1
 simpa using this
theorem Laid.drewAlloc (w : World) (o : Obj) : Laid w (w.drew.alloc o) :=
 ⟨(Laid.alloc w.drew o).os, (Laid.alloc w.drew o).tape, (Laid.alloc w.drew o).output, (Laid.alloc w.drew o).size, (Laid.alloc w.drew o).block⟩
theorem eff_append (hE : EnvOK P E) (hR : Rel w0 φ σ.get σ.next w) {t xt ty : TypeId} {s x r : AV} {us ux : Value} (h : aappend E σ t xt s x = some (r, σ')) (hs : VR φ s us) (hx : VR φ x ux) :
  ∃ φ' z w', (Builtin.append_ #[t, xt] ty #[us, ux]).run P w = .ok z w' ∧ VR φ' r z ∧ Rel w0 φ' σ'.get σ'.next w' ∧ Ext w0 φ σ.get σ.next w φ' σ'.get σ'.next w' := by
 unfold aappend at h
 split at h
 ·rename_i ti tx ht htx
  have hT := hE.at_ ht
  obtain ⟨dd, hdd, hk⟩ := hT.und_
  split at h
  ·rename_i e hkk
   rw [hkk] at hk
   have := mkK_slice hk; subst this
   split at h
   ·cases h
   ·rename_i te hte
    have hTe := hE.at_ hte
    split at h
    ·cases h
    ·rename_i m hm
     split at h
     ·cases h
     ·rename_i new hnew
      have hnl := aappNew_length hTe hm hnew
      split at h
      ·-- to nil
       simp only [VR] at hs; subst hs
       split at h
       ·simp only [Option.some.injEq, Prod.mk.injEq] at h
        obtain ⟨rfl, rfl⟩ := h
        obtain ⟨cs, h1, h2⟩ := app_fits hE hR (ty := ty) hdd hte htx hx hm hnew (base := none) (sLen := 0) (sCap := 0) (by omega)
        refine ⟨φ, .slice none 0 0, w, ?_, by simp only [VR], hR, Ext.refl _ _ _ _ _⟩
        rw [h2]; simp [Sem.run_pure]
       ·rename_i hm0
        have hmne : m ≠ 0 := fun e => hm0 e
        cases hok : growOk te m with
        | false => rw [hok] at h; cases h
        | true =>
          rw [hok] at h
          simp only [cond_true, Option.some.injEq, Prod.mk.injEq] at h
          obtain ⟨rfl, rfl⟩ := h
          obtain ⟨cs, arr, c, c1, c2, c3, c4, ⟨rs, c5⟩, c6⟩ := app_grows hE hR (ty := ty) hdd hte htx hx hm hnew (base := none) (sLen := 0) (sCap := 0) (by omega) (by rw [Nat.zero_add]; exact hok)
           (ol := []) (by simp [Builtin.firstCells, Sem.run_pure]) (by simp)
          obtain ⟨r1, r2⟩ := eff_new hR (Laid.drewAlloc w (.cells arr e)) (o := .cells new true) (l := ⟨w.heap.size, 0, arr.size⟩) rfl rfl (rowObj (upd_le _ (hR.fresh _ (Nat.le_refl _))) c1 (by simpa using c5) e w.drew)
          refine ⟨_, _, _, c6, ?_, r1, r2⟩
          simp only [VR]
          exact ⟨_, _, c, upd_same _ _ _, by rw [Nat.zero_add], Nat.le_refl _, by omega, (fun h => by cases h), fun _ => by simp, fun _ => by simp [c4]⟩
      ·rename_i id off len cap es hid
       have hs0 := hs
       simp only [VR] at hs
       obtain ⟨l, ad, cc, h1, rfl, h2, h3, h4, h5, h6⟩ := hs
       cases hb : Nat.beq te.size es with
       | false => rw [hb] at h; cases h
       | true =>
       rw [hb] at h
       have hes := Nat.eq_of_beq_eq_true hb
       simp only [cond_true] at h
       cases hf : Nat.ble (len + m) cap with
       | true =>
         rw [hf] at h
         have hfit := Nat.le_of_ble_eq_true hf
         simp only [cond_true] at h
         split at h
         ·rename_i σ1 hw
          simp only [Option.some.injEq, Prod.mk.injEq] at h
          obtain ⟨rfl, rfl⟩ := h
          obtain ⟨cs, c1, c2⟩ := app_fits hE hR (ty := ty) hdd hte htx hx hm hnew (base := some ad) (sLen := len) (sCap := cc) (by omega)
          have hstore : ∃ w', (storeCells (ad.add (len * te.size)) cs).run P w = .ok () w' ∧ Rel w0 φ σ1.get σ1.next w' ∧ Ext w0 φ σ.get σ.next w φ σ1.get σ1.next w' := by
           by_cases hz : cc = 0
           ·have hm0 : m = 0 := by omega
            subst hm0
            have hn0 : new = [] := List.eq_nil_of_length_eq_zero (by rw [hnl]; simp)
            subst hn0
            have hc0 : cs = [] := by simpa only [VRL] using c1
            subst hc0
            simp only [awrite, Option.some.injEq] at hw; subst hw
            exact ⟨w, by simp [storeCells, Sem.run_pure], hR, Ext.refl _ _ _ _ _⟩
           ·have := h5 (by omega); subst this
            have := run_write (P := P) hR hw h1 c1
            rw [addr_add, hes]
            simpa only [Nat.add_assoc] using this
          obtain ⟨w', s1, s2, s3⟩ := hstore
          refine ⟨φ, .slice (some ad) (len + m) cc, w', ?_, ?_, s2, s3⟩
          ·rw [c2, s1]; rfl
          ·simp only [VR]
           exact ⟨l, ad, cc, h1, rfl, hfit, h3, h4, h5, h6⟩
         ·cases h
       | false =>
         rw [hf] at h
         simp only [cond_false] at h
         have hnfit : ¬ len + m ≤ cap := fun hle => by rw [Nat.ble_eq_true_of_le hle] at hf; cases hf
         cases hok : growOk te (len + m) with
         | false => rw [hok] at h; cases h
         | true =>
         rw [hok] at h
         simp only [cond_true] at h
         split at h
         ·rename_i vs rw_ hg
          split at h
          ·cases h
          ·rename_i old hold
           have haf : afirst σ.get te.size len (.slice id off len cap es hid) = some old := by
            simp only [afirst, hb, cond_true, acell, hg]; rw [hes]; exact hold
           obtain ⟨ol, o1, o2⟩ := run_first (P := P) hR.drew haf hs0 (fun m' hm' => by simp only [alenOf, Option.some.injEq] at hm'; omega)
           have holl : ol.length = len * te.size := by rw [o2.length, (cut_some hold).2, hes]
           -- a new row
           have grow : ¬ len + m ≤ cc → ∀ σb : St, σb.next = σ.next → Rel w0 φ σb.get σb.next w → Ext w0 φ σ.get σ.next w φ σb.get σb.next w →
             ∃ φ' z w', (Builtin.append_ #[t, xt] ty #[.slice (some ad) len cc, ux]).run P w = .ok z w' ∧ VR φ' (.slice σ.next 0 (len + m) (len + m) es true) z ∧
              Rel w0 φ' (σb.new (.cells (old ++ new) true)).get (σb.new (.cells (old ++ new) true)).next w' ∧ Ext w0 φ σ.get σ.next w φ' (σb.new (.cells (old ++ new) true)).get (σb.new (.cells (old ++ new) true)).next w' := by
            intro hgr σb hσb hRb hXb
            obtain ⟨cs, arr, c, c1, c2, c3, c4, ⟨rs, c5⟩, c6⟩ := app_grows hE hR (ty := ty) hdd hte htx hx hm hnew (base := some ad) (sLen := len) (sCap := cc) hgr hok o1 holl
            obtain ⟨r1, r2⟩ := eff_new hRb (Laid.drewAlloc w (.cells arr e)) (o := .cells (old ++ new) true) (l := ⟨w.heap.size, 0, arr.size⟩) rfl rfl (rowObj (upd_le _ (hRb.fresh _ (Nat.le_refl _))) (o2.append c1) c5 e w.drew)
            refine ⟨_, _, _, c6, ?_, r1, hXb.trans r2⟩
            rw [← hσb]
            simp only [VR]
            exact ⟨_, _, c, upd_same _ _ _, rfl, Nat.le_refl _, c3, (fun h => by cases h), fun _ => by simp, fun _ => by simp [c4, hes]⟩
           cases hid with
           | false =>
             simp only [cond_false, Option.some.injEq, Prod.mk.injEq] at h
             obtain ⟨rfl, rfl⟩ := h
             have := h4 rfl
             exact grow (by omega) σ rfl hR (Ext.refl _ _ _ _ _)
           | true =>
             simp only [cond_true] at h
             cases hrw : (rw_ && new.all AV.one) with
             | false => rw [hrw] at h; cases h
             | true =>
             rw [hrw] at h
             simp only [Bool.and_eq_true] at hrw
             obtain ⟨hrw1, hone⟩ := hrw
             subst hrw1
             simp only [cond_true, Option.some.injEq, Prod.mk.injEq] at h
             obtain ⟨rfl, rfl⟩ := h
             by_cases hin : len + m ≤ cc
             ·-- in its place
              have hccp : 0 < cc := by omega
              have := h5 hccp; subst this
              have hroom := h6 hccp
              obtain ⟨cs, c1, c2⟩ := app_fits hE hR (ty := ty) hdd hte htx hx hm hnew (base := some ⟨l.c, l.o + off, none⟩) (sLen := len) (sCap := cc) hin
              have hcl : cs.length = m * es := by rw [c1.length, hnl, hes]
              have hmul : (len + m) * es ≤ cc * es := Nat.mul_le_mul_right _ hin
              rw [Nat.add_mul] at hmul
              obtain ⟨w', s1, s2, arr, arr', e', fz, a1, a2, a3, a4, a5, a6⟩ := run_storeCells (P := P) hR hg h1 (off := off + len * es) c1 hone (by omega)
              obtain ⟨r1, r2⟩ := Rel.move hR hg h1 rfl (o' := .cells (old ++ new) true) rfl s2 (l' := ⟨l.c, l.o + off, l.room - off⟩) rfl (by
               have hol : old.length = len * es := (cut_some hold).2
               refine ⟨fun j y hy => ?_, ?_, fun _ => ⟨arr', e', fz, a2, by show arr'.size = l.o + off + (l.room - off); omega, fun j hj => ?_⟩⟩
               ·show ∃ v, w'.cell? ⟨l.c, l.o + off + j, none⟩ = some v ∧ _
                rw [Nat.add_assoc, a6]
                by_cases hj : j < old.length
                ·rw [if_neg (by omega)]
                 rw [List.getElem?_append_left hj] at hy
                 have hvs : vs[off + j]? = some y := by
                  rw [← hy, (cut_some hold).1, List.getElem?_take, if_pos (by omega), List.getElem?_drop]
                 obtain ⟨v, b1, b2⟩ := (hR.objs id _ l hg h1).1 _ _ hvs
                 exact ⟨v, b1, VR.mono (upd_le _ (hR.fresh _ (Nat.le_refl _))) _ _ b2⟩
                ·rw [List.getElem?_append_right (by omega)] at hy
                 have hj2 : j - old.length < new.length := (List.getElem?_eq_some_iff.1 hy).1
                 rw [hnl, hes] at hj2
                 rw [if_pos (by omega), show off + j - (off + len * es) = j - old.length by omega]
                 obtain ⟨v, b1, b2⟩ := c1.at_ _ _ hy
                 exact ⟨v, b1, VR.mono (upd_le _ (hR.fresh _ (Nat.le_refl _))) _ _ b2⟩
               ·show (old ++ new).length ≤ l.room - off
                rw [List.length_append, hol, hnl, hes]; omega
               ·show w'.frozen? ⟨l.c, l.o + off + j, none⟩ = false
                rw [Nat.add_assoc]
                exact a5 _ (by have : j < l.room - off := hj; omega))
              refine ⟨upd φ σ.next ⟨l.c, l.o + off, l.room - off⟩, .slice (some ⟨l.c, l.o + off, none⟩) (len + m) cc, w', ?_, ?_, ?_, ?_⟩
              ·rw [c2]
               have e1 : ((⟨l.c, l.o + off, none⟩ : Addr).add (len * te.size)) = ⟨l.c, l.o + (off + len * es), none⟩ := by rw [addr_add, hes, Nat.add_assoc]
               simp only [e1, s1, Result.andThen_ok]
              ·simp only [VR]
               exact ⟨_, _, cc, upd_same _ _ _, rfl, Nat.le_refl _, hin, (fun h => by cases h), fun _ => by simp, fun _ => by show 0 + cc * es ≤ l.room - off; omega⟩
              ·rw [get_new, get_kill]; exact r1
              ·rw [get_new, get_kill]; exact r2
             ·refine grow hin (σ.kill id) rfl ?_ ?_
              ·rw [get_kill]; exact hR.kill id
              ·rw [get_kill]; exact Ext.kill h1 (Nat.le_refl _) (fun _ _ => rfl)
         ·cases h
      ·cases h
  ·cases h
 ·cases h
theorem eff_delete (hE : EnvOK P E) (hR : Rel w0 φ σ.get σ.next w) {t ty : TypeId} {ts : List TypeId} {us : List Value} {m k : AV} {um uk : Value} (h : adelete E σ t m k = some σ') (hm : VR φ m um) (hk : VR φ k uk) :
  ∃ w', (Builtin.delete_ (t :: ts).toArray ty (um :: uk :: us).toArray).run P w = .ok undef w' ∧ Rel w0 φ σ'.get σ'.next w' ∧ Ext w0 φ σ.get σ.next w φ σ'.get σ'.next w' := by
 unfold adelete at h
 split at h
 ·cases h
 ·rename_i ti ht
  have hT := hE.at_ ht
  obtain ⟨d, hd, hkk⟩ := hT.und_
  split at h
  ·rename_i kt et hk1
   rw [hk1] at hkk
   have := mkK_map hkk; subst this
   cases hko : akeyOk E kt k with
   | false => rw [hko] at h; cases h
   | true =>
     rw [hko] at h
     simp only [cond_true] at h
     have hck : ∀ b w, (Instr.checkKey b 10000 kt uk).run P w = .ok () w := fun b w => run_checkKey' hE hko hk b 9998 w
     split at h
     ·simp only [Option.some.injEq] at h; subst h
      simp only [VR] at hm; subst hm
      refine ⟨w, ?_, hR, Ext.refl _ _ _ _ _⟩
      simp [Builtin.delete_, Sem.run_bind, hd, Result.andThen_ok, hck, Sem.run_pure]
      rfl
     ·rename_i id
      simp only [VR] at hm
      obtain ⟨l, hl, rfl⟩ := hm
      split at h
      ·rename_i es clock hg
       obtain ⟨ms, hm1, hm2⟩ := hR.objs id _ l hg hl
       obtain ⟨tk, htk⟩ := akeyOk_ty hko
       have hgo : (getObj l.c).run P w = .ok (.map ms.toArray clock) w := getObj_run hm1 (fun _ _ _ h => by cases h)
       split at h
       ·cases h
       ·rename_i hf
        simp only [Option.some.injEq] at h; subst h
        obtain ⟨r', hf1, hf2⟩ := run_findKey hE htk hk hf hm2 w
        cases r' with
        | some _ => exact hf2.elim
        | none =>
          obtain ⟨w', s1, s2, s3⟩ := run_setObj (P := P) (o' := .map ms.toArray clock) hm1 (fun _ _ _ h => by cases h)
          have hO : ObjR φ w' l (.map es clock) := ⟨ms, by rw [s3], hm2⟩
          obtain ⟨r1, r2⟩ := hR.turn hg hl rfl rfl s2 hO
          have hsame : gset σ.get id (some (.map es clock)) = σ.get := by
           funext i
           by_cases hi : i = id
           ·subst hi; simp [gset, hg]
           ·simp [gset, hi]
          rw [hsame] at r1 r2
          refine ⟨w', ?_, r1, r2⟩
          simp [Builtin.delete_, Sem.run_bind, hd, Result.andThen_ok, hgo, hck, hf1, s1, Sem.run_pure]
          rfl
       ·rename_i i xv hf
        simp only [Option.some.injEq] at h; subst h
        obtain ⟨r', hf1, hf2⟩ := run_findKey hE htk hk hf hm2 w
        cases r' with
        | none => exact hf2.elim
        | some q =>
          obtain ⟨j, vv⟩ := q
          obtain ⟨rfl, _⟩ := hf2
          obtain ⟨w', s1, s2, s3⟩ := run_setObj (P := P) (o' := .map (ms.toArray.eraseIdxIfInBounds i) clock) hm1 (fun _ _ _ h => by cases h)
          have hO : ObjR φ w' l (.map (delNth es i) clock) := ⟨ms.eraseIdx i, by rw [s3]; simp, hm2.del i⟩
          obtain ⟨r1, r2⟩ := hR.turn hg hl rfl rfl s2 hO
          refine ⟨w', ?_, by rw [get_put]; exact r1, by rw [get_put]; exact r2⟩
          simp only [List.eraseIdxIfInBounds_toArray] at s1
          simp [Builtin.delete_, Sem.run_bind, hd, Result.andThen_ok, hgo, hck, hf1, s1, Sem.run_pure]
          rfl
      ·cases h
     ·cases h
  ·cases h
theorem eff_clear (hE : EnvOK P E) (hR : Rel w0 φ σ.get σ.next w) {t ty : TypeId} {ts : List TypeId} {us : List Value} {x : AV} {u : Value} (h : aclear E σ t x = some σ') (hx : VR φ x u) :
  ∃ w', (Builtin.clear_ (t :: ts).toArray ty (u :: us).toArray).run P w = .ok undef w' ∧ Rel w0 φ σ'.get σ'.next w' ∧ Ext w0 φ σ.get σ.next w φ σ'.get σ'.next w' := by
 unfold aclear at h
 split at h
 ·cases h
 ·rename_i ti ht
  have hT := hE.at_ ht
  obtain ⟨d, hd, hkk⟩ := hT.und_
  split at h
  ·simp only [Option.some.injEq] at h; subst h
   simp only [VR] at hx; subst hx
   refine ⟨w, ?_, hR, Ext.refl _ _ _ _ _⟩
   simp [Builtin.clear_, Sem.run_bind, hd, Result.andThen_ok, Sem.run_pure]
   rfl
  ·simp only [Option.some.injEq] at h; subst h
   simp only [VR] at hx; subst hx
   refine ⟨w, ?_, hR, Ext.refl _ _ _ _ _⟩
   simp [Builtin.clear_, Sem.run_bind, hd, Result.andThen_ok, Sem.run_pure]
   rfl
  ·rename_i id
   simp only [VR] at hx
   obtain ⟨l, hl, rfl⟩ := hx
   split at h
   ·rename_i es clock hg
    simp only [Option.some.injEq] at h; subst h
    obtain ⟨ms, hm1, hm2⟩ := hR.objs id _ l hg hl
    have hgo : (getObj l.c).run P w = .ok (.map ms.toArray clock) w := getObj_run hm1 (fun _ _ _ h => by cases h)
    obtain ⟨w', s1, s2, s3⟩ := run_setObj (P := P) (o' := .map #[] clock) hm1 (fun _ _ _ h => by cases h)
    have hO : ObjR φ w' l (.map [] clock) := ⟨[], by rw [s3], rfl, fun j e he => by simp at he⟩
    obtain ⟨r1, r2⟩ := hR.turn hg hl rfl rfl s2 hO
    refine ⟨w', ?_, by rw [get_put]; exact r1, by rw [get_put]; exact r2⟩
    simp [Builtin.clear_, Sem.run_bind, hd, Result.andThen_ok, hgo, s1, Sem.run_pure]
    rfl
   ·cases h
  ·rename_i id off len cap es hid
   simp only [VR] at hx
   obtain ⟨l, ad, cc, h1, rfl, h2, h3, h4, h5, h6⟩ := hx
   split at h
   ·rename_i e hk1
    rw [hk1] at hkk
    have := mkK_slice hkk; subst this
    split at h
    ·rename_i te hte
     have hTe := hE.at_ hte
     cases hb : Nat.beq te.size es with
     | false => rw [hb] at h; cases h
     | true =>
       rw [hb] at h
       simp only [cond_true] at h
       split at h
       ·simp only [Option.some.injEq] at h; subst h
        refine ⟨w, ?_, hR, Ext.refl _ _ _ _ _⟩
        simp [Builtin.clear_, Sem.run_bind, hd, Result.andThen_ok, Sem.run_pure]
        rfl
       ·rename_i hl0
        have hl1 : len ≠ 0 := fun e => hl0 e
        have := h5 (by omega); subst this
        obtain ⟨z, hz, hz1, _⟩ := hTe.zero2_
        obtain ⟨w', s1, s2, s3⟩ := run_write (P := P) hR h h1 (zeroCells_spec (φ := φ) hTe hz1 len)
        refine ⟨w', ?_, s2, s3⟩
        cases len with
        | zero => exact absurd rfl hl0
        | succ len => simp [Builtin.clear_, Sem.run_bind, hd, Result.andThen_ok, Sem.run_pure, hz, s1]; rfl
    ·cases h
   ·cases h
  ·cases h
end
end Go.Proofs.Ytmjmhpbncfjnpaa.Bm
