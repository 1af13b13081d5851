/- The abstract machine: append, clear, copy on arrays whose length and contents are open; then each operation that changes the heap. -/
import Derived.Test.YtmjmhpbncfjnpaaBmY
set_option linter.unusedSimpArgs false
set_option linter.unusedVariables false
namespace Go.Proofs.Ytmjmhpbncfjnpaa.Bm
open Go.RowKit
section
variable {P : Program} {E : Env} {w0 w w' : World} {φ φ' : Phi} {g g' : Heap} {n n' : Nat} {σ σ' : St}
theorem uSt_rel (hR : Rel w0 φ σ.get σ.next w) : Rel w0 φ (uSt σ).get (uSt σ).next w := by rw [uSt_get]; exact hR.untyped
theorem uSt_at {id n : Nat} {sh : List Sh} {f : Nat → Nat → AV} {rw_ : Bool} (hg : σ.get id = some (.tarr sh n f rw_)) : (uSt σ).get id = some (.cells (tcells sh f 0 n) rw_) := by rw [uSt_get]; simp [untyped, hg, untype]
theorem retype {σ1 : St} (hR : Rel w0 φ' σ1.get σ1.next w') (hX : Ext w0 φ (uSt σ).get (uSt σ).next w φ' σ1.get σ1.next w') (hg : σ1.get = untyped σ'.get) (hn : σ1.next = σ'.next) (hgh : ∀ i, i < σ.next → φ i = none → σ'.get i = σ.get i) :
  Rel w0 φ' σ'.get σ'.next w' ∧ Ext w0 φ σ.get σ.next w φ' σ'.get σ'.next w' := by
 rw [hg, hn] at hR hX
 rw [uSt_get] at hX
 exact ⟨hR.of_untyped, hX.of_untyped hgh⟩
theorem tgrow_spec {te : TI} {id len m es : Nat} {hid rw_ : Bool} {sh : List Sh} {f fs : Nat → Nat → AV} {obl o : List Bool} {r : AV} (h : tgrow σ te id len m es hid rw_ sh f fs obl = some (r, σ', o)) (ho : (o.all fun b => b) = true) :
  growOk te (len + m) = true ∧ (obl.all fun b => b) = true ∧ (hid = true → rw_ = true) ∧ r = .tsl σ.next 0 (len + m) (len + m) es true ∧ σ' = (cond hid (σ.kill id) σ).new (.tarr sh (len + m) (fjoin f len fs) true) := by
 unfold tgrow at h
 cases hid <;> cases rw_ <;> simp only [Bool.and_false, Bool.and_true, Bool.not_false, Bool.not_true, Bool.true_and, Bool.false_and, cond_true, cond_false] at h
 all_goals first
  | cases h; done
  | (simp only [Option.some.injEq, Prod.mk.injEq] at h
     obtain ⟨rfl, rfl, rfl⟩ := h
     simp only [List.all_cons, Bool.and_eq_true] at ho
     exact ⟨ho.1, ho.2, by simp, rfl, rfl⟩)
theorem ghost_grow {hid : Bool} {id : Nat} {o : AObj} (hl : hid = true → φ id ≠ none) : ∀ i, i < σ.next → φ i = none → ((cond hid (σ.kill id) σ).new o).get i = σ.get i := by
 intro i hi hn
 rw [get_new]
 cases hid with
 | true =>
   simp only [cond_true, get_kill, gset]
   rw [if_neg (show ¬ i = (σ.kill id).next from fun e => by have : (σ.kill id).next = σ.next := rfl; omega)]
   rw [if_neg (fun e => by subst e; exact hl rfl hn)]
 | false =>
   simp only [cond_false, gset]
   rw [if_neg (by omega)]
theorem grow_get {hid : Bool} {id : Nat} {sh : List Sh} {a b : Nat} {f fs : Nat → Nat → AV} :
  ((cond hid ((uSt σ).kill id) (uSt σ)).new (.cells (tcells sh f 0 a ++ tcells sh fs 0 b) true)).get = untyped ((cond hid (σ.kill id) σ).new (.tarr sh (a + b) (fjoin f a fs) true)).get := by
 rw [tcells_join]
 cases hid with
 | true =>
   simp only [cond_true, get_new, get_kill, untyped_gset, uSt_get]
   rfl
 | false =>
   simp only [cond_false, get_new, untyped_gset, uSt_get]
   rfl
theorem grow_next {hid : Bool} {id : Nat} {o o' : AObj} : ((cond hid ((uSt σ).kill id) (uSt σ)).new o).next = ((cond hid (σ.kill id) σ).new o').next := by cases hid <;> rfl
theorem slice_live {id off len cap es : Nat} {hid : Bool} {u : Value} (h : VR φ (.slice id off len cap es hid) u) : φ id ≠ none := by
 simp only [VR] at h
 obtain ⟨l, _, _, h1, _⟩ := h
 rw [h1]; simp
theorem tsl_live {id off len cap es : Nat} {hid : Bool} {u : Value} (h : VR φ (.tsl id off len cap es hid) u) : φ id ≠ none := slice_live (VR_tsl.1 h)
theorem VR_tsl0 {id len cap es : Nat} {hid : Bool} {v : Value} (h : VR φ (.slice id 0 len cap es hid) v) : VR φ (.tsl id 0 len cap es hid) v := by
 rw [VR_tsl, Nat.zero_mul]; exact h
theorem app_len {tx te : TI} {x : AV} {m : Nat} (hk : ∀ k, tx.k ≠ .int k) (h : alenOf x = some m) : aappN te tx x = some m := by
 unfold aappN
 split
 ·rename_i k hx; exact absurd hx (hk k)
 ·exact h
theorem app_new {tx te : TI} {x : AV} {m : Nat} {new : List AV} (hk : ∀ k, tx.k ≠ .int k) (h : afirst g te.size m x = some new) : aappNew g te tx m x = some new := by
 unfold aappNew
 split
 ·rename_i k hx; exact absurd hx (hk k)
 ·exact h
theorem troom_nil {e : TypeId} {x : AV} {q : Nat × List Sh} {m : Nat} (h : tshape E g e x = some q) (hl : tlenOf x = some m) : troom .nilSlice x = Nat.beq m 0 := by
 cases x <;> simp only [tshape] at h <;> first
  | (cases h; done)
  | (simp only [tlenOf, Option.some.injEq] at hl; subst hl; rfl)
theorem troom_slice {e : TypeId} {x : AV} {q : Nat × List Sh} {m id off len cap es : Nat} {hid : Bool} (h : tshape E g e x = some q) (hl : tlenOf x = some m) : troom (.slice id off len cap es hid) x = Nat.ble (len + m) cap := by
 cases x <;> simp only [tshape] at h <;> first
  | (cases h; done)
  | (simp only [tlenOf, Option.some.injEq] at hl; subst hl; rfl)
theorem eff_tappend (hE : EnvOK P E) (hR : Rel w0 φ σ.get σ.next w) {t xt ty : TypeId} {b : Bool} {s x r : AV} {us ux : Value} {obl : List Bool} (h : tappend E b σ t xt s x = some (r, σ', obl)) (ho : (obl.all fun b => b) = true)
  (hb : b = troom s x) (hs : VR φ s us) (hx : VR φ x ux) :
  ∃ φ' z w', (Builtin.append_ #[t, xt] ty #[us, ux]).run P w = .ok z w' ∧ VR φ' r z ∧ Rel w0 φ' σ'.get σ'.next w' ∧ Ext w0 φ σ.get σ.next w φ' σ'.get σ'.next w' := by
 have hRu := uSt_rel hR
 unfold tappend at h
 split at h
 ·rename_i ti tx ht htx
  split at h
  ·cases h
  ·rename_i e hk hnk
   have hni : ∀ k, tx.k ≠ .int k := fun k hk' => hnk k hk'
   split at h
   ·cases h
   ·rename_i te hte
    split at h
    ·-- to an open one
     rename_i id off len cap es hid
     split at h
     ·rename_i sh n f rw_ hg
      cases hes : (Nat.beq te.size es && Nat.beq es sh.length) with
      | false => rw [hes] at h; cases h
      | true =>
        rw [hes] at h
        simp only [cond_true] at h
        simp only [Bool.and_eq_true] at hes
        obtain ⟨b1, b2⟩ := hes
        have := Nat.eq_of_beq_eq_true b2; subst this
        have hte2 := Nat.eq_of_beq_eq_true b1
        split at h
        ·rename_i m fs o hsrc
         have hgu := uSt_at hg
         have hus := VR_utv.2 hs
         have hux := VR_utv.2 hx
         cases b with
         | true =>
           simp only [cond_true] at h
           cases rw_ with
           | false => cases h
           | true =>
             simp only [cond_true, Option.some.injEq, Prod.mk.injEq] at h
             obtain ⟨rfl, rfl, rfl⟩ := h
             simp only [List.all_cons, Bool.and_eq_true] at ho
             obtain ⟨o1, o2⟩ := ho
             have hfit := Nat.le_of_ble_eq_true o1
             obtain ⟨l1, l2, l3⟩ := tsrc_spec hsrc o2
             simp only [troom, l2] at hb
             obtain ⟨σ1, w1, w2, w3⟩ := awrite_u hgu (tcells_one (sh := sh) (f := fs) (n := m)) (tcells_over (f := f) (off := off + len) (k := m) (n := n) (by omega))
             have happ : aappend E (uSt σ) t xt (.slice id (off * sh.length) len cap sh.length hid) (utv x) = some (.slice id (off * sh.length) (len + m) cap sh.length hid, σ1) := by
              have hn := app_len (te := te) hni l1
              have hnew := app_new (te := te) (g := (uSt σ).get) hni (x := utv x) (m := m) (by rw [hte2, uSt_get]; exact l3 m (Nat.le_refl _))
              simp only [aappend, ht, htx, hk, hte, hn, hnew, b1, cond_true, ← hb]
              rw [← Nat.add_mul, w1]
             obtain ⟨φ', z, w', e1, e2, e3, e4⟩ := eff_append (P := P) (ty := ty) hE hRu happ hus hux
             obtain ⟨q1, q2⟩ := retype (σ := σ) (σ' := σ.put id (.tarr sh n (fover f (off + len) m fs) true)) e3 e4 (by rw [w2, get_put, untyped_gset, uSt_get]; rfl) w3 (ghost_put (tsl_live hs))
             exact ⟨φ', z, w', e1, VR_tsl.2 e2, q1, q2⟩
         | false =>
           simp only [cond_false] at h
           obtain ⟨g1, g2, g3, rfl, rfl⟩ := tgrow_spec h ho
           simp only [List.all_cons, Bool.and_eq_true] at g2
           obtain ⟨o1, o2⟩ := g2
           have hfit := Nat.le_of_ble_eq_true o1
           obtain ⟨l1, l2, l3⟩ := tsrc_spec hsrc o2
           simp only [troom, l2] at hb
           have happ : aappend E (uSt σ) t xt (.slice id (off * sh.length) len cap sh.length hid) (utv x) = some (.slice σ.next 0 (len + m) (len + m) sh.length true,
             (cond hid ((uSt σ).kill id) (uSt σ)).new (.cells (tcells sh (fun i j => f (off + i) j) 0 len ++ tcells sh fs 0 m) true)) := by
            have hn := app_len (te := te) hni l1
            have hnew := app_new (te := te) (g := (uSt σ).get) hni (x := utv x) (m := m) (by rw [hte2, uSt_get]; exact l3 m (Nat.le_refl _))
            have hcut := tcells_sub (sh := sh) (f := f) hfit
            have hnx : (uSt σ).next = σ.next := rfl
            cases hid with
            | true =>
              have := g3 rfl; subst this
              simp only [aappend, ht, htx, hk, hte, hn, hnew, b1, cond_true, ← hb, cond_false, g1, hgu, hcut, tcells_one, Bool.and_self, hnx]
            | false => simp only [aappend, ht, htx, hk, hte, hn, hnew, b1, cond_true, ← hb, cond_false, g1, hgu, hcut, hnx]
           obtain ⟨φ', z, w', e1, e2, e3, e4⟩ := eff_append (P := P) (ty := ty) hE hRu happ hus hux
           obtain ⟨q1, q2⟩ := retype e3 e4 grow_get grow_next (ghost_grow fun _ => tsl_live hs)
           exact ⟨φ', z, w', e1, VR_tsl0 e2, q1, q2⟩
        ·cases h
     ·cases h
    ·-- to nil
     split at h
     ·rename_i es sh hts
      cases hes : (Nat.beq te.size es && Nat.beq es sh.length) with
      | false => rw [hes] at h; cases h
      | true =>
        rw [hes] at h
        simp only [cond_true] at h
        simp only [Bool.and_eq_true] at hes
        obtain ⟨b1, b2⟩ := hes
        have := Nat.eq_of_beq_eq_true b2; subst this
        have hte2 := Nat.eq_of_beq_eq_true b1
        split at h
        ·rename_i m fs o hsrc
         have hus := VR_utv.2 hs
         have hux := VR_utv.2 hx
         cases b with
         | true =>
           simp only [cond_true, Option.some.injEq, Prod.mk.injEq] at h
           obtain ⟨rfl, rfl, rfl⟩ := h
           obtain ⟨l1, l2, l3⟩ := tsrc_spec hsrc ho
           have h0 : m = 0 := by
            rw [troom_nil hts l2] at hb
            exact Nat.eq_of_beq_eq_true hb.symm
           have happ : aappend E (uSt σ) t xt .nilSlice (utv x) = some (.nilSlice, uSt σ) := by
            have hn := app_len (te := te) hni l1
            have hnew := app_new (te := te) (g := (uSt σ).get) hni (x := utv x) (m := m) (by rw [hte2, uSt_get]; exact l3 m (Nat.le_refl _))
            simp only [aappend, ht, htx, hk, hte, hn, hnew]
            rw [h0]; rfl
           obtain ⟨φ', z, w', e1, e2, e3, e4⟩ := eff_append (P := P) (ty := ty) hE hRu happ hus hux
           obtain ⟨q1, q2⟩ := retype (σ' := σ) e3 e4 (uSt_get σ) rfl (fun _ _ _ => rfl)
           exact ⟨φ', z, w', e1, e2, q1, q2⟩
         | false =>
           simp only [cond_false] at h
           obtain ⟨g1, g2, g3, rfl, rfl⟩ := tgrow_spec h ho
           obtain ⟨l1, l2, l3⟩ := tsrc_spec hsrc g2
           have h0 : m ≠ 0 := fun e => by
            rw [troom_nil hts l2, e] at hb
            simp at hb
           have happ : aappend E (uSt σ) t xt .nilSlice (utv x) = some (.slice σ.next 0 m m sh.length true,
             (cond false ((uSt σ).kill 0) (uSt σ)).new (.cells (tcells sh (fun _ _ => .bad) 0 0 ++ tcells sh fs 0 m) true)) := by
            have hn := app_len (te := te) hni l1
            have hnew := app_new (te := te) (g := (uSt σ).get) hni (x := utv x) (m := m) (by rw [hte2, uSt_get]; exact l3 m (Nat.le_refl _))
            rw [Nat.zero_add] at g1
            obtain ⟨k, rfl⟩ : ∃ k, m = k + 1 := ⟨m - 1, by omega⟩
            simp only [aappend, ht, htx, hk, hte, hn, hnew, g1, cond_true, cond_false, hte2, tcells, List.nil_append]
            rfl
           obtain ⟨φ', z, w', e1, e2, e3, e4⟩ := eff_append (P := P) (ty := ty) hE hRu happ hus hux
           obtain ⟨q1, q2⟩ := retype e3 e4 grow_get grow_next (ghost_grow fun h => by cases h)
           refine ⟨φ', z, w', e1, ?_, q1, q2⟩
           rw [Nat.zero_add]; exact VR_tsl0 e2
        ·cases h
     ·cases h
    ·-- to one of which all is seen
     rename_i id off len cap es hid
     split at h
     ·rename_i es' sh hts
      cases hes : (Nat.beq te.size es && Nat.beq es sh.length) with
      | false => rw [hes] at h; cases h
      | true =>
        rw [hes] at h
        simp only [cond_true] at h
        simp only [Bool.and_eq_true] at hes
        obtain ⟨b1, b2⟩ := hes
        have := Nat.eq_of_beq_eq_true b2; subst this
        have hte2 := Nat.eq_of_beq_eq_true b1
        split at h
        ·rename_i len1 f o1 m fs o hsrc1 hsrc
         have hus := VR_utv.2 hs
         have hux := VR_utv.2 hx
         cases b with
         | true =>
           simp only [cond_true] at h
           cases hlc : Nat.beq len cap with
           | false => rw [hlc] at h; cases h
           | true =>
             rw [hlc] at h
             simp only [cond_true, Option.some.injEq, Prod.mk.injEq] at h
             obtain ⟨rfl, rfl, rfl⟩ := h
             obtain ⟨l1, l2, l3⟩ := tsrc_spec hsrc ho
             have hcap := Nat.eq_of_beq_eq_true hlc
             have hb2 : Nat.ble (len + m) cap = true := by
              rw [troom_slice hts l2] at hb
              exact hb.symm
             have hle := Nat.le_of_ble_eq_true hb2
             have h0 : m = 0 := by omega
             have happ : aappend E (uSt σ) t xt (.slice id off len cap sh.length hid) (utv x) = some (.slice id off len cap sh.length hid, uSt σ) := by
              have hn := app_len (te := te) hni l1
              have hnew := app_new (te := te) (g := (uSt σ).get) hni (x := utv x) (m := m) (by rw [hte2, uSt_get]; exact l3 m (Nat.le_refl _))
              simp only [aappend, ht, htx, hk, hte, hn, hnew, b1, cond_true, hb2]
              rw [h0]
              rfl
             obtain ⟨φ', z, w', e1, e2, e3, e4⟩ := eff_append (P := P) (ty := ty) hE hRu happ hus hux
             obtain ⟨q1, q2⟩ := retype (σ' := σ) e3 e4 (uSt_get σ) rfl (fun _ _ _ => rfl)
             exact ⟨φ', z, w', e1, e2, q1, q2⟩
         | false =>
           simp only [cond_false] at h
           split at h
           ·rename_i vs rw_ hgi
            obtain ⟨g1, g2, g3, rfl, rfl⟩ := tgrow_spec h ho
            simp only [List.all_append, Bool.and_eq_true] at g2
            obtain ⟨l1, l2, l3⟩ := tsrc_spec hsrc g2.2
            obtain ⟨k1, k2, k3⟩ := tsrc_spec hsrc1 g2.1
            simp only [tlenOf, Option.some.injEq] at k2
            subst k2
            have hb2 : Nat.ble (len + m) cap = false := by
             rw [troom_slice hts l2] at hb
             exact hb.symm
            have hgu : (uSt σ).get id = some (.cells vs rw_) := by rw [uSt_get]; simp [untyped, hgi, untype]
            have hcut : cut vs off (len * sh.length) = some (tcells sh f 0 len) := by
             have := k3 len (Nat.le_refl _)
             simpa only [utv, afirst, Nat.beq_refl, cond_true, acell_untyped (show acell σ.get id = some vs by simp [acell, hgi])] using this
            have happ : aappend E (uSt σ) t xt (.slice id off len cap sh.length hid) (utv x) = some (.slice σ.next 0 (len + m) (len + m) sh.length true,
              (cond hid ((uSt σ).kill id) (uSt σ)).new (.cells (tcells sh f 0 len ++ tcells sh fs 0 m) true)) := by
             have hn := app_len (te := te) hni l1
             have hnew := app_new (te := te) (g := (uSt σ).get) hni (x := utv x) (m := m) (by rw [hte2, uSt_get]; exact l3 m (Nat.le_refl _))
             have hnx : (uSt σ).next = σ.next := rfl
             cases hid with
             | true =>
               have := g3 rfl; subst this
               simp only [aappend, ht, htx, hk, hte, hn, hnew, b1, cond_true, hb2, cond_false, g1, hgu, hcut, tcells_one, Bool.and_self, hnx]
             | false => simp only [aappend, ht, htx, hk, hte, hn, hnew, b1, cond_true, hb2, cond_false, g1, hgu, hcut, hnx]
            obtain ⟨φ', z, w', e1, e2, e3, e4⟩ := eff_append (P := P) (ty := ty) hE hRu happ hus hux
            obtain ⟨q1, q2⟩ := retype e3 e4 grow_get grow_next (ghost_grow fun _ => slice_live hs)
            exact ⟨φ', z, w', e1, VR_tsl0 e2, q1, q2⟩
           ·cases h
        ·cases h
     ·cases h
    ·cases h
  ·cases h
 ·cases h
theorem eff_tclear (hE : EnvOK P E) (hR : Rel w0 φ σ.get σ.next w) {t ty : TypeId} {ts : List TypeId} {us : List Value} {x r : AV} {u : Value} {obl : List Bool} (h : tclear E σ t x = some (r, σ', obl)) (ho : (obl.all fun b => b) = true) (hx : VR φ x u) :
  r = .undef ∧ ∃ w', (Builtin.clear_ (t :: ts).toArray ty (u :: us).toArray).run P w = .ok undef w' ∧ Rel w0 φ σ'.get σ'.next w' ∧ Ext w0 φ σ.get σ.next w φ σ'.get σ'.next w' := by
 have hRu := uSt_rel hR
 unfold tclear at h
 split at h
 ·rename_i id off len cap es hid ti ht
  split at h
  ·rename_i e sh n f hk hg
   split at h
   ·rename_i te hte
    cases hb : (Nat.beq te.size es && Nat.beq es sh.length && shFit sh te.zero) with
    | false => rw [hb] at h; cases h
    | true =>
      rw [hb] at h
      simp only [cond_true, Option.some.injEq, Prod.mk.injEq] at h
      obtain ⟨rfl, rfl, rfl⟩ := h
      simp only [Bool.and_eq_true] at hb
      obtain ⟨⟨b1, b2⟩, b3⟩ := hb
      have := Nat.eq_of_beq_eq_true b2; subst this
      have hte2 := Nat.eq_of_beq_eq_true b1
      simp only [List.all_cons, List.all_nil, Bool.and_true] at ho
      have hfit := Nat.le_of_ble_eq_true ho
      have hgu := uSt_at hg
      have hzl : te.zero.length = sh.length := by rw [(hE.at_ hte).zlen, hte2]
      have hrep : ∀ k, rep k te.zero = tcells sh (fun _ j => getAt te.zero j) 0 k := fun k => by
       refine rows_ext (n := k) (es := sh.length) (by rw [rep_length, hzl]) (tcells_length _ _ _ _) fun a j ha hj => ?_
       have hlt : a * te.zero.length + j < k * te.zero.length := by rw [hzl]; exact join_lt ha hj
       rw [tcells_get ha hj, ← hzl, rep_at _ _ _ hlt, show a * te.zero.length + j = j + a * te.zero.length by omega, Nat.add_mul_mod_self_right, Nat.mod_eq_of_lt (by omega)]
       have hjz : j < te.zero.length := by omega
       obtain ⟨s, q1, q2⟩ := (shFit_spec b3).2 j _ (List.getElem?_eq_getElem hjz)
       rw [List.getElem?_eq_getElem hj] at q1
       injection q1 with q1
       simp only [getAt, List.getElem?_eq_getElem hjz]
       rw [← q1] at q2
       rw [shOk_view q2]
      obtain ⟨σ1, w1, w2, w3⟩ := awrite_u hgu (tcells_one (sh := sh) (f := fun _ j => getAt te.zero j) (n := len)) (tcells_over (f := f) hfit)
      have hcl : ∃ σ2, aclear E (uSt σ) t (.slice id (off * sh.length) len cap sh.length hid) = some σ2 ∧ σ2.get = gset (uSt σ).get id (some (.cells (tcells sh (fover f off len (fun _ j => getAt te.zero j)) 0 n) true)) ∧ σ2.next = σ.next := by
       cases len with
       | zero =>
         refine ⟨uSt σ, by simp only [aclear, ht, hk, hte, b1, cond_true], ?_, rfl⟩
         have hsame : tcells sh (fover f off 0 (fun _ j => getAt te.zero j)) 0 n = tcells sh f 0 n := tcells_ext fun a b _ => by
          unfold fover
          rw [ble_iff, blt_iff]
          have : (decide (off ≤ a) && decide (a < off + 0)) = false := by simp
          rw [this]; rfl
         rw [hsame]
         funext i
         by_cases hi : i = id
         ·subst hi; simp [gset, hgu]
         ·simp [gset, hi]
       | succ len =>
         refine ⟨σ1, ?_, w2, w3⟩
         simp only [aclear, ht, hk, hte, b1, cond_true]
         rw [hrep, w1]
      obtain ⟨σ2, c1, c2, c3⟩ := hcl
      obtain ⟨w', e1, e2, e3⟩ := eff_clear (P := P) (ty := ty) (ts := ts) (us := us) hE hRu c1 (VR_tsl.1 hx)
      obtain ⟨q1, q2⟩ := retype (σ := σ) (σ' := σ.put id (.tarr sh n (fover f off len (fun _ j => getAt te.zero j)) true)) e2 e3 (by rw [c2, get_put, untyped_gset, uSt_get]; rfl) c3 (ghost_put (tsl_live hx))
      exact ⟨rfl, w', e1, q1, q2⟩
   ·cases h
  ·cases h
 ·cases h
theorem eff_tcopy (hE : EnvOK P E) (hR : Rel w0 φ σ.get σ.next w) {t ty : TypeId} {ts : List TypeId} {us : List Value} {d s r : AV} {ud us0 : Value} {obl : List Bool} (h : tcopy E σ t d s = some (r, σ', obl)) (ho : (obl.all fun b => b) = true) (hd : VR φ d ud) (hs : VR φ s us0) :
  ∃ z w', (Builtin.copy_ (t :: ts).toArray ty (ud :: us0 :: us).toArray).run P w = .ok z w' ∧ VR φ r z ∧ Rel w0 φ σ'.get σ'.next w' ∧ Ext w0 φ σ.get σ.next w φ σ'.get σ'.next w' := by
 have hRu := uSt_rel hR
 unfold tcopy at h
 split at h
 ·rename_i id off len cap es hid ti ht
  split at h
  ·rename_i e sh n f hk hg
   split at h
   ·rename_i te hte
    cases hb : (Nat.beq te.size es && Nat.beq es sh.length) with
    | false => rw [hb] at h; cases h
    | true =>
      rw [hb] at h
      simp only [cond_true] at h
      simp only [Bool.and_eq_true] at hb
      obtain ⟨b1, b2⟩ := hb
      have := Nat.eq_of_beq_eq_true b2; subst this
      have hte2 := Nat.eq_of_beq_eq_true b1
      split at h
      ·rename_i m fs o hsrc
       simp only [Option.some.injEq, Prod.mk.injEq] at h
       obtain ⟨rfl, rfl, rfl⟩ := h
       simp only [List.all_cons, Bool.and_eq_true] at ho
       have hfit := Nat.le_of_ble_eq_true ho.1
       obtain ⟨l1, l2, l3⟩ := tsrc_spec hsrc ho.2
       have hmin : Nat.min m len ≤ len := Nat.min_le_right _ _
       obtain ⟨σ1, w1, w2, w3⟩ := awrite_u (uSt_at hg) (tcells_one (sh := sh) (f := fs) (n := Nat.min m len)) (tcells_over (f := f) (off := off) (by omega))
       have hcp : acopy E (uSt σ) t (.slice id (off * sh.length) len cap sh.length hid) (utv s) = some (.int .i64 (Nat.min m len), σ1) := by
        have := l3 (Nat.min m len) (Nat.min_le_left _ _)
        rw [← uSt_get] at this
        simp only [acopy, ht, hk, hte, l1, b1, cond_true, this, w1]
       obtain ⟨z, w', e1, e2, e3, e4⟩ := eff_copy (P := P) (ty := ty) (ts := ts) (us := us) hE hRu hcp (VR_tsl.1 hd) (VR_utv.2 hs)
       obtain ⟨q1, q2⟩ := retype (σ := σ) (σ' := σ.put id (.tarr sh n (fover f off (Nat.min m len) fs) true)) e3 e4 (by rw [w2, get_put, untyped_gset, uSt_get]; rfl) w3 (ghost_put (tsl_live hd))
       exact ⟨z, w', e1, e2, q1, q2⟩
      ·cases h
   ·cases h
  ·cases h
 ·cases h
theorem eff_beff (hE : EnvOK P E) (hR : Rel w0 φ σ.get σ.next w) {ρa : Operand → AV} {ρ : Operand → Value} (hρ : ∀ x, VR φ (ρa x) (ρ x)) {o : Oper} {v v1 v2 : AV} (hV : ArgsR φ ρ o.op v1 v2) (h : beff E v1 v2 ρa σ o.op = some (v, σ')) :
  EffOK P w0 φ σ w (execOp ρ o) v σ' := by
 unfold beff at h
 split at h
 ·rename_i v' σ1 obl ht
  cases ho : (obl.all fun b => b) with
  | false => rw [ho] at h; cases h
  | true =>
    rw [ho] at h
    simp only [cond_true, Option.some.injEq, Prod.mk.injEq] at h
    obtain ⟨rfl, rfl⟩ := h
    unfold teff at ht
    split at ht <;> rename_i hop
    ·rename_i t a x
     split at ht
     ·rename_i id i j es ha
      have hu := hρ a
      rw [ha] at hu
      obtain ⟨rfl, w', h1, h2, h3⟩ := eff_tstore (P := P) hE hR ht ho hu (hρ x)
      exact ⟨φ, w', .inl ⟨by simp only [execOp, hop, Sem.run_bind, h1, Result.andThen_ok, Sem.run_pure], rfl⟩, h2, h3⟩
     ·cases ht
    ·rename_i t m k x
     split at ht
     ·rename_i id ha
      have hu := hρ m
      rw [ha] at hu
      obtain ⟨rfl, w', h1, h2, h3⟩ := eff_tmapUpdate (P := P) hE hR ht hu (hρ k) (hρ x)
      exact ⟨φ, w', .inl ⟨by simp only [execOp, hop, Sem.run_bind, h1, Result.andThen_ok, Sem.run_pure], rfl⟩, h2, h3⟩
     ·cases ht
    ·rename_i t m k x
     split at ht
     ·rename_i id ha
      have hu := hρ m
      rw [ha] at hu
      obtain ⟨rfl, w', h1, h2, h3⟩ := eff_tmapUpdate (P := P) hE hR ht hu (hρ k) (hρ x)
      exact ⟨φ, w', .inl ⟨by simp only [execOp, hop, Sem.run_bind, h1, Result.andThen_ok, Sem.run_pure], rfl⟩, h2, h3⟩
     ·cases ht
    ·rename_i c
     split at ht
     ·rename_i s x t xt hc ha hty
      obtain ⟨φ', z, w', h1, h2, h3, h4⟩ := eff_tappend (P := P) (ty := o.type) hE hR ht ho (by simp only [tdec, isApp, hop, hc, cond_true]) ((hV c _ hop hc).1 _ _ ha) ((hV c _ hop hc).2 _ _ _ ha)
      refine ⟨φ', w', .inr ⟨z, ?_, h2⟩, h3, h4⟩
      simp only [execOp, hop, resolve, hc, Sem.run_bind, Sem.run_pure, Result.andThen_ok, invoke, builtin, map_cons_array ρ ha, List.map_cons, List.map_nil]
      rw [cons_array hty, h1]
      simp only [Result.andThen_ok, Sem.run_pure]
     ·rename_i d s ss t ts hc ha hty
      obtain ⟨z, w', h1, h2, h3, h4⟩ := eff_tcopy (P := P) (ty := o.type) (ts := ts) (us := ss.map ρ) hE hR ht ho ((hV c _ hop hc).1 _ _ ha) ((hV c _ hop hc).2 _ _ _ ha)
      refine ⟨φ, w', .inr ⟨z, ?_, h2⟩, h3, h4⟩
      simp only [execOp, hop, resolve, hc, Sem.run_bind, Sem.run_pure, Result.andThen_ok, invoke, builtin, map_cons_array ρ ha, List.map_cons]
      rw [cons_array hty, h1]
      simp only [Result.andThen_ok, Sem.run_pure]
     ·rename_i x ss t ts hc ha hty
      obtain ⟨rfl, w', h1, h2, h3⟩ := eff_tclear (P := P) (ty := o.type) (ts := ts) (us := ss.map ρ) hE hR ht ho ((hV c _ hop hc).1 _ _ ha)
      refine ⟨φ, w', .inr ⟨undef, ?_, VR.undef_⟩, h2, h3⟩
      simp only [execOp, hop, resolve, hc, Sem.run_bind, Sem.run_pure, Result.andThen_ok, invoke, builtin, map_cons_array ρ ha, List.map_cons]
      rw [cons_array hty, h1]
      simp only [Result.andThen_ok, Sem.run_pure]
     ·rename_i x y ss t ts hc ha hty
      split at ht
      ·rename_i id
       obtain ⟨rfl, w', h1, h2, h3⟩ := eff_tdelete (P := P) (ty := o.type) (ts := ts) (us := ss.map ρ) hE hR ht ((hV c _ hop hc).1 _ _ ha) ((hV c _ hop hc).2 _ _ _ ha)
       refine ⟨φ, w', .inr ⟨undef, ?_, VR.undef_⟩, h2, h3⟩
       simp only [execOp, hop, resolve, hc, Sem.run_bind, Sem.run_pure, Result.andThen_ok, invoke, builtin, map_cons_array ρ ha, List.map_cons]
       rw [cons_array hty, h1]
       simp only [Result.andThen_ok, Sem.run_pure]
      ·cases ht
     ·cases ht
    ·cases ht
 ·exact eff_aeff0 hE hR hρ hV h
theorem opA_ok {ρa : Operand → AV} {ρ : Operand → Value} (hρ : ∀ x, VR φ (ρa x) (ρ x)) (op : Op) : ArgsR φ ρ op (dnb (nlOf (opA ρa op)) (opA ρa op)) (dnb (nlOf (opB ρa op)) (opB ρa op)) := by
 intro c b hop hc
 subst hop
 refine ⟨fun x xs ha => ?_, fun x y xs ha => ?_⟩
 ·have : opA ρa (.call c) = ρa x := by simp only [opA, hc, ha]
  rw [this]; exact VR_dnb (hρ x)
 ·have : opB ρa (.call c) = ρa y := by simp only [opB, hc, ha]
  rw [this]; exact VR_dnb (hρ y)
theorem eff_aeff (hE : EnvOK P E) (hR : Rel w0 φ σ.get σ.next w) {ρa : Operand → AV} {ρ : Operand → Value} (hρ : ∀ x, VR φ (ρa x) (ρ x)) {o : Oper} {v : AV} (h : aeff E ρa σ o.op = some (v, σ')) :
  EffOK P w0 φ σ w (execOp ρ o) v σ' := eff_beff hE hR hρ (opA_ok hρ o.op) h
theorem shOfs_spec : ∀ {vs : List AV} {sh : List Sh}, shOfs vs = some sh → sh.length = vs.length ∧ shFit sh vs = true
 | [], sh, h => by
   simp only [shOfs, Option.some.injEq] at h; subst h
   exact ⟨rfl, rfl⟩
 | v :: vs, sh, h => by
   cases v <;> simp only [shOfs] at h <;> first
    | (cases h; done)
    | (split at h
       ·rename_i s' hs
        simp only [Option.some.injEq] at h; subst h
        obtain ⟨h1, h2⟩ := shOfs_spec hs
        exact ⟨by simp [h1], by simp [shFit, shOk, h2]⟩
       ·cases h)
theorem rep_tcells {sh : List Sh} {zs : List AV} (hl : zs.length = sh.length) (hf : shFit sh zs = true) (k : Nat) : rep k zs = tcells sh (fun _ j => getAt zs j) 0 k := by
 refine rows_ext (n := k) (es := sh.length) (by rw [rep_length, hl]) (tcells_length _ _ _ _) fun a j ha hj => ?_
 have hlt : a * zs.length + j < k * zs.length := by rw [hl]; exact join_lt ha hj
 rw [tcells_get ha hj, ← hl, rep_at _ _ _ hlt, show a * zs.length + j = j + a * zs.length by omega, Nat.add_mul_mod_self_right, Nat.mod_eq_of_lt (by omega)]
 have hjz : j < zs.length := by omega
 obtain ⟨s, q1, q2⟩ := (shFit_spec hf).2 j _ (List.getElem?_eq_getElem hjz)
 rw [List.getElem?_eq_getElem hj] at q1
 injection q1 with q1
 simp only [getAt, List.getElem?_eq_getElem hjz]
 rw [← q1] at q2
 rw [shOk_view q2]
theorem str_tcells (l : List Nat) : (l.map fun (b : Nat) => AV.int .u8 (b : Int)) = tcells [.int .u8] (fun i _ => .int .u8 (natAt l i)) 0 l.length := by
 refine rows_ext (n := l.length) (es := 1) (by simp) (by rw [tcells_length]; rfl) fun a j ha hj => ?_
 have hj0 : j = 0 := by omega
 subst hj0
 have := tcells_get (sh := [.int .u8]) (f := fun i (_ : Nat) => AV.int .u8 (natAt l i : Int)) ha (j := 0) (by simp)
 simp only [List.length_cons, List.length_nil, Nat.zero_add] at this
 rw [this, Nat.mul_one, Nat.add_zero, List.getElem?_map, List.getElem?_eq_getElem ha]
 simp [view, AV.toI, natAt, List.getElem?_eq_getElem ha]
theorem run_aalloc (hE : EnvOK P E) {ρa : Operand → AV} {ρ : Operand → Value} (hρ : ∀ x, VR φ (ρa x) (ρ x)) {o : Oper} {ob : AObj} {f : Nat → AV}
  (h : aalloc E ρa o.op = some (ob, f)) {id : Nat} (hid : φ id = none) :
  ∃ z w' l, (execOp ρ o).run P w = .ok (.value z) w' ∧ Laid w w' ∧ l.c = w.heap.size ∧ ob.rw = true ∧ ObjR (upd φ id l) w' l ob ∧ VR (upd φ id l) (f id) z := by
 unfold aalloc at h
 split at h
 ·rename_i ob' f' obl ht
  cases ho : (obl.all fun b => b) with
  | false => rw [ho] at h; cases h
  | true =>
    rw [ho] at h
    simp only [cond_true, Option.some.injEq, Prod.mk.injEq] at h
    obtain ⟨rfl, rfl⟩ := h
    unfold talloc at ht
    split at ht
    ·rename_i t l c hop
     split at ht
     ·cases ht
     ·rename_i ti hti
      split at ht
      ·rename_i e hk
       cases htd : E.tyd e with
       | false => rw [htd] at ht; cases ht
       | true =>
         rw [htd] at ht
         simp only [cond_true] at ht
         split at ht
         ·rename_i te k1 nl k2 nc hte hl hc
          split at ht
          ·rename_i sh hsh
           simp only [Option.some.injEq, Prod.mk.injEq] at ht
           obtain ⟨rfl, rfl, rfl⟩ := ht
           simp only [List.all_cons, List.all_nil, Bool.and_true, Bool.and_eq_true, decide_eq_true_eq] at ho
           obtain ⟨o1, o2, o3, o4⟩ := ho
           obtain ⟨s1, s2⟩ := shOfs_spec hsh
           have hal : aalloc0 E ρa o.op = some (.cells (rep nc.toNat te.zero) true, fun id => .slice id 0 nl.toNat nc.toNat te.size false) := by
            have a1 : amakeLen (ρa l) = some nl.toNat := by
             rw [hl]; simp only [amakeLen, o1, show nl ≤ 281474976710656 by omega, decide_true, Bool.and_self, cond_true]
            have a2 : amakeLen (ρa c) = some nc.toNat := by
             rw [hc]; simp only [amakeLen, show 0 ≤ nc by omega, o3, decide_true, Bool.and_self, cond_true]
            have a3 : Nat.ble nl.toNat nc.toNat = true := Nat.ble_eq_true_of_le (by omega)
            rw [hop]
            simp only [aalloc0, hti, hk, hte, a1, a2, a3, o4, Bool.and_self, cond_true]
           obtain ⟨z, w', lo, z1, z2, z3, z4, z5, z6⟩ := run_aalloc0 (w := w) hE hρ hal hid
           rw [rep_tcells s1.symm s2] at z5
           exact ⟨z, w', lo, z1, z2, z3, rfl, z5, VR_tsl0 z6⟩
          ·cases ht
         ·cases ht
      ·cases ht
    ·rename_i s d x hop
     split at ht
     ·rename_i ts td l hts htd' hx
      split at ht
      ·rename_i e hks hkd
       cases htd : E.tyd e with
       | false => rw [htd] at ht; cases ht
       | true =>
         rw [htd] at ht
         simp only [cond_true] at ht
         split at ht
         ·rename_i te hte
          split at ht
          ·rename_i hk8
           simp only [Option.some.injEq, Prod.mk.injEq] at ht
           obtain ⟨rfl, rfl, rfl⟩ := ht
           simp only [List.all_cons, List.all_nil, Bool.and_true] at ho
           have hal : aalloc0 E ρa o.op = some (.cells (l.map fun (b : Nat) => .int .u8 (b : Int)) true, fun id => .slice id 0 l.length l.length 1 true) := by
            rw [hop]
            simp only [aalloc0, hts, htd', hx, hks, hkd, hte, hk8, ho, cond_true]
           obtain ⟨z, w', lo, z1, z2, z3, z4, z5, z6⟩ := run_aalloc0 (w := w) hE hρ hal hid
           rw [str_tcells] at z5
           exact ⟨z, w', lo, z1, z2, z3, rfl, z5, VR_tsl0 z6⟩
          ·cases ht
         ·cases ht
      ·cases ht
     ·cases ht
    ·cases ht
 ·exact run_aalloc0 hE hρ h hid
end
end Go.Proofs.Ytmjmhpbncfjnpaa.Bm
