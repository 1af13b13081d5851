/- The abstract machine: append, clear, copy on arrays whose length and contents are open; then each operation that changes the heap. -/
import Derived.Test.YtpnkedgppbcnhaaAmY
set_option linter.unusedSimpArgs false
set_option linter.unusedVariables false
namespace Go.Proofs.Ytpnkedgppbcnhaa.Am
open Go.RowKit
section
variable {P : Program} {E : Env} {w0 w w' : World} {φ φ' : Phi} {g g' : Heap} {n n' : Nat} {σ σ' : St}

theorem uSt_rel (hR : Rel w0 φ σ.get σ.next w) : Rel w0 φ (uSt σ).get (uSt σ).next w := by rw [uSt_get]; exact hR.untyped
theorem uSt_at {id n : Nat} {sh : List Sh} {f : Nat → Nat → AV} {rw_ : Bool} (hg : σ.get id = some (.tarr sh n f rw_)) : (uSt σ).get id = some (.cells (tcells sh f 0 n) rw_) := by rw [uSt_get]; simp [untyped, hg, untype]

/-- What came of the heap of cells is told of the heap itself. -/
theorem retype {σ1 : St} (hR : Rel w0 φ' σ1.get σ1.next w') (hX : Ext w0 φ (uSt σ).get (uSt σ).next w φ' σ1.get σ1.next w') (hg : σ1.get = untyped σ'.get) (hn : σ1.next = σ'.next) (hgh : ∀ i, i < σ.next → φ i = none → σ'.get i = σ.get i) :
    Rel w0 φ' σ'.get σ'.next w' ∧ Ext w0 φ σ.get σ.next w φ' σ'.get σ'.next w' := by
  rw [hg, hn] at hR hX
  rw [uSt_get] at hX
  exact ⟨hR.of_untyped, hX.of_untyped hgh⟩

theorem tgrow_spec {te : TI} {id len m es : Nat} {hid rw_ : Bool} {sh : List Sh} {f fs : Nat → Nat → AV} {obl o : List Bool} {r : AV} (h : tgrow σ te id len m es hid rw_ sh f fs obl = some (r, σ', o)) (ho : (o.all fun b => b) = true) :
    growOk te (len + m) = true ∧ (obl.all fun b => b) = true ∧ (hid = true → rw_ = true) ∧ r = .tsl σ.next 0 (len + m) (len + m) es true ∧ σ' = (cond hid (σ.kill id) σ).new (.tarr sh (len + m) (fjoin f len fs) true) := by
  unfold tgrow at h
  cases hid <;> cases rw_ <;> simp only [Bool.and_false, Bool.and_true, Bool.not_false, Bool.not_true, Bool.true_and, Bool.false_and, cond_true, cond_false] at h
  all_goals first
    | cases h; done
    | (simp only [Option.some.injEq, Prod.mk.injEq] at h
       obtain ⟨rfl, rfl, rfl⟩ := h
       simp only [List.all_cons, Bool.and_eq_true] at ho
       exact ⟨ho.1, ho.2, by simp, rfl, rfl⟩)

theorem ghost_grow {hid : Bool} {id : Nat} {o : AObj} (hl : hid = true → φ id ≠ none) : ∀ i, i < σ.next → φ i = none → ((cond hid (σ.kill id) σ).new o).get i = σ.get i := by
  intro i hi hn
  rw [get_new]
  cases hid with
  | true =>
    simp only [cond_true, get_kill, gset]
    rw [if_neg (show ¬ i = (σ.kill id).next from fun e => by have : (σ.kill id).next = σ.next := rfl; omega)]
    rw [if_neg (fun e => by subst e; exact hl rfl hn)]
  | false =>
    simp only [cond_false, gset]
    rw [if_neg (by omega)]
theorem grow_get {hid : Bool} {id : Nat} {sh : List Sh} {a b : Nat} {f fs : Nat → Nat → AV} :
    ((cond hid ((uSt σ).kill id) (uSt σ)).new (.cells (tcells sh f 0 a ++ tcells sh fs 0 b) true)).get = untyped ((cond hid (σ.kill id) σ).new (.tarr sh (a + b) (fjoin f a fs) true)).get := by
  rw [tcells_join]
  cases hid with
  | true =>
    simp only [cond_true, get_new, get_kill, untyped_gset, uSt_get]
    rfl
  | false =>
    simp only [cond_false, get_new, untyped_gset, uSt_get]
    rfl
theorem grow_next {hid : Bool} {id : Nat} {o o' : AObj} : ((cond hid ((uSt σ).kill id) (uSt σ)).new o).next = ((cond hid (σ.kill id) σ).new o').next := by cases hid <;> rfl

theorem slice_live {id off len cap es : Nat} {hid : Bool} {u : Value} (h : VR φ (.slice id off len cap es hid) u) : φ id ≠ none := by
  simp only [VR] at h
  obtain ⟨l, _, _, h1, _⟩ := h
  rw [h1]; simp
theorem tsl_live {id off len cap es : Nat} {hid : Bool} {u : Value} (h : VR φ (.tsl id off len cap es hid) u) : φ id ≠ none := slice_live (VR_tsl.1 h)
theorem VR_tsl0 {id len cap es : Nat} {hid : Bool} {v : Value} (h : VR φ (.slice id 0 len cap es hid) v) : VR φ (.tsl id 0 len cap es hid) v := by
  rw [VR_tsl, Nat.zero_mul]; exact h

theorem app_len {tx te : TI} {x : AV} {m : Nat} (hk : ∀ k, tx.k ≠ .int k) (h : alenOf x = some m) : aappN te tx x = some m := by
  unfold aappN
  split
  · rename_i k hx; exact absurd hx (hk k)
  · exact h
theorem app_new {tx te : TI} {x : AV} {m : Nat} {new : List AV} (hk : ∀ k, tx.k ≠ .int k) (h : afirst g te.size m x = some new) : aappNew g te tx m x = some new := by
  unfold aappNew
  split
  · rename_i k hx; exact absurd hx (hk k)
  · exact h

theorem eff_tappend (hE : EnvOK P E) (hR : Rel w0 φ σ.get σ.next w) {t xt ty : TypeId} {b : Bool} {s x r : AV} {us ux : Value} {obl : List Bool} (h : tappend E b σ t xt s x = some (r, σ', obl)) (ho : (obl.all fun b => b) = true)
    (hb : b = troom s x) (hs : VR φ s us) (hx : VR φ x ux) :
    ∃ φ' z w', (Builtin.append_ #[t, xt] ty #[us, ux]).run P w = .ok z w' ∧ VR φ' r z ∧ Rel w0 φ' σ'.get σ'.next w' ∧ Ext w0 φ σ.get σ.next w φ' σ'.get σ'.next w' := by
  have hRu := uSt_rel hR
  unfold tappend at h
  split at h
  · rename_i ti tx ht htx
    split at h
    · cases h
    · rename_i e hk hnk
      have hni : ∀ k, tx.k ≠ .int k := fun k hk' => hnk k hk'
      split at h
      · cases h
      · rename_i te hte
        split at h
        · -- to an open one
          rename_i id off len cap es hid
          split at h
          · rename_i sh n f rw_ hg
            cases hes : (Nat.beq te.size es && Nat.beq es sh.length) with
            | false => rw [hes] at h; cases h
            | true =>
              rw [hes] at h
              simp only [cond_true] at h
              simp only [Bool.and_eq_true] at hes
              obtain ⟨b1, b2⟩ := hes
              have := Nat.eq_of_beq_eq_true b2; subst this
              have hte2 := Nat.eq_of_beq_eq_true b1
              split at h
              · rename_i m fs o hsrc
                have hgu := uSt_at hg
                have hus := VR_utv.2 hs
                have hux := VR_utv.2 hx
                cases b with
                | true =>
                  simp only [cond_true] at h
                  cases rw_ with
                  | false => cases h
                  | true =>
                    simp only [cond_true, Option.some.injEq, Prod.mk.injEq] at h
                    obtain ⟨rfl, rfl, rfl⟩ := h
                    simp only [List.all_cons, Bool.and_eq_true] at ho
                    obtain ⟨o1, o2⟩ := ho
                    have hfit := Nat.le_of_ble_eq_true o1
                    obtain ⟨l1, l2, l3⟩ := tsrc_spec hsrc o2
                    simp only [troom, l2] at hb
                    obtain ⟨σ1, w1, w2, w3⟩ := awrite_u hgu (tcells_one (sh := sh) (f := fs) (n := m)) (tcells_over (f := f) (off := off + len) (k := m) (n := n) (by omega))
                    have happ : aappend E (uSt σ) t xt (.slice id (off * sh.length) len cap sh.length hid) (utv x) = some (.slice id (off * sh.length) (len + m) cap sh.length hid, σ1) := by
                      have hn := app_len (te := te) hni l1
                      have hnew := app_new (te := te) (g := (uSt σ).get) hni (x := utv x) (m := m) (by rw [hte2, uSt_get]; exact l3 m (Nat.le_refl _))
                      simp only [aappend, ht, htx, hk, hte, hn, hnew, b1, cond_true, ← hb]
                      rw [← Nat.add_mul, w1]
                    obtain ⟨φ', z, w', e1, e2, e3, e4⟩ := eff_append (P := P) (ty := ty) hE hRu happ hus hux
                    obtain ⟨q1, q2⟩ := retype (σ := σ) (σ' := σ.put id (.tarr sh n (fover f (off + len) m fs) true)) e3 e4 (by rw [w2, get_put, untyped_gset, uSt_get]; rfl) w3 (ghost_put (tsl_live hs))
                    exact ⟨φ', z, w', e1, VR_tsl.2 e2, q1, q2⟩
                | false =>
                  simp only [cond_false] at h
                  obtain ⟨g1, g2, g3, rfl, rfl⟩ := tgrow_spec h ho
                  simp only [List.all_cons, Bool.and_eq_true] at g2
                  obtain ⟨o1, o2⟩ := g2
                  have hfit := Nat.le_of_ble_eq_true o1
                  obtain ⟨l1, l2, l3⟩ := tsrc_spec hsrc o2
                  simp only [troom, l2] at hb
                  have happ : aappend E (uSt σ) t xt (.slice id (off * sh.length) len cap sh.length hid) (utv x) = some (.slice σ.next 0 (len + m) (len + m) sh.length true,
                      (cond hid ((uSt σ).kill id) (uSt σ)).new (.cells (tcells sh (fun i j => f (off + i) j) 0 len ++ tcells sh fs 0 m) true)) := by
                    have hn := app_len (te := te) hni l1
                    have hnew := app_new (te := te) (g := (uSt σ).get) hni (x := utv x) (m := m) (by rw [hte2, uSt_get]; exact l3 m (Nat.le_refl _))
                    have hcut := tcells_sub (sh := sh) (f := f) hfit
                    have hnx : (uSt σ).next = σ.next := rfl
                    cases hid with
                    | true =>
                      have := g3 rfl; subst this
                      simp only [aappend, ht, htx, hk, hte, hn, hnew, b1, cond_true, ← hb, cond_false, g1, hgu, hcut, tcells_one, Bool.and_self, hnx]
                    | false => simp only [aappend, ht, htx, hk, hte, hn, hnew, b1, cond_true, ← hb, cond_false, g1, hgu, hcut, hnx]
                  obtain ⟨φ', z, w', e1, e2, e3, e4⟩ := eff_append (P := P) (ty := ty) hE hRu happ hus hux
                  obtain ⟨q1, q2⟩ := retype e3 e4 grow_get grow_next (ghost_grow fun _ => tsl_live hs)
                  exact ⟨φ', z, w', e1, VR_tsl0 e2, q1, q2⟩
              · cases h
          · cases h
        · -- to nil
          split at h
          · rename_i id off0 len0 cap0 es hid0
            split at h
            · rename_i sh n0 f0 rw0 hg
              cases hes : (Nat.beq te.size es && Nat.beq es sh.length) with
              | false => rw [hes] at h; cases h
              | true =>
                rw [hes] at h
                simp only [cond_true] at h
                simp only [Bool.and_eq_true] at hes
                obtain ⟨b1, b2⟩ := hes
                have := Nat.eq_of_beq_eq_true b2; subst this
                have hte2 := Nat.eq_of_beq_eq_true b1
                split at h
                · rename_i m fs o hsrc
                  have hus := VR_utv.2 hs
                  have hux := VR_utv.2 hx
                  cases b with
                  | true =>
                    simp only [cond_true, Option.some.injEq, Prod.mk.injEq] at h
                    obtain ⟨rfl, rfl, rfl⟩ := h
                    obtain ⟨l1, l2, l3⟩ := tsrc_spec hsrc ho
                    simp only [tlenOf, Option.some.injEq] at l2
                    subst l2
                    have h0 : len0 = 0 := Nat.eq_of_beq_eq_true hb.symm
                    have happ : aappend E (uSt σ) t xt .nilSlice (utv (.tsl id off0 len0 cap0 sh.length hid0)) = some (.nilSlice, uSt σ) := by
                      have hn := app_len (te := te) hni l1
                      have hnew := app_new (te := te) (g := (uSt σ).get) hni (x := utv (.tsl id off0 len0 cap0 sh.length hid0)) (m := len0) (by rw [hte2, uSt_get]; exact l3 len0 (Nat.le_refl _))
                      simp only [aappend, ht, htx, hk, hte, hn, hnew]
                      rw [h0]; rfl
                    obtain ⟨φ', z, w', e1, e2, e3, e4⟩ := eff_append (P := P) (ty := ty) hE hRu happ hus hux
                    obtain ⟨q1, q2⟩ := retype (σ' := σ) e3 e4 (uSt_get σ) rfl (fun _ _ _ => rfl)
                    exact ⟨φ', z, w', e1, e2, q1, q2⟩
                  | false =>
                    simp only [cond_false] at h
                    obtain ⟨g1, g2, g3, rfl, rfl⟩ := tgrow_spec h ho
                    obtain ⟨l1, l2, l3⟩ := tsrc_spec hsrc g2
                    simp only [tlenOf, Option.some.injEq] at l2
                    subst l2
                    have h0 : len0 ≠ 0 := fun e => by rw [e] at hb; simp [troom] at hb
                    have happ : aappend E (uSt σ) t xt .nilSlice (utv (.tsl id off0 len0 cap0 sh.length hid0)) = some (.slice σ.next 0 len0 len0 sh.length true,
                        (cond false ((uSt σ).kill 0) (uSt σ)).new (.cells (tcells sh (fun _ _ => .bad) 0 0 ++ tcells sh fs 0 len0) true)) := by
                      have hn := app_len (te := te) hni l1
                      have hnew := app_new (te := te) (g := (uSt σ).get) hni (x := utv (.tsl id off0 len0 cap0 sh.length hid0)) (m := len0) (by rw [hte2, uSt_get]; exact l3 len0 (Nat.le_refl _))
                      rw [Nat.zero_add] at g1
                      obtain ⟨k, rfl⟩ : ∃ k, len0 = k + 1 := ⟨len0 - 1, by omega⟩
                      simp only [aappend, ht, htx, hk, hte, hn, hnew, g1, cond_true, cond_false, hte2, tcells, List.nil_append]
                      rfl
                    obtain ⟨φ', z, w', e1, e2, e3, e4⟩ := eff_append (P := P) (ty := ty) hE hRu happ hus hux
                    obtain ⟨q1, q2⟩ := retype e3 e4 grow_get grow_next (ghost_grow fun h => by cases h)
                    refine ⟨φ', z, w', e1, ?_, q1, q2⟩
                    rw [Nat.zero_add]; exact VR_tsl0 e2
                · cases h
            · cases h
          · cases h
        · -- to one of which all is seen
          rename_i id off len cap es hid
          split at h
          · rename_i idx off0 len0 cap0 es' hid0
            split at h
            · rename_i sh n0 f0 rw0 hg
              cases hes : (Nat.beq te.size es && Nat.beq es sh.length) with
              | false => rw [hes] at h; cases h
              | true =>
                rw [hes] at h
                simp only [cond_true] at h
                simp only [Bool.and_eq_true] at hes
                obtain ⟨b1, b2⟩ := hes
                have := Nat.eq_of_beq_eq_true b2; subst this
                have hte2 := Nat.eq_of_beq_eq_true b1
                split at h
                · rename_i len1 f o1 m fs o hsrc1 hsrc
                  have hus := VR_utv.2 hs
                  have hux := VR_utv.2 hx
                  cases b with
                  | true =>
                    simp only [cond_true] at h
                    cases hlc : Nat.beq len cap with
                    | false => rw [hlc] at h; cases h
                    | true =>
                      rw [hlc] at h
                      simp only [cond_true, Option.some.injEq, Prod.mk.injEq] at h
                      obtain ⟨rfl, rfl, rfl⟩ := h
                      obtain ⟨l1, l2, l3⟩ := tsrc_spec hsrc ho
                      simp only [tlenOf, Option.some.injEq] at l2
                      subst l2
                      have hcap := Nat.eq_of_beq_eq_true hlc
                      have hle := Nat.le_of_ble_eq_true hb.symm
                      have h0 : len0 = 0 := by omega
                      have happ : aappend E (uSt σ) t xt (.slice id off len cap sh.length hid) (utv (.tsl idx off0 len0 cap0 es' hid0)) = some (.slice id off len cap sh.length hid, uSt σ) := by
                        have hn := app_len (te := te) hni l1
                        have hnew := app_new (te := te) (g := (uSt σ).get) hni (x := utv (.tsl idx off0 len0 cap0 es' hid0)) (m := len0) (by rw [hte2, uSt_get]; exact l3 len0 (Nat.le_refl _))
                        have hb2 : Nat.ble (len + len0) cap = true := hb.symm
                        simp only [aappend, ht, htx, hk, hte, hn, hnew, b1, cond_true, hb2]
                        rw [h0]
                        rfl
                      obtain ⟨φ', z, w', e1, e2, e3, e4⟩ := eff_append (P := P) (ty := ty) hE hRu happ hus hux
                      obtain ⟨q1, q2⟩ := retype (σ' := σ) e3 e4 (uSt_get σ) rfl (fun _ _ _ => rfl)
                      exact ⟨φ', z, w', e1, e2, q1, q2⟩
                  | false =>
                    simp only [cond_false] at h
                    split at h
                    · rename_i vs rw_ hgi
                      obtain ⟨g1, g2, g3, rfl, rfl⟩ := tgrow_spec h ho
                      simp only [List.all_append, Bool.and_eq_true] at g2
                      obtain ⟨l1, l2, l3⟩ := tsrc_spec hsrc g2.2
                      obtain ⟨k1, k2, k3⟩ := tsrc_spec hsrc1 g2.1
                      simp only [tlenOf, Option.some.injEq] at l2 k2
                      subst l2; subst k2
                      have hgu : (uSt σ).get id = some (.cells vs rw_) := by rw [uSt_get]; simp [untyped, hgi, untype]
                      have hcut : cut vs off (len * sh.length) = some (tcells sh f 0 len) := by
                        have := k3 len (Nat.le_refl _)
                        simpa only [utv, afirst, Nat.beq_refl, cond_true, acell_untyped (show acell σ.get id = some vs by simp [acell, hgi])] using this
                      have happ : aappend E (uSt σ) t xt (.slice id off len cap sh.length hid) (utv (.tsl idx off0 len0 cap0 es' hid0)) = some (.slice σ.next 0 (len + len0) (len + len0) sh.length true,
                          (cond hid ((uSt σ).kill id) (uSt σ)).new (.cells (tcells sh f 0 len ++ tcells sh fs 0 len0) true)) := by
                        have hn := app_len (te := te) hni l1
                        have hnew := app_new (te := te) (g := (uSt σ).get) hni (x := utv (.tsl idx off0 len0 cap0 es' hid0)) (m := len0) (by rw [hte2, uSt_get]; exact l3 len0 (Nat.le_refl _))
                        have hnx : (uSt σ).next = σ.next := rfl
                        have hb2 : Nat.ble (len + len0) cap = false := hb.symm
                        cases hid with
                        | true =>
                          have := g3 rfl; subst this
                          simp only [aappend, ht, htx, hk, hte, hn, hnew, b1, cond_true, hb2, cond_false, g1, hgu, hcut, tcells_one, Bool.and_self, hnx]
                        | false => simp only [aappend, ht, htx, hk, hte, hn, hnew, b1, cond_true, hb2, cond_false, g1, hgu, hcut, hnx]
                      obtain ⟨φ', z, w', e1, e2, e3, e4⟩ := eff_append (P := P) (ty := ty) hE hRu happ hus hux
                      obtain ⟨q1, q2⟩ := retype e3 e4 grow_get grow_next (ghost_grow fun _ => slice_live hs)
                      exact ⟨φ', z, w', e1, VR_tsl0 e2, q1, q2⟩
                    · cases h
                · cases h
            · cases h
          · cases h
        · cases h
    · cases h
  · cases h

theorem eff_tclear (hE : EnvOK P E) (hR : Rel w0 φ σ.get σ.next w) {t ty : TypeId} {ts : List TypeId} {us : List Value} {x r : AV} {u : Value} {obl : List Bool} (h : tclear E σ t x = some (r, σ', obl)) (ho : (obl.all fun b => b) = true) (hx : VR φ x u) :
    r = .undef ∧ ∃ w', (Builtin.clear_ (t :: ts).toArray ty (u :: us).toArray).run P w = .ok undef w' ∧ Rel w0 φ σ'.get σ'.next w' ∧ Ext w0 φ σ.get σ.next w φ σ'.get σ'.next w' := by
  have hRu := uSt_rel hR
  unfold tclear at h
  split at h
  · rename_i id off len cap es hid ti ht
    split at h
    · rename_i e sh n f hk hg
      split at h
      · rename_i te hte
        cases hb : (Nat.beq te.size es && Nat.beq es sh.length && shFit sh te.zero) with
        | false => rw [hb] at h; cases h
        | true =>
          rw [hb] at h
          simp only [cond_true, Option.some.injEq, Prod.mk.injEq] at h
          obtain ⟨rfl, rfl, rfl⟩ := h
          simp only [Bool.and_eq_true] at hb
          obtain ⟨⟨b1, b2⟩, b3⟩ := hb
          have := Nat.eq_of_beq_eq_true b2; subst this
          have hte2 := Nat.eq_of_beq_eq_true b1
          simp only [List.all_cons, List.all_nil, Bool.and_true] at ho
          have hfit := Nat.le_of_ble_eq_true ho
          have hgu := uSt_at hg
          have hzl : te.zero.length = sh.length := by rw [(hE.at_ hte).zlen, hte2]
          have hrep : ∀ k, rep k te.zero = tcells sh (fun _ j => getAt te.zero j) 0 k := fun k => by
            refine rows_ext (n := k) (es := sh.length) (by rw [rep_length, hzl]) (tcells_length _ _ _ _) fun a j ha hj => ?_
            have hlt : a * te.zero.length + j < k * te.zero.length := by rw [hzl]; exact join_lt ha hj
            rw [tcells_get ha hj, ← hzl, rep_at _ _ _ hlt, show a * te.zero.length + j = j + a * te.zero.length by omega, Nat.add_mul_mod_self_right, Nat.mod_eq_of_lt (by omega)]
            have hjz : j < te.zero.length := by omega
            obtain ⟨s, q1, q2⟩ := (shFit_spec b3).2 j _ (List.getElem?_eq_getElem hjz)
            rw [List.getElem?_eq_getElem hj] at q1
            injection q1 with q1
            simp only [getAt, List.getElem?_eq_getElem hjz]
            rw [← q1] at q2
            rw [shOk_view q2]
          obtain ⟨σ1, w1, w2, w3⟩ := awrite_u hgu (tcells_one (sh := sh) (f := fun _ j => getAt te.zero j) (n := len)) (tcells_over (f := f) hfit)
          have hcl : ∃ σ2, aclear E (uSt σ) t (.slice id (off * sh.length) len cap sh.length hid) = some σ2 ∧ σ2.get = gset (uSt σ).get id (some (.cells (tcells sh (fover f off len (fun _ j => getAt te.zero j)) 0 n) true)) ∧ σ2.next = σ.next := by
            cases len with
            | zero =>
              refine ⟨uSt σ, by simp only [aclear, ht, hk, hte, b1, cond_true], ?_, rfl⟩
              have hsame : tcells sh (fover f off 0 (fun _ j => getAt te.zero j)) 0 n = tcells sh f 0 n := tcells_ext fun a b _ => by
                unfold fover
                rw [ble_iff, blt_iff]
                have : (decide (off ≤ a) && decide (a < off + 0)) = false := by simp
                rw [this]; rfl
              rw [hsame]
              funext i
              by_cases hi : i = id
              · subst hi; simp [gset, hgu]
              · simp [gset, hi]
            | succ len =>
              refine ⟨σ1, ?_, w2, w3⟩
              simp only [aclear, ht, hk, hte, b1, cond_true]
              rw [hrep, w1]
          obtain ⟨σ2, c1, c2, c3⟩ := hcl
          obtain ⟨w', e1, e2, e3⟩ := eff_clear (P := P) (ty := ty) (ts := ts) (us := us) hE hRu c1 (VR_tsl.1 hx)
          obtain ⟨q1, q2⟩ := retype (σ := σ) (σ' := σ.put id (.tarr sh n (fover f off len (fun _ j => getAt te.zero j)) true)) e2 e3 (by rw [c2, get_put, untyped_gset, uSt_get]; rfl) c3 (ghost_put (tsl_live hx))
          exact ⟨rfl, w', e1, q1, q2⟩
      · cases h
    · cases h
  · cases h

theorem eff_tcopy (hE : EnvOK P E) (hR : Rel w0 φ σ.get σ.next w) {t ty : TypeId} {ts : List TypeId} {us : List Value} {d s r : AV} {ud us0 : Value} {obl : List Bool} (h : tcopy E σ t d s = some (r, σ', obl)) (ho : (obl.all fun b => b) = true) (hd : VR φ d ud) (hs : VR φ s us0) :
    ∃ z w', (Builtin.copy_ (t :: ts).toArray ty (ud :: us0 :: us).toArray).run P w = .ok z w' ∧ VR φ r z ∧ Rel w0 φ σ'.get σ'.next w' ∧ Ext w0 φ σ.get σ.next w φ σ'.get σ'.next w' := by
  have hRu := uSt_rel hR
  unfold tcopy at h
  split at h
  · rename_i id off len cap es hid ti ht
    split at h
    · rename_i e sh n f hk hg
      split at h
      · rename_i te hte
        cases hb : (Nat.beq te.size es && Nat.beq es sh.length) with
        | false => rw [hb] at h; cases h
        | true =>
          rw [hb] at h
          simp only [cond_true] at h
          simp only [Bool.and_eq_true] at hb
          obtain ⟨b1, b2⟩ := hb
          have := Nat.eq_of_beq_eq_true b2; subst this
          have hte2 := Nat.eq_of_beq_eq_true b1
          split at h
          · rename_i m fs o hsrc
            simp only [Option.some.injEq, Prod.mk.injEq] at h
            obtain ⟨rfl, rfl, rfl⟩ := h
            simp only [List.all_cons, Bool.and_eq_true] at ho
            have hfit := Nat.le_of_ble_eq_true ho.1
            obtain ⟨l1, l2, l3⟩ := tsrc_spec hsrc ho.2
            have hmin : Nat.min m len ≤ len := Nat.min_le_right _ _
            obtain ⟨σ1, w1, w2, w3⟩ := awrite_u (uSt_at hg) (tcells_one (sh := sh) (f := fs) (n := Nat.min m len)) (tcells_over (f := f) (off := off) (by omega))
            have hcp : acopy E (uSt σ) t (.slice id (off * sh.length) len cap sh.length hid) (utv s) = some (.int .i64 (Nat.min m len), σ1) := by
              have := l3 (Nat.min m len) (Nat.min_le_left _ _)
              rw [← uSt_get] at this
              simp only [acopy, ht, hk, hte, l1, b1, cond_true, this, w1]
            obtain ⟨z, w', e1, e2, e3, e4⟩ := eff_copy (P := P) (ty := ty) (ts := ts) (us := us) hE hRu hcp (VR_tsl.1 hd) (VR_utv.2 hs)
            obtain ⟨q1, q2⟩ := retype (σ := σ) (σ' := σ.put id (.tarr sh n (fover f off (Nat.min m len) fs) true)) e3 e4 (by rw [w2, get_put, untyped_gset, uSt_get]; rfl) w3 (ghost_put (tsl_live hd))
            exact ⟨z, w', e1, e2, q1, q2⟩
          · cases h
      · cases h
    · cases h
  · cases h

theorem eff_aeff (hE : EnvOK P E) (hR : Rel w0 φ σ.get σ.next w) {ρa : Operand → AV} {ρ : Operand → Value} (hρ : ∀ x, VR φ (ρa x) (ρ x)) {o : Oper} {v : AV} (h : aeff E ρa σ o.op = some (v, σ')) :
    EffOK P w0 φ σ w (execOp ρ o) v σ' := by
  unfold aeff at h
  split at h
  · rename_i v' σ1 obl ht
    cases ho : (obl.all fun b => b) with
    | false => rw [ho] at h; cases h
    | true =>
      rw [ho] at h
      simp only [cond_true, Option.some.injEq, Prod.mk.injEq] at h
      obtain ⟨rfl, rfl⟩ := h
      unfold teff at ht
      split at ht <;> rename_i hop
      · rename_i t a x
        split at ht
        · rename_i id i j es ha
          have hu := hρ a
          rw [ha] at hu
          obtain ⟨rfl, w', h1, h2, h3⟩ := eff_tstore (P := P) hE hR ht ho hu (hρ x)
          exact ⟨φ, w', .inl ⟨by simp only [execOp, hop, Sem.run_bind, h1, Result.andThen_ok, Sem.run_pure], rfl⟩, h2, h3⟩
        · cases ht
      · rename_i c
        split at ht
        · rename_i s x t xt hc ha hty
          obtain ⟨φ', z, w', h1, h2, h3, h4⟩ := eff_tappend (P := P) (ty := o.type) hE hR ht ho (by simp only [tdec, hop, hc, ha]) (hρ s) (hρ x)
          refine ⟨φ', w', .inr ⟨z, ?_, h2⟩, h3, h4⟩
          simp only [execOp, hop, resolve, hc, Sem.run_bind, Sem.run_pure, Result.andThen_ok, invoke, builtin, map_cons_array ρ ha, List.map_cons, List.map_nil]
          rw [cons_array hty, h1]
          simp only [Result.andThen_ok, Sem.run_pure]
        · rename_i d s ss t ts hc ha hty
          obtain ⟨z, w', h1, h2, h3, h4⟩ := eff_tcopy (P := P) (ty := o.type) (ts := ts) (us := ss.map ρ) hE hR ht ho (hρ d) (hρ s)
          refine ⟨φ, w', .inr ⟨z, ?_, h2⟩, h3, h4⟩
          simp only [execOp, hop, resolve, hc, Sem.run_bind, Sem.run_pure, Result.andThen_ok, invoke, builtin, map_cons_array ρ ha, List.map_cons]
          rw [cons_array hty, h1]
          simp only [Result.andThen_ok, Sem.run_pure]
        · rename_i x ss t ts hc ha hty
          obtain ⟨rfl, w', h1, h2, h3⟩ := eff_tclear (P := P) (ty := o.type) (ts := ts) (us := ss.map ρ) hE hR ht ho (hρ x)
          refine ⟨φ, w', .inr ⟨undef, ?_, VR.undef_⟩, h2, h3⟩
          simp only [execOp, hop, resolve, hc, Sem.run_bind, Sem.run_pure, Result.andThen_ok, invoke, builtin, map_cons_array ρ ha, List.map_cons]
          rw [cons_array hty, h1]
          simp only [Result.andThen_ok, Sem.run_pure]
        · cases ht
      · cases ht
  · exact eff_aeff0 hE hR hρ h
end
end Go.Proofs.Ytpnkedgppbcnhaa.Am
