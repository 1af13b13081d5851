/- The abstract machine: arrays whose length and contents are open: where their cells lie; places within them; loads. -/
import Derived.Test.YtpnkedgppbcnhaaAmJ
set_option linter.unusedSimpArgs false
set_option linter.unusedVariables false
namespace Go.Proofs.Ytpnkedgppbcnhaa.Am
open Go.RowKit

theorem trow_length (f : Nat → AV) : ∀ (sh : List Sh) (j : Nat), (trow f sh j).length = sh.length
  | [], _ => rfl
  | s :: sh, j => by simp [trow, trow_length f sh]
theorem tcells_length (sh : List Sh) (f : Nat → Nat → AV) : ∀ (i n : Nat), (tcells sh f i n).length = n * sh.length
  | _, 0 => by simp [tcells]
  | i, n + 1 => by simp [tcells, trow_length, tcells_length sh f (i + 1) n, Nat.add_mul]; omega
theorem tcells_drop (sh : List Sh) (f : Nat → Nat → AV) : ∀ (k i n : Nat), k < n → (tcells sh f i n).drop (k * sh.length) = trow (f (i + k)) sh 0 ++ tcells sh f (i + k + 1) (n - k - 1)
  | 0, i, n + 1, _ => by simp [tcells]
  | k + 1, i, n + 1, h => by
    have hl : (k + 1) * sh.length = (trow (f i) sh 0).length + k * sh.length := by rw [trow_length, Nat.add_mul]; omega
    simp only [tcells]
    rw [hl, List.drop_append, List.drop_eq_nil_of_le (by omega), List.nil_append, Nat.add_sub_cancel_left, tcells_drop sh f k (i + 1) n (by omega)]
    rw [show i + 1 + k = i + (k + 1) by omega, show n - k - 1 = n + 1 - (k + 1) - 1 by omega]

section
variable {P : Program} {E : Env} {w0 w w' : World} {φ φ' : Phi} {g : Heap} {n : Nat}

theorem VR_tptr {id i j es : Nat} {v : Value} : VR φ (.tptr id i j es) v ↔ VR φ (.ptr id (i * es + j)) v := by simp only [VR]
theorem VR_tsl {id off len cap es : Nat} {hid : Bool} {v : Value} : VR φ (.tsl id off len cap es hid) v ↔ VR φ (.slice id (off * es) len cap es hid) v := by simp only [VR]

/-- An array seen as its cells. -/
def untype : AObj → AObj
  | .tarr sh n f rw => .cells (tcells sh f 0 n) rw
  | o => o
def untyped (g : Heap) : Heap := fun id => (g id).map untype
theorem untype_rw (o : AObj) : (untype o).rw = o.rw := by cases o <;> rfl
theorem untype_obj (φ : Phi) (w : World) (l : Loc) (o : AObj) : ObjR φ w l (untype o) ↔ ObjR φ w l o := by cases o <;> exact Iff.rfl
theorem Rel.untyped (hR : Rel w0 φ g n w) : Rel w0 φ (untyped g) n w := by
  have pull : ∀ id o, Am.untyped g id = some o → ∃ o', g id = some o' ∧ o = untype o' := by
    intro id o h
    unfold Am.untyped at h
    rw [Option.map_eq_some_iff] at h
    obtain ⟨o', h1, h2⟩ := h
    exact ⟨o', h1, h2.symm⟩
  refine ⟨?_, ?_, ?_, hR.fresh, ?_, hR.below⟩
  · intro id o l h1 h2
    obtain ⟨o', a, rfl⟩ := pull _ _ h1
    exact (untype_obj _ _ _ _).2 (hR.objs id o' l a h2)
  · intro id o l h1 h2
    obtain ⟨o', a, rfl⟩ := pull _ _ h1
    rw [untype_rw]
    exact hR.own id o' l a h2
  · intro i j oi oj li lj hij h1 h2 h3 h4 h5
    obtain ⟨oi', a, rfl⟩ := pull _ _ h1
    obtain ⟨oj', b, rfl⟩ := pull _ _ h2
    rw [untype_rw] at h5
    exact hR.inj i j oi' oj' li lj hij a b h3 h4 h5
  · intro id hi
    show (g id).map untype = none
    rw [hR.gfresh id hi]; rfl

theorem tcells_cut {sh : List Sh} {f : Nat → Nat → AV} {n i j k : Nat} {r : List AV} (hi : i < n) (h : cut (trow (f i) sh 0) j k = some r) : cut (tcells sh f 0 n) (i * sh.length + j) k = some r := by
  obtain ⟨h1, h2⟩ := cut_some h
  have hd : (tcells sh f 0 n).drop (i * sh.length + j) = (trow (f i) sh 0 ++ tcells sh f (i + 1) (n - i - 1)).drop j := by
    rw [← List.drop_drop, tcells_drop sh f i 0 n hi]
    simp
  have hjk : k ≤ ((trow (f i) sh 0).drop j).length := by rw [h1] at h2; rw [List.length_take] at h2; omega
  have he : ((tcells sh f 0 n).drop (i * sh.length + j)).take k = r := by
    rw [hd, h1, List.drop_append]
    rw [List.take_append_of_le_length hjk]
  unfold cut
  simp only [he, h2]
  have : Nat.beq k k = true := Nat.beq_refl k
  rw [this]; rfl

theorem tcells_at {sh : List Sh} {f : Nat → Nat → AV} {n i j : Nat} {v : AV} (hi : i < n) (h : (trow (f i) sh 0)[j]? = some v) : (tcells sh f 0 n)[i * sh.length + j]? = some v := by
  have hj := (List.getElem?_eq_some_iff.1 h).1
  rw [← List.getElem?_drop, tcells_drop sh f i 0 n hi, List.getElem?_append_left (by simpa using hj)]
  simpa using h

theorem afield_any {s : TypeId} {f q o : Nat} (h : afieldAddr E s (.ptr 0 0) f = some (.ptr q o)) (id k : Nat) : afieldAddr E s (.ptr id k) f = some (.ptr id (k + o)) := by
  unfold afieldAddr at h ⊢
  cases hs : E.ty.get s with
  | none => simp only [hs] at h; cases h
  | some ti =>
    simp only [hs] at h ⊢
    cases hk : ti.k with
    | strct fs =>
      simp only [hk] at h ⊢
      cases hf : fs[f]? with
      | none => simp only [hf] at h; cases h
      | some p =>
        obtain ⟨t, o', b⟩ := p
        simp only [hf] at h ⊢
        cases ht : E.ty.get t with
        | none => simp only [ht] at h; cases h
        | some tf =>
          simp only [ht] at h ⊢
          cases hz : Nat.beq tf.size 0 with
          | true => rw [hz] at h; cases h
          | false =>
            rw [hz] at h
            simp only [cond_false, Option.some.injEq, AV.ptr.injEq] at h ⊢
            exact ⟨trivial, by omega⟩
    | _ => simp only [hk] at h; cases h

theorem tnat_bound {v : Option AV} {d m y : Nat} {o : List Bool} (h : tnat v d = some (m, o)) (ho : (o.all fun b => b) = true) (hy : m ≤ y) : abound v d y = some m := by
  unfold tnat at h
  split at h
  · simp only [Option.some.injEq, Prod.mk.injEq] at h
    obtain ⟨rfl, rfl⟩ := h
    rfl
  · rename_i k i
    simp only [Option.some.injEq, Prod.mk.injEq] at h
    obtain ⟨rfl, rfl⟩ := h
    simp only [List.all_cons, List.all_nil, Bool.and_true, decide_eq_true_eq] at ho
    have h2 : i ≤ (y : Int) := by omega
    simp only [abound, aboundv, ho, h2, decide_true, Bool.and_self, cond_true]
  · cases h

theorem run_tread (hE : EnvOK P E) (hR : Rel w0 φ g n w) {ρa : Operand → AV} {ρ : Operand → Value} (hρ : ∀ x, VR φ (ρa x) (ρ x)) {o : Oper} {r : AV} {obl : List Bool} (h : tread E ρa g o.op = some (r, obl)) (hobl : (obl.all fun b => b) = true) :
    ∃ z, (execOp ρ o).run P w = .ok (.value z) w ∧ VR φ r z := by
  unfold tread at h
  split at h <;> rename_i hop
  · rename_i t a
    have ha := hρ a
    split at h
    · rename_i id i j es hx
      rw [hx, VR_tptr] at ha
      unfold tload at h
      split at h
      · rename_i sh m f rw_ ti hg ht
        cases hes : Nat.beq es sh.length with
        | false => rw [hes] at h; cases h
        | true =>
          rw [hes] at h
          have hes := Nat.eq_of_beq_eq_true hes
          subst hes
          simp only [cond_true] at h
          split at h
          · rename_i v hv
            simp only [Option.some.injEq, Prod.mk.injEq] at h
            obtain ⟨rfl, rfl⟩ := h
            simp only [List.all_cons, List.all_nil, Bool.and_true] at hobl
            have hi : i < m := by simpa [Nat.blt_eq] using hobl
            have hl : aload E (Am.untyped g) t (.ptr id (i * sh.length + j)) = some v := by
              have hc : acell (Am.untyped g) id = some (tcells sh f 0 m) := by simp [acell, Am.untyped, hg, untype]
              simp only [aload, ht, hc]
              cases hag : ti.k.isAgg with
              | true =>
                rw [hag] at hv
                simp only at hv
                split at hv
                · rename_i rr hr
                  simp only [cond_true, tcells_cut hi hr]
                  exact hv
                · cases hv
              | false =>
                rw [hag] at hv
                simp only [cond_false]
                exact tcells_at hi hv
            obtain ⟨z, h1, h2⟩ := run_load hE hR.untyped hl ha
            exact ⟨z, by simp only [execOp, hop, Sem.run_bind, h1, Result.andThen_ok, Sem.run_pure], h2⟩
          · cases h
      · cases h
    · cases h
  · rename_i s x f
    have ha := hρ x
    split at h
    · rename_i id i j es hx
      rw [hx, VR_tptr] at ha
      unfold tfield at h
      split at h
      · rename_i q of hf
        simp only [Option.some.injEq, Prod.mk.injEq] at h
        obtain ⟨rfl, rfl⟩ := h
        obtain ⟨z, h1, h2⟩ := run_fieldAddr hE (afield_any hf id (i * es + j)) ha w
        refine ⟨z, by simp only [execOp, hop, Sem.run_bind, h1, Result.andThen_ok, Sem.run_pure], ?_⟩
        rw [VR_tptr, ← Nat.add_assoc]; exact h2
      · cases h
    · cases h
  · rename_i t x ix
    have ha := hρ x
    split at h
    · rename_i id off len cap es hid hx
      rw [hx, VR_tsl] at ha
      unfold tindexAddr at h
      split at h
      · rename_i ti k m ht hix
        split at h
        · rename_i e hk
          split at h
          · rename_i te he
            cases hes : Nat.beq te.size es with
            | false => rw [hes] at h; cases h
            | true =>
              rw [hes] at h
              simp only [cond_true, Option.some.injEq, Prod.mk.injEq] at h
              obtain ⟨rfl, rfl⟩ := h
              simp only [List.all_cons, List.all_nil, Bool.and_true, Bool.and_eq_true] at hobl
              have hp : aindexAddr E t (.slice id (off * es) len cap es hid) (ρa ix) = some (.ptr id (off * es + m.toNat * es)) := by
                simp only [aindexAddr, ht, hix, hk, he, hes, hobl.1, hobl.2, Bool.and_self, cond_true]
              obtain ⟨z, h1, h2⟩ := run_indexAddr hE hp ha (hρ ix) w
              refine ⟨z, by simp only [execOp, hop, Sem.run_bind, h1, Result.andThen_ok, Sem.run_pure], ?_⟩
              rw [VR_tptr, Nat.add_mul, Nat.add_zero]; exact h2
          · cases h
        · cases h
      · cases h
    · cases h
  · rename_i t x lo hi mx
    have ha := hρ x
    split at h
    · rename_i id off len cap es hid hx
      rw [hx, VR_tsl] at ha
      unfold tslice at h
      split at h
      · cases h
      · rename_i ti ht
        split at h
        · rename_i e hk
          split at h
          · cases h
          · rename_i te he
            cases hes : Nat.beq te.size es with
            | false => rw [hes] at h; cases h
            | true =>
              rw [hes] at h
              simp only [cond_true] at h
              split at h
              · rename_i l o1 hh o2 hlo hhi
                split at h
                · rename_i hmx
                  simp only [Option.some.injEq, Prod.mk.injEq] at h
                  obtain ⟨rfl, rfl⟩ := h
                  simp only [List.all_cons, List.all_append, Bool.and_eq_true] at hobl
                  obtain ⟨b1, b2, b3, b4⟩ := hobl
                  have c1 := Nat.le_of_ble_eq_true b1
                  have c2 := Nat.le_of_ble_eq_true b2
                  have hp : aslice E g t (.slice id (off * es) len cap es hid) (lo.map ρa) (hi.map ρa) (mx.map ρa) = some (.slice id (off * es + l * es) (hh - l) (cap - l) es hid) := by
                    simp only [aslice, ht, hk, he, hes, cond_true, hmx, abounds, tnat_bound hhi b4 c2, tnat_bound hlo b3 c1]
                  obtain ⟨z, h1, h2⟩ := run_slice hE hR hp ha (optR_map hρ lo) (optR_map hρ hi) (optR_map hρ mx)
                  refine ⟨z, by simp only [execOp, hop, Sem.run_bind, h1, Result.andThen_ok, Sem.run_pure], ?_⟩
                  rw [VR_tsl, Nat.add_mul]; exact h2
                · rename_i mv hmx
                  split at h
                  · rename_i hv m o3 hhiv hm3
                    simp only [Option.some.injEq, Prod.mk.injEq] at h
                    obtain ⟨rfl, rfl⟩ := h
                    simp only [List.all_cons, List.all_append, Bool.and_eq_true] at hobl
                    obtain ⟨b1, b2, b5, b3, b4, b6⟩ := hobl
                    have c1 := Nat.le_of_ble_eq_true b1
                    have c2 := Nat.le_of_ble_eq_true b2
                    have c3 := Nat.le_of_ble_eq_true b5
                    have e1 := tnat_bound hm3 b6 c3
                    simp only [abound] at e1
                    have e2 := tnat_bound hhi b4 c2
                    rw [hhiv] at e2
                    simp only [abound] at e2
                    have hp : aslice E g t (.slice id (off * es) len cap es hid) (lo.map ρa) (hi.map ρa) (mx.map ρa) = some (.slice id (off * es + l * es) (hh - l) (m - l) es false) := by
                      simp only [aslice, ht, hk, he, hes, cond_true, hmx, hhiv, abounds, e1, e2, tnat_bound hlo b3 c1]
                    obtain ⟨z, h1, h2⟩ := run_slice hE hR hp ha (optR_map hρ lo) (optR_map hρ hi) (optR_map hρ mx)
                    refine ⟨z, by simp only [execOp, hop, Sem.run_bind, h1, Result.andThen_ok, Sem.run_pure], ?_⟩
                    rw [VR_tsl, Nat.add_mul]; exact h2
                  · cases h
              · cases h
        · cases h
    · cases h
  · rename_i x
    have ha := hρ x
    split at h
    · rename_i id i j es hx
      simp only [Option.some.injEq, Prod.mk.injEq] at h
      obtain ⟨rfl, rfl⟩ := h
      rw [hx] at ha
      have ha' := ha
      simp only [VR] at ha
      obtain ⟨l, h1, h2⟩ := ha
      exact ⟨ρ x, by simp only [execOp, hop, h2, Sem.run_pure], ha'⟩
    · cases h
  · rename_i c
    split at h
    · rename_i x t hc hargs hty
      have ha := hρ x
      split at h
      · rename_i id off len cap es hid hx
        rw [hx, VR_tsl] at ha
        unfold tlen at h
        split at h
        · cases h
        · rename_i ti ht
          split at h
          · rename_i e hk
            simp only [Option.some.injEq, Prod.mk.injEq] at h
            obtain ⟨rfl, rfl⟩ := h
            have hp : alen E g t (.slice id (off * es) len cap es hid) = some (.int .i64 len) := by
              simp only [alen, ht, hk]
            obtain ⟨z, h1, h2⟩ := run_len hE hR (ty := o.type) (ts := []) (us := []) hp ha
            refine ⟨z, ?_, h2⟩
            simp only [execOp, hop, resolve, hc, Sem.run_bind, Sem.run_pure, Result.andThen_ok, invoke, builtin, map_cons_array ρ hargs, List.map_nil]
            rw [cons_array hty, h1]
            simp only [Result.andThen_ok, Sem.run_pure]
          · cases h
      · cases h
    · cases h
  · cases h

theorem run_aread (hE : EnvOK P E) (hR : Rel w0 φ g n w) {ρa : Operand → AV} {ρ : Operand → Value} (hρ : ∀ x, VR φ (ρa x) (ρ x)) {o : Oper} {r : AV} (h : aread E ρa g o.op = some r) :
    ∃ z, (execOp ρ o).run P w = .ok (.value z) w ∧ VR φ r z := by
  unfold aread at h
  split at h
  · rename_i v obl ht
    cases ho : (obl.all fun b => b) with
    | false => rw [ho] at h; cases h
    | true =>
      rw [ho] at h
      simp only [cond_true, Option.some.injEq] at h; subst h
      exact run_tread hE hR hρ ht ho
  · exact run_aread0 hE hR hρ h
end
end Go.Proofs.Ytpnkedgppbcnhaa.Am
