/- The abstract machine: slices, fields, elements, literals: whatever only reckons. -/
import Derived.Test.YtmjmhpbncfjnpaaBmG
set_option linter.unusedSimpArgs false
set_option linter.unusedVariables false
namespace Go.Proofs.Ytmjmhpbncfjnpaa.Bm
open Go.RowKit
section
variable {P : Program} {E : Env} {φ : Phi}
theorem addr_add (c o n : Nat) : (⟨c, o, none⟩ : Addr).add n = ⟨c, o + n, none⟩ := by
 unfold Addr.add; split <;> simp_all
def optR (φ : Phi) (x : Option AV) (v : Option Value) : Prop :=
 match x, v with
 | none, none => True
 | some x, some v => VR φ x v
 | _, _ => False
theorem optR_map {ρa : Operand → AV} {ρ : Operand → Value} (hρ : ∀ x, VR φ (ρa x) (ρ x)) (o : Option Operand) : optR φ (o.map ρa) (o.map ρ) := by
 cases o with
 | none => exact trivial
 | some x => exact hρ x
theorem aboundv_some {v : AV} {y i : Nat} (h : aboundv v y = some i) : ∃ k n, v = .int k n ∧ 0 ≤ n ∧ n ≤ (y : Int) ∧ i = n.toNat := by
 unfold aboundv at h
 split at h
 ·rename_i k n
  cases hb : (decide (0 ≤ n) && decide (n ≤ (y : Int))) with
  | false => rw [hb] at h; cases h
  | true =>
    rw [hb] at h
    simp only [cond_true, Option.some.injEq] at h
    simp only [Bool.and_eq_true, decide_eq_true_eq] at hb
    exact ⟨k, n, rfl, hb.1, hb.2, h.symm⟩
 ·cases h
theorem run_sliceBound {v : AV} {u : Value} {y i : Nat} (h : aboundv v y = some i) (hv : VR φ v u) (yy : Nat) (hy : y ≤ yy) (c : BoundsCode) (w : World) : (Instr.sliceBound u yy c).run P w = .ok i w := by
 obtain ⟨k, n, rfl, h1, h2, rfl⟩ := aboundv_some h
 simp only [VR] at hv; subst hv
 have h3 : n ≤ (yy : Int) := by omega
 simp only [Instr.sliceBound, asIntOf, Sem.run_bind, Sem.run_pure, Result.andThen_ok, h1, h3, and_self, if_true]
theorem aboundv_le {v : AV} {y i : Nat} (h : aboundv v y = some i) : i ≤ y := by
 obtain ⟨k, n, rfl, h1, h2, rfl⟩ := aboundv_some h
 omega
theorem run_sliceBounds {lo hi mx : Option AV} {lo' hi' mx' : Option Value} {len cap l h m : Nat} (hb : abounds len cap lo hi mx = some (l, h, m)) (hl : optR φ lo lo') (hh : optR φ hi hi') (hm : optR φ mx mx')
  (hlc : len ≤ cap) (ccap : Nat) (hcc : cap ≤ ccap) (isSlice : Bool) (w : World) :
  ∃ m', (Instr.sliceBounds isSlice len ccap lo' hi' mx').run P w = .ok (l, h, m') w ∧ l ≤ h ∧ h ≤ m ∧ m ≤ cap ∧ m ≤ m' ∧ m' ≤ ccap ∧ (mx.isSome = true → m' = m) ∧ (mx = none → m' = ccap ∧ m = cap) := by
 cases mx with
 | none =>
   cases mx' with
   | some _ => exact hm.elim
   | none =>
     simp only [abounds] at hb
     cases hH : abound hi len cap with
     | none => rw [hH] at hb; cases hb
     | some h0 =>
       simp only [hH] at hb
       cases hL : abound lo 0 h0 with
       | none => rw [hL] at hb; cases hb
       | some l0 =>
         simp only [hL, Option.some.injEq, Prod.mk.injEq] at hb
         obtain ⟨rfl, rfl, rfl⟩ := hb
         have hc : h0 ≤ cap := by
          cases hi with
          | none => simp only [abound, Option.some.injEq] at hH; omega
          | some y => exact aboundv_le hH
         have hl0 : l0 ≤ h0 := by
          cases lo with
          | none => simp only [abound, Option.some.injEq] at hL; omega
          | some y => exact aboundv_le hL
         refine ⟨ccap, ?_, hl0, hc, Nat.le_refl _, hcc, Nat.le_refl _, (fun h => by cases h), fun _ => ⟨rfl, rfl⟩⟩
         cases hi with
         | none =>
           cases hi' with
           | some _ => exact hh.elim
           | none =>
             simp only [abound, Option.some.injEq] at hH; subst hH
             cases lo with
             | none =>
               cases lo' with
               | some _ => exact hl.elim
               | none =>
                 simp only [abound, Option.some.injEq] at hL; subst hL
                 simp only [Instr.sliceBounds, Sem.run_bind, Result.andThen_ok, Sem.run_pure]
             | some x =>
               cases lo' with
               | none => exact hl.elim
               | some u => simp only [Instr.sliceBounds, Sem.run_bind, Result.andThen_ok, Sem.run_pure, run_sliceBound hL hl _ (Nat.le_refl _)]
         | some y =>
           cases hi' with
           | none => exact hh.elim
           | some v =>
             cases lo with
             | none =>
               cases lo' with
               | some _ => exact hl.elim
               | none =>
                 simp only [abound, Option.some.injEq] at hL; subst hL
                 simp only [Instr.sliceBounds, Sem.run_bind, Result.andThen_ok, Sem.run_pure, run_sliceBound hH hh _ hcc]
             | some x =>
               cases lo' with
               | none => exact hl.elim
               | some u => simp only [Instr.sliceBounds, Sem.run_bind, Result.andThen_ok, Sem.run_pure, run_sliceBound hH hh _ hcc, run_sliceBound hL hl _ (Nat.le_refl _)]
 | some mv =>
   cases mx' with
   | none => exact hm.elim
   | some mu =>
     simp only [abounds] at hb
     cases hi with
     | none => cases hb
     | some hv =>
       cases hi' with
       | none => exact hh.elim
       | some hu =>
         simp only at hb
         cases hM : aboundv mv cap with
         | none => rw [hM] at hb; cases hb
         | some m0 =>
           simp only [hM] at hb
           cases hH : aboundv hv m0 with
           | none => rw [hH] at hb; cases hb
           | some h0 =>
             simp only [hH] at hb
             cases hL : abound lo 0 h0 with
             | none => rw [hL] at hb; cases hb
             | some l0 =>
               simp only [hL, Option.some.injEq, Prod.mk.injEq] at hb
               obtain ⟨rfl, rfl, rfl⟩ := hb
               have h1 := aboundv_le hM
               have h2 := aboundv_le hH
               have hl0 : l0 ≤ h0 := by
                cases lo with
                | none => simp only [abound, Option.some.injEq] at hL; omega
                | some y => exact aboundv_le hL
               refine ⟨m0, ?_, hl0, h2, h1, Nat.le_refl _, by omega, (fun _ => rfl), (fun h => by cases h)⟩
               cases lo with
               | none =>
                 cases lo' with
                 | some _ => exact hl.elim
                 | none =>
                   simp only [abound, Option.some.injEq] at hL; subst hL
                   simp only [Instr.sliceBounds, Sem.run_bind, Result.andThen_ok, Sem.run_pure, run_sliceBound hM hm _ hcc, run_sliceBound hH hh _ (Nat.le_refl _)]
               | some x =>
                 cases lo' with
                 | none => exact hl.elim
                 | some u => simp only [Instr.sliceBounds, Sem.run_bind, Result.andThen_ok, Sem.run_pure, run_sliceBound hM hm _ hcc, run_sliceBound hH hh _ (Nat.le_refl _), run_sliceBound hL hl _ (Nat.le_refl _)]
theorem run_slice (hE : EnvOK P E) {w0 : World} {g : Heap} {n : Nat} {w : World} (hR : Rel w0 φ g n w) {t : TypeId} {x r : AV} {u : Value} {lo hi mx : Option AV} {lo' hi' mx' : Option Value} (h : aslice E g t x lo hi mx = some r) (hu : VR φ x u)
  (hl : optR φ lo lo') (hh : optR φ hi hi') (hm : optR φ mx mx') : ∃ z, (Instr.sliceAt t u lo' hi' mx').run P w = .ok z w ∧ VR φ r z := by
 unfold aslice at h
 cases ht : E.ty.get t with
 | none => rw [ht] at h; cases h
 | some ti =>
   simp only [ht] at h
   have hT := hE.at_ ht
   obtain ⟨d, hd, hk⟩ := hT.und_
   split at h
   ·-- a text
    rename_i s hkk
    rw [hkk] at hk
    have := mkK_string hk; subst this
    simp only [VR] at hu
    obtain ⟨b, rfl, rfl⟩ := hu
    cases mx with
    | some _ => simp at h
    | none =>
      cases mx' with
      | some _ => exact hm.elim
      | none =>
        simp only at h
        split at h
        ·rename_i l hh' m hb
         simp only [Option.some.injEq] at h
         subst h
         obtain ⟨m', hr, h1, h2, _⟩ := run_sliceBounds (P := P) hb hl hh hm (Nat.le_refl _) _ (Nat.le_refl _) false w
         refine ⟨.string (b.extract l hh'), ?_, by simp only [VR]; exact ⟨_, rfl, bytesOf_extract _ _ _⟩⟩
         rw [bytesOf_length] at hr
         simp only [Instr.sliceAt, Instr.slice, Sem.run_bind, hd, Result.andThen_ok, Option.isSome, Bool.false_eq_true, if_false, hr, Sem.run_pure]
        ·cases h
   ·-- a slice
    rename_i e id off len cap es hid hkk
    rw [hkk] at hk
    have := mkK_slice hk; subst this
    simp only [VR] at hu
    obtain ⟨l, ad, cc, h1, rfl, h2, h3, h4, h5, h6⟩ := hu
    cases he : E.ty.get e with
    | none => rw [he] at h; cases h
    | some te =>
      simp only [he] at h
      have hTe := hE.at_ he
      cases hes : Nat.beq te.size es with
      | false => rw [hes] at h; cases h
      | true =>
        rw [hes] at h
        simp only [cond_true] at h
        have hes' := Nat.eq_of_beq_eq_true hes
        split at h
        ·rename_i l0 h0 m0 hb
         simp only [Option.some.injEq] at h
         obtain ⟨m', hr, b1, b2, b3, b4, b5, b6, b7⟩ := run_sliceBounds (P := P) hb hl hh hm h2 cc h3 true w
         refine ⟨.slice (some (if m' = l0 then ad else ad.add (l0 * te.size))) (h0 - l0) (m' - l0), ?_, ?_⟩
         ·simp only [Instr.sliceAt, Instr.slice, Sem.run_bind, hd, Result.andThen_ok, hr, hTe.sizeOf_, Sem.run_pure]
          by_cases hml : m' = l0 <;> simp [hml]
         ·subst h
          simp only [VR]
          refine ⟨l, _, _, h1, rfl, by omega, by omega, ?_, ?_, ?_⟩
          ·cases mx with
           | some _ => intro _; rw [b6 rfl]
           | none => intro hh2; simp only at hh2; rw [(b7 rfl).1, h4 hh2, (b7 rfl).2]
          ·intro hpos
           have hne : m' ≠ l0 := by omega
           rw [if_neg hne, h5 (by omega), addr_add, hes', Nat.add_assoc]
          ·intro hpos
           have := h6 (by omega)
           have h7 : (m' - l0) * es + l0 * es = m' * es := by rw [← Nat.add_mul]; congr 1; omega
           have h8 : m' * es ≤ cc * es := Nat.mul_le_mul_right _ b5
           omega
        ·cases h
   ·-- nil
    rename_i e hkk
    rw [hkk] at hk
    have := mkK_slice hk; subst this
    simp only [VR] at hu; subst hu
    split at h
    ·rename_i te r0 he hb
     obtain ⟨l0, h0, m0⟩ := r0
     simp only [Option.some.injEq] at h; subst h
     have hTe := hE.at_ he
     obtain ⟨m', hr, b1, b2, b3, b4, b5, _⟩ := run_sliceBounds (P := P) hb hl hh hm (Nat.le_refl _) 0 (Nat.le_refl _) true w
     refine ⟨.slice none 0 0, ?_, by simp only [VR]⟩
     have e1 : l0 = 0 := by omega
     have e2 : h0 = 0 := by omega
     have e3 : m' = 0 := by omega
     subst e1; subst e2; subst e3
     simp only [Instr.sliceAt, Instr.slice, Sem.run_bind, hd, Result.andThen_ok, hr, hTe.sizeOf_, Sem.run_pure, if_true, Nat.sub_zero]
    ·cases h
   ·-- an array in memory
    rename_i n e id off hkk
    rw [hkk] at hk
    have := mkK_arr hk; subst this
    simp only [VR] at hu
    obtain ⟨l, h1, rfl⟩ := hu
    cases he : E.ty.get e with
    | none => rw [he] at h; cases h
    | some te =>
      simp only [he] at h
      have hTe := hE.at_ he
      split at h
      ·rename_i l0 h0 m0 vs hb hcell
       cases hbl : Nat.ble (off + n * te.size) vs.length with
       | false => rw [hbl] at h; cases h
       | true =>
       rw [hbl] at h
       simp only [cond_true, Option.some.injEq] at h
       have hroom : vs.length ≤ l.room := by
        unfold acell at hcell
        split at hcell
        ·rename_i vs' rw' hg
         injection hcell with hcell; subst hcell
         exact (hR.objs id _ l hg h1).2.1
        ·cases hcell
       obtain ⟨m', hr, b1, b2, b3, b4, b5, b6, b7⟩ := run_sliceBounds (P := P) hb hl hh hm (Nat.le_refl n) n (Nat.le_refl _) false w
       have e1 : m' = m0 := by
        cases mx with
        | some _ => exact b6 rfl
        | none => rw [(b7 rfl).1, (b7 rfl).2]
       subst e1
       refine ⟨.slice (some (if m' = l0 then ⟨l.c, l.o + off, none⟩ else (⟨l.c, l.o + off, none⟩ : Addr).add (l0 * te.size))) (h0 - l0) (m' - l0), ?_, ?_⟩
       ·simp only [Instr.sliceAt, Instr.sureAddr, Sem.run_bind, hd, Result.andThen_ok, hr, hTe.sizeOf_, Sem.run_pure]
       ·subst h
        simp only [VR]
        refine ⟨l, _, _, h1, rfl, by omega, by omega, (fun _ => rfl), ?_, ?_⟩
        ·intro hpos
         have hne : m' ≠ l0 := by omega
         rw [if_neg hne, addr_add, Nat.add_assoc]
        ·intro _
         have h7 : (m' - l0) * te.size + l0 * te.size = m' * te.size := by rw [← Nat.add_mul]; congr 1; omega
         have h8 : m' * te.size ≤ n * te.size := Nat.mul_le_mul_right _ b3
         have h9 := Nat.le_of_ble_eq_true hbl
         omega
      ·cases h
   ·cases h
theorem optR_field {gs : Array Field} {f t o : Nat} {b : Bool} (h : (gs.toList.map fun f => (f.type, f.offset, decide (f.name = "_")))[f]? = some (t, o, b)) : ∃ fl, gs[f]? = some fl ∧ fl.type = t ∧ fl.offset = o := by
 rw [List.getElem?_map] at h
 cases hg : gs.toList[f]? with
 | none => rw [hg] at h; cases h
 | some fl =>
   rw [hg] at h
   simp only [Option.map_some, Option.some.injEq, Prod.mk.injEq] at h
   exact ⟨fl, by rw [← Array.getElem?_toList]; exact hg, h.1, h.2.1⟩
theorem run_fieldAddr (hE : EnvOK P E) {s : TypeId} {x r : AV} {u : Value} {f : Nat} (h : afieldAddr E s x f = some r) (hu : VR φ x u) (w : World) : ∃ z, (Instr.fieldAt s u f).run P w = .ok z w ∧ VR φ r z := by
 unfold afieldAddr at h
 split at h
 ·rename_i ti id off hs
  have hT := hE.at_ hs
  obtain ⟨d, hd, hk⟩ := hT.und_
  split at h
  ·rename_i fs hkk
   rw [hkk] at hk
   obtain ⟨gs, this, hfs⟩ := mkK_strct hk; subst this
   split at h
   ·rename_i t o b hf
    rw [hfs] at hf
    obtain ⟨fl, hg, rfl, rfl⟩ := optR_field hf
    split at h
    ·rename_i tf htf
     have hTf := hE.at_ htf
     cases hz : Nat.beq tf.size 0 with
     | true => rw [hz] at h; cases h
     | false =>
       rw [hz] at h
       simp only [cond_false, Option.some.injEq] at h
       have hz' : tf.size ≠ 0 := fun e => by rw [e] at hz; cases hz
       simp only [VR] at hu
       obtain ⟨l, h1, rfl⟩ := hu
       subst h
       refine ⟨.pointer (some ⟨l.c, l.o + (off + fl.offset), none⟩), ?_, by simp only [VR]; exact ⟨l, h1, rfl⟩⟩
       simp only [Instr.fieldAt, Sem.run_bind, hd, Result.andThen_ok, hg, Instr.sureAddr, Sem.run_pure, fieldPlace, hTf.sizeOf_, hz', if_false, addr_add, Nat.add_assoc]
    ·cases h
   ·cases h
  ·cases h
 ·cases h
theorem run_field (hE : EnvOK P E) {s : TypeId} {x r : AV} {u : Value} {f : Nat} (h : afield E s x f = some r) (hu : VR φ x u) (w : World) : ∃ z, (Instr.field s u f).run P w = .ok z w ∧ VR φ r z := by
 unfold afield at h
 split at h
 ·rename_i ti cs hs
  have hT := hE.at_ hs
  obtain ⟨d, hd, hk⟩ := hT.und_
  split at h
  ·rename_i fs hkk
   rw [hkk] at hk
   obtain ⟨gs, this, hfs⟩ := mkK_strct hk; subst this
   split at h
   ·rename_i t o b hf
    rw [hfs] at hf
    obtain ⟨fl, hg, rfl, rfl⟩ := optR_field hf
    simp only [VR] at hu
    obtain ⟨l, rfl, hl⟩ := hu
    obtain ⟨z, hz, hz2⟩ := run_part hE hl h w
    exact ⟨z, by simp only [Instr.field, Sem.run_bind, hd, Result.andThen_ok, hg, asAgg, Sem.run_pure, hz], hz2⟩
   ·cases h
  ·cases h
 ·cases h
theorem run_indexAddr (hE : EnvOK P E) {t : TypeId} {x i r : AV} {u v : Value} (h : aindexAddr E t x i = some r) (hu : VR φ x u) (hv : VR φ i v) (w : World) : ∃ z, (Instr.indexAt t u v).run P w = .ok z w ∧ VR φ r z := by
 unfold aindexAddr at h
 split at h
 ·rename_i ti k n ht
  have hT := hE.at_ ht
  obtain ⟨d, hd, hk⟩ := hT.und_
  simp only [VR] at hv; subst hv
  split at h
  ·rename_i len e id off hkk
   rw [hkk] at hk
   have := mkK_arr hk; subst this
   split at h
   ·rename_i te he
    have hTe := hE.at_ he
    cases hb : (decide (0 ≤ n) && decide (n < (len : Int))) with
    | false => rw [hb] at h; cases h
    | true =>
      rw [hb] at h
      simp only [cond_true, Option.some.injEq] at h
      simp only [Bool.and_eq_true, decide_eq_true_eq] at hb
      simp only [VR] at hu
      obtain ⟨l, h1, rfl⟩ := hu
      subst h
      refine ⟨.pointer (some ⟨l.c, l.o + (off + n.toNat * te.size), none⟩), ?_, by simp only [VR]; exact ⟨l, h1, rfl⟩⟩
      simp only [Instr.indexAt, asIntOf, Sem.run_bind, Sem.run_pure, hd, Result.andThen_ok, Instr.sureAddr, hb.1, hb.2, and_self, if_true, hTe.sizeOf_, addr_add, Nat.add_assoc]
   ·cases h
  ·rename_i e id off len cap es hid hkk
   rw [hkk] at hk
   have := mkK_slice hk; subst this
   split at h
   ·rename_i te he
    have hTe := hE.at_ he
    cases hb : (Nat.beq te.size es && decide (0 ≤ n) && decide (n < (len : Int))) with
    | false => rw [hb] at h; cases h
    | true =>
      rw [hb] at h
      simp only [cond_true, Option.some.injEq] at h
      simp only [Bool.and_eq_true, decide_eq_true_eq] at hb
      obtain ⟨⟨hb0, hb1⟩, hb2⟩ := hb
      have hes := Nat.eq_of_beq_eq_true hb0
      simp only [VR] at hu
      obtain ⟨l, ad, cc, h1, rfl, h2, h3, h4, h5, h6⟩ := hu
      have had := h5 (by omega)
      subst had
      subst h
      refine ⟨.pointer (some ⟨l.c, l.o + (off + n.toNat * es), none⟩), ?_, by simp only [VR]; exact ⟨l, h1, rfl⟩⟩
      simp only [Instr.indexAt, asIntOf, Sem.run_bind, Sem.run_pure, hd, Result.andThen_ok, hb1, hb2, and_self, if_true, hTe.sizeOf_, addr_add, Nat.add_assoc, hes]
   ·cases h
  ·cases h
 ·cases h
theorem run_index (hE : EnvOK P E) {t : TypeId} {x i r : AV} {u v : Value} (h : aindex E t x i = some r) (hu : VR φ x u) (hv : VR φ i v) (w : World) : ∃ z, (Instr.index t u v).run P w = .ok z w ∧ VR φ r z := by
 unfold aindex at h
 split at h
 ·rename_i ti k n ht
  have hT := hE.at_ ht
  obtain ⟨d, hd, hk⟩ := hT.und_
  simp only [VR] at hv; subst hv
  split at h
  ·rename_i len e cs hkk
   rw [hkk] at hk
   have := mkK_arr hk; subst this
   split at h
   ·rename_i te he
    have hTe := hE.at_ he
    cases hb : (decide (0 ≤ n) && decide (n < (len : Int))) with
    | false => rw [hb] at h; cases h
    | true =>
      rw [hb] at h
      simp only [cond_true] at h
      simp only [Bool.and_eq_true, decide_eq_true_eq] at hb
      simp only [VR] at hu
      obtain ⟨l, rfl, hl⟩ := hu
      obtain ⟨z, hz, hz2⟩ := run_part hE hl h w
      exact ⟨z, by simp only [Instr.index, asIntOf, Sem.run_bind, Sem.run_pure, hd, Result.andThen_ok, hb.1, hb.2, and_self, if_true, hTe.sizeOf_, hz], hz2⟩
   ·cases h
  ·rename_i s hkk
   rw [hkk] at hk
   have := mkK_string hk; subst this
   cases hb : decide (0 ≤ n) with
   | false => rw [hb] at h; cases h
   | true =>
     rw [hb] at h
     simp only [cond_true] at h
     simp only [decide_eq_true_eq] at hb
     simp only [VR] at hu
     obtain ⟨b, rfl, rfl⟩ := hu
     rw [bytesOf_get] at h
     cases hg : b[n.toNat]? with
     | none => rw [hg] at h; cases h
     | some c =>
       rw [hg] at h
       simp only [Option.map_some, Option.some.injEq] at h
       subst h
       refine ⟨.int .u8 c.toNat, ?_, by simp only [VR]⟩
       simp only [Instr.index, asIntOf, Sem.run_bind, Sem.run_pure, hd, Result.andThen_ok, hb, if_true, hg]
  ·cases h
 ·cases h
theorem wr_spec {α : Type} : ∀ (vs : List α) (off : Nat) (ys r : List α), wr vs off ys = some r →
  r.length = vs.length ∧ (ys ≠ [] → off + ys.length ≤ vs.length) ∧ ∀ j : Nat, r[j]? = if off ≤ j ∧ j < off + ys.length then ys[j - off]? else vs[j]? := by
 intro vs
 induction vs with
 | nil =>
   intro off ys r h
   cases ys with
   | nil =>
     simp only [wr, Option.some.injEq] at h; subst h
     exact ⟨rfl, fun h => absurd rfl h, fun j => by simp⟩
   | cons y ys => simp [wr] at h
 | cons x vs ih =>
   intro off ys r h
   cases ys with
   | nil =>
     simp only [wr, Option.some.injEq] at h; subst h
     refine ⟨rfl, fun h => absurd rfl h, fun j => ?_⟩
     rw [if_neg (by simp)]
   | cons y ys =>
     cases off with
     | zero =>
       simp only [wr] at h
       cases hw : wr vs 0 ys with
       | none => rw [hw] at h; cases h
       | some r' =>
         rw [hw] at h
         simp only [Option.some.injEq] at h; subst h
         obtain ⟨h1, h2, h3⟩ := ih 0 ys r' hw
         refine ⟨by simp [h1], fun _ => ?_, fun j => ?_⟩
         ·cases ys with
          | nil => simp
          | cons z zs => have := h2 (by simp); simp at this ⊢; omega
         ·cases j with
          | zero => simp
          | succ j =>
            simp only [List.getElem?_cons_succ, h3 j, List.length_cons]
            by_cases hj : j < ys.length
            ·rw [if_pos ⟨by omega, by omega⟩, if_pos ⟨by omega, by omega⟩]; simp
            ·rw [if_neg (by omega), if_neg (by omega)]
     | succ off =>
       simp only [wr] at h
       cases hw : wr vs off (y :: ys) with
       | none => rw [hw] at h; cases h
       | some r' =>
         rw [hw] at h
         simp only [Option.some.injEq] at h; subst h
         obtain ⟨h1, h2, h3⟩ := ih off (y :: ys) r' hw
         refine ⟨by simp [h1], fun _ => ?_, fun j => ?_⟩
         ·have := h2 (by simp); simp at this ⊢; omega
         ·cases j with
          | zero => rw [if_neg (by omega)]; simp
          | succ j =>
            simp only [List.getElem?_cons_succ, h3 j]
            by_cases hj : off ≤ j ∧ j < off + (y :: ys).length
            ·rw [if_pos hj, if_pos ⟨by omega, by omega⟩]; congr 1; omega
            ·rw [if_neg hj, if_neg (by omega)]
theorem VRL.wr {vs ys r : List AV} {l m : List Value} {off : Nat} (hl : VRL φ vs l) (hm : VRL φ ys m) (h : wr vs off ys = some r) (l' : List Value) (hlen : l'.length = l.length)
  (hat : ∀ j : Nat, l'[j]? = if off ≤ j ∧ j < off + m.length then m[j - off]? else l[j]?) : VRL φ r l' := by
 obtain ⟨h1, h2, h3⟩ := wr_spec _ _ _ _ h
 refine VRL.of_at (by rw [hlen, hl.length, h1]) fun j x hj => ?_
 rw [h3] at hj
 rw [hat, hm.length]
 split at hj
 ·rename_i hc
  rw [if_pos hc]
  exact hm.at_ _ _ hj
 ·rename_i hc
  rw [if_neg hc]
  exact hl.at_ _ _ hj
theorem foldl_set (off : Nat) : ∀ (ys : List Value) (k : Nat) (arr : Array Value), off + k + ys.length ≤ arr.size →
  ((ys.zipIdx k).foldl (fun (cs : Array Value) (p : Value × Nat) => cs.setIfInBounds (off + p.2) p.1) arr).size = arr.size ∧
  ∀ j : Nat, ((ys.zipIdx k).foldl (fun (cs : Array Value) (p : Value × Nat) => cs.setIfInBounds (off + p.2) p.1) arr)[j]? = if off + k ≤ j ∧ j < off + k + ys.length then ys[j - (off + k)]? else arr[j]? := by
 intro ys
 induction ys with
 | nil => intro k arr h; refine ⟨rfl, fun j => ?_⟩; rw [if_neg (by simp)]; rfl
 | cons y ys ih =>
   intro k arr h
   simp only [List.length_cons] at h
   simp only [List.zipIdx_cons, List.foldl_cons]
   obtain ⟨h1, h2⟩ := ih (k + 1) (arr.setIfInBounds (off + k) y) (by simp; omega)
   refine ⟨by rw [h1]; simp, fun j => ?_⟩
   rw [h2]
   by_cases hj : j = off + k
   ·subst hj
    rw [if_neg (by omega), if_pos ⟨by omega, by simp⟩]
    simp [Array.getElem?_setIfInBounds, show off + k < arr.size by omega]
   ·by_cases hj2 : off + k ≤ j ∧ j < off + k + (y :: ys).length
    ·simp only [List.length_cons] at hj2
     rw [if_pos ⟨by omega, by omega⟩, if_pos ⟨by omega, by simp; omega⟩]
     rw [show j - (off + k) = (j - (off + (k + 1))) + 1 by omega]
     simp
    ·simp only [List.length_cons] at hj2
     rw [if_neg (by omega), if_neg (by simp; omega)]
     rw [Array.getElem?_setIfInBounds_ne (by omega)]
theorem run_fill {place : Nat → Option (Nat × Nat)} : ∀ {parts : List (Nat × AV)} {parts' : List (Nat × Value)} {cells r : List AV} {l : List Value},
  afill place cells parts = some r → VRL φ cells l → parts.map (·.1) = parts'.map (·.1) → VRL φ (parts.map (·.2)) (parts'.map (·.2)) → ∃ l', Instr.fill place l.toArray parts' = some l'.toArray ∧ VRL φ r l'
 | [], [], cells, r, l, h, hl, _, _ => by
   simp only [afill, Option.some.injEq] at h; subst h
   exact ⟨l, rfl, hl⟩
 | [], _ :: _, _, _, _, _, _, h, _ => by simp at h
 | _ :: _, [], _, _, _, _, _, h, _ => by simp at h
 | (i, v) :: parts, (i', u) :: parts', cells, r, l, h, hl, hi, hv => by
   simp only [List.map_cons, List.cons.injEq] at hi
   obtain ⟨rfl, hi⟩ := hi
   simp only [List.map_cons, VRL] at hv
   obtain ⟨u', us, hus, hvu, hvs⟩ := hv
   injection hus with e1 e2; subst e1; subst e2
   simp only [afill] at h
   cases hp : place i with
   | none => rw [hp] at h; cases h
   | some q =>
     obtain ⟨off, size⟩ := q
     simp only [hp] at h
     cases hb0 : (!v.isBad && (Nat.beq v.cells.length size && Nat.ble off cells.length)) with
     | false => rw [hb0] at h; cases h
     | true =>
       rw [hb0] at h
       simp only [cond_true] at h
       simp only [Bool.and_eq_true, Bool.not_eq_true'] at hb0
       obtain ⟨hbad, hb⟩ := hb0
       cases hw : wr cells off v.cells with
       | none => rw [hw] at h; cases h
       | some cells' =>
         rw [hw] at h
         have hc := hvu.cells hbad
         have hsz : u.cells.size = size := by rw [← Array.length_toList, hc.length]; exact Nat.eq_of_beq_eq_true hb.1
         have hfit : off + u.cells.toList.length ≤ l.length := by
          have h2 := (wr_spec _ _ _ _ hw).2.1
          have h3 := Nat.le_of_ble_eq_true hb.2
          rw [hl.length, hc.length]
          by_cases he : v.cells = []
          ·rw [he]; simpa using h3
          ·exact h2 he
         obtain ⟨f1, f2⟩ := foldl_set off u.cells.toList 0 l.toArray (by simpa using hfit)
         generalize hA : (u.cells.toList.zipIdx 0).foldl (fun (cs : Array Value) (p : Value × Nat) => cs.setIfInBounds (off + p.2) p.1) l.toArray = A at f1 f2
         have hl' : VRL φ cells' A.toList := by
          refine VRL.wr hl hc hw A.toList (by simpa using f1) fun j => ?_
          have := f2 j
          rw [Array.getElem?_toList, this]
          simp
         obtain ⟨l', hf, hr⟩ := run_fill (parts := parts) (parts' := parts') h hl' hi hvs
         refine ⟨l', ?_, hr⟩
         simp only [Instr.fill, hp]
         rw [if_neg (by simp only [hsz, ne_eq, not_true_eq_false, decide_false, Bool.false_or, decide_eq_true_eq]; rw [← hsz]; simp at hfit ⊢; omega)]
         rw [← Array.foldl_toList, Array.toList_zipIdx, hA]
         simpa using hf
end
end Go.Proofs.Ytmjmhpbncfjnpaa.Bm
