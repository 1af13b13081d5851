/- The abstract machine: whether two values are the same; numbers and texts. -/
import Derived.Test.YtmjmhpbncfjnpaaBmE
import Derived.Laws.StructEq
import Derived.ChangeKeysEq
set_option linter.unusedSimpArgs false
set_option linter.unusedVariables false
namespace Go.Proofs.Ytmjmhpbncfjnpaa.Bm
open Go.RowKit
section
variable {P : Program} {E : Env} {φ : Phi}
theorem cellsOf_of {t : TypeId} {ti : TI} (h : TyOK P t ti) : P.cellsOf t = ti.size := by
 obtain ⟨i, hi, hs, _⟩ := h.info
 simp [Program.cellsOf, hi, hs]
theorem fieldsOf_of {t : TypeId} {gs : Array Field} (h : P.underlying t = some (.struct gs)) : P.fieldsOf t = gs := by
 simp [Program.fieldsOf, h]
theorem run_eqFields (hE : EnvOK P E) {rec : TypeId → AV → AV → Option Bool} {D : Nat}
  (hrec : ∀ t x y b u v, rec t x y = some b → VR φ x u → VR φ y v → ∀ w, (Op.equalIn D t u v).run P w = .ok b w)
  {xs ys : List AV} {l m : List Value} (hl : VRL φ xs l) (hm : VRL φ ys m) : ∀ (gs : List Field) (b : Bool),
  aeqF E rec xs ys (gs.map fun f => (f.type, f.offset, decide (f.name = "_"))) = some b → ∀ w, (Op.eqFields D l.toArray m.toArray gs).run P w = .ok b w
 | [], b, h, w => by
   simp only [List.map_nil, aeqF, Option.some.injEq] at h
   subst h
   simp [Op.eqFields, Sem.run_pure]
 | f :: gs, b, h, w => by
   simp only [List.map_cons, aeqF] at h
   by_cases hn : f.name = "_"
   ·simp only [hn, decide_true, cond_true] at h
    simp only [Op.eqFields, hn, ne_eq, not_true_eq_false, if_false]
    exact run_eqFields hE hrec hl hm gs b h w
   ·simp only [hn, decide_false, cond_false] at h
    cases hx : apart E f.type xs f.offset with
    | none => rw [hx] at h; cases h
    | some x =>
      cases hy : apart E f.type ys f.offset with
      | none => rw [hx, hy] at h; cases h
      | some y =>
        simp only [hx, hy] at h
        obtain ⟨u, hu1, hu2⟩ := run_part hE hl hx w
        obtain ⟨v, hv1, hv2⟩ := run_part hE hm hy w
        cases hr : rec f.type x y with
        | none => rw [hr] at h; cases h
        | some r =>
          simp only [Op.eqFields, hn, ne_eq, not_false_eq_true, if_true, Sem.run_bind, hu1, hv1, Result.andThen_ok, hrec _ _ _ _ _ _ hr hu2 hv2 w]
          cases r with
          | true =>
            simp only [hr] at h
            simp only [Bool.not_true, Bool.false_eq_true, if_false]
            exact run_eqFields hE hrec hl hm gs b h w
          | false =>
            simp only [hr, Option.some.injEq] at h
            subst h
            simp [Sem.run_pure]
theorem run_eqItems (hE : EnvOK P E) {rec : TypeId → AV → AV → Option Bool} {D : Nat}
  (hrec : ∀ t x y b u v, rec t x y = some b → VR φ x u → VR φ y v → ∀ w, (Op.equalIn D t u v).run P w = .ok b w)
  {xs ys : List AV} {l m : List Value} (hl : VRL φ xs l) (hm : VRL φ ys m) (e : TypeId) (sz : Nat) : ∀ (n i : Nat) (b : Bool),
  aeqA E rec xs ys e sz n i = some b → ∀ w, (Op.eqItems D e sz l.toArray m.toArray (List.range' i n)).run P w = .ok b w
 | 0, i, b, h, w => by
   simp only [aeqA, Option.some.injEq] at h
   subst h
   simp [Op.eqItems, Sem.run_pure]
 | n + 1, i, b, h, w => by
   simp only [aeqA] at h
   cases hx : apart E e xs (i * sz) with
   | none => rw [hx] at h; cases h
   | some x =>
     cases hy : apart E e ys (i * sz) with
     | none => rw [hx, hy] at h; cases h
     | some y =>
       simp only [hx, hy] at h
       obtain ⟨u, hu1, hu2⟩ := run_part hE hl hx w
       obtain ⟨v, hv1, hv2⟩ := run_part hE hm hy w
       cases hr : rec e x y with
       | none => rw [hr] at h; cases h
       | some r =>
         simp only [List.range'_succ, Op.eqItems, Sem.run_bind, hu1, hv1, Result.andThen_ok, hrec _ _ _ _ _ _ hr hu2 hv2 w]
         cases r with
         | true =>
           simp only [hr] at h
           simp only [Bool.not_true, Bool.false_eq_true, if_false]
           exact run_eqItems hE hrec hl hm e sz n (i + 1) b h w
         | false =>
           simp only [hr, Option.some.injEq] at h
           subst h
           simp [Sem.run_pure]
theorem toList_bytesOf (a b : ByteArray) : (bytesOf a == bytesOf b) = (a.toList == b.toList) := by
 by_cases h : a = b
 ·subst h; simp
 ·have h' : bytesOf a ≠ bytesOf b := fun e => h (bytesOf_inj e)
  have h2 : a.toList ≠ b.toList := fun e => h' (by
   rw [ByteArray.toList_eq, ByteArray.toList_eq] at e
   unfold bytesOf; rw [e])
  rw [beq_eq_false_iff_ne.2 h', beq_eq_false_iff_ne.2 h2]
theorem beq_bytesOf (a b : ByteArray) : (bytesOf a == bytesOf b) = (a == b) := by
 rw [toList_bytesOf, ← beq_toListBytes]
theorem run_equalIn (hE : EnvOK P E) : ∀ (d D : Nat), d ≤ D → ∀ (t : TypeId) (x y : AV) (b : Bool) (u v : Value), aeq E d t x y = some b → VR φ x u → VR φ y v →
  ∀ w, (Op.equalIn D t u v).run P w = .ok b w := by
 intro d
 induction d with
 | zero => intro D _ t x y b u v h; simp [aeq] at h
 | succ d ih =>
   intro D hD t x y b u v h hu hv w
   obtain ⟨D, rfl⟩ : ∃ m, D = m + 1 := ⟨D - 1, by omega⟩
   have hrec := ih D (by omega)
   simp only [aeq] at h
   cases ht : E.ty.get t with
   | none => rw [ht] at h; cases h
   | some ti =>
     simp only [ht] at h
     have hT := hE.at_ ht
     obtain ⟨dsc, hd, hk⟩ := hT.und
     split at h
     all_goals (first | cases h | skip)
     all_goals (rename_i hkk; try rw [hkk] at hk)
     ·-- bool
      have := mkK_bool hk; subst this
      simp only [VR] at hu hv; subst hu; subst hv
      simp [Op.equalIn, Sem.run_bind, run_underlying hd, Sem.run_pure]
     ·-- int
      rename_i k0 k a l c
      have := mkK_int hk; subst this
      simp only [VR] at hu hv; subst hu; subst hv
      by_cases hkl : k = l
      ·subst hkl
       simp only [decide_true, cond_true, Option.some.injEq] at h
       subst h
       simp [Op.equalIn, Sem.run_bind, run_underlying hd, Sem.run_pure]
      ·simp [hkl] at h
     ·-- string
      have := mkK_string hk; subst this
      simp only [VR] at hu hv
      obtain ⟨a, rfl, rfl⟩ := hu
      obtain ⟨c, rfl, rfl⟩ := hv
      simp only [Op.equalIn, Sem.run_bind, run_underlying hd, Result.andThen_ok]
      rw [beq_bytesOf]
      rfl
     ·have := mkK_ptr hk; subst this
      simp only [VR] at hu hv; subst hu; subst hv
      simp [Op.equalIn, Sem.run_bind, run_underlying hd, Sem.run_pure]
     ·have := mkK_ptr hk; subst this
      simp only [VR] at hu hv; subst hu; obtain ⟨l, _, rfl⟩ := hv
      simp [Op.equalIn, Sem.run_bind, run_underlying hd, Sem.run_pure]
     ·have := mkK_ptr hk; subst this
      simp only [VR] at hu hv; subst hv; obtain ⟨l, _, rfl⟩ := hu
      simp [Op.equalIn, Sem.run_bind, run_underlying hd, Sem.run_pure]
     ·-- two pointers
      rename_i e a o1 c o2
      have := mkK_ptr hk; subst this
      simp only [VR] at hu hv
      obtain ⟨l, hl, rfl⟩ := hu
      obtain ⟨m, hm, rfl⟩ := hv
      cases he : E.ty.get e with
      | none => rw [he] at h; cases h
      | some te =>
        simp only [he] at h
        have hTe := hE.at_ he
        cases hz : Nat.beq te.size 0 with
        | true => rw [hz] at h; cases h
        | false =>
          have hz' : te.size ≠ 0 := fun e => by rw [e] at hz; cases hz
          rw [hz] at h
          simp only [cond_false] at h
          cases hac : Nat.beq a c with
          | false => rw [hac] at h; cases h
          | true =>
            rw [hac] at h
            simp only [cond_true, Option.some.injEq] at h
            have := Nat.eq_of_beq_eq_true hac; subst this
            rw [hl] at hm; injection hm with hm; subst hm
            subst h
            simp only [Op.equalIn, Sem.run_bind, run_underlying hd, Result.andThen_ok, hTe.sizeOf_]
            simp only [ne_eq, hz', not_false_eq_true, if_true, sameAddr, beq_self_eq_true, Sem.run_pure]
            congr 1
            rw [Bool.eq_iff_iff]
            simp only [beq_iff_eq, Addr.mk.injEq, true_and, and_true, Nat.add_left_cancel_iff]
            exact ⟨fun e => by subst e; exact Nat.beq_refl _, Nat.eq_of_beq_eq_true⟩
     ·have := mkK_slice hk; subst this
      simp only [VR] at hu hv; subst hu; subst hv
      simp [Op.equalIn, Sem.run_bind, run_underlying hd, Sem.run_pure]
     ·have := mkK_slice hk; subst this
      simp only [VR] at hu hv; subst hu; obtain ⟨_, _, _, _, rfl, _⟩ := hv
      simp [Op.equalIn, Sem.run_bind, run_underlying hd, Sem.run_pure]
     ·have := mkK_slice hk; subst this
      simp only [VR] at hu hv; subst hv; obtain ⟨_, _, _, _, rfl, _⟩ := hu
      simp [Op.equalIn, Sem.run_bind, run_underlying hd, Sem.run_pure]
     ·have := mkK_map hk; subst this
      simp only [VR] at hu hv; subst hu; subst hv
      simp [Op.equalIn, Sem.run_bind, run_underlying hd, Sem.run_pure]
     ·have := mkK_map hk; subst this
      simp only [VR] at hu hv; subst hu; obtain ⟨_, _, rfl⟩ := hv
      simp [Op.equalIn, Sem.run_bind, run_underlying hd, Sem.run_pure]
     ·have := mkK_map hk; subst this
      simp only [VR] at hu hv; subst hv; obtain ⟨_, _, rfl⟩ := hu
      simp [Op.equalIn, Sem.run_bind, run_underlying hd, Sem.run_pure]
     ·obtain ⟨_, _, _, this⟩ := mkK_func hk; subst this
      simp only [VR] at hu hv; subst hu; subst hv
      simp [Op.equalIn, Sem.run_bind, run_underlying hd, Sem.run_pure]
     ·obtain ⟨_, _, _, this⟩ := mkK_func hk; subst this
      simp only [VR] at hu hv; subst hu; obtain ⟨_, _, _, rfl, _⟩ := hv
      simp [Op.equalIn, Sem.run_bind, run_underlying hd, Sem.run_pure]
     ·obtain ⟨_, _, _, this⟩ := mkK_func hk; subst this
      simp only [VR] at hu hv; subst hv; obtain ⟨_, _, _, rfl, _⟩ := hu
      simp [Op.equalIn, Sem.run_bind, run_underlying hd, Sem.run_pure]
     ·obtain ⟨_, this⟩ := mkK_iface hk; subst this
      simp only [VR] at hu hv; subst hu; obtain ⟨_, rfl, _⟩ := hv
      simp [Op.equalIn, Sem.run_bind, run_underlying hd, Sem.run_pure]
     ·obtain ⟨_, this⟩ := mkK_iface hk; subst this
      simp only [VR] at hu hv; subst hv; obtain ⟨_, rfl, _⟩ := hu
      simp [Op.equalIn, Sem.run_bind, run_underlying hd, Sem.run_pure]
     ·-- struct
      rename_i fs xs ys
      obtain ⟨gs, this, hfs⟩ := mkK_strct hk; subst this
      simp only [VR] at hu hv
      obtain ⟨l, rfl, hl⟩ := hu
      obtain ⟨m, rfl, hm⟩ := hv
      cases hq : ti.eqok with
      | false => rw [hq] at h; cases h
      | true =>
        rw [hq] at h
        simp only [cond_true] at h
        rw [run_equalIn_struct (w := w) D t _ _ (by rw [fieldsOf_of hd]; exact hd) (hT.eq hq).2.1, fieldsOf_of hd]
        rw [hfs] at h
        exact run_eqFields hE hrec hl hm _ _ h w
     ·-- array
      rename_i n e xs ys
      have := mkK_arr hk; subst this
      simp only [VR] at hu hv
      obtain ⟨l, rfl, hl⟩ := hu
      obtain ⟨m, rfl, hm⟩ := hv
      cases hq : ti.eqok with
      | false => rw [hq] at h; cases h
      | true =>
        rw [hq] at h
        simp only [cond_true] at h
        cases he : E.ty.get e with
        | none => rw [he] at h; cases h
        | some te =>
          simp only [he] at h
          have hTe := hE.at_ he
          obtain ⟨i, hi, _⟩ := hTe.info
          rw [run_equalIn_array (w := w) D _ _ hd hi, cellsOf_of hTe, List.range_eq_range']
          exact run_eqItems hE hrec hl hm e te.size n 0 b h w
end
end Go.Proofs.Ytmjmhpbncfjnpaa.Bm
