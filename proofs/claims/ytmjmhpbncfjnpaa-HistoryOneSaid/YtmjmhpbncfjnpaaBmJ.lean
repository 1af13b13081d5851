/- The abstract machine: maps; whatever only reads. -/
import Derived.Test.YtmjmhpbncfjnpaaBmI
set_option linter.unusedSimpArgs false
set_option linter.unusedVariables false
namespace Go.Proofs.Ytmjmhpbncfjnpaa.Bm
open Go.RowKit
section
variable {P : Program} {E : Env} {φ : Phi} {w0 w : World} {g : Heap} {n : Nat}
theorem flat_value {x : AV} {u : Value} (hx : x.flat = true) (hu : VR φ x u) : (∃ b, u = .bool b) ∨ (∃ k m, u = .int k m) ∨ ∃ s, u = .string s := by
 cases x <;> simp [AV.flat] at hx <;> simp only [VR] at hu
 ·exact .inl ⟨_, hu⟩
 ·exact .inr (.inl ⟨_, _, hu⟩)
 ·obtain ⟨b, rfl, _⟩ := hu; exact .inr (.inr ⟨_, rfl⟩)
theorem K_flat {d : TypeDesc} {k : K} (h : k = mkK d) (hf : k.flat = true) : d = .bool ∨ (∃ j, d = .int j) ∨ d = .string := by
 subst h
 cases d <;> simp [mkK, K.flat] at hf
 ·exact .inl rfl
 ·exact .inr (.inl ⟨_, rfl⟩)
 ·exact .inr (.inr rfl)
theorem run_checkFlat {t : TypeId} {ti : TI} (hT : TyOK P t ti) (hf : ti.k.flat = true) (u : Value) (e : Bool) (d : Nat) (w : World) : (Instr.checkKey e (d + 1) t u).run P w = .ok () w := by
 obtain ⟨dsc, hd, hk⟩ := hT.und_
 rcases K_flat hk hf with rfl | ⟨j, rfl⟩ | rfl <;> simp only [Instr.checkKey, Sem.run_bind, hd, Result.andThen_ok, Sem.run_pure]
theorem run_checkKey' (hE : EnvOK P E) {kt : TypeId} {k : AV} {u : Value} (h : akeyOk E kt k = true) (hu : VR φ k u) (e : Bool) (d : Nat) (w : World) : (Instr.checkKey e (d + 2) kt u).run P w = .ok () w := by
 unfold akeyOk at h
 split at h
 ·cases h
 ·rename_i ti ht
  have hT := hE.at_ ht
  cases hf : ti.k.flat with
  | true => exact run_checkFlat hT hf u e (d + 1) w
  | false =>
    rw [hf] at h
    simp only [cond_false] at h
    split at h
    ·rename_i fs cs hkk
     obtain ⟨dsc, hd, hk⟩ := hT.und_
     rw [hkk] at hk
     obtain ⟨gs, this, hfs⟩ := mkK_strct hk; subst this
     simp only [VR] at hu
     obtain ⟨l, rfl, hl⟩ := hu
     simp only [Bool.and_eq_true] at h
     have hall := h.2
     rw [hfs] at hall
     have hflat : ∀ {t : TypeId} {ti : TI}, TyOK P t ti → ti.k.flat = true → ∀ (u : Value) (w : World), (Instr.checkKey e (d + 1) t u).run P w = .ok () w := fun h1 h2 u w => run_checkFlat h1 h2 u e d w
     rw [show d + 2 = (d + 1) + 1 from rfl]
     generalize d + 1 = D at hflat
     simp only [Instr.checkKey, Sem.run_bind, hd, Result.andThen_ok]
     rw [← Array.forIn_toList]
     have key : ∀ (fl : List Field), (fl.map fun f => (f.type, f.offset, decide (f.name = "_"))).all (keyField E cs) = true → ∀ w,
       (forIn fl PUnit.unit fun (f : Field) (_ : PUnit) =>
         if f.name ≠ "_" then (do
          let x ← part f.type l.toArray f.offset
          Instr.checkKey e D f.type x
          pure (ForInStep.yield PUnit.unit) : Sem (ForInStep PUnit)) else pure (ForInStep.yield PUnit.unit)).run P w = .ok PUnit.unit w := by
      intro fl
      induction fl with
      | nil => intro _ w; simp [Sem.run_pure]
      | cons f fl ih =>
        intro ha w
        simp only [List.map_cons, List.all_cons, Bool.and_eq_true] at ha
        obtain ⟨h1, h2⟩ := ha
        simp only [keyField, Bool.and_eq_true] at h1
        obtain ⟨h3, h4⟩ := h1
        simp only [List.forIn_cons, Sem.run_bind]
        by_cases hn : f.name = "_"
        ·simp only [hn, ne_eq, not_true_eq_false, if_false, Sem.run_pure, Result.andThen_ok, Sem.run_bind]
         exact ih h2 w
        ·simp only [hn, ne_eq, not_false_eq_true, if_true, Sem.run_bind]
         split at h3
         ·rename_i tf htf
          have hTf := hE.at_ htf
          split at h4
          ·rename_i x hx
           have hap : apart E f.type cs f.offset = some x := by
            unfold apart
            rw [htf]
            have : tf.k.isAgg = false := by cases hkf : tf.k <;> simp [hkf, K.flat, K.isAgg] at h3 ⊢
            simp only [this, cond_false, hx]
           obtain ⟨v, hv1, hv2⟩ := run_part hE hl hap w
           simp only [hv1, Result.andThen_ok, hflat hTf h3, Sem.run_pure]
           exact ih h2 w
          ·cases h4
         ·cases h3
     rw [key gs.toList hall w]
     simp only [Result.andThen_ok, Sem.run_pure]
    ·cases h
theorem run_sameNow (hE : EnvOK P E) {kt : TypeId} {x y : AV} {u v : Value} {b b' : Bool} {d : TypeDesc} (hd : P.underlying kt = some d) (h : aeq E 50 kt x y = some b) (hu : VR φ x u) (hv : VR φ y v)
  (hs : Instr.sameNow d u v = some b') : b' = b := by
 obtain ⟨D, hD⟩ : ∃ D, 50 ≤ D + 1 := ⟨49, by omega⟩
 have hEq := run_equalIn hE 50 (D + 1) hD kt x y b u v h hu hv default
 unfold Instr.sameNow at hs
 split at hs
 ·rename_i k a k' c
  by_cases hk : k = k'
  ·subst hk
   simp only [if_true, Option.some.injEq] at hs
   subst hs
   simp only [Op.equalIn, Sem.run_bind, run_underlying hd, Result.andThen_ok, if_true, Sem.run_pure] at hEq
   injection hEq
  ·simp [hk] at hs
 ·rename_i a c
  simp only [Option.some.injEq] at hs
  subst hs
  simp only [Op.equalIn, Sem.run_bind, run_underlying hd, Result.andThen_ok, if_true, Sem.run_pure] at hEq
  injection hEq
 ·rename_i a c
  simp only [Option.some.injEq] at hs
  subst hs
  simp only [Op.equalIn, Sem.run_bind, run_underlying hd, Result.andThen_ok, if_true, Sem.run_pure] at hEq
  injection hEq
 ·cases hs
def FoundR (φ : Phi) (r : Option (Nat × AV)) (r' : Option (Nat × Value)) : Prop :=
 match r, r' with
 | none, none => True
 | some (i, x), some (j, v) => i = j ∧ VR φ x v
 | _, _ => False
theorem EntsR.tail {e : AV × AV × Nat} {es : List (AV × AV × Nat)} {ms : List MapEntry} (h : EntsR φ (e :: es) ms) : ∃ m ms', ms = m :: ms' ∧ EntR φ e m ∧ EntsR φ es ms' := by
 obtain ⟨h1, h2⟩ := h
 cases ms with
 | nil => simp at h1
 | cons m ms =>
   obtain ⟨m', h3, h4⟩ := h2 0 e rfl
   simp at h3; subst h3
   exact ⟨m, ms, rfl, h4, by simpa using h1, fun j e' he => by simpa using h2 (j + 1) e' (by simpa using he)⟩
theorem run_findAsking (hE : EnvOK P E) {kt : TypeId} {k : AV} {u : Value} (hu : VR φ k u) : ∀ (es : List (AV × AV × Nat)) (ms : List MapEntry) (i : Nat) (r : Option (Nat × AV)),
  afind E kt k es i = some r → EntsR φ es ms → ∀ w, ∃ r', (Instr.findAsking kt u ms i).run P w = .ok r' w ∧ FoundR φ r r'
 | [], ms, i, r, h, hm, w => by
   simp only [afind, Option.some.injEq] at h; subst h
   have : ms = [] := List.eq_nil_of_length_eq_zero hm.1
   subst this
   exact ⟨none, by simp [Instr.findAsking, Sem.run_pure], trivial⟩
 | (k', x, b) :: es, ms, i, r, h, hm, w => by
   obtain ⟨m, ms', rfl, he, hm'⟩ := hm.tail
   simp only [afind] at h
   cases hq : aeq E 50 kt k k' with
   | none => rw [hq] at h; cases h
   | some c =>
     have hEq : (Op.equal kt u m.key).run P w = .ok c w := run_equalIn hE 50 Op.maxDepth (by decide) kt k k' c u m.key hq hu he.1 w
     simp only [Instr.findAsking, Sem.run_bind, hEq, Result.andThen_ok]
     cases c with
     | true =>
       simp only [hq, Option.some.injEq] at h; subst h
       exact ⟨some (i, m.val), by simp [Sem.run_pure], rfl, he.2.1⟩
     | false =>
       simp only [hq] at h
       obtain ⟨r', h1, h2⟩ := run_findAsking hE hu es ms' (i + 1) r h hm' w
       exact ⟨r', by simpa using h1, h2⟩
theorem findNow_of (hE : EnvOK P E) {kt : TypeId} {k : AV} {u : Value} {d : TypeDesc} (hd : P.underlying kt = some d) (hu : VR φ k u) : ∀ (es : List (AV × AV × Nat)) (ms : List MapEntry) (i : Nat) (r : Option (Nat × AV)) (r' : Option (Nat × Value)),
  afind E kt k es i = some r → EntsR φ es ms → Instr.findNow d u ms i = some r' → FoundR φ r r'
 | [], ms, i, r, r', h, hm, hf => by
   simp only [afind, Option.some.injEq] at h; subst h
   have : ms = [] := List.eq_nil_of_length_eq_zero hm.1
   subst this
   simp only [Instr.findNow, Option.some.injEq] at hf; subst hf
   exact trivial
 | (k', x, b) :: es, ms, i, r, r', h, hm, hf => by
   obtain ⟨m, ms', rfl, he, hm'⟩ := hm.tail
   simp only [afind] at h
   simp only [Instr.findNow] at hf
   cases hq : aeq E 50 kt k k' with
   | none => rw [hq] at h; cases h
   | some c =>
     cases hs : Instr.sameNow d u m.key with
     | none => rw [hs] at hf; cases hf
     | some c' =>
       have := run_sameNow hE hd hq hu he.1 hs
       subst this
       cases c' with
       | true =>
         simp only [hq, Option.some.injEq] at h; subst h
         simp only [hs, Option.some.injEq] at hf; subst hf
         exact ⟨rfl, he.2.1⟩
       | false =>
         simp only [hq] at h
         simp only [hs] at hf
         exact findNow_of hE hd hu es ms' (i + 1) r r' h hm' hf
theorem run_findKey (hE : EnvOK P E) {kt : TypeId} {ti : TI} (ht : E.ty.get kt = some ti) {k : AV} {u : Value} (hu : VR φ k u) {es : List (AV × AV × Nat)} {ms : List MapEntry} {r : Option (Nat × AV)}
  (h : afind E kt k es 0 = some r) (hm : EntsR φ es ms) (w : World) : ∃ r', (Instr.findKey kt u ms).run P w = .ok r' w ∧ FoundR φ r r' := by
 have hT := hE.at_ ht
 obtain ⟨d, hd, hk⟩ := hT.und
 simp only [Instr.findKey, Sem.run_bind, run_underlying hd, Result.andThen_ok]
 cases hf : Instr.findNow d u ms 0 with
 | some r' => exact ⟨r', by simp [Sem.run_pure], findNow_of hE hd hu es ms 0 r r' h hm hf⟩
 | none => exact run_findAsking hE hu es ms 0 r h hm w
theorem akeyOk_ty {kt : TypeId} {k : AV} (h : akeyOk E kt k = true) : ∃ ti, E.ty.get kt = some ti := by
 unfold akeyOk at h
 split at h
 ·cases h
 ·exact ⟨_, by assumption⟩
theorem zero_cells (hE : EnvOK P E) {t : TypeId} {ti : TI} (ht : E.ty.get t = some ti) {z : AV} (h : ofCells ti.k.isAgg ti.zero = some z) (w : World) : ∃ v, (zeroValue t).run P w = .ok v w ∧ VR φ z v := by
 have hT := hE.at_ ht
 obtain ⟨v, hv, hz, ho⟩ := hT.zero2_
 refine ⟨v, hv w, ?_⟩
 cases hk : ti.k.isAgg with
 | true =>
   rw [hk] at h
   simp only [ofCells, cond_true, Option.some.injEq] at h
   subst h
   cases v <;> simp [zeroOk, hk] at ho
   rename_i cs
   simp only [VR]
   refine ⟨cs.toList, by simp, ?_⟩
   rw [hz]
   exact ofArr_toArray _
 | false =>
   rw [hk] at h
   simp only [ofCells, cond_false] at h
   have hc : v.cells = #[v] := by cases v <;> first | rfl | simp [zeroOk, hk] at ho
   rw [hz, hc] at h
   simp only [ofArr, ofVals, Option.some.injEq] at h
   subst h
   exact VR.ofVal φ v
theorem run_lookup0 (hE : EnvOK P E) {t kt et : TypeId} {ti te : TI} (ht : E.ty.get t = some ti) (hkk : ti.k = .map kt et) (hte : E.ty.get et = some te) {k r : AV} {ok : Bool} {u v : Value} (hko : akeyOk E kt k = true)
  {es : List (AV × AV × Nat)} {ms : List MapEntry} (hms : EntsR φ es ms) (hu' : (u = .map none ∧ ms = []) ∨ ∃ c clock, u = .map (some c) ∧ w.heap[c]? = some (.map ms.toArray clock))
  (h : (match afind E kt k es 0 with
    | none => none
    | some r => match (match r with
      | some (_, v) => some (v, true)
      | none => match ofCells te.k.isAgg te.zero with
        | some z => some (z, false)
        | none => none : Option (AV × Bool)) with
      | some (v, b) => some (cond ok (.tuple [v, .bool b]) v)
      | none => none : Option AV) = some r) (hv : VR φ k v) :
  ∃ z, (Instr.lookup t u v ok).run P w = .ok z w ∧ VR φ r z := by
 have hT := hE.at_ ht
 obtain ⟨d, hd, hk⟩ := hT.und_
 rw [hkk] at hk
 have := mkK_map hk; subst this
 obtain ⟨tk, htk⟩ := akeyOk_ty hko
 split at h
 ·cases h
 ·rename_i fr hfr
  obtain ⟨r', hf1, hf2⟩ := run_findKey hE htk hv hfr hms w
  have hck := run_checkKey' hE hko hv ms.toArray.isEmpty 9998 w
  have hmain : ∃ z, (match r' with
    | some (_, v) => (do
      let x ← pure (v, true)
      pure (if ok = true then .tuple #[x.1, .bool x.2] else x.1) : Sem Value)
    | none => (do
      let z0 ← zeroValue et
      let x ← pure (z0, false)
      pure (if ok = true then .tuple #[x.1, .bool x.2] else x.1) : Sem Value)).run P w = .ok z w ∧ VR φ r z := by
   split at h
   ·rename_i x' b' hxb
    simp only [Option.some.injEq] at h
    have fin : ∀ z' : Value, VR φ x' z' → VR φ r (if ok then .tuple #[z', .bool b'] else z') := by
     intro z' hz'
     subst h
     cases ok with
     | true =>
       simp only [cond_true, if_true, VR]
       exact ⟨[z', .bool b'], rfl, VRL.cons hz' (VRL.cons (by simp only [VR]) VRL.nil)⟩
     | false => simpa using hz'
    cases fr with
    | none =>
      cases r' with
      | some _ => exact hf2.elim
      | none =>
        simp only at hxb
        split at hxb
        ·rename_i z hz
         simp only [Option.some.injEq, Prod.mk.injEq] at hxb
         obtain ⟨rfl, rfl⟩ := hxb
         obtain ⟨zv, hz1, hz2⟩ := zero_cells hE hte hz w
         exact ⟨_, by simp only [Sem.run_bind, hz1, Result.andThen_ok, Sem.run_pure], fin zv hz2⟩
        ·cases hxb
    | some p =>
      obtain ⟨i, xv⟩ := p
      cases r' with
      | none => exact hf2.elim
      | some q =>
        obtain ⟨j, vv⟩ := q
        simp only [Option.some.injEq, Prod.mk.injEq] at hxb
        obtain ⟨rfl, rfl⟩ := hxb
        exact ⟨_, by simp only [Sem.run_bind, Result.andThen_ok, Sem.run_pure], fin vv hf2.2⟩
   ·cases h
  obtain ⟨z, hz1, hz2⟩ := hmain
  refine ⟨z, ?_, hz2⟩
  rcases hu' with ⟨rfl, rfl⟩ | ⟨c, clock, rfl, hm⟩
  ·have hf1' : (Instr.findKey kt v []).run P w = .ok r' w := hf1
   have hck' : (Instr.checkKey true 10000 kt v).run P w = .ok () w := hck
   simp only [Instr.lookup, Sem.run_bind, hd, Result.andThen_ok, Sem.run_pure, Array.isEmpty_empty, hck', hf1']
   rw [← hz1]
   cases r' <;> rfl
  ·have hck' : (Instr.checkKey ms.toArray.isEmpty 10000 kt v).run P w = .ok () w := hck
   have hg : (getObj c).run P w = .ok (.map ms.toArray clock) w := by simp [getObj, Sem.run, hm]
   simp only [Instr.lookup, Sem.run_bind, hd, Result.andThen_ok, Sem.run_pure, hg, hck', hf1]
   rw [← hz1]
   cases r' <;> rfl
theorem run_lookup (hE : EnvOK P E) (hR : Rel w0 φ g n w) {t : TypeId} {x k r : AV} {ok : Bool} {u v : Value} (h : alookup E g t x k ok = some r) (hu : VR φ x u) (hv : VR φ k v) :
  ∃ z, (Instr.lookup t u v ok).run P w = .ok z w ∧ VR φ r z := by
 unfold alookup at h
 split at h
 ·cases h
 ·rename_i ti ht
  have hT := hE.at_ ht
  obtain ⟨d, hd, hk⟩ := hT.und_
  split at h
  ·rename_i kt et hkk
   rw [hkk] at hk
   have := mkK_map hk; subst this
   split at h
   ·cases h
   ·rename_i te hte
    cases hko : akeyOk E kt k with
    | false => rw [hko] at h; cases h
    | true =>
      rw [hko] at h
      simp only [cond_true] at h
      obtain ⟨tk, htk⟩ := akeyOk_ty hko
      split at h
      ·cases h
      ·rename_i es hes
       obtain ⟨ms, hms, hu'⟩ : ∃ ms : List MapEntry, EntsR φ es ms ∧ ((u = .map none ∧ ms = []) ∨ ∃ c clock, u = .map (some c) ∧ w.heap[c]? = some (.map ms.toArray clock)) := by
        split at hes
        ·simp only [Option.some.injEq] at hes; subst hes
         simp only [VR] at hu; subst hu
         exact ⟨[], ⟨rfl, fun j e he => by simp at he⟩, .inl ⟨rfl, rfl⟩⟩
        ·rename_i id
         simp only [VR] at hu
         obtain ⟨l, hl, rfl⟩ := hu
         split at hes
         ·rename_i es' clock hg
          simp only [Option.some.injEq] at hes; subst hes
          obtain ⟨ms, hm, hR2⟩ := hR.objs id _ l hg hl
          exact ⟨ms, hR2, .inr ⟨l.c, clock, rfl, hm⟩⟩
         ·cases hes
        ·cases hes
       split at h
       ·cases h
       ·rename_i fr hfr
        obtain ⟨r', hf1, hf2⟩ := run_findKey hE htk hv hfr hms w
        have hck := run_checkKey' hE hko hv ms.toArray.isEmpty 9998 w
        have hmain : ∃ z, (match r' with
          | some (_, v) => (do
            let x ← pure (v, true)
            pure (if ok = true then .tuple #[x.1, .bool x.2] else x.1) : Sem Value)
          | none => (do
            let z0 ← zeroValue et
            let x ← pure (z0, false)
            pure (if ok = true then .tuple #[x.1, .bool x.2] else x.1) : Sem Value)).run P w = .ok z w ∧ VR φ r z := by
         split at h
         ·rename_i x' b' hxb
          simp only [Option.some.injEq] at h
          have fin : ∀ z' : Value, VR φ x' z' → VR φ r (if ok then .tuple #[z', .bool b'] else z') := by
           intro z' hz'
           subst h
           cases ok with
           | true =>
             simp only [cond_true, if_true, VR]
             exact ⟨[z', .bool b'], rfl, VRL.cons hz' (VRL.cons (by simp only [VR]) VRL.nil)⟩
           | false => simpa using hz'
          cases fr with
          | none =>
            cases r' with
            | some _ => exact hf2.elim
            | none =>
              simp only at hxb
              split at hxb
              ·rename_i z hz
               simp only [Option.some.injEq, Prod.mk.injEq] at hxb
               obtain ⟨rfl, rfl⟩ := hxb
               obtain ⟨zv, hz1, hz2⟩ := zero_cells hE hte hz w
               exact ⟨_, by simp only [Sem.run_bind, hz1, Result.andThen_ok, Sem.run_pure], fin zv hz2⟩
              ·cases hxb
          | some p =>
            obtain ⟨i, xv⟩ := p
            cases r' with
            | none => exact hf2.elim
            | some q =>
              obtain ⟨j, vv⟩ := q
              simp only [Option.some.injEq, Prod.mk.injEq] at hxb
              obtain ⟨rfl, rfl⟩ := hxb
              exact ⟨_, by simp only [Sem.run_bind, Result.andThen_ok, Sem.run_pure], fin vv hf2.2⟩
         ·cases h
        obtain ⟨z, hz1, hz2⟩ := hmain
        refine ⟨z, ?_, hz2⟩
        rcases hu' with ⟨rfl, rfl⟩ | ⟨c, clock, rfl, hm⟩
        ·have hf1' : (Instr.findKey kt v []).run P w = .ok r' w := hf1
         have hck' : (Instr.checkKey true 10000 kt v).run P w = .ok () w := hck
         simp only [Instr.lookup, Sem.run_bind, hd, Result.andThen_ok, Sem.run_pure, Array.isEmpty_empty, hck', hf1']
         rw [← hz1]
         cases r' <;> rfl
        ·have hck' : (Instr.checkKey ms.toArray.isEmpty 10000 kt v).run P w = .ok () w := hck
         have hg : (getObj c).run P w = .ok (.map ms.toArray clock) w := by simp [getObj, Sem.run, hm]
         simp only [Instr.lookup, Sem.run_bind, hd, Result.andThen_ok, Sem.run_pure, hg, hck', hf1]
         rw [← hz1]
         cases r' <;> rfl
  ·cases h
theorem run_bytesCells {f : Value → ByteArray → Sem (ForInStep ByteArray)} (hf : ∀ (m : Int) (s : ByteArray), f (.int .u8 m) s = pure (ForInStep.yield (s.push (UInt8.ofNat m.toNat)))) {r : List AV} {l : List Nat} :
  ∀ {cs : List Value}, bytesOfCells r = some l → VRL φ r cs → ∀ (acc : ByteArray) (w : World), ∃ b : ByteArray, (forIn cs acc f).run P w = .ok b w ∧ bytesOf b = bytesOf acc ++ l := by
 induction r generalizing l with
 | nil =>
   intro cs h hv acc w
   simp only [VRL] at hv; subst hv
   simp only [bytesOfCells, Option.some.injEq] at h; subst h
   exact ⟨acc, by simp [Sem.run_pure], by simp⟩
 | cons x r ih =>
   intro cs h hv acc w
   simp only [VRL] at hv
   obtain ⟨v, vs, rfl, hx, hvs⟩ := hv
   unfold bytesOfCells at h
   split at h
   ·rename_i heq; cases heq
   ·rename_i m r' heq
    injection heq with e1 e2; subst e1; subst e2
    simp only [VR] at hx; subst hx
    split at h
    ·rename_i l' hl'
     cases hb : (decide (0 ≤ m) && decide (m < 256)) with
     | false => rw [hb] at h; cases h
     | true =>
       rw [hb] at h
       simp only [cond_true, Option.some.injEq] at h; subst h
       simp only [Bool.and_eq_true, decide_eq_true_eq] at hb
       obtain ⟨b, h1, h2⟩ := ih hl' hvs (acc.push (UInt8.ofNat m.toNat)) w
       refine ⟨b, ?_, ?_⟩
       ·simp only [List.forIn_cons, Sem.run_bind, hf, Sem.run_pure, Result.andThen_ok]
        exact h1
       ·rw [h2]
        have : bytesOf (acc.push (UInt8.ofNat m.toNat)) = bytesOf acc ++ [m.toNat] := by
         simp [bytesOf]; omega
        rw [this]; simp
    ·cases h
   ·cases h
theorem conv_fin {F : Value → ByteArray → Sem (ForInStep ByteArray)} {r : List AV} {l : List Nat} {cs : List Value} (h : bytesOfCells r = some l) (hv : VRL φ r cs)
  (hf : ∀ (m : Int) (s : ByteArray), F (.int .u8 m) s = pure (ForInStep.yield (s.push (UInt8.ofNat m.toNat)))) :
  ∃ z, (((forIn cs ByteArray.empty F).run P w).andThen fun a w' => (pure (Value.string a) : Sem Value).run P w') = .ok z w ∧ VR φ (.str l) z := by
 obtain ⟨b, h1, h2⟩ := run_bytesCells (P := P) hf h hv ByteArray.empty w
 exact ⟨.string b, by rw [h1]; simp only [Result.andThen_ok, Sem.run_pure], by simp only [VR]; exact ⟨b, rfl, by rw [h2]; simp [bytesOf]⟩⟩
theorem run_conv (hE : EnvOK P E) (hR : Rel w0 φ g n w) {src dst : TypeId} {x r : AV} {u : Value} (h : aconv E g src dst x = some r) (hu : VR φ x u) :
  ∃ z, (convert src dst u).run P w = .ok z w ∧ VR φ r z := by
 unfold aconv at h
 split at h
 ·rename_i ts td hts htd
  have hS := hE.at_ hts
  have hD := hE.at_ htd
  obtain ⟨ds, hds, hks⟩ := hS.und_
  obtain ⟨dd, hdd, hkd⟩ := hD.und_
  split at h
  ·rename_i k k' m hkk
   rw [hkk] at hkd
   have := mkK_int hkd; subst this
   simp only [VR] at hu; subst hu
   simp only [Option.some.injEq] at h; subst h
   refine ⟨.int k (k.wrap m), ?_, by simp only [VR]⟩
   simp only [convert, Sem.run_bind, hds, hdd, Result.andThen_ok]
   cases ds <;> simp [Conv.intToInt, Sem.run_pure]
  ·rename_i s hkk
   rw [hkk] at hkd
   have := mkK_string hkd; subst this
   split at h
   ·rename_i hk2
    rw [hk2] at hks
    have := mkK_string hks; subst this
    simp only [VR] at hu
    obtain ⟨b, rfl, rfl⟩ := hu
    simp only [Option.some.injEq] at h; subst h
    exact ⟨.string b, by simp only [convert, Sem.run_bind, hds, hdd, Result.andThen_ok, Sem.run_pure], by simp only [VR]; exact ⟨b, rfl, rfl⟩⟩
   ·cases h
  ·rename_i hkk
   rw [hkk] at hkd
   have := mkK_string hkd; subst this
   split at h
   ·rename_i e hk2
    rw [hk2] at hks
    have := mkK_slice hks; subst this
    split at h
    ·rename_i te hte
     have hTe := hE.at_ hte
     obtain ⟨de, hde, hke⟩ := hTe.und_
     split at h
     ·rename_i hk3
      rw [hk3] at hke
      have := mkK_int hke; subst this
      simp only [VR] at hu; subst hu
      simp only [Option.some.injEq] at h; subst h
      refine ⟨.string .empty, ?_, by simp only [VR]; exact ⟨_, rfl, by simp [bytesOf]⟩⟩
      simp only [convert, Sem.run_bind, hds, hdd, hde, Result.andThen_ok, Conv.bytesToString, Sem.run_pure]
     ·cases h
    ·cases h
   ·cases h
  ·rename_i id off len cap es hid hkk
   rw [hkk] at hkd
   have := mkK_string hkd; subst this
   split at h
   ·rename_i e hk2
    rw [hk2] at hks
    have := mkK_slice hks; subst this
    split at h
    ·rename_i te hte
     have hTe := hE.at_ hte
     obtain ⟨de, hde, hke⟩ := hTe.und_
     split at h
     ·rename_i hk3
      rw [hk3] at hke
      have := mkK_int hke; subst this
      simp only [VR] at hu
      obtain ⟨l, ad, cc, h1, rfl, h2, h3, h4, h5, h6⟩ := hu
      cases hes : Nat.beq es 1 with
      | false => rw [hes] at h; cases h
      | true =>
        rw [hes] at h
        simp only [cond_true] at h
        split at h
        ·rename_i vs hc
         obtain ⟨rw_, hg⟩ := acell_some hc
         split at h
         ·rename_i cs hcut
          split at h
          ·rename_i bl hbl
           simp only [Option.some.injEq] at h; subst h
           obtain ⟨cl, c1, c2, c3⟩ := hR.cells hg h1 hcut
           have hload : (loadCells ad len).run P w = .ok cl.toArray w := by
            by_cases hz : len = 0
            ·subst hz
             have : cl = [] := List.eq_nil_of_length_eq_zero c1
             subst this
             simp [loadCells, loadCellsFrom, Sem.run_pure]
            ·have := h5 (by omega); subst this
             have hrun := run_loadCells_ (P := P) (w := w) ⟨l.c, l.o + off, none⟩ cl c3
             rw [c1] at hrun
             exact hrun
           simp only [convert, Sem.run_bind, hds, hdd, hde, Result.andThen_ok, Conv.bytesToString, hload]
           rw [List.forIn_toArray]
           exact conv_fin hbl c2 (fun _ _ => rfl)
          ·cases h
         ·cases h
        ·cases h
     ·cases h
    ·cases h
   ·cases h
  ·cases h
 ·cases h
theorem run_cap (hE : EnvOK P E) {t ty : TypeId} {ts : List TypeId} {us : List Value} {x r : AV} {u : Value} (h : acap E t x = some r) (hu : VR φ x u) (w : World) :
  ∃ z, (Builtin.cap_ (t :: ts).toArray ty (u :: us).toArray).run P w = .ok z w ∧ VR φ r z := by
 unfold acap at h
 split at h
 ·cases h
 ·rename_i ti ht
  have hT := hE.at_ ht
  obtain ⟨d, hd, hk⟩ := hT.und_
  split at h <;> (try cases h) <;> rename_i hkk <;> rw [hkk] at hk
  ·have := mkK_slice hk; subst this
   simp only [VR] at hu; subst hu
   refine ⟨goInt (0 : Nat), ?_, by simp only [VR, goInt]; rfl⟩
   simp [Builtin.cap_, Sem.run_bind, hd, Sem.run_pure]
  ·have := mkK_slice hk; subst this
   rename_i e id off n' cap es
   simp only [VR] at hu
   obtain ⟨l, ad, cc, h1, rfl, h2, h3, h4, h5⟩ := hu
   have := h4 trivial
   subst this
   refine ⟨goInt cc, ?_, by simp only [VR, goInt]⟩
   simp [Builtin.cap_, Sem.run_bind, hd, Sem.run_pure]
theorem map_cons_array {α β : Type} (f : α → β) {a : Array α} {x : α} {xs : List α} (h : a.toList = x :: xs) : a.map f = (f x :: xs.map f).toArray := by
 apply Array.toList_inj.1
 simp [h]
theorem cons_array {α : Type} {a : Array α} {x : α} {xs : List α} (h : a.toList = x :: xs) : a = (x :: xs).toArray := by
 apply Array.toList_inj.1
 simp [h]
theorem run_aread0 (hE : EnvOK P E) (hR : Rel w0 φ g n w) {ρa : Operand → AV} {ρ : Operand → Value} (hρ : ∀ x, VR φ (ρa x) (ρ x)) {o : Oper} {r : AV} (h : aread0 E ρa g o.op = some r) :
  ∃ z, (execOp ρ o).run P w = .ok (.value z) w ∧ VR φ r z := by
 unfold aread0 at h
 split at h <;> rename_i hop
 ·rename_i t a
  obtain ⟨z, h1, h2⟩ := run_load hE hR h (hρ a)
  exact ⟨z, by simp only [execOp, hop, Sem.run_bind, h1, Result.andThen_ok, Sem.run_pure], h2⟩
 ·rename_i t x lo hi mx
  obtain ⟨z, h1, h2⟩ := run_slice hE hR h (hρ x) (optR_map hρ lo) (optR_map hρ hi) (optR_map hρ mx)
  exact ⟨z, by simp only [execOp, hop, Sem.run_bind, h1, Result.andThen_ok, Sem.run_pure], h2⟩
 ·rename_i s d x
  obtain ⟨z, h1, h2⟩ := run_conv hE hR h (hρ x)
  exact ⟨z, by simp only [execOp, hop, Sem.run_bind, h1, Result.andThen_ok, Sem.run_pure], h2⟩
 ·rename_i t x i ok
  obtain ⟨z, h1, h2⟩ := run_lookup hE hR h (hρ x) (hρ i)
  exact ⟨z, by simp only [execOp, hop, Sem.run_bind, h1, Result.andThen_ok, Sem.run_pure], h2⟩
 ·rename_i c
  split at h
  ·rename_i x xs t ts hc ha hty
   obtain ⟨z, h1, h2⟩ := run_len hE hR (ty := o.type) (ts := ts) (us := xs.map ρ) h (hρ x)
   refine ⟨z, ?_, h2⟩
   simp only [execOp, hop, resolve, hc, Sem.run_bind, Sem.run_pure, Result.andThen_ok, invoke, builtin, map_cons_array ρ ha]
   rw [cons_array hty, h1]
   simp only [Result.andThen_ok, Sem.run_pure]
  ·rename_i x xs t ts hc ha hty
   obtain ⟨z, h1, h2⟩ := run_cap hE (ty := o.type) (ts := ts) (us := xs.map ρ) h (hρ x) w
   refine ⟨z, ?_, h2⟩
   simp only [execOp, hop, resolve, hc, Sem.run_bind, Sem.run_pure, Result.andThen_ok, invoke, builtin, map_cons_array ρ ha]
   rw [cons_array hty, h1]
   simp only [Result.andThen_ok, Sem.run_pure]
  ·rename_i x xs hc ha
   obtain ⟨z, h1, h2⟩ := run_minmax (P := P) (w := w) h (hρ x) (VRL.map_ops hρ xs)
   refine ⟨z, ?_, h2⟩
   simp only [Bool.false_eq_true, if_false] at h1
   simp only [execOp, hop, resolve, hc, Sem.run_bind, Sem.run_pure, Result.andThen_ok, invoke, builtin, map_cons_array ρ ha, Builtin.min_, h1]
  ·rename_i x xs hc ha
   obtain ⟨z, h1, h2⟩ := run_minmax (P := P) (w := w) h (hρ x) (VRL.map_ops hρ xs)
   refine ⟨z, ?_, h2⟩
   simp only [if_true] at h1
   simp only [execOp, hop, resolve, hc, Sem.run_bind, Sem.run_pure, Result.andThen_ok, invoke, builtin, map_cons_array ρ ha, Builtin.max_, h1]
  ·cases h
 ·exact run_apure hE hρ h w
end
end Go.Proofs.Ytmjmhpbncfjnpaa.Bm
