/- The abstract machine: what only reckons, and what only reads, stands for the model's. -/
import Derived.Test.YtmjmhpbncfjnpaaBmH
import Derived.Laws.Sem
set_option linter.unusedSimpArgs false
set_option linter.unusedVariables false
namespace Go.Proofs.Ytmjmhpbncfjnpaa.Bm
open Go.RowKit
section
variable {P : Program} {E : Env} {φ : Phi}
theorem run_places (hE : EnvOK P E) : ∀ (gs : List Field) (ps : List (Nat × Nat)), fplaces E (gs.map fun f => (f.type, f.offset, decide (f.name = "_"))) = some ps → ∀ w,
  (gs.mapM fun f => (do pure (f.offset, ← sizeOf f.type) : Sem (Nat × Nat))).run P w = .ok ps w
 | [], ps, h, w => by
   simp only [List.map_nil, fplaces, Option.some.injEq] at h; subst h
   simp [Sem.run_pure]
 | f :: gs, ps, h, w => by
   simp only [List.map_cons, fplaces] at h
   cases hf : E.ty.get f.type with
   | none => rw [hf] at h; cases h
   | some ti =>
     cases hr : fplaces E (gs.map fun f => (f.type, f.offset, decide (f.name = "_"))) with
     | none => rw [hf, hr] at h; cases h
     | some r =>
       simp only [hf, hr, Option.some.injEq] at h; subst h
       have hT := hE.at_ hf
       simp only [List.mapM_cons, Sem.run_bind, hT.sizeOf_, Result.andThen_ok, Sem.run_pure, run_places hE gs r hr w]
theorem ofArr_toArray (l : Array Value) : VRL φ (ofArr l) l.toList := by
 cases l; simp only [ofArr]; exact VRL.ofVals φ _
theorem run_build (hE : EnvOK P E) {t : TypeId} {parts : List (Nat × AV)} {parts' : Array (Nat × Value)} {r : AV} (h : abuild E t parts = some r)
  (hi : parts.map (·.1) = parts'.toList.map (·.1)) (hv : VRL φ (parts.map (·.2)) (parts'.toList.map (·.2))) (w : World) : ∃ z, (Instr.build t parts').run P w = .ok z w ∧ VR φ r z := by
 unfold abuild at h
 split at h
 ·cases h
 ·rename_i ti ht
  have hT := hE.at_ ht
  obtain ⟨d, hd, hk⟩ := hT.und_
  obtain ⟨z0, hz, hz0⟩ := hT.zero_ w
  split at h
  ·cases h
  ·rename_i ps hps
   split at h
   ·rename_i cs hcs
    simp only [Option.some.injEq] at h; subst h
    have hzl : VRL φ ti.zero z0.cells.toList := by rw [hz0]; exact ofArr_toArray _
    obtain ⟨l', hf, hr⟩ := run_fill hcs hzl hi hv
    refine ⟨.agg l'.toArray, ?_, by simp only [VR]; exact ⟨l', rfl, hr⟩⟩
    unfold aplaces at hps
    split at hps
    ·rename_i fs hkk
     rw [hkk] at hk
     obtain ⟨gs, this, hfs⟩ := mkK_strct hk; subst this
     split at hps
     ·rename_i q hq
      simp only [Option.some.injEq] at hps; subst hps
      rw [hfs] at hq
      have hp := run_places hE _ _ hq w
      simp only [Instr.build, Sem.run_bind, hz, Result.andThen_ok, hd, Array.mapM_eq_mapM_toList, Sem.run_map, hp]
      simp only [Array.toArray_toList] at hf
      simp [Result.andThen, hf, Sem.run_pure]
     ·cases hps
    ·rename_i n e hkk
     rw [hkk] at hk
     have := mkK_arr hk; subst this
     split at hps
     ·rename_i te he
      simp only [Option.some.injEq] at hps; subst hps
      have hTe := hE.at_ he
      simp only [Array.toArray_toList] at hf
      simp only [Instr.build, Sem.run_bind, hz, Result.andThen_ok, hd, hTe.sizeOf_, hf, Sem.run_pure]
     ·cases hps
    ·cases hps
   ·cases h
theorem VRL.map_ops {ρa : Operand → AV} {ρ : Operand → Value} (hρ : ∀ x, VR φ (ρa x) (ρ x)) : ∀ l : List Operand, VRL φ (l.map ρa) (l.map ρ)
 | [] => VRL.nil
 | x :: xs => VRL.cons (hρ x) (VRL.map_ops hρ xs)
theorem run_apure (hE : EnvOK P E) {ρa : Operand → AV} {ρ : Operand → Value} (hρ : ∀ x, VR φ (ρa x) (ρ x)) {o : Oper} {r : AV} (h : apure E ρa o.op = some r) (w : World) :
  ∃ z, (execOp ρ o).run P w = .ok (.value z) w ∧ VR φ r z := by
 unfold apure at h
 split at h <;> rename_i hop <;> (try cases h)
 ·exact ⟨_, by simp only [execOp, hop, Sem.run_pure], hρ _⟩
 ·exact ⟨_, by simp only [execOp, hop, Sem.run_pure], hρ _⟩
 ·-- pick
  rename_i c a b
  have hc := hρ c
  split at h
  ·rename_i t ht
   simp only [Option.some.injEq] at h; subst h
   rw [ht] at hc
   simp only [VR] at hc
   refine ⟨if t then ρ a else ρ b, ?_, ?_⟩
   ·simp only [execOp, hop, hc, asBool, Sem.run_bind, Sem.run_pure, Result.andThen_ok]
   ·cases t
    ·exact hρ b
    ·exact hρ a
  ·cases h
 ·-- build
  rename_i t parts
  obtain ⟨z, h1, h2⟩ := run_build hE (parts' := parts.map fun (i, x) => (i, ρ x)) h (by simp) (by
   have := VRL.map_ops hρ (parts.toList.map (·.2))
   simp only [List.map_map, Array.toList_map] at this ⊢
   exact this) w
  exact ⟨z, by simp only [execOp, hop, Sem.run_bind, h1, Result.andThen_ok, Sem.run_pure], h2⟩
 ·-- nilCheck
  rename_i x
  have hx := hρ x
  split at h
  ·rename_i a b ht
   simp only [Option.some.injEq] at h; subst h
   rw [ht] at hx
   have hx' := hx
   simp only [VR] at hx
   obtain ⟨l, h1, h2⟩ := hx
   exact ⟨ρ x, by simp only [execOp, hop, h2, Sem.run_pure], hx'⟩
  ·rename_i f a b ht
   simp only [Option.some.injEq] at h; subst h
   rw [ht] at hx
   have hx' := hx
   simp only [VR] at hx
   obtain ⟨_, a', b', h2, _⟩ := hx
   exact ⟨ρ x, by simp only [execOp, hop, h2, Sem.run_pure], hx'⟩
  ·cases h
 ·-- binOp
  rename_i op t x y _
  obtain ⟨z, h1, h2⟩ := run_abin hE h (hρ x) (hρ y) w x y
  exact ⟨z, by simp only [execOp, hop]; rw [Sem.run_bind]; rw [h1]; simp only [Result.andThen_ok, Sem.run_pure], h2⟩
 ·-- unOp
  rename_i op _ x
  obtain ⟨z, h1, h2⟩ := run_aun (P := P) h (hρ x) w
  exact ⟨z, by simp only [execOp, hop, Sem.run_bind, h1, Result.andThen_ok, Sem.run_pure], h2⟩
 ·-- makeFunc
  rename_i fn first captured
  split at h
  ·rename_i f
   simp only [Option.some.injEq] at h; subst h
   refine ⟨.func (.func f) (first.map ρ) (captured.map ρ), by simp only [execOp, hop, Instr.makeFunc, Sem.run_bind, Sem.run_pure, Result.andThen_ok], ?_⟩
   simp only [VR]
   refine ⟨(fun l h => by cases h), first.toList.map ρ, captured.toList.map ρ, ?_, VRL.map_ops hρ _, VRL.map_ops hρ _⟩
   congr 1 <;> (apply Array.toList_inj.1; simp)
  ·cases h
 ·rename_i s x f
  obtain ⟨z, h1, h2⟩ := run_fieldAddr hE h (hρ x) w
  exact ⟨z, by simp only [execOp, hop, Sem.run_bind, h1, Result.andThen_ok, Sem.run_pure], h2⟩
 ·rename_i s x f
  obtain ⟨z, h1, h2⟩ := run_field hE h (hρ x) w
  exact ⟨z, by simp only [execOp, hop, Sem.run_bind, h1, Result.andThen_ok, Sem.run_pure], h2⟩
 ·rename_i t x i
  obtain ⟨z, h1, h2⟩ := run_indexAddr hE h (hρ x) (hρ i) w
  exact ⟨z, by simp only [execOp, hop, Sem.run_bind, h1, Result.andThen_ok, Sem.run_pure], h2⟩
 ·rename_i t x i
  obtain ⟨z, h1, h2⟩ := run_index hE h (hρ x) (hρ i) w
  exact ⟨z, by simp only [execOp, hop, Sem.run_bind, h1, Result.andThen_ok, Sem.run_pure], h2⟩
 ·-- extract
  rename_i x i
  have hx := hρ x
  split at h
  ·rename_i vs ht
   rw [ht] at hx
   simp only [VR] at hx
   obtain ⟨l, h2, h3⟩ := hx
   obtain ⟨v, h4, h5⟩ := h3.at_ _ _ h
   exact ⟨v, by simp only [execOp, hop, h2, Instr.extract, List.getElem?_toArray, h4, Sem.run_bind, Sem.run_pure, Result.andThen_ok], h5⟩
  ·cases h
end
section
variable {P : Program} {E : Env} {φ : Phi} {w0 w : World} {g : Heap} {n : Nat}
theorem acell_some {id : Nat} {vs : List AV} (h : acell g id = some vs) : ∃ rw, g id = some (.cells vs rw) := by
 unfold acell at h
 split at h
 ·rename_i vs' rw' hg
  injection h with h; subst h
  exact ⟨rw', hg⟩
 ·cases h
theorem Rel.cells (hR : Rel w0 φ g n w) {id : Nat} {l : Loc} {vs : List AV} {rw : Bool} (hg : g id = some (.cells vs rw)) (hl : φ id = some l) {off k : Nat} {r : List AV} (hc : cut vs off k = some r) :
  ∃ cs : List Value, cs.length = k ∧ VRL φ r cs ∧ ∀ (j : Nat) (v : Value), cs[j]? = some v → w.cell? ((⟨l.c, l.o + off, none⟩ : Addr).add j) = some v := by
 obtain ⟨h1, h2⟩ := cut_some hc
 have hO := (hR.objs id _ l hg hl).1
 have hat : ∀ j : Nat, j < k → ∃ v, w.cell? ⟨l.c, l.o + off + j, none⟩ = some v ∧ ∀ x, r[j]? = some x → VR φ x v := by
  intro j hj
  have hx : r[j]? = some (r[j]'(by omega)) := List.getElem?_eq_getElem (by omega)
  have hx2 : vs[off + j]? = some (r[j]'(by omega)) := by
   rw [← hx, h1, List.getElem?_take, if_pos hj, List.getElem?_drop]
  obtain ⟨v, hv1, hv2⟩ := hO _ _ hx2
  refine ⟨v, by rw [Nat.add_assoc]; exact hv1, fun x hxx => ?_⟩
  rw [hx] at hxx; injection hxx with hxx; subst hxx; exact hv2
 have hex : ∃ f : Nat → Value, ∀ j, j < k → w.cell? ⟨l.c, l.o + off + j, none⟩ = some (f j) ∧ ∀ x, r[j]? = some x → VR φ x (f j) := by
  refine ⟨fun j => (w.cell? ⟨l.c, l.o + off + j, none⟩).getD undef, fun j hj => ?_⟩
  obtain ⟨v, hv1, hv2⟩ := hat j hj
  refine ⟨by simp only [hv1, Option.getD_some], fun x hx => ?_⟩
  simp only [hv1, Option.getD_some]
  exact hv2 x hx
 obtain ⟨f, hf⟩ := hex
 refine ⟨(List.range k).map f, by simp, VRL.of_at (by simp [h2]) fun j x hx => ?_, fun j v hv => ?_⟩
 ·have hj : j < k := by
   have := (List.getElem?_eq_some_iff.1 hx).1
   omega
  exact ⟨f j, by simp [hj], (hf j hj).2 x hx⟩
 ·rw [List.getElem?_map] at hv
  by_cases hj : j < k
  ·rw [List.getElem?_range hj] at hv
   simp only [Option.map_some, Option.some.injEq] at hv
   subst hv
   rw [addr_add]
   exact (hf j hj).1
  ·rw [List.getElem?_eq_none (by simpa using hj)] at hv
   cases hv
theorem run_loadCells_ (a : Addr) (cs : List Value) (h : ∀ (j : Nat) (v : Value), cs[j]? = some v → w.cell? (a.add j) = some v) : (loadCells a cs.length).run P w = .ok cs.toArray w :=
 run_loadCells_list _ a cs h
theorem run_load (hE : EnvOK P E) (hR : Rel w0 φ g n w) {t : TypeId} {x r : AV} {u : Value} (h : aload E g t x = some r) (hu : VR φ x u) : ∃ z, (Instr.loadAt t u).run P w = .ok z w ∧ VR φ r z := by
 unfold aload at h
 split at h
 ·rename_i id off ti ht
  have hT := hE.at_ ht
  simp only [VR] at hu
  obtain ⟨l, hl, rfl⟩ := hu
  split at h
  ·rename_i vs hc
   obtain ⟨rw_, hg⟩ := acell_some hc
   cases hk : ti.k.isAgg with
   | true =>
     rw [hk] at h
     simp only [cond_true] at h
     split at h
     ·rename_i r' hcut
      simp only [Option.some.injEq] at h; subst h
      obtain ⟨cs, h1, h2, h3⟩ := hR.cells hg hl hcut
      refine ⟨.agg cs.toArray, ?_, by simp only [VR]; exact ⟨cs, rfl, h2⟩⟩
      have := run_loadCells_ (P := P) (w := w) ⟨l.c, l.o + off, none⟩ cs h3
      rw [h1] at this
      simp only [Instr.loadAt, Instr.sureAddr, loadVar, Sem.run_bind, Sem.run_pure, Result.andThen_ok, hT.isAgg_, hk, if_true, hT.sizeOf_, this]
     ·cases h
   | false =>
     rw [hk] at h
     simp only [cond_false] at h
     obtain ⟨v, h1, h2⟩ := (hR.objs id _ l hg hl).1 _ _ h
     refine ⟨v, ?_, h2⟩
     have : (load ⟨l.c, l.o + off, none⟩).run P w = .ok v w := by simp [load, Sem.run, Nat.add_assoc, h1]
     simp only [Instr.loadAt, Instr.sureAddr, loadVar, Sem.run_bind, Sem.run_pure, Result.andThen_ok, hT.isAgg_, hk, Bool.false_eq_true, if_false, this]
  ·cases h
 ·cases h
theorem run_first (hR : Rel w0 φ g n w) {es k : Nat} {x : AV} {u : Value} {r : List AV} (h : afirst g es k x = some r) (hu : VR φ x u) (hk : ∀ m, alenOf x = some m → k ≤ m) :
  ∃ cs : List Value, (Builtin.firstCells es k u).run P w = .ok cs.toArray w ∧ VRL φ r cs := by
 unfold afirst at h
 split at h
 ·rename_i id off len cap es' hid
  simp only [VR] at hu
  obtain ⟨l, ad, cc, h1, rfl, h2, h3, h4, h5, h6⟩ := hu
  cases hes : Nat.beq es es' with
  | false => rw [hes] at h; cases h
  | true =>
    rw [hes] at h
    simp only [cond_true] at h
    have := Nat.eq_of_beq_eq_true hes; subst this
    split at h
    ·rename_i vs hc
     obtain ⟨rw_, hg⟩ := acell_some hc
     obtain ⟨cs, c1, c2, c3⟩ := hR.cells hg h1 h
     have hkl : k ≤ len := hk len rfl
     by_cases hz : k * es = 0
     ·have hcs : cs = [] := List.eq_nil_of_length_eq_zero (by omega)
      subst hcs
      refine ⟨[], ?_, c2⟩
      simp only [Builtin.firstCells, hz]
      simp [loadCells, loadCellsFrom, Sem.run_pure]
     ·have hpos : 0 < cc := by
       rcases Nat.eq_zero_or_pos cc with h0 | h0
       ·have : k = 0 := by omega
        subst this; simp at hz
       ·exact h0
      have := h5 hpos; subst this
      have hrun := run_loadCells_ (P := P) (w := w) ⟨l.c, l.o + off, none⟩ cs c3
      rw [c1] at hrun
      exact ⟨cs, by simp only [Builtin.firstCells]; exact hrun, c2⟩
    ·cases h
 ·simp only [VR] at hu; subst hu
  simp only [Option.some.injEq] at h; subst h
  exact ⟨[], by simp [Builtin.firstCells, Sem.run_pure], VRL.nil⟩
 ·rename_i s
  simp only [VR] at hu
  obtain ⟨b, rfl, rfl⟩ := hu
  cases hes : Nat.beq es 1 with
  | false => rw [hes] at h; cases h
  | true =>
  rw [hes] at h
  simp only [cond_true, Option.some.injEq] at h; subst h
  refine ⟨((b.extract 0 k).data.map fun c => Value.int .u8 c.toNat).toList, by simp only [Builtin.firstCells, Sem.run_pure, Array.toArray_toList], ?_⟩
  have hb : bytesOf (b.extract 0 k) = (bytesOf b).take k := by rw [bytesOf_extract]; simp
  rw [← hb]
  unfold bytesOf
  generalize (b.extract 0 k).data = d
  rw [Array.toList_map]
  induction d.toList with
  | nil => simp only [List.map_nil]; exact VRL.nil
  | cons c cs ih => simp only [List.map_cons]; exact VRL.cons (by simp only [VR]) ih
 ·cases h
theorem run_len (hE : EnvOK P E) (hR : Rel w0 φ g n w) {t ty : TypeId} {ts : List TypeId} {us : List Value} {x r : AV} {u : Value} (h : alen E g t x = some r) (hu : VR φ x u) :
  ∃ z, (Builtin.len_ (t :: ts).toArray ty (u :: us).toArray).run P w = .ok z w ∧ VR φ r z := by
 unfold alen at h
 split at h
 ·cases h
 ·rename_i ti ht
  have hT := hE.at_ ht
  obtain ⟨d, hd, hk⟩ := hT.und_
  split at h <;> (try cases h) <;> rename_i hkk <;> rw [hkk] at hk
  ·have := mkK_string hk; subst this
   simp only [VR] at hu
   obtain ⟨b, rfl, rfl⟩ := hu
   refine ⟨goInt b.size, ?_, by simp only [VR, goInt, bytesOf_length]⟩
   simp [Builtin.len_, Sem.run_bind, hd, Sem.run_pure]
  ·have := mkK_arr hk; subst this
   rename_i n' e
   refine ⟨goInt n', ?_, by simp only [VR, goInt]⟩
   simp [Builtin.len_, Sem.run_bind, hd, Sem.run_pure]
  ·have := mkK_slice hk; subst this
   rename_i e id off n' cap es hid
   simp only [VR] at hu
   obtain ⟨l, ad, cc, h1, rfl, h2⟩ := hu
   refine ⟨goInt n', ?_, by simp only [VR, goInt]⟩
   simp [Builtin.len_, Sem.run_bind, hd, Sem.run_pure]
  ·have := mkK_slice hk; subst this
   simp only [VR] at hu; subst hu
   refine ⟨goInt (0 : Nat), ?_, by simp only [VR, goInt]; rfl⟩
   simp [Builtin.len_, Sem.run_bind, hd, Sem.run_pure]
  ·have := mkK_map hk; subst this
   simp only [VR] at hu; subst hu
   refine ⟨goInt 0, ?_, by simp only [VR, goInt]⟩
   simp [Builtin.len_, Sem.run_bind, hd, Sem.run_pure]
  ·have := mkK_map hk; subst this
   rename_i kk ee id
   simp only [VR] at hu
   obtain ⟨l, hl, rfl⟩ := hu
   split at h
   ·rename_i es clock hg
    simp only [Option.some.injEq] at h; subst h
    obtain ⟨ms, hm, hlen, _⟩ := hR.objs id _ l hg hl
    refine ⟨goInt ms.length, ?_, by simp only [VR, goInt, hlen]⟩
    simp [Builtin.len_, Sem.run_bind, hd, Sem.run_pure, getObj, Sem.run, hm]
   ·cases h
theorem run_minmax {mx : Bool} : ∀ {xs : List AV} {x r : AV} {u : Value} {us : List Value}, afoldmm mx x xs = some r → VR φ x u → VRL φ xs us →
  ∃ z, (us.foldlM (if mx then Builtin.max2 else Builtin.min2) u).run P w = .ok z w ∧ VR φ r z
 | [], x, r, u, us, h, hu, hus => by
   simp only [afoldmm, Option.some.injEq] at h; subst h
   simp only [VRL] at hus; subst hus
   exact ⟨u, by simp [Sem.run_pure], hu⟩
 | y :: ys, x, r, u, us, h, hu, hus => by
   simp only [VRL] at hus
   obtain ⟨v, vs, rfl, hv, hvs⟩ := hus
   simp only [afoldmm] at h
   split at h
   ·rename_i z hz
    unfold aminmax at hz
    split at hz
    ·rename_i k a k' b
     simp only [Option.some.injEq] at hz; subst hz
     simp only [VR] at hu hv; subst hu; subst hv
     cases mx with
     | true =>
       obtain ⟨z', h1, h2⟩ := run_minmax (mx := true) (u := .int k (if b > a then b else a)) h (by simp only [VR, cond_true]) hvs
       refine ⟨z', ?_, h2⟩
       simp only [if_true] at h1 ⊢
       simp only [List.foldlM_cons, Sem.run_bind, Builtin.max2, Sem.run_pure, Result.andThen_ok, h1]
     | false =>
       obtain ⟨z', h1, h2⟩ := run_minmax (mx := false) (u := .int k (if b < a then b else a)) h (by simp only [VR, cond_false]) hvs
       refine ⟨z', ?_, h2⟩
       simp only [Bool.false_eq_true, if_false] at h1 ⊢
       simp only [List.foldlM_cons, Sem.run_bind, Builtin.min2, Sem.run_pure, Result.andThen_ok, h1]
    ·cases hz
   ·cases h
end
end Go.Proofs.Ytmjmhpbncfjnpaa.Bm
