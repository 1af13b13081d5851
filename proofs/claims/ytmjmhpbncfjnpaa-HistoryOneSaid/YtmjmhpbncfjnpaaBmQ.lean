/- The abstract machine: each operation that changes the heap; frames; guards. -/
import Derived.Test.YtmjmhpbncfjnpaaBmP
set_option linter.unusedSimpArgs false
set_option linter.unusedVariables false
namespace Go.Proofs.Ytmjmhpbncfjnpaa.Bm
open Go.RowKit
section
variable {P : Program} {E : Env} {w0 w w' : World} {φ : Phi} {g : Heap} {n : Nat} {σ σ' : St}
def ArgsR (φ : Phi) (ρ : Operand → Value) (op : Op) (v1 v2 : AV) : Prop :=
 ∀ c b, op = .call c → c.callee = .builtin b → (∀ x xs, c.args.toList = x :: xs → VR φ v1 (ρ x)) ∧ (∀ x y xs, c.args.toList = x :: y :: xs → VR φ v2 (ρ y))
theorem eff_aeff0 (hE : EnvOK P E) (hR : Rel w0 φ σ.get σ.next w) {ρa : Operand → AV} {ρ : Operand → Value} (hρ : ∀ x, VR φ (ρa x) (ρ x)) {o : Oper} {v v1 v2 : AV} (hV : ArgsR φ ρ o.op v1 v2) (h : aeff0 E v1 v2 ρa σ o.op = some (v, σ')) :
  EffOK P w0 φ σ w (execOp ρ o) v σ' := by
 unfold aeff0 at h
 split at h <;> rename_i hop
 ·rename_i t a x
  split at h
  ·rename_i σ1 hs
   simp only [Option.some.injEq, Prod.mk.injEq] at h
   obtain ⟨rfl, rfl⟩ := h
   obtain ⟨w', h1, h2, h3⟩ := eff_store (P := P) hE hR hs (hρ a) (hρ x)
   exact ⟨φ, w', .inl ⟨by simp only [execOp, hop, Sem.run_bind, h1, Result.andThen_ok, Sem.run_pure], rfl⟩, h2, h3⟩
  ·cases h
 ·rename_i t m k x
  split at h
  ·rename_i σ1 hs
   simp only [Option.some.injEq, Prod.mk.injEq] at h
   obtain ⟨rfl, rfl⟩ := h
   obtain ⟨w', h1, h2, h3⟩ := eff_mapUpdate (P := P) hE hR hs (hρ m) (hρ k) (hρ x)
   exact ⟨φ, w', .inl ⟨by simp only [execOp, hop, Sem.run_bind, h1, Result.andThen_ok, Sem.run_pure], rfl⟩, h2, h3⟩
  ·cases h
 ·rename_i t m k x
  split at h
  ·rename_i σ1 hs
   simp only [Option.some.injEq, Prod.mk.injEq] at h
   obtain ⟨rfl, rfl⟩ := h
   obtain ⟨w', h1, h2, h3⟩ := eff_mapUpdate (P := P) hE hR hs (hρ m) (hρ k) (hρ x)
   exact ⟨φ, w', .inl ⟨by simp only [execOp, hop, Sem.run_bind, h1, Result.andThen_ok, Sem.run_pure], rfl⟩, h2, h3⟩
  ·cases h
 ·rename_i t m k
  obtain ⟨z, w', h1, h2, h3, h4⟩ := eff_mapEntry (P := P) hE hR h (hρ m) (hρ k)
  exact ⟨φ, w', .inr ⟨z, by simp only [execOp, hop, Sem.run_bind, h1, Result.andThen_ok, Sem.run_pure], h2⟩, h3, h4⟩
 ·rename_i t m s x
  split at h
  ·rename_i σ1 hs
   simp only [Option.some.injEq, Prod.mk.injEq] at h
   obtain ⟨rfl, rfl⟩ := h
   obtain ⟨w', h1, h2, h3⟩ := eff_entryStore (P := P) (t := t) hR hs (hρ m) (hρ s) (hρ x)
   exact ⟨φ, w', .inl ⟨by simp only [execOp, hop, Sem.run_bind, h1, Result.andThen_ok, Sem.run_pure], rfl⟩, h2, h3⟩
  ·cases h
 ·rename_i t x
  obtain ⟨φ', z, w', h1, h2, h3, h4⟩ := eff_range (P := P) hE hR h (hρ x)
  exact ⟨φ', w', .inr ⟨z, by simp only [execOp, hop, Sem.run_bind, h1, Result.andThen_ok, Sem.run_pure], h2⟩, h3, h4⟩
 ·rename_i it b
  obtain ⟨z, w', h1, h2, h3, h4⟩ := eff_next (P := P) (ty := o.type) hR h (hρ it)
  exact ⟨φ, w', .inr ⟨z, by simp only [execOp, hop, Sem.run_bind, h1, Result.andThen_ok, Sem.run_pure], h2⟩, h3, h4⟩
 ·rename_i it
  obtain ⟨z, w', h1, h2, h3, h4⟩ := eff_entry (P := P) hR h (hρ it)
  exact ⟨φ, w', .inr ⟨z, by simp only [execOp, hop, Sem.run_bind, h1, Result.andThen_ok, Sem.run_pure], h2⟩, h3, h4⟩
 ·rename_i c
  split at h
  ·rename_i s x t xt hc ha hty
   obtain ⟨φ', z, w', h1, h2, h3, h4⟩ := eff_append (P := P) (ty := o.type) hE hR h ((hV c _ hop hc).1 _ _ ha) ((hV c _ hop hc).2 _ _ _ ha)
   refine ⟨φ', w', .inr ⟨z, ?_, h2⟩, h3, h4⟩
   simp only [execOp, hop, resolve, hc, Sem.run_bind, Sem.run_pure, Result.andThen_ok, invoke, builtin, map_cons_array ρ ha, List.map_cons, List.map_nil]
   rw [cons_array hty, h1]
   simp only [Result.andThen_ok, Sem.run_pure]
  ·rename_i d s ss t ts hc ha hty
   obtain ⟨z, w', h1, h2, h3, h4⟩ := eff_copy (P := P) (ty := o.type) (ts := ts) (us := ss.map ρ) hE hR h ((hV c _ hop hc).1 _ _ ha) ((hV c _ hop hc).2 _ _ _ ha)
   refine ⟨φ, w', .inr ⟨z, ?_, h2⟩, h3, h4⟩
   simp only [execOp, hop, resolve, hc, Sem.run_bind, Sem.run_pure, Result.andThen_ok, invoke, builtin, map_cons_array ρ ha, List.map_cons]
   rw [cons_array hty, h1]
   simp only [Result.andThen_ok, Sem.run_pure]
  ·rename_i m k ss t ts hc ha hty
   split at h
   ·rename_i σ1 hs
    simp only [Option.some.injEq, Prod.mk.injEq] at h
    obtain ⟨rfl, rfl⟩ := h
    obtain ⟨w', h1, h2, h3⟩ := eff_delete (P := P) (ty := o.type) (ts := ts) (us := ss.map ρ) hE hR hs ((hV c _ hop hc).1 _ _ ha) ((hV c _ hop hc).2 _ _ _ ha)
    refine ⟨φ, w', .inr ⟨undef, ?_, VR.undef_⟩, h2, h3⟩
    simp only [execOp, hop, resolve, hc, Sem.run_bind, Sem.run_pure, Result.andThen_ok, invoke, builtin, map_cons_array ρ ha, List.map_cons]
    rw [cons_array hty, h1]
    simp only [Result.andThen_ok, Sem.run_pure]
   ·cases h
  ·rename_i x ss t ts hc ha hty
   split at h
   ·rename_i σ1 hs
    simp only [Option.some.injEq, Prod.mk.injEq] at h
    obtain ⟨rfl, rfl⟩ := h
    obtain ⟨w', h1, h2, h3⟩ := eff_clear (P := P) (ty := o.type) (ts := ts) (us := ss.map ρ) hE hR hs ((hV c _ hop hc).1 _ _ ha)
    refine ⟨φ, w', .inr ⟨undef, ?_, VR.undef_⟩, h2, h3⟩
    simp only [execOp, hop, resolve, hc, Sem.run_bind, Sem.run_pure, Result.andThen_ok, invoke, builtin, map_cons_array ρ ha, List.map_cons]
    rw [cons_array hty, h1]
    simp only [Result.andThen_ok, Sem.run_pure]
   ·cases h
  ·cases h
 ·cases h
end
end Go.Proofs.Ytmjmhpbncfjnpaa.Bm
