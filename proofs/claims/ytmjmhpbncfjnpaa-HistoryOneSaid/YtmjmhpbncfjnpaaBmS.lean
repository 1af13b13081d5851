/- The abstract machine: scopes; marks; results; the parts of a range over a function. -/
import Derived.Test.YtmjmhpbncfjnpaaBmR
set_option linter.unusedSimpArgs false
set_option linter.unusedVariables false
namespace Go.Proofs.Ytmjmhpbncfjnpaa.Bm
open Go.RowKit
section
variable {F : Fence} {n : Nat} {P : Program} {Q : Exit → Act → World → Prop} {a : Act} {w : World} {b : Frame} {k : List Item} {cs : List Frame}
theorem stepR_scope {c : Code} : step P (lone (b.atR a (.code (.scope c) :: k)) cs w) = .next (lone (b.atR a (.code c :: .inScope c :: k)) cs w) :=
 step_lone_go (by simp [stepG, stepG.exec, Frame.atR])
theorem stepR_inScope {c : Code} : step P (lone (b.atR a (.inScope c :: k)) cs w) = .next (lone (b.atR a k) cs w) :=
 step_lone_go (by simp [stepG, stepG.exec, Frame.atR])
def ScopeIn (F : Fence) (n : Nat) (P : Program) (cur body : Code) (Q : Exit → Act → World → Prop) (a : Act) (w : World) : Prop :=
 ∀ (b : Frame) (k : List Item) (cs : List Frame), b.roundOf = F.round → F.fn b.fn → F.room (cs.length + 1 + n) →
  ∃ e a' w', Q e a' w' ∧ ArrivesIn (Machine.fenced P F) P (lone (b.atR a (.code cur :: .inScope body :: k)) cs w) b k cs e a' w'
theorem scopeIn_of {cur body : Code} (h : cur.wpIn F n P (fun e a' w' => match e with
   | .goto l => (∃ rest, findLabel body l = some rest ∧ ScopeIn F n P rest body Q a' w') ∨ (findLabel body l = none ∧ Q (.goto l) a' w')
   | e => Q e a' w') a w) : ScopeIn F n P cur body Q a w := by
 intro b k cs hro hb hr
 obtain ⟨e, a₁, w₁, hq, harr⟩ := h b (.inScope body :: k) cs hro hb hr
 cases e with
 | normal => exact ⟨.normal, a₁, w₁, hq, StepsIn.trans harr (.one (fenced_calm hb hr rfl) stepR_inScope)⟩
 | exit id =>
   have hx : exitTo id (.inScope body :: k) = exitTo id k := by simp [exitTo]
   exact ⟨.exit id, a₁, w₁, hq, fun k' hk => harr.1 k' (by rw [hx]; exact hk), fun hr' hk => harr.2 hr' (by rw [hx]; exact hk)⟩
 | goto l =>
   rcases hq with ⟨rest, hf, hs⟩ | ⟨hf, hq⟩
   ·have hg : gotoIn l (.inScope body :: k) = some (.code rest :: .inScope body :: k) := by simp [gotoIn, hf]
    obtain ⟨e, a₂, w₂, hq₂, harr₂⟩ := hs b k cs hro hb hr
    exact ⟨e, a₂, w₂, hq₂, .of_steps (harr.1 _ hg) harr₂⟩
   ·have hg : gotoIn l (.inScope body :: k) = gotoIn l k := by simp [gotoIn, hf]
    exact ⟨.goto l, a₁, w₁, hq, fun k' hk => harr.1 k' (by rw [hg]; exact hk), fun hr' hk => harr.2 hr' (by rw [hg]; exact hk)⟩
 | ret => exact ⟨_, a₁, w₁, hq, harr⟩
 | panic ch => exact ⟨_, a₁, w₁, hq, harr⟩
 | outgrown => exact ⟨_, a₁, w₁, hq, harr⟩
theorem wpIn_scope {body : Code} (h : ScopeIn F n P body body Q a w) : (Code.scope body).wpIn F n P Q a w := by
 intro b k cs hro hb hr
 obtain ⟨e, a₁, w₁, hq, harr⟩ := h b k cs hro hb hr
 exact ⟨e, a₁, w₁, hq, .of_steps (.one (fenced_calm hb hr rfl) stepR_scope) harr⟩
end
section
variable {P : Program} {E : Env} {w0 w w' : World} {φ φ' : Phi} {g : Heap} {n : Nat} {σ σ' : St} {fr fr' : Fr} {a : Act} {r : Option Nat} {rec : Job → St → Option (Out × St)}
theorem Rel.drop (hR : Rel w0 φ g n w) {id : Nat} {o : AObj} {l : Loc} (hg : g id = some o) (hl : φ id = some l) (hrw : o.rw = true) (hT : Turned w w' l.c) :
  Rel w0 φ (gset g id none) n w' ∧ Ext w0 φ g n w φ (gset g id none) n w' := by
 have hown := (hR.own id o l hg hl).1 hrw
 have hk := hR.kill id
 have pull : ∀ i oi, gset g id none i = some oi → i ≠ id ∧ g i = some oi := by
  intro i oi h
  by_cases hi : i = id
  ·subst hi; simp [gset] at h
  ·exact ⟨hi, by simpa [gset, hi] using h⟩
 refine ⟨⟨?_, hk.own, hk.inj, hk.fresh, hk.gfresh, ?_⟩, ⟨fun _ _ h => h, fun _ _ h => h, ?_, ?_, ?_, Nat.le_refl _, by rw [hT.size]; exact Nat.le_refl _⟩⟩
 ·intro i oi li hgi hli
  obtain ⟨h1, h2⟩ := pull i oi hgi
  have hne : l.c ≠ li.c := hR.inj id i o oi l li (fun e => h1 e.symm) hg h2 hl hli hrw
  exact (hR.objs i oi li h2 hli).keep (hT.block _ (fun e => hne e.symm)) (fun _ _ h => h)
 ·have hb := hR.below
  exact ⟨hT.os.trans hb.os, hT.tape.trans hb.tape, hT.output.trans hb.output, by rw [hT.size]; exact hb.size, fun k hk => (hT.block k (by omega)).trans (hb.block k hk)⟩
 ·intro i hi h
  have : i ≠ id := fun e => by subst e; rw [h] at hl; cases hl
  simp [gset, this]
 ·intro c hc hno
  exact hT.block c (fun e => hno id o l hg hl hrw e.symm)
 ·intro i oi li hgi hli hr
  obtain ⟨h1, h2⟩ := pull i oi hgi
  exact .inr ⟨i, oi, li, h2, hli, hr, rfl⟩
theorem run_resultL (hE : EnvOK P E) (hR : Rel w0 φ g n w) {tm : Array Value} (hf : ∀ t, VR φ (fr.get t) (tm.getD t undef)) {f : ResultVar → Sem Value} (f1 : ∀ t, f (.tmp t) = pure (tm.getD t undef))
  (f2 : ∀ a t, f (.cell a t) = do loadVar t (← asAddr (tm.getD a undef))) : ∀ (rs : List ResultVar) (vs : List AV), aresult E fr g rs = some vs → ∃ us : List Value, (rs.mapM f).run P w = .ok us w ∧ VRL φ vs us
 | [], vs, h => by
   simp only [aresult, Option.some.injEq] at h; subst h
   exact ⟨[], by simp [Sem.run_pure], VRL.nil⟩
 | .tmp t :: rs, vs, h => by
   simp only [aresult] at h
   split at h
   ·rename_i l hl
    simp only [Option.some.injEq] at h; subst h
    obtain ⟨us, h1, h2⟩ := run_resultL hE hR hf f1 f2 rs l hl
    refine ⟨tm.getD t undef :: us, ?_, VRL.cons (hf t) h2⟩
    rw [List.mapM_cons, f1]
    simp only [Sem.run_bind, Sem.run_pure, Result.andThen_ok, h1]
   ·cases h
 | .cell a t :: rs, vs, h => by
   simp only [aresult] at h
   split at h
   ·rename_i v l hv hl
    simp only [Option.some.injEq] at h; subst h
    obtain ⟨us, h1, h2⟩ := run_resultL hE hR hf f1 f2 rs l hl
    obtain ⟨z, z1, z2⟩ := run_load (P := P) hE hR hv (hf a)
    have hz : (f (.cell a t)).run P w = .ok z w := by
     have hp : ∃ ad, tm.getD a undef = .pointer (some ad) := by
      have hva := hf a
      unfold aload at hv
      split at hv
      ·rename_i id off ti hx ht
       rw [hx] at hva
       simp only [VR] at hva
       obtain ⟨l, _, e⟩ := hva
       exact ⟨_, e⟩
      ·cases hv
     obtain ⟨ad, had⟩ := hp
     rw [f2, had]
     rw [had] at z1
     simp only [Instr.loadAt, Instr.sureAddr, Sem.run_bind, Sem.run_pure, Result.andThen_ok] at z1
     simp only [asAddr, Sem.run_bind, Sem.run_pure, Result.andThen_ok, z1]
    refine ⟨z :: us, ?_, VRL.cons z2 h2⟩
    rw [List.mapM_cons]
    simp only [Sem.run_bind, hz, Sem.run_pure, Result.andThen_ok, h1]
   ·cases h
theorem run_results (hE : EnvOK P E) (hR : Rel w0 φ g n w) {tm : Array Value} (hf : ∀ t, VR φ (fr.get t) (tm.getD t undef)) {fn : Func} {v : AV} (h : aresults E fr g fn.results.toList = some v) :
  ∃ u, (results fn tm).run P w = .ok u w ∧ VR φ v u := by
 unfold aresults at h
 have key : ∀ vs, aresult E fr g fn.results.toList = some vs → ∃ us : List Value, (results fn tm).run P w = .ok (if h : us.toArray.size = 1 then us.toArray[0] else .tuple us.toArray) w ∧ VRL φ vs us := by
  intro vs hvs
  obtain ⟨us, h1, h2⟩ := run_resultL hE hR hf (f := fun
   | .tmp t => pure (tm.getD t undef)
   | .cell a t => do loadVar t (← asAddr (tm.getD a undef))) (fun _ => rfl) (fun _ _ => rfl) _ _ hvs
  refine ⟨us, ?_, h2⟩
  have h3 : (fn.results.mapM (m := Sem) fun
   | .tmp t => pure (tm.getD t undef)
   | .cell a t => do loadVar t (← asAddr (tm.getD a undef))).run P w = .ok us.toArray w := by
   rw [← Array.toArray_toList (xs := fn.results), List.mapM_toArray]
   rw [show ∀ (s : Sem (List Value)), (List.toArray <$> s) = (s >>= fun x => pure x.toArray) from fun s => rfl]
   rw [Sem.run_bind, h1]
   rfl
  show ((fn.results.mapM (m := Sem) fun
   | .tmp t => pure (tm.getD t undef)
   | .cell a t => do loadVar t (← asAddr (tm.getD a undef))) >>= fun vs => pure (if h : vs.size = 1 then vs[0] else .tuple vs)).run P w = _
  rw [Sem.run_bind, h3]
  rfl
 split at h
 ·rename_i v' hv
  simp only [Option.some.injEq] at h; subst h
  obtain ⟨us, h1, h2⟩ := key _ hv
  simp only [VRL] at h2
  obtain ⟨u, ys, rfl, h3, rfl⟩ := h2
  exact ⟨u, by rw [h1]; simp, h3⟩
 ·rename_i l hne hl
  simp only [Option.some.injEq] at h; subst h
  obtain ⟨us, h1, h2⟩ := key _ hl
  refine ⟨.tuple us.toArray, ?_, by simp only [VR]; exact ⟨us, rfl, h2⟩⟩
  rw [h1]
  have : us.toArray.size ≠ 1 := by
   intro e
   have hl1 : l.length = 1 := by rw [← h2.length]; simpa using e
   match l, hl1 with
   | [x], _ => exact hne x rfl
  rw [dif_neg this]
 ·cases h
end
end Go.Proofs.Ytmjmhpbncfjnpaa.Bm
