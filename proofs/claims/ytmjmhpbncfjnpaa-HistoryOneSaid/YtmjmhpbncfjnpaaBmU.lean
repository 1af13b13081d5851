/- The abstract machine: runs. -/
import Derived.Test.YtmjmhpbncfjnpaaBmT
set_option linter.unusedSimpArgs false
set_option linter.unusedVariables false
namespace Go.Proofs.Ytmjmhpbncfjnpaa.Bm
open Go.RowKit
section
variable {F : Fence} {n : Nat} {P : Program} {Q : Exit → Act → World → Prop} {a : Act} {w : World}
def LoopIn (F : Fence) (n : Nat) (P : Program) (c : Code) (Q : Exit → Act → World → Prop) (a : Act) (w : World) : Prop :=
 ∀ (b : Frame) (k : List Item) (cs : List Frame), b.roundOf = F.round → F.fn b.fn → F.room (cs.length + 1 + n) →
  ∃ e a' w', Q e a' w' ∧ ArrivesIn (Machine.fenced P F) P (lone (b.atR a (.code c :: .inLoop c :: k)) cs w) b k cs e a' w'
theorem loopIn_of {c : Code} (h : c.wpIn F n P (Exit.then (LoopIn F n P c Q) Q) a w) : LoopIn F n P c Q a w := by
 intro b k cs hro hb hr
 obtain ⟨e, a₁, w₁, hq, harr⟩ := h b (.inLoop c :: k) cs hro hb hr
 cases e with
 | normal =>
   obtain ⟨e₂, a₂, w₂, hq₂, harr₂⟩ := hq b k cs hro hb hr
   exact ⟨e₂, a₂, w₂, hq₂, .of_steps (StepsIn.trans harr (.one (fenced_calm hb hr rfl) stepR_inLoop)) harr₂⟩
 | exit id => exact ⟨_, a₁, w₁, hq, .pass (x := .inLoop c) rfl (fun _ _ => .inl (by simp)) harr⟩
 | goto l => exact ⟨_, a₁, w₁, hq, .pass (x := .inLoop c) rfl (fun _ _ => .inl (by simp)) harr⟩
 | ret => exact ⟨_, a₁, w₁, hq, .pass (x := .inLoop c) rfl (fun _ _ => .inl (by simp)) harr⟩
 | panic ch => exact ⟨_, a₁, w₁, hq, .pass (x := .inLoop c) rfl (fun _ _ => .inl (by simp)) harr⟩
 | outgrown => exact ⟨_, a₁, w₁, hq, .pass (x := .inLoop c) rfl (fun _ _ => .inl (by simp)) harr⟩
theorem wpIn_loopIn {c : Code} (h : LoopIn F n P c Q a w) : (Code.loop c).wpIn F n P Q a w := by
 intro b k cs hro hb hr
 obtain ⟨e, a₁, w₁, hq, harr⟩ := h b k cs hro hb hr
 exact ⟨e, a₁, w₁, hq, .of_steps (.one (fenced_calm hb hr rfl) stepR_loop) harr⟩
end
def Ex.out : Ex → Exit
 | .normal => .normal
 | .exit id => .exit id
 | .goto l => .goto l
 | .ret => .ret
def CallOK (P : Program) (w0 : World) (f : FuncId) (args : List AV) (σ : St) (v : AV) (σ' : St) : Prop :=
 (∃ fn, P.funcs[f]? = some fn ∧ fn.body.isNone = false ∧ (fn.name == "runtime.NumGoroutine") = false) ∧
 ∀ n φ w us, Rel w0 φ σ.get σ.next w → VRL φ args us → CallsIn (fen none) n P f us.toArray w (Ret w0 φ σ w v σ')
def YldOK (P : Program) (w0 : World) (id : Nat) (args : List AV) (σ : St) (v : AV) (σ' : St) : Prop :=
 ∀ n φ w us lo, Rel w0 φ σ.get σ.next w → VRL φ args us → φ id = some lo → ∃ f t a b, (Instr.yield lo.c us.toArray).run P w = .ok (.round lo.c f t a b) w ∧ RoundIn (fen none) n P lo.c f t a b w (Ret w0 φ σ w v σ')
def CodeOK (P : Program) (w0 : World) (c : Code) (fr : Fr) (σ : St) (e : Exit) (fr' : Fr) (σ' : St) : Prop :=
 ∀ n r φ w a, Rel w0 φ σ.get σ.next w → FrR φ fr a r → c.wpIn (fen r) n P (CodePost w0 φ σ w r e fr' σ') a w ∧
  ∀ body, c = .loop body → LoopIn (fen r) n P body (CodePost w0 φ σ w r e fr' σ') a w
def JobOK (P : Program) (E : Env) (w0 : World) : Job → St → Out → St → Prop
 | .code c fr, σ, .ex e fr', σ' => CodeOK P w0 (erase E c) fr σ e.out fr' σ'
 | .scope cur body fr, σ, .ex e fr', σ' => ∀ n r φ w a, Rel w0 φ σ.get σ.next w → FrR φ fr a r → ScopeIn (fen r) n P cur body (CodePost w0 φ σ w r e.out fr' σ') a w
 | .call f args, σ, .val v, σ' => CallOK P w0 f args σ v σ'
 | .yld l args, σ, .val v, σ' => YldOK P w0 l args σ v σ'
 | .val fv args, σ, .val v, σ' => ValOK P w0 fv args σ v σ'
 | _, _, _, _ => False
def LpOK (P : Program) (w0 : World) (E : Env) : Prop :=
 ∀ id g fr σ e fr' σ', E.lp id = some g → (g.run fr σ).run = some (e, fr', σ') → CodeOK P w0 g.code fr σ e.out fr' σ'
def IntrOK (P : Program) (w0 : World) (E : Env) : Prop :=
 LpOK P w0 E ∧ ∀ f g args σ v σ', E.intr f = some g → (g.run args σ).run = some (v, σ') → CallOK P w0 f args σ v σ'
section
variable {P : Program} {E : Env} {w0 w w' : World} {φ φ' : Phi} {g : Heap} {n : Nat} {σ σ' σ1 : St} {fr fr' fr1 : Fr} {a : Act} {r : Option Nat} {rec : Job → St → Option (Out × St)}
theorem enter_sound (hR : Rel w0 φ σ.get σ.next w) (hF : FrR φ fr a r) {ps : Array Tmp} {assign body : Code} {l : Nat} (h : aenter fr σ ps.toList assign body = some (l, fr1, σ1)) (fn : FuncId) :
  ∃ lc mark w1 φ1 lo, (Instr.enterLoop fn a.tmps ps assign body r).run P w = .ok (lc, mark) w1 ∧ φ1 l = some lo ∧ lo.c = lc ∧ FrR φ1 fr1 { a with defers := mark ++ a.defers } r ∧
   Rel w0 φ1 σ1.get σ1.next w1 ∧ Ext w0 φ σ.get σ.next w φ1 σ1.get σ1.next w1 := by
 unfold aenter at h
 split at h
 ·rename_i hrnd
  have hr : r = none := by have := hF.rnd; rw [hrnd] at this; exact this
  subst hr
  simp only [Option.some.injEq, Prod.mk.injEq] at h
  obtain ⟨rfl, rfl, rfl⟩ := h
  obtain ⟨r1, x1⟩ := eff_new hR (Laid.alloc w (.deferred (some []))) (o := .defd) (l := ⟨w.heap.size, 0, 0⟩) rfl rfl (Laid.new w _)
  have hle1 := x1.le
  have hs1 : (w.alloc (.deferred (some []))).heap.size = w.heap.size + 1 := (Laid.alloc w _).size
  obtain ⟨r2, x2⟩ := eff_new r1 (Laid.alloc (w.alloc (.deferred (some []))) (.loop { state := .ready, pending := none, fn := fn, tmps := a.tmps, params := ps, assign := assign, body := body, defers := w.heap.size }))
   (o := .loop { st := .ready, pend := none, tmps := fr.tmps, size := fr.size, params := ps.toList, assign := assign, body := body, dfr := σ.next }) (l := ⟨(w.alloc (.deferred (some []))).heap.size, 0, 0⟩) rfl rfl
   ⟨fn, a.tmps, ⟨w.heap.size, 0, 0⟩, by rw [Laid.new], upd_le _ (r1.fresh _ (Nat.le_refl _)) _ _ (upd_same _ _ _),
     (hF.tmps.mono hle1).mono (upd_le _ (r1.fresh _ (Nat.le_refl _)))⟩
  refine ⟨_, [{ target := .collected w.heap.size, args := #[] }], _, _, _, ?_, upd_same _ _ _, rfl, ?_, r2, x1.trans x2⟩
  ·simp only [Instr.enterLoop, Sem.run_bind, newObj_run, Result.andThen_ok, Sem.run_pure]
  ·refine ⟨(hF.tmps.mono hle1).mono x2.le, ⟨⟨w.heap.size, 0, 0⟩, a.defers, x2.le _ _ (upd_same _ _ _), rfl, DefR.mono x2.le _ _ (DefR.mono hle1 _ _ hF.defs)⟩, ?_⟩
   show RndR _ fr.rnd none
   rw [hrnd]; rfl
 ·rename_i l0 hrnd
  have hrr := hF.rnd
  rw [hrnd] at hrr
  obtain ⟨lo0, hl0, rfl⟩ := hrr
  split at h
  ·rename_i lp hg
   simp only [Option.some.injEq, Prod.mk.injEq] at h
   obtain ⟨rfl, rfl, rfl⟩ := h
   obtain ⟨fn0, tm0, ld, h1, h2, h3⟩ := hR.objs l0 _ lo0 hg hl0
   have hgo : (getObj lo0.c).run P w = .ok _ w := getObj_run h1 (fun _ _ _ h => by cases h)
   obtain ⟨r2, x2⟩ := eff_new hR (Laid.alloc w (.loop { state := .ready, pending := none, fn := fn, tmps := a.tmps, params := ps, assign := assign, body := body, defers := ld.c }))
    (o := .loop { st := .ready, pend := none, tmps := fr.tmps, size := fr.size, params := ps.toList, assign := assign, body := body, dfr := lp.dfr }) (l := ⟨w.heap.size, 0, 0⟩) rfl rfl
    ⟨fn, a.tmps, ld, by rw [Laid.new], upd_le _ (hR.fresh _ (Nat.le_refl _)) _ _ h2, hF.tmps.mono (upd_le _ (hR.fresh _ (Nat.le_refl _)))⟩
   refine ⟨_, [], _, _, _, ?_, upd_same _ _ _, rfl, ?_, r2, x2⟩
   ·simp only [Instr.enterLoop, Instr.getLoop, Sem.run_bind, hgo, newObj_run, Result.andThen_ok, Sem.run_pure]
   ·exact hF.mono x2.le
  ·cases h
theorem loop_turn (hR : Rel w0 φ σ.get σ.next w) {id : Nat} {lo : Loc} {lp : ALoop} (hg : σ.get id = some (.loop lp)) (hl : φ id = some lo) (s : LoopState) (j : Option Code) :
  ∃ L : Loop, w.heap[lo.c]? = some (.loop L) ∧ L.state = lp.st ∧ L.pending = lp.pend ∧
   ∃ w', (setObj lo.c (.loop { L with state := s, pending := j })).run P w = .ok () w' ∧ Rel w0 φ (σ.put id (.loop { lp with st := s, pend := j })).get (σ.put id (.loop { lp with st := s, pend := j })).next w' ∧
    Ext w0 φ σ.get σ.next w φ (σ.put id (.loop { lp with st := s, pend := j })).get (σ.put id (.loop { lp with st := s, pend := j })).next w' := by
 obtain ⟨fn0, tm0, ld, h1, h2, h3⟩ := hR.objs id _ lo hg hl
 refine ⟨_, h1, rfl, rfl, ?_⟩
 obtain ⟨w', s1, s2, s3⟩ := run_setObj (P := P) (o' := .loop { state := s, pending := j, fn := fn0, tmps := tm0, params := lp.params.toArray, assign := lp.assign, body := lp.body, defers := ld.c }) h1 (fun _ _ _ h => by cases h)
 obtain ⟨r1, r2⟩ := hR.turn hg hl rfl rfl (o' := .loop { lp with st := s, pend := j }) s2 ⟨fn0, tm0, ld, s3, h2, h3⟩
 exact ⟨w', s1, by rw [get_put]; exact r1, by rw [get_put]; exact r2⟩
theorem getLoop_run {r : Nat} {L : Loop} (h : w.heap[r]? = some (.loop L)) : (Instr.getLoop r).run P w = .ok L w := by
 simp only [Instr.getLoop, Sem.run_bind, getObj_run h (fun _ _ _ h => by cases h), Result.andThen_ok, Sem.run_pure]
theorem end_sound (hR : Rel w0 φ σ.get σ.next w) {id : Nat} {lo : Loc} {lp : ALoop} (hg : σ.get id = some (.loop lp)) (hl : φ id = some lo) (hs : lp.st ≠ .busy) :
  ∃ w', (Instr.endLoop lo.c).run P w = .ok lp.pend w' ∧ Rel w0 φ (σ.put id (.loop { lp with st := .exhausted })).get (σ.put id (.loop { lp with st := .exhausted })).next w' ∧
    Ext w0 φ σ.get σ.next w φ (σ.put id (.loop { lp with st := .exhausted })).get (σ.put id (.loop { lp with st := .exhausted })).next w' := by
 obtain ⟨L, h1, h2, h3, w', s1, s2, s3⟩ := loop_turn (P := P) hR hg hl .exhausted lp.pend
 refine ⟨w', ?_, s2, s3⟩
 have hb : (L.state == LoopState.busy) = false := by
  rw [h2]
  cases hst : lp.st <;> first | rfl | exact absurd hst hs
 simp only [Instr.endLoop, Sem.run_bind, getLoop_run h1, Result.andThen_ok, hb, Bool.false_eq_true, if_false, Sem.run_pure, h3, s1]
theorem begin_sound (hR : Rel w0 φ σ.get σ.next w) {id : Nat} {lo : Loc} {lp : ALoop} (hg : σ.get id = some (.loop lp)) (hl : φ id = some lo) (hs : lp.st = .ready) :
  ∃ w', (Instr.beginRound lo.c).run P w = .ok () w' ∧ Rel w0 φ (σ.put id (.loop { lp with st := .busy })).get (σ.put id (.loop { lp with st := .busy })).next w' ∧
    Ext w0 φ σ.get σ.next w φ (σ.put id (.loop { lp with st := .busy })).get (σ.put id (.loop { lp with st := .busy })).next w' := by
 obtain ⟨L, h1, h2, h3, w', s1, s2, s3⟩ := loop_turn (P := P) hR hg hl .busy lp.pend
 refine ⟨w', ?_, s2, s3⟩
 rw [← h3] at s1
 simp only [Instr.beginRound, Sem.run_bind, getLoop_run h1, Result.andThen_ok, s1, h2, hs, Sem.run_pure]
theorem endRound_sound (hR : Rel w0 φ σ.get σ.next w) {id : Nat} {lo : Loc} {lp : ALoop} (hg : σ.get id = some (.loop lp)) (hl : φ id = some lo) (j : Option Code) :
  ∃ w', (Instr.endRound lo.c j).run P w = .ok (.bool j.isNone) w' ∧ Rel w0 φ (σ.put id (.loop { lp with st := cond j.isNone .ready .done, pend := j })).get (σ.put id (.loop { lp with st := cond j.isNone .ready .done, pend := j })).next w' ∧
    Ext w0 φ σ.get σ.next w φ (σ.put id (.loop { lp with st := cond j.isNone .ready .done, pend := j })).get (σ.put id (.loop { lp with st := cond j.isNone .ready .done, pend := j })).next w' := by
 obtain ⟨L, h1, h2, h3, w', s1, s2, s3⟩ := loop_turn (P := P) hR hg hl (cond j.isNone .ready .done) j
 refine ⟨w', ?_, s2, s3⟩
 have e : (if j.isNone then LoopState.ready else .done) = cond j.isNone LoopState.ready .done := by cases j <;> rfl
 simp only [Instr.endRound, Sem.run_bind, getLoop_run h1, Result.andThen_ok, e, s1, Sem.run_pure]
theorem putAll_sound {k : Nat} : ∀ (ps : List Tmp) (vs : List AV) (t t' : Tr AV) (us : List Value) (arr : Array Value), putAll ps vs k t = some t' → TmpsR φ t k arr → VRL φ vs us →
  us.length = ps.length ∧ TmpsR φ t' k ((ps.zip us).foldl (fun tmps x => tmps.setIfInBounds x.1 x.2) arr)
 | [], [], t, t', us, arr, h, ht, hu => by
   simp only [putAll, Option.some.injEq] at h; subst h
   simp only [VRL] at hu; subst hu
   exact ⟨rfl, ht⟩
 | [], _ :: _, t, t', us, arr, h, ht, hu => by simp [putAll] at h
 | _ :: _, [], t, t', us, arr, h, ht, hu => by simp [putAll] at h
 | p :: ps, v :: vs, t, t', us, arr, h, ht, hu => by
   simp only [putAll] at h
   cases hb : Nat.blt p k with
   | false => rw [hb] at h; cases h
   | true =>
     rw [hb] at h
     simp only [cond_true] at h
     simp only [VRL] at hu
     obtain ⟨u, us', rfl, h1, h2⟩ := hu
     have hlt : p < k := by simpa [Nat.blt_eq] using hb
     obtain ⟨q1, q2⟩ := putAll_sound ps vs _ t' us' _ h (ht.put hlt h1) h2
     exact ⟨by simp [q1], by simpa using q2⟩
theorem ofList_get {α : Type} : ∀ (xs : List α) (i : Nat) (t : Tr α) (j : Nat), (Tr.ofList xs i t).get j = if i ≤ j ∧ j < i + xs.length then xs[j - i]? else t.get j
 | [], i, t, j => by simp only [Tr.ofList, List.length_nil]; rw [if_neg (by omega)]
 | x :: xs, i, t, j => by
   have e : Nat.succ i = i + 1 := rfl
   simp only [Tr.ofList, List.length_cons]
   rw [ofList_get xs, e, Tr.get_set]
   by_cases hj : j = i
   ·subst hj
    rw [if_neg (by omega), if_pos rfl, if_pos (by omega)]
    simp
   ·by_cases hin : i + 1 ≤ j ∧ j < i + 1 + xs.length
    ·rw [if_pos hin, if_pos (by omega)]
     obtain ⟨d, rfl⟩ : ∃ d, j = i + 1 + d := ⟨j - (i + 1), by omega⟩
     rw [show i + 1 + d - (i + 1) = d by omega, show i + 1 + d - i = d + 1 by omega]
     rfl
    ·rw [if_neg hin, if_neg hj, if_neg (by omega)]
theorem TmpsR.args {args : List AV} {us : List Value} {k : Nat} (h : VRL φ args us) (hk : args.length ≤ k) :
  TmpsR φ (Tr.ofList args 0 .nil) k (us.toArray ++ Array.replicate (k - us.toArray.size) undef) := by
 have hl := h.length
 refine ⟨by simp; omega, fun j => ?_⟩
 rw [ofList_get]
 by_cases hj : j < args.length
 ·rw [if_pos (by omega), Nat.sub_zero]
  obtain ⟨v, h1, h2⟩ := h.at_ j _ (List.getElem?_eq_getElem hj)
  rw [List.getElem?_eq_getElem hj]
  have : (us.toArray ++ Array.replicate (k - us.toArray.size) undef).getD j undef = v := by
   rw [Array.getD_eq_getD_getElem?, Array.getElem?_append_left (by simp; omega)]
   simp [h1]
  rw [this]; exact h2
 ·rw [if_neg (by omega)]
  simp only [Tr.get]
  have : (us.toArray ++ Array.replicate (k - us.toArray.size) undef).getD j undef = undef := by
   rw [Array.getD_eq_getD_getElem?, Array.getElem?_append_right (by simp; omega), Array.getElem?_replicate]
   split <;> rfl
  rw [this]; exact VR.undef_
theorem leaves_sound (hE : EnvOK P E) {fn : Func} {tm : Array Value} {v : AV} {R : Ending → World → Prop} : ∀ (ms : List Nat) (ds : List Deferred) (σ : St) (φ : Phi) (w : World), amarks ms σ = some σ' → DefR φ ms ds →
  Rel w0 φ σ.get σ.next w → (∀ t, VR φ (fr.get t) (tm.getD t undef)) → aresults E fr σ'.get fn.results.toList = some v →
  (∀ u w', VR φ v u → Rel w0 φ σ'.get σ'.next w' → Ext w0 φ σ.get σ.next w φ σ'.get σ'.next w' → R (.returned u) w') → LeavesInM (fen none) n P fn tm R ds .returning w
 | [], ds, σ, φ, w, h, hd, hR, hf, hr, hK => by
   simp only [amarks, Option.some.injEq] at h; subst h
   have : ds = [] := hd
   subst this
   obtain ⟨u, h1, h2⟩ := run_results (P := P) hE hR hf hr
   exact ⟨u, h1, hK u w h2 hR (Ext.refl _ _ _ _ _)⟩
 | m :: ms, ds, σ, φ, w, h, hd, hR, hf, hr, hK => by
   obtain ⟨l, ds', h1, rfl, h3⟩ := hd
   simp only [amarks] at h
   split at h
   ·rename_i hg
    have ho : w.heap[l.c]? = some (.deferred (some [])) := hR.objs m _ l hg h1
    obtain ⟨w', s1, s2, s3⟩ := run_setObj (P := P) (o' := .deferred none) ho (fun _ _ _ h => by cases h)
    obtain ⟨r1, r2⟩ := hR.drop hg h1 rfl s2
    rw [← get_kill] at r1 r2
    refine ⟨(by intro h; cases h), .inl ⟨l.c, w', rfl, ?_, ?_⟩⟩
    ·simp only [Instr.takeDeferred, Sem.run_bind, getObj_run ho (fun _ _ _ h => by cases h), Result.andThen_ok, s1, Sem.run_pure]
    ·exact leaves_sound hE ms ds' (σ.kill m) φ w' h h3 r1 hf hr fun u w'' q1 q2 q3 => hK u w'' q1 q2 (r2.trans q3)
   ·cases h
end
end Go.Proofs.Ytmjmhpbncfjnpaa.Bm
