/- The abstract machine: all that a run may come to, the order of maps' entries being open; it is sound. -/
import Derived.Test.YtdgplkcobpikiaaGreatBmVl
set_option linter.unusedSimpArgs false
set_option linter.unusedVariables false
namespace Go.Proofs.YtdgplkcobpikiaaGreat.Bm
open Go.RowKit

def valsS : List (Out × St) → Option (List (AV × St))
  | [] => some []
  | (.val v, σ) :: l => match valsS l with
    | some r => some ((v, σ) :: r)
    | none => none
  | (.ex _ _, _) :: _ => none
theorem valsS_mem : ∀ {l : List (Out × St)} {r : List (AV × St)}, valsS l = some r → ∀ v σ, (Out.val v, σ) ∈ l → (v, σ) ∈ r
  | [], r, h, v, σ, hm => by simp at hm
  | (.val u, τ) :: l, r, h, v, σ, hm => by
    simp only [valsS] at h
    split at h
    · rename_i r0 hr
      simp only [Option.some.injEq] at h; subst h
      rcases List.mem_cons.1 hm with hm | hm
      · injection hm with h1 h2; injection h1 with h1; subst h1; subst h2
        exact List.mem_cons_self
      · exact List.mem_cons_of_mem _ (valsS_mem hr v σ hm)
    · cases h
  | (.ex _ _, _) :: l, r, h, v, σ, hm => by cases h
def operS (E : Env) (rec : Job → St → Option (List (Out × St))) (ρ : Operand → AV) (σ : St) (op : Op) : Option (List (AV × St)) :=
  match op with
  | .next it false => anextS σ (ρ it)
  | .call c => match c.callee with
    | .value f => match rec (.val (ρ f) (c.args.toList.map ρ)) σ with
      | some rs => valsS rs
      | none => none
    | _ => one (aoper E (fun _ _ => none) ρ σ (.call c))
  | op => one (aoper E (fun _ _ => none) ρ σ op)
def opsS (E : Env) (rec : Job → St → Option (List (Out × St))) (ops : Array Oper) : List Oper → Fr → St → Option (List (Fr × St))
  | [], fr, σ => some [(fr, σ)]
  | o :: os, fr, σ => match awanted fr ops o with
    | none => none
    | some false => match fr.put o.dst .undef with
      | some fr1 => opsS E rec ops os fr1 σ
      | none => none
    | some true => each (operS E rec fr.eval σ o.op) fun r => match fr.put o.dst r.1 with
      | some fr1 => opsS E rec ops os fr1 r.2
      | none => none
def blkS (id : Nat) (r : Out × St) : Option (List (Out × St)) := match r.1 with
  | .ex (.exit j) fr1 => some [(.ex (cond (Nat.beq j id) .normal (.exit j)) fr1, r.2)]
  | .ex e fr1 => some [(.ex e fr1, r.2)]
  | .val _ => none
def endS (E : Env) (fn : Func) (r : Out × St) : Option (List (Out × St)) := match r.1 with
  | .ex e fr => match e with
    | .exit _ => none
    | .goto _ => none
    | _ => match amarks fr.marks r.2 with
      | none => none
      | some σ2 => match aresults E fr σ2.get fn.results.toList with
        | some v => some [(.val v, σ2)]
        | none => none
  | .val _ => none
def rngS (fr1 : Fr) (l : Nat) (r : Out × St) : Option (List (Out × St)) := match r.1 with
  | .val _ => match r.2.get l with
    | some (.loop lp) => match lp.st with
      | .busy => none
      | _ => match Ex.ofPend lp.pend with
        | some e => some [(.ex e fr1, (r.2.put l (.loop { lp with st := .exhausted })).kill l)]
        | none => none
    | _ => none
  | .ex _ _ => none
def ydnS (l : Nat) (r : Out × St) : Option (List (Out × St)) := match r.1 with
  | .ex e fr2 => match fr2.marks, r.2.get l with
    | [], some (.loop lp3) => some [(.val (.bool e.jump.isNone), r.2.put l (.loop { lp3 with st := cond e.jump.isNone .ready .done, pend := e.jump }))]
    | _, _ => none
  | .val _ => none
def evS (E : Env) : Nat → Job → St → Option (List (Out × St))
  | 0, _, _ => none
  | n + 1, .code c fr, σ =>
    match c with
    | .skip => some [(.ex .normal fr, σ)]
    | .label _ => some [(.ex .normal fr, σ)]
    | .exit id => some [(.ex (.exit id) fr, σ)]
    | .goto l => some [(.ex (.goto l) fr, σ)]
    | .ret => some [(.ex .ret fr, σ)]
    | .refuse _ => none
    | .region _ ops draw => cond draw (match adraw E (ev E n) ops fr σ with
        | some (fr', σ') => some [(.ex .normal fr', dropL (Nat.sub σ'.next σ.next) σ.next σ')]
        | none => none) (each (opsS E (evS E n) ops ops.toList fr σ) fun r => some [(.ex .normal r.1, r.2)])
    | .seq a b => each (evS E n (.code a fr) σ) fun r => match r.1 with
      | .ex .normal fr1 => evS E n (.code b fr1) r.2
      | .ex e fr1 => some [(.ex e fr1, r.2)]
      | .val _ => none
    | .cond c t e => match fr.eval c with
      | .bool b => evS E n (.code (cond b t e) fr) σ
      | _ => none
    | .block id body => match E.lp id with
      | some g => match (g.run fr σ).run with
        | some (e, fr1, σ1) => some [(.ex e fr1, σ1)]
        | none => none
      | none => each (evS E n (.code body fr) σ) (blkS id)
    | .loop body => each (evS E n (.code body fr) σ) fun r => match r.1 with
      | .ex .normal fr1 => evS E n (.code (.loop body) fr1) r.2
      | .ex e fr1 => some [(.ex e fr1, r.2)]
      | .val _ => none
    | .scope body => cond (plain E body) (evS E n (.scope body body fr) σ) none
    | .rangeFunc f params assign body =>
      match fr.eval f, aenter fr σ params.toList assign body with
      | .func (.func g) first captured, some (l, fr1, σ1) => each (evS E n (.call g (first ++ [.yld l] ++ captured)) σ1) (rngS fr1 l)
      | _, _ => none
  | n + 1, .scope cur body fr, σ => each (cond (plain E cur) (evS E n (.code cur fr) σ) none) fun r => match r.1 with
    | .ex (.goto l) fr1 => match findLabel body l with
      | some rest => evS E n (.scope rest body fr1) r.2
      | none => some [(.ex (.goto l) fr1, r.2)]
    | .ex e fr1 => some [(.ex e fr1, r.2)]
    | .val _ => none
  | n + 1, .val f args, σ =>
    match f with
    | .func (.func g) first captured => evS E n (.call g (first ++ args ++ captured)) σ
    | .yld l => evS E n (.yld l args) σ
    | _ => none
  | n + 1, .call f args, σ =>
    match E.intr f with
    | some g => match (g.run args σ).run with
      | some (v, σ') => some [(.val v, σ')]
      | none => none
    | none => match E.fn.get f with
      | none => none
      | some fn => match fn.body with
        | none => none
        | some c => cond (Nat.ble args.length fn.ntmps)
          (match each (evS E n (.code c { tmps := Tr.ofList args 0 .nil, size := fn.ntmps, marks := [], rnd := none }) σ) (endS E fn) with
            | some rs => some (mergeC σ.next rs)
            | none => none) none
  | n + 1, .yld l args, σ =>
    match σ.get l with
    | some (.loop lp) => match cond (plain E lp.assign && plain E lp.body) (putAll lp.params args lp.size lp.tmps) none with
      | none => none
      | some tm => each (evS E n (.code lp.assign { tmps := tm, size := lp.size, marks := [], rnd := some l }) σ) fun r => match r.1 with
        | .ex .normal fr1 => match fr1.marks, r.2.get l with
          | [], some (.loop lp1) => match lp1.st with
            | .ready => each (evS E n (.code lp.body fr1) (r.2.put l (.loop { lp1 with st := .busy }))) (ydnS l)
            | _ => none
          | _, _ => none
        | _ => none
    | _ => none

/-! ### It is sound -/
def RetS (w0 : World) (φ : Phi) (σ : St) (w : World) (rs : List (Out × St)) : Ending → World → Prop := fun e w' => ∃ v σ', (Out.val v, σ') ∈ rs ∧ Ret w0 φ σ w v σ' e w'
def PostS (w0 : World) (φ : Phi) (σ : St) (w : World) (r : Option Nat) (rs : List (Out × St)) : Exit → Act → World → Prop := fun x a' w' =>
  ∃ e fr' σ', (Out.ex e fr', σ') ∈ rs ∧ CodePost w0 φ σ w r e.out fr' σ' x a' w'
def CallS (P : Program) (w0 : World) (f : FuncId) (args : List AV) (σ : St) (rs : List (Out × St)) : Prop :=
  (∃ fn, P.funcs[f]? = some fn ∧ fn.body.isNone = false ∧ (fn.name == "runtime.NumGoroutine") = false) ∧
  ∀ n φ w us, Rel w0 φ σ.get σ.next w → VRL φ args us → CallsIn (fen none) n P f us.toArray w (RetS w0 φ σ w rs)
def YldS (P : Program) (w0 : World) (id : Nat) (args : List AV) (σ : St) (rs : List (Out × St)) : Prop :=
  ∀ n φ w us lo, Rel w0 φ σ.get σ.next w → VRL φ args us → φ id = some lo → ∃ f t a b, (Instr.yield lo.c us.toArray).run P w = .ok (.round lo.c f t a b) w ∧ RoundIn (fen none) n P lo.c f t a b w (RetS w0 φ σ w rs)
def CodeS (P : Program) (w0 : World) (c : Code) (fr : Fr) (σ : St) (rs : List (Out × St)) : Prop :=
  ∀ n r φ w a, Rel w0 φ σ.get σ.next w → FrR φ fr a r → c.wpIn (fen r) n P (PostS w0 φ σ w r rs) a w ∧
    ∀ body, c = .loop body → LoopIn (fen r) n P body (PostS w0 φ σ w r rs) a w
def ValS (P : Program) (w0 : World) (fv : AV) (args : List AV) (σ : St) (rs : List (Out × St)) : Prop :=
  ∀ n φ w u us, Rel w0 φ σ.get σ.next w → VR φ fv u → VRL φ args us → ∃ d x, (Deferred.ofValue u us.toArray).run P w = .ok d w ∧ (invoke d.target d.args).run P w = .ok x w ∧
    ((∃ f as, x = .enter f as ∧ CallsIn (fen none) n P f as w (RetS w0 φ σ w rs)) ∨
     ∃ l f t a b, x = .round l f t a b ∧ RoundIn (fen none) n P l f t a b w (RetS w0 φ σ w rs))
def JobS (P : Program) (E : Env) (w0 : World) : Job → St → List (Out × St) → Prop
  | .code c fr, σ, rs => CodeS P w0 (erase E c) fr σ rs
  | .scope cur body fr, σ, rs => ∀ n r φ w a, Rel w0 φ σ.get σ.next w → FrR φ fr a r → ScopeIn (fen r) n P cur body (PostS w0 φ σ w r rs) a w
  | .call f args, σ, rs => CallS P w0 f args σ rs
  | .yld l args, σ, rs => YldS P w0 l args σ rs
  | .val fv args, σ, rs => ValS P w0 fv args σ rs
def RecS (P : Program) (w0 : World) (rec : Job → St → Option (List (Out × St))) : Prop :=
  ∀ fv args σ rs, rec (.val fv args) σ = some rs → ValS P w0 fv args σ rs
section
variable {P : Program} {E : Env} {w0 w w' : World} {φ φ' : Phi} {g : Heap} {n : Nat} {σ σ' σ1 : St} {fr fr' fr1 : Fr} {a : Act} {r : Option Nat} {rec : Job → St → Option (List (Out × St))}

theorem operS_sound (hE : EnvOK P E) (hrec : RecS P w0 rec) (hR : Rel w0 φ σ.get σ.next w) {ρa : Operand → AV} (ha : ∀ x, VR φ (ρa x) (a.eval x)) {o : Oper} {rs : List (AV × St)}
    (h : operS E rec ρa σ o.op = some rs) {K : Act → World → Prop} {Q : Exit → Act → World → Prop}
    (hK : ∀ v σ', (v, σ') ∈ rs → ∀ φ' w' u, VR φ' v u → Rel w0 φ' σ'.get σ'.next w' → Ext w0 φ σ.get σ.next w φ' σ'.get σ'.next w' → K (a.put o.dst u) w') :
    o.wpIn (fen r) n P a w K Q := by
  have hrec0 : RecOK P w0 (fun _ _ => none) := fun fv args σ v σ' h => by cases h
  have plainC : one (aoper E (fun _ _ => none) ρa σ o.op) = some rs → o.wpIn (fen r) n P a w K Q := fun h => by
    cases hq : aoper E (fun _ _ => none) ρa σ o.op with
    | none => rw [hq] at h; cases h
    | some p =>
      obtain ⟨v, σ'⟩ := p
      rw [hq] at h
      simp only [one, Option.some.injEq] at h; subst h
      exact oper_sound hE hrec0 hR ha hq (hK v σ' (List.mem_singleton.2 rfl))
  unfold operS at h
  split at h
  · rename_i it hop
    have hnd : ∀ c, o.op ≠ .defer c := fun c hc => by rw [hc] at hop; cases hop
    refine ⟨fun _ _ => trivial, ?_⟩
    rw [Oper.semAt_eq _ _ _ hnd]
    obtain ⟨z, w', x, σ', hm, h1, h2, h3, h4⟩ := eff_nextS (P := P) (ty := o.type) hR h (ha it)
    have hrun : (execOp a.eval o).run P w = .ok (.value z) w' := by
      simp only [execOp, hop, Sem.run_bind, h1, Result.andThen_ok, Sem.run_pure]
    rw [hrun]
    exact hK x σ' hm φ w' z h2 h3 h4
  · rename_i c hop
    split at h
    · rename_i f hc
      have hnd : ∀ c, o.op ≠ .defer c := fun c hc => by rw [hc] at hop; cases hop
      split at h
      · rename_i rs0 hv
        refine ⟨fun _ _ => trivial, ?_⟩
        rw [Oper.semAt_eq _ _ _ hnd]
        obtain ⟨d, x, h1, h2, h3⟩ := hrec _ _ _ _ hv (n - 1) φ w (a.eval f) (c.args.toList.map a.eval) hR (ha f) (VRL.map_ops ha _)
        have hargs : c.args.map a.eval = (c.args.toList.map a.eval).toArray := by
          apply Array.toList_inj.1; simp
        have hrun : (execOp a.eval o).run P w = .ok x w := by
          simp only [execOp, hop, resolve, hc, hargs, Sem.run_bind, h1, Result.andThen_ok, h2]
        rw [hrun]
        have fin : ∀ e w', RetS w0 φ σ w rs0 e w' → (match e, w' with
            | .returned v, w'' => K (a.put o.dst v) w''
            | .panicked chain, w'' => Q (.panic chain) a w''
            | .outgrown, _ => LetsOut Q) := by
          intro e w' he
          obtain ⟨v, σ', hm, u, φ', rfl, q1, q2, q3⟩ := he
          exact hK v σ' (valsS_mem h v σ' hm) φ' w' u q1 q2 q3
        rcases h3 with ⟨f', as, rfl, hcall⟩ | ⟨l, f', t, x', y, rfl, hcall⟩
        · exact ⟨(fun h => by simp [fen] at h), CallsIn.mono (callsIn_fen hcall) fun e w' he => by
            have := fin e w' he
            cases e <;> exact this⟩
        · exact ⟨(fun h => by simp [fen] at h), RoundIn.mono (roundIn_fen hcall) fun e w' he => by
            have := fin e w' he
            cases e <;> exact this⟩
      · cases h
    · exact plainC (by rw [hop]; exact h)
  · exact plainC h

theorem opsS_sound (hE : EnvOK P E) (hrec : RecS P w0 rec) {ops : Array Oper} : ∀ (l : List Oper) (i : Nat) (fr : Fr) (σ : St) (rs : List (Fr × St)), opsS E rec ops l fr σ = some rs →
    (∀ k : Nat, k < l.length → ops[i + k]? = l[k]?) → ∀ (φ : Phi) (w : World) (a : Act) (Q : Exit → Act → World → Prop), Rel w0 φ σ.get σ.next w → FrR φ fr a r →
      (∀ fr' σ', (fr', σ') ∈ rs → ∀ x a' w', CodePost w0 φ σ w r .normal fr' σ' x a' w' → Q x a' w') → wpOpsIn (fen r) n P ops Q (List.range' i l.length) a w
  | [], i, fr, σ, rs, h, _, φ, w, a, Q, hR, hF, hQ => by
    simp only [opsS, Option.some.injEq] at h; subst h
    exact hQ fr σ (List.mem_singleton.2 rfl) _ _ _ ⟨rfl, φ, hF, hR, Ext.refl _ _ _ _ _⟩
  | o :: l, i, fr, σ, rs, h, hl, φ, w, a, Q, hR, hF, hQ => by
    have ho : ops[i]? = some o := by simpa using hl 0 (by simp)
    have hl' : ∀ k : Nat, k < l.length → ops[i + 1 + k]? = l[k]? := fun k hk => by
      have := hl (k + 1) (by simp; omega)
      rw [show i + 1 + k = i + (k + 1) by omega, this]; simp
    simp only [List.length_cons, List.range'_succ, wpOpsIn, ho]
    simp only [opsS] at h
    split at h
    · cases h
    · rename_i hw
      have := wanted_of (fun t => hF.get_ t) hw
      rw [this]
      split at h
      · rename_i fr1 hp
        have hf1 := hF.put (u := undef) hp VR.undef_
        simp only [Bool.false_eq_true, if_false]
        exact ⟨fun _ _ => trivial, opsS_sound hE hrec l (i + 1) fr1 σ rs h hl' φ w _ Q hR hf1 hQ⟩
      · cases h
    · rename_i hw
      have := wanted_of (fun t => hF.get_ t) hw
      rw [this]
      simp only [if_true]
      obtain ⟨rs1, hop, hall⟩ := each_mem h
      refine operS_sound hE hrec hR (fun x => hF.eval_ x) hop fun v σ1 hm φ1 w1 u hu hR1 hX1 => ?_
      obtain ⟨rs2, h2, hsub⟩ := hall _ hm
      simp only at h2
      split at h2
      · rename_i fr1 hp
        have hf1 := (hF.mono hX1.le).put hp hu
        exact opsS_sound hE hrec l (i + 1) fr1 σ1 rs2 h2 hl' φ1 w1 _ Q hR1 hf1 fun fr' σ' hm' x a' w' hq => hQ fr' σ' (hsub _ hm') x a' w' (hq.pull hX1)
      · cases h2

theorem PostS.pull {φ0 : Phi} {σ0 : St} {w1 : World} {rs rs' : List (Out × St)} {x : Exit} {a' : Act} {w' : World} (hX : Ext w0 φ0 σ0.get σ0.next w1 φ σ.get σ.next w) (hs : ∀ b ∈ rs, b ∈ rs') (h : PostS w0 φ σ w r rs x a' w') :
    PostS w0 φ0 σ0 w1 r rs' x a' w' := by
  obtain ⟨e, fr', σ', hm, hq⟩ := h
  exact ⟨e, fr', σ', hs _ hm, hq.pull hX⟩
theorem CodeS.of_one {c : Code} {e : Ex} (h : CodeOK P w0 c fr σ e.out fr' σ') : CodeS P w0 c fr σ [(.ex e fr', σ')] := fun n r φ w a hR hF =>
  ⟨wpIn_mono (h n r φ w a hR hF).1 fun x a1 w1 hq => ⟨e, fr', σ', List.mem_singleton.2 rfl, hq⟩, fun b hb k1 k2 k3 h1 h2 h3 => by
    obtain ⟨x, a', w', q, rr⟩ := (h n r φ w a hR hF).2 b hb k1 k2 k3 h1 h2 h3
    exact ⟨x, a', w', ⟨e, fr', σ', List.mem_singleton.2 rfl, q⟩, rr⟩⟩
theorem swept_pull {n0 : Nat} (hs : Swept n0 σ1 σ') (id : Nat) (o : AObj) (hg : σ'.get id = some o) : σ1.get id = some o := by
  rcases hs.2 id with e | ⟨_, e⟩
  · rw [← e]; exact hg
  · rw [e] at hg; cases hg
theorem rel_swept {n0 : Nat} (hs : Swept n0 σ1 σ') (h2 : Rel w0 φ σ1.get σ1.next w') : Rel w0 φ σ'.get σ'.next w' := by
  refine ⟨fun id o l hg hl => h2.objs id o l (swept_pull hs id o hg) hl, fun id o l hg hl => h2.own id o l (swept_pull hs id o hg) hl, fun i j oi oj li lj hij hi hj => h2.inj i j oi oj li lj hij (swept_pull hs i oi hi) (swept_pull hs j oj hj), fun id hid => h2.fresh id (Nat.le_trans hs.1 hid), fun id hid => ?_, h2.below⟩
  rcases hs.2 id with e | ⟨_, e⟩
  · rw [e]; exact h2.gfresh id (Nat.le_trans hs.1 hid)
  · exact e
theorem ext_swept (hs : Swept σ.next σ1 σ') (h3 : Ext w0 φ σ.get σ.next w φ' σ1.get σ1.next w') : Ext w0 φ σ.get σ.next w φ' σ'.get σ'.next w' := by
  refine ⟨h3.le, h3.dom, fun id hid hn => ?_, h3.frame, fun id o l hg hl => h3.img id o l (swept_pull hs id o hg) hl, Nat.le_trans h3.nle hs.1, h3.wle⟩
  rcases hs.2 id with e | ⟨e1, e2⟩
  · rw [e]; exact h3.ghost id hid hn
  · omega
theorem ret_swept {v : AV} {e : Ending} (hs : Swept σ.next σ1 σ') (h : Ret w0 φ σ w v σ1 e w') : Ret w0 φ σ w v σ' e w' := by
  obtain ⟨u, φ', rfl, h1, h2, h3⟩ := h
  exact ⟨u, φ', rfl, h1, rel_swept hs h2, ext_swept hs h3⟩
theorem aenter_le {ps : List Tmp} {assign body : Code} {l : Nat} (h : aenter fr σ ps assign body = some (l, fr1, σ1)) : σ.next ≤ l := by
  unfold aenter at h
  split at h
  · simp only [Option.some.injEq, Prod.mk.injEq] at h
    rw [← h.1]; omega
  · split at h
    · simp only [Option.some.injEq, Prod.mk.injEq] at h
      rw [← h.1]; omega
    · cases h

theorem callS_sound (hE : EnvOK P E) {f : FuncId} {fn : Func} {c : Code} {args : List AV} {l rs : List (Out × St)} (hfn : E.fn.get f = some fn) (hb : fn.body = some c) (hle : args.length ≤ fn.ntmps)
    (hcode : CodeS P w0 (erase E c) { tmps := Tr.ofList args 0 .nil, size := fn.ntmps, marks := [], rnd := none } σ l) (hall : ∀ b ∈ l, ∃ x, endS E fn b = some x ∧ ∀ d ∈ x, d ∈ rs) : CallS P w0 f args σ (mergeC σ.next rs) := by
  obtain ⟨fn0, hf1, hf2, hf3, hf4, hf5⟩ := hE.fn f fn hfn
  rw [hb] at hf5
  refine ⟨⟨fn0, hf1, by rw [hf5]; rfl, hf2⟩, fun n φ w us hR hus => ?_⟩
  refine callsIn_of_wp_marks hf1 hf5 trivial ?_
  rw [hf3]
  have hF0 : FrR φ { tmps := Tr.ofList args 0 .nil, size := fn.ntmps, marks := [], rnd := none } { tmps := us.toArray ++ Array.replicate (fn.ntmps - us.toArray.size) undef, defers := [] } none := ⟨TmpsR.args hus hle, rfl, rfl⟩
  refine wpIn_mono ((hcode n none φ w _ hR hF0).1) fun x a1 w1 hq => ?_
  obtain ⟨e, fr, σ1, hm, rfl, φ1, f1, r1, x1⟩ := hq
  obtain ⟨y, hy, hsub⟩ := hall _ hm
  have key : ∀ σ2 v, amarks fr.marks σ1 = some σ2 → aresults E fr σ2.get fn.results.toList = some v → (Out.val v, σ2) ∈ rs → LeavesInM (fen none) n P fn0 a1.tmps (RetS w0 φ σ w (mergeC σ.next rs)) a1.defers .returning w1 := fun σ2 v hma hr hin => by
    obtain ⟨σ3, hin3, hsw⟩ := mergeC_mem (n0 := σ.next) hin
    exact leaves_sound hE fr.marks a1.defers σ1 φ1 w1 hma f1.defs r1 (fun t => f1.get_ t) (by rw [hf4]; exact hr) fun u w' q1 q2 q3 => ⟨v, σ3, hin3, ret_swept hsw ⟨u, φ1, rfl, q1, q2, x1.trans q3⟩⟩
  have key2 : (e.out = .normal ∨ e.out = .ret) → (match amarks fr.marks σ1 with
      | none => none
      | some σ2 => match aresults E fr σ2.get fn.results.toList with
        | some v => some [(Out.val v, σ2)]
        | none => none) = some y → LeavesInM (fen none) n P fn0 a1.tmps (RetS w0 φ σ w (mergeC σ.next rs)) a1.defers .returning w1 := fun he hy => by
    split at hy
    · cases hy
    · rename_i σ2 hma
      split at hy
      · rename_i v hr
        simp only [Option.some.injEq] at hy; subst hy
        exact key σ2 v hma hr (hsub _ (List.mem_singleton.2 rfl))
      · cases hy
  cases e with
  | normal => exact key2 (.inl rfl) hy
  | exit id => cases hy
  | goto l => cases hy
  | ret => exact key2 (.inr rfl) hy

theorem rangeS_sound (hE : EnvOK P E) {f : Operand} {ps : Array Tmp} {assign body : Code} {gg : FuncId} {first captured : List AV} {l : Nat} {l0 rs : List (Out × St)}
    (hf : fr.eval f = .func (.func gg) first captured) (hen : aenter fr σ ps.toList assign body = some (l, fr1, σ1)) (hcall : CallS P w0 gg (first ++ [.yld l] ++ captured) σ1 l0)
    (hall : ∀ b ∈ l0, ∃ x, rngS fr1 l b = some x ∧ ∀ d ∈ x, d ∈ rs) :
    CodeS P w0 (.rangeFunc f ps assign body) fr σ rs := by
  intro n r φ w a hR hF
  refine ⟨?_, fun body h => by cases h⟩
  refine wpIn_rangeFunc fun fn _ => ?_
  obtain ⟨lc, mark, w1, φ1, lo, h1, h2, h3, h4, h5, h6⟩ := enter_sound (P := P) hR hF hen fn
  have hv := hF.eval_ f
  rw [hf] at hv
  simp only [VR] at hv
  obtain ⟨_, x, y, hfe, hx, hy⟩ := hv
  obtain ⟨⟨fnn, b1, b2, b3⟩, hc⟩ := hcall
  refine ⟨lc, mark, w1, { target := .fn (.func gg) y.toArray, args := x.toArray ++ #[Value.func (.yield lc) #[] #[]] }, w1, gg, (x ++ [Value.func (.yield lc) #[] #[]] ++ y).toArray, w1, h1, ?_, fun _ _ => trivial, ?_, (fun h => by simp [fen] at h), ?_⟩
  · show (Deferred.ofValue (a.eval f) (#[Operand.const (.func (.yield lc) #[] #[])].map a.eval)).run P w1 = _
    rw [hfe]
    simp [Deferred.ofValue, Act.eval, Sem.run_pure]
  · simp only [invoke]
    rw [callFunc_run b1 b2 b3]
    simp
  · have hargs : VRL φ1 (first ++ [.yld l] ++ captured) (x ++ [Value.func (.yield lc) #[] #[]] ++ y) := by
      refine ((VRL.mono h6.le _ _ hx).append (VRL.cons ?_ VRL.nil)).append (VRL.mono h6.le _ _ hy)
      simp only [VR]
      exact ⟨lo, h2, by rw [h3]⟩
    refine CallsIn.mono (callsIn_fen (hc (n - 1) φ1 w1 _ h5 hargs)) fun en w3 hen => ?_
    obtain ⟨v, σ2, hm, u, φ2, rfl, q1, q2, q3⟩ := hen
    obtain ⟨z, hz, hsub⟩ := hall _ hm
    simp only [rngS] at hz
    split at hz
    · rename_i lp hg
      have hz2 : lp.st ≠ .busy ∧ (match Ex.ofPend lp.pend with
          | some e => some [(Out.ex e fr1, (σ2.put l (.loop { lp with st := .exhausted })).kill l)]
          | none => none) = some z := by
        cases hst : lp.st with
        | busy => rw [hst] at hz; cases hz
        | _ =>
          rw [hst] at hz
          exact ⟨(by intro h; cases h), hz⟩
      obtain ⟨hst, hz⟩ := hz2
      split at hz
      · rename_i e hpend
        simp only [Option.some.injEq] at hz; subst hz
        have hl2 : φ2 l = some lo := q3.le _ _ h2
        have hsw : Swept σ.next (σ2.put l (.loop { lp with st := .exhausted })) ((σ2.put l (.loop { lp with st := .exhausted })).kill l) := Swept.kill (aenter_le hen) _
        obtain ⟨w4, e1, e2, e3⟩ := end_sound (P := P) q2 hg hl2 hst
        rw [h3] at e1
        refine ⟨lp.pend, w4, e1, ?_⟩
        have hpost : PostS w0 φ σ w r rs e.out { a with defers := mark ++ a.defers } w4 :=
          ⟨e, fr1, _, hsub _ (List.mem_singleton.2 rfl), rfl, φ2, h4.mono q3.le, rel_swept hsw e2, ext_swept hsw ((h6.trans q3).trans e3)⟩
        have hj := ofPend_jump hpend
        cases hp : lp.pend with
        | none =>
          rw [hp] at hj
          simp only at hj; subst hj
          exact hpost
        | some c =>
          rw [hp] at hj
          simp only at hj
          rcases hj with ⟨id, rfl, rfl⟩ | ⟨l', rfl, rfl⟩ | ⟨rfl, rfl⟩
          · exact wpIn_exit hpost
          · exact wpIn_goto hpost
          · exact wpIn_ret hpost
      · cases hz
    · cases hz

theorem yldS_sound {id : Nat} {args : List AV} {lp : ALoop} {tm : Tr AV} {l0 rs : List (Out × St)} (hg : σ.get id = some (.loop lp)) (hput : putAll lp.params args lp.size lp.tmps = some tm)
    (hassign : CodeS P w0 lp.assign { tmps := tm, size := lp.size, marks := [], rnd := some id } σ l0)
    (hall : ∀ b ∈ l0, ∃ fr1 σ1 lp1 l1, b = (.ex .normal fr1, σ1) ∧ fr1.marks = [] ∧ σ1.get id = some (.loop lp1) ∧ lp1.st = .ready ∧ CodeS P w0 lp.body fr1 (σ1.put id (.loop { lp1 with st := .busy })) l1 ∧ ∀ d ∈ l1, ∃ x, ydnS id d = some x ∧ ∀ z ∈ x, z ∈ rs) :
    YldS P w0 id args σ rs := by
  intro n φ w us lo hR hus hl
  obtain ⟨fn0, tm0, ld, h1, h2, h3⟩ := hR.objs id _ lo hg hl
  obtain ⟨q1, q2⟩ := putAll_sound lp.params args _ _ us tm0 hput h3 hus
  refine ⟨fn0, (lp.params.zip us).foldl (fun tmps x => tmps.setIfInBounds x.1 x.2) tm0, lp.assign, lp.body, ?_, ?_⟩
  · have hsz : ¬ (us.toArray.size ≠ lp.params.toArray.size) := by simp [q1]
    simp only [Instr.yield, Sem.run_bind, getLoop_run h1, Result.andThen_ok, hsz, if_false, Sem.run_pure]
    simp
  · refine roundIn_of_wpIn trivial ?_
    have hF0 : FrR φ { tmps := tm, size := lp.size, marks := [], rnd := some id } { tmps := (lp.params.zip us).foldl (fun tmps x => tmps.setIfInBounds x.1 x.2) tm0, defers := [] } (some lo.c) := ⟨q2, rfl, lo, hl, rfl⟩
    refine wpIn_mono ((hassign n (some lo.c) φ w _ hR hF0).1) fun x a1 w1 hq => ?_
    obtain ⟨e0, fr1', σ1', hm, rfl, φ1, f1, r1, x1⟩ := hq
    obtain ⟨fr1, σ1, lp1, l1, heq, hm1, hg1, hst, hbody, hall2⟩ := hall _ hm
    injection heq with he1 he2
    injection he1 with he1 he3
    subst he1; subst he2; subst he3
    have hl1 := x1.le _ _ hl
    obtain ⟨w2, b1, b2, b3⟩ := begin_sound (P := P) r1 hg1 hl1 hst
    refine ⟨w2, b1, ?_⟩
    refine wpIn_mono ((hbody n (some lo.c) φ1 w2 a1 b2 f1).1) fun x a2 w3 hq => ?_
    obtain ⟨e, fr2, σ3, hmd, rfl, φ3, f3, r3, x3⟩ := hq
    obtain ⟨z, hz, hsub⟩ := hall2 _ hmd
    simp only [ydnS] at hz
    split at hz
    · rename_i lp3 hm2 hg3
      simp only [Option.some.injEq] at hz; subst hz
      have hl3 := x3.le _ _ hl1
      obtain ⟨w4, c1, c2, c3⟩ := endRound_sound (P := P) r3 hg3 hl3 e.jump
      have hret : RetS w0 φ σ w rs (.returned (.bool e.jump.isNone)) w4 :=
        ⟨_, _, hsub _ (List.mem_singleton.2 rfl), _, φ3, rfl, by simp only [VR], c2, ((x1.trans b3).trans x3).trans c3⟩
      cases e with
      | normal => exact ⟨_, w4, c1, hret⟩
      | exit id' => exact ⟨_, w4, c1, hret⟩
      | goto l' => exact ⟨_, w4, c1, hret⟩
      | ret => exact ⟨_, w4, c1, hret⟩
    · cases hz


theorem evS_sound (hE : EnvOK P E) (hI : IntrOK P w0 E) : ∀ (m : Nat) (job : Job) (σ : St) (rs : List (Out × St)), evS E m job σ = some rs → JobS P E w0 job σ rs := by
  intro m
  induction m with
  | zero => intro job σ rs h; simp [evS] at h
  | succ m ih =>
    have hrec : RecS P w0 (evS E m) := fun fv args σ rs h => ih _ _ _ h
    have hrec0 : RecOK P w0 (ev E m) := fun fv args σ v σ' h => ev_sound hE hI m _ _ _ _ h
    intro job σ rs h
    cases job with
    | code c fr =>
      cases c with
      | skip =>
        simp only [evS, Option.some.injEq] at h; subst h
        exact fun n r φ w a hR hF => ⟨wpIn_skip ⟨_, _, _, List.mem_singleton.2 rfl, rfl, φ, hF, hR, Ext.refl _ _ _ _ _⟩, fun body h => by cases h⟩
      | label l =>
        simp only [evS, Option.some.injEq] at h; subst h
        exact fun n r φ w a hR hF => ⟨wpIn_label ⟨_, _, _, List.mem_singleton.2 rfl, rfl, φ, hF, hR, Ext.refl _ _ _ _ _⟩, fun body h => by cases h⟩
      | exit id =>
        simp only [evS, Option.some.injEq] at h; subst h
        exact fun n r φ w a hR hF => ⟨wpIn_exit ⟨_, _, _, List.mem_singleton.2 rfl, rfl, φ, hF, hR, Ext.refl _ _ _ _ _⟩, fun body h => by cases h⟩
      | goto l =>
        simp only [evS, Option.some.injEq] at h; subst h
        exact fun n r φ w a hR hF => ⟨wpIn_goto ⟨_, _, _, List.mem_singleton.2 rfl, rfl, φ, hF, hR, Ext.refl _ _ _ _ _⟩, fun body h => by cases h⟩
      | ret =>
        simp only [evS, Option.some.injEq] at h; subst h
        exact fun n r φ w a hR hF => ⟨wpIn_ret ⟨_, _, _, List.mem_singleton.2 rfl, rfl, φ, hF, hR, Ext.refl _ _ _ _ _⟩, fun body h => by cases h⟩
      | refuse _ => simp [evS] at h
      | region id ops draw =>
        simp only [evS] at h
        cases draw with
        | true =>
          simp only [cond_true] at h
          split at h
          · rename_i fr' σ1 hd
            simp only [Option.some.injEq] at h; subst h
            exact CodeS.of_one (e := .normal) fun n r φ w a hR hF => ⟨wpIn_mono (adraw_sound hE hrec0 hd hR hF) fun x a1 w1 hq => by
              obtain ⟨e1, φ1, e2, e3, e4⟩ := hq
              exact ⟨e1, φ1, e2, rel_swept (dropL_ok _ _ _ (Nat.le_refl _)) e3, ext_swept (dropL_ok _ _ _ (Nat.le_refl _)) e4⟩, fun body h => by cases h⟩
          · cases h
        | false =>
          simp only [cond_false] at h
          obtain ⟨l, h1, hall⟩ := each_mem h
          refine fun n r φ w a hR hF => ⟨wpIn_region ?_, fun body h => by cases h⟩
          have := opsS_sound (n := n) hE hrec ops.toList 0 fr σ l h1 (fun k _ => by simp) φ w a (PostS w0 φ σ w r rs) hR hF (fun fr' σ' hm x a' w' hq => by
            obtain ⟨x1, e1, e2⟩ := hall _ hm
            simp only [Option.some.injEq] at e1; subst e1
            exact ⟨.normal, fr', σ', e2 _ (List.mem_singleton.2 rfl), hq⟩)
          rw [Array.length_toList, ← List.range_eq_range'] at this
          exact this
      | seq x y =>
        simp only [evS] at h
        obtain ⟨l, h1, hall⟩ := each_mem h
        have i1 := ih _ _ _ h1
        refine fun n r φ w a hR hF => ⟨wpIn_seq (wpIn_mono (i1 n r φ w a hR hF).1 fun x a1 w1 hq => ?_), fun body h => by cases h⟩
        obtain ⟨e, fr1, σ1, hm, hq⟩ := hq
        obtain ⟨z, hz, hsub⟩ := hall _ hm
        have hx := hq.1
        subst hx
        cases e with
        | normal =>
          obtain ⟨_, φ1, f1, r1, x1⟩ := hq
          exact wpIn_mono ((ih _ _ _ hz) n r φ1 w1 a1 r1 f1).1 fun _ _ _ hp => hp.pull x1 hsub
        | exit id =>
          simp only [Option.some.injEq] at hz; subst hz
          exact ⟨_, _, _, hsub _ (List.mem_singleton.2 rfl), hq⟩
        | goto l =>
          simp only [Option.some.injEq] at hz; subst hz
          exact ⟨_, _, _, hsub _ (List.mem_singleton.2 rfl), hq⟩
        | ret =>
          simp only [Option.some.injEq] at hz; subst hz
          exact ⟨_, _, _, hsub _ (List.mem_singleton.2 rfl), hq⟩
      | cond c t e =>
        simp only [evS] at h
        split at h
        · rename_i b hb
          have i1 := ih _ _ _ h
          refine fun n r φ w a hR hF => ⟨?_, fun body h => by cases h⟩
          have hv := hF.eval_ c
          rw [hb] at hv
          simp only [VR] at hv
          refine wpIn_cond hv ?_
          have := (i1 n r φ w a hR hF).1
          cases b <;> exact this
        · cases h
      | block id body =>
        simp only [evS] at h
        cases hlp : E.lp id with
        | some g =>
          rw [hlp] at h
          simp only at h
          split at h
          · rename_i e fr1 σ1 h1
            simp only [Option.some.injEq] at h; subst h
            show CodeS P w0 (erase E (.block id body)) _ _ _
            rw [show erase E (.block id body) = g.code by simp only [erase, hlp]]
            exact CodeS.of_one (hI.1 id g fr σ e fr1 σ1 hlp h1)
          · cases h
        | none =>
          rw [hlp] at h
          simp only at h
          have hee : erase E (.block id body) = .block id (erase E body) := by simp only [erase, hlp]
          obtain ⟨l, h1, hall⟩ := each_mem h
          have i1 := ih _ _ _ h1
          show CodeS P w0 (erase E (.block id body)) _ _ _
          rw [hee]
          refine fun n r φ w a hR hF => ⟨wpIn_block (wpIn_mono (i1 n r φ w a hR hF).1 fun x a1 w1 hq => ?_), fun body h => by cases h⟩
          obtain ⟨e, fr1, σ1, hm, hq⟩ := hq
          obtain ⟨z, hz, hsub⟩ := hall _ hm
          have hx := hq.1
          subst hx
          cases e with
          | normal =>
            simp only [blkS, Option.some.injEq] at hz; subst hz
            exact ⟨_, _, _, hsub _ (List.mem_singleton.2 rfl), hq⟩
          | exit j =>
            simp only [blkS, Option.some.injEq] at hz; subst hz
            have hmem := hsub _ (List.mem_singleton.2 rfl)
            show Exit.inBlock id _ (.exit j) a1 w1
            simp only [Exit.inBlock]
            by_cases hj : j = id
            · subst hj
              rw [if_pos rfl]
              rw [Nat.beq_refl] at hmem
              exact ⟨_, _, _, hmem, rfl, hq.2⟩
            · rw [if_neg hj]
              have hb : Nat.beq j id = false := by
                cases hb : Nat.beq j id with
                | false => rfl
                | true => exact absurd (Nat.eq_of_beq_eq_true hb) hj
              rw [hb] at hmem
              exact ⟨_, _, _, hmem, rfl, hq.2⟩
          | goto l =>
            simp only [blkS, Option.some.injEq] at hz; subst hz
            exact ⟨_, _, _, hsub _ (List.mem_singleton.2 rfl), hq⟩
          | ret =>
            simp only [blkS, Option.some.injEq] at hz; subst hz
            exact ⟨_, _, _, hsub _ (List.mem_singleton.2 rfl), hq⟩
      | loop body =>
        simp only [evS] at h
        obtain ⟨l, h1, hall⟩ := each_mem h
        have i1 := ih _ _ _ h1
        have key : ∀ n r φ w a, Rel w0 φ σ.get σ.next w → FrR φ fr a r → LoopIn (fen r) n P (erase E body) (PostS w0 φ σ w r rs) a w := fun n r φ w a hR hF => by
          refine loopIn_of (wpIn_mono (i1 n r φ w a hR hF).1 fun x a1 w1 hq => ?_)
          obtain ⟨e, fr1, σ1, hm, hq⟩ := hq
          obtain ⟨z, hz, hsub⟩ := hall _ hm
          have hx := hq.1
          subst hx
          cases e with
          | normal =>
            obtain ⟨_, φ1, f1, r1, x1⟩ := hq
            have := ((ih _ _ _ hz) n r φ1 w1 a1 r1 f1).2 (erase E body) rfl
            intro b k cs hro hb hr
            obtain ⟨e', a', w', q, rr⟩ := this b k cs hro hb hr
            exact ⟨e', a', w', q.pull x1 hsub, rr⟩
          | exit id =>
            simp only [Option.some.injEq] at hz; subst hz
            exact ⟨_, _, _, hsub _ (List.mem_singleton.2 rfl), hq⟩
          | goto l =>
            simp only [Option.some.injEq] at hz; subst hz
            exact ⟨_, _, _, hsub _ (List.mem_singleton.2 rfl), hq⟩
          | ret =>
            simp only [Option.some.injEq] at hz; subst hz
            exact ⟨_, _, _, hsub _ (List.mem_singleton.2 rfl), hq⟩
        exact fun n r φ w a hR hF => ⟨wpIn_loopIn (key n r φ w a hR hF), fun b hb => by
          have hb : Code.loop (erase E body) = .loop b := hb
          injection hb with hb; subst hb; exact key n r φ w a hR hF⟩
      | scope body =>
        simp only [evS] at h
        cases hp : plain E body with
        | false => rw [hp] at h; cases h
        | true =>
          rw [hp] at h
          simp only [cond_true] at h
          have i1 := ih _ _ _ h
          exact fun n r φ w a hR hF => ⟨wpIn_scope (i1 n r φ w a hR hF), fun body h => by cases h⟩
      | rangeFunc f params assign body =>
        simp only [evS] at h
        split at h
        · rename_i gg first captured l fr1 σ1 hf hen
          obtain ⟨l0, h1, hall⟩ := each_mem h
          exact rangeS_sound hE hf hen (ih _ _ _ h1) hall
        · cases h
    | scope cur body fr =>
      simp only [evS] at h
      obtain ⟨l, h1, hall⟩ := each_mem h
      cases hp : plain E cur with
      | false => rw [hp] at h1; cases h1
      | true =>
        rw [hp] at h1
        simp only [cond_true] at h1
        have i1 : CodeS P w0 (erase E cur) fr σ l := ih _ _ _ h1
        rw [erase_plain E cur hp] at i1
        refine fun n r φ w a hR hF => scopeIn_of (wpIn_mono (i1 n r φ w a hR hF).1 fun x a1 w1 hq => ?_)
        obtain ⟨e, fr1, σ1, hm, hq⟩ := hq
        obtain ⟨z, hz, hsub⟩ := hall _ hm
        have hx := hq.1
        subst hx
        cases e with
        | goto l =>
          simp only at hz
          split at hz
          · rename_i rest hfl
            obtain ⟨_, φ1, f1, r1, x1⟩ := hq
            have i2 := ih _ _ _ hz
            refine .inl ⟨rest, hfl, fun b k cs hro hb hr => ?_⟩
            obtain ⟨e', a', w', q, rr⟩ := i2 n r φ1 w1 a1 r1 f1 b k cs hro hb hr
            exact ⟨e', a', w', q.pull x1 hsub, rr⟩
          · rename_i hfl
            simp only [Option.some.injEq] at hz; subst hz
            exact .inr ⟨hfl, _, _, _, hsub _ (List.mem_singleton.2 rfl), hq⟩
        | normal =>
          simp only [Option.some.injEq] at hz; subst hz
          exact ⟨_, _, _, hsub _ (List.mem_singleton.2 rfl), hq⟩
        | exit id =>
          simp only [Option.some.injEq] at hz; subst hz
          exact ⟨_, _, _, hsub _ (List.mem_singleton.2 rfl), hq⟩
        | ret =>
          simp only [Option.some.injEq] at hz; subst hz
          exact ⟨_, _, _, hsub _ (List.mem_singleton.2 rfl), hq⟩
    | val f args =>
      simp only [evS] at h
      split at h
      · rename_i gg first captured
        have i1 := ih _ _ _ h
        intro n φ w u us hR hu hus
        simp only [VR] at hu
        obtain ⟨_, x, y, rfl, hx, hy⟩ := hu
        obtain ⟨⟨fnn, b1, b2, b3⟩, hc⟩ := i1
        refine ⟨{ target := .fn (.func gg) y.toArray, args := x.toArray ++ us.toArray }, .enter gg (x ++ us ++ y).toArray, rfl, ?_, .inl ⟨gg, _, rfl, hc n φ w _ hR ((hx.append hus).append hy)⟩⟩
        simp only [invoke]
        rw [callFunc_run b1 b2 b3]
        simp
      · rename_i l
        have i1 := ih _ _ _ h
        intro n φ w u us hR hu hus
        simp only [VR] at hu
        obtain ⟨lo, hl, rfl⟩ := hu
        obtain ⟨f, t, a, b, h1, h2⟩ := i1 n φ w us lo hR hus hl
        refine ⟨{ target := .fn (.yield lo.c) #[], args := #[] ++ us.toArray }, _, rfl, ?_, .inr ⟨lo.c, f, t, a, b, rfl, h2⟩⟩
        simp only [invoke, Array.empty_append, h1]
      · cases h
    | call f args =>
      simp only [evS] at h
      split at h
      · rename_i gi hgi
        split at h
        · rename_i v σ1 hgr
          simp only [Option.some.injEq] at h; subst h
          have := hI.2 f gi args σ v σ1 hgi hgr
          exact ⟨this.1, fun n φ w us hR hus => CallsIn.mono (this.2 n φ w us hR hus) fun e w' he => ⟨v, σ1, List.mem_singleton.2 rfl, he⟩⟩
        · cases h
      · split at h
        · cases h
        · rename_i fn hfn
          split at h
          · cases h
          · rename_i c hb
            cases hle : Nat.ble args.length fn.ntmps with
            | false => rw [hle] at h; cases h
            | true =>
              rw [hle] at h
              simp only [cond_true] at h
              split at h
              · rename_i rs0 h0
                simp only [Option.some.injEq] at h; subst h
                obtain ⟨l, h1, hall⟩ := each_mem h0
                exact callS_sound hE hfn hb (Nat.le_of_ble_eq_true hle) (ih _ _ _ h1) hall
              · cases h
    | yld l args =>
      simp only [evS] at h
      split at h
      · rename_i lp hg
        split at h
        · cases h
        · rename_i tm hput
          cases hpl : (plain E lp.assign && plain E lp.body) with
          | false => rw [hpl] at hput; cases hput
          | true =>
            rw [hpl] at hput
            simp only [cond_true] at hput
            simp only [Bool.and_eq_true] at hpl
            obtain ⟨l0, h1, hall⟩ := each_mem h
            have ja : CodeS P w0 (erase E lp.assign) _ _ _ := ih _ _ _ h1
            rw [erase_plain E _ hpl.1] at ja
            refine yldS_sound hg hput ja fun b hb => ?_
            obtain ⟨z, hz, hsub⟩ := hall b hb
            obtain ⟨o, σ1⟩ := b
            simp only at hz
            split at hz
            · rename_i fr1
              split at hz
              · rename_i lp1 hm1 hg1
                split at hz
                · rename_i hst
                  obtain ⟨l1, h2, hall2⟩ := each_mem hz
                  have jb : CodeS P w0 (erase E lp.body) _ _ _ := ih _ _ _ h2
                  rw [erase_plain E _ hpl.2] at jb
                  exact ⟨fr1, σ1, lp1, l1, rfl, hm1, hg1, hst, jb, fun d hd => by
                    obtain ⟨x, e1, e2⟩ := hall2 d hd
                    exact ⟨x, e1, fun q hq => hsub _ (e2 q hq)⟩⟩
                · cases hz
              · cases hz
            · cases hz
      · cases h
end

/-! ### A call that tells 'true', whatever the order -/
def allTrue : List (Out × St) → Bool
  | [] => true
  | (.val (.bool b), _) :: l => b && allTrue l
  | _ :: _ => false
theorem allTrue_mem : ∀ {l : List (Out × St)}, allTrue l = true → ∀ v σ, (Out.val v, σ) ∈ l → v = .bool true
  | [], h, v, σ, hm => by simp at hm
  | (.val u, τ) :: l, h, v, σ, hm => by
    cases u with
    | bool b =>
      simp only [allTrue, Bool.and_eq_true] at h
      rcases List.mem_cons.1 hm with hm | hm
      · injection hm with h1 h2; injection h1 with h1; subst h1; rw [h.1]
      · exact allTrue_mem h.2 v σ hm
    | _ => simp [allTrue] at h
  | (.ex _ _, _) :: l, h, v, σ, hm => by simp [allTrue] at h
def resS (E : Env) (m f : Nat) (args : List AV) (σ : St) : Bool := match evS E m (.call f args) σ with
  | some rs => allTrue rs
  | none => false
theorem livesS_ok {P : Program} {E : Env} (h : Good P E) {m f : Nat} (hb : resS E m f [] (stC []) = true) : ∀ w0 args σ v σ', (livesI.run args σ).run = some (v, σ') → CallOK P w0 f args σ v σ' := by
  intro w0 args σ v σ' hr
  simp only [livesI] at hr
  split at hr
  · simp only [T.run, Option.some.injEq, Prod.mk.injEq] at hr
    obtain ⟨rfl, rfl⟩ := hr
    unfold resS at hb
    split at hb
    · rename_i rs hev
      have key : ∀ w, CallS P w f [] (stC []) rs := fun w => evS_sound h.env (h.intr w) m _ _ _ hev
      refine ⟨(key w0).1, fun n φ w us hR hus => ?_⟩
      refine CallsIn.mono ((key w).2 n (fun _ => none) w us (rel_stC w) (by simp only [VRL] at hus ⊢; exact hus)) fun e w' he => ?_
      obtain ⟨v, σ1, hm, u, φ1, rfl, q1, q2, q3⟩ := he
      rw [allTrue_mem hb v σ1 hm] at q1
      simp only [VR] at q1; subst q1
      have hB := q2.below
      have hle := hB.size
      have hb0 := hR.below
      have blk : ∀ id o l, σ.get id = some o → φ id = some l → w'.heap[l.c]? = w.heap[l.c]? := fun id o l h1 h2 => hB.block _ (hR.lt h1 h2)
      exact ⟨_, φ, rfl, by simp only [VR], ⟨fun id o l h1 h2 => (hR.objs id o l h1 h2).keep (blk id o l h1 h2) (fun _ _ h => h), hR.own, hR.inj, hR.fresh, hR.gfresh,
        ⟨hB.os.trans hb0.os, hB.tape.trans hb0.tape, hB.output.trans hb0.output, Nat.le_trans hb0.size hle, fun k hk => (hB.block k (Nat.lt_of_lt_of_le hk hb0.size)).trans (hb0.block k hk)⟩⟩,
        ⟨fun _ _ h => h, fun _ _ h => h, fun _ _ _ => rfl, fun c hc _ => hB.block c hc, fun id o l h1 h2 h3 => .inr ⟨id, o, l, h1, h2, h3, rfl⟩, Nat.le_refl _, hle⟩⟩
    · cases hb
  · cases hr
end Go.Proofs.YtdgplkcobpikiaaGreat.Bm
