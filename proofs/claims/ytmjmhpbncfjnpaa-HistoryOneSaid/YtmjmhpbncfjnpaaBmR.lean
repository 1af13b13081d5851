/- The abstract machine: frames, guards, one operation, a region in the text's order. -/
import Derived.Test.YtmjmhpbncfjnpaaBmZ
set_option linter.unusedSimpArgs false
set_option linter.unusedVariables false
namespace Go.Proofs.Ytmjmhpbncfjnpaa.Bm
open Go.RowKit
def fen (r : Option Nat) : Fence := { fn := fun _ => True, depth := none, alive := false, round := r }
def DefR (φ : Phi) : List Nat → List Deferred → Prop
 | [], ds => ds = []
 | m :: ms, ds => ∃ l ds', φ m = some l ∧ ds = { target := .collected l.c, args := #[] } :: ds' ∧ DefR φ ms ds'
def RndR (φ : Phi) : Option Nat → Option Nat → Prop
 | none, r => r = none
 | some id, r => ∃ l, φ id = some l ∧ r = some l.c
structure FrR (φ : Phi) (fr : Fr) (a : Act) (r : Option Nat) : Prop where
 tmps : TmpsR φ fr.tmps fr.size a.tmps
 defs : DefR φ fr.marks a.defers
 rnd : RndR φ fr.rnd r
section
variable {P : Program} {E : Env} {w0 w w' : World} {φ φ' : Phi} {g : Heap} {n : Nat} {σ σ' : St} {fr fr' : Fr} {a : Act} {r : Option Nat}
theorem DefR.mono (h : ∀ id l, φ id = some l → φ' id = some l) : ∀ (ms : List Nat) (ds : List Deferred), DefR φ ms ds → DefR φ' ms ds
 | [], _, hd => hd
 | m :: ms, ds, hd => by
   obtain ⟨l, ds', h1, h2, h3⟩ := hd
   exact ⟨l, ds', h _ _ h1, h2, DefR.mono h ms ds' h3⟩
theorem RndR.mono (h : ∀ id l, φ id = some l → φ' id = some l) {x : Option Nat} (hr : RndR φ x r) : RndR φ' x r := by
 cases x with
 | none => exact hr
 | some id =>
   obtain ⟨l, h1, h2⟩ := hr
   exact ⟨l, h _ _ h1, h2⟩
theorem FrR.mono (h : ∀ id l, φ id = some l → φ' id = some l) (hf : FrR φ fr a r) : FrR φ' fr a r :=
 ⟨hf.tmps.mono h, DefR.mono h _ _ hf.defs, hf.rnd.mono h⟩
theorem FrR.get_ (hf : FrR φ fr a r) (t : Tmp) : VR φ (fr.get t) (a.tmps.getD t undef) := by
 have := hf.tmps.2 t
 unfold Fr.get
 exact this
theorem eval_of (h : ∀ t, VR φ (fr.get t) (a.tmps.getD t undef)) (x : Operand) : VR φ (fr.eval x) (a.eval x) := by
 cases x with
 | tmp t => exact h t
 | const v => exact VR.ofVal φ v
 | global g => simp [Fr.eval, Act.eval, VR]
 | func f =>
   simp only [Fr.eval, Act.eval, VR]
   exact ⟨(fun l h => by cases h), [], [], rfl, VRL.nil, VRL.nil⟩
theorem FrR.eval_ (hf : FrR φ fr a r) (x : Operand) : VR φ (fr.eval x) (a.eval x) := eval_of hf.get_ x
theorem TmpsR.put {t : Tr AV} {k : Nat} {arr : Array Value} (h : TmpsR φ t k arr) {d : Nat} (hd : d < k) {v : AV} {u : Value} (hv : VR φ v u) :
  TmpsR φ (t.set d (some v)) k (arr.setIfInBounds d u) := by
 refine ⟨by rw [Array.size_setIfInBounds]; exact h.1, fun j => ?_⟩
 have hsz := h.1
 rw [Tr.get_set]
 by_cases hj : j = d
 ·subst hj
  simp only [if_true]
  have : (arr.setIfInBounds j u).getD j undef = u := by
   simp [Array.getD_eq_getD_getElem?, Array.getElem?_setIfInBounds, show j < arr.size by omega]
  rw [this]; exact hv
 ·simp only [hj, if_false]
  have : (arr.setIfInBounds d u).getD j undef = arr.getD j undef := by
   simp [Array.getD_eq_getD_getElem?, Array.getElem?_setIfInBounds, show ¬ d = j from fun e => hj e.symm]
  rw [this]; exact h.2 j
theorem FrR.put (hf : FrR φ fr a r) {dst : Option Tmp} {v : AV} {u : Value} (h : fr.put dst v = some fr') (hv : VR φ v u) : FrR φ fr' (a.put dst u) r := by
 rw [Fr.put_eq] at h
 cases dst with
 | none =>
   simp only [Option.some.injEq] at h; subst h
   exact hf
 | some d =>
   simp only at h
   cases hb : Nat.blt d fr.size with
   | false => rw [hb] at h; cases h
   | true =>
     rw [hb] at h
     simp only [cond_true, Option.some.injEq] at h; subst h
     have hlt : d < fr.size := by simpa [Nat.blt_eq] using hb
     exact ⟨hf.tmps.put hlt hv, hf.defs, hf.rnd⟩
theorem wanted_of' {o : Oper} {ops : Array Oper} {b : Bool} {tm : Array Value} (hf : ∀ j want oj d, o.guard = some (j, want) → ops[j]? = some oj → oj.dst = some d → VR φ (fr.get d) (tm.getD d undef)) (h : awanted fr ops o = some b) : Region.wanted o (yielded ops tm) = b := by
 unfold awanted at h
 unfold Region.wanted
 split at h
 ·rename_i hg
  simp only [Option.some.injEq] at h; subst h
  rw [hg]
 ·rename_i j want hg
  rw [hg]
  simp only
  have hopt : ∀ y : Value, (match (some y : Option Value) with | some (.bool b) => some b | _ => none) = (match y with | .bool b => some b | _ => none) := fun y => by cases y <;> rfl
  unfold yielded
  split at h
  ·rename_i oj hoj
   rw [hoj]
   split at h
   ·rename_i d hd
    simp only [Option.bind_some, hd]
    have hv := hf j want oj d hg hoj hd
    by_cases hlt : d < tm.size
    ·have e1 : tm.getD d undef = tm[d] := by simp [Array.getD_eq_getD_getElem?, hlt]
     rw [e1] at hv
     rw [Array.getElem?_eq_getElem hlt]
     generalize tm[d] = y at hv
     split at h
     ·rename_i c hc
      rw [hc] at hv
      simp only [VR] at hv; subst hv
      simp only [Option.some.injEq] at h
      rw [← h]
      cases c <;> cases want <;> rfl
     ·cases h
     ·rename_i hnb hnbad
      simp only [Option.some.injEq] at h
      have hne : ∀ c, y ≠ .bool c := by
       intro c hc
       subst hc
       generalize fr.get d = x at hv hnb hnbad
       cases x <;> simp only [VR] at hv
       case bool c' => exact hnb _ rfl
       case bad => exact hnbad rfl
       case str => obtain ⟨_, h, _⟩ := hv; cases h
       case ptr => obtain ⟨_, _, h⟩ := hv; cases h
       case slice => obtain ⟨_, _, _, _, h, _⟩ := hv; cases h
       case tptr => obtain ⟨_, _, h⟩ := hv; cases h
       case tsl => obtain ⟨_, _, _, _, h, _⟩ := hv; cases h
       case osl => rcases hv with ⟨_, h, _⟩ | ⟨_, _, _, _, _, h, _⟩ <;> cases h
       case map => obtain ⟨_, _, h⟩ := hv; cases h
       case func => obtain ⟨_, _, _, h, _⟩ := hv; cases h
       case yld => obtain ⟨_, _, h⟩ := hv; cases h
       case iface => obtain ⟨_, h, _⟩ := hv; cases h
       case agg => obtain ⟨_, h, _⟩ := hv; cases h
       case tuple => obtain ⟨_, h, _⟩ := hv; cases h
       all_goals cases hv
      rw [← h]
      cases y <;> first | exact absurd rfl (hne _) | rfl
    ·have e1 : tm.getD d undef = undef := by simp [Array.getD_eq_getD_getElem?, hlt]
     rw [e1] at hv
     rw [Array.getElem?_eq_none (Nat.le_of_not_lt hlt)]
     split at h
     ·rename_i c hc
      rw [hc] at hv
      simp only [VR] at hv
      cases hv
     ·cases h
     ·simp only [Option.some.injEq] at h
      rw [← h]; rfl
   ·rename_i hd
    simp only [Option.bind_some, hd, Option.bind_none]
    simp only [Option.some.injEq] at h
    rw [← h]; rfl
  ·rename_i hoj
   rw [hoj]
   simp only [Option.bind_none]
   simp only [Option.some.injEq] at h
   rw [← h]; rfl
theorem wanted_of {o : Oper} {ops : Array Oper} {b : Bool} {tm : Array Value} (hf : ∀ t, VR φ (fr.get t) (tm.getD t undef)) (h : awanted fr ops o = some b) : Region.wanted o (yielded ops tm) = b :=
 wanted_of' (fun _ _ _ d _ _ _ => hf d) h
end
def Ret (w0 : World) (φ : Phi) (σ : St) (w : World) (v : AV) (σ' : St) : Ending → World → Prop := fun e w' =>
 ∃ u φ', e = .returned u ∧ VR φ' v u ∧ Rel w0 φ' σ'.get σ'.next w' ∧ Ext w0 φ σ.get σ.next w φ' σ'.get σ'.next w'
def ValOK (P : Program) (w0 : World) (fv : AV) (args : List AV) (σ : St) (v : AV) (σ' : St) : Prop :=
 ∀ n φ w u us, Rel w0 φ σ.get σ.next w → VR φ fv u → VRL φ args us → ∃ d x, (Deferred.ofValue u us.toArray).run P w = .ok d w ∧ (invoke d.target d.args).run P w = .ok x w ∧
  ((∃ f as, x = .enter f as ∧ CallsIn (fen none) n P f as w (Ret w0 φ σ w v σ')) ∨
   ∃ l f t a b, x = .round l f t a b ∧ RoundIn (fen none) n P l f t a b w (Ret w0 φ σ w v σ'))
def RecOK (P : Program) (w0 : World) (rec : Job → St → Option (Out × St)) : Prop :=
 ∀ fv args σ v σ', rec (.val fv args) σ = some (.val v, σ') → ValOK P w0 fv args σ v σ'
section
variable {P : Program} {E : Env} {w0 w w' : World} {φ φ' : Phi} {g : Heap} {n : Nat} {σ σ' : St} {fr fr' : Fr} {a : Act} {r : Option Nat} {rec : Job → St → Option (Out × St)}
theorem callsIn_fen {r r' : Option Nat} {n : Nat} {f : FuncId} {as : Array Value} {w : World} {R : Ending → World → Prop} (h : CallsIn (fen r) n P f as w R) : CallsIn (fen r') n P f as w R := h
theorem roundIn_fen {r r' : Option Nat} {n l : Nat} {f : FuncId} {as : Array Value} {x y : Code} {w : World} {R : Ending → World → Prop} (h : RoundIn (fen r) n P l f as x y w R) : RoundIn (fen r') n P l f as x y w R := h
theorem oper_sound (hE : EnvOK P E) (hrec : RecOK P w0 rec) (hR : Rel w0 φ σ.get σ.next w) {ρa : Operand → AV} (ha : ∀ x, VR φ (ρa x) (a.eval x)) {o : Oper} {v : AV}
  (h : aoper E rec ρa σ o.op = some (v, σ')) {K : Act → World → Prop} {Q : Exit → Act → World → Prop}
  (hK : ∀ φ' w' u, VR φ' v u → Rel w0 φ' σ'.get σ'.next w' → Ext w0 φ σ.get σ.next w φ' σ'.get σ'.next w' → K (a.put o.dst u) w') :
  o.wpIn (fen r) n P a w K Q := by
 refine ⟨fun _ _ => trivial, ?_⟩
 have hnd : ∀ c, o.op ≠ .defer c := by
  intro c hc
  rw [hc] at h
  simp only [aoper, acls, aread, tread, aread0, apure] at h
  cases h
 rw [Oper.semAt_eq _ _ _ hnd]
 unfold aoper at h
 split at h
 ·split at h
  ·rename_i v' hv
   simp only [Option.some.injEq, Prod.mk.injEq] at h
   obtain ⟨rfl, rfl⟩ := h
   obtain ⟨z, h1, h2⟩ := run_aread hE hR ha hv
   rw [h1]
   exact hK φ w z h2 hR (Ext.refl _ _ _ _ _)
  ·cases h
 ·split at h
  ·rename_i ob f hal
   simp only [Option.some.injEq, Prod.mk.injEq] at h
   obtain ⟨rfl, rfl⟩ := h
   obtain ⟨z, w', l, h1, h2, h3, h4, h5, h6⟩ := run_aalloc (w := w) hE ha hal (hR.fresh _ (Nat.le_refl _))
   rw [h1]
   obtain ⟨r1, r2⟩ := eff_new hR h2 h3 h4 h5
   exact hK _ w' z h6 r1 r2
  ·cases h
 ·have eff : aeff E ρa σ o.op = some (v, σ') → o.uponIn (fen r) n P a K Q ((execOp a.eval o).run P w) := by
   intro h
   obtain ⟨φ', w', hrun, r1, r2⟩ := eff_aeff (P := P) hE hR ha h
   rcases hrun with ⟨h1, rfl⟩ | ⟨z, h1, h2⟩
   ·rw [h1]; exact hK φ' w' undef VR.undef_ r1 r2
   ·rw [h1]; exact hK φ' w' z h2 r1 r2
  split at h
  ·rename_i c hop
   split at h
   ·rename_i f hc
    split at h
    ·rename_i v' σ1 hv
     simp only [Option.some.injEq, Prod.mk.injEq] at h
     obtain ⟨rfl, rfl⟩ := h
     obtain ⟨d, x, h1, h2, h3⟩ := hrec _ _ _ _ _ hv (n - 1) φ w (a.eval f) (c.args.toList.map a.eval) hR (ha f) (VRL.map_ops ha _)
     have hargs : c.args.map a.eval = (c.args.toList.map a.eval).toArray := by
      apply Array.toList_inj.1; simp
     have hrun : (execOp a.eval o).run P w = .ok x w := by
      simp only [execOp, hop, resolve, hc, hargs, Sem.run_bind, h1, Result.andThen_ok, h2]
     rw [hrun]
     have fin : ∀ e w', Ret w0 φ σ w v' σ1 e w' → (match e, w' with
       | .returned v, w'' => K (a.put o.dst v) w''
       | .panicked chain, w'' => Q (.panic chain) a w''
       | .outgrown, _ => LetsOut Q) := by
      intro e w' he
      obtain ⟨u, φ', rfl, q1, q2, q3⟩ := he
      exact hK φ' w' u q1 q2 q3
     rcases h3 with ⟨f', as, rfl, hcall⟩ | ⟨l, f', t, x', y, rfl, hcall⟩
     ·exact ⟨(fun h => by simp [fen] at h), CallsIn.mono (callsIn_fen hcall) fun e w' he => by
       have := fin e w' he
       cases e <;> exact this⟩
     ·exact ⟨(fun h => by simp [fen] at h), RoundIn.mono (roundIn_fen hcall) fun e w' he => by
       have := fin e w' he
       cases e <;> exact this⟩
    ·cases h
   ·exact eff h
  ·exact eff h
def CodePost (w0 : World) (φ : Phi) (σ : St) (w : World) (r : Option Nat) (e : Exit) (fr' : Fr) (σ' : St) : Exit → Act → World → Prop := fun x a' w' =>
 x = e ∧ ∃ φ', FrR φ' fr' a' r ∧ Rel w0 φ' σ'.get σ'.next w' ∧ Ext w0 φ σ.get σ.next w φ' σ'.get σ'.next w'
theorem CodePost.pull {φ0 : Phi} {σ0 : St} {w1 : World} {e x : Exit} {a' : Act} {w' : World} (hX : Ext w0 φ0 σ0.get σ0.next w1 φ σ.get σ.next w) (h : CodePost w0 φ σ w r e fr' σ' x a' w') :
  CodePost w0 φ0 σ0 w1 r e fr' σ' x a' w' := by
 obtain ⟨h1, φ', h2, h3, h4⟩ := h
 exact ⟨h1, φ', h2, h3, hX.trans h4⟩
theorem aops_sound (hE : EnvOK P E) (hrec : RecOK P w0 rec) {ops : Array Oper} : ∀ (l : List Oper) (i : Nat) (fr : Fr) (σ : St) (fr' : Fr) (σ' : St), aops E rec ops l fr σ = some (fr', σ') →
  (∀ k : Nat, k < l.length → ops[i + k]? = l[k]?) → ∀ (φ : Phi) (w : World) (a : Act) (Q : Exit → Act → World → Prop), Rel w0 φ σ.get σ.next w → FrR φ fr a r → (∀ x a' w', CodePost w0 φ σ w r .normal fr' σ' x a' w' → Q x a' w') →
    wpOpsIn (fen r) n P ops Q (List.range' i l.length) a w
 | [], i, fr, σ, fr', σ', h, _, φ, w, a, Q, hR, hF, hQ => by
   simp only [aops, Option.some.injEq, Prod.mk.injEq] at h
   obtain ⟨rfl, rfl⟩ := h
   exact hQ _ _ _ ⟨rfl, φ, hF, hR, Ext.refl _ _ _ _ _⟩
 | o :: l, i, fr, σ, fr', σ', h, hl, φ, w, a, Q, hR, hF, hQ => by
   have ho : ops[i]? = some o := by simpa using hl 0 (by simp)
   have hl' : ∀ k : Nat, k < l.length → ops[i + 1 + k]? = l[k]? := fun k hk => by
    have := hl (k + 1) (by simp; omega)
    rw [show i + 1 + k = i + (k + 1) by omega, this]; simp
   simp only [List.length_cons, List.range'_succ, wpOpsIn, ho]
   simp only [aops] at h
   split at h
   ·cases h
   ·rename_i hw
    have := wanted_of (fun t => hF.get_ t) hw
    rw [this]
    split at h
    ·rename_i fr1 hp
     have hf1 := hF.put (u := undef) hp VR.undef_
     simp only [Bool.false_eq_true, if_false]
     exact ⟨fun _ _ => trivial, aops_sound hE hrec l (i + 1) fr1 σ fr' σ' h hl' φ w _ Q hR hf1 hQ⟩
    ·cases h
   ·rename_i hw
    have := wanted_of (fun t => hF.get_ t) hw
    rw [this]
    simp only [if_true]
    split at h
    ·cases h
    ·rename_i v σ1 hop
     split at h
     ·rename_i fr1 hp
      refine oper_sound hE hrec hR (fun x => hF.eval_ x) hop fun φ1 w1 u hu hR1 hX1 => ?_
      have hf1 := (hF.mono hX1.le).put hp hu
      exact aops_sound hE hrec l (i + 1) fr1 σ1 fr' σ' h hl' φ1 w1 _ Q hR1 hf1 fun x a' w' hq => hQ x a' w' (hq.pull hX1)
     ·cases h
end
end Go.Proofs.Ytmjmhpbncfjnpaa.Bm
