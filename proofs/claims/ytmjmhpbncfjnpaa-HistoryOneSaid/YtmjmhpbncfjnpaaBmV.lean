/- The abstract machine: whatever it tells of a run, the model does. -/
import Derived.Test.YtmjmhpbncfjnpaaBmU
set_option linter.unusedSimpArgs false
set_option linter.unusedVariables false
namespace Go.Proofs.Ytmjmhpbncfjnpaa.Bm
open Go.RowKit
section
variable {P : Program} {E : Env} {w0 w w' : World} {φ φ' : Phi} {g : Heap} {n : Nat} {σ σ' σ1 : St} {fr fr' fr1 : Fr} {a : Act} {r : Option Nat}
theorem callFunc_run {f : FuncId} {fn : Func} (h1 : P.funcs[f]? = some fn) (h2 : fn.body.isNone = false) (h3 : (fn.name == "runtime.NumGoroutine") = false) (args : Array Value) (w : World) :
  (callFunc f args).run P w = .ok (.enter f args) w := by
 simp only [callFunc, Sem.run_bind, program, Sem.run, h1, h2, h3]
 simp [Sem.run, Result.andThen, Sem.run_pure, h1, h2, h3]
theorem ofPend_jump : ∀ {p : Option Code} {e : Ex}, Ex.ofPend p = some e → (match p with
  | none => e = .normal
  | some c => (∃ id, c = .exit id ∧ e = .exit id) ∨ (∃ l, c = .goto l ∧ e = .goto l) ∨ (c = .ret ∧ e = .ret))
 | none, e, h => by simp only [Ex.ofPend, Option.some.injEq] at h; exact h.symm
 | some c, e, h => by
   unfold Ex.ofPend at h
   split at h
   ·rename_i he; cases he
   ·rename_i id he; injection he with he; subst he; injection h with h; exact .inl ⟨id, rfl, h.symm⟩
   ·rename_i l he; injection he with he; subst he; injection h with h; exact .inr (.inl ⟨l, rfl, h.symm⟩)
   ·rename_i he; injection he with he; subst he; injection h with h; exact .inr (.inr ⟨rfl, h.symm⟩)
   ·cases h
theorem code_mono {c : Code} {φ1 : Phi} {w1 : World} {e : Exit} {F : Fence} (hX : Ext w0 φ σ.get σ.next w φ1 σ1.get σ1.next w1) (h : c.wpIn F n P (CodePost w0 φ1 σ1 w1 r e fr' σ') a w1) :
  c.wpIn F n P (CodePost w0 φ σ w r e fr' σ') a w1 := wpIn_mono h fun _ _ _ hq => hq.pull hX
theorem range_sound (hE : EnvOK P E) {f : Operand} {ps : Array Tmp} {assign body : Code} {gg : FuncId} {first captured : List AV} {l : Nat} {σ2 : St} {lp : ALoop} {e : Ex} {v : AV}
  (hf : fr.eval f = .func (.func gg) first captured) (hen : aenter fr σ ps.toList assign body = some (l, fr1, σ1)) (hcall : CallOK P w0 gg (first ++ [.yld l] ++ captured) σ1 v σ2)
  (hg : σ2.get l = some (.loop lp)) (hst : lp.st ≠ .busy) (hpend : Ex.ofPend lp.pend = some e) :
  CodeOK P w0 (.rangeFunc f ps assign body) fr σ e.out fr1 (σ2.put l (.loop { lp with st := .exhausted })) := by
 intro n r φ w a hR hF
 refine ⟨?_, fun body h => by cases h⟩
 refine wpIn_rangeFunc fun fn _ => ?_
 obtain ⟨lc, mark, w1, φ1, lo, h1, h2, h3, h4, h5, h6⟩ := enter_sound (P := P) hR hF hen fn
 have hv := hF.eval_ f
 rw [hf] at hv
 simp only [VR] at hv
 obtain ⟨_, x, y, hfe, hx, hy⟩ := hv
 obtain ⟨⟨fnn, b1, b2, b3⟩, hc⟩ := hcall
 refine ⟨lc, mark, w1, { target := .fn (.func gg) y.toArray, args := x.toArray ++ #[Value.func (.yield lc) #[] #[]] }, w1, gg, (x ++ [Value.func (.yield lc) #[] #[]] ++ y).toArray, w1, h1, ?_, fun _ _ => trivial, ?_, (fun h => by simp [fen] at h), ?_⟩
 ·show (Deferred.ofValue (a.eval f) (#[Operand.const (.func (.yield lc) #[] #[])].map a.eval)).run P w1 = _
  rw [hfe]
  simp [Deferred.ofValue, Act.eval, Sem.run_pure]
 ·simp only [invoke]
  rw [callFunc_run b1 b2 b3]
  simp
 ·have hargs : VRL φ1 (first ++ [.yld l] ++ captured) (x ++ [Value.func (.yield lc) #[] #[]] ++ y) := by
   refine ((VRL.mono h6.le _ _ hx).append (VRL.cons ?_ VRL.nil)).append (VRL.mono h6.le _ _ hy)
   simp only [VR]
   exact ⟨lo, h2, by rw [h3]⟩
  refine CallsIn.mono (callsIn_fen (hc (n - 1) φ1 w1 _ h5 hargs)) fun en w3 hen => ?_
  obtain ⟨u, φ2, rfl, q1, q2, q3⟩ := hen
  have hl2 : φ2 l = some lo := q3.le _ _ h2
  obtain ⟨w4, e1, e2, e3⟩ := end_sound (P := P) q2 hg hl2 hst
  rw [h3] at e1
  refine ⟨lp.pend, w4, e1, ?_⟩
  have hpost : CodePost w0 φ σ w r e.out fr1 (σ2.put l (.loop { lp with st := .exhausted })) e.out { a with defers := mark ++ a.defers } w4 :=
   ⟨rfl, φ2, h4.mono q3.le, e2, (h6.trans q3).trans e3⟩
  have hj := ofPend_jump hpend
  cases hp : lp.pend with
  | none =>
    rw [hp] at hj hpost
    simp only at hj; subst hj
    exact hpost
  | some c =>
    rw [hp] at hj hpost
    simp only at hj
    rcases hj with ⟨id, rfl, rfl⟩ | ⟨l', rfl, rfl⟩ | ⟨rfl, rfl⟩
    ·exact wpIn_exit hpost
    ·exact wpIn_goto hpost
    ·exact wpIn_ret hpost
theorem yld_sound {id : Nat} {args : List AV} {lp lp1 lp3 : ALoop} {tm : Tr AV} {fr1 fr2 : Fr} {σ1 σ3 : St} {e : Ex} (hg : σ.get id = some (.loop lp)) (hput : putAll lp.params args lp.size lp.tmps = some tm)
  (hassign : CodeOK P w0 lp.assign { tmps := tm, size := lp.size, marks := [], rnd := some id } σ .normal fr1 σ1) (hm1 : fr1.marks = []) (hg1 : σ1.get id = some (.loop lp1)) (hst : lp1.st = .ready)
  (hbody : CodeOK P w0 lp.body fr1 (σ1.put id (.loop { lp1 with st := .busy })) e.out fr2 σ3) (hm2 : fr2.marks = []) (hg3 : σ3.get id = some (.loop lp3)) :
  YldOK P w0 id args σ (.bool e.jump.isNone) (σ3.put id (.loop { lp3 with st := cond e.jump.isNone .ready .done, pend := e.jump })) := by
 intro n φ w us lo hR hus hl
 obtain ⟨fn0, tm0, ld, h1, h2, h3⟩ := hR.objs id _ lo hg hl
 obtain ⟨q1, q2⟩ := putAll_sound lp.params args _ _ us tm0 hput h3 hus
 refine ⟨fn0, (lp.params.zip us).foldl (fun tmps x => tmps.setIfInBounds x.1 x.2) tm0, lp.assign, lp.body, ?_, ?_⟩
 ·have hsz : ¬ (us.toArray.size ≠ lp.params.toArray.size) := by simp [q1]
  simp only [Instr.yield, Sem.run_bind, getLoop_run h1, Result.andThen_ok, hsz, if_false, Sem.run_pure]
  simp
 ·refine roundIn_of_wpIn trivial ?_
  have hF0 : FrR φ { tmps := tm, size := lp.size, marks := [], rnd := some id } { tmps := (lp.params.zip us).foldl (fun tmps x => tmps.setIfInBounds x.1 x.2) tm0, defers := [] } (some lo.c) := ⟨q2, rfl, lo, hl, rfl⟩
  refine wpIn_mono ((hassign n (some lo.c) φ w _ hR hF0).1) fun x a1 w1 hq => ?_
  obtain ⟨rfl, φ1, f1, r1, x1⟩ := hq
  have hl1 := x1.le _ _ hl
  obtain ⟨w2, b1, b2, b3⟩ := begin_sound (P := P) r1 hg1 hl1 hst
  refine ⟨w2, b1, ?_⟩
  refine wpIn_mono ((hbody n (some lo.c) φ1 w2 a1 b2 f1).1) fun x a2 w3 hq => ?_
  obtain ⟨rfl, φ3, f3, r3, x3⟩ := hq
  have hl3 := x3.le _ _ hl1
  obtain ⟨w4, c1, c2, c3⟩ := endRound_sound (P := P) r3 hg3 hl3 e.jump
  have hret : Ret w0 φ σ w (.bool e.jump.isNone) (σ3.put id (.loop { lp3 with st := cond e.jump.isNone .ready .done, pend := e.jump })) (.returned (.bool e.jump.isNone)) w4 :=
   ⟨_, φ3, rfl, by simp only [VR], c2, ((x1.trans b3).trans x3).trans c3⟩
  cases e with
  | normal => exact ⟨_, w4, c1, hret⟩
  | exit id' => exact ⟨_, w4, c1, hret⟩
  | goto l' => exact ⟨_, w4, c1, hret⟩
  | ret => exact ⟨_, w4, c1, hret⟩
theorem call_sound (hE : EnvOK P E) {f : FuncId} {fn : Func} {c : Code} {args : List AV} {e : Ex} {σ1 σ2 : St} {v : AV} (hfn : E.fn.get f = some fn) (hb : fn.body = some c) (hle : args.length ≤ fn.ntmps)
  (hcode : CodeOK P w0 (erase E c) { tmps := Tr.ofList args 0 .nil, size := fn.ntmps, marks := [], rnd := none } σ e.out fr σ1) (he : e.out = .normal ∨ e.out = .ret) (hm : amarks fr.marks σ1 = some σ2)
  (hr : aresults E fr σ2.get fn.results.toList = some v) : CallOK P w0 f args σ v σ2 := by
 obtain ⟨fn0, hf1, hf2, hf3, hf4, hf5⟩ := hE.fn f fn hfn
 rw [hb] at hf5
 refine ⟨⟨fn0, hf1, by rw [hf5]; rfl, hf2⟩, fun n φ w us hR hus => ?_⟩
 refine callsIn_of_wp_marks hf1 hf5 trivial ?_
 rw [hf3]
 have hF0 : FrR φ { tmps := Tr.ofList args 0 .nil, size := fn.ntmps, marks := [], rnd := none } { tmps := us.toArray ++ Array.replicate (fn.ntmps - us.toArray.size) undef, defers := [] } none := ⟨TmpsR.args hus hle, rfl, rfl⟩
 refine wpIn_mono ((hcode n none φ w _ hR hF0).1) fun x a1 w1 hq => ?_
 obtain ⟨rfl, φ1, f1, r1, x1⟩ := hq
 have key : LeavesInM (fen none) n P fn0 a1.tmps (Ret w0 φ σ w v σ2) a1.defers .returning w1 :=
  leaves_sound hE fr.marks a1.defers σ1 φ1 w1 hm f1.defs r1 (fun t => f1.get_ t) (by rw [hf4]; exact hr) fun u w' q1 q2 q3 => ⟨u, φ1, rfl, q1, q2, x1.trans q3⟩
 rcases he with he | he <;> rw [he] <;> exact key
theorem ev_sound (hE : EnvOK P E) (hI : IntrOK P w0 E) : ∀ (m : Nat) (job : Job) (σ : St) (out : Out) (σ' : St), ev E m job σ = some (out, σ') → JobOK P E w0 job σ out σ' := by
 intro m
 induction m with
 | zero => intro job σ out σ' h; simp [ev] at h
 | succ m ih =>
   have hrec : RecOK P w0 (ev E m) := fun fv args σ v σ' h => ih _ _ _ _ h
   intro job σ out σ' h
   cases job with
   | code c fr =>
     cases c with
     | skip =>
       simp only [ev, Option.some.injEq, Prod.mk.injEq] at h
       obtain ⟨rfl, rfl⟩ := h
       exact fun n r φ w a hR hF => ⟨wpIn_skip ⟨rfl, φ, hF, hR, Ext.refl _ _ _ _ _⟩, fun body h => by cases h⟩
     | label l =>
       simp only [ev, Option.some.injEq, Prod.mk.injEq] at h
       obtain ⟨rfl, rfl⟩ := h
       exact fun n r φ w a hR hF => ⟨wpIn_label ⟨rfl, φ, hF, hR, Ext.refl _ _ _ _ _⟩, fun body h => by cases h⟩
     | exit id =>
       simp only [ev, Option.some.injEq, Prod.mk.injEq] at h
       obtain ⟨rfl, rfl⟩ := h
       exact fun n r φ w a hR hF => ⟨wpIn_exit ⟨rfl, φ, hF, hR, Ext.refl _ _ _ _ _⟩, fun body h => by cases h⟩
     | goto l =>
       simp only [ev, Option.some.injEq, Prod.mk.injEq] at h
       obtain ⟨rfl, rfl⟩ := h
       exact fun n r φ w a hR hF => ⟨wpIn_goto ⟨rfl, φ, hF, hR, Ext.refl _ _ _ _ _⟩, fun body h => by cases h⟩
     | ret =>
       simp only [ev, Option.some.injEq, Prod.mk.injEq] at h
       obtain ⟨rfl, rfl⟩ := h
       exact fun n r φ w a hR hF => ⟨wpIn_ret ⟨rfl, φ, hF, hR, Ext.refl _ _ _ _ _⟩, fun body h => by cases h⟩
     | refuse _ => simp [ev] at h
     | region id ops draw =>
       simp only [ev] at h
       cases draw with
       | true =>
         simp only [cond_true] at h
         split at h
         ·rename_i fr' σ1 hd
          simp only [Option.some.injEq, Prod.mk.injEq] at h
          obtain ⟨rfl, rfl⟩ := h
          exact fun n r φ w a hR hF => ⟨adraw_sound hE hrec hd hR hF, fun body h => by cases h⟩
         ·cases h
       | false =>
         simp only [cond_false] at h
         split at h
         ·rename_i fr' σ1 hd
          simp only [Option.some.injEq, Prod.mk.injEq] at h
          obtain ⟨rfl, rfl⟩ := h
          refine fun n r φ w a hR hF => ⟨wpIn_region ?_, fun body h => by cases h⟩
          have := aops_sound (n := n) hE hrec ops.toList 0 fr σ fr' σ1 hd (fun k _ => by simp) φ w a _ hR hF (fun _ _ _ hq => hq)
          rw [Array.length_toList, ← List.range_eq_range'] at this
          exact this
         ·cases h
     | seq x y =>
       simp only [ev] at h
       split at h
       ·rename_i fr1 σ1 h1
        have i1 := ih _ _ _ _ h1
        have i2 := ih _ _ _ _ h
        cases out with
        | val v => exact i2.elim
        | ex e fr' =>
          refine fun n r φ w a hR hF => ⟨wpIn_seq (wpIn_mono (i1 n r φ w a hR hF).1 fun x a1 w1 hq => ?_), fun body h => by cases h⟩
          obtain ⟨rfl, φ1, f1, r1, x1⟩ := hq
          exact code_mono x1 (i2 n r φ1 w1 a1 r1 f1).1
       ·rename_i e fr1 σ1 hne h1
        simp only [Option.some.injEq, Prod.mk.injEq] at h
        obtain ⟨rfl, rfl⟩ := h
        have i1 := ih _ _ _ _ h1
        refine fun n r φ w a hR hF => ⟨wpIn_seq (wpIn_mono (i1 n r φ w a hR hF).1 fun x a1 w1 hq => ?_), fun body h => by cases h⟩
        have hx := hq.1
        subst hx
        cases e with
        | normal => exact (hne rfl).elim
        | exit id => exact hq
        | goto l => exact hq
        | ret => exact hq
       ·cases h
     | cond c t e =>
       simp only [ev] at h
       split at h
       ·rename_i b hb
        have i1 := ih _ _ _ _ h
        cases out with
        | val v => exact i1.elim
        | ex ex fr' =>
          refine fun n r φ w a hR hF => ⟨?_, fun body h => by cases h⟩
          have hv := hF.eval_ c
          rw [hb] at hv
          simp only [VR] at hv
          refine wpIn_cond hv ?_
          have := (i1 n r φ w a hR hF).1
          cases b <;> exact this
       ·cases h
     | block id body =>
       simp only [ev] at h
       cases hlp : E.lp id with
       | some g =>
       rw [hlp] at h
       simp only at h
       split at h
       ·rename_i e fr1 σ1 h1
        simp only [Option.some.injEq, Prod.mk.injEq] at h
        obtain ⟨rfl, rfl⟩ := h
        show CodeOK P w0 (erase E (.block id body)) _ _ _ _ _
        rw [show erase E (.block id body) = g.code by simp only [erase, hlp]]
        exact hI.1 id g fr σ e fr1 σ1 hlp h1
       ·cases h
       | none =>
       rw [hlp] at h
       simp only at h
       have hee : erase E (.block id body) = .block id (erase E body) := by simp only [erase, hlp]
       split at h
       ·rename_i j fr1 σ1 h1
        simp only [Option.some.injEq, Prod.mk.injEq] at h
        obtain ⟨rfl, rfl⟩ := h
        have i1 := ih _ _ _ _ h1
        show CodeOK P w0 (erase E (.block id body)) _ _ _ _ _
        rw [hee]
        refine fun n r φ w a hR hF => ⟨wpIn_block (wpIn_mono (i1 n r φ w a hR hF).1 fun x a1 w1 hq => ?_), fun body h => by cases h⟩
        obtain ⟨rfl, hq2⟩ := hq
        show Exit.inBlock id _ (.exit j) a1 w1
        simp only [Exit.inBlock]
        by_cases hj : j = id
        ·subst hj
         rw [if_pos rfl]
         have : Nat.beq j j = true := Nat.beq_refl j
         rw [this]
         exact ⟨rfl, hq2⟩
        ·rw [if_neg hj]
         have : Nat.beq j id = false := by
          cases hb : Nat.beq j id with
          | false => rfl
          | true => exact absurd (Nat.eq_of_beq_eq_true hb) hj
         rw [this]
         exact ⟨rfl, hq2⟩
       ·rename_i e fr1 σ1 hne h1
        simp only [Option.some.injEq, Prod.mk.injEq] at h
        obtain ⟨rfl, rfl⟩ := h
        have i1 := ih _ _ _ _ h1
        show CodeOK P w0 (erase E (.block id body)) _ _ _ _ _
        rw [hee]
        refine fun n r φ w a hR hF => ⟨wpIn_block (wpIn_mono (i1 n r φ w a hR hF).1 fun x a1 w1 hq => ?_), fun body h => by cases h⟩
        have hx := hq.1
        subst hx
        cases e with
        | normal => exact hq
        | exit id => exact (hne _ rfl).elim
        | goto l => exact hq
        | ret => exact hq
       ·cases h
     | loop body =>
       simp only [ev] at h
       have key : ∀ n r φ w a, Rel w0 φ σ.get σ.next w → FrR φ fr a r → ∃ e fr', out = .ex e fr' ∧ LoopIn (fen r) n P (erase E body) (CodePost w0 φ σ w r e.out fr' σ') a w := by
        split at h
        ·rename_i fr1 σ1 h1
         have i1 := ih _ _ _ _ h1
         have i2 := ih _ _ _ _ h
         cases out with
         | val v => exact i2.elim
         | ex e fr' =>
           refine fun n r φ w a hR hF => ⟨e, fr', rfl, loopIn_of (wpIn_mono (i1 n r φ w a hR hF).1 fun x a1 w1 hq => ?_)⟩
           obtain ⟨rfl, φ1, f1, r1, x1⟩ := hq
           have := (i2 n r φ1 w1 a1 r1 f1).2 (erase E body) rfl
           intro b k cs hro hb hr
           obtain ⟨e', a', w', q, rr⟩ := this b k cs hro hb hr
           exact ⟨e', a', w', q.pull x1, rr⟩
        ·rename_i e fr1 σ1 hne h1
         simp only [Option.some.injEq, Prod.mk.injEq] at h
         obtain ⟨rfl, rfl⟩ := h
         have i1 := ih _ _ _ _ h1
         refine fun n r φ w a hR hF => ⟨e, fr1, rfl, loopIn_of (wpIn_mono (i1 n r φ w a hR hF).1 fun x a1 w1 hq => ?_)⟩
         have hx := hq.1
         subst hx
         cases e with
         | normal => exact (hne rfl).elim
         | exit id => exact hq
         | goto l => exact hq
         | ret => exact hq
        ·cases h
       cases out with
       | val v => 
         exfalso
         split at h
         ·exact (ih _ _ _ _ h).elim
         ·cases h
         ·cases h
       | ex e fr' =>
         intro n r φ w a hR hF
         obtain ⟨e', fr'', he, hl⟩ := key n r φ w a hR hF
         injection he with he1 he2
         subst he1; subst he2
         exact ⟨wpIn_loopIn hl, fun b hb => by injection hb with hb; subst hb; exact hl⟩
     | scope body =>
       simp only [ev] at h
       cases hp : plain E body with
       | false => rw [hp] at h; cases h
       | true =>
       rw [hp] at h
       simp only [cond_true] at h
       have i1 := ih _ _ _ _ h
       cases out with
       | val v => exact i1.elim
       | ex e fr' => exact fun n r φ w a hR hF => ⟨wpIn_scope (i1 n r φ w a hR hF), fun body h => by cases h⟩
     | rangeFunc f params assign body =>
       simp only [ev] at h
       split at h
       ·rename_i gg first captured l fr1 σ1 hf hen
        split at h
        ·rename_i v σ2 hc
         split at h
         ·rename_i lp hg
          split at h
          ·cases h
          ·rename_i hst
           split at h
           ·rename_i e hpend
            simp only [Option.some.injEq, Prod.mk.injEq] at h
            obtain ⟨rfl, rfl⟩ := h
            exact range_sound hE hf hen (ih _ _ _ _ hc) hg (fun h => hst h) hpend
           ·cases h
         ·cases h
        ·cases h
       ·cases h
   | scope cur body fr =>
     simp only [ev] at h
     cases hp : plain E cur with
     | false => rw [hp] at h; cases h
     | true =>
     rw [hp] at h
     simp only [cond_true] at h
     have hpe := erase_plain E cur hp
     have hcur : ∀ out1 σ1, ev E m (.code cur fr) σ = some (out1, σ1) → (match out1 with | .ex e fr' => CodeOK P w0 cur fr σ e.out fr' σ1 | _ => False) := fun out1 σ1 h1 => by
      have i1 := ih _ _ _ _ h1
      cases out1 with
      | val v => exact i1.elim
      | ex e fr' =>
        have i1 : CodeOK P w0 (erase E cur) fr σ e.out fr' σ1 := i1
        rw [hpe] at i1
        exact i1
     split at h
     ·rename_i l fr1 σ1 h1
      have i1 := hcur _ _ h1
      split at h
      ·rename_i rest hfl
       have i2 := ih _ _ _ _ h
       cases out with
       | val v => exact i2.elim
       | ex e fr' =>
         refine fun n r φ w a hR hF => scopeIn_of (wpIn_mono (i1 n r φ w a hR hF).1 fun x a1 w1 hq => ?_)
         obtain ⟨rfl, φ1, f1, r1, x1⟩ := hq
         refine .inl ⟨rest, hfl, fun b k cs hro hb hr => ?_⟩
         obtain ⟨e', a', w', q, rr⟩ := i2 n r φ1 w1 a1 r1 f1 b k cs hro hb hr
         exact ⟨e', a', w', q.pull x1, rr⟩
      ·rename_i hfl
       simp only [Option.some.injEq, Prod.mk.injEq] at h
       obtain ⟨rfl, rfl⟩ := h
       refine fun n r φ w a hR hF => scopeIn_of (wpIn_mono (i1 n r φ w a hR hF).1 fun x a1 w1 hq => ?_)
       have hx := hq.1
       subst hx
       exact .inr ⟨hfl, hq⟩
     ·rename_i e fr1 σ1 hne h1
      simp only [Option.some.injEq, Prod.mk.injEq] at h
      obtain ⟨rfl, rfl⟩ := h
      have i1 := hcur _ _ h1
      refine fun n r φ w a hR hF => scopeIn_of (wpIn_mono (i1 n r φ w a hR hF).1 fun x a1 w1 hq => ?_)
      have hx := hq.1
      subst hx
      cases e with
      | normal => exact hq
      | exit id => exact hq
      | goto l => exact (hne _ rfl).elim
      | ret => exact hq
     ·cases h
   | val f args =>
     simp only [ev] at h
     split at h
     ·rename_i gg first captured
      have i1 := ih _ _ _ _ h
      cases out with
      | ex e fr' => exact i1.elim
      | val v =>
        intro n φ w u us hR hu hus
        simp only [VR] at hu
        obtain ⟨_, x, y, rfl, hx, hy⟩ := hu
        obtain ⟨⟨fnn, b1, b2, b3⟩, hc⟩ := i1
        refine ⟨{ target := .fn (.func gg) y.toArray, args := x.toArray ++ us.toArray }, .enter gg (x ++ us ++ y).toArray, rfl, ?_, .inl ⟨gg, _, rfl, hc n φ w _ hR ((hx.append hus).append hy)⟩⟩
        simp only [invoke]
        rw [callFunc_run b1 b2 b3]
        simp
     ·rename_i l
      have i1 := ih _ _ _ _ h
      cases out with
      | ex e fr' => exact i1.elim
      | val v =>
        intro n φ w u us hR hu hus
        simp only [VR] at hu
        obtain ⟨lo, hl, rfl⟩ := hu
        obtain ⟨f, t, a, b, h1, h2⟩ := i1 n φ w us lo hR hus hl
        refine ⟨{ target := .fn (.yield lo.c) #[], args := #[] ++ us.toArray }, _, rfl, ?_, .inr ⟨lo.c, f, t, a, b, rfl, h2⟩⟩
        simp only [invoke, Array.empty_append, h1]
     ·cases h
   | call f args =>
     simp only [ev] at h
     split at h
     ·rename_i gi hgi
      split at h
      ·rename_i v σ1 hgr
       simp only [Option.some.injEq, Prod.mk.injEq] at h
       obtain ⟨rfl, rfl⟩ := h
       exact hI.2 f gi args σ v σ1 hgi hgr
      ·cases h
     ·split at h
      ·cases h
      ·rename_i fn hfn
       split at h
       ·cases h
       ·rename_i c hb
        cases hle : Nat.ble args.length fn.ntmps with
        | false => rw [hle] at h; cases h
        | true =>
          rw [hle] at h
          simp only [cond_true] at h
          have hle := Nat.le_of_ble_eq_true hle
          split at h
          ·rename_i e fr σ1 h1
           have i1 := ih _ _ _ _ h1
           have key : (e.out = .normal ∨ e.out = .ret) → (match amarks fr.marks σ1 with
             | none => none
             | some σ2 => match aresults E fr σ2.get fn.results.toList with
               | some v => some (Out.val v, σ2)
               | none => none) = some (out, σ') → JobOK P E w0 (.call f args) σ out σ' := by
            intro he h
            split at h
            ·cases h
            ·rename_i σ2 hm
             split at h
             ·rename_i v hr
              simp only [Option.some.injEq, Prod.mk.injEq] at h
              obtain ⟨rfl, rfl⟩ := h
              exact call_sound hE hfn hb hle i1 he hm hr
             ·cases h
           cases e with
           | normal => exact key (.inl rfl) h
           | exit id => cases h
           | goto l => cases h
           | ret => exact key (.inr rfl) h
          ·cases h
   | yld l args =>
     simp only [ev] at h
     split at h
     ·rename_i lp hg
      split at h
      ·cases h
      ·rename_i tm hput
       split at h
       ·rename_i fr1 σ1 ha
        split at h
        ·rename_i lp1 hm1 hg1
         split at h
         ·rename_i hst
          split at h
          ·rename_i e fr2 σ3 hbd
           split at h
           ·rename_i lp3 hm2 hg3
            simp only [Option.some.injEq, Prod.mk.injEq] at h
            obtain ⟨rfl, rfl⟩ := h
            cases hpl : (plain E lp.assign && plain E lp.body) with
            | false => rw [hpl] at hput; cases hput
            | true =>
            rw [hpl] at hput
            simp only [cond_true] at hput
            simp only [Bool.and_eq_true] at hpl
            have ja : CodeOK P w0 (erase E lp.assign) _ _ _ _ _ := ih _ _ _ _ ha
            have jb : CodeOK P w0 (erase E lp.body) _ _ _ _ _ := ih _ _ _ _ hbd
            rw [erase_plain E _ hpl.1] at ja
            rw [erase_plain E _ hpl.2] at jb
            exact yld_sound hg hput ja hm1 hg1 hst jb hm2 hg3
           ·cases h
          ·cases h
         ·cases h
        ·cases h
       ·cases h
     ·cases h
end
end Go.Proofs.Ytmjmhpbncfjnpaa.Bm
