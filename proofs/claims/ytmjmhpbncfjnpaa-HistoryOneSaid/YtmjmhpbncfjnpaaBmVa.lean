/- The abstract machine with open decisions: each decision may be told ahead by a tape; then it is noted as what must hold. -/
import Derived.Test.YtmjmhpbncfjnpaaBmW
set_option linter.unusedSimpArgs false
set_option linter.unusedVariables false
namespace Go.Proofs.Ytmjmhpbncfjnpaa.Bm
inductive Plan where
 | stop
 | reck (n : Nat) (p : Plan)
 | fork (p q : Plan)
 | must (c : Bool) (p : Plan)
def T.bind {α β : Type} : T α → (α → T β) → T β
 | .ret a, f => f a
 | .fail, _ => .fail
 | .ask b t e, f => .ask b (t.bind f) (e.bind f)
theorem T.run_bind {α β : Type} (f : α → T β) : ∀ t : T α, (t.bind f).run = match t.run with | some a => (f a).run | none => none
 | .ret a => rfl
 | .fail => rfl
 | .ask b t e => by
   simp only [T.bind, T.run]
   cases b
   ·exact T.run_bind f e
   ·exact T.run_bind f t
def M (α : Type) : Type := Plan → T (α × Plan)
def M.pure {α : Type} (a : α) : M α := fun p => .ret (a, p)
def M.fail {α : Type} : M α := fun _ => .fail
def M.bind {α β : Type} (m : M α) (f : α → M β) : M β := fun p => (m p).bind fun r => f r.1 r.2
def M.lift {α : Type} (o : Option α) : M α := fun p => match o with
 | none => .fail
 | some a => .ret (a, p)
def ask (b : Bool) : M Bool
 | .stop => .ret (b, .stop)
 | .fork p q => .ask b (.ret (true, p)) (.ret (false, q))
 | .must true p => .ask b (.ret (true, p)) .fail
 | .must false p => .ask b .fail (.ret (false, p))
 | .reck 0 p => ask b p
 | .reck (n + 1) p => .ret (b, .reck n p)
def M.ofT {α : Type} : T α → M α
 | .ret a => M.pure a
 | .fail => M.fail
 | .ask b t f => M.bind (ask b) fun r => cond r (M.ofT t) (M.ofT f)
def chk (b : Bool) : M Unit := M.bind (ask b) fun r => cond r (M.pure ()) M.fail
def chkAll : List Bool → M Unit
 | [] => M.pure ()
 | b :: bs => M.bind (chk b) fun _ => chkAll bs
def Sim {α : Type} (m : M α) (o : Option α) : Prop := ∀ p r, (m p).run = some r → o = some r.1
section
variable {α β : Type}
theorem sim_pure (a : α) : Sim (M.pure a) (some a) := by
 intro p r h
 simp only [M.pure, T.run, Option.some.injEq] at h
 rw [← h]
theorem sim_fail (o : Option α) : Sim M.fail o := by
 intro p r h
 cases h
theorem sim_lift (o : Option α) : Sim (M.lift o) o := by
 intro p r h
 unfold M.lift at h
 cases o with
 | none => cases h
 | some a =>
   simp only [T.run, Option.some.injEq] at h
   rw [← h]
theorem sim_bind {m : M α} {f : α → M β} {o : Option α} {r : Option β} (h : Sim m o) (k : ∀ a, o = some a → Sim (f a) r) : Sim (M.bind m f) r := by
 intro p b hb
 unfold M.bind at hb
 rw [T.run_bind] at hb
 cases h1 : (m p).run with
 | none => rw [h1] at hb; cases hb
 | some a =>
   rw [h1] at hb
   exact k a.1 (h _ _ h1) _ _ hb
theorem sim_ask (b : Bool) : Sim (ask b) (some b) := by
 intro p
 induction p with
 | stop =>
   intro r h
   simp only [ask, T.run, Option.some.injEq] at h
   rw [← h]
 | fork p q _ _ =>
   intro r h
   simp only [ask, T.run] at h
   cases b <;> simp only [cond_true, cond_false, Option.some.injEq] at h <;> rw [← h]
 | must c p _ =>
   intro r h
   cases c <;> cases b <;> simp only [ask, T.run, cond_true, cond_false, Option.some.injEq] at h <;> first | (rw [← h]; done) | cases h
 | reck n p ih =>
   intro r h
   cases n with
   | zero => exact ih r h
   | succ n =>
     simp only [ask, T.run, Option.some.injEq] at h
     rw [← h]
theorem sim_asked {b : Bool} {f : Bool → M β} {r : Option β} (k : Sim (f b) r) : Sim (M.bind (ask b) f) r :=
 sim_bind (sim_ask b) fun a ha => by injection ha with ha; subst ha; exact k
theorem sim_chk {b : Bool} {f : Unit → M β} {r : Option β} (k : b = true → Sim (f ()) r) : Sim (M.bind (chk b) f) r := by
 have : Sim (chk b) (cond b (some ()) none) := sim_asked (by cases b; exact sim_fail _; exact sim_pure _)
 refine sim_bind this fun a ha => ?_
 cases b with
 | true => exact k rfl
 | false => cases ha
theorem sim_chkAll : ∀ {bs : List Bool} {f : Unit → M β} {r : Option β}, ((bs.all fun b => b) = true → Sim (f ()) r) → Sim (M.bind (chkAll bs) f) r := by
 have key : ∀ bs, Sim (chkAll bs) (cond (bs.all fun b => b) (some ()) none) := by
  intro bs
  induction bs with
  | nil => exact sim_pure _
  | cons b bs ih =>
    refine sim_chk fun hb => ?_
    simp only [List.all_cons, hb, Bool.true_and]
    exact ih
 intro bs f r k
 refine sim_bind (key bs) fun a ha => ?_
 cases hb : (bs.all fun b => b) with
 | true => exact k hb
 | false => rw [hb] at ha; cases ha
theorem sim_ofT : ∀ t : T α, Sim (M.ofT t) t.run
 | .ret a => sim_pure a
 | .fail => sim_fail _
 | .ask b t f => by
   refine sim_asked ?_
   cases b with
   | true => exact sim_ofT t
   | false => exact sim_ofT f
end
section
variable (E : Env)
def awantedA (fr : Fr) (ops : Array Oper) (o : Oper) : M Bool :=
 match o.guard with
 | none => M.pure true
 | some (j, want) => match ops[j]? with
   | some oj => match oj.dst with
     | some d => match fr.get d with
       | .bool b => ask (b == want)
       | .bad => M.fail
       | _ => M.pure false
     | none => M.pure false
   | none => M.pure false
def aeqFV (rec : TypeId → AV → AV → Option Bool) (xs ys : List AV) : List (TypeId × Nat × Bool) → Option Bool
 | [] => some true
 | (t, off, blank) :: fs => cond blank (aeqFV rec xs ys fs)
     (match apart E t xs off, apart E t ys off with
      | some x, some y => match rec t x y, aeqFV rec xs ys fs with
        | some b, some c => some (b && c)
        | _, _ => none
      | _, _ => none)
def aeqAV (rec : TypeId → AV → AV → Option Bool) (xs ys : List AV) (e : TypeId) (sz : Nat) : Nat → Nat → Option Bool
 | 0, _ => some true
 | n + 1, i => match apart E e xs (i * sz), apart E e ys (i * sz) with
   | some x, some y => match rec e x y, aeqAV rec xs ys e sz n (i + 1) with
     | some b, some c => some (b && c)
     | _, _ => none
   | _, _ => none
def aeqV : Nat → TypeId → AV → AV → Option Bool
 | 0, _, _, _ => none
 | d + 1, t, x, y =>
   match E.ty.get t with
   | none => none
   | some ti =>
     match ti.k, x, y with
     | .strct fs, .agg xs, .agg ys => cond ti.eqok (aeqFV E (aeqV d) xs ys fs) none
     | .arr n e, .agg xs, .agg ys => cond ti.eqok (match E.ty.get e with
       | some te => aeqAV E (aeqV d) xs ys e te.size n 0
       | none => none) none
     | _, _, _ => aeq E (d + 1) t x y
def abinA (op : BinOp) (t : TypeId) (x y : AV) : M AV :=
 match x, y with
 | .int k a, .int l b =>
   match op with
   | .shl => M.bind (chk (!(decide (b < 0)))) fun _ => M.pure (.int k (k.wrap (a * 2 ^ (min b.toNat k.bits))))
   | .shr => M.bind (chk (!(decide (b < 0)))) fun _ => M.pure (.int k (a.fdiv (2 ^ (min b.toNat k.bits))))
   | .quo => M.bind (chk (!(decide (b = 0)))) fun _ => cond (decide (k = l)) (M.pure (.int k (k.wrap (a.tdiv b)))) M.fail
   | .rem => M.bind (chk (!(decide (b = 0)))) fun _ => cond (decide (k = l)) (M.pure (.int k (a.tmod b))) M.fail
   | _ => M.lift (abin E op t (.int k a) (.int l b))
 | .str a, .str b =>
   match op with
   | .add => M.bind (chk (Nat.ble (a.length + b.length) 140737488355328)) fun _ => M.pure (.str (a ++ b))
   | _ => M.lift (abin E op t (.str a) (.str b))
 | .agg xs, .agg ys =>
   match op with
   | .eql => match aeqV E 50 t (.agg xs) (.agg ys) with
     | some b => M.pure (.bool b)
     | none => M.fail
   | .neq => match aeqV E 50 t (.agg xs) (.agg ys) with
     | some b => M.pure (.bool (!b))
     | none => M.fail
   | _ => M.fail
 | x, y => M.lift (abin E op t x y)
def apureA (ρ : Operand → AV) (op : Op) : M AV :=
 match op with
 | .pick c a b => match ρ c with
   | .bool t => M.bind (ask t) fun r => M.pure (cond r (ρ a) (ρ b))
   | _ => M.fail
 | .binOp op t x y _ => abinA E op t (ρ x) (ρ y)
 | _ => M.lift (apure E ρ op)
def isPure (op : Op) : Bool :=
 match op with
 | .pick _ _ _ => true
 | .binOp _ _ _ _ _ => true
 | _ => false
def areadA (ρ : Operand → AV) (g : Nat → Option AObj) (op : Op) : M AV :=
 match tread E ρ g op with
 | some (v, obl) => M.bind (chkAll obl) fun _ => M.pure v
 | none => cond (isPure op) (apureA E ρ op) (M.lift (aread0 E ρ g op))
def aeffA (ρ : Operand → AV) (σ : St) (op : Op) : M (AV × St) :=
 M.bind (cond (isOsl (opA ρ op)) (ask (nlOf (opA ρ op))) (M.pure false)) fun c1 =>
 M.bind (cond (isOsl (opB ρ op)) (ask (nlOf (opB ρ op))) (M.pure false)) fun c2 =>
 M.bind (cond (isApp op) (ask (troom (dnb c1 (opA ρ op)) (dnb c2 (opB ρ op)))) (M.pure true)) fun b => match teff E b (dnb c1 (opA ρ op)) (dnb c2 (opB ρ op)) ρ σ op with
  | some (v, σ', obl) => M.bind (chkAll obl) fun _ => M.pure (v, σ')
  | none => M.lift (aeff0 E (dnb c1 (opA ρ op)) (dnb c2 (opB ρ op)) ρ σ op)
def aallocA (ρ : Operand → AV) (op : Op) : M (AObj × (Nat → AV)) :=
 match talloc E ρ op with
 | some (o, f, obl) => M.bind (chkAll obl) fun _ => M.pure (o, f)
 | none => M.lift (aalloc0 E ρ op)
def aoperA (rec : Job → St → M (Out × St)) (ρ : Operand → AV) (σ : St) (op : Op) : M (AV × St) :=
 match acls E op with
 | .read => M.bind (areadA E ρ σ.get op) fun v => M.pure (v, σ)
 | .alloc => M.bind (aallocA E ρ op) fun p => M.pure (p.2 σ.next, σ.new p.1)
 | .eff => match op with
   | .call c => match c.callee with
     | .value f => M.bind (rec (.val (ρ f) (c.args.toList.map ρ)) σ) fun r => match r with
       | (.val v, σ') => M.pure (v, σ')
       | _ => M.fail
     | _ => aeffA E ρ σ op
   | _ => aeffA E ρ σ op
def aopsA (rec : Job → St → M (Out × St)) (ops : Array Oper) : List Oper → Fr → St → M (Fr × St)
 | [], fr, σ => M.pure (fr, σ)
 | o :: rest, fr, σ => M.bind (awantedA fr ops o) fun b =>
   cond b (M.bind (aoperA E rec fr.eval σ o.op) fun r => match fr.put o.dst r.1 with
     | some fr' => aopsA rec ops rest fr' r.2
     | none => M.fail)
    (match fr.put o.dst .undef with
      | some fr' => aopsA rec ops rest fr' σ
      | none => M.fail)
def dloopA (rec : Job → St → M (Out × St)) (ops : Array Oper) (mk : Tr Nat) : List Oper → Nat → DS → M DS
 | [], _, s => M.pure s
 | o :: os, i, s => M.bind (awantedA s.fr ops o) fun b =>
   cond b
    (match acls E o.op with
    | .read => M.bind (areadA E s.fr.eval s.σ.get o.op) fun v => match s.fr.put o.dst v with
       | none => M.fail
       | some fr => dloopA rec ops mk os (Nat.succ i) { s with fr := fr, reads := cond (looks o.op) ((i, o.op, v, s.fr) :: s.reads) s.reads }
    | .alloc => M.bind (aallocA E s.fr.eval o.op) fun p => match s.fr.put o.dst (p.2 s.al) with
       | none => M.fail
       | some fr => dloopA rec ops mk os (Nat.succ i) { s with fr := fr, σ := s.σ.put s.al p.1, al := Nat.succ s.al }
    | .eff =>
      cond (match s.effs with | [] => true | (j, _) :: _ => Nat.testBit (mask mk i) j)
      (M.bind (aoperA E rec s.fr.eval s.σ o.op) fun r => match s.fr.put o.dst r.1 with
        | none => M.fail
        | some fr => dloopA rec ops mk os (Nat.succ i) { s with fr := fr, σ := r.2, effs := (i, s.σ.heap) :: s.effs }) M.fail)
    (match s.fr.put o.dst .undef with
    | some fr => dloopA rec ops mk os (Nat.succ i) { s with fr := fr, al := match acls E o.op with | .alloc => Nat.succ s.al | _ => s.al }
    | none => M.fail)
mutual
def eqObl : AV → AV → Option (List Bool)
 | .bool a, .bool b => some [a == b]
 | .int k a, .int l b => cond (decide (k = l)) (some [decide (a = b)]) none
 | .str a, .str b => some [a == b]
 | .slice a b c d e f, .slice a' b' c' d' e' f' => cond (Nat.beq a a' && Nat.beq e e' && (f == f')) (some [Nat.beq b b', Nat.beq c c', Nat.beq d d']) none
 | .tsl a b c d e f, .tsl a' b' c' d' e' f' => cond (Nat.beq a a' && Nat.beq e e' && (f == f')) (some [Nat.beq b b', Nat.beq c c', Nat.beq d d']) none
 | .osl n a b c d e f, .osl n' a' b' c' d' e' f' => cond (Nat.beq a a' && Nat.beq e e' && (f == f')) (some [n == n', Nat.beq b b', Nat.beq c c', Nat.beq d d']) none
 | .tptr a b c d, .tptr a' b' c' d' => cond (Nat.beq a a' && Nat.beq c c' && Nat.beq d d') (some [Nat.beq b b']) none
 | .iface t a, .iface u b => cond (Nat.beq t u) (eqObl a b) none
 | .agg a, .agg b => eqOblL a b
 | .tuple a, .tuple b => eqOblL a b
 | a, b => cond (AV.beq a b) (some []) none
def eqOblL : List AV → List AV → Option (List Bool)
 | [], [] => some []
 | a :: as, b :: bs => match eqObl a b, eqOblL as bs with
   | some l, some m => some (l ++ m)
   | _, _ => none
 | _, _ => none
end
def chkEq (x y : AV) : M Unit := match eqObl x y with
 | some l => chkAll l
 | none => M.fail
def readOkA (mk : Tr Nat) (r : Nat × Op × AV × Fr) : List (Nat × Tr AObj) → List (Nat × Tr AObj) → Tr AObj → M Unit
 | [], later, h => cond (mayAt mk r.1 later []) (M.bind (areadA E r.2.2.2.eval h.get r.2.1) fun v => chkEq v r.2.2.1) (M.pure ())
 | (j, h0) :: es, later, h =>
   M.bind (cond (mayAt mk r.1 later ((j, h0) :: es)) (M.bind (areadA E r.2.2.2.eval h.get r.2.1) fun v => chkEq v r.2.2.1) (M.pure ())) fun _ =>
   readOkA mk r es ((j, h0) :: later) h0
def readsOkA (mk : Tr Nat) (effs : List (Nat × Tr AObj)) (h : Tr AObj) : List (Nat × Op × AV × Fr) → M Unit
 | [] => M.pure ()
 | r :: rs => M.bind (readOkA E mk r effs [] h) fun _ => readsOkA mk effs h rs
def adrawA (rec : Job → St → M (Out × St)) (ops : Array Oper) (fr : Fr) (σ : St) : M (Fr × St) :=
 let l := ops.toList
 let mk := masks l 0 .nil
 match writers l 0 .nil with
 | none => M.fail
 | some wr =>
   cond (opersOk mk wr l 0)
   (M.bind (dloopA E rec ops mk l 0 { fr := fr, σ := { heap := σ.heap, next := Nat.add σ.next (nallocs E l) }, al := σ.next, effs := [], reads := [] }) fun s =>
     M.bind (readsOkA E mk s.effs s.σ.heap s.reads) fun _ => M.pure (s.fr, s.σ)) M.fail
end
def evA (E : Env) : Nat → Job → St → M (Out × St)
 | 0, _, _ => M.fail
 | n + 1, .code c fr, σ =>
   match c with
   | .skip => M.pure (.ex .normal fr, σ)
   | .label _ => M.pure (.ex .normal fr, σ)
   | .exit id => M.pure (.ex (.exit id) fr, σ)
   | .goto l => M.pure (.ex (.goto l) fr, σ)
   | .ret => M.pure (.ex .ret fr, σ)
   | .refuse _ => M.fail
   | .region _ ops draw => M.bind (cond draw (adrawA E (evA E n) ops fr σ) (aopsA E (evA E n) ops ops.toList fr σ)) fun r => M.pure (.ex .normal r.1, r.2)
   | .seq a b => M.bind (evA E n (.code a fr) σ) fun r => match r with
     | (.ex .normal fr1, σ1) => evA E n (.code b fr1) σ1
     | (.ex e fr1, σ1) => M.pure (.ex e fr1, σ1)
     | _ => M.fail
   | .cond c t e => match fr.eval c with
     | .bool b => M.bind (ask b) fun r => evA E n (.code (cond r t e) fr) σ
     | _ => M.fail
   | .block id body => match E.lp id with
     | some g => M.bind (M.ofT (g.run fr σ)) fun r => M.pure (.ex r.1 r.2.1, r.2.2)
     | none => M.bind (evA E n (.code body fr) σ) fun r => match r with
       | (.ex (.exit j) fr1, σ1) => M.pure (.ex (cond (Nat.beq j id) .normal (.exit j)) fr1, σ1)
       | (.ex e fr1, σ1) => M.pure (.ex e fr1, σ1)
       | _ => M.fail
   | .loop body => M.bind (evA E n (.code body fr) σ) fun r => match r with
     | (.ex .normal fr1, σ1) => evA E n (.code (.loop body) fr1) σ1
     | (.ex e fr1, σ1) => M.pure (.ex e fr1, σ1)
     | _ => M.fail
   | .scope body => cond (plain E body) (evA E n (.scope body body fr) σ) M.fail
   | .rangeFunc f params assign body =>
     match fr.eval f, aenter fr σ params.toList assign body with
     | .func (.func g) first captured, some (l, fr1, σ1) =>
       M.bind (evA E n (.call g (first ++ [.yld l] ++ captured)) σ1) fun r => match r with
       | (.val _, σ2) => match σ2.get l with
         | some (.loop lp) => match lp.st with
           | .busy => M.fail
           | _ => match Ex.ofPend lp.pend with
             | some e => M.pure (.ex e fr1, σ2.put l (.loop { lp with st := .exhausted }))
             | none => M.fail
         | _ => M.fail
       | _ => M.fail
     | _, _ => M.fail
 | n + 1, .scope cur body fr, σ =>
   M.bind (cond (plain E cur) (evA E n (.code cur fr) σ) M.fail) fun r => match r with
   | (.ex (.goto l) fr1, σ1) => match findLabel body l with
     | some rest => evA E n (.scope rest body fr1) σ1
     | none => M.pure (.ex (.goto l) fr1, σ1)
   | (.ex e fr1, σ1) => M.pure (.ex e fr1, σ1)
   | _ => M.fail
 | n + 1, .val f args, σ =>
   match f with
   | .func (.func g) first captured => evA E n (.call g (first ++ args ++ captured)) σ
   | .yld l => evA E n (.yld l args) σ
   | _ => M.fail
 | n + 1, .call f args, σ =>
   match E.intr f with
   | some g => M.bind (M.ofT (g.run args σ)) fun r => M.pure (.val r.1, r.2)
   | none => match E.fn.get f with
     | none => M.fail
     | some fn => match fn.body with
       | none => M.fail
       | some c => cond (Nat.ble args.length fn.ntmps)
         (M.bind (evA E n (.code c { tmps := Tr.ofList args 0 .nil, size := fn.ntmps, marks := [], rnd := none }) σ) fun r => match r with
          | (.ex e fr, σ1) =>
            match e with
            | .exit _ => M.fail
            | .goto _ => M.fail
            | _ => match amarks fr.marks σ1 with
              | none => M.fail
              | some σ2 => match aresults E fr σ2.get fn.results.toList with
                | some v => M.pure (.val v, σ2)
                | none => M.fail
          | _ => M.fail) M.fail
 | n + 1, .yld l args, σ =>
   match σ.get l with
   | some (.loop lp) => match cond (plain E lp.assign && plain E lp.body) (putAll lp.params args lp.size lp.tmps) none with
     | none => M.fail
     | some tm => M.bind (evA E n (.code lp.assign { tmps := tm, size := lp.size, marks := [], rnd := some l }) σ) fun r => match r with
       | (.ex .normal fr1, σ1) => match fr1.marks, σ1.get l with
         | [], some (.loop lp1) => match lp1.st with
           | .ready => M.bind (evA E n (.code lp.body fr1) (σ1.put l (.loop { lp1 with st := .busy }))) fun r => match r with
             | (.ex e fr2, σ3) => match fr2.marks, σ3.get l with
               | [], some (.loop lp3) =>
                 M.pure (.val (.bool e.jump.isNone), σ3.put l (.loop { lp3 with st := cond e.jump.isNone .ready .done, pend := e.jump }))
               | _, _ => M.fail
             | _ => M.fail
           | _ => M.fail
         | _, _ => M.fail
       | _ => M.fail
   | _ => M.fail
section
variable {E : Env}
theorem sim_wanted (fr : Fr) (ops : Array Oper) (o : Oper) : Sim (awantedA fr ops o) (awanted fr ops o) := by
 unfold awantedA awanted
 cases o.guard with
 | none => exact sim_pure _
 | some p =>
   obtain ⟨j, want⟩ := p
   simp only
   cases ops[j]? with
   | none => exact sim_pure _
   | some oj =>
     simp only
     cases oj.dst with
     | none => exact sim_pure _
     | some d =>
       simp only
       cases fr.get d <;> first | exact sim_ask _ | exact sim_fail _ | exact sim_pure _
theorem aeqFV_ok {rec rec' : TypeId → AV → AV → Option Bool} (hr : ∀ t x y b, rec t x y = some b → rec' t x y = some b) {xs ys : List AV} : ∀ (fs : List (TypeId × Nat × Bool)) (b : Bool), aeqFV E rec xs ys fs = some b → aeqF E rec' xs ys fs = some b
 | [], b, h => h
 | (t, off, blank) :: fs, b, h => by
   simp only [aeqFV, aeqF] at h ⊢
   cases blank with
   | true => exact aeqFV_ok hr fs b h
   | false =>
     simp only [cond_false] at h ⊢
     split at h
     ·rename_i x y hx hy
      split at h
      ·rename_i c d h1 h2
       simp only [Option.some.injEq] at h; subst h
       simp only [hx, hy, hr _ _ _ _ h1]
       cases c with
       | true => simpa using aeqFV_ok hr fs d h2
       | false => rfl
      ·cases h
     ·cases h
theorem aeqAV_ok {rec rec' : TypeId → AV → AV → Option Bool} (hr : ∀ t x y b, rec t x y = some b → rec' t x y = some b) {xs ys : List AV} {e : TypeId} {sz : Nat} : ∀ (n i : Nat) (b : Bool), aeqAV E rec xs ys e sz n i = some b → aeqA E rec' xs ys e sz n i = some b
 | 0, i, b, h => h
 | n + 1, i, b, h => by
   simp only [aeqAV, aeqA] at h ⊢
   split at h
   ·rename_i x y hx hy
    split at h
    ·rename_i c d h1 h2
     simp only [Option.some.injEq] at h; subst h
     simp only [hx, hy, hr _ _ _ _ h1]
     cases c with
     | true => simpa using aeqAV_ok hr n (i + 1) d h2
     | false => rfl
    ·cases h
   ·cases h
theorem aeqV_ok : ∀ (d : Nat) (t : TypeId) (x y : AV) (b : Bool), aeqV E d t x y = some b → aeq E d t x y = some b
 | 0, t, x, y, b, h => by simp [aeqV] at h
 | d + 1, t, x, y, b, h => by
   unfold aeqV at h
   split at h
   ·cases h
   ·rename_i ti ht
    split at h
    ·rename_i fs xs ys hk
     cases he : ti.eqok with
     | false => rw [he] at h; cases h
     | true =>
       rw [he] at h
       simp only [cond_true] at h
       simp only [aeq, ht, hk, he, cond_true]
       exact aeqFV_ok (fun t x y b h => aeqV_ok d t x y b h) fs b h
    ·rename_i n e xs ys hk
     cases he : ti.eqok with
     | false => rw [he] at h; cases h
     | true =>
       rw [he] at h
       simp only [cond_true] at h
       simp only [aeq, ht, hk, he, cond_true]
       split at h
       ·rename_i te hte
        simp only [hte]
        exact aeqAV_ok (fun t x y b h => aeqV_ok d t x y b h) n 0 b h
       ·cases h
    ·exact h
theorem sim_bin (op : BinOp) (t : TypeId) (x y : AV) : Sim (abinA E op t x y) (abin E op t x y) := by
 unfold abinA
 split
 ·rename_i k a l b
  split
  ·refine sim_chk fun h => ?_
   have h : decide (b < 0) = false := by simpa using h
   have : abin E .shl t (.int k a) (.int l b) = some (.int k (k.wrap (a * 2 ^ (min b.toNat k.bits)))) := by simp only [abin, h, cond_false]
   rw [this]; exact sim_pure _
  ·refine sim_chk fun h => ?_
   have h : decide (b < 0) = false := by simpa using h
   have : abin E .shr t (.int k a) (.int l b) = some (.int k (a.fdiv (2 ^ (min b.toNat k.bits)))) := by simp only [abin, h, cond_false]
   rw [this]; exact sim_pure _
  ·refine sim_chk fun h => ?_
   have h : decide (b = 0) = false := by simpa using h
   cases hk : decide (k = l) with
   | false => exact sim_fail _
   | true =>
     have : abin E .quo t (.int k a) (.int l b) = some (.int k (k.wrap (a.tdiv b))) := by simp only [abin, h, hk, cond_false, cond_true]
     rw [this]; exact sim_pure _
  ·refine sim_chk fun h => ?_
   have h : decide (b = 0) = false := by simpa using h
   cases hk : decide (k = l) with
   | false => exact sim_fail _
   | true =>
     have : abin E .rem t (.int k a) (.int l b) = some (.int k (a.tmod b)) := by simp only [abin, h, hk, cond_false, cond_true]
     rw [this]; exact sim_pure _
  ·exact sim_lift _
 ·rename_i a b
  split
  ·refine sim_chk fun h => ?_
   have : abin E .add t (.str a) (.str b) = some (.str (a ++ b)) := by simp only [abin, h, cond_true]
   rw [this]; exact sim_pure _
  ·exact sim_lift _
 ·rename_i xs ys
  split
  ·split
   ·rename_i b hb
    have : abin E .eql t (.agg xs) (.agg ys) = some (.bool b) := by simp only [abin, aeqV_ok _ _ _ _ _ hb]
    rw [this]; exact sim_pure _
   ·exact sim_fail _
  ·split
   ·rename_i b hb
    have : abin E .neq t (.agg xs) (.agg ys) = some (.bool (!b)) := by simp only [abin, aeqV_ok _ _ _ _ _ hb]
    rw [this]; exact sim_pure _
   ·exact sim_fail _
  ·exact sim_fail _
 ·exact sim_lift _
theorem sim_read (ρ : Operand → AV) (g : Nat → Option AObj) (op : Op) : Sim (areadA E ρ g op) (aread E ρ g op) := by
 unfold areadA aread
 cases tread E ρ g op with
 | some p =>
   obtain ⟨v, obl⟩ := p
   refine sim_chkAll fun h => ?_
   simp only [h]; exact sim_pure _
 | none =>
   simp only
   cases hp : isPure op with
   | false => exact sim_lift _
   | true =>
     simp only [cond_true]
     have hr : aread0 E ρ g op = apure E ρ op := by cases op <;> first | rfl | (simp [isPure] at hp)
     rw [hr]
     cases op <;> try (simp [isPure] at hp; done)
     case pick c a b =>
      simp only [apureA, apure]
      cases ρ c <;> first | exact sim_fail _ | exact sim_asked (sim_pure _)
     case binOp => exact sim_bin _ _ _ _
theorem sim_nl (v : AV) : Sim (cond (isOsl v) (ask (nlOf v)) (M.pure false)) (some (nlOf v)) := by
 cases v <;> first | exact sim_ask _ | exact sim_pure _
theorem sim_eff (ρ : Operand → AV) (σ : St) (op : Op) : Sim (aeffA E ρ σ op) (aeff E ρ σ op) := by
 unfold aeffA aeff beff
 refine sim_bind (sim_nl _) fun c1 h1 => ?_
 injection h1 with h1; subst h1
 refine sim_bind (sim_nl _) fun c2 h2 => ?_
 injection h2 with h2; subst h2
 have key : Sim (cond (isApp op) (ask (troom (dnb (nlOf (opA ρ op)) (opA ρ op)) (dnb (nlOf (opB ρ op)) (opB ρ op)))) (M.pure true)) (some (tdec (dnb (nlOf (opA ρ op)) (opA ρ op)) (dnb (nlOf (opB ρ op)) (opB ρ op)) op)) := by
  unfold tdec
  cases isApp op with
  | true => exact sim_ask _
  | false => exact sim_pure _
 refine sim_bind key fun b hb => ?_
 injection hb with hb; subst hb
 cases teff E (tdec (dnb (nlOf (opA ρ op)) (opA ρ op)) (dnb (nlOf (opB ρ op)) (opB ρ op)) op) (dnb (nlOf (opA ρ op)) (opA ρ op)) (dnb (nlOf (opB ρ op)) (opB ρ op)) ρ σ op with
 | some p =>
   obtain ⟨v, σ', obl⟩ := p
   refine sim_chkAll fun h => ?_
   simp only [h]; exact sim_pure _
 | none => exact sim_lift _
theorem sim_alloc (ρ : Operand → AV) (op : Op) : Sim (aallocA E ρ op) (aalloc E ρ op) := by
 unfold aallocA aalloc
 cases talloc E ρ op with
 | some p =>
   obtain ⟨o, f, obl⟩ := p
   refine sim_chkAll fun h => ?_
   simp only [h]; exact sim_pure _
 | none => exact sim_lift _
section
variable {rec : Job → St → M (Out × St)} {rec' : Job → St → Option (Out × St)}
theorem sim_oper (hr : ∀ j σ, Sim (rec j σ) (rec' j σ)) (ρ : Operand → AV) (σ : St) (op : Op) : Sim (aoperA E rec ρ σ op) (aoper E rec' ρ σ op) := by
 unfold aoperA aoper
 cases acls E op with
 | read =>
   refine sim_bind (sim_read _ _ _) fun v hv => ?_
   rw [hv]; exact sim_pure _
 | alloc =>
   refine sim_bind (sim_alloc _ _) fun p hp => ?_
   rw [hp]; exact sim_pure _
 | eff =>
   cases op <;> first | exact sim_eff _ _ _ | skip
   rename_i c
   obtain ⟨callee, a1, a2⟩ := c
   cases callee <;> first | exact sim_eff _ _ _ | skip
   simp only
   refine sim_bind (hr _ _) fun r hv => ?_
   rw [hv]
   obtain ⟨out, σ1⟩ := r
   cases out with
   | ex e fr => exact sim_fail _
   | val v => exact sim_pure _
theorem sim_ops (hr : ∀ j σ, Sim (rec j σ) (rec' j σ)) (ops : Array Oper) : ∀ (l : List Oper) (fr : Fr) (σ : St), Sim (aopsA E rec ops l fr σ) (aops E rec' ops l fr σ)
 | [], fr, σ => sim_pure _
 | o :: rest, fr, σ => by
   simp only [aopsA, aops]
   refine sim_bind (sim_wanted _ _ _) fun b hb => ?_
   rw [hb]
   cases b with
   | true =>
     simp only [cond_true]
     refine sim_bind (sim_oper hr _ _ _) fun r hv => ?_
     rw [hv]
     simp only
     cases fr.put o.dst r.1 with
     | none => exact sim_fail _
     | some fr' => exact sim_ops hr ops rest fr' _
   | false =>
     simp only [cond_false]
     cases fr.put o.dst .undef with
     | none => exact sim_fail _
     | some fr' => exact sim_ops hr ops rest fr' _
theorem sim_dloop (hr : ∀ j σ, Sim (rec j σ) (rec' j σ)) (ops : Array Oper) (mk : Tr Nat) : ∀ (l : List Oper) (i : Nat) (s : DS), Sim (dloopA E rec ops mk l i s) (dloop E rec' ops mk l i s)
 | [], i, s => sim_pure _
 | o :: os, i, s => by
   simp only [dloopA, dloop]
   refine sim_bind (sim_wanted _ _ _) fun b hb => ?_
   rw [hb]
   cases b with
   | true =>
     simp only [cond_true]
     cases hc : acls E o.op with
     | read =>
       simp only
       refine sim_bind (sim_read _ _ _) fun v hv => ?_
       rw [hv]
       simp only
       cases s.fr.put o.dst v with
       | none => exact sim_fail _
       | some fr => exact sim_dloop hr ops mk os _ _
     | alloc =>
       simp only
       refine sim_bind (sim_alloc _ _) fun p hp => ?_
       rw [hp]
       simp only
       cases s.fr.put o.dst (p.2 s.al) with
       | none => exact sim_fail _
       | some fr => exact sim_dloop hr ops mk os _ _
     | eff =>
       simp only
       have fin : ∀ b : Bool, Sim (cond b (M.bind (aoperA E rec s.fr.eval s.σ o.op) fun r => match s.fr.put o.dst r.1 with
         | none => M.fail
         | some fr => dloopA E rec ops mk os (Nat.succ i) { s with fr := fr, σ := r.2, effs := (i, s.σ.heap) :: s.effs }) M.fail)
          (cond b (match aoper E rec' s.fr.eval s.σ o.op with
           | none => none
           | some (v, σ') => match s.fr.put o.dst v with
             | none => none
             | some fr => dloop E rec' ops mk os (Nat.succ i) { s with fr := fr, σ := σ', effs := (i, s.σ.heap) :: s.effs }) none) := fun b => by
        cases b with
        | false => exact sim_fail _
        | true =>
          simp only [cond_true]
          refine sim_bind (sim_oper hr _ _ _) fun r hv => ?_
          rw [hv]
          simp only
          cases s.fr.put o.dst r.1 with
          | none => exact sim_fail _
          | some fr => exact sim_dloop hr ops mk os _ _
       revert fin
       cases s.effs with
       | nil => exact fun fin => fin true
       | cons p l => exact fun fin => fin _
   | false =>
     simp only [cond_false]
     cases s.fr.put o.dst .undef with
     | none => exact sim_fail _
     | some fr => exact sim_dloop hr ops mk os _ _
mutual
theorem eqObl_ok : ∀ (x y : AV) (l : List Bool), eqObl x y = some l → (l.all fun b => b) = true → AV.beq x y = true
 | x, y, l, h, hl => by
   unfold eqObl at h
   split at h
   ·simp only [Option.some.injEq] at h; subst h
    simpa [AV.beq] using hl
   ·rename_i k a l' b
    cases hk : decide (k = l') with
    | false => rw [hk] at h; cases h
    | true =>
      rw [hk] at h
      simp only [cond_true, Option.some.injEq] at h; subst h
      simp only [List.all_cons, List.all_nil, Bool.and_true] at hl
      simp only [AV.beq, hk, hl, Bool.and_self]
   ·simp only [Option.some.injEq] at h; subst h
    simpa [AV.beq] using hl
   ·rename_i a b c d e f a' b' c' d' e' f'
    cases hk : (Nat.beq a a' && Nat.beq e e' && (f == f')) with
    | false => rw [hk] at h; cases h
    | true =>
      rw [hk] at h
      simp only [cond_true, Option.some.injEq] at h; subst h
      simp only [Bool.and_eq_true] at hk
      simp only [List.all_cons, List.all_nil, Bool.and_true, Bool.and_eq_true] at hl
      simp only [AV.beq, hk.1.1, hk.1.2, hk.2, hl.1, hl.2.1, hl.2.2, Bool.and_self]
   ·rename_i a b c d e f a' b' c' d' e' f'
    cases hk : (Nat.beq a a' && Nat.beq e e' && (f == f')) with
    | false => rw [hk] at h; cases h
    | true =>
      rw [hk] at h
      simp only [cond_true, Option.some.injEq] at h; subst h
      simp only [Bool.and_eq_true] at hk
      simp only [List.all_cons, List.all_nil, Bool.and_true, Bool.and_eq_true] at hl
      simp only [AV.beq, hk.1.1, hk.1.2, hk.2, hl.1, hl.2.1, hl.2.2, Bool.and_self]
   ·rename_i n a b c d e f n' a' b' c' d' e' f'
    cases hk : (Nat.beq a a' && Nat.beq e e' && (f == f')) with
    | false => rw [hk] at h; cases h
    | true =>
      rw [hk] at h
      simp only [cond_true, Option.some.injEq] at h; subst h
      simp only [Bool.and_eq_true] at hk
      simp only [List.all_cons, List.all_nil, Bool.and_true, Bool.and_eq_true] at hl
      simp only [AV.beq, hk.1.1, hk.1.2, hk.2, hl.1, hl.2.1, hl.2.2.1, hl.2.2.2, Bool.and_self]
   ·rename_i a b c d a' b' c' d'
    cases hk : (Nat.beq a a' && Nat.beq c c' && Nat.beq d d') with
    | false => rw [hk] at h; cases h
    | true =>
      rw [hk] at h
      simp only [cond_true, Option.some.injEq] at h; subst h
      simp only [Bool.and_eq_true] at hk
      simp only [List.all_cons, List.all_nil, Bool.and_true] at hl
      simp only [AV.beq, hk.1.1, hk.1.2, hk.2, hl, Bool.and_self]
   ·rename_i t a u b
    cases hk : Nat.beq t u with
    | false => rw [hk] at h; cases h
    | true =>
      rw [hk] at h
      simp only [cond_true] at h
      simp only [AV.beq, hk, eqObl_ok a b l h hl, Bool.and_self]
   ·rename_i a b
    simp only [AV.beq]
    exact eqOblL_ok a b l h hl
   ·rename_i a b
    simp only [AV.beq]
    exact eqOblL_ok a b l h hl
   ·cases hb : AV.beq x y with
    | true => rfl
    | false => rw [hb] at h; cases h
theorem eqOblL_ok : ∀ (x y : List AV) (l : List Bool), eqOblL x y = some l → (l.all fun b => b) = true → AV.beqL x y = true
 | [], [], l, _, _ => rfl
 | a :: as, b :: bs, l, h, hl => by
   simp only [eqOblL] at h
   split at h
   ·rename_i l1 l2 h1 h2
    simp only [Option.some.injEq] at h; subst h
    simp only [List.all_append, Bool.and_eq_true] at hl
    simp only [AV.beqL, eqObl_ok a b l1 h1 hl.1, eqOblL_ok as bs l2 h2 hl.2, Bool.and_self]
   ·cases h
 | [], _ :: _, l, h, _ => by simp [eqOblL] at h
 | _ :: _, [], l, h, _ => by simp [eqOblL] at h
end
theorem sim_chkEq (x y : AV) : Sim (chkEq x y) (cond (AV.beq x y) (some ()) none) := by
 unfold chkEq
 split
 ·rename_i l h
  have key : Sim (M.bind (chkAll l) fun _ => M.pure ()) (cond (AV.beq x y) (some ()) none) := sim_chkAll fun hl => by
   rw [eqObl_ok x y l h hl]; exact sim_pure _
  intro p r hr
  refine key p r ?_
  unfold M.bind
  rw [T.run_bind, hr]
  rfl
 ·exact sim_fail _
theorem sim_read1 (r : Nat × Op × AV × Fr) (h : Tr AObj) (c : Bool) : Sim (cond c (M.bind (areadA E r.2.2.2.eval h.get r.2.1) fun v => chkEq v r.2.2.1) (M.pure ()))
  (cond (cond c (match aread E r.2.2.2.eval h.get r.2.1 with | some v => AV.beq v r.2.2.1 | none => false) true) (some ()) none) := by
 cases c with
 | false => exact sim_pure _
 | true =>
   simp only [cond_true]
   refine sim_bind (sim_read _ _ _) fun v hv => ?_
   rw [hv]
   exact sim_chkEq _ _
theorem sim_readOk (mk : Tr Nat) (r : Nat × Op × AV × Fr) : ∀ (effs later : List (Nat × Tr AObj)) (h : Tr AObj), Sim (readOkA E mk r effs later h) (cond (readOk E mk r effs later h) (some ()) none)
 | [], later, h => sim_read1 _ _ _
 | (j, h0) :: es, later, h => by
   simp only [readOkA, readOk]
   refine sim_bind (sim_read1 _ _ _) fun _ ha => ?_
   cases hb : (cond (mayAt mk r.1 later ((j, h0) :: es)) (match aread E r.2.2.2.eval h.get r.2.1 with | some v => AV.beq v r.2.2.1 | none => false) true) with
   | false => rw [hb] at ha; cases ha
   | true =>
     rw [Bool.true_and]
     exact sim_readOk mk r es _ _
theorem sim_readsOk (mk : Tr Nat) (effs : List (Nat × Tr AObj)) (h : Tr AObj) : ∀ rs : List (Nat × Op × AV × Fr), Sim (readsOkA E mk effs h rs) (cond (rs.all fun r => readOk E mk r effs [] h) (some ()) none)
 | [] => sim_pure _
 | r :: rs => by
   simp only [readsOkA, List.all_cons]
   refine sim_bind (sim_readOk _ _ _ _ _) fun _ ha => ?_
   cases hb : readOk E mk r effs [] h with
   | false => rw [hb] at ha; cases ha
   | true =>
     rw [Bool.true_and]
     exact sim_readsOk mk effs h rs
theorem sim_draw (hr : ∀ j σ, Sim (rec j σ) (rec' j σ)) (ops : Array Oper) (fr : Fr) (σ : St) : Sim (adrawA E rec ops fr σ) (adraw E rec' ops fr σ) := by
 unfold adrawA adraw
 simp only
 cases writers ops.toList 0 .nil with
 | none => exact sim_fail _
 | some wr =>
   simp only
   cases ho : opersOk (masks ops.toList 0 .nil) wr ops.toList 0 with
   | false => exact sim_fail _
   | true =>
     simp only [cond_true]
     refine sim_bind (sim_dloop hr _ _ _ _ _) fun s hs => ?_
     rw [hs]
     simp only
     refine sim_bind (sim_readsOk _ _ _ _) fun _ ha => ?_
     cases hb : (s.reads.all fun r => readOk E (masks ops.toList 0 .nil) r s.effs [] s.σ.heap) with
     | false => rw [hb] at ha; cases ha
     | true => exact sim_pure _
end
theorem sim_ev : ∀ (n : Nat) (job : Job) (σ : St), Sim (evA E n job σ) (ev E n job σ) := by
 intro n
 induction n with
 | zero => intro job σ; exact sim_fail _
 | succ n ih =>
   intro job σ
   cases job with
   | code c fr =>
     cases c with
     | skip => exact sim_pure _
     | label _ => exact sim_pure _
     | exit _ => exact sim_pure _
     | goto _ => exact sim_pure _
     | ret => exact sim_pure _
     | refuse _ => exact sim_fail _
     | region id ops draw =>
       simp only [evA, ev]
       cases draw with
       | true =>
         simp only [cond_true]
         refine sim_bind (sim_draw ih _ _ _) fun r hv => ?_
         rw [hv]; exact sim_pure _
       | false =>
         simp only [cond_false]
         refine sim_bind (sim_ops ih _ _ _ _) fun r hv => ?_
         rw [hv]; exact sim_pure _
     | seq a b =>
       simp only [evA, ev]
       refine sim_bind (ih _ _) fun r hv => ?_
       rw [hv]
       obtain ⟨out, σ1⟩ := r
       cases out with
       | val v => exact sim_fail _
       | ex e fr1 => cases e <;> first | exact ih _ _ | exact sim_pure _
     | cond c t e =>
       simp only [evA, ev]
       cases fr.eval c <;> first | exact sim_fail _ | exact sim_asked (ih _ _)
     | block id body =>
       simp only [evA, ev]
       cases E.lp id with
       | some g =>
         simp only
         refine sim_bind (sim_ofT _) fun r hv => ?_
         rw [hv]
         exact sim_pure _
       | none =>
       simp only
       refine sim_bind (ih _ _) fun r hv => ?_
       rw [hv]
       obtain ⟨out, σ1⟩ := r
       cases out with
       | val v => exact sim_fail _
       | ex e fr1 => cases e <;> exact sim_pure _
     | loop body =>
       simp only [evA, ev]
       refine sim_bind (ih _ _) fun r hv => ?_
       rw [hv]
       obtain ⟨out, σ1⟩ := r
       cases out with
       | val v => exact sim_fail _
       | ex e fr1 => cases e <;> first | exact ih _ _ | exact sim_pure _
     | scope body =>
       simp only [evA, ev]
       cases plain E body with
       | false => exact sim_fail _
       | true => exact ih _ _
     | rangeFunc f params assign body =>
       simp only [evA, ev]
       cases fr.eval f <;> first | exact sim_fail _ | skip
       rename_i fn first captured
       cases fn <;> first | exact sim_fail _ | skip
       cases aenter fr σ params.toList assign body with
       | none => exact sim_fail _
       | some p =>
         obtain ⟨l, fr1, σ1⟩ := p
         simp only
         refine sim_bind (ih _ _) fun r hv => ?_
         rw [hv]
         obtain ⟨out, σ2⟩ := r
         cases out with
         | ex e fr2 => exact sim_fail _
         | val v =>
           simp only
           cases σ2.get l with
           | none => exact sim_fail _
           | some o =>
             cases o <;> first | exact sim_fail _ | skip
             rename_i lp
             simp only
             cases lp.st <;> first | exact sim_fail _ | (simp only; cases Ex.ofPend lp.pend <;> first | exact sim_fail _ | exact sim_pure _)
   | scope cur body fr =>
     simp only [evA, ev]
     have hc : Sim (cond (plain E cur) (evA E n (.code cur fr) σ) M.fail) (cond (plain E cur) (ev E n (.code cur fr) σ) none) := by
      cases plain E cur with
      | false => exact sim_fail _
      | true => exact ih _ _
     refine sim_bind hc fun r hv => ?_
     rw [hv]
     obtain ⟨out, σ1⟩ := r
     cases out with
     | val v => exact sim_fail _
     | ex e fr1 =>
       cases e with
       | goto l =>
         simp only
         cases findLabel body l with
         | some rest => exact ih _ _
         | none => exact sim_pure _
       | normal => exact sim_pure _
       | exit _ => exact sim_pure _
       | ret => exact sim_pure _
   | val f args =>
     simp only [evA, ev]
     cases f <;> first | exact sim_fail _ | exact ih _ _ | skip
     rename_i fn first captured
     cases fn <;> first | exact sim_fail _ | exact ih _ _
   | call f args =>
     simp only [evA, ev]
     cases E.intr f with
     | some g =>
       simp only
       refine sim_bind (sim_ofT _) fun r hv => ?_
       rw [hv]
       exact sim_pure _
     | none =>
       simp only
       cases E.fn.get f with
       | none => exact sim_fail _
       | some fn =>
         simp only
         cases fn.body with
         | none => exact sim_fail _
         | some c =>
           simp only
           cases Nat.ble args.length fn.ntmps with
           | false => exact sim_fail _
           | true =>
             simp only [cond_true]
             refine sim_bind (ih _ _) fun r hv => ?_
             rw [hv]
             obtain ⟨out, σ1⟩ := r
             cases out with
             | val v => exact sim_fail _
             | ex e fr1 =>
               cases e with
               | exit _ => exact sim_fail _
               | goto _ => exact sim_fail _
               | normal =>
                 simp only
                 cases amarks fr1.marks σ1 with
                 | none => exact sim_fail _
                 | some σ2 =>
                   simp only
                   cases aresults E fr1 σ2.get fn.results.toList with
                   | some v => exact sim_pure _
                   | none => exact sim_fail _
               | ret =>
                 simp only
                 cases amarks fr1.marks σ1 with
                 | none => exact sim_fail _
                 | some σ2 =>
                   simp only
                   cases aresults E fr1 σ2.get fn.results.toList with
                   | some v => exact sim_pure _
                   | none => exact sim_fail _
   | yld l args =>
     simp only [evA, ev]
     cases σ.get l with
     | none => exact sim_fail _
     | some o =>
       cases o <;> first | exact sim_fail _ | skip
       rename_i lp
       simp only
       cases cond (plain E lp.assign && plain E lp.body) (putAll lp.params args lp.size lp.tmps) none with
       | none => exact sim_fail _
       | some tm =>
         simp only
         refine sim_bind (ih _ _) fun r hv => ?_
         rw [hv]
         obtain ⟨out, σ1⟩ := r
         cases out with
         | val v => exact sim_fail _
         | ex e fr1 =>
           cases e with
           | normal =>
             simp only
             cases fr1.marks with
             | cons _ _ => exact sim_fail _
             | nil =>
               cases σ1.get l with
               | none => exact sim_fail _
               | some o1 =>
                 cases o1 <;> first | exact sim_fail _ | skip
                 rename_i lp1
                 simp only
                 cases hst : lp1.st <;> first | exact sim_fail _ | skip
                 simp only
                 refine sim_bind (ih _ _) fun r hv2 => ?_
                 rw [hv2]
                 obtain ⟨out, σ3⟩ := r
                 cases out with
                 | val v => exact sim_fail _
                 | ex e fr2 =>
                   simp only
                   cases fr2.marks with
                   | cons _ _ => exact sim_fail _
                   | nil =>
                     cases σ3.get l with
                     | none => exact sim_fail _
                     | some o3 => cases o3 <;> first | exact sim_fail _ | exact sim_pure _
           | exit _ => exact sim_fail _
           | goto _ => exact sim_fail _
           | ret => exact sim_fail _
end
theorem evA_ev {E : Env} {n : Nat} {job : Job} {σ : St} {p p' : Plan} {r : Out × St} (h : (evA E n job σ p).run = some (r, p')) : ev E n job σ = some r :=
 sim_ev n job σ p (r, p') h
end Go.Proofs.Ytmjmhpbncfjnpaa.Bm
