/- The abstract machine: regions whose order is open, and runs. -/
import Derived.Test.YtmjmhpbncfjnpaaBmB
set_option linter.unusedSimpArgs false
set_option linter.unusedVariables false
namespace Go.Proofs.Ytmjmhpbncfjnpaa.Bm
def ebinds (e : Edge) : Bool :=
 match e.ground with
 | .textOnly _ => false
 | .gcOnly _ => false
 | _ => true
def maskOf (acc : Tr Nat) : List Edge → Nat
 | [] => 0
 | e :: es => cond (ebinds e) (Nat.lor (Nat.lor (Nat.pow 2 e.on) (match acc.get e.on with | some m => m | none => 0)) (maskOf acc es)) (maskOf acc es)
def masks : List Oper → Nat → Tr Nat → Tr Nat
 | [], _, acc => acc
 | o :: os, i, acc => masks os (Nat.succ i) (acc.set i (some (maskOf acc o.after.toList)))
def mask (mk : Tr Nat) (i : Nat) : Nat := match mk.get i with
 | some m => m
 | none => 0
def writers : List Oper → Nat → Tr Nat → Option (Tr Nat)
 | [], _, acc => some acc
 | o :: os, i, acc => match o.dst with
   | none => writers os (Nat.succ i) acc
   | some d => match acc.get d with
     | some _ => none
     | none => writers os (Nat.succ i) (acc.set d (some i))
def edgeOk (i : Nat) (e : Edge) : Bool := cond (ebinds e) (Nat.blt e.on i) true
def refOk (mk wr : Tr Nat) (m i : Nat) : Operand → Bool
 | .tmp t => match wr.get t with
   | none => true
   | some j => Nat.testBit m j || Nat.testBit (mask mk j) i
 | _ => true
def operOk (mk wr : Tr Nat) (m i : Nat) (o : Oper) : Bool :=
 o.after.toList.all (edgeOk i) && o.op.operands.toList.all (refOk mk wr m i) &&
 (match o.guard with
  | none => true
  | some (j, _) => Nat.testBit m j) &&
 (match o.op with
  | .select _ _ => false
  | .defer _ => false
  | _ => true)
def opersOk (mk wr : Tr Nat) : List Oper → Nat → Bool
 | [], _ => true
 | o :: os, i => operOk mk wr (mask mk i) i o && opersOk mk wr os (Nat.succ i)
def nallocs (E : Env) : List Oper → Nat
 | [] => 0
 | o :: os => match acls E o.op with
   | .alloc => Nat.succ (nallocs E os)
   | _ => nallocs E os
def looks (op : Op) : Bool :=
 match op with
 | .load _ _ => true
 | .slice _ _ _ _ _ => true
 | .convert _ _ _ => true
 | .lookup _ _ _ _ => true
 | .call _ => true
 | _ => false
structure DS where
 fr : Fr
 σ : St
 al : Nat
 effs : List (Nat × Tr AObj)
 reads : List (Nat × Op × AV × Fr)
def dloop (E : Env) (rec : Job → St → Option (Out × St)) (ops : Array Oper) (mk : Tr Nat) : List Oper → Nat → DS → Option DS
 | [], _, s => some s
 | o :: os, i, s =>
   match awanted s.fr ops o with
   | none => none
   | some false => match s.fr.put o.dst .undef with
     | some fr => dloop E rec ops mk os (Nat.succ i) { s with fr := fr, al := match acls E o.op with | .alloc => Nat.succ s.al | _ => s.al }
     | none => none
   | some true =>
     match acls E o.op with
     | .read => match aread E s.fr.eval s.σ.get o.op with
       | none => none
       | some v => match s.fr.put o.dst v with
         | none => none
         | some fr => dloop E rec ops mk os (Nat.succ i) { s with fr := fr, reads := cond (looks o.op) ((i, o.op, v, s.fr) :: s.reads) s.reads }
     | .alloc => match aalloc E s.fr.eval o.op with
       | none => none
       | some (ob, f) => match s.fr.put o.dst (f s.al) with
         | none => none
         | some fr => dloop E rec ops mk os (Nat.succ i) { s with fr := fr, σ := s.σ.put s.al ob, al := Nat.succ s.al }
     | .eff =>
       cond (match s.effs with | [] => true | (j, _) :: _ => Nat.testBit (mask mk i) j)
       (match aoper E rec s.fr.eval s.σ o.op with
        | none => none
        | some (v, σ') => match s.fr.put o.dst v with
          | none => none
          | some fr => dloop E rec ops mk os (Nat.succ i) { s with fr := fr, σ := σ', effs := (i, s.σ.heap) :: s.effs }) none
def mayAt (mk : Tr Nat) (i : Nat) (later done : List (Nat × Tr AObj)) : Bool :=
 later.all (fun e => !Nat.testBit (mask mk i) e.1) && done.all (fun e => !Nat.testBit (mask mk e.1) i)
def readOk (E : Env) (mk : Tr Nat) (r : Nat × Op × AV × Fr) : List (Nat × Tr AObj) → List (Nat × Tr AObj) → Tr AObj → Bool
 | [], later, h => cond (mayAt mk r.1 later []) (match aread E r.2.2.2.eval h.get r.2.1 with | some v => AV.beq v r.2.2.1 | none => false) true
 | (j, h0) :: es, later, h =>
   cond (mayAt mk r.1 later ((j, h0) :: es)) (match aread E r.2.2.2.eval h.get r.2.1 with | some v => AV.beq v r.2.2.1 | none => false) true &&
   readOk E mk r es ((j, h0) :: later) h0
def adraw (E : Env) (rec : Job → St → Option (Out × St)) (ops : Array Oper) (fr : Fr) (σ : St) : Option (Fr × St) :=
 let l := ops.toList
 let mk := masks l 0 .nil
 match writers l 0 .nil with
 | none => none
 | some wr =>
   cond (opersOk mk wr l 0)
   (match dloop E rec ops mk l 0 { fr := fr, σ := { heap := σ.heap, next := Nat.add σ.next (nallocs E l) }, al := σ.next, effs := [], reads := [] } with
    | none => none
    | some s => cond (s.reads.all fun r => readOk E mk r s.effs [] s.σ.heap) (some (s.fr, s.σ)) none) none
def amarks : List Nat → St → Option St
 | [], σ => some σ
 | d :: ds, σ => match σ.get d with
   | some .defd => amarks ds (σ.kill d)
   | _ => none
def aresult (E : Env) (fr : Fr) (g : Nat → Option AObj) : List ResultVar → Option (List AV)
 | [] => some []
 | .tmp t :: rs => match aresult E fr g rs with
   | some l => some (fr.get t :: l)
   | none => none
 | .cell a t :: rs => match aload E g t (fr.get a), aresult E fr g rs with
   | some v, some l => some (v :: l)
   | _, _ => none
def aresults (E : Env) (fr : Fr) (g : Nat → Option AObj) (rs : List ResultVar) : Option AV :=
 match aresult E fr g rs with
 | some [v] => some v
 | some l => some (.tuple l)
 | none => none
def putAll : List Tmp → List AV → Nat → Tr AV → Option (Tr AV)
 | [], [], _, t => some t
 | p :: ps, v :: vs, n, t => cond (Nat.blt p n) (putAll ps vs n (t.set p (some v))) none
 | _, _, _, _ => none
def Ex.jump : Ex → Option Code
 | .normal => none
 | .exit id => some (.exit id)
 | .goto l => some (.goto l)
 | .ret => some .ret
def Ex.ofPend : Option Code → Option Ex
 | none => some .normal
 | some (.exit id) => some (.exit id)
 | some (.goto l) => some (.goto l)
 | some .ret => some .ret
 | _ => none
def aenter (fr : Fr) (σ : St) (params : List Tmp) (assign body : Code) : Option (Nat × Fr × St) :=
 match fr.rnd with
 | none =>
   some (σ.next + 1, { fr with marks := σ.next :: fr.marks },
    (σ.new .defd).new (.loop { st := .ready, pend := none, tmps := fr.tmps, size := fr.size, params := params, assign := assign, body := body, dfr := σ.next }))
 | some l => match σ.get l with
   | some (.loop lp) => some (σ.next, fr, σ.new (.loop { st := .ready, pend := none, tmps := fr.tmps, size := fr.size, params := params, assign := assign, body := body, dfr := lp.dfr }))
   | _ => none
def plain (E : Env) : Code → Bool
 | .seq a b => plain E a && plain E b
 | .cond _ a b => plain E a && plain E b
 | .block id a => (match E.lp id with | none => true | some _ => false) && plain E a
 | .loop a => plain E a
 | .scope a => plain E a
 | .rangeFunc _ _ a b => plain E a && plain E b
 | _ => true
def erase (E : Env) : Code → Code
 | .seq a b => .seq (erase E a) (erase E b)
 | .cond c a b => .cond c (erase E a) (erase E b)
 | .block id a => match E.lp id with
   | none => .block id (erase E a)
   | some g => g.code
 | .loop a => .loop (erase E a)
 | c => c
theorem erase_plain (E : Env) : ∀ c : Code, plain E c = true → erase E c = c
 | .seq a b, h => by
   simp only [plain, Bool.and_eq_true] at h
   simp only [erase, erase_plain E a h.1, erase_plain E b h.2]
 | .cond c a b, h => by
   simp only [plain, Bool.and_eq_true] at h
   simp only [erase, erase_plain E a h.1, erase_plain E b h.2]
 | .block id a, h => by
   simp only [plain, Bool.and_eq_true] at h
   cases hl : E.lp id with
   | some g => rw [hl] at h; exact absurd h.1 (by simp)
   | none => simp only [erase, hl, erase_plain E a h.2]
 | .loop a, h => by
   simp only [plain] at h
   simp only [erase, erase_plain E a h]
 | .skip, _ => rfl
 | .region _ _ _, _ => rfl
 | .rangeFunc _ _ _ _, _ => rfl
 | .exit _, _ => rfl
 | .scope _, _ => rfl
 | .label _, _ => rfl
 | .goto _, _ => rfl
 | .ret, _ => rfl
 | .refuse _, _ => rfl
def ev (E : Env) : Nat → Job → St → Option (Out × St)
 | 0, _, _ => none
 | n + 1, .code c fr, σ =>
   match c with
   | .skip => some (.ex .normal fr, σ)
   | .label _ => some (.ex .normal fr, σ)
   | .exit id => some (.ex (.exit id) fr, σ)
   | .goto l => some (.ex (.goto l) fr, σ)
   | .ret => some (.ex .ret fr, σ)
   | .refuse _ => none
   | .region _ ops draw => match cond draw (adraw E (ev E n) ops fr σ) (aops E (ev E n) ops ops.toList fr σ) with
     | some (fr', σ') => some (.ex .normal fr', σ')
     | none => none
   | .seq a b => match ev E n (.code a fr) σ with
     | some (.ex .normal fr1, σ1) => ev E n (.code b fr1) σ1
     | some (.ex e fr1, σ1) => some (.ex e fr1, σ1)
     | _ => none
   | .cond c t e => match fr.eval c with
     | .bool b => ev E n (.code (cond b t e) fr) σ
     | _ => none
   | .block id body => match E.lp id with
     | some g => match (g.run fr σ).run with
       | some (e, fr1, σ1) => some (.ex e fr1, σ1)
       | none => none
     | none => match ev E n (.code body fr) σ with
       | some (.ex (.exit j) fr1, σ1) => some (.ex (cond (Nat.beq j id) .normal (.exit j)) fr1, σ1)
       | some (.ex e fr1, σ1) => some (.ex e fr1, σ1)
       | _ => none
   | .loop body => match ev E n (.code body fr) σ with
     | some (.ex .normal fr1, σ1) => ev E n (.code (.loop body) fr1) σ1
     | some (.ex e fr1, σ1) => some (.ex e fr1, σ1)
     | _ => none
   | .scope body => cond (plain E body) (ev E n (.scope body body fr) σ) none
   | .rangeFunc f params assign body =>
     match fr.eval f, aenter fr σ params.toList assign body with
     | .func (.func g) first captured, some (l, fr1, σ1) =>
       match ev E n (.call g (first ++ [.yld l] ++ captured)) σ1 with
       | some (.val _, σ2) => match σ2.get l with
         | some (.loop lp) => match lp.st with
           | .busy => none
           | _ => match Ex.ofPend lp.pend with
             | some e => some (.ex e fr1, σ2.put l (.loop { lp with st := .exhausted }))
             | none => none
         | _ => none
       | _ => none
     | _, _ => none
 | n + 1, .scope cur body fr, σ =>
   match cond (plain E cur) (ev E n (.code cur fr) σ) none with
   | some (.ex (.goto l) fr1, σ1) => match findLabel body l with
     | some rest => ev E n (.scope rest body fr1) σ1
     | none => some (.ex (.goto l) fr1, σ1)
   | some (.ex e fr1, σ1) => some (.ex e fr1, σ1)
   | _ => none
 | n + 1, .val f args, σ =>
   match f with
   | .func (.func g) first captured => ev E n (.call g (first ++ args ++ captured)) σ
   | .yld l => ev E n (.yld l args) σ
   | _ => none
 | n + 1, .call f args, σ =>
   match E.intr f with
   | some g => match (g.run args σ).run with
     | some (v, σ') => some (.val v, σ')
     | none => none
   | none => match E.fn.get f with
     | none => none
     | some fn => match fn.body with
       | none => none
       | some c => cond (Nat.ble args.length fn.ntmps)
         (match ev E n (.code c { tmps := Tr.ofList args 0 .nil, size := fn.ntmps, marks := [], rnd := none }) σ with
          | some (.ex e fr, σ1) =>
            match e with
            | .exit _ => none
            | .goto _ => none
            | _ => match amarks fr.marks σ1 with
              | none => none
              | some σ2 => match aresults E fr σ2.get fn.results.toList with
                | some v => some (.val v, σ2)
                | none => none
          | _ => none) none
 | n + 1, .yld l args, σ =>
   match σ.get l with
   | some (.loop lp) => match cond (plain E lp.assign && plain E lp.body) (putAll lp.params args lp.size lp.tmps) none with
     | none => none
     | some tm => match ev E n (.code lp.assign { tmps := tm, size := lp.size, marks := [], rnd := some l }) σ with
       | some (.ex .normal fr1, σ1) => match fr1.marks, σ1.get l with
         | [], some (.loop lp1) => match lp1.st with
           | .ready => match ev E n (.code lp.body fr1) (σ1.put l (.loop { lp1 with st := .busy })) with
             | some (.ex e fr2, σ3) => match fr2.marks, σ3.get l with
               | [], some (.loop lp3) =>
                 some (.val (.bool e.jump.isNone), σ3.put l (.loop { lp3 with st := cond e.jump.isNone .ready .done, pend := e.jump }))
               | _, _ => none
             | _ => none
           | _ => none
         | _, _ => none
       | _ => none
   | _ => none
end Go.Proofs.Ytmjmhpbncfjnpaa.Bm
