/- The abstract machine: contracts of functions that read all there is, and lay new objects. -/
import Derived.Test.YtmjmhpbncfjnpaaBmVj
set_option linter.unusedSimpArgs false
set_option linter.unusedVariables false
namespace Go.Proofs.Ytmjmhpbncfjnpaa.Bm
open Go.RowKit
def allRw : List (Option AObj) → Bool
 | [] => true
 | none :: os => allRw os
 | some o :: os => o.rw && allRw os
theorem allRw_at : ∀ {os : List (Option AObj)}, allRw os = true → ∀ (j : Nat) o, os[j]? = some (some o) → o.rw = true
 | [], _, j, o, h => by simp at h
 | none :: os, h, j, o, hj => by
   cases j with
   | zero => simp at hj
   | succ j => exact allRw_at (os := os) (by simpa only [allRw] using h) j o (by simpa using hj)
 | some x :: os, h, j, o, hj => by
   simp only [allRw, Bool.and_eq_true] at h
   cases j with
   | zero => simp at hj; subst hj; exact h.1
   | succ j => exact allRw_at (os := os) h.2 j o (by simpa using hj)
def fnRun (ps : List PV) (ops : List (List PV)) (R : CS → T CS) (args : List AV) (σ : St) : T (AV × St) :=
 match canonA ps ops [] args σ.get with
 | none => .fail
 | some (c, _) => match roL c.os with
   | none => .fail
   | some os => (R ⟨c.ts, os⟩).bind fun r => (rsvC r).bind fun c' => cond (allRw c'.os) (match c'.ts, newL (Nat.add σ.next) c'.os σ with
     | [v], some σ' => .ret (rn (Nat.add σ.next) v, σ')
     | _, _ => .fail) .fail
section
variable {Pr : Program} {E : Env} {φ φ' : Phi} {w0 w w' : World} {σ σ' : St}
theorem fn_ok {ps : List PV} {ops : List (List PV)} {f : Nat} {R : CS → T CS} {args : List AV} {v : AV} (hf : ∃ fn, Pr.funcs[f]? = some fn ∧ fn.body.isNone = false ∧ (fn.name == "runtime.NumGoroutine") = false)
  (hR : ∀ c c', (R c).run = some c' → CallC Pr f 0 c c') (h : (fnRun ps ops R args σ).run = some (v, σ')) : CallOK Pr w0 f args σ v σ' := by
 refine ⟨hf, fun q φ w us hRel hus => ?_⟩
 unfold fnRun at h
 cases hc : canonA ps ops [] args σ.get with
 | none => rw [hc] at h; cases h
 | some z =>
   obtain ⟨c, l⟩ := z
   rw [hc] at h
   simp only at h
   cases hro : roL c.os with
   | none => rw [hro] at h; cases h
   | some os =>
     rw [hro] at h
     simp only at h
     rw [T.run_bind] at h
     cases hr : (R ⟨c.ts, os⟩).run with
     | none => rw [hr] at h; cases h
     | some c1 =>
       rw [hr] at h
       simp only at h
       rw [T.run_bind] at h
       cases hrs : (rsvC c1).run with
       | none => rw [hrs] at h; cases h
       | some c2 =>
         rw [hrs] at h
         simp only at h
         cases hrw : allRw c2.os with
         | false => rw [hrw] at h; cases h
         | true =>
         rw [hrw] at h
         simp only [cond_true] at h
         split at h
         ·rename_i v' σ2 hts hnw
          simp only [T.run, Option.some.injEq, Prod.mk.injEq] at h
          obtain ⟨rfl, rfl⟩ := h
          obtain ⟨g1, g2, g3, g4, g5, g6⟩ := canonA_at hc (fun i j x y id hi => by simp at hi) hRel hus
          obtain ⟨k1, k2⟩ := roL_ok hro
          have pull : ∀ id o, (stC os).get id = some o → ∃ o0, (stC c.os).get id = some o0 ∧ o.rw = false ∧ ∀ φ w l, ObjR φ w l o0 → ObjR φ w l o := fun id o hg => by
           obtain ⟨x, e1, e2, e3⟩ := k2 id o (stC_some.1 hg)
           exact ⟨x, stC_some.2 e1, e2, e3⟩
          have hRw : Rel w (rnm l φ) (stC os).get (stC os).next w := by
           refine ⟨fun id o lo hg hl => ?_, fun id o lo hg hl => ?_, fun i j oi oj li lj hij hi hj hli hlj hrw => ?_, fun id hid => ?_, fun id hid => ?_, Below.refl _ _⟩
           ·obtain ⟨o0, e1, e2, e3⟩ := pull id o hg
            exact e3 _ _ _ (g4.objs id o0 lo e1 hl)
           ·obtain ⟨o0, e1, e2, e3⟩ := pull id o hg
            have := g4.lt e1 hl
            rw [e2]
            exact ⟨(fun h => by cases h), (fun h => by omega)⟩
           ·obtain ⟨o0, e1, e2, e3⟩ := pull i oi hi
            rw [e2] at hrw; cases hrw
           ·have hid : os.length ≤ id := hid
            exact g4.fresh id (by show c.os.length ≤ id; omega)
           ·have hid : os.length ≤ id := hid
            rw [stC_get, List.getElem?_eq_none hid]
          let K : KC := { p := 0, pin := fun _ => none, n0 := 0, h0 := fun _ => none, S := fun _ => True }
          have hK : Kept K (rnm l φ) (stC os).get w := ⟨Nat.zero_le _, fun c hc => absurd hc (Nat.not_lt_zero _), fun _ _ _ _ _ _ => .inl trivial, fun j hj => absurd hj (Nat.not_lt_zero _)⟩
          refine CallsIn.mono (hR _ _ hr K w w us _ q rfl (fun j hj => absurd hj (Nat.not_lt_zero _)) hRw g5 hK) fun e w' he => ?_
          obtain ⟨u, φ', rfl, z3, z4, z5⟩ := he
          obtain ⟨y1, y2⟩ := rsvC_ok hrs
          obtain ⟨y3, y4⟩ := rsvC_rel y2 z3 z5
          have y5 := rsvs_ok _ _ y1 _ _ z4
          rw [hts] at y5
          simp only [VRL] at y5
          obtain ⟨y, ys, e1, e2, rfl⟩ := y5
          injection e1 with e1; subst e1
          obtain ⟨n1, n2, n3⟩ := newL_ok _ _ _ hnw
          have hB := z3.below
          have hle := hB.size
          have hb0 := hRel.below
          have blk : ∀ id o l, σ.get id = some o → φ id = some l → w'.heap[l.c]? = w.heap[l.c]? := fun id o l h1 h2 => hB.block _ (hRel.lt h1 h2)
          let φ2 : Phi := fun id => if id < σ.next then φ id else φ' (id - σ.next)
          have hold : ∀ id, id < σ.next → φ2 id = φ id := fun id h => if_pos h
          have hnew : ∀ id, ¬ id < σ.next → φ2 id = φ' (id - σ.next) := fun id h => if_neg h
          have htr : ∀ j, φ2 (Nat.add σ.next j) = φ' j := fun j => by
           show φ2 (σ.next + j) = φ' j
           rw [hnew _ (by omega), Nat.add_sub_cancel_left]
          have h2 : ∀ j lo, φ' j = some lo → φ2 (Nat.add σ.next j) = some lo := fun j lo h => by rw [htr j]; exact h
          have hle2 : ∀ id lo, φ id = some lo → φ2 id = some lo := fun id lo h => by
           by_cases hlt : id < σ.next
           ·rw [hold id hlt]; exact h
           ·rw [hRel.fresh id (by omega)] at h; cases h
          -- what there is behind: an old object, or a new one
          have cases_ : ∀ id o lo, σ2.get id = some o → φ2 id = some lo → (∃ j o', c2.os[j]? = some (some o') ∧ rnO (Nat.add σ.next) o' = some o ∧ φ' j = some lo ∧ id = σ.next + j) ∨ (id < σ.next ∧ σ.get id = some o ∧ φ id = some lo) := by
           intro id o lo hg hl
           by_cases hid : id < σ.next
           ·rw [n2 id (.inl hid)] at hg
            rw [hold id hid] at hl
            exact .inr ⟨hid, hg, hl⟩
           ·rw [hnew id hid] at hl
            have hjl : id - σ.next < c2.os.length := by
             by_cases h : id - σ.next < c2.os.length
             ·exact h
             ·rw [y3.fresh _ (by show c2.os.length ≤ _; omega)] at hl; cases hl
            rcases n3 (id - σ.next) hjl with ⟨e1, e2⟩ | ⟨o0, o1, e1, e2, e3⟩
            ·rw [show σ.next + (id - σ.next) = id by omega] at e2
             rw [e2, hRel.gfresh id (by omega)] at hg; cases hg
            ·rw [show σ.next + (id - σ.next) = id by omega] at e3
             rw [e3] at hg; injection hg with hg; subst hg
             exact .inl ⟨_, o0, e1, e2, hl, by omega⟩
          have isnew : ∀ j o' lo, c2.os[j]? = some (some o') → φ' j = some lo → o'.rw = true ∧ w.heap.size ≤ lo.c := fun j o' lo h1 h2 => by
           have hr := allRw_at hrw j o' h1
           exact ⟨hr, (y3.own j o' lo (stC_some.2 h1) h2).1 hr⟩
          refine ⟨u, φ2, rfl, rn_ok h2 _ _ e2, ⟨?_, ?_, ?_, ?_, ?_, ?_⟩, ⟨hle2, ?_, ?_, ?_, ?_, by omega, hle⟩⟩
          ·intro id o lo hg hl
           rcases cases_ id o lo hg hl with ⟨j, o', e1, e2, e3, _⟩ | ⟨e1, e2, e3⟩
           ·exact (rnO_ok h2 e2).2 (y3.objs j o' lo (stC_some.2 e1) e3)
           ·exact (hRel.objs id o lo e2 e3).keep (blk id o lo e2 e3) hle2
          ·intro id o lo hg hl
           rcases cases_ id o lo hg hl with ⟨j, o', e1, e2, e3, _⟩ | ⟨e1, e2, e3⟩
           ·obtain ⟨a, b⟩ := isnew j o' lo e1 e3
            rw [(rnO_ok (w := w') (lo := lo) h2 e2).1, a]
            exact ⟨fun _ => Nat.le_trans hb0.size b, fun _ => rfl⟩
           ·exact hRel.own id o lo e2 e3
          ·intro i j oi oj li lj hij hi hj hli hlj hrwi
           rcases cases_ i oi li hi hli with ⟨x, ox, e1, e2, e3, e4⟩ | ⟨e1, e2, e3⟩
           ·obtain ⟨a, b⟩ := isnew x ox li e1 e3
            rcases cases_ j oj lj hj hlj with ⟨z, oz, d1, d2, d3, d4⟩ | ⟨d1, d2, d3⟩
            ·exact y3.inj x z ox oz li lj (fun h => hij (by rw [e4, d4, h])) (stC_some.2 e1) (stC_some.2 d1) e3 d3 a
            ·have := hRel.lt d2 d3
             omega
           ·rcases cases_ j oj lj hj hlj with ⟨z, oz, d1, d2, d3, d4⟩ | ⟨d1, d2, d3⟩
            ·obtain ⟨a, b⟩ := isnew z oz lj d1 d3
             have := hRel.lt e2 e3
             omega
            ·exact hRel.inj i j oi oj li lj hij e2 d2 e3 d3 hrwi
          ·intro id hid
           rw [n1] at hid
           rw [hnew id (by omega)]
           exact y3.fresh _ (by show c2.os.length ≤ _; omega)
          ·intro id hid
           rw [n1] at hid
           rw [n2 id (.inr (by omega))]
           exact hRel.gfresh id (by omega)
          ·exact ⟨hB.os.trans hb0.os, hB.tape.trans hb0.tape, hB.output.trans hb0.output, Nat.le_trans hb0.size hle, fun k hk => (hB.block k (Nat.lt_of_lt_of_le hk hb0.size)).trans (hb0.block k hk)⟩
          ·intro id hid hn
           rw [hold id hid]; exact hn
          ·intro id hid hn
           exact n2 id (.inl hid)
          ·intro c hc hno
           exact hB.block c hc
          ·intro id o lo hg hl hrwo
           rcases cases_ id o lo hg hl with ⟨j, o', e1, e2, e3, _⟩ | ⟨e1, e2, e3⟩
           ·exact .inl (isnew j o' lo e1 e3).2
           ·exact .inr ⟨id, o, lo, e2, e3, hrwo, rfl⟩
         ·cases h
theorem Good.addN (h : Good Pr E) {f : Nat} {ps : List PV} {ops : List (List PV)} {R : CS → T CS} (hf : hasFn E f = true) (hR : ∀ c c', (R c).run = some c' → CallC Pr f 0 c c') : Good Pr (Bm.addF E f ⟨fnRun ps ops R⟩) :=
 h.addF fun w0 args σ v σ' hr => fn_ok (hasFn_ok h hf) hR hr
end
def piRun (head : Pat) (exits : List (Ex × Pat)) (p : Nat) (R : CS → T (Nat × CS)) (fr : Fr) (σ : St) : T (Ex × Fr × St) :=
 match canon head [] fr σ with
 | none => .fail
 | some (c, l) => cond (Nat.ble p l.length && okNames σ.get p (solids c l.length) l 0)
   ((R c).bind fun r => match exits[r.1]? with
     | none => .fail
     | some (e, P') => (rsvC r.2).bind fun c' => cond (Nat.beq c'.ts.length P'.ts.length) (match back l p c'.os σ with
       | some σ' => .ret (e, frN P' (rns (trN l p σ.next) c'.ts), σ')
       | none => .fail) .fail) .fail
def isSeq : Code → Bool
 | .seq _ _ => true
 | .cond _ _ _ => true
 | .scope _ => true
 | _ => false
theorem isSeq_erase {E : Env} {x c : Code} (h : isSeq x = true) (hl : erase E x = .loop c) : False := by
 cases x <;> simp [isSeq] at h <;> simp [erase] at hl
section
variable {Pr : Program} {E : Env} {φ φ' φ'' : Phi} {w0 w w' : World} {g g' : Heap} {n n' : Nat} {σ σ' : St} {fr fr' : Fr} {a a' : Act} {t : Nat → Nat}
def PieceOK (Pr : Program) (w0 : World) (E : Env) (body : Code) (p : Nat) (head : Pat) (exits : List (Ex × Pat)) (c : CS) (k : Nat) (c' : CS) : Prop :=
 ∀ K : KC, K.p = p → (∀ j, j < K.p → K.pin j ≠ none) → ∀ q a w, AtK K w0 head c a w →
  (erase E body).wpIn (fen none) q Pr (fun x a' w' => ∃ e P', exits[k]? = some (e, P') ∧ x = e.out ∧ AtK K w0 P' c' a' w') a w
theorem PieceOK.of_step {body : Code} {p m k : Nat} {head : Pat} {exits : List (Ex × Pat)} {π : Plan} {c c0 c1 c' : CS} (hE : EnvOK Pr E) (hI : IntrOK Pr w0 E)
  (h0 : Seen c c0) (hs : stepC E m body p head exits π c0 = some (k, c1)) (h1 : Seen c1 c') : PieceOK Pr w0 E body p head exits c k c' := by
 rintro K rfl hp q a w hA
 refine Code.wpIn_mono (fun x a1 w1 hq => ?_) (step_at hE hI hp (q := q) hs (h0.atK hA))
 obtain ⟨e, P', z1, z2, z3⟩ := hq
 exact ⟨e, P', z1, z2, h1.atK z3⟩
theorem pi_ok {body : Code} {head : Pat} {exits : List (Ex × Pat)} {p : Nat} {R : CS → T (Nat × CS)} (hE : EnvOK Pr E) (hI : IntrOK Pr w0 E) (hseq : isSeq body = true)
  (hR : ∀ c r, (R c).run = some r → PieceOK Pr w0 E body p head exits c r.1 r.2) {e : Ex} (h : (piRun head exits p R fr σ).run = some (e, fr', σ')) :
  CodeOK Pr w0 (erase E body) fr σ e.out fr' σ' := by
 unfold piRun at h
 cases hc : canon head [] fr σ with
 | none => rw [hc] at h; cases h
 | some q =>
   obtain ⟨c, l⟩ := q
   rw [hc] at h
   simp only at h
   cases hok : (Nat.ble p l.length && okNames σ.get p (solids c l.length) l 0) with
   | false => rw [hok] at h; cases h
   | true =>
     rw [hok] at h
     simp only [cond_true] at h
     rw [T.run_bind] at h
     cases hr : (R c).run with
     | none => rw [hr] at h; cases h
     | some r =>
       obtain ⟨k, c1⟩ := r
       rw [hr] at h
       simp only at h
       cases hex : exits[k]? with
       | none => rw [hex] at h; cases h
       | some z =>
         obtain ⟨e0, P'⟩ := z
         rw [hex] at h
         simp only at h
         rw [T.run_bind] at h
         cases hrs : (rsvC c1).run with
         | none => rw [hrs] at h; cases h
         | some c2 =>
           rw [hrs] at h
           simp only at h
           cases hl : Nat.beq c2.ts.length P'.ts.length with
           | false => rw [hl] at h; cases h
           | true =>
           rw [hl] at h
           simp only [cond_true] at h
           cases hbk : back l p c2.os σ with
           | none => rw [hbk] at h; cases h
           | some σ2 =>
             rw [hbk] at h
             simp only [T.run, Option.some.injEq, Prod.mk.injEq] at h
             obtain ⟨rfl, rfl, rfl⟩ := h
             have hpo := hR c _ hr
             intro q r φ w a hRel hF
             have hrnd : r = none := by
              have h1 := hF.rnd
              have : fr.rnd = none := by
               unfold canon at hc
               cases hk : (Nat.beq fr.size head.size && isNil fr.marks && isNone fr.rnd) with
               | false => rw [hk] at hc; cases hc
               | true =>
                 simp only [Bool.and_eq_true] at hk
                 cases hm : fr.rnd with
                 | none => rfl
                 | some _ => rw [hm] at hk; exact absurd hk.2 (by simp [isNone])
              rw [this] at h1
              exact h1
             subst hrnd
             refine ⟨?_, fun b hb => (isSeq_erase hseq hb).elim⟩
             obtain ⟨g1, g2, g3, g4, g5, g6⟩ := canon_at hc (fun i j x y id hi => by simp at hi) hRel hF
             have hv : ∀ v ∈ c.ts, ∃ u, VR (rnm l φ) v u := fun v hv => by
              obtain ⟨i, hi, rfl⟩ := List.getElem_of_mem hv
              have hlt : i < head.ts.length := by rw [← g5.len]; exact hi
              exact ⟨_, g5.vals i head.ts[i] _ (List.getElem?_eq_getElem hlt) (List.getElem?_eq_getElem hi)⟩
             have hEn := entry_of (us := []) hRel g2 g4 g6 g3 hv hok
             have hA : AtK (kcOf w l φ c.os p) w0 head c a w := ⟨_, g4, g5, hEn.kept⟩
             refine Code.wpIn_mono (fun x a1 w1 hq => ?_) (hpo (kcOf w l φ c.os p) rfl hEn.pins q a w hA)
             obtain ⟨e1, P1, z1, rfl, hA1⟩ := hq
             rw [hex] at z1
             injection z1 with z1
             simp only [Prod.mk.injEq] at z1
             obtain ⟨rfl, rfl⟩ := z1
             obtain ⟨φ', z3, z4, z5⟩ := hA1
             obtain ⟨y1, y2⟩ := rsvC_ok hrs
             obtain ⟨y3, y4⟩ := rsvC_rel y2 z3 z5
             obtain ⟨φ2, b1, b2, b3⟩ := back_ok hEn y3 y4 hbk
             refine ⟨rfl, φ2, ⟨⟨z4.size, fun j => ?_⟩, z4.defs, rfl⟩, b1, b2⟩
             show VR _ (match (setTs P'.ts (rns (trN l p σ.next) c2.ts) (badTr P'.size)).get j with | some v => v | none => .undef) _
             refine setTs_ok (badTr_ok z4.size) (fun i t v ht hvi => ?_) j
             rw [rns_at, Option.map_eq_some_iff] at hvi
             obtain ⟨v', k1, rfl⟩ := hvi
             obtain ⟨v0, k2, k3⟩ := rsvs_at _ _ y1 i v' k1
             exact rn_ok b3 _ _ (rsv_ok _ _ k3 _ _ (z4.vals i t v0 ht k2))
end
def pieceOf (E : Env) (f : Nat) (pth : List Bool) : Option (Code × Code × Func) := match E.fn.get f with
 | some fn => match fn.body with
   | some c => match subP pth c with
     | some x => cond (isSeq x) (some (x, c, fn)) none
     | none => none
   | none => none
 | none => none
def pieceC (E : Env) (f : Nat) (pth : List Bool) : Code := match pieceOf E f pth with
 | some (x, _, _) => x
 | none => .skip
def addB (E : Env) (f : Nat) (pth : List Bool) (tag : Nat) (head : Pat) (exits : List (Ex × Pat)) (p : Nat) (R : CS → T (Nat × CS)) : Env :=
 { E with fn := E.fn.set f (match pieceOf E f pth with | some (_, c, fn) => some { fn with body := some (markP tag pth c) } | none => none), lp := fun id => cond (Nat.beq id tag) (some { code := erase E (pieceC E f pth), run := piRun head exits p R }) (E.lp id) }
section
variable {P : Program} {E : Env}
theorem mark_okX {E E1 : Env} {tag : Nat} {x : Code} {g : LI} (hl : ∀ id, id ≠ tag → E1.lp id = E.lp id) (hmono : ∀ id, E.lp id ≠ none → E1.lp id ≠ none) (ht : E.lp tag = none) (hbig : 1000000 ≤ tag) (hg : E1.lp tag = some g) (hcode : g.code = erase E x) :
  ∀ (p : List Bool) (c : Code), subP p c = some x → tagsOK E c = true → erase E1 (markP tag p c) = erase E c ∧ tagsOK E1 (markP tag p c) = true := by
 have ea := fun c h => erase_add hl ht hbig c h
 have ta := fun c h => tags_add hmono c h
 intro p
 induction p with
 | nil =>
   intro c hs h
   simp only [subP, Option.some.injEq] at hs; subst hs
   refine ⟨by simp only [markP, erase, hg, hcode], by simp only [markP, tagsOK, hg, Bool.or_true, Bool.and_self]⟩
 | cons d p ih =>
   intro c hs h
   cases c with
   | seq a b' =>
     simp only [tagsOK, Bool.and_eq_true] at h
     cases d with
     | false =>
       obtain ⟨i1, i2⟩ := ih a (by simpa only [subP] using hs) h.1
       exact ⟨by simp only [markP, erase, i1, ea b' h.2], by simp only [markP, tagsOK, i2, ta b' h.2, Bool.and_self]⟩
     | true =>
       obtain ⟨i1, i2⟩ := ih b' (by simpa only [subP] using hs) h.2
       exact ⟨by simp only [markP, erase, i1, ea a h.1], by simp only [markP, tagsOK, i2, ta a h.1, Bool.and_self]⟩
   | cond o a b' =>
     simp only [tagsOK, Bool.and_eq_true] at h
     cases d with
     | false =>
       obtain ⟨i1, i2⟩ := ih a (by simpa only [subP] using hs) h.1
       exact ⟨by simp only [markP, erase, i1, ea b' h.2], by simp only [markP, tagsOK, i2, ta b' h.2, Bool.and_self]⟩
     | true =>
       obtain ⟨i1, i2⟩ := ih b' (by simpa only [subP] using hs) h.2
       exact ⟨by simp only [markP, erase, i1, ea a h.1], by simp only [markP, tagsOK, i2, ta a h.1, Bool.and_self]⟩
   | block id a =>
     have h' := h
     simp only [tagsOK, Bool.and_eq_true, Bool.or_eq_true] at h
     have hs' : subP p a = some x := by cases d <;> simpa only [subP] using hs
     obtain ⟨i1, i2⟩ := ih a hs' h.2
     have hne : id ≠ tag := by
      intro he
      subst he
      rw [ht] at h
      have := h.1
      rw [blt_iff] at this
      simp at this
      omega
     have hm : markP tag (d :: p) (.block id a) = .block id (markP tag p a) := by cases d <;> rfl
     rw [hm]
     refine ⟨by simp only [erase, hl id hne, i1], ?_⟩
     simp only [tagsOK, i2, Bool.and_true, hl id hne]
     have h1 := h'
     simp only [tagsOK, Bool.and_eq_true] at h1
     exact h1.1
   | loop a =>
     simp only [tagsOK] at h
     have hs' : subP p a = some x := by cases d <;> simpa only [subP] using hs
     obtain ⟨i1, i2⟩ := ih a hs' h
     have hm : markP tag (d :: p) (.loop a) = .loop (markP tag p a) := by cases d <;> rfl
     rw [hm]
     exact ⟨by simp only [erase, i1], by simp only [tagsOK, i2]⟩
   | _ => cases d <;> simp [subP] at hs
theorem Good.addX (h : Good P E) {f tag p : Nat} {pth : List Bool} {head : Pat} {exits : List (Ex × Pat)} {R : CS → T (Nat × CS)} (hbody : (pieceOf E f pth).isSome = true) (htag : E.lp tag = none) (hbig : 1000000 ≤ tag)
  (hR : ∀ w0, IntrOK P w0 E → ∀ c r, (R c).run = some r → PieceOK P w0 E (pieceC E f pth) p head exits c r.1 r.2) : Good P (addB E f pth tag head exits p R) := by
 obtain ⟨⟨x, c, fn⟩, hbo⟩ := Option.isSome_iff_exists.1 hbody
 have hlc : pieceC E f pth = x := by simp only [pieceC, hbo]
 let g : LI := { code := erase E (pieceC E f pth), run := piRun head exits p R }
 have hgt : (Bm.addB E f pth tag head exits p R).lp tag = some g := by
  show cond (Nat.beq tag tag) (some g) (E.lp tag) = _
  rw [Nat.beq_refl]; rfl
 have hgo : ∀ id, id ≠ tag → (Bm.addB E f pth tag head exits p R).lp id = E.lp id := fun id hne => by
  show cond (Nat.beq id tag) (some g) (E.lp id) = _
  have : Nat.beq id tag = false := by rw [beq_iff]; exact decide_eq_false hne
  rw [this]; rfl
 have hmono : ∀ id, E.lp id ≠ none → (Bm.addB E f pth tag head exits p R).lp id ≠ none := fun id hne => by
  by_cases hid : id = tag
  ·subst hid; rw [hgt]; simp
  ·rw [hgo id hid]; exact hne
 have hfn : E.fn.get f = some fn ∧ fn.body = some c ∧ subP pth c = some x ∧ isSeq x = true := by
  have hbo := hbo
  unfold pieceOf at hbo
  split at hbo
  ·rename_i fn0 hf0
   split at hbo
   ·rename_i c0 hc
    split at hbo
    ·rename_i x0 hsub
     cases hib : isSeq x0 with
     | false => rw [hib] at hbo; cases hbo
     | true =>
       rw [hib] at hbo
       simp only [cond_true, Option.some.injEq, Prod.mk.injEq] at hbo
       obtain ⟨rfl, rfl, rfl⟩ := hbo
       exact ⟨hf0, hc, hsub, hib⟩
    ·cases hbo
   ·cases hbo
  ·cases hbo
 obtain ⟨hf, hc, hsub, hsq⟩ := hfn
 have hmk := mark_okX (E := E) (E1 := Bm.addB E f pth tag head exits p R) (g := g) hgo hmono htag hbig hgt (by show erase E (pieceC E f pth) = _; rw [hlc]) pth c hsub (h.tags.code f fn c hf hc)
 have hget : ∀ g', (Bm.addB E f pth tag head exits p R).fn.get g' = if g' = f then some { fn with body := some (markP tag pth c) } else E.fn.get g' := fun g' => by
  show (E.fn.set f (match pieceOf E f pth with | some (_, c, fn) => some { fn with body := some (markP tag pth c) } | none => none)).get g' = _
  rw [Tr.get_set, hbo]
 refine ⟨⟨h.env.ty, fun g' fn' hf' => ?_, h.env.mixed, h.env.bits⟩, fun w0 => ⟨fun id g' fr σ e fr' σ' hlp hr => ?_, (h.intr w0).2⟩, ⟨fun g' fn' c' hf' hc' => ?_, fun id hid => ?_⟩⟩
 ·rw [hget] at hf'
  split at hf'
  ·rename_i he; subst he
   injection hf' with hf'; subst hf'
   obtain ⟨fn0, e1, e2, e3, e4, e5⟩ := h.env.fn g' fn hf
   refine ⟨fn0, e1, e2, e3, e4, ?_⟩
   rw [e5, hc, Option.map_some, Option.map_some, hmk.1]
  ·obtain ⟨fn0, e1, e2, e3, e4, e5⟩ := h.env.fn g' fn' hf'
   refine ⟨fn0, e1, e2, e3, e4, ?_⟩
   rw [e5]
   cases hb' : fn'.body with
   | none => rfl
   | some c' =>
     rw [Option.map_some, Option.map_some, erase_add hgo htag hbig c' (h.tags.code g' fn' c' hf' hb')]
 ·by_cases hid : id = tag
  ·subst hid
   rw [hgt] at hlp; injection hlp with hlp; subst hlp
   exact pi_ok h.env (h.intr w0) (by rw [hlc]; exact hsq) (hR w0 (h.intr w0)) hr
  ·rw [hgo id hid] at hlp
   exact (h.intr w0).1 id g' fr σ e fr' σ' hlp hr
 ·rw [hget] at hf'
  split at hf'
  ·rename_i he; subst he
   injection hf' with hf'; subst hf'
   simp only [Option.some.injEq] at hc'; subst hc'
   exact hmk.2
  ·exact tags_add hmono c' (h.tags.code g' fn' c' hf' hc')
 ·rw [hgo id (by omega)]; exact h.tags.big id hid
theorem Good.addB (h : Good P E) {f tag p : Nat} {pth : List Bool} {head : Pat} {exits : List (Ex × Pat)} {R : CS → T (Nat × CS)} (hbody : (pieceOf E f pth).isSome = true) (htag : E.lp tag = none) (hbig : 1000000 ≤ tag)
  (hR : ∀ c r, (R c).run = some r → ∃ m π c0 c1, Seen c c0 ∧ stepC E m (pieceC E f pth) p head exits π c0 = some (r.1, c1) ∧ Seen c1 r.2) : Good P (addB E f pth tag head exits p R) :=
 h.addX hbody htag hbig fun w0 hI c r hr => by
  obtain ⟨m, π, c0, c1, h0, hs, h1⟩ := hR c r hr
  exact .of_step h.env hI h0 hs h1
end
end Go.Proofs.Ytmjmhpbncfjnpaa.Bm
