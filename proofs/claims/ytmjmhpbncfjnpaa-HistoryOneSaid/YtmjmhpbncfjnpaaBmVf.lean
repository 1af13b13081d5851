/- The abstract machine: contracts of loops, and of functions, told at canonical states. -/
import Derived.Test.YtmjmhpbncfjnpaaBmVe
set_option linter.unusedSimpArgs false
set_option linter.unusedVariables false
namespace Go.Proofs.Ytmjmhpbncfjnpaa.Bm
open Go.RowKit
def blkEx (b : Nat) : Ex → Ex
 | .exit j => cond (Nat.beq j b) .normal (.exit j)
 | e => e
def frN (P : Pat) (ts : List AV) : Fr := { tmps := setTs P.ts ts (badTr P.size), size := P.size, marks := [], rnd := none }
def liRun (head : Pat) (exits : List (Ex × Pat)) (blk p : Nat) (R : CS → T (Nat × CS)) (fr : Fr) (σ : St) : T (Ex × Fr × St) :=
 match canon head [] fr σ with
 | none => .fail
 | some (c, l) => cond (Nat.ble p l.length && okNames σ.get p (solids c l.length) l 0)
   ((R c).bind fun r => match r.1 with
     | 0 => .fail
     | k + 1 => match exits[k]? with
       | none => .fail
       | some (e, P') => (rsvC r.2).bind fun c' => cond (Nat.beq c'.ts.length P'.ts.length) (match back l p c'.os σ with
         | some σ' => .ret (blkEx blk e, frN P' (rns (trN l p σ.next) c'.ts), σ')
         | none => .fail) .fail) .fail
section
variable {Pr : Program} {E : Env} {φ φ' φ'' : Phi} {w0 w w' : World} {g g' : Heap} {n n' : Nat} {σ σ' : St} {fr fr' : Fr} {a a' : Act} {t : Nat → Nat}
theorem entry_of {l : Names} {c : CS} {p : Nat} {us : List Value} (hR : Rel w0 φ σ.get σ.next w) (hD : Dist l) (hcR : Rel w0 (rnm l φ) (stC c.os).get (stC c.os).next w)
  (hcorr : ∀ k o lo, (stC c.os).get k = some o → rnm l φ k = some lo → ∃ x id o0, l[k]? = some x ∧ x.src = some id ∧ σ.get id = some o0 ∧ φ id = some lo ∧ o.rw = o0.rw) (hlen : c.os.length = l.length)
  (hv : ∀ v ∈ c.ts, ∃ u, VR (rnm l φ) v u) (hok : (Nat.ble p l.length && okNames σ.get p (solids c l.length) l 0) = true) : Entry w0 φ σ w l c.os p := by
 simp only [Bool.and_eq_true] at hok
 refine ⟨hR, hD, hcR, hcorr, hlen, fun j x hx => ?_, Nat.le_of_ble_eq_true hok.1⟩
 obtain ⟨h1, h2⟩ := okNames_at hok.2 j x hx
 rw [Nat.zero_add] at h1 h2
 have hs : ∀ id, x.src = some id → (solids c l.length)[j]? = some true → φ id ≠ none := fun id hid hb => by
  have := solids_ok hcR hv _ _ hb
  simp only [rnm, hx, hid] at this
  exact this
 refine ⟨fun hj => ?_, fun hj id o hid hg hrw => hs id hid (h2 hj id o hid hg hrw)⟩
 obtain ⟨id, e1, e2⟩ := h1 hj
 exact ⟨id, e1, hs id e1 e2⟩
theorem rsvC_ok {c c' : CS} (h : (rsvC c).run = some c') : (rsvs (rwAt c.os) c.ts).run = some c'.ts ∧ (rsvOs (rwAt c.os) c.os).run = some c'.os := by
 unfold rsvC at h
 rw [T.run_bind] at h
 cases h1 : (rsvs (rwAt c.os) c.ts).run with
 | none => rw [h1] at h; cases h
 | some ts =>
   rw [h1] at h
   simp only at h
   rw [T.run_bind] at h
   cases h2 : (rsvOs (rwAt c.os) c.os).run with
   | none => rw [h2] at h; cases h
   | some os =>
     rw [h2] at h
     simp only [T.run, Option.some.injEq] at h; subst h
     exact ⟨rfl, rfl⟩
theorem li_ok {m : Nat} {body : Code} {head : Pat} {exits : List (Ex × Pat)} {blk p : Nat} {π : CS → Plan} {R : CS → T (Nat × CS)} (hE : EnvOK Pr E) (hI : IntrOK Pr w0 E) (hx : ∀ e P, (e, P) ∈ exits → e ≠ .normal)
  (hR : ∀ c r, (R c).run = some r → Loops (fun c => stepC E m body p head ((.normal, head) :: exits) (π c) c) c r.1 r.2) {e : Ex} (h : (liRun head exits blk p R fr σ).run = some (e, fr', σ')) :
  CodeOK Pr w0 (.block blk (.loop (erase E body))) fr σ e.out fr' σ' := by
 unfold liRun at h
 cases hc : canon head [] fr σ with
 | none => rw [hc] at h; cases h
 | some q =>
   obtain ⟨c, l⟩ := q
   rw [hc] at h
   simp only at h
   cases hok : (Nat.ble p l.length && okNames σ.get p (solids c l.length) l 0) with
   | false => rw [hok] at h; cases h
   | true =>
     rw [hok] at h
     simp only [cond_true] at h
     rw [T.run_bind] at h
     cases hr : (R c).run with
     | none => rw [hr] at h; cases h
     | some r =>
       obtain ⟨k, c1⟩ := r
       rw [hr] at h
       simp only at h
       cases k with
       | zero => cases h
       | succ k =>
         simp only at h
         cases hex : exits[k]? with
         | none => rw [hex] at h; cases h
         | some z =>
           obtain ⟨e0, P'⟩ := z
           rw [hex] at h
           simp only at h
           rw [T.run_bind] at h
           cases hrs : (rsvC c1).run with
           | none => rw [hrs] at h; cases h
           | some c2 =>
             rw [hrs] at h
             simp only at h
             cases hl : Nat.beq c2.ts.length P'.ts.length with
             | false => rw [hl] at h; cases h
             | true =>
             rw [hl] at h
             simp only [cond_true] at h
             cases hbk : back l p c2.os σ with
             | none => rw [hbk] at h; cases h
             | some σ2 =>
               rw [hbk] at h
               simp only [T.run, Option.some.injEq, Prod.mk.injEq] at h
               obtain ⟨rfl, rfl, rfl⟩ := h
               have hit := hR c _ hr
               intro q r φ w a hRel hF
               have hrnd : r = none := by
                have h1 := hF.rnd
                have : fr.rnd = none := by
                 unfold canon at hc
                 cases hk : (Nat.beq fr.size head.size && isNil fr.marks && isNone fr.rnd) with
                 | false => rw [hk] at hc; cases hc
                 | true =>
                   simp only [Bool.and_eq_true] at hk
                   cases hm : fr.rnd with
                   | none => rfl
                   | some _ => rw [hm] at hk; exact absurd hk.2 (by simp [isNone])
                rw [this] at h1
                exact h1
               subst hrnd
               refine ⟨?_, fun b hb => by cases hb⟩
               obtain ⟨g1, g2, g3, g4, g5, g6⟩ := canon_at hc (fun i j x y id hi => by simp at hi) hRel hF
               have hv : ∀ v ∈ c.ts, ∃ u, VR (rnm l φ) v u := fun v hv => by
                obtain ⟨i, hi, rfl⟩ := List.getElem_of_mem hv
                have hlt : i < head.ts.length := by rw [← g5.len]; exact hi
                exact ⟨_, g5.vals i head.ts[i] _ (List.getElem?_eq_getElem hlt) (List.getElem?_eq_getElem hi)⟩
               have hEn := entry_of (us := []) hRel g2 g4 g6 g3 hv hok
               have hA : AtK (kcOf w l φ c.os p) w0 head c a w := ⟨_, g4, g5, hEn.kept⟩
               have hloop := loop_S hE hI (K := kcOf w l φ c.os p) hEn.pins hx (q := q) hit a w hA
               refine wpIn_block (wpIn_loopIn fun b kk cs hro hb hrm => ?_)
               obtain ⟨x, a1, w1, hq, harr⟩ := hloop b kk cs hro hb hrm
               refine ⟨x, a1, w1, ?_, harr⟩
               obtain ⟨e1, P1, z1, _, rfl, φ', z3, z4, z5⟩ := hq
               rw [List.getElem?_cons_succ, hex] at z1
               injection z1 with z1
               simp only [Prod.mk.injEq] at z1
               obtain ⟨rfl, rfl⟩ := z1
               obtain ⟨y1, y2⟩ := rsvC_ok hrs
               obtain ⟨y3, y4⟩ := rsvC_rel y2 z3 z5
               obtain ⟨φ2, b1, b2, b3⟩ := back_ok hEn y3 y4 hbk
               have hpost : CodePost w0 φ σ w none (blkEx blk e0).out (frN P' (rns (trN l p σ.next) c2.ts)) σ2 (blkEx blk e0).out a1 w1 := by
                refine ⟨rfl, φ2, ⟨⟨z4.size, fun j => ?_⟩, z4.defs, rfl⟩, b1, b2⟩
                show VR _ (match (setTs P'.ts (rns (trN l p σ.next) c2.ts) (badTr P'.size)).get j with | some v => v | none => .undef) _
                refine setTs_ok (badTr_ok z4.size) (fun i t v ht hvi => ?_) j
                rw [rns_at, Option.map_eq_some_iff] at hvi
                obtain ⟨v', k1, rfl⟩ := hvi
                obtain ⟨v0, k2, k3⟩ := rsvs_at _ _ y1 i v' k1
                exact rn_ok b3 _ _ (rsv_ok _ _ k3 _ _ (z4.vals i t v0 ht k2))
               cases e0 with
               | normal => exact hpost
               | ret => exact hpost
               | goto l => exact hpost
               | exit id =>
                 show Exit.inBlock blk _ (.exit id) a1 w1
                 simp only [Exit.inBlock]
                 by_cases hj : id = blk
                 ·subst hj
                  rw [if_pos rfl]
                  have : blkEx id (.exit id) = .normal := by simp only [blkEx, Nat.beq_refl, cond_true]
                  rw [this] at hpost ⊢
                  exact hpost
                 ·rw [if_neg hj]
                  have : blkEx blk (.exit id) = .exit id := by
                   have : Nat.beq id blk = false := by rw [beq_iff]; exact decide_eq_false hj
                   simp only [blkEx, this, cond_false]
                  rw [this] at hpost ⊢
                  exact hpost
def canonA (ps : List PV) (ops : List (List PV)) (seeds : Names) (args : List AV) (g : Nat → Option AObj) : Option (CS × Names) :=
 match cvPs seeds ps args with
 | some (ts, l) => match canonO g ops 1000 0 l with
   | some (os, l') => some (⟨ts, os⟩, l')
   | none => none
 | none => none
theorem canonA_at {ps : List PV} {ops : List (List PV)} {seeds l : Names} {args : List AV} {c : CS} {us : List Value} (h : canonA ps ops seeds args σ.get = some (c, l)) (hd : Dist seeds) (hR : Rel w0 φ σ.get σ.next w) (hus : VRL φ args us) :
  seeds <+: l ∧ Dist l ∧ c.os.length = l.length ∧ Rel w0 (rnm l φ) (stC c.os).get (stC c.os).next w ∧ VRL (rnm l φ) c.ts us ∧
  ∀ k o lo, (stC c.os).get k = some o → rnm l φ k = some lo → ∃ x id o0, l[k]? = some x ∧ x.src = some id ∧ σ.get id = some o0 ∧ φ id = some lo ∧ o.rw = o0.rw := by
 unfold canonA at h
 cases ht : cvPs seeds ps args with
 | none => rw [ht] at h; cases h
 | some q =>
   obtain ⟨ts, l1⟩ := q
   rw [ht] at h
   simp only at h
   cases ho : canonO σ.get ops 1000 0 l1 with
   | none => rw [ho] at h; cases h
   | some q =>
     obtain ⟨os, l2⟩ := q
     rw [ho] at h
     simp only [Option.some.injEq, Prod.mk.injEq] at h
     obtain ⟨rfl, rfl⟩ := h
     obtain ⟨f1, t1⟩ := cvPs_ok _ _ _ _ _ ht
     obtain ⟨f2, o1, o2⟩ := canonO_ok ho (Nat.zero_le _)
     have hD := (f1.trans f2).2 hd
     have hlen : os.length = l2.length := by omega
     have corr : ∀ k o lo, (stC os).get k = some o → rnm l2 φ k = some lo → ∃ x id o0, l2[k]? = some x ∧ x.src = some id ∧ σ.get id = some o0 ∧ φ id = some lo ∧ o.rw = o0.rw ∧ (ObjR φ w lo o0 → ObjR (rnm l2 φ) w lo o) := by
      intro k o lo hg hl
      obtain ⟨x, id, e1, e2, e3⟩ := rnm_some hl
      obtain ⟨o0, d1, d2, d3⟩ := o2 k o (stC_some.1 hg) x id (by rw [Nat.zero_add]; exact e1) e2
      exact ⟨x, id, o0, e1, e2, d1, e3, d2, d3 φ w lo⟩
     refine ⟨(f1.trans f2).1, hD, hlen, ⟨?_, ?_, ?_, ?_, ?_, hR.below⟩, t1 φ us l2 f2.1 hus, ?_⟩
     ·intro k o lo hg hl
      obtain ⟨x, id, o0, e1, e2, e3, e4, e5, e6⟩ := corr k o lo hg hl
      exact e6 (hR.objs id o0 lo e3 e4)
     ·intro k o lo hg hl
      obtain ⟨x, id, o0, e1, e2, e3, e4, e5, e6⟩ := corr k o lo hg hl
      rw [e5]; exact hR.own id o0 lo e3 e4
     ·intro i j oi oj li lj hij hi hj hli hlj hrw
      obtain ⟨xi, idi, oi0, e1, e2, e3, e4, e5, _⟩ := corr i oi li hi hli
      obtain ⟨xj, idj, oj0, d1, d2, d3, d4, d5, _⟩ := corr j oj lj hj hlj
      rw [e5] at hrw
      refine hR.inj idi idj oi0 oj0 li lj (fun he => ?_) e3 d3 e4 d4 hrw
      subst he
      exact hij (hD i j xi xj idi e1 d1 e2 d2)
     ·intro k hk
      have hk : os.length ≤ k := hk
      simp only [rnm, List.getElem?_eq_none (show l2.length ≤ k by omega)]
     ·intro k hk
      have hk : os.length ≤ k := hk
      rw [stC_get, List.getElem?_eq_none hk]
     ·intro k o lo hg hl
      obtain ⟨x, id, o0, e1, e2, e3, e4, e5, _⟩ := corr k o lo hg hl
      exact ⟨x, id, o0, e1, e2, e3, e4, e5⟩
def CallC (Pr : Program) (f : FuncId) (p : Nat) (c c' : CS) : Prop :=
 ∀ (K : KC) w0 w us φ q, K.p = p → (∀ j, j < p → K.pin j ≠ none) → Rel w0 φ (stC c.os).get (stC c.os).next w → VRL φ c.ts us → Kept K φ (stC c.os).get w →
  CallsIn (fen none) q Pr f us.toArray w fun e w' => ∃ u φ', e = .returned u ∧ Rel w0 φ' (stC c'.os).get (stC c'.os).next w' ∧ VRL φ' c'.ts [u] ∧ Kept K φ' (stC c'.os).get w'
def leafF (p : Nat) (pr : PV) (ros : List (List PV)) (r : (Out × St) × Plan) : T CS := match r.1.1 with
 | .val v => match canonA [pr] ros (seedsN p) [v] r.1.2.get with
   | some (c, _) => .ret c
   | none => .fail
 | .ex _ _ => .fail
def callC (E : Env) (m f p : Nat) (pr : PV) (ros : List (List PV)) (π : Plan) (c : CS) : Option CS := ((evA E m (.call f c.ts) (stC c.os) π).bind (leafF p pr ros)).run
theorem callC_ok (hE : EnvOK Pr E) (hI : ∀ w0, IntrOK Pr w0 E) {m f p : Nat} {pr : PV} {ros : List (List PV)} {π : Plan} {c c' : CS} (h : callC E m f p pr ros π c = some c') : CallC Pr f p c c' := by
 intro K w0 w us φ q hKp hpin hR hus hK
 subst hKp
 unfold callC at h
 rw [T.run_bind] at h
 cases hev : (evA E m (.call f c.ts) (stC c.os) π).run with
 | none => rw [hev] at h; cases h
 | some r =>
   obtain ⟨⟨out, σ1⟩, π'⟩ := r
   rw [hev] at h
   simp only [leafF] at h
   cases out with
   | ex e fr => cases h
   | val v =>
     simp only at h
     cases hc : canonA [pr] ros (seedsN K.p) [v] σ1.get with
     | none => rw [hc] at h; cases h
     | some z =>
       obtain ⟨c1, l⟩ := z
       rw [hc] at h
       simp only [T.run, Option.some.injEq] at h; subst h
       obtain ⟨_, hj⟩ : CallOK Pr w0 f c.ts (stC c.os) v σ1 := ev_sound hE (hI w0) m _ _ _ _ (evA_ev hev)
       refine CallsIn.mono (hj q φ w us hR hus) fun e w' he => ?_
       obtain ⟨u, φ', rfl, q1, q2, q3⟩ := he
       obtain ⟨h1, h2, h3, h4, h5, h6⟩ := canonA_at hc (seedsN_dist _) q2 (VRL.cons q1 VRL.nil)
       have hK' := hK.ext hpin q3
       refine ⟨u, _, rfl, h4, h5, hK'.size, hK'.frame, fun k o lo hg hl hrw => ?_, fun j hj => ?_⟩
       ·obtain ⟨x, id, o0, e1, e2, e3, e4, e5⟩ := h6 k o lo hg hl
        rw [e5] at hrw
        exact hK'.own id o0 lo e3 e4 hrw
       ·rw [rnm_at (l := seedsN K.p) h1 (seedsN_at hj) rfl]
        exact hK'.pins j hj
theorem CallC.seen {f p : Nat} {c c1 c' : CS} (h : CallC Pr f p c c1) (hs : Seen c1 c') : CallC Pr f p c c' := by
 intro K w0 w us φ q hKp hpin hR hus hK
 refine CallsIn.mono (h K w0 w us φ q hKp hpin hR hus hK) fun e w' he => ?_
 obtain ⟨u, φ', rfl, h1, h2, h3⟩ := he
 obtain ⟨k1, k2⟩ := hs.rel h1 h3
 exact ⟨u, φ', rfl, k1, hs.vrl h2, k2⟩
theorem CallC.pre {f p : Nat} {c0 c c' : CS} (h : CallC Pr f p c c') (hs : Seen c0 c) : CallC Pr f p c0 c' := by
 intro K w0 w us φ q hKp hpin hR hus hK
 obtain ⟨k1, k2⟩ := hs.rel hR hK
 exact h K w0 w us φ q hKp hpin k1 (hs.vrl hus) k2
def fiRun (ps : List PV) (ops : List (List PV)) (p : Nat) (R : CS → T CS) (args : List AV) (σ : St) : T (AV × St) :=
 match canonA ps ops [] args σ.get with
 | none => .fail
 | some (c, l) => cond (Nat.ble p l.length && okNames σ.get p (solids c l.length) l 0)
   ((R c).bind fun r => (rsvC r).bind fun c' => match c'.ts, back l p c'.os σ with
     | [v], some σ' => .ret (rn (trN l p σ.next) v, σ')
     | _, _ => .fail) .fail
theorem fi_ok {ps : List PV} {ops : List (List PV)} {f p : Nat} {R : CS → T CS} {args : List AV} {v : AV} (hf : ∃ fn, Pr.funcs[f]? = some fn ∧ fn.body.isNone = false ∧ (fn.name == "runtime.NumGoroutine") = false)
  (hR : ∀ c c', (R c).run = some c' → CallC Pr f p c c') (h : (fiRun ps ops p R args σ).run = some (v, σ')) : CallOK Pr w0 f args σ v σ' := by
 refine ⟨hf, fun q φ w us hRel hus => ?_⟩
 unfold fiRun at h
 cases hc : canonA ps ops [] args σ.get with
 | none => rw [hc] at h; cases h
 | some z =>
   obtain ⟨c, l⟩ := z
   rw [hc] at h
   simp only at h
   cases hok : (Nat.ble p l.length && okNames σ.get p (solids c l.length) l 0) with
   | false => rw [hok] at h; cases h
   | true =>
     rw [hok] at h
     simp only [cond_true] at h
     rw [T.run_bind] at h
     cases hr : (R c).run with
     | none => rw [hr] at h; cases h
     | some c1 =>
       rw [hr] at h
       simp only at h
       rw [T.run_bind] at h
       cases hrs : (rsvC c1).run with
       | none => rw [hrs] at h; cases h
       | some c2 =>
         rw [hrs] at h
         simp only at h
         obtain ⟨g1, g2, g3, g4, g5, g6⟩ := canonA_at hc (fun i j x y id hi => by simp at hi) hRel hus
         have hv : ∀ v ∈ c.ts, ∃ u, VR (rnm l φ) v u := fun v hv => by
          obtain ⟨i, hi, rfl⟩ := List.getElem_of_mem hv
          obtain ⟨u, _, h2⟩ := g5.at_ i _ (List.getElem?_eq_getElem hi)
          exact ⟨u, h2⟩
         have hEn := entry_of (us := []) hRel g2 g4 g6 g3 hv hok
         refine CallsIn.mono (hR c c1 hr (kcOf w l φ c.os p) w0 w us _ q rfl hEn.pins g4 g5 hEn.kept) fun e w' he => ?_
         obtain ⟨u, φ', rfl, z3, z4, z5⟩ := he
         obtain ⟨y1, y2⟩ := rsvC_ok hrs
         obtain ⟨y3, y4⟩ := rsvC_rel y2 z3 z5
         have y5 := rsvs_ok _ _ y1 _ _ z4
         split at h
         ·rename_i v' σ2 hts hbk
          simp only [T.run, Option.some.injEq, Prod.mk.injEq] at h
          obtain ⟨rfl, rfl⟩ := h
          obtain ⟨φ2, b1, b2, b3⟩ := back_ok hEn y3 y4 hbk
          rw [hts] at y5
          simp only [VRL] at y5
          obtain ⟨y, ys, e1, e2, rfl⟩ := y5
          injection e1 with e1; subst e1
          exact ⟨u, φ2, rfl, rn_ok b3 _ _ e2, b1, b2⟩
         ·cases h
end
end Go.Proofs.Ytmjmhpbncfjnpaa.Bm
