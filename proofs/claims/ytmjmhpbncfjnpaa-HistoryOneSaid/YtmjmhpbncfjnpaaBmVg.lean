/- The abstract machine: environments with contracts, one by one. -/
import Derived.Test.YtmjmhpbncfjnpaaBmVf
set_option linter.unusedSimpArgs false
set_option linter.unusedVariables false
namespace Go.Proofs.Ytmjmhpbncfjnpaa.Bm
open Go.RowKit
def subP : List Bool → Code → Option Code
 | [], c => some c
 | false :: p, .seq a _ => subP p a
 | true :: p, .seq _ b => subP p b
 | false :: p, .cond _ a _ => subP p a
 | true :: p, .cond _ _ b => subP p b
 | _ :: p, .block _ a => subP p a
 | _ :: p, .loop a => subP p a
 | _ :: _, _ => none
def markP (tag : Nat) : List Bool → Code → Code
 | [], _ => .block tag .skip
 | false :: p, .seq a b => .seq (markP tag p a) b
 | true :: p, .seq a b => .seq a (markP tag p b)
 | false :: p, .cond c a b => .cond c (markP tag p a) b
 | true :: p, .cond c a b => .cond c a (markP tag p b)
 | _ :: p, .block id a => .block id (markP tag p a)
 | _ :: p, .loop a => .loop (markP tag p a)
 | _ :: _, c => c
def findP (b : Nat) : Code → Option (List Bool)
 | .seq x y => match findP b x with
   | some p => some (false :: p)
   | none => match findP b y with
     | some p => some (true :: p)
     | none => none
 | .cond _ x y => match findP b x with
   | some p => some (false :: p)
   | none => match findP b y with
     | some p => some (true :: p)
     | none => none
 | .block id x => cond (Nat.beq id b) (some []) (match findP b x with
   | some p => some (false :: p)
   | none => none)
 | .loop x => match findP b x with
   | some p => some (false :: p)
   | none => none
 | _ => none
def tagsOK (E : Env) : Code → Bool
 | .seq a b => tagsOK E a && tagsOK E b
 | .cond _ a b => tagsOK E a && tagsOK E b
 | .block id a => (Nat.blt id 1000000 || (match E.lp id with | none => false | some _ => true)) && tagsOK E a
 | .loop a => tagsOK E a
 | .scope a => tagsOK E a
 | .rangeFunc _ _ a b => tagsOK E a && tagsOK E b
 | _ => true
def Tr.all {α : Type} (f : α → Bool) : Tr α → Bool
 | .nil => true
 | .node l v r => l.all f && (match v with | some x => f x | none => true) && r.all f
theorem Tr.all_get {α : Type} {f : α → Bool} : ∀ {t : Tr α} {n : Nat} {x : α}, t.all f = true → t.get n = some x → f x = true
 | .nil, n, x, h, hg => by simp [Tr.get] at hg
 | .node l v r, n, x, h, hg => by
   simp only [Tr.all, Bool.and_eq_true] at h
   simp only [Tr.get] at hg
   cases h0 : Nat.beq n 0 with
   | true =>
     rw [h0] at hg
     simp only [cond_true] at hg
     rw [hg] at h
     exact h.1.2
   | false =>
     rw [h0] at hg
     simp only [cond_false] at hg
     cases h1 : Nat.beq (Nat.mod n 2) 1 with
     | true =>
       rw [h1] at hg
       exact Tr.all_get h.1.1 hg
     | false =>
       rw [h1] at hg
       exact Tr.all_get h.2 hg
structure TagOK (E : Env) : Prop where
 code : ∀ f fn c, E.fn.get f = some fn → fn.body = some c → tagsOK E c = true
 big : ∀ id, id < 1000000 → E.lp id = none
def tagsB (E : Env) : Bool := E.fn.all fun fn => match fn.body with
 | some c => tagsOK E c
 | none => true
theorem TagOK.of {E : Env} (h : tagsB E = true) (hb : ∀ id, E.lp id = none) : TagOK E :=
 ⟨fun f fn c hf hc => by
   have := Tr.all_get h hf
   rw [hc] at this
   exact this, fun id _ => hb id⟩
def bodyOf (E : Env) (f b : Nat) : Option (List Bool × Code × Func) := match E.fn.get f with
 | some fn => match fn.body with
   | some c => match findP b c with
     | some p => match subP p c with
       | some (.block id (.loop x)) => cond (Nat.beq id b) (some (p, x, fn)) none
       | _ => none
     | none => none
   | none => none
 | none => none
def loopC (E : Env) (f b : Nat) : Code := match bodyOf E f b with
 | some (_, x, _) => x
 | none => .skip
def markF (E : Env) (f b tag : Nat) : Option Func := match bodyOf E f b with
 | some (p, _, fn) => some { fn with body := fn.body.map (markP tag p) }
 | none => none
def addL (E : Env) (f b tag : Nat) (head : Pat) (exits : List (Ex × Pat)) (p : Nat) (R : CS → T (Nat × CS)) : Env :=
 { E with fn := E.fn.set f (markF E f b tag), lp := fun id => cond (Nat.beq id tag) (some { code := .block b (.loop (erase E (loopC E f b))), run := liRun head exits b p R }) (E.lp id) }
def addF (E : Env) (f : Nat) (I : Intr) : Env := { E with intr := fun g => cond (Nat.beq g f) (some I) (E.intr g) }
section
variable {P : Program} {E : Env}
theorem erase_add {E E1 : Env} {tag : Nat} (hl : ∀ id, id ≠ tag → E1.lp id = E.lp id) (ht : E.lp tag = none) (hbig : 1000000 ≤ tag) : ∀ c, tagsOK E c = true → erase E1 c = erase E c
 | .seq a b, h => by
   simp only [tagsOK, Bool.and_eq_true] at h
   simp only [erase, erase_add hl ht hbig a h.1, erase_add hl ht hbig b h.2]
 | .cond c a b, h => by
   simp only [tagsOK, Bool.and_eq_true] at h
   simp only [erase, erase_add hl ht hbig a h.1, erase_add hl ht hbig b h.2]
 | .block id a, h => by
   simp only [tagsOK, Bool.and_eq_true] at h
   have hne : id ≠ tag := by
    intro he
    subst he
    rw [ht] at h
    have := h.1
    rw [blt_iff] at this
    simp at this
    omega
   simp only [erase, hl id hne, erase_add hl ht hbig a h.2]
 | .loop a, h => by
   simp only [tagsOK] at h
   simp only [erase, erase_add hl ht hbig a h]
 | .skip, _ => rfl
 | .region _ _ _, _ => rfl
 | .rangeFunc _ _ _ _, _ => rfl
 | .exit _, _ => rfl
 | .scope _, _ => rfl
 | .label _, _ => rfl
 | .goto _, _ => rfl
 | .ret, _ => rfl
 | .refuse _, _ => rfl
theorem tags_add {E E1 : Env} (hl : ∀ id, E.lp id ≠ none → E1.lp id ≠ none) : ∀ c, tagsOK E c = true → tagsOK E1 c = true
 | .seq a b, h => by
   simp only [tagsOK, Bool.and_eq_true] at h ⊢
   exact ⟨tags_add hl a h.1, tags_add hl b h.2⟩
 | .cond c a b, h => by
   simp only [tagsOK, Bool.and_eq_true] at h ⊢
   exact ⟨tags_add hl a h.1, tags_add hl b h.2⟩
 | .block id a, h => by
   simp only [tagsOK, Bool.and_eq_true, Bool.or_eq_true] at h ⊢
   refine ⟨?_, tags_add hl a h.2⟩
   rcases h.1 with h1 | h1
   ·exact .inl h1
   ·right
    have := hl id (fun e => by rw [e] at h1; cases h1)
    cases hq : E1.lp id with
    | none => exact absurd hq this
    | some _ => rfl
 | .loop a, h => by
   simp only [tagsOK] at h ⊢
   exact tags_add hl a h
 | .scope a, h => by
   simp only [tagsOK] at h ⊢
   exact tags_add hl a h
 | .rangeFunc _ _ a b, h => by
   simp only [tagsOK, Bool.and_eq_true] at h ⊢
   exact ⟨tags_add hl a h.1, tags_add hl b h.2⟩
 | .skip, _ => rfl
 | .region _ _ _, _ => rfl
 | .exit _, _ => rfl
 | .label _, _ => rfl
 | .goto _, _ => rfl
 | .ret, _ => rfl
 | .refuse _, _ => rfl
theorem mark_ok {E E1 : Env} {tag b : Nat} {x : Code} {g : LI} (hl : ∀ id, id ≠ tag → E1.lp id = E.lp id) (hmono : ∀ id, E.lp id ≠ none → E1.lp id ≠ none) (ht : E.lp tag = none) (hbig : 1000000 ≤ tag) (hg : E1.lp tag = some g) (hcode : g.code = .block b (.loop (erase E x))) (hb : E.lp b = none) :
  ∀ (p : List Bool) (c : Code), subP p c = some (.block b (.loop x)) → tagsOK E c = true → erase E1 (markP tag p c) = erase E c ∧ tagsOK E1 (markP tag p c) = true := by
 have ea := fun c h => erase_add hl ht hbig c h
 have ta := fun c h => tags_add hmono c h
 intro p
 induction p with
 | nil =>
   intro c hs h
   simp only [subP, Option.some.injEq] at hs; subst hs
   refine ⟨by simp only [markP, erase, hg, hcode, hb], by simp only [markP, tagsOK, hg, Bool.or_true, Bool.and_self]⟩
 | cons d p ih =>
   intro c hs h
   cases c with
   | seq a b' =>
     simp only [tagsOK, Bool.and_eq_true] at h
     cases d with
     | false =>
       obtain ⟨i1, i2⟩ := ih a (by simpa only [subP] using hs) h.1
       exact ⟨by simp only [markP, erase, i1, ea b' h.2], by simp only [markP, tagsOK, i2, ta b' h.2, Bool.and_self]⟩
     | true =>
       obtain ⟨i1, i2⟩ := ih b' (by simpa only [subP] using hs) h.2
       exact ⟨by simp only [markP, erase, i1, ea a h.1], by simp only [markP, tagsOK, i2, ta a h.1, Bool.and_self]⟩
   | cond o a b' =>
     simp only [tagsOK, Bool.and_eq_true] at h
     cases d with
     | false =>
       obtain ⟨i1, i2⟩ := ih a (by simpa only [subP] using hs) h.1
       exact ⟨by simp only [markP, erase, i1, ea b' h.2], by simp only [markP, tagsOK, i2, ta b' h.2, Bool.and_self]⟩
     | true =>
       obtain ⟨i1, i2⟩ := ih b' (by simpa only [subP] using hs) h.2
       exact ⟨by simp only [markP, erase, i1, ea a h.1], by simp only [markP, tagsOK, i2, ta a h.1, Bool.and_self]⟩
   | block id a =>
     have h' := h
     simp only [tagsOK, Bool.and_eq_true, Bool.or_eq_true] at h
     have hs' : subP p a = some (.block b (.loop x)) := by cases d <;> simpa only [subP] using hs
     obtain ⟨i1, i2⟩ := ih a hs' h.2
     have hne : id ≠ tag := by
      intro he
      subst he
      rw [ht] at h
      have := h.1
      rw [blt_iff] at this
      simp at this
      omega
     have hm : markP tag (d :: p) (.block id a) = .block id (markP tag p a) := by cases d <;> rfl
     rw [hm]
     refine ⟨by simp only [erase, hl id hne, i1], ?_⟩
     simp only [tagsOK, i2, Bool.and_true, hl id hne]
     have h1 := h'
     simp only [tagsOK, Bool.and_eq_true] at h1
     exact h1.1
   | loop a =>
     simp only [tagsOK] at h
     have hs' : subP p a = some (.block b (.loop x)) := by cases d <;> simpa only [subP] using hs
     obtain ⟨i1, i2⟩ := ih a hs' h
     have hm : markP tag (d :: p) (.loop a) = .loop (markP tag p a) := by cases d <;> rfl
     rw [hm]
     exact ⟨by simp only [erase, i1], by simp only [tagsOK, i2]⟩
   | _ => cases d <;> simp [subP] at hs
structure Good (P : Program) (E : Env) : Prop where
 env : EnvOK P E
 intr : ∀ w0, IntrOK P w0 E
 tags : TagOK E
theorem good0 {P : Program} {nt nf : Nat} (h1 : namesOk P = true) (h2 : P.follows .mixedOrders = true) (h3 : tagsB (mkEnv P nt nf) = true) : Good P (mkEnv P nt nf) :=
 ⟨mkEnv_ok h1 h2, fun _ => mkEnv_intr, TagOK.of h3 fun _ => rfl⟩
theorem Good.bits (h : Good P E) {tyd : TypeId → Bool} : Good P { E with tyd := tyd, bits := bitsR } := by
 have he : ∀ c, erase { E with tyd := tyd, bits := bitsR } c = erase E c := by
  intro c
  induction c with
  | seq a b ha hb => simp only [erase, ha, hb]
  | cond o a b ha hb => simp only [erase, ha, hb]
  | block id a ha => simp only [erase, ha]
  | loop a ha => simp only [erase, ha]
  | _ => rfl
 have ht : ∀ c, tagsOK { E with tyd := tyd, bits := bitsR } c = tagsOK E c := by
  intro c
  induction c with
  | seq a b ha hb => simp only [tagsOK, ha, hb]
  | cond o a b ha hb => simp only [tagsOK, ha, hb]
  | block id a ha => simp only [tagsOK, ha]
  | loop a ha => simp only [tagsOK, ha]
  | scope a ha => simp only [tagsOK, ha]
  | rangeFunc o ps a b ha hb => simp only [tagsOK, ha, hb]
  | _ => rfl
 have hef : erase { E with tyd := tyd, bits := bitsR } = erase E := funext he
 refine ⟨⟨h.env.ty, fun f fn hf => ?_, h.env.mixed, rfl⟩, h.intr, ⟨fun f fn c hf hc => by rw [ht]; exact h.tags.code f fn c hf hc, h.tags.big⟩⟩
 rw [hef]; exact h.env.fn f fn hf
theorem Good.addF (h : Good P E) {f : Nat} {I : Intr} (hI : ∀ w0 args σ v σ', (I.run args σ).run = some (v, σ') → CallOK P w0 f args σ v σ') : Good P (addF E f I) := by
 have he : ∀ c, erase (Bm.addF E f I) c = erase E c := by
  intro c
  induction c with
  | seq a b ha hb => simp only [erase, ha, hb]
  | cond o a b ha hb => simp only [erase, ha, hb]
  | block id a ha => simp only [erase, ha]; rfl
  | loop a ha => simp only [erase, ha]
  | _ => rfl
 have ht : ∀ c, tagsOK (Bm.addF E f I) c = tagsOK E c := by
  intro c
  induction c with
  | seq a b ha hb => simp only [tagsOK, ha, hb]
  | cond o a b ha hb => simp only [tagsOK, ha, hb]
  | block id a ha => simp only [tagsOK, ha]; rfl
  | loop a ha => simp only [tagsOK, ha]
  | scope a ha => simp only [tagsOK, ha]
  | rangeFunc o ps a b ha hb => simp only [tagsOK, ha, hb]
  | _ => rfl
 have hef : erase (Bm.addF E f I) = erase E := funext he
 refine ⟨⟨h.env.ty, fun g fn hf => ?_, h.env.mixed, h.env.bits⟩, fun w0 => ⟨(h.intr w0).1, fun g I' args σ v σ' hg hr => ?_⟩, ⟨fun g fn c hf hc => by rw [ht]; exact h.tags.code g fn c hf hc, h.tags.big⟩⟩
 ·rw [hef]; exact h.env.fn g fn hf
 ·have hg : cond (Nat.beq g f) (some I) (E.intr g) = some I' := hg
  cases hb : Nat.beq g f with
  | true =>
    rw [hb] at hg
    simp only [cond_true, Option.some.injEq] at hg
    subst hg
    have := Nat.eq_of_beq_eq_true hb; subst this
    exact hI w0 args σ v σ' hr
  | false =>
    rw [hb] at hg
    exact (h.intr w0).2 g I' args σ v σ' hg hr
theorem Good.addS (h : Good P E) {f b tag m p : Nat} {head : Pat} {exits : List (Ex × Pat)} {R : CS → T (Nat × CS)} {π : CS → Plan} (hbody : (bodyOf E f b).isSome = true) (htag : E.lp tag = none) (hbig : 1000000 ≤ tag) (hb : b < 1000000)
  (hx : exits.all (fun x => match x.1 with | .normal => false | _ => true) = true)
  (hR : ∀ c r, (R c).run = some r → Loops (fun c => stepC E m (loopC E f b) p head ((.normal, head) :: exits) (π c) c) c r.1 r.2) : Good P (addL E f b tag head exits p R) := by
 obtain ⟨⟨pth, x, fn⟩, hbo⟩ := Option.isSome_iff_exists.1 hbody
 have hlc : loopC E f b = x := by simp only [loopC, hbo]
 have hx' : ∀ e P, (e, P) ∈ exits → e ≠ .normal := fun e P hm hn => by
  have := List.all_eq_true.1 hx (e, P) hm
  subst hn
  simp at this
 let g : LI := { code := .block b (.loop (erase E (loopC E f b))), run := liRun head exits b p R }
 have hgt : (Bm.addL E f b tag head exits p R).lp tag = some g := by
  show cond (Nat.beq tag tag) (some g) (E.lp tag) = _
  rw [Nat.beq_refl]; rfl
 have hgo : ∀ id, id ≠ tag → (Bm.addL E f b tag head exits p R).lp id = E.lp id := fun id hne => by
  show cond (Nat.beq id tag) (some g) (E.lp id) = _
  have : Nat.beq id tag = false := by rw [beq_iff]; exact decide_eq_false hne
  rw [this]; rfl
 have hmono : ∀ id, E.lp id ≠ none → (Bm.addL E f b tag head exits p R).lp id ≠ none := fun id hne => by
  by_cases hid : id = tag
  ·subst hid; rw [hgt]; simp
  ·rw [hgo id hid]; exact hne
 -- the function that bears the mark
 have hfn : ∃ c, E.fn.get f = some fn ∧ fn.body = some c ∧ subP pth c = some (.block b (.loop x)) := by
  unfold bodyOf at hbo
  split at hbo
  ·rename_i fn0 hf0
   split at hbo
   ·rename_i c hc
    split at hbo
    ·rename_i p0 hp0
     split at hbo
     ·rename_i id x0 hsub
      cases hib : Nat.beq id b with
      | false => rw [hib] at hbo; cases hbo
      | true =>
        rw [hib] at hbo
        have := Nat.eq_of_beq_eq_true hib; subst this
        simp only [cond_true, Option.some.injEq, Prod.mk.injEq] at hbo
        obtain ⟨rfl, rfl, rfl⟩ := hbo
        exact ⟨c, hf0, hc, hsub⟩
     ·cases hbo
    ·cases hbo
   ·cases hbo
  ·cases hbo
 obtain ⟨c, hf, hc, hsub⟩ := hfn
 have hmk := mark_ok (E := E) (E1 := Bm.addL E f b tag head exits p R) (g := g) hgo hmono htag hbig hgt (by show Code.block b (.loop (erase E (loopC E f b))) = _; rw [hlc]) (h.tags.big b hb) pth c hsub (h.tags.code f fn c hf hc)
 have hget : ∀ g', (Bm.addL E f b tag head exits p R).fn.get g' = if g' = f then some { fn with body := some (markP tag pth c) } else E.fn.get g' := fun g' => by
  show (E.fn.set f (markF E f b tag)).get g' = _
  rw [Tr.get_set]
  simp only [markF, hbo, hc, Option.map_some]
 refine ⟨⟨h.env.ty, fun g' fn' hf' => ?_, h.env.mixed, h.env.bits⟩, fun w0 => ⟨fun id g' fr σ e fr' σ' hlp hr => ?_, (h.intr w0).2⟩, ⟨fun g' fn' c' hf' hc' => ?_, fun id hid => ?_⟩⟩
 ·rw [hget] at hf'
  split at hf'
  ·rename_i he; subst he
   injection hf' with hf'; subst hf'
   obtain ⟨fn0, e1, e2, e3, e4, e5⟩ := h.env.fn g' fn hf
   refine ⟨fn0, e1, e2, e3, e4, ?_⟩
   rw [e5, hc, Option.map_some, Option.map_some, hmk.1]
  ·obtain ⟨fn0, e1, e2, e3, e4, e5⟩ := h.env.fn g' fn' hf'
   refine ⟨fn0, e1, e2, e3, e4, ?_⟩
   rw [e5]
   cases hb' : fn'.body with
   | none => rfl
   | some c' =>
     rw [Option.map_some, Option.map_some, erase_add hgo htag hbig c' (h.tags.code g' fn' c' hf' hb')]
 ·by_cases hid : id = tag
  ·subst hid
   rw [hgt] at hlp; injection hlp with hlp; subst hlp
   exact li_ok h.env (h.intr w0) hx' hR hr
  ·rw [hgo id hid] at hlp
   exact (h.intr w0).1 id g' fr σ e fr' σ' hlp hr
 ·rw [hget] at hf'
  split at hf'
  ·rename_i he; subst he
   injection hf' with hf'; subst hf'
   simp only [Option.some.injEq] at hc'; subst hc'
   exact hmk.2
  ·exact tags_add hmono c' (h.tags.code g' fn' c' hf' hc')
 ·rw [hgo id (by omega)]; exact h.tags.big id hid
theorem Good.addL (h : Good P E) {f b tag m p : Nat} {head : Pat} {exits : List (Ex × Pat)} {R : CS → T (Nat × CS)} {π : Plan} (hbody : (bodyOf E f b).isSome = true) (htag : E.lp tag = none) (hbig : 1000000 ≤ tag) (hb : b < 1000000)
  (hx : exits.all (fun x => match x.1 with | .normal => false | _ => true) = true)
  (hR : ∀ c r, (R c).run = some r → ∃ n, iterC (stepC E m (loopC E f b) p head ((.normal, head) :: exits) π) n c = some r) : Good P (addL E f b tag head exits p R) :=
 h.addS (π := fun _ => π) hbody htag hbig hb hx fun c r hr => by
  obtain ⟨n, hn⟩ := hR c r hr
  exact Loops.of_iter hn
def livesI : Intr := { run := fun args σ => match args with
 | [] => .ret (.bool true, σ)
 | _ => .fail }
theorem rel_stC (W : World) : Rel W (fun _ => none) (stC []).get (stC []).next W := rel_empty W
theorem lives_ok {E : Env} (h : Good P E) {m f : Nat} (hb : resB E m f [] (stC []) = true) : ∀ w0 args σ v σ', (livesI.run args σ).run = some (v, σ') → CallOK P w0 f args σ v σ' := by
 intro w0 args σ v σ' hr
 simp only [livesI] at hr
 split at hr
 ·simp only [T.run, Option.some.injEq, Prod.mk.injEq] at hr
  obtain ⟨rfl, rfl⟩ := hr
  unfold resB at hb
  split at hb
  ·rename_i b σ1 hev
   subst hb
   have hj : ∀ W, CallOK P W f [] (stC []) (.bool true) σ1 := fun W => ev_sound h.env (h.intr W) m _ _ _ _ hev
   obtain ⟨h1, _⟩ := hj w0
   refine ⟨h1, fun k φ w us hR hus => ?_⟩
   have hus : us = [] := by simpa only [VRL] using hus
   subst hus
   refine CallsIn.mono ((hj w).2 k _ w [] (rel_empty w) VRL.nil) fun e W' he => ?_
   obtain ⟨u, φ', rfl, q1, q2, _⟩ := he
   have hB := q2.below
   have hle := hB.size
   have blk : ∀ id o l, σ.get id = some o → φ id = some l → W'.heap[l.c]? = w.heap[l.c]? := fun id o l h1 h2 => hB.block _ (hR.lt h1 h2)
   have hb0 := hR.below
   exact ⟨u, φ, rfl, by simpa only [VR] using q1, ⟨fun id o l h1 h2 => (hR.objs id o l h1 h2).keep (blk id o l h1 h2) (fun _ _ h => h), hR.own, hR.inj, hR.fresh, hR.gfresh,
    ⟨hB.os.trans hb0.os, hB.tape.trans hb0.tape, hB.output.trans hb0.output, Nat.le_trans hb0.size hle, fun k hk => (hB.block k (Nat.lt_of_lt_of_le hk hb0.size)).trans (hb0.block k hk)⟩⟩,
    ⟨fun _ _ h => h, fun _ _ h => h, fun _ _ _ => rfl, fun c hc _ => hB.block c hc, fun id o l h1 h2 h3 => .inr ⟨id, o, l, h1, h2, h3, rfl⟩, Nat.le_refl _, hle⟩⟩
  ·cases hb
 ·cases hr
def lawT (E : Env) (m f : Nat) (args : List AV) (os : List (Option AObj)) (π : Plan) : Option Bool := ((evA E m (.call f args) (stC os) π).bind fun r => match r.1.1 with
 | .val (.bool b) => .ret b
 | _ => .fail).run
theorem law_T {E : Env} (h : Good P E) {W : World} {m f : Nat} {args : List AV} {os : List (Option AObj)} {us : List Value} {φ : Phi} {π : Plan} (hR : Rel W φ (stC os).get (stC os).next W) (hargs : VRL φ args us) (hl : lawT E m f args os π = some true) :
  Calls P f us.toArray W fun e W' => e = .returned (.bool true) ∧ Below W.heap.size W W' := by
 unfold lawT at hl
 rw [T.run_bind] at hl
 cases hev : (evA E m (.call f args) (stC os) π).run with
 | none => rw [hev] at hl; cases hl
 | some r =>
   obtain ⟨⟨out, σ1⟩, π'⟩ := r
   rw [hev] at hl
   simp only at hl
   split at hl
   ·rename_i b
    simp only [T.run, Option.some.injEq] at hl; subst hl
    have hj : CallOK P W f args (stC os) (.bool true) σ1 := ev_sound h.env (h.intr W) m _ _ _ _ (evA_ev hev)
    refine callsIn_wide.1 (CallsIn.mono (F := Fence.wide) (n := 0) (hj.2 0 φ W us hR hargs) fun e W' he => ?_)
    obtain ⟨u, φ', rfl, h1, h2, h3⟩ := he
    simp only [VR] at h1; subst h1
    exact ⟨rfl, h2.below⟩
   ·cases hl
end
end Go.Proofs.Ytmjmhpbncfjnpaa.Bm
