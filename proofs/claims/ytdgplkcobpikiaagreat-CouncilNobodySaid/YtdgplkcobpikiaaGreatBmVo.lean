/- The abstract machine: environments that hold where the outside is as told (package variables that are laid). -/
import Derived.Test.YtdgplkcobpikiaaGreatBmVn
set_option linter.unusedSimpArgs false
set_option linter.unusedVariables false
namespace Go.Proofs.YtdgplkcobpikiaaGreat.Bm
open Go.RowKit

/-- An environment of which all is known, where 'L' is so. -/
structure GoodL (P : Program) (E : Env) (L : World → Prop) : Prop where
  env : EnvOK P E
  intr : ∀ w0, L w0 → IntrOK P w0 E
  tags : TagOK E
  more : ∀ w w', Below w.heap.size w w' → L w → L w'
section
variable {P : Program} {E : Env} {L : World → Prop}
theorem Good.toL (h : Good P E) (hL : ∀ w w', Below w.heap.size w w' → L w → L w') : GoodL P E L := ⟨h.env, fun w0 _ => h.intr w0, h.tags, hL⟩
theorem GoodL.addF (h : GoodL P E L) {f : Nat} {I : Intr} (hI : ∀ w0, L w0 → ∀ args σ v σ', (I.run args σ).run = some (v, σ') → CallOK P w0 f args σ v σ') : GoodL P (Bm.addF E f I) L := by
  have he : ∀ c, erase (Bm.addF E f I) c = erase E c := by
    intro c
    induction c with
    | seq a b ha hb => simp only [erase, ha, hb]
    | cond o a b ha hb => simp only [erase, ha, hb]
    | block id a ha => simp only [erase, ha]; rfl
    | loop a ha => simp only [erase, ha]
    | _ => rfl
  have ht : ∀ c, tagsOK (Bm.addF E f I) c = tagsOK E c := by
    intro c
    induction c with
    | seq a b ha hb => simp only [tagsOK, ha, hb]
    | cond o a b ha hb => simp only [tagsOK, ha, hb]
    | block id a ha => simp only [tagsOK, ha]; rfl
    | loop a ha => simp only [tagsOK, ha]
    | scope a ha => simp only [tagsOK, ha]
    | rangeFunc o ps a b ha hb => simp only [tagsOK, ha, hb]
    | _ => rfl
  have hef : erase (Bm.addF E f I) = erase E := funext he
  refine ⟨⟨h.env.ty, fun g fn hf => ?_, h.env.mixed, h.env.bits⟩, fun w0 hL => ⟨(h.intr w0 hL).1, fun g I' args σ v σ' hg hr => ?_⟩, ⟨fun g fn c hf hc => by rw [ht]; exact h.tags.code g fn c hf hc, h.tags.big⟩, h.more⟩
  · rw [hef]; exact h.env.fn g fn hf
  · have hg : cond (Nat.beq g f) (some I) (E.intr g) = some I' := hg
    cases hb : Nat.beq g f with
    | true =>
      rw [hb] at hg
      simp only [cond_true, Option.some.injEq] at hg
      subst hg
      have := Nat.eq_of_beq_eq_true hb; subst this
      exact hI w0 hL args σ v σ' hr
    | false =>
      rw [hb] at hg
      exact (h.intr w0 hL).2 g I' args σ v σ' hg hr
theorem livesL_ok (h : GoodL P E L) {m f : Nat} (hb : resS E m f [] (stC []) = true) : ∀ w0, L w0 → ∀ args σ v σ', (livesI.run args σ).run = some (v, σ') → CallOK P w0 f args σ v σ' := by
  intro w0 hL args σ v σ' hr
  simp only [livesI] at hr
  split at hr
  · simp only [T.run, Option.some.injEq, Prod.mk.injEq] at hr
    obtain ⟨rfl, rfl⟩ := hr
    unfold resS at hb
    split at hb
    · rename_i rs hev
      have key : ∀ w, L w → CallS P w f [] (stC []) rs := fun w hw => evS_sound h.env (h.intr w hw) m _ _ _ hev
      refine ⟨(key w0 hL).1, fun n φ w us hR hus => ?_⟩
      refine CallsIn.mono ((key w (h.more _ _ hR.below hL)).2 n (fun _ => none) w us (rel_stC w) (by simp only [VRL] at hus ⊢; exact hus)) fun e w' he => ?_
      obtain ⟨v, σ1, hm, u, φ1, rfl, q1, q2, q3⟩ := he
      rw [allTrue_mem hb v σ1 hm] at q1
      simp only [VR] at q1; subst q1
      have hB := q2.below
      have hle := hB.size
      have hb0 := hR.below
      have blk : ∀ id o l, σ.get id = some o → φ id = some l → w'.heap[l.c]? = w.heap[l.c]? := fun id o l h1 h2 => hB.block _ (hR.lt h1 h2)
      exact ⟨_, φ, rfl, by simp only [VR], ⟨fun id o l h1 h2 => (hR.objs id o l h1 h2).keep (blk id o l h1 h2) (fun _ _ h => h), hR.own, hR.inj, hR.fresh, hR.gfresh,
        ⟨hB.os.trans hb0.os, hB.tape.trans hb0.tape, hB.output.trans hb0.output, Nat.le_trans hb0.size hle, fun k hk => (hB.block k (Nat.lt_of_lt_of_le hk hb0.size)).trans (hb0.block k hk)⟩⟩,
        ⟨fun _ _ h => h, fun _ _ h => h, fun _ _ _ => rfl, fun c hc _ => hB.block c hc, fun id o l h1 h2 h3 => .inr ⟨id, o, l, h1, h2, h3, rfl⟩, Nat.le_refl _, hle⟩⟩
    · cases hb
  · cases hr
theorem law_TL (h : GoodL P E L) {W : World} (hW : L W) {m f : Nat} {args : List AV} {os : List (Option AObj)} {us : List Value} {φ : Phi} {π : Plan} (hR : Rel W φ (stC os).get (stC os).next W) (hargs : VRL φ args us) (hl : lawT E m f args os π = some true) :
    Calls P f us.toArray W fun e W' => e = .returned (.bool true) ∧ Below W.heap.size W W' := by
  unfold lawT at hl
  rw [T.run_bind] at hl
  cases hev : (evA E m (.call f args) (stC os) π).run with
  | none => rw [hev] at hl; cases hl
  | some r =>
    obtain ⟨⟨out, σ1⟩, π'⟩ := r
    rw [hev] at hl
    simp only at hl
    split at hl
    · rename_i b
      simp only [T.run, Option.some.injEq] at hl; subst hl
      have hj : CallOK P W f args (stC os) (.bool true) σ1 := ev_sound h.env (h.intr W hW) m _ _ _ _ (evA_ev hev)
      refine callsIn_wide.1 (CallsIn.mono (F := Fence.wide) (n := 0) (hj.2 0 φ W us hR hargs) fun e W' he => ?_)
      obtain ⟨u, φ', rfl, h1, h2, h3⟩ := he
      simp only [VR] at h1; subst h1
      exact ⟨rfl, h2.below⟩
    · cases hl
end
end Go.Proofs.YtdgplkcobpikiaaGreat.Bm
