/- The abstract machine: regions that draw their order: sets of operations, and the walk in the text's order. -/
import Derived.Test.YtmjmhpbncfjnpaaBmS
set_option linter.unusedSimpArgs false
set_option linter.unusedVariables false
namespace Go.Proofs.Ytmjmhpbncfjnpaa.Bm
open Go.RowKit
theorem masks_get : ∀ (os : List Oper) (i : Nat) (acc : Tr Nat) (k : Nat), k < i → (masks os i acc).get k = acc.get k
 | [], i, acc, k, h => rfl
 | o :: os, i, acc, k, h => by
   simp only [masks]
   have e : Nat.succ i = i + 1 := rfl
   rw [e, masks_get os (i + 1) _ k (by omega), Tr.get_set_ne _ _ (by omega)]
theorem maskOf_spec (acc : Tr Nat) : ∀ (es : List Edge) (b : Nat), (maskOf acc es).testBit b = true → ∃ e ∈ es, ebinds e = true ∧ (e.on = b ∨ ∃ m, acc.get e.on = some m ∧ m.testBit b = true)
 | [], b, h => by simp [maskOf] at h
 | e :: es, b, h => by
   simp only [maskOf] at h
   cases hb : ebinds e with
   | false =>
     rw [hb] at h
     simp only [cond_false] at h
     obtain ⟨e', h1, h2⟩ := maskOf_spec acc es b h
     exact ⟨e', List.mem_cons_of_mem _ h1, h2⟩
   | true =>
     rw [hb] at h
     simp only [cond_true] at h
     have h' : ((2 ^ e.on ||| (match acc.get e.on with | some m => m | none => 0)) ||| maskOf acc es).testBit b = true := h
     rw [Nat.testBit_or, Nat.testBit_or, Bool.or_eq_true, Bool.or_eq_true] at h'
     rcases h' with (h1 | h1) | h1
     ·rw [Nat.testBit_two_pow] at h1
      exact ⟨e, List.mem_cons_self, hb, .inl (by simpa using h1)⟩
     ·cases ha : acc.get e.on with
      | none => rw [ha] at h1; simp at h1
      | some m => rw [ha] at h1; exact ⟨e, List.mem_cons_self, hb, .inr ⟨m, ha, h1⟩⟩
     ·obtain ⟨e', h1, h2⟩ := maskOf_spec acc es b h1
      exact ⟨e', List.mem_cons_of_mem _ h1, h2⟩
theorem mask_some {mk : Tr Nat} {k m : Nat} (h : mk.get k = some m) : mask mk k = m := by simp [mask, h]
theorem masks_spec : ∀ (os : List Oper) (i : Nat) (acc : Tr Nat), (∀ k, i ≤ k → acc.get k = none) → ∀ (j : Nat) (o : Oper), os[j]? = some o → ∀ b, (mask (masks os i acc) (i + j)).testBit b = true →
  ∃ e ∈ o.after, ebinds e = true ∧ (e.on = b ∨ (mask (masks os i acc) e.on).testBit b = true)
 | [], i, acc, _, j, o, hj, b, _ => by simp at hj
 | o0 :: os, i, acc, hacc, 0, o, hj, b, hb => by
   simp at hj; subst hj
   have hget : (masks (o0 :: os) i acc).get i = some (maskOf acc o0.after.toList) := by
    simp only [masks]
    rw [masks_get os _ _ i (Nat.lt_succ_self i), Tr.get_set_same]
   rw [Nat.add_zero, mask_some hget] at hb
   obtain ⟨e, h1, h2, h3⟩ := maskOf_spec _ _ _ hb
   refine ⟨e, Array.mem_toList_iff.1 h1, h2, ?_⟩
   rcases h3 with h3 | ⟨m, h3, h4⟩
   ·exact .inl h3
   ·right
    have hlt : e.on < i := by
     rcases Nat.lt_or_ge e.on i with h | h
     ·exact h
     ·rw [hacc _ h] at h3; cases h3
    have : (masks (o0 :: os) i acc).get e.on = some m := by rw [masks_get _ _ _ _ hlt]; exact h3
    rw [mask_some this]; exact h4
 | o0 :: os, i, acc, hacc, j + 1, o, hj, b, hb => by
   simp only [masks] at hb ⊢
   have e : Nat.succ i = i + 1 := rfl
   rw [e] at hb ⊢
   have := masks_spec os (i + 1) (acc.set i (some (maskOf acc o0.after.toList))) (fun k hk => by rw [Tr.get_set_ne _ _ (by omega)]; exact hacc k (by omega)) j o (by simpa using hj) b
    (by rw [show i + 1 + j = i + (j + 1) by omega]; exact hb)
   exact this
theorem opersOk_at {mk wr : Tr Nat} : ∀ (os : List Oper) (i : Nat), opersOk mk wr os i = true → ∀ (j : Nat) (o : Oper), os[j]? = some o → operOk mk wr (mask mk (i + j)) (i + j) o = true
 | [], _, _, j, o, hj => by simp at hj
 | o0 :: os, i, h, 0, o, hj => by
   simp at hj; subst hj
   simp only [opersOk, Bool.and_eq_true] at h
   exact h.1
 | o0 :: os, i, h, j + 1, o, hj => by
   simp only [opersOk, Bool.and_eq_true] at h
   have := opersOk_at os (i + 1) h.2 j o (by simpa using hj)
   rw [show i + 1 + j = i + (j + 1) by omega] at this
   exact this
theorem writers_spec : ∀ (os : List Oper) (i : Nat) (acc wr : Tr Nat), writers os i acc = some wr → ∀ t j, wr.get t = some j ↔ (acc.get t = some j ∨ ∃ k o, os[k]? = some o ∧ o.dst = some t ∧ j = i + k)
 | [], i, acc, wr, h, t, j => by
   simp only [writers, Option.some.injEq] at h; subst h
   simp
 | o0 :: os, i, acc, wr, h, t, j => by
   have e : Nat.succ i = i + 1 := rfl
   have tail : (∃ k o, (o0 :: os)[k]? = some o ∧ o.dst = some t ∧ j = i + k) ↔ ((o0.dst = some t ∧ j = i) ∨ ∃ k o, os[k]? = some o ∧ o.dst = some t ∧ j = i + 1 + k) := by
    constructor
    ·rintro ⟨k, o, h1, h2, h3⟩
     cases k with
     | zero => simp at h1; subst h1; exact .inl ⟨h2, by omega⟩
     | succ k => exact .inr ⟨k, o, by simpa using h1, h2, by omega⟩
    ·rintro (⟨h1, h2⟩ | ⟨k, o, h1, h2, h3⟩)
     ·exact ⟨0, o0, rfl, h1, by omega⟩
     ·exact ⟨k + 1, o, by simpa using h1, h2, by omega⟩
   rw [tail]
   simp only [writers] at h
   split at h
   ·rename_i hd
    rw [e] at h
    rw [writers_spec os (i + 1) acc wr h t j, hd]
    simp
   ·rename_i d hd
    split at h
    ·cases h
    ·rename_i hacc
     rw [e] at h
     rw [writers_spec os (i + 1) _ wr h t j, Tr.get_set, hd]
     by_cases ht : t = d
     ·subst ht
      rw [if_pos rfl, hacc]
      simp [eq_comm]
     ·have ht' : ¬ d = t := fun e => ht e.symm
      simp [ht, ht']
section
variable {P : Program} {E : Env} {rec : Job → St → Option (Out × St)} {ops : Array Oper} {mk wr : Tr Nat}
def chainOk (mk : Tr Nat) (effs : List (Nat × Tr AObj)) (i : Nat) : Bool := match effs with
 | [] => true
 | (j, _) :: _ => Nat.testBit (mask mk i) j
theorem cond_some {α : Type} {b : Bool} {x : Option α} {y : α} (h : cond b x none = some y) : b = true ∧ x = some y := by cases b <;> simp_all
def isAlloc (E : Env) (o : Oper) : Prop := acls E o.op = .alloc
def isEff (E : Env) (o : Oper) : Prop := acls E o.op = .eff
def DStep (E : Env) (rec : Job → St → Option (Out × St)) (ops : Array Oper) (mk : Tr Nat) (o : Oper) (i : Nat) (s : DS) (v : AV) (ob : AObj) (s' : DS) : Prop :=
 s.fr.put o.dst v = some s'.fr ∧ s'.al = (match acls E o.op with | .alloc => s.al + 1 | _ => s.al) ∧
 ((awanted s.fr ops o = some false ∧ v = .undef ∧ s'.σ = s.σ ∧ s'.effs = s.effs ∧ s'.reads = s.reads) ∨
  (awanted s.fr ops o = some true ∧ acls E o.op = .read ∧ aread E s.fr.eval s.σ.get o.op = some v ∧ s'.σ = s.σ ∧ s'.effs = s.effs ∧ s'.reads = cond (looks o.op) ((i, o.op, v, s.fr) :: s.reads) s.reads) ∨
  (awanted s.fr ops o = some true ∧ acls E o.op = .alloc ∧ (∃ f, aalloc E s.fr.eval o.op = some (ob, f) ∧ v = f s.al) ∧ s'.σ = s.σ.put s.al ob ∧ s'.effs = s.effs ∧ s'.reads = s.reads) ∨
  (awanted s.fr ops o = some true ∧ acls E o.op = .eff ∧ chainOk mk s.effs i = true ∧ aoper E rec s.fr.eval s.σ o.op = some (v, s'.σ) ∧
    s'.effs = (i, s.σ.heap) :: s.effs ∧ s'.reads = s.reads))
theorem dloop_step {o : Oper} {os : List Oper} {i : Nat} {s s2 : DS} (h : dloop E rec ops mk (o :: os) i s = some s2) : ∃ v ob s1, DStep E rec ops mk o i s v ob s1 ∧ dloop E rec ops mk os (i + 1) s1 = some s2 := by
 have e : Nat.succ i = i + 1 := rfl
 simp only [dloop, e] at h
 split at h
 ·cases h
 ·rename_i hw
  split at h
  ·rename_i fr hp
   exact ⟨.undef, .defd, { s with fr := fr, al := match acls E o.op with | .alloc => Nat.succ s.al | _ => s.al }, ⟨hp, rfl, .inl ⟨hw, rfl, rfl, rfl, rfl⟩⟩, h⟩
  ·cases h
 ·rename_i hw
  split at h
  ·rename_i hc
   split at h
   ·cases h
   ·rename_i v hv
    split at h
    ·cases h
    ·rename_i fr hp
     exact ⟨v, .defd, { s with fr := fr, reads := cond (looks o.op) ((i, o.op, v, s.fr) :: s.reads) s.reads }, ⟨hp, by rw [hc], .inr (.inl ⟨hw, hc, hv, rfl, rfl, rfl⟩)⟩, h⟩
  ·rename_i hc
   split at h
   ·cases h
   ·rename_i ob f hv
    split at h
    ·cases h
    ·rename_i fr hp
     exact ⟨f s.al, ob, { s with fr := fr, σ := s.σ.put s.al ob, al := Nat.succ s.al }, ⟨hp, by rw [hc], .inr (.inr (.inl ⟨hw, hc, ⟨f, hv, rfl⟩, rfl, rfl, rfl⟩))⟩, h⟩
  ·rename_i hc
   obtain ⟨hch, h⟩ := cond_some h
   have hch : chainOk mk s.effs i = true := hch
   split at h
   ·cases h
   ·rename_i v σ' hv
    split at h
    ·cases h
    ·rename_i fr hp
     exact ⟨v, .defd, { s with fr := fr, σ := σ', effs := (i, s.σ.heap) :: s.effs }, ⟨hp, by rw [hc], .inr (.inr (.inr ⟨hw, hc, hch, hv, rfl, rfl⟩))⟩, h⟩
theorem dloop_trace : ∀ (os : List Oper) (i : Nat) (s s2 : DS), dloop E rec ops mk os i s = some s2 → ∃ (st : Nat → DS) (vs : Nat → AV) (obs : Nat → AObj), st i = s ∧ st (i + os.length) = s2 ∧
  ∀ j o, os[j]? = some o → DStep E rec ops mk o (i + j) (st (i + j)) (vs (i + j)) (obs (i + j)) (st (i + j + 1))
 | [], i, s, s2, h => by
   simp only [dloop, Option.some.injEq] at h; subst h
   exact ⟨fun _ => s, fun _ => .undef, fun _ => .defd, rfl, rfl, fun j o hj => by simp at hj⟩
 | o :: os, i, s, s2, h => by
   obtain ⟨v, ob, s1, h1, h2⟩ := dloop_step h
   obtain ⟨st, vs, obs, a1, a2, a3⟩ := dloop_trace os (i + 1) s1 s2 h2
   refine ⟨fun k => if k = i then s else st k, fun k => if k = i then v else vs k, fun k => if k = i then ob else obs k, by simp, ?_, ?_⟩
   ·simp only [List.length_cons]
    rw [if_neg (by omega), show i + (os.length + 1) = i + 1 + os.length by omega]
    exact a2
   ·intro j o' hj
    cases j with
    | zero =>
      simp at hj; subst hj
      simp only [Nat.add_zero, if_true]
      rw [if_neg (by omega), a1]
      exact h1
    | succ j =>
      have := a3 j o' (by simpa using hj)
      simp only [show i + (j + 1) ≠ i by omega, show i + (j + 1) + 1 ≠ i by omega, if_false]
      rw [show i + 1 + j = i + (j + 1) by omega] at this
      exact this
theorem nallocs_al {st : Nat → DS} {vs : Nat → AV} {obs : Nat → AObj} : ∀ (os : List Oper) (i : Nat), (∀ j o, os[j]? = some o → DStep E rec ops mk o (i + j) (st (i + j)) (vs (i + j)) (obs (i + j)) (st (i + j + 1))) →
  (st (i + os.length)).al = (st i).al + nallocs E os
 | [], i, _ => by simp [nallocs]
 | o :: os, i, h => by
   have h0 := (h 0 o rfl).2.1
   have := nallocs_al os (i + 1) (fun j o' hj => by
    have := h (j + 1) o' (by simpa using hj)
    rw [show i + 1 + j = i + (j + 1) by omega]; exact this)
   simp only [List.length_cons]
   rw [show i + (os.length + 1) = i + 1 + os.length by omega, this]
   simp only [Nat.add_zero] at h0
   rw [h0]
   simp only [nallocs]
   cases acls E o.op <;> simp [Nat.succ_eq_add_one] <;> omega
end
end Go.Proofs.Ytmjmhpbncfjnpaa.Bm
