/- The abstract machine: small words for contracts; loops that look through rows. -/
import Derived.Test.YtmjmhpbncfjnpaaBmVh
set_option linter.unusedSimpArgs false
set_option linter.unusedVariables false
namespace Go.Proofs.Ytmjmhpbncfjnpaa.Bm
theorem ble_self (n : Nat) : Nat.ble n n = true := Nat.ble_eq_true_of_le (Nat.le_refl n)
def chkT {α : Type} : List Bool → T α → T α
 | [], t => t
 | b :: l, t => .ask b (chkT l t) .fail
theorem chkT_run {α : Type} : ∀ {l : List Bool} {t : T α} {r : α}, (chkT l t).run = some r → (∀ (i : Nat) b, l[i]? = some b → b = true) ∧ t.run = some r
 | [], t, r, h => ⟨fun i b hi => by simp at hi, h⟩
 | b :: l, t, r, h => by
   simp only [chkT, T.run] at h
   cases b with
   | false => cases h
   | true =>
     obtain ⟨h1, h2⟩ := chkT_run (l := l) h
     refine ⟨fun i b hi => ?_, h2⟩
     cases i with
     | zero => simp at hi; exact hi
     | succ i => exact h1 i b (by simpa using hi)
def okFrom (q : Nat → Bool) : Nat → Nat → Bool
 | _, 0 => true
 | i, k + 1 => q i && okFrom q (i + 1) k
theorem okFrom_iff {q : Nat → Bool} : ∀ {k i : Nat}, okFrom q i k = true ↔ ∀ j, j < k → q (i + j) = true
 | 0, i => by simp [okFrom]
 | k + 1, i => by
   simp only [okFrom, Bool.and_eq_true, okFrom_iff (k := k)]
   constructor
   ·intro ⟨h1, h2⟩ j hj
    cases j with
    | zero => exact h1
    | succ j => have := h2 j (by omega); rw [show i + 1 + j = i + (j + 1) by omega] at this; exact this
   ·intro h
    refine ⟨h 0 (by omega), fun j hj => ?_⟩
    have := h (j + 1) (by omega)
    rw [show i + 1 + j = i + (j + 1) by omega]; exact this
theorem okFrom_congr {p q : Nat → Bool} : ∀ {k i : Nat}, (∀ j, i ≤ j → j < i + k → p j = q j) → okFrom p i k = okFrom q i k
 | 0, i, _ => rfl
 | k + 1, i, h => by
   simp only [okFrom]
   rw [h i (Nat.le_refl _) (by omega), okFrom_congr fun j h1 h2 => h j (by omega) (by omega)]
theorem iter_scan {step : CS → Option (Nat × CS)} {C : Nat → CS} {n : Nat} {q : Nat → Bool} {r1 r2 : Nat × CS} (h1 : r1.1 ≠ 0) (h2 : r2.1 ≠ 0)
  (hs : ∀ i, i < n → step (C i) = cond (q i) (some (0, C (i + 1))) (some r2)) (he : step (C n) = some r1) : ∃ it, iterC step it (C 0) = some (cond (okFrom q 0 n) r1 r2) := by
 have key : ∀ k i, i + k = n → ∃ it, iterC step it (C i) = some (cond (okFrom q i k) r1 r2) := by
  intro k
  induction k with
  | zero =>
    intro i hi
    have : i = n := by omega
    subst this
    refine ⟨1, ?_⟩
    simp only [iterC, he, okFrom, cond_true]
    obtain ⟨k, c⟩ := r1
    cases k with
    | zero => exact absurd rfl h1
    | succ k => rfl
  | succ k ih =>
    intro i hi
    obtain ⟨it, hit⟩ := ih (i + 1) (by omega)
    have hst := hs i (by omega)
    cases hq : q i with
    | true =>
      rw [hq] at hst
      refine ⟨it + 1, ?_⟩
      simp only [iterC, hst, cond_true, okFrom, hq, Bool.true_and]
      exact hit
    | false =>
      rw [hq] at hst
      refine ⟨1, ?_⟩
      simp only [iterC, hst, cond_false, okFrom, hq, Bool.false_and]
      obtain ⟨k, c⟩ := r2
      cases k with
      | zero => exact absurd rfl h2
      | succ k => rfl
 exact key n 0 (by omega)
theorem iter_for {step : CS → Option (Nat × CS)} {C : Nat → CS} {n : Nat} {r : Nat × CS} (h1 : r.1 ≠ 0) (hs : ∀ i, i < n → step (C i) = some (0, C (i + 1))) (he : step (C n) = some r) : ∃ it, iterC step it (C 0) = some r := by
 obtain ⟨it, h⟩ := iter_scan (q := fun _ => true) (r2 := r) h1 h1 (fun i hi => by rw [hs i hi]; rfl) he
 refine ⟨it, ?_⟩
 rw [h]
 cases okFrom (fun _ => true) 0 n <;> rfl
theorem iter_inv {X : Type} {step : CS → Option (Nat × CS)} {C : X → CS} (Inv : X → Prop) (μ : X → Nat) (res : X → Nat × CS)
  (hs : ∀ x, Inv x → (∃ x', step (C x) = some (0, C x') ∧ Inv x' ∧ μ x' < μ x ∧ res x' = res x) ∨ (step (C x) = some (res x) ∧ (res x).1 ≠ 0)) : ∀ x, Inv x → ∃ it, iterC step it (C x) = some (res x) := by
 have key : ∀ k x, μ x ≤ k → Inv x → ∃ it, iterC step it (C x) = some (res x) := by
  intro k
  induction k with
  | zero =>
    intro x hk hi
    rcases hs x hi with ⟨x', _, _, h, _⟩ | ⟨h, h0⟩
    ·omega
    ·refine ⟨1, ?_⟩
     simp only [iterC, h]
     generalize res x = r at h0
     obtain ⟨k, c⟩ := r
     cases k with
     | zero => exact absurd rfl h0
     | succ k => rfl
  | succ k ih =>
    intro x hk hi
    rcases hs x hi with ⟨x', h1, h2, h3, h4⟩ | ⟨h, h0⟩
    ·obtain ⟨it, hit⟩ := ih x' (by omega) h2
     refine ⟨it + 1, ?_⟩
     simp only [iterC, h1]
     rw [hit, h4]
    ·refine ⟨1, ?_⟩
     simp only [iterC, h]
     generalize res x = r at h0
     obtain ⟨k, c⟩ := r
     cases k with
     | zero => exact absurd rfl h0
     | succ k => rfl
 exact fun x hi => key _ x (Nat.le_refl _) hi
def roO : Option AObj → Option (Option AObj)
 | some (.cells vs _) => some (some (.cells vs false))
 | some (.tarr sh n f _) => some (some (.tarr sh n f false))
 | some (.omap ks vs ka va z has f _) => some (some (.omap ks vs ka va z has f false))
 | none => some none
 | _ => none
def roL : List (Option AObj) → Option (List (Option AObj))
 | [] => some []
 | o :: os => match roO o, roL os with
   | some o', some os' => some (o' :: os')
   | _, _ => none
mutual
def noRef : AV → Bool
 | .bool _ => true
 | .int _ _ => true
 | .str _ => true
 | .nilPtr => true
 | .nilSlice => true
 | .nilMap => true
 | .nilFunc => true
 | .nilIface => true
 | .iface _ x => noRef x
 | .agg vs => noRefs vs
 | .tuple vs => noRefs vs
 | _ => false
def noRefs : List AV → Bool
 | [] => true
 | x :: xs => noRef x && noRefs xs
end
section
open Go.RowKit
variable {Pr : Program} {E : Env} {φ φ' : Phi} {w0 w w' : World} {σ σ' : St}
mutual
theorem noRef_ok : ∀ (x : AV) (v : Value), noRef x = true → VR φ x v → VR φ' x v
 | .bool _, v, _, hv => by simpa only [VR] using hv
 | .int _ _, v, _, hv => by simpa only [VR] using hv
 | .str _, v, _, hv => by simpa only [VR] using hv
 | .nilPtr, v, _, hv => by simpa only [VR] using hv
 | .nilSlice, v, _, hv => by simpa only [VR] using hv
 | .nilMap, v, _, hv => by simpa only [VR] using hv
 | .nilFunc, v, _, hv => by simpa only [VR] using hv
 | .nilIface, v, _, hv => by simpa only [VR] using hv
 | .iface _ x, v, h, hv => by
   simp only [noRef] at h
   simp only [VR] at hv ⊢
   obtain ⟨y, h1, h2⟩ := hv
   exact ⟨y, h1, noRef_ok x y h h2⟩
 | .agg vs, v, h, hv => by
   simp only [noRef] at h
   simp only [VR] at hv ⊢
   obtain ⟨y, h1, h2⟩ := hv
   exact ⟨y, h1, noRefs_ok vs y h h2⟩
 | .tuple vs, v, h, hv => by
   simp only [noRef] at h
   simp only [VR] at hv ⊢
   obtain ⟨y, h1, h2⟩ := hv
   exact ⟨y, h1, noRefs_ok vs y h h2⟩
 | .ptr _ _, v, h, hv => by simp [noRef] at h
 | .slice _ _ _ _ _ _, v, h, hv => by simp [noRef] at h
 | .tptr _ _ _ _, v, h, hv => by simp [noRef] at h
 | .tsl _ _ _ _ _ _, v, h, hv => by simp [noRef] at h
 | .osl _ _ _ _ _ _ _, v, h, hv => by simp [noRef] at h
 | .map _, v, h, hv => by simp [noRef] at h
 | .func _ _ _, v, h, hv => by simp [noRef] at h
 | .yld _, v, h, hv => by simp [noRef] at h
 | .bad, v, h, hv => by simp [noRef] at h
theorem noRefs_ok : ∀ (xs : List AV) (l : List Value), noRefs xs = true → VRL φ xs l → VRL φ' xs l
 | [], l, _, hv => by simpa only [VRL] using hv
 | x :: xs, l, h, hv => by
   simp only [noRefs, Bool.and_eq_true] at h
   simp only [VRL] at hv ⊢
   obtain ⟨y, ys, h1, h2, h3⟩ := hv
   exact ⟨y, ys, h1, noRef_ok x y h.1 h2, noRefs_ok xs ys h.2 h3⟩
end
theorem roO_ok {o o' : Option AObj} (h : roO o = some o') : (o' = none ∧ o = none) ∨ ∃ x x', o = some x ∧ o' = some x' ∧ x'.rw = false ∧ ∀ φ w l, ObjR φ w l x → ObjR φ w l x' := by
 unfold roO at h
 split at h
 ·simp only [Option.some.injEq] at h; subst h
  exact .inr ⟨_, _, rfl, rfl, rfl, fun φ w l hO => ⟨hO.1, hO.2.1, fun h => by cases h⟩⟩
 ·simp only [Option.some.injEq] at h; subst h
  exact .inr ⟨_, _, rfl, rfl, rfl, fun φ w l hO => ⟨hO.1, hO.2.1, fun h => by cases h⟩⟩
 ·simp only [Option.some.injEq] at h; subst h
  exact .inr ⟨_, _, rfl, rfl, rfl, fun φ w l hO => hO⟩
 ·simp only [Option.some.injEq] at h; subst h
  exact .inl ⟨rfl, rfl⟩
 ·cases h
theorem roL_ok : ∀ {os os' : List (Option AObj)}, roL os = some os' → os'.length = os.length ∧ ∀ (j : Nat) (x' : AObj), os'[j]? = some (some x') → ∃ x, os[j]? = some (some x) ∧ x'.rw = false ∧ ∀ φ w l, ObjR φ w l x → ObjR φ w l x'
 | [], os', h => by
   simp only [roL, Option.some.injEq] at h; subst h
   exact ⟨rfl, fun j x h => by simp at h⟩
 | o :: os, os', h => by
   simp only [roL] at h
   split at h
   ·rename_i o1 os1 h1 h2
    simp only [Option.some.injEq] at h; subst h
    obtain ⟨k1, k2⟩ := roL_ok h2
    refine ⟨by simp [k1], fun j x' hj => ?_⟩
    cases j with
    | zero =>
      simp at hj; subst hj
      rcases roO_ok h1 with ⟨e, _⟩ | ⟨x, y, rfl, e, e2, e3⟩
      ·cases e
      ·injection e with e; subst e
       exact ⟨x, rfl, e2, e3⟩
    | succ j => simpa using k2 j x' (by simpa using hj)
   ·cases h
def frRun (ps : List PV) (ops : List (List PV)) (R : CS → T CS) (args : List AV) (σ : St) : T (AV × St) :=
 match canonA ps ops [] args σ.get with
 | none => .fail
 | some (c, l) => match roL c.os with
   | none => .fail
   | some os => (R ⟨c.ts, os⟩).bind fun c' => match c'.ts with
     | [v] => cond (noRef v) (.ret (v, σ)) .fail
     | _ => .fail
theorem fr_ok {ps : List PV} {ops : List (List PV)} {f : Nat} {R : CS → T CS} {args : List AV} {v : AV} (hf : ∃ fn, Pr.funcs[f]? = some fn ∧ fn.body.isNone = false ∧ (fn.name == "runtime.NumGoroutine") = false)
  (hR : ∀ c c', (R c).run = some c' → CallC Pr f 0 c c') (h : (frRun ps ops R args σ).run = some (v, σ')) : CallOK Pr w0 f args σ v σ' := by
 refine ⟨hf, fun q φ w us hRel hus => ?_⟩
 unfold frRun at h
 cases hc : canonA ps ops [] args σ.get with
 | none => rw [hc] at h; cases h
 | some z =>
   obtain ⟨c, l⟩ := z
   rw [hc] at h
   simp only at h
   cases hro : roL c.os with
   | none => rw [hro] at h; cases h
   | some os =>
     rw [hro] at h
     simp only at h
     rw [T.run_bind] at h
     cases hr : (R ⟨c.ts, os⟩).run with
     | none => rw [hr] at h; cases h
     | some c' =>
       rw [hr] at h
       simp only at h
       split at h
       ·rename_i v' hts
        cases hn : noRef v' with
        | false => rw [hn] at h; cases h
        | true =>
          rw [hn] at h
          simp only [cond_true, T.run, Option.some.injEq, Prod.mk.injEq] at h
          obtain ⟨rfl, rfl⟩ := h
          obtain ⟨g1, g2, g3, g4, g5, g6⟩ := canonA_at hc (fun i j x y id hi => by simp at hi) hRel hus
          obtain ⟨k1, k2⟩ := roL_ok hro
          have pull : ∀ id o, (stC os).get id = some o → ∃ o0, (stC c.os).get id = some o0 ∧ o.rw = false ∧ ∀ φ w l, ObjR φ w l o0 → ObjR φ w l o := fun id o hg => by
           obtain ⟨x, e1, e2, e3⟩ := k2 id o (stC_some.1 hg)
           exact ⟨x, stC_some.2 e1, e2, e3⟩
          have hRw : Rel w (rnm l φ) (stC os).get (stC os).next w := by
           refine ⟨fun id o lo hg hl => ?_, fun id o lo hg hl => ?_, fun i j oi oj li lj hij hi hj hli hlj hrw => ?_, fun id hid => ?_, fun id hid => ?_, Below.refl _ _⟩
           ·obtain ⟨o0, e1, e2, e3⟩ := pull id o hg
            exact e3 _ _ _ (g4.objs id o0 lo e1 hl)
           ·obtain ⟨o0, e1, e2, e3⟩ := pull id o hg
            have := g4.lt e1 hl
            rw [e2]
            exact ⟨(fun h => by cases h), (fun h => by omega)⟩
           ·obtain ⟨o0, e1, e2, e3⟩ := pull i oi hi
            rw [e2] at hrw; cases hrw
           ·have hid : os.length ≤ id := hid
            exact g4.fresh id (by show c.os.length ≤ id; omega)
           ·have hid : os.length ≤ id := hid
            rw [stC_get, List.getElem?_eq_none hid]
          let K : KC := { p := 0, pin := fun _ => none, n0 := 0, h0 := fun _ => none, S := fun _ => True }
          have hK : Kept K (rnm l φ) (stC os).get w := ⟨Nat.zero_le _, fun c hc => absurd hc (Nat.not_lt_zero _), fun _ _ _ _ _ _ => .inl trivial, fun j hj => absurd hj (Nat.not_lt_zero _)⟩
          refine CallsIn.mono (hR _ _ hr K w w us _ q rfl (fun j hj => absurd hj (Nat.not_lt_zero _)) hRw g5 hK) fun e w' he => ?_
          obtain ⟨u, φ', rfl, z3, z4, z5⟩ := he
          rw [hts] at z4
          simp only [VRL] at z4
          obtain ⟨y, ys, e1, e2, rfl⟩ := z4
          injection e1 with e1; subst e1
          have hB := z3.below
          have hle := hB.size
          have blk : ∀ id o l, σ.get id = some o → φ id = some l → w'.heap[l.c]? = w.heap[l.c]? := fun id o l h1 h2 => hB.block _ (hRel.lt h1 h2)
          have hb0 := hRel.below
          exact ⟨u, φ, rfl, noRef_ok _ _ hn e2, ⟨fun id o l h1 h2 => (hRel.objs id o l h1 h2).keep (blk id o l h1 h2) (fun _ _ h => h), hRel.own, hRel.inj, hRel.fresh, hRel.gfresh,
           ⟨hB.os.trans hb0.os, hB.tape.trans hb0.tape, hB.output.trans hb0.output, Nat.le_trans hb0.size hle, fun k hk => (hB.block k (Nat.lt_of_lt_of_le hk hb0.size)).trans (hb0.block k hk)⟩⟩,
           ⟨fun _ _ h => h, fun _ _ h => h, fun _ _ _ => rfl, fun c hc _ => hB.block c hc, fun id o l h1 h2 h3 => .inr ⟨id, o, l, h1, h2, h3, rfl⟩, Nat.le_refl _, hle⟩⟩
       ·cases h
def hasFn (E : Env) (f : Nat) : Bool := match E.fn.get f with
 | some fn => match fn.body with
   | some _ => true
   | none => false
 | none => false
theorem hasFn_ok (h : Good Pr E) {f : Nat} (hf : hasFn E f = true) : ∃ fn, Pr.funcs[f]? = some fn ∧ fn.body.isNone = false ∧ (fn.name == "runtime.NumGoroutine") = false := by
 unfold hasFn at hf
 split at hf
 ·rename_i fn hfn
  obtain ⟨fn0, e1, e2, e3, e4, e5⟩ := h.env.fn f fn hfn
  split at hf
  ·rename_i c hc
   refine ⟨fn0, e1, ?_, e2⟩
   rw [e5, hc]; rfl
  ·cases hf
 ·cases hf
theorem Good.addR {E' : Env} (h : Good Pr E) (h' : Good Pr E') {f : Nat} {ps : List PV} {ops : List (List PV)} {R : CS → T CS} (hf : hasFn E f = true) (hR : ∀ c c', (R c).run = some c' → ∃ m pr ros π, callC E' m f 0 pr ros π c = some c') : Good Pr (Bm.addF E f ⟨frRun ps ops R⟩) :=
 h.addF fun w0 args σ v σ' hr => fr_ok (hasFn_ok h hf) (fun c c' hc => by
  obtain ⟨m, pr, ros, π, hx⟩ := hR c c' hc
  exact callC_ok h'.env h'.intr hx) hr
theorem Good.addI {E' : Env} (h : Good Pr E) (h' : Good Pr E') {f p : Nat} {ps : List PV} {ops : List (List PV)} {R : CS → T CS} (hf : hasFn E f = true) (hR : ∀ c c', (R c).run = some c' → ∃ m pr ros π c0 c1, Seen c c0 ∧ callC E' m f p pr ros π c0 = some c1 ∧ Seen c1 c') : Good Pr (Bm.addF E f ⟨fiRun ps ops p R⟩) :=
 h.addF fun w0 args σ v σ' hr => fi_ok (hasFn_ok h hf) (fun c c' hc => by
  obtain ⟨m, pr, ros, π, c0, c1, h0, hx, hs⟩ := hR c c' hc
  exact ((callC_ok h'.env h'.intr hx).seen hs).pre h0) hr
theorem Good.addC (h : Good Pr E) {f p : Nat} {ps : List PV} {ops : List (List PV)} {R : CS → T CS} (hf : hasFn E f = true) (hR : ∀ c c', (R c).run = some c' → CallC Pr f p c c') : Good Pr (Bm.addF E f ⟨fiRun ps ops p R⟩) :=
 h.addF fun w0 args σ v σ' hr => fi_ok (hasFn_ok h hf) hR hr
theorem Good.callC (h : Good Pr E) {m f p : Nat} {pr : PV} {ros : List (List PV)} {π : Plan} {c c0 c1 c' : CS} (h0 : Seen c c0) (hx : Bm.callC E m f p pr ros π c0 = some c1) (h1 : Seen c1 c') : CallC Pr f p c c' :=
 ((callC_ok h.env h.intr hx).seen h1).pre h0
end
end Go.Proofs.Ytmjmhpbncfjnpaa.Bm
