/- The abstract machine: from canonical states back to those from which they came; what stands in place of a loop. -/
import Derived.Test.YtmjmhpbncfjnpaaBmVc
set_option linter.unusedSimpArgs false
set_option linter.unusedVariables false
namespace Go.Proofs.Ytmjmhpbncfjnpaa.Bm
open Go.RowKit
mutual
def rn (t : Nat → Nat) : AV → AV
 | .ptr id o => .ptr (t id) o
 | .slice id o n c e h => .slice (t id) o n c e h
 | .tptr id i j e => .tptr (t id) i j e
 | .tsl id o n c e h => .tsl (t id) o n c e h
 | .osl nl id o n c e h => .osl nl (t id) o n c e h
 | .map id => .map (t id)
 | .yld id => .yld (t id)
 | .func f a b => .func f (rns t a) (rns t b)
 | .iface ty x => .iface ty (rn t x)
 | .agg a => .agg (rns t a)
 | .tuple a => .tuple (rns t a)
 | .bool b => .bool b
 | .int k n => .int k n
 | .str s => .str s
 | .nilPtr => .nilPtr
 | .nilSlice => .nilSlice
 | .nilMap => .nilMap
 | .nilFunc => .nilFunc
 | .nilIface => .nilIface
 | .bad => .bad
def rns (t : Nat → Nat) : List AV → List AV
 | [] => []
 | x :: xs => rn t x :: rns t xs
end
section
variable {φ φ' φ'' : Phi} {w0 w w' : World} {g g' : Heap} {n n' : Nat} {σ σ' : St} {fr fr' : Fr} {a a' : Act} {t : Nat → Nat}
mutual
theorem rn_ok (h : ∀ j l, φ j = some l → φ' (t j) = some l) : ∀ (x : AV) (v : Value), VR φ x v → VR φ' (rn t x) v
 | .ptr _ _, v, hv => by
   simp only [rn, VR] at hv ⊢
   obtain ⟨l, h1, h2⟩ := hv
   exact ⟨l, h _ _ h1, h2⟩
 | .slice _ _ _ _ _ _, v, hv => by
   simp only [rn, VR] at hv ⊢
   obtain ⟨l, ad, cc, h1, h2⟩ := hv
   exact ⟨l, ad, cc, h _ _ h1, h2⟩
 | .tptr _ _ _ _, v, hv => by
   simp only [rn, VR] at hv ⊢
   obtain ⟨l, h1, h2⟩ := hv
   exact ⟨l, h _ _ h1, h2⟩
 | .tsl _ _ _ _ _ _, v, hv => by
   simp only [rn, VR] at hv ⊢
   obtain ⟨l, ad, cc, h1, h2⟩ := hv
   exact ⟨l, ad, cc, h _ _ h1, h2⟩
 | .osl _ _ _ _ _ _ _, v, hv => by
   simp only [rn, VR] at hv ⊢
   rcases hv with hv | ⟨h0, l, ad, cc, h1, h2⟩
   ·exact .inl hv
   ·exact .inr ⟨h0, l, ad, cc, h _ _ h1, h2⟩
 | .map _, v, hv => by
   simp only [rn, VR] at hv ⊢
   obtain ⟨l, h1, h2⟩ := hv
   exact ⟨l, h _ _ h1, h2⟩
 | .yld _, v, hv => by
   simp only [rn, VR] at hv ⊢
   obtain ⟨l, h1, h2⟩ := hv
   exact ⟨l, h _ _ h1, h2⟩
 | .func _ a b, v, hv => by
   simp only [rn, VR] at hv ⊢
   obtain ⟨h0, x, y, h1, h2, h3⟩ := hv
   exact ⟨h0, x, y, h1, rns_ok h a x h2, rns_ok h b y h3⟩
 | .iface _ x, v, hv => by
   simp only [rn, VR] at hv ⊢
   obtain ⟨y, h1, h2⟩ := hv
   exact ⟨y, h1, rn_ok h x y h2⟩
 | .agg cs, v, hv => by
   simp only [rn, VR] at hv ⊢
   obtain ⟨l, h1, h2⟩ := hv
   exact ⟨l, h1, rns_ok h cs l h2⟩
 | .tuple cs, v, hv => by
   simp only [rn, VR] at hv ⊢
   obtain ⟨l, h1, h2⟩ := hv
   exact ⟨l, h1, rns_ok h cs l h2⟩
 | .bool _, v, hv => by simpa only [rn, VR] using hv
 | .int _ _, v, hv => by simpa only [rn, VR] using hv
 | .str _, v, hv => by simpa only [rn, VR] using hv
 | .nilPtr, v, hv => by simpa only [rn, VR] using hv
 | .nilSlice, v, hv => by simpa only [rn, VR] using hv
 | .nilMap, v, hv => by simpa only [rn, VR] using hv
 | .nilFunc, v, hv => by simpa only [rn, VR] using hv
 | .nilIface, v, hv => by simpa only [rn, VR] using hv
 | .bad, v, hv => by simp only [rn, VR]
theorem rns_ok (h : ∀ j l, φ j = some l → φ' (t j) = some l) : ∀ (xs : List AV) (l : List Value), VRL φ xs l → VRL φ' (rns t xs) l
 | [], l, hv => by simpa only [rns, VRL] using hv
 | x :: xs, l, hv => by
   simp only [rns, VRL] at hv ⊢
   obtain ⟨y, ys, h1, h2, h3⟩ := hv
   exact ⟨y, ys, h1, rn_ok h x y h2, rns_ok h xs ys h3⟩
end
theorem rns_length (t : Nat → Nat) : ∀ xs : List AV, (rns t xs).length = xs.length
 | [] => rfl
 | x :: xs => by simp [rns, rns_length t xs]
theorem rns_at (t : Nat → Nat) : ∀ (xs : List AV) (j : Nat), (rns t xs)[j]? = (xs[j]?).map (rn t)
 | [], j => by simp [rns]
 | x :: xs, 0 => by simp [rns]
 | x :: xs, j + 1 => by simpa [rns] using rns_at t xs j
def rnEs (t : Nat → Nat) : List (AV × AV × Nat) → List (AV × AV × Nat)
 | [] => []
 | (k, v, b) :: es => (rn t k, rn t v, b) :: rnEs t es
theorem rnEs_length (t : Nat → Nat) : ∀ xs, (rnEs t xs).length = xs.length
 | [] => rfl
 | (k, v, b) :: es => by simp [rnEs, rnEs_length t es]
theorem rnEs_at (t : Nat → Nat) : ∀ (es : List (AV × AV × Nat)) (j : Nat), (rnEs t es)[j]? = (es[j]?).map fun e => (rn t e.1, rn t e.2.1, e.2.2)
 | [], j => by simp [rnEs]
 | (k, v, b) :: es, 0 => by simp [rnEs]
 | (k, v, b) :: es, j + 1 => by simpa [rnEs] using rnEs_at t es j
def rnO (t : Nat → Nat) : AObj → Option AObj
 | .cells vs rw => some (.cells (rns t vs) rw)
 | .tarr sh n f rw => some (.tarr sh n f rw)
 | .map es c => some (.map (rnEs t es) c)
 | .omap ks vs ka va z has f rw => some (.omap ks vs ka va z has f rw)
 | _ => none
theorem rnO_ok (h : ∀ j l, φ j = some l → φ' (t j) = some l) {w : World} {lo : Loc} {o o' : AObj} (hr : rnO t o = some o') : o'.rw = o.rw ∧ (ObjR φ w lo o → ObjR φ' w lo o') := by
 cases o with
 | cells vs rw_ =>
   simp only [rnO, Option.some.injEq] at hr; subst hr
   refine ⟨rfl, fun hO => ?_⟩
   obtain ⟨c1, c2, c3⟩ := hO
   refine ⟨fun j x hj => ?_, by rw [rns_length]; exact c2, c3⟩
   rw [rns_at, Option.map_eq_some_iff] at hj
   obtain ⟨y, h1, rfl⟩ := hj
   obtain ⟨v, d1, d2⟩ := c1 j y h1
   exact ⟨v, d1, rn_ok h y v d2⟩
 | tarr sh n f rw_ =>
   simp only [rnO, Option.some.injEq] at hr; subst hr
   exact ⟨rfl, fun hO => cells_tarr hO⟩
 | omap ks vs ka va z has f rw_ =>
   simp only [rnO, Option.some.injEq] at hr; subst hr
   exact ⟨rfl, fun hO => omap_any hO⟩
 | map es c =>
   simp only [rnO, Option.some.injEq] at hr; subst hr
   refine ⟨rfl, fun hO => ?_⟩
   obtain ⟨ms, m1, m2, m3⟩ := hO
   refine ⟨ms, m1, by rw [rnEs_length]; exact m2, fun j e' he => ?_⟩
   rw [rnEs_at, Option.map_eq_some_iff] at he
   obtain ⟨e, h1, rfl⟩ := he
   obtain ⟨m, d1, d2, d3, d4⟩ := m3 j e h1
   exact ⟨m, d1, rn_ok h _ _ d2, rn_ok h _ _ d3, d4⟩
 | _ => simp [rnO] at hr
mutual
def rsv (q : Nat → Bool) : AV → T AV
 | .osl nl id o n c e h => cond (q id) (.ask nl (.ret .nilSlice) (.ret (.tsl id o n c e h))) (.ret (.osl nl id o n c e h))
 | .agg vs => (rsvs q vs).bind fun l => .ret (.agg l)
 | .tuple vs => (rsvs q vs).bind fun l => .ret (.tuple l)
 | v => .ret v
def rsvs (q : Nat → Bool) : List AV → T (List AV)
 | [] => .ret []
 | v :: vs => (rsv q v).bind fun x => (rsvs q vs).bind fun xs => .ret (x :: xs)
end
mutual
theorem rsv_ok {q : Nat → Bool} : ∀ (x x' : AV), (rsv q x).run = some x' → ∀ φ v, VR φ x v → VR φ x' v
 | .osl nl id o n c e hh, x', h, φ, v, hv => by
   cases hq : q id with
   | false =>
     simp only [rsv, hq, cond_false, T.run, Option.some.injEq] at h; subst h
     exact hv
   | true =>
   simp only [rsv, hq, cond_true, T.run] at h
   rcases VR_osl hv with ⟨rfl, h1, _⟩ | ⟨rfl, h1⟩
   ·simp only [cond_true, Option.some.injEq] at h; subst h
    simp only [VR]; exact h1
   ·simp only [cond_false, Option.some.injEq] at h; subst h
    exact h1
 | .agg vs, x', h, φ, v, hv => by
   simp only [rsv, T.run_bind] at h
   cases hr : (rsvs q vs).run with
   | none => rw [hr] at h; cases h
   | some l =>
     rw [hr] at h
     simp only [T.run, Option.some.injEq] at h; subst h
     simp only [VR] at hv ⊢
     obtain ⟨us, h1, h2⟩ := hv
     exact ⟨us, h1, rsvs_ok vs l hr φ us h2⟩
 | .tuple vs, x', h, φ, v, hv => by
   simp only [rsv, T.run_bind] at h
   cases hr : (rsvs q vs).run with
   | none => rw [hr] at h; cases h
   | some l =>
     rw [hr] at h
     simp only [T.run, Option.some.injEq] at h; subst h
     simp only [VR] at hv ⊢
     obtain ⟨us, h1, h2⟩ := hv
     exact ⟨us, h1, rsvs_ok vs l hr φ us h2⟩
 | .bool _, x', h, φ, v, hv => by simp only [rsv, T.run, Option.some.injEq] at h; subst h; exact hv
 | .int _ _, x', h, φ, v, hv => by simp only [rsv, T.run, Option.some.injEq] at h; subst h; exact hv
 | .str _, x', h, φ, v, hv => by simp only [rsv, T.run, Option.some.injEq] at h; subst h; exact hv
 | .ptr _ _, x', h, φ, v, hv => by simp only [rsv, T.run, Option.some.injEq] at h; subst h; exact hv
 | .nilPtr, x', h, φ, v, hv => by simp only [rsv, T.run, Option.some.injEq] at h; subst h; exact hv
 | .slice _ _ _ _ _ _, x', h, φ, v, hv => by simp only [rsv, T.run, Option.some.injEq] at h; subst h; exact hv
 | .tptr _ _ _ _, x', h, φ, v, hv => by simp only [rsv, T.run, Option.some.injEq] at h; subst h; exact hv
 | .tsl _ _ _ _ _ _, x', h, φ, v, hv => by simp only [rsv, T.run, Option.some.injEq] at h; subst h; exact hv
 | .nilSlice, x', h, φ, v, hv => by simp only [rsv, T.run, Option.some.injEq] at h; subst h; exact hv
 | .map _, x', h, φ, v, hv => by simp only [rsv, T.run, Option.some.injEq] at h; subst h; exact hv
 | .nilMap, x', h, φ, v, hv => by simp only [rsv, T.run, Option.some.injEq] at h; subst h; exact hv
 | .func _ _ _, x', h, φ, v, hv => by simp only [rsv, T.run, Option.some.injEq] at h; subst h; exact hv
 | .yld _, x', h, φ, v, hv => by simp only [rsv, T.run, Option.some.injEq] at h; subst h; exact hv
 | .nilFunc, x', h, φ, v, hv => by simp only [rsv, T.run, Option.some.injEq] at h; subst h; exact hv
 | .iface _ _, x', h, φ, v, hv => by simp only [rsv, T.run, Option.some.injEq] at h; subst h; exact hv
 | .nilIface, x', h, φ, v, hv => by simp only [rsv, T.run, Option.some.injEq] at h; subst h; exact hv
 | .bad, x', h, φ, v, hv => by simp only [rsv, T.run, Option.some.injEq] at h; subst h; exact hv
theorem rsvs_ok {q : Nat → Bool} : ∀ (xs xs' : List AV), (rsvs q xs).run = some xs' → ∀ φ us, VRL φ xs us → VRL φ xs' us
 | [], xs', h, φ, us, hv => by simp only [rsvs, T.run, Option.some.injEq] at h; subst h; exact hv
 | x :: xs, xs', h, φ, us, hv => by
   simp only [rsvs, T.run_bind] at h
   cases h1 : (rsv q x).run with
   | none => rw [h1] at h; cases h
   | some y =>
     rw [h1] at h
     simp only at h
     cases h2 : (rsvs q xs).run with
     | none => rw [h2] at h; cases h
     | some ys =>
       rw [h2] at h
       simp only [T.run, Option.some.injEq] at h; subst h
       simp only [VRL] at hv ⊢
       obtain ⟨u, us', e1, e2, e3⟩ := hv
       exact ⟨u, us', e1, rsv_ok x y h1 φ u e2, rsvs_ok xs ys h2 φ us' e3⟩
end
theorem rsvs_length {q : Nat → Bool} : ∀ (xs xs' : List AV), (rsvs q xs).run = some xs' → xs'.length = xs.length
 | [], xs', h => by simp only [rsvs, T.run, Option.some.injEq] at h; subst h; rfl
 | x :: xs, xs', h => by
   simp only [rsvs, T.run_bind] at h
   cases h1 : (rsv q x).run with
   | none => rw [h1] at h; cases h
   | some y =>
     rw [h1] at h
     simp only at h
     cases h2 : (rsvs q xs).run with
     | none => rw [h2] at h; cases h
     | some ys =>
       rw [h2] at h
       simp only [T.run, Option.some.injEq] at h; subst h
       simp [rsvs_length xs ys h2]
theorem rsvs_at {q : Nat → Bool} : ∀ (xs xs' : List AV), (rsvs q xs).run = some xs' → ∀ (j : Nat) (x' : AV), xs'[j]? = some x' → ∃ x, xs[j]? = some x ∧ (rsv q x).run = some x'
 | [], xs', h, j, x', hj => by simp only [rsvs, T.run, Option.some.injEq] at h; subst h; simp at hj
 | x :: xs, xs', h, j, x', hj => by
   simp only [rsvs, T.run_bind] at h
   cases h1 : (rsv q x).run with
   | none => rw [h1] at h; cases h
   | some y =>
     rw [h1] at h
     simp only at h
     cases h2 : (rsvs q xs).run with
     | none => rw [h2] at h; cases h
     | some ys =>
       rw [h2] at h
       simp only [T.run, Option.some.injEq] at h; subst h
       cases j with
       | zero => simp at hj; subst hj; exact ⟨x, rfl, h1⟩
       | succ j => simpa using rsvs_at xs ys h2 j x' (by simpa using hj)
def rsvO (q : Nat → Bool) : Option AObj → T (Option AObj)
 | some (.cells vs rw) => (rsvs q vs).bind fun l => .ret (some (.cells l rw))
 | o => .ret o
def rsvOs (q : Nat → Bool) : List (Option AObj) → T (List (Option AObj))
 | [] => .ret []
 | o :: os => (rsvO q o).bind fun x => (rsvOs q os).bind fun xs => .ret (x :: xs)
theorem rsvO_ok {q : Nat → Bool} {o o' : Option AObj} (h : (rsvO q o).run = some o') : (∀ x', o' = some x' → ∃ x, o = some x ∧ x'.rw = x.rw ∧ ∀ φ w lo, ObjR φ w lo x → ObjR φ w lo x') := by
 intro x' hx'
 subst hx'
 have other : (∀ vs rw, o ≠ some (.cells vs rw)) → (rsvO q o).run = some o := fun hn => by
  unfold rsvO
  split
  ·exact absurd rfl (hn _ _)
  ·rfl
 by_cases hc : ∃ vs rw, o = some (.cells vs rw)
 ·obtain ⟨vs, rw_, rfl⟩ := hc
  simp only [rsvO, T.run_bind] at h
  cases h1 : (rsvs q vs).run with
  | none => rw [h1] at h; cases h
  | some l =>
    rw [h1] at h
    simp only [T.run, Option.some.injEq] at h; subst h
    refine ⟨_, rfl, rfl, fun φ w lo hO => ?_⟩
    obtain ⟨c1, c2, c3⟩ := hO
    refine ⟨fun j y hj => ?_, by rw [rsvs_length _ _ h1]; exact c2, c3⟩
    obtain ⟨x, e1, e2⟩ := rsvs_at _ _ h1 j y hj
    obtain ⟨v, d1, d2⟩ := c1 j x e1
    exact ⟨v, d1, rsv_ok x y e2 φ v d2⟩
 ·rw [other (fun vs rw h => hc ⟨vs, rw, h⟩)] at h
  simp only [Option.some.injEq] at h; subst h
  exact ⟨_, rfl, rfl, fun _ _ _ h => h⟩
theorem rsvOs_ok {q : Nat → Bool} : ∀ {os os' : List (Option AObj)}, (rsvOs q os).run = some os' → os'.length = os.length ∧ ∀ (j : Nat) (x' : AObj), os'[j]? = some (some x') → ∃ x, os[j]? = some (some x) ∧ x'.rw = x.rw ∧ ∀ φ w lo, ObjR φ w lo x → ObjR φ w lo x'
 | [], os', h => by simp only [rsvOs, T.run, Option.some.injEq] at h; subst h; exact ⟨rfl, fun j x h => by simp at h⟩
 | o :: os, os', h => by
   simp only [rsvOs, T.run_bind] at h
   cases h1 : (rsvO q o).run with
   | none => rw [h1] at h; cases h
   | some y =>
     rw [h1] at h
     simp only at h
     cases h2 : (rsvOs q os).run with
     | none => rw [h2] at h; cases h
     | some ys =>
       rw [h2] at h
       simp only [T.run, Option.some.injEq] at h; subst h
       obtain ⟨k1, k2⟩ := rsvOs_ok h2
       refine ⟨by simp [k1], fun j x' hj => ?_⟩
       cases j with
       | zero =>
         simp at hj
         obtain ⟨x, e1, e2, e3⟩ := rsvO_ok h1 x' hj
         exact ⟨x, by simp [e1], e2, e3⟩
       | succ j => simpa using k2 j x' (by simpa using hj)
def rwAt (os : List (Option AObj)) (k : Nat) : Bool := match os[k]? with
 | some (some o) => o.rw
 | _ => true
def rsvC (c : CS) : T CS := (rsvs (rwAt c.os) c.ts).bind fun ts => (rsvOs (rwAt c.os) c.os).bind fun os => .ret ⟨ts, os⟩
theorem rsvC_rel {q : Nat → Bool} {os os' : List (Option AObj)} (h : (rsvOs q os).run = some os') {K : KC} (hR : Rel w0 φ (stC os).get (stC os).next w) (hK : Kept K φ (stC os).get w) : Rel w0 φ (stC os').get (stC os').next w ∧ Kept K φ (stC os').get w := by
 obtain ⟨k1, k2⟩ := rsvOs_ok h
 have pull : ∀ id o', (stC os').get id = some o' → ∃ o, (stC os).get id = some o ∧ o'.rw = o.rw ∧ ∀ φ w lo, ObjR φ w lo o → ObjR φ w lo o' := fun id o' hg => by
  obtain ⟨o, e1, e2, e3⟩ := k2 id o' (stC_some.1 hg)
  exact ⟨o, stC_some.2 e1, e2, e3⟩
 refine ⟨⟨?_, ?_, ?_, ?_, ?_, hR.below⟩, ⟨hK.size, hK.frame, ?_, hK.pins⟩⟩
 ·intro id o lo hg hl
  obtain ⟨o0, e1, e2, e3⟩ := pull id o hg
  exact e3 _ _ _ (hR.objs id o0 lo e1 hl)
 ·intro id o lo hg hl
  obtain ⟨o0, e1, e2, e3⟩ := pull id o hg
  rw [e2]; exact hR.own id o0 lo e1 hl
 ·intro i j oi oj li lj hij hi hj hli hlj hrw
  obtain ⟨o1, e1, e2, e3⟩ := pull i oi hi
  obtain ⟨o2, d1, d2, d3⟩ := pull j oj hj
  rw [e2] at hrw
  exact hR.inj i j o1 o2 li lj hij e1 d1 hli hlj hrw
 ·intro id hid
  have hid : os'.length ≤ id := hid
  exact hR.fresh id (by show os.length ≤ id; omega)
 ·intro id hid
  have hid : os'.length ≤ id := hid
  rw [stC_get, List.getElem?_eq_none hid]
 ·intro id o lo hg hl hrw
  obtain ⟨o0, e1, e2, e3⟩ := pull id o hg
  rw [e2] at hrw
  exact hK.own id o0 lo e1 hl hrw
mutual
def refs (j : Nat) : AV → Bool
 | .ptr k _ => Nat.beq k j
 | .slice k _ _ _ _ _ => Nat.beq k j
 | .tptr k _ _ _ => Nat.beq k j
 | .tsl k _ _ _ _ _ => Nat.beq k j
 | .osl nl k _ _ _ _ _ => Nat.beq k j && !nl
 | .map k => Nat.beq k j
 | .func _ a b => refsL j a || refsL j b
 | .iface _ x => refs j x
 | .agg vs => refsL j vs
 | .tuple vs => refsL j vs
 | _ => false
def refsL (j : Nat) : List AV → Bool
 | [] => false
 | x :: xs => refs j x || refsL j xs
end
mutual
theorem refs_ok {j : Nat} : ∀ (x : AV) (v : Value), refs j x = true → VR φ x v → φ j ≠ none
 | .ptr k _, v, h, hv => by
   have := Nat.eq_of_beq_eq_true (by simpa only [refs] using h); subst this
   simp only [VR] at hv
   obtain ⟨l, h1, _⟩ := hv
   rw [h1]; simp
 | .slice k _ _ _ _ _, v, h, hv => by
   have := Nat.eq_of_beq_eq_true (by simpa only [refs] using h); subst this
   simp only [VR] at hv
   obtain ⟨l, _, _, h1, _⟩ := hv
   rw [h1]; simp
 | .tptr k _ _ _, v, h, hv => by
   have := Nat.eq_of_beq_eq_true (by simpa only [refs] using h); subst this
   simp only [VR] at hv
   obtain ⟨l, h1, _⟩ := hv
   rw [h1]; simp
 | .tsl k _ _ _ _ _, v, h, hv => by
   have := Nat.eq_of_beq_eq_true (by simpa only [refs] using h); subst this
   simp only [VR] at hv
   obtain ⟨l, _, _, h1, _⟩ := hv
   rw [h1]; simp
 | .osl nl k _ _ _ _ _, v, h, hv => by
   simp only [refs, Bool.and_eq_true, Bool.not_eq_true'] at h
   have := Nat.eq_of_beq_eq_true h.1; subst this
   simp only [VR] at hv
   rcases hv with ⟨h1, _⟩ | ⟨_, l, _, _, h1, _⟩
   ·rw [h.2] at h1; cases h1
   ·rw [h1]; simp
 | .map k, v, h, hv => by
   have := Nat.eq_of_beq_eq_true (by simpa only [refs] using h); subst this
   simp only [VR] at hv
   obtain ⟨l, h1, _⟩ := hv
   rw [h1]; simp
 | .func _ a b, v, h, hv => by
   simp only [refs, Bool.or_eq_true] at h
   simp only [VR] at hv
   obtain ⟨_, x, y, _, h2, h3⟩ := hv
   rcases h with h | h
   ·exact refsL_ok a x h h2
   ·exact refsL_ok b y h h3
 | .iface _ x, v, h, hv => by
   simp only [refs] at h
   simp only [VR] at hv
   obtain ⟨y, _, h2⟩ := hv
   exact refs_ok x y h h2
 | .agg vs, v, h, hv => by
   simp only [refs] at h
   simp only [VR] at hv
   obtain ⟨y, _, h2⟩ := hv
   exact refsL_ok vs y h h2
 | .tuple vs, v, h, hv => by
   simp only [refs] at h
   simp only [VR] at hv
   obtain ⟨y, _, h2⟩ := hv
   exact refsL_ok vs y h h2
 | .bool _, v, h, hv => by simp [refs] at h
 | .int _ _, v, h, hv => by simp [refs] at h
 | .str _, v, h, hv => by simp [refs] at h
 | .nilPtr, v, h, hv => by simp [refs] at h
 | .nilSlice, v, h, hv => by simp [refs] at h
 | .nilMap, v, h, hv => by simp [refs] at h
 | .yld _, v, h, hv => by simp [refs] at h
 | .nilFunc, v, h, hv => by simp [refs] at h
 | .nilIface, v, h, hv => by simp [refs] at h
 | .bad, v, h, hv => by simp [refs] at h
theorem refsL_ok {j : Nat} : ∀ (xs : List AV) (l : List Value), refsL j xs = true → VRL φ xs l → φ j ≠ none
 | [], l, h, hv => by simp [refsL] at h
 | x :: xs, l, h, hv => by
   simp only [refsL, Bool.or_eq_true] at h
   simp only [VRL] at hv
   obtain ⟨y, ys, _, h2, h3⟩ := hv
   rcases h with h | h
   ·exact refs_ok x y h h2
   ·exact refsL_ok xs ys h h3
end
def refsEs (j : Nat) : List (AV × AV × Nat) → Bool
 | [] => false
 | (k, v, _) :: es => refs j k || refs j v || refsEs j es
def refsO (j : Nat) : Option AObj → Bool
 | some (.cells vs _) => refsL j vs
 | some (.map es _) => refsEs j es
 | _ => false
def refsOs (j : Nat) : List Bool → List (Option AObj) → Bool
 | b :: bs, o :: os => (refsO j o && b) || refsOs j bs os
 | _, _ => false
def solids (c : CS) : Nat → List Bool
 | 0 => []
 | j + 1 => solids c j ++ [refsL j c.ts || refsOs j (solids c j) c.os]
theorem solids_length (c : CS) : ∀ n, (solids c n).length = n
 | 0 => rfl
 | n + 1 => by simp [solids, solids_length c n]
theorem refsEs_ok {j : Nat} : ∀ {es : List (AV × AV × Nat)}, refsEs j es = true → ∃ (i : Nat) (e : AV × AV × Nat), es[i]? = some e ∧ (refs j e.1 = true ∨ refs j e.2.1 = true)
 | [], h => by simp [refsEs] at h
 | (k, v, b) :: es, h => by
   simp only [refsEs, Bool.or_eq_true] at h
   rcases h with (h | h) | h
   ·exact ⟨0, _, rfl, .inl h⟩
   ·exact ⟨0, _, rfl, .inr h⟩
   ·obtain ⟨i, e, h1, h2⟩ := refsEs_ok h
    exact ⟨i + 1, e, by simpa using h1, h2⟩
theorem refsL_at {j : Nat} : ∀ {xs : List AV}, refsL j xs = true → ∃ (i : Nat) (x : AV), xs[i]? = some x ∧ refs j x = true
 | [], h => by simp [refsL] at h
 | x :: xs, h => by
   simp only [refsL, Bool.or_eq_true] at h
   rcases h with h | h
   ·exact ⟨0, x, rfl, h⟩
   ·obtain ⟨i, y, h1, h2⟩ := refsL_at h
    exact ⟨i + 1, y, by simpa using h1, h2⟩
theorem refsOs_at {j : Nat} : ∀ {bs : List Bool} {os : List (Option AObj)}, refsOs j bs os = true → ∃ (i : Nat) (o : AObj), bs[i]? = some true ∧ os[i]? = some (some o) ∧ refsO j (some o) = true
 | [], os, h => by simp [refsOs] at h
 | _ :: _, [], h => by simp [refsOs] at h
 | b :: bs, o :: os, h => by
   simp only [refsOs, Bool.or_eq_true, Bool.and_eq_true] at h
   rcases h with ⟨h2, h1⟩ | h
   ·cases o with
    | none => simp [refsO] at h2
    | some o => exact ⟨0, o, by simp [h1], rfl, h2⟩
   ·obtain ⟨i, o, h1, h2, h3⟩ := refsOs_at h
    exact ⟨i + 1, o, by simpa using h1, by simpa using h2, h3⟩
theorem solids_ok {c : CS} (hR : Rel w0 φ (stC c.os).get (stC c.os).next w) (hT : ∀ v ∈ c.ts, ∃ u, VR φ v u) : ∀ (n j : Nat), (solids c n)[j]? = some true → φ j ≠ none
 | 0, j, h => by simp [solids] at h
 | n + 1, j, h => by
   simp only [solids] at h
   have hlt := (List.getElem?_eq_some_iff.1 h).1
   rw [List.length_append, solids_length, List.length_singleton] at hlt
   by_cases hj : j < n
   ·rw [List.getElem?_append_left (by rw [solids_length]; exact hj)] at h
    exact solids_ok hR hT n j h
   ·have hjn : j = n := by omega
    subst hjn
    rw [List.getElem?_append_right (by rw [solids_length]; exact Nat.le_refl _), solids_length, Nat.sub_self] at h
    simp only [List.getElem?_cons_zero, Option.some.injEq, Bool.or_eq_true] at h
    rcases h with h | h
    ·obtain ⟨i, x, h1, h2⟩ := refsL_at h
     obtain ⟨u, hu⟩ := hT x (List.mem_of_getElem? h1)
     exact refs_ok x u h2 hu
    ·obtain ⟨i, o, h1, h2, h3⟩ := refsOs_at h
     have hi := solids_ok hR hT j i h1
     cases hl : φ i with
     | none => exact absurd hl hi
     | some lo =>
       have hO := hR.objs i o lo (stC_some.2 h2) hl
       cases o with
       | cells vs rw_ =>
         simp only [refsO] at h3
         obtain ⟨q, x, e1, e2⟩ := refsL_at h3
         obtain ⟨v, _, d2⟩ := hO.1 q x e1
         exact refs_ok x v e2 d2
       | map es cl =>
         simp only [refsO] at h3
         obtain ⟨q, e, e1, e2⟩ := refsEs_ok h3
         obtain ⟨ms, _, _, m3⟩ := hO
         obtain ⟨m, d1, d2, d3, d4⟩ := m3 q e e1
         rcases e2 with e2 | e2
         ·exact refs_ok _ _ e2 d2
         ·exact refs_ok _ _ e2 d3
       | _ => simp [refsO] at h3
def SeenV (x x' : AV) : Prop := ∀ φ v, VR φ x v → VR φ x' v
def SeenO (x x' : AObj) : Prop := x'.rw = x.rw ∧ ∀ φ w lo, ObjR φ w lo x → ObjR φ w lo x'
structure Seen (c c' : CS) : Prop where
 len : c'.ts.length = c.ts.length
 ts : ∀ (i : Nat) x', c'.ts[i]? = some x' → ∃ x, c.ts[i]? = some x ∧ SeenV x x'
 olen : c'.os.length = c.os.length
 os : ∀ (j : Nat) x', c'.os[j]? = some (some x') → ∃ x, c.os[j]? = some (some x) ∧ SeenO x x'
theorem SeenV.refl (x : AV) : SeenV x x := fun _ _ h => h
theorem SeenO.refl (x : AObj) : SeenO x x := ⟨rfl, fun _ _ _ h => h⟩
theorem Seen.refl (c : CS) : Seen c c := ⟨rfl, fun _ x h => ⟨x, h, SeenV.refl x⟩, rfl, fun _ x h => ⟨x, h, SeenO.refl x⟩⟩
theorem Seen.of_eq {c c' : CS} (h : c = c') : Seen c c' := h ▸ Seen.refl c
theorem Seen.trans {a b c : CS} (h : Seen a b) (k : Seen b c) : Seen a c := by
 refine ⟨k.len.trans h.len, fun i x hx => ?_, k.olen.trans h.olen, fun j x hx => ?_⟩
 ·obtain ⟨y, h1, h2⟩ := k.ts i x hx
  obtain ⟨z, h3, h4⟩ := h.ts i y h1
  exact ⟨z, h3, fun φ v hv => h2 φ v (h4 φ v hv)⟩
 ·obtain ⟨y, h1, h2⟩ := k.os j x hx
  obtain ⟨z, h3, h4⟩ := h.os j y h1
  exact ⟨z, h3, h2.1.trans h4.1, fun φ w lo hv => h2.2 φ w lo (h4.2 φ w lo hv)⟩
inductive SeenVs : List AV → List AV → Prop
 | nil : SeenVs [] []
 | cons {x x' : AV} {xs xs' : List AV} : SeenV x x' → SeenVs xs xs' → SeenVs (x :: xs) (x' :: xs')
theorem SeenVs.refl : ∀ xs, SeenVs xs xs
 | [] => .nil
 | _ :: xs => .cons (SeenV.refl _) (SeenVs.refl xs)
inductive SeenOs : List (Option AObj) → List (Option AObj) → Prop
 | nil : SeenOs [] []
 | skip {x : Option AObj} {xs xs' : List (Option AObj)} : SeenOs xs xs' → SeenOs (x :: xs) (Option.none :: xs')
 | cons {x x' : AObj} {xs xs' : List (Option AObj)} : SeenO x x' → SeenOs xs xs' → SeenOs (some x :: xs) (some x' :: xs')
theorem SeenOs.refl : ∀ xs, SeenOs xs xs
 | [] => .nil
 | none :: xs => .skip (SeenOs.refl xs)
 | some _ :: xs => .cons (SeenO.refl _) (SeenOs.refl xs)
theorem SeenVs.at_ : ∀ {xs xs' : List AV}, SeenVs xs xs' → xs'.length = xs.length ∧ ∀ (i : Nat) x', xs'[i]? = some x' → ∃ x, xs[i]? = some x ∧ SeenV x x'
 | _, _, .nil => ⟨rfl, fun i x h => by simp at h⟩
 | _, _, .cons h t => ⟨by simp [t.at_.1], fun i x hx => by
   cases i with
   | zero => simp at hx; subst hx; exact ⟨_, rfl, h⟩
   | succ i => simpa using t.at_.2 i x (by simpa using hx)⟩
theorem SeenOs.at_ : ∀ {xs xs' : List (Option AObj)}, SeenOs xs xs' → xs'.length = xs.length ∧ ∀ (i : Nat) x', xs'[i]? = some (some x') → ∃ x, xs[i]? = some (some x) ∧ SeenO x x'
 | _, _, .nil => ⟨rfl, fun i x h => by simp at h⟩
 | _, _, .skip t => ⟨by simp [t.at_.1], fun i x hx => by
   cases i with
   | zero => simp at hx
   | succ i => simpa using t.at_.2 i x (by simpa using hx)⟩
 | _, _, .cons h t => ⟨by simp [t.at_.1], fun i x hx => by
   cases i with
   | zero => simp at hx; subst hx; exact ⟨_, rfl, h⟩
   | succ i => simpa using t.at_.2 i x (by simpa using hx)⟩
theorem Seen.mk' {ts ts' : List AV} {os os' : List (Option AObj)} (h : SeenVs ts ts') (k : SeenOs os os') : Seen ⟨ts, os⟩ ⟨ts', os'⟩ := ⟨h.at_.1, h.at_.2, k.at_.1, k.at_.2⟩
theorem SeenV.hid {nl : Bool} {id off len cap es : Nat} {h : Bool} : SeenV (.osl nl id off len cap es h) (.osl nl id off len len es true) := by
 intro φ v hv
 simp only [VR] at hv ⊢
 rcases hv with ⟨h1, h2, h3, h4⟩ | ⟨h1, l, ad, cc, h2, h3, h4, h5, h6, h7, h8⟩
 ·exact .inl ⟨h1, h2, h3, h3⟩
 ·exact .inr ⟨h1, l, ad, cc, h2, h3, Nat.le_refl _, Nat.le_trans h4 h5, (fun h => absurd h (by decide)), h7, h8⟩
theorem trow_congr {f g : Nat → AV} : ∀ (sh : List Sh) (j : Nat), (∀ k s, sh[k]? = some s → view s (f (j + k)) = view s (g (j + k))) → trow f sh j = trow g sh j
 | [], _, _ => rfl
 | s :: sh, j, h => by
   simp only [trow]
   have e : trow f sh (Nat.succ j) = trow g sh (Nat.succ j) := trow_congr sh (Nat.succ j) fun k s hk => by
    have := h (k + 1) s (by simpa using hk)
    rw [show Nat.succ j + k = j + (k + 1) by omega]; exact this
   rw [show view s (f j) = view s (g j) from h 0 s rfl, e]
theorem tcells_congr {sh : List Sh} {f g : Nat → Nat → AV} : ∀ (n i : Nat), (∀ k, i ≤ k → k < i + n → ∀ j s, sh[j]? = some s → view s (f k j) = view s (g k j)) → tcells sh f i n = tcells sh g i n
 | 0, _, _ => rfl
 | n + 1, i, h => by
   simp only [tcells]
   have e : trow (f i) sh 0 = trow (g i) sh 0 := trow_congr sh 0 fun k s hk => by rw [Nat.zero_add]; exact h i (Nat.le_refl _) (by omega) k s hk
   rw [e, tcells_congr n (i + 1) fun k h1 h2 => h k (by omega) (by omega)]
theorem SeenO.arr {sh : List Sh} {n : Nat} {f g : Nat → Nat → AV} {b : Bool} (h : ∀ i, i < n → ∀ j s, sh[j]? = some s → view s (f i j) = view s (g i j)) : SeenO (.tarr sh n f b) (.tarr sh n g b) := by
 refine ⟨rfl, fun φ w lo hO => ?_⟩
 have e : tcells sh f 0 n = tcells sh g 0 n := tcells_congr n 0 fun k _ h2 => h k (by omega)
 simp only [ObjR] at hO ⊢
 rw [← e]; exact hO
theorem Seen.rel {c c' : CS} (h : Seen c c') {K : KC} (hR : Rel w0 φ (stC c.os).get (stC c.os).next w) (hK : Kept K φ (stC c.os).get w) : Rel w0 φ (stC c'.os).get (stC c'.os).next w ∧ Kept K φ (stC c'.os).get w := by
 have pull : ∀ id o', (stC c'.os).get id = some o' → ∃ o, (stC c.os).get id = some o ∧ o'.rw = o.rw ∧ ∀ φ w lo, ObjR φ w lo o → ObjR φ w lo o' := fun id o' hg => by
  obtain ⟨o, e1, e2, e3⟩ := h.os id o' (stC_some.1 hg)
  exact ⟨o, stC_some.2 e1, e2, e3⟩
 refine ⟨⟨?_, ?_, ?_, ?_, ?_, hR.below⟩, ⟨hK.size, hK.frame, ?_, hK.pins⟩⟩
 ·intro id o lo hg hl
  obtain ⟨o0, e1, e2, e3⟩ := pull id o hg
  exact e3 _ _ _ (hR.objs id o0 lo e1 hl)
 ·intro id o lo hg hl
  obtain ⟨o0, e1, e2, e3⟩ := pull id o hg
  rw [e2]; exact hR.own id o0 lo e1 hl
 ·intro i j oi oj li lj hij hi hj hli hlj hrw
  obtain ⟨o1, e1, e2, e3⟩ := pull i oi hi
  obtain ⟨o2, d1, d2, d3⟩ := pull j oj hj
  rw [e2] at hrw
  exact hR.inj i j o1 o2 li lj hij e1 d1 hli hlj hrw
 ·intro id hid
  have hid : c'.os.length ≤ id := hid
  rw [h.olen] at hid
  exact hR.fresh id hid
 ·intro id hid
  have hid : c'.os.length ≤ id := hid
  rw [stC_get, List.getElem?_eq_none hid]
 ·intro id o lo hg hl hrw
  obtain ⟨o0, e1, e2, e3⟩ := pull id o hg
  rw [e2] at hrw
  exact hK.own id o0 lo e1 hl hrw
theorem Seen.atK {c c' : CS} (h : Seen c c') {K : KC} {P : Pat} {a : Act} (hA : AtK K w0 P c a w) : AtK K w0 P c' a w := by
 obtain ⟨φ, h1, h2, h3⟩ := hA
 obtain ⟨k1, k2⟩ := h.rel h1 h3
 refine ⟨φ, k1, ⟨h2.size, h2.defs, fun i t v ht hv => ?_, h.len.trans h2.len⟩, k2⟩
 obtain ⟨x, e1, e2⟩ := h.ts i v hv
 exact e2 _ _ (h2.vals i t x ht e1)
theorem vrl_mk : ∀ {xs : List AV} {us : List Value}, us.length = xs.length → (∀ (i : Nat) x, xs[i]? = some x → ∃ u, us[i]? = some u ∧ VR φ x u) → VRL φ xs us
 | [], us, h, _ => by
   cases us with
   | nil => exact VRL.nil
   | cons u us => simp at h
 | x :: xs, us, h, k => by
   cases us with
   | nil => simp at h
   | cons u us =>
     obtain ⟨u', h1, h2⟩ := k 0 x rfl
     simp at h1; subst h1
     exact VRL.cons h2 (vrl_mk (by simpa using h) fun i x hx => by simpa using k (i + 1) x (by simpa using hx))
theorem Seen.vrl {c c' : CS} (h : Seen c c') {us : List Value} (hv : VRL φ c.ts us) : VRL φ c'.ts us := by
 refine vrl_mk ?_ fun i x' hx => ?_
 ·rw [h.len]; exact hv.length
 ·obtain ⟨x, e1, e2⟩ := h.ts i x' hx
  obtain ⟨u, e3, e4⟩ := hv.at_ i x e1
  exact ⟨u, e3, e2 _ _ e4⟩
theorem SeenO.omap0 {ks vs : List Sh} {ka va : Bool} {z : List AV} {has : AV → Bool} {f : AV → Nat → AV} {c : Nat} (h : ∀ k, has k = false) : SeenO (.map [] c) (.omap ks vs ka va z has f true) :=
 ⟨rfl, fun φ w lo hO => ⟨[], c, hO, ⟨fun e he => (by simp at he), ⟨fun k _ hk => absurd hk (by rw [h k]; simp), by simp⟩⟩⟩⟩
theorem SeenO.omap {ks vs : List Sh} {ka va : Bool} {z : List AV} {has has' : AV → Bool} {f f' : AV → Nat → AV} {b : Bool} (h : ∀ k, keyFit ks ka k = true → has k = has' k)
  (hf : ∀ k, keyFit ks ka k = true → has k = true → ∀ j s, vs[j]? = some s → view s (f k j) = view s (f' k j)) : SeenO (.omap ks vs ka va z has f b) (.omap ks vs ka va z has' f' b) :=
 ⟨rfl, fun φ w lo hO => by
   obtain ⟨es, c, h1, h2, h3, h4⟩ := hO
   refine ⟨es, c, h1, fun e he => ?_, fun k hk hh => h3 k hk (by rw [h k hk]; exact hh), h4⟩
   obtain ⟨a, b, d⟩ := h2 e he
   refine ⟨a, by rw [← h _ a]; exact b, ?_⟩
   have : trow (f' e.1) vs 0 = trow (f e.1) vs 0 := by
    refine List.ext_getElem? fun j => ?_
    rw [trow_get, trow_get]
    cases hj : vs[j]? with
    | none => rfl
    | some s => simp only [Option.map_some, Nat.zero_add]; rw [hf _ a b j s hj]
   rw [this]; exact d⟩
inductive Loops (step : CS → Option (Nat × CS)) : CS → Nat → CS → Prop
 | out {c c1 c' : CS} {k : Nat} : step c = some (k + 1, c1) → Seen c1 c' → Loops step c (k + 1) c'
 | go {c c1 c2 c' : CS} {k : Nat} : step c = some (0, c1) → Seen c1 c2 → Loops step c2 k c' → Loops step c k c'
 | see {c c1 c' : CS} {k : Nat} : Seen c c1 → Loops step c1 k c' → Loops step c k c'
theorem Loops.of_iter {step : CS → Option (Nat × CS)} : ∀ {n : Nat} {c : CS} {r : Nat × CS}, iterC step n c = some r → Loops step c r.1 r.2
 | 0, c, r, h => by simp [iterC] at h
 | n + 1, c, r, h => by
   simp only [iterC] at h
   cases hs : step c with
   | none => rw [hs] at h; cases h
   | some q =>
     obtain ⟨k, c1⟩ := q
     rw [hs] at h
     cases k with
     | zero => exact .go hs (Seen.refl _) (Loops.of_iter (n := n) h)
     | succ k =>
       simp only [Option.some.injEq] at h; subst h
       exact .out hs (Seen.refl _)
variable {Pr : Program} {E : Env}
theorem loop_S (hE : EnvOK Pr E) (hI : IntrOK Pr w0 E) {m : Nat} {body : Code} {K : KC} (hp : ∀ j, j < K.p → K.pin j ≠ none) {head : Pat} {exits : List (Ex × Pat)} (hx : ∀ e P, (e, P) ∈ exits → e ≠ .normal) {π : CS → Plan} {k q : Nat} {c c' : CS}
  (h : Loops (fun c => stepC E m body K.p head ((.normal, head) :: exits) (π c) c) c k c') : ∀ a w, AtK K w0 head c a w →
  LoopIn (fen none) q Pr (erase E body) (fun x a' w' => ∃ e P', ((.normal, head) :: exits)[k]? = some (e, P') ∧ k ≠ 0 ∧ x = e.out ∧ AtK K w0 P' c' a' w') a w := by
 induction h with
 | @out c c1 c' k1 hs hse =>
   intro a w hA
   refine loopIn_of (wpIn_mono (step_at hE hI hp hs hA) fun x a1 w1 hq => ?_)
   obtain ⟨e, P', h1, rfl, h3⟩ := hq
   have hne : e ≠ .normal := hx e P' (List.mem_of_getElem? (by simpa using h1))
   have hpost : (fun x a' w' => ∃ e P', ((Ex.normal, head) :: exits)[k1 + 1]? = some (e, P') ∧ k1 + 1 ≠ 0 ∧ x = e.out ∧ AtK K w0 P' c' a' w') e.out a1 w1 := ⟨e, P', h1, by omega, rfl, hse.atK h3⟩
   cases e with
   | normal => exact absurd rfl hne
   | exit id => exact hpost
   | goto l => exact hpost
   | ret => exact hpost
 | @go c c1 c2 c' k hs hse _ ih =>
   intro a w hA
   refine loopIn_of (wpIn_mono (step_at hE hI hp hs hA) fun x a1 w1 hq => ?_)
   obtain ⟨e, P', h1, rfl, h3⟩ := hq
   simp at h1
   obtain ⟨rfl, rfl⟩ := h1
   exact ih a1 w1 (hse.atK h3)
 | see hse _ ih =>
   intro a w hA
   exact ih a w (hse.atK hA)
end
end Go.Proofs.Ytmjmhpbncfjnpaa.Bm
