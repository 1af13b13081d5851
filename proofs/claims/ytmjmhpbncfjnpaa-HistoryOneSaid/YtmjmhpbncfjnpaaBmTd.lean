/- The abstract machine: regions that draw their order: the invariant, and how its place moves on. -/
import Derived.Test.YtmjmhpbncfjnpaaBmTc
set_option linter.unusedSimpArgs false
set_option linter.unusedVariables false
namespace Go.Proofs.Ytmjmhpbncfjnpaa.Bm
open Go.RowKit
structure Inv (E : Env) (ops : Array Oper) (mk : Tr Nat) (st : Nat → DS) (vs : Nat → AV) (obs : Nat → AObj) (w0 ws : World) (φ0 : Phi) (g0 : Heap) (n0 n1 : Nat) (a0 : Act)
  (p : Nat) (φ : Phi) (S : Nat → Prop) (a : Act) (w : World) : Prop where
 hp : p ≤ ops.size
 cl : ∀ i, S i → ∀ b, (mask mk i).testBit b = true → S b
 ef : ∀ i, EF E ops st i → (S i ↔ i < p)
 sz : a.tmps.size = (st 0).fr.size
 tm1 : ∀ t j, W ops t j → S j → VR (hid n1 (st (max (j + 1) p)).al φ) (vs j) (a.tmps.getD t undef)
 tm2 : ∀ t, (∀ j, W ops t j → ¬ S j) → VR φ0 ((st 0).fr.get t) (a.tmps.getD t undef)
 df : a.defers = a0.defers
 rel : Rel w0 (hid n1 (st p).al φ) (st p).σ.get (st p).σ.next w
 nx : n1 ≤ (st p).σ.next
 ext : Ext w0 φ0 g0 n0 ws (hid n1 (st p).al φ) (st p).σ.get (st p).σ.next w
 early : ∀ i, p ≤ i → AW E ops st i → S i → ∃ l, φ (st i).al = some l ∧ ObjR (hid n1 (st (i + 1)).al φ) w l (obs i) ∧ (obs i).rw = true ∧ ws.heap.size ≤ l.c ∧ l.c < w.heap.size ∧
  ∀ id o lo, (st p).σ.get id = some o → hid n1 (st p).al φ id = some lo → o.rw = true → lo.c ≠ l.c
 dist : ∀ i j, p ≤ i → p ≤ j → i ≠ j → AW E ops st i → AW E ops st j → S i → S j → ∀ li lj, φ (st i).al = some li → φ (st j).al = some lj → li.c ≠ lj.c
 none_ : ∀ i o, ops[i]? = some o → acls E o.op = .alloc → (¬ S i ∨ awanted (st i).fr ops o = some false) → φ (st i).al = none
 ghost : ∀ i, i < p → AW E ops st i → ¬ S i → (st p).σ.get (st i).al = some (obs i)
 g5 : ∀ id, (st p).al ≤ id → id < n1 → (st p).σ.get id = none
section
variable {P : Program} {E : Env} {rec : Job → St → Option (Out × St)} {ops : Array Oper} {mk wr : Tr Nat} {st : Nat → DS} {vs : Nat → AV} {obs : Nat → AObj} {w0 ws : World} {φ0 : Phi} {g0 : Heap} {n0 n1 : Nat}
variable {a0 a : Act} {p : Nat} {φ : Phi} {S : Nat → Prop} {w : World}
theorem W.lt {t : Tmp} {j : Nat} (h : W ops t j) : j < ops.size := by
 obtain ⟨o, ho, _⟩ := h
 exact lt_of_at ho
theorem AW.lt {j : Nat} (h : AW E ops st j) : j < ops.size := by
 obtain ⟨o, ho, _⟩ := h
 exact lt_of_at ho
theorem Inv.next (C : Ctx P E rec ops mk wr st vs obs w0 ws φ0 g0 n0 n1) (I : Inv E ops mk st vs obs w0 ws φ0 g0 n0 n1 a0 p φ S a w) (hlt : p < ops.size) (hne : ¬ EF E ops st p) :
  Inv E ops mk st vs obs w0 ws φ0 g0 n0 n1 a0 (p + 1) φ S a w := by
 have hef : ∀ i, EF E ops st i → (S i ↔ i < p + 1) := fun i hi => by
  rw [I.ef i hi]
  have : i ≠ p := fun e => by subst e; exact hne hi
  omega
 have htm : ∀ t j, W ops t j → S j → VR (hid n1 (st (max (j + 1) (p + 1))).al φ) (vs j) (a.tmps.getD t undef) := fun t j hw hs =>
  VR.mono (fun id l h => hid_monok (C.al_mono (by omega) (by have := hw.lt; omega)) h) _ _ (I.tm1 t j hw hs)
 obtain ⟨o, ho⟩ := at_of_lt hlt
 have same : (st (p + 1)).σ = (st p).σ → hid n1 (st (p + 1)).al φ = hid n1 (st p).al φ → ¬ AW E ops st p → Inv E ops mk st vs obs w0 ws φ0 g0 n0 n1 a0 (p + 1) φ S a w := by
  intro hs hh hna
  refine ⟨hlt, I.cl, hef, I.sz, htm, I.tm2, I.df, ?_, ?_, ?_, ?_, ?_, I.none_, ?_, ?_⟩
  ·rw [hs, hh]; exact I.rel
  ·rw [hs]; exact I.nx
  ·rw [hs, hh]; exact I.ext
  ·intro i hi hw hSi
   rw [hs, hh]
   exact I.early i (by omega) hw hSi
  ·intro i j hi hj
   exact I.dist i j (by omega) (by omega)
  ·intro i hi hw hSi
   have : i ≠ p := fun e => by subst e; exact hna hw
   rw [hs]; exact I.ghost i (by omega) hw hSi
  ·intro id h1 h2
   rw [hs]; exact I.g5 id (Nat.le_trans (C.al_succ hlt) h1) h2
 rcases (C.step p o ho).2.2 with h1 | h1 | h1 | h1
 ·refine same h1.2.2.1 ?_ ?_
  ·by_cases hc : acls E o.op = .alloc
   ·rw [C.al_alloc ho hc]
    exact hid_step (I.none_ p o ho hc (.inr h1.1))
   ·rw [C.al_other ho hc]
  ·rintro ⟨o', ho', _, hw⟩
   rw [ho] at ho'; injection ho' with ho'; subst ho'
   rw [h1.1] at hw; cases hw
 ·refine same h1.2.2.2.1 ?_ ?_
  ·rw [C.al_other ho (by rw [h1.2.1]; intro h; cases h)]
  ·rintro ⟨o', ho', hc, _⟩
   rw [ho] at ho'; injection ho' with ho'; subst ho'
   rw [h1.2.1] at hc; cases hc
 ·-- something was laid
  obtain ⟨hw, hc, ⟨f, hf, hv⟩, hs, _, _⟩ := h1
  have haw : AW E ops st p := ⟨o, ho, hc, hw⟩
  have hal := C.al_alloc ho hc
  have hal1 : (st p).al < n1 := by have := C.al_le (i := p + 1) hlt; omega
  have hn0 := C.n0_le I.hp
  have hsg : (st (p + 1)).σ.get = gset (st p).σ.get (st p).al (some (obs p)) := by rw [hs, get_put]
  have hsn : (st (p + 1)).σ.next = (st p).σ.next := by rw [hs]; rfl
  have hidn : hid n1 (st p).al φ (st p).al = none := hid_in (Nat.le_refl _) hal1
  have hlt' : (st p).al < (st p).σ.next := Nat.lt_of_lt_of_le hal1 I.nx
  have hghost : ∀ i, i < p + 1 → AW E ops st i → ¬ S i → (st (p + 1)).σ.get (st i).al = some (obs i) := by
   intro i hi hwi hSi
   rw [hsg]
   by_cases he : i = p
   ·subst he; simp [gset]
   ·obtain ⟨oi, hoi, hci, _⟩ := hwi
    have h1 := C.al_alloc hoi hci
    have h2 : (st (i + 1)).al ≤ (st p).al := C.al_mono (by omega) I.hp
    simp only [gset]
    rw [if_neg (by omega)]
    exact I.ghost i (by omega) ⟨oi, hoi, hci, by assumption⟩ hSi
  have hg5 : ∀ id, (st (p + 1)).al ≤ id → id < n1 → (st (p + 1)).σ.get id = none := by
   intro id h1 h2
   rw [hsg]
   simp only [gset]
   rw [if_neg (by omega)]
   exact I.g5 id (by omega) h2
  by_cases hS : S p
  ·obtain ⟨l, q1, q2, q3, q4, q5, q6⟩ := I.early p (Nat.le_refl _) haw hS
   have hrev : hid n1 (st (p + 1)).al φ = upd (hid n1 (st p).al φ) (st p).al l := by rw [hal]; exact hid_reveal q1
   have hO : ObjR (hid n1 (st (p + 1)).al φ) w l (obs p) := q2
   refine ⟨hlt, I.cl, hef, I.sz, htm, I.tm2, I.df, ?_, ?_, ?_, ?_, ?_, I.none_, hghost, hg5⟩
   ·-- the object of which the text speaks is there
    have hle := upd_le (φ := hid n1 (st p).al φ) (id := (st p).al) l hidn
    have hrel := I.rel
    rw [hsg, hsn, hrev]
    rw [hrev] at hO
    have pull : ∀ i oi li, i ≠ (st p).al → gset (st p).σ.get (st p).al (some (obs p)) i = some oi → upd (hid n1 (st p).al φ) (st p).al l i = some li → (st p).σ.get i = some oi ∧ hid n1 (st p).al φ i = some li := by
     intro i oi li hi h1 h2
     simp only [gset, hi, if_false] at h1
     rw [upd_ne _ l hi] at h2
     exact ⟨h1, h2⟩
    have self : ∀ oi li, gset (st p).σ.get (st p).al (some (obs p)) (st p).al = some oi → upd (hid n1 (st p).al φ) (st p).al l (st p).al = some li → oi = obs p ∧ li = l := by
     intro oi li h1 h2
     simp only [gset, if_true, Option.some.injEq] at h1
     rw [upd_same] at h2
     injection h2 with h2
     exact ⟨h1.symm, h2.symm⟩
    have hall : ∀ i oi li, (st p).σ.get i = some oi → hid n1 (st p).al φ i = some li → li.c ≠ l.c := by
     intro i oi li h1 h2
     by_cases hr : oi.rw = true
     ·exact q6 i oi li h1 h2 hr
     ·intro e
      exact hr ((hrel.own i oi li h1 h2).2 (by rw [e]; exact Nat.le_trans C.base q4))
    refine ⟨?_, ?_, ?_, ?_, ?_, hrel.below⟩
    ·intro i oi li h1 h2
     by_cases hi : i = (st p).al
     ·subst hi
      obtain ⟨rfl, rfl⟩ := self oi li h1 h2
      exact hO
     ·obtain ⟨a, b⟩ := pull i oi li hi h1 h2
      exact (hrel.objs i oi li a b).keep rfl hle
    ·intro i oi li h1 h2
     by_cases hi : i = (st p).al
     ·subst hi
      obtain ⟨rfl, rfl⟩ := self oi li h1 h2
      exact ⟨fun _ => Nat.le_trans C.base q4, fun _ => q3⟩
     ·obtain ⟨a, b⟩ := pull i oi li hi h1 h2
      exact hrel.own i oi li a b
    ·intro i j oi oj li lj hij h1 h2 h3 h4 h5
     by_cases hi : i = (st p).al
     ·subst hi
      obtain ⟨rfl, rfl⟩ := self oi li h1 h3
      obtain ⟨a, b⟩ := pull j oj lj (fun e => hij e.symm) h2 h4
      exact fun e => hall j oj lj a b e.symm
     ·obtain ⟨a, b⟩ := pull i oi li hi h1 h3
      by_cases hj : j = (st p).al
      ·subst hj
       obtain ⟨rfl, rfl⟩ := self oj lj h2 h4
       exact hall i oi li a b
      ·obtain ⟨c, d⟩ := pull j oj lj hj h2 h4
       exact hrel.inj i j oi oj li lj hij a c b d h5
    ·intro i hi
     rw [upd_ne _ l (by omega)]; exact hrel.fresh i hi
    ·intro i hi
     simp only [gset]; rw [if_neg (by omega)]; exact hrel.gfresh i hi
   ·rw [hsn]; exact I.nx
   ·rw [hsg, hsn, hrev]; exact I.ext.insert hidn hn0 q4
   ·intro i hi hwi hSi
    obtain ⟨li, r1, r2, r3, r4, r5, r6⟩ := I.early i (by omega) hwi hSi
    refine ⟨li, r1, r2, r3, r4, r5, fun id o' lo h1 h2 h3 => ?_⟩
    rw [hsg] at h1
    rw [hrev] at h2
    by_cases he : id = (st p).al
    ·subst he
     rw [upd_same] at h2
     injection h2 with h2
     subst h2
     exact fun e => I.dist i p (by omega) (Nat.le_refl _) (by omega) hwi haw hSi hS li _ r1 q1 e.symm
    ·simp only [gset, he, if_false] at h1
     rw [upd_ne _ l he] at h2
     exact r6 id o' lo h1 h2 h3
   ·intro i j hi hj
    exact I.dist i j (by omega) (by omega)
  ·have hn := I.none_ p o ho hc (.inl hS)
   have hst : hid n1 (st (p + 1)).al φ = hid n1 (st p).al φ := by rw [hal]; exact hid_step hn
   refine ⟨hlt, I.cl, hef, I.sz, htm, I.tm2, I.df, ?_, ?_, ?_, ?_, ?_, I.none_, hghost, hg5⟩
   ·rw [hsg, hsn, hst]; exact I.rel.ghost_ _ hidn hlt'
   ·rw [hsn]; exact I.nx
   ·rw [hsg, hsn, hst]; exact I.ext.ghost_ _ hidn hn0
   ·intro i hi hwi hSi
    obtain ⟨li, r1, r2, r3, r4, r5, r6⟩ := I.early i (by omega) hwi hSi
    refine ⟨li, r1, r2, r3, r4, r5, fun id o' lo h1 h2 h3 => ?_⟩
    rw [hsg] at h1
    rw [hst] at h2
    by_cases he : id = (st p).al
    ·subst he; rw [hidn] at h2; cases h2
    ·simp only [gset, he, if_false] at h1
     exact r6 id o' lo h1 h2 h3
   ·intro i j hi hj
    exact I.dist i j (by omega) (by omega)
 ·exact absurd ⟨o, ho, h1.2.1, h1.1⟩ hne
theorem Inv.move (C : Ctx P E rec ops mk wr st vs obs w0 ws φ0 g0 n0 n1) : ∀ (k p q : Nat), p + k = q → q ≤ ops.size → (∀ j, p ≤ j → j < q → ¬ EF E ops st j) → Inv E ops mk st vs obs w0 ws φ0 g0 n0 n1 a0 p φ S a w →
  Inv E ops mk st vs obs w0 ws φ0 g0 n0 n1 a0 q φ S a w
 | 0, p, q, h, _, _, I => by
   have : p = q := by omega
   subst this; exact I
 | k + 1, p, q, h, hq, hno, I => Inv.move C k (p + 1) q (by omega) hq (fun j h1 h2 => hno j (by omega) h2) (I.next C (by omega) (hno p (Nat.le_refl _) (by omega)))
theorem Inv.norm (C : Ctx P E rec ops mk wr st vs obs w0 ws φ0 g0 n0 n1) : ∀ (k p : Nat), p + k = ops.size → Inv E ops mk st vs obs w0 ws φ0 g0 n0 n1 a0 p φ S a w →
  ∃ q, (EF E ops st q ∨ q = ops.size) ∧ Inv E ops mk st vs obs w0 ws φ0 g0 n0 n1 a0 q φ S a w
 | 0, p, h, I => ⟨p, .inr (by omega), I⟩
 | k + 1, p, h, I => by
   by_cases he : EF E ops st p
   ·exact ⟨p, .inl he, I⟩
   ·exact Inv.norm C k (p + 1) (by omega) (I.next C (by omega) he)
end
end Go.Proofs.Ytmjmhpbncfjnpaa.Bm
