/- The abstract machine: regions that draw their order: one operation more. -/
import Derived.Test.YtmjmhpbncfjnpaaBmTd
set_option linter.unusedSimpArgs false
set_option linter.unusedVariables false
namespace Go.Proofs.Ytmjmhpbncfjnpaa.Bm
open Go.RowKit
section
variable {P : Program} {E : Env} {rec : Job → St → Option (Out × St)} {ops : Array Oper} {mk wr : Tr Nat} {st : Nat → DS} {vs : Nat → AV} {obs : Nat → AObj} {w0 ws : World} {φ0 : Phi} {g0 : Heap} {n0 n1 : Nat}
variable {a0 a : Act} {p : Nat} {φ : Phi} {S : Nat → Prop} {w : World} {i : Nat} {o : Oper} {n : Nat} {r : Option Nat} {K : Act → World → Prop} {Q : Exit → Act → World → Prop}
theorem put_getD (a : Act) (dst : Option Tmp) (u : Value) (t : Tmp) : (a.put dst u).tmps.getD t undef = if dst = some t ∧ t < a.tmps.size then u else a.tmps.getD t undef := by
 cases dst with
 | none => simp [Act.put]
 | some d =>
   simp only [Act.put, Array.getD_eq_getD_getElem?, Array.getElem?_setIfInBounds, Option.some.injEq]
   by_cases hd : d = t
   ·subst hd
    by_cases hs : d < a.tmps.size
    ·simp [hs]
    ·simp [hs]
   ·simp [hd]
theorem put_size (a : Act) (dst : Option Tmp) (u : Value) : (a.put dst u).tmps.size = a.tmps.size := by
 cases dst <;> simp [Act.put]
theorem put_defers_ (a : Act) (dst : Option Tmp) (u : Value) : (a.put dst u).defers = a.defers := by
 cases dst <;> rfl
theorem Inv.operand (C : Ctx P E rec ops mk wr st vs obs w0 ws φ0 g0 n0 n1) (I : Inv E ops mk st vs obs w0 ws φ0 g0 n0 n1 a0 p φ S a w) (ho : ops[i]? = some o) (hS : ¬ S i)
  (hm : ∀ b, (mask mk i).testBit b = true → S b) {x : Operand} (hx : x ∈ o.op.operands) : VR (hid n1 (st (max i p)).al φ) ((st i).fr.eval x) (a.eval x) := by
 have hi := lt_of_at ho
 have hp := I.hp
 have hle : ∀ id l, φ0 id = some l → hid n1 (st (max i p)).al φ id = some l := fun id l h => hid_monok (C.al_mono (Nat.le_max_right i p) (by omega)) (I.ext.le id l h)
 cases x with
 | const v => exact VR.ofVal _ v
 | global g => simp [Fr.eval, Act.eval, VR]
 | func f =>
   simp only [Fr.eval, Act.eval, VR]
   exact ⟨(fun l h => by cases h), [], [], rfl, VRL.nil, VRL.nil⟩
 | tmp t =>
   show VR _ ((st i).fr.get t) (a.tmps.getD t undef)
   have hok := C.ok i o ho
   simp only [operOk, Bool.and_eq_true] at hok
   have hr := List.all_eq_true.1 hok.1.1.2 _ (Array.mem_toList_iff.2 hx)
   simp only [refOk] at hr
   obtain ⟨_, _, _, hfr⟩ := C.frame i (Nat.le_of_lt hi)
   split at hr
   ·rename_i hw
    have hno : ∀ j, ¬ W ops t j := fun j hj => by rw [(C.wr_ t j).2 hj] at hw; cases hw
    rw [(hfr t).2 fun j hj => absurd hj (hno j)]
    exact VR.mono hle _ _ (I.tm2 t fun j hj => absurd hj (hno j))
   ·rename_i j hw
    have hj := (C.wr_ t j).1 hw
    rw [Bool.or_eq_true] at hr
    rcases hr with hr | hr
    ·have hlt := C.mask_lt i hi j hr
     rw [(hfr t).1 j hj hlt]
     exact VR.mono (fun id l h => hid_monok (C.al_mono (by omega) (by omega)) h) _ _ (I.tm1 t j hj (hm j hr))
    ·have hlt := C.mask_lt j hj.lt i hr
     have hnS : ¬ S j := fun h => hS (I.cl j h i hr)
     rw [(hfr t).2 fun j' hj' => by rw [C.uniq t j' j hj' hj]; omega]
     exact VR.mono hle _ _ (I.tm2 t fun j' hj' => by rw [C.uniq t j' j hj' hj]; exact hnS)
theorem Inv.guard_ (C : Ctx P E rec ops mk wr st vs obs w0 ws φ0 g0 n0 n1) (I : Inv E ops mk st vs obs w0 ws φ0 g0 n0 n1 a0 p φ S a w) (ho : ops[i]? = some o)
  (hm : ∀ b, (mask mk i).testBit b = true → S b) {b : Bool} (hw : awanted (st i).fr ops o = some b) : Region.wanted o (yielded ops a.tmps) = b := by
 have hi := lt_of_at ho
 have hp := I.hp
 refine wanted_of' (φ := hid n1 (st (max i p)).al φ) (fun j want oj d hg hoj hd => ?_) hw
 have hok := C.ok i o ho
 simp only [operOk, Bool.and_eq_true] at hok
 have hb := hok.1.2
 rw [hg] at hb
 simp only at hb
 have hlt := C.mask_lt i hi j hb
 have hj : W ops d j := ⟨oj, hoj, hd⟩
 obtain ⟨_, _, _, hfr⟩ := C.frame i (Nat.le_of_lt hi)
 rw [(hfr d).1 j hj hlt]
 exact VR.mono (fun id l h => hid_monok (C.al_mono (by omega) (by omega)) h) _ _ (I.tm1 d j hj (hm j hb))
theorem Inv.opers (C : Ctx P E rec ops mk wr st vs obs w0 ws φ0 g0 n0 n1) (I : Inv E ops mk st vs obs w0 ws φ0 g0 n0 n1 a0 p φ S a w) (ho : ops[i]? = some o) (hS : ¬ S i)
  (hm : ∀ b, (mask mk i).testBit b = true → S b) : ∃ ρa : Operand → AV, (∀ x ∈ o.op.operands, ρa x = (st i).fr.eval x) ∧ ∀ x, VR (hid n1 (st (max i p)).al φ) (ρa x) (a.eval x) := by
 classical
 refine ⟨fun x => if x ∈ o.op.operands then (st i).fr.eval x else ofVal (a.eval x), fun x hx => if_pos hx, fun x => ?_⟩
 by_cases hx : x ∈ o.op.operands
 ·simp only [hx, if_true]; exact I.operand C ho hS hm hx
 ·simp only [hx, if_false]; exact VR.ofVal _ _
theorem Inv.tm1_ (C : Ctx P E rec ops mk wr st vs obs w0 ws φ0 g0 n0 n1) (I : Inv E ops mk st vs obs w0 ws φ0 g0 n0 n1 a0 p φ S a w) (ho : ops[i]? = some o) {φ' : Phi} {p' : Nat} (hφ : ∀ id l, φ id = some l → φ' id = some l) (hp : p ≤ p') (hp' : p' ≤ ops.size)
  {u : Value} (hu : VR (hid n1 (st (max (i + 1) p')).al φ') (vs i) u) : ∀ t j, W ops t j → (S j ∨ j = i) → VR (hid n1 (st (max (j + 1) p')).al φ') (vs j) ((a.put o.dst u).tmps.getD t undef) := by
 intro t j hj hs
 have hsz := I.sz
 rw [put_getD]
 have hd := (put_get (C.step i o ho).1 t).2.2.2.2
 have hfs := (C.frame i (Nat.le_of_lt (lt_of_at ho))).1
 by_cases he : j = i
 ·subst he
  obtain ⟨o', ho', hdd⟩ := hj
  rw [ho] at ho'; injection ho' with ho'; subst ho'
  have hcond : o.dst = some t ∧ t < a.tmps.size := ⟨hdd, by have h := hd hdd; rw [hfs, ← hsz] at h; exact h⟩
  rw [if_pos hcond]
  exact hu
 ·have hne : ¬ o.dst = some t := fun hdd => he (C.uniq t j i hj ⟨o, ho, hdd⟩)
  rw [if_neg (fun h => hne h.1)]
  have hjl := hj.lt
  refine VR.mono (fun id l h => hid_mono hφ (hid_monok (C.al_mono (by omega) (by omega)) h)) _ _ (I.tm1 t j hj (hs.resolve_right he))
theorem Inv.tm2_ (C : Ctx P E rec ops mk wr st vs obs w0 ws φ0 g0 n0 n1) (I : Inv E ops mk st vs obs w0 ws φ0 g0 n0 n1 a0 p φ S a w) (ho : ops[i]? = some o) (u : Value) :
  ∀ t, (∀ j, W ops t j → ¬ (S j ∨ j = i)) → VR φ0 ((st 0).fr.get t) ((a.put o.dst u).tmps.getD t undef) := by
 intro t hno
 rw [put_getD]
 have hne : ¬ o.dst = some t := fun hdd => hno i ⟨o, ho, hdd⟩ (.inr rfl)
 rw [if_neg (fun h => hne h.1)]
 exact I.tm2 t fun j hj hs => hno j hj (.inl hs)
theorem Inv.cl_ (I : Inv E ops mk st vs obs w0 ws φ0 g0 n0 n1 a0 p φ S a w) (hm : ∀ b, (mask mk i).testBit b = true → S b) : ∀ j, (S j ∨ j = i) → ∀ b, (mask mk j).testBit b = true → (S b ∨ b = i) := by
 intro j hj b hb
 rcases hj with hj | rfl
 ·exact .inl (I.cl j hj b hb)
 ·exact .inl (hm b hb)
theorem Inv.add (C : Ctx P E rec ops mk wr st vs obs w0 ws φ0 g0 n0 n1) (I : Inv E ops mk st vs obs w0 ws φ0 g0 n0 n1 a0 p φ S a w) (ho : ops[i]? = some o)
  (hm : ∀ b, (mask mk i).testBit b = true → S b) (hne : ¬ EF E ops st i) (hna : ¬ AW E ops st i) {u : Value} (hu : VR (hid n1 (st (max (i + 1) p)).al φ) (vs i) u) :
  Inv E ops mk st vs obs w0 ws φ0 g0 n0 n1 a0 p φ (fun j => S j ∨ j = i) (a.put o.dst u) w where
 hp := I.hp
 cl := I.cl_ hm
 ef := fun j hj => by
  have : j ≠ i := fun e => by subst e; exact hne hj
  have h := I.ef j hj
  exact ⟨fun hs => h.1 (hs.resolve_right this), fun hs => .inl (h.2 hs)⟩
 sz := by rw [put_size]; exact I.sz
 tm1 := I.tm1_ C ho (fun _ _ h => h) (Nat.le_refl _) I.hp hu
 tm2 := I.tm2_ C ho u
 df := by rw [put_defers_]; exact I.df
 rel := I.rel
 nx := I.nx
 ext := I.ext
 early := fun j hj hw hs => I.early j hj hw (hs.resolve_right fun e => by subst e; exact hna hw)
 dist := fun j k hj hk hjk hwj hwk hsj hsk => I.dist j k hj hk hjk hwj hwk (hsj.resolve_right fun e => by subst e; exact hna hwj) (hsk.resolve_right fun e => by subst e; exact hna hwk)
 none_ := fun j oj hoj hc h => I.none_ j oj hoj hc (h.imp (fun hn hs => hn (.inl hs)) id)
 ghost := fun j hj hw hs => I.ghost j hj hw fun h => hs (.inl h)
 g5 := I.g5
theorem not_defer (hok : operOk mk wr (mask mk i) i o = true) : ∀ c, o.op ≠ .defer c := by
 intro c hc
 simp only [operOk, Bool.and_eq_true] at hok
 have := hok.2
 rw [hc] at this
 cases this
theorem wpOpIn_wanted (ho : ops[i]? = some o) (hw : Region.wanted o (yielded ops a.tmps) = true) (h : o.wpIn (fen r) n P a w K Q) : wpOpIn (fen r) n P ops Q i K a w := by
 unfold wpOpIn
 simp only [ho, hw, if_true]
 exact h
theorem Inv.exec (C : Ctx P E rec ops mk wr st vs obs w0 ws φ0 g0 n0 n1) (h0 : (st 0).effs = []) (I : Inv E ops mk st vs obs w0 ws φ0 g0 n0 n1 a0 p φ S a w) (ho : ops[i]? = some o) (hS : ¬ S i)
  (hm : ∀ b, (mask mk i).testBit b = true → S b) (hK : ∀ p' φ' a' w', Inv E ops mk st vs obs w0 ws φ0 g0 n0 n1 a0 p' φ' (fun j => S j ∨ j = i) a' w' → K a' w') :
  wpOpIn (fen r) n P ops Q i K a w := by
 have hi := lt_of_at ho
 have hnd := not_defer (C.ok i o ho)
 rcases (C.step i o ho).2.2 with h1 | h1 | h1 | h1
 ·-- not wanted
  have hg := I.guard_ C ho hm h1.1
  unfold wpOpIn
  simp only [ho, hg, Bool.false_eq_true, if_false]
  refine ⟨fun _ _ => trivial, hK p φ _ w (I.add C ho hm ?_ ?_ ?_)⟩
  ·rintro ⟨o', ho', _, hw⟩
   rw [ho] at ho'; injection ho' with ho'; subst ho'
   rw [h1.1] at hw; cases hw
  ·rintro ⟨o', ho', _, hw⟩
   rw [ho] at ho'; injection ho' with ho'; subst ho'
   rw [h1.1] at hw; cases hw
  ·rw [h1.2.1]; exact VR.undef_
 ·-- it reads
  obtain ⟨hw, hc, hrd, hs, _, hreads⟩ := h1
  have hne : ¬ EF E ops st i := by
   rintro ⟨o', ho', hc', _⟩
   rw [ho] at ho'; injection ho' with ho'; subst ho'
   rw [hc] at hc'; cases hc'
  have hna : ¬ AW E ops st i := by
   rintro ⟨o', ho', hc', _⟩
   rw [ho] at ho'; injection ho' with ho'; subst ho'
   rw [hc] at hc'; cases hc'
  have hp0 := I.hp
  obtain ⟨q, hq, I⟩ := I.norm C (ops.size - p) p (by omega)
  have hqs := I.hp
  have hnow : aread E (st i).fr.eval (st q).σ.get o.op = some (vs i) := by
   cases hl : looks o.op with
   | false => rw [aread_blind hl (g' := (st i).σ.get)]; exact hrd
   | true =>
     rw [hl] at hreads
     simp only [cond_true] at hreads
     have hin := C.reads_in (ops.size - (i + 1)) (i + 1) (by omega) (i, o.op, vs i, (st i).fr) (by rw [hreads]; exact List.mem_cons_self)
     obtain ⟨later, h, d1, d2, d3⟩ := C.down hin (ops.size - q) q (by omega)
     have hh := d2 hq
     rw [hh] at d1
     have hmay : mayAt mk i later (st q).effs = true := by
      unfold mayAt
      rw [Bool.and_eq_true, List.all_eq_true, List.all_eq_true]
      refine ⟨fun e he => ?_, fun e he => ?_⟩
      ·obtain ⟨e1, e2⟩ := d3 e he
       cases hb : (mask mk i).testBit e.1 with
       | false => rfl
       | true =>
         have := (I.ef _ e1).1 (hm _ hb)
         omega
      ·obtain ⟨e1, e2⟩ := (C.head h0 q hqs).1 e he
       cases hb : (mask mk e.1).testBit i with
       | false => rfl
       | true => exact absurd (I.cl _ ((I.ef _ e1).2 e2) i hb) hS
     exact readOk_now d1 hmay
  have hg := I.guard_ C ho hm hw
  obtain ⟨ρa, r1, r2⟩ := I.opers C ho hS hm
  rw [← aread_congr r1] at hnow
  have hmono : (st q).al ≤ (st (max i q)).al := C.al_mono (Nat.le_max_right i q) (by omega)
  have hrel : Rel w0 (hid n1 (st (max i q)).al φ) (st q).σ.get (st q).σ.next w := by
   refine I.rel.more (fun id l h => hid_monok hmono h) (fun id l h => ?_) (fun id h => ?_)
   ·by_cases hh : (st q).al ≤ id ∧ id < n1
    ·exact .inr (I.g5 id hh.1 hh.2)
    ·left
     rw [hid_out hh]; exact hid_le h
   ·have h1 := I.rel.fresh id h
    have h2 := I.nx
    rw [hid_out (by omega)] at h1 ⊢
    exact h1
  obtain ⟨z, z1, z2⟩ := run_aread C.hE hrel r2 hnow
  refine wpOpIn_wanted ho hg ⟨fun _ _ => trivial, ?_⟩
  rw [Oper.semAt_eq _ _ _ hnd, z1]
  exact hK q φ _ w (I.add C ho hm hne hna (VR.mono (fun id l h => hid_monok (C.al_mono (by omega) (by omega)) h) _ _ z2))
 ·-- it lays
  obtain ⟨hw, hc, ⟨f, hf, hv⟩, hs, _, _⟩ := h1
  have haw : AW E ops st i := ⟨o, ho, hc, hw⟩
  have hne : ¬ EF E ops st i := by
   rintro ⟨o', ho', hc', _⟩
   rw [ho] at ho'; injection ho' with ho'; subst ho'
   rw [hc] at hc'; cases hc'
  have hal := C.al_alloc ho hc
  have hal1 : (st i).al < n1 := by have := C.al_le (i := i + 1) hi; omega
  have hn0 := C.n0_le (i := i) (Nat.le_of_lt hi)
  have hφn := I.none_ i o ho hc (.inl hS)
  have hp0 := I.hp
  have hg := I.guard_ C ho hm hw
  obtain ⟨ρa, r1, r2⟩ := I.opers C ho hS hm
  rw [← aalloc_congr r1] at hf
  have hqn : hid n1 (st (max i p)).al φ (st i).al = none := by
   cases hh : hid n1 (st (max i p)).al φ (st i).al with
   | none => rfl
   | some l => have := hid_le hh; rw [hφn] at this; cases this
  obtain ⟨z, w', l, z1, z2, z3, z4, z5, z6⟩ := run_aalloc (w := w) C.hE r2 hf hqn
  have hφle : ∀ id lo, φ id = some lo → upd φ (st i).al l id = some lo := upd_le l hφn
  refine wpOpIn_wanted ho hg ⟨fun _ _ => trivial, ?_⟩
  rw [Oper.semAt_eq _ _ _ hnd, z1]
  have hef : ∀ j, EF E ops st j → ((S j ∨ j = i) ↔ j < p) := fun j hj => by
   have : j ≠ i := fun e => by subst e; exact hne hj
   have h := I.ef j hj
   exact ⟨fun hs => h.1 (hs.resolve_right this), fun hs => .inl (h.2 hs)⟩
  have alne : ∀ j oj, ops[j]? = some oj → acls E oj.op = .alloc → j ≠ i → (st j).al ≠ (st i).al := by
   intro j oj hoj hcj hji
   have hjl := lt_of_at hoj
   have h1 := C.al_alloc hoj hcj
   rcases Nat.lt_or_ge j i with h | h
   ·have := C.al_mono (i := j + 1) (j := i) (by omega) (by omega); omega
   ·have := C.al_mono (i := i + 1) (j := j) (by omega) (by omega); omega
  have hnone : ∀ j oj, ops[j]? = some oj → acls E oj.op = .alloc → (¬ (S j ∨ j = i) ∨ awanted (st j).fr ops oj = some false) → upd φ (st i).al l (st j).al = none := by
   intro j oj hoj hcj hh
   have hji : j ≠ i := by
    rintro rfl
    rcases hh with hh | hh
    ·exact hh (.inr rfl)
    ·rw [ho] at hoj; injection hoj with hoj; subst hoj
     rw [hw] at hh; cases hh
   rw [upd_ne _ _ (alne j oj hoj hcj hji)]
   exact I.none_ j oj hoj hcj (hh.imp (fun hn hs => hn (.inl hs)) id)
  have hws : w.heap.size + 1 = w'.heap.size := z2.size.symm
  have hearly : ∀ j, p ≤ j → AW E ops st j → S j → ∃ lj, φ (st j).al = some lj ∧ ObjR (hid n1 (st (j + 1)).al (upd φ (st i).al l)) w' lj (obs j) ∧ (obs j).rw = true ∧ ws.heap.size ≤ lj.c ∧ lj.c < w'.heap.size ∧ lj.c < w.heap.size ∧
    ∀ id o' lo, (st p).σ.get id = some o' → hid n1 (st p).al φ id = some lo → o'.rw = true → lo.c ≠ lj.c := by
   intro j hj hwj hSj
   obtain ⟨lj, q1, q2, q3, q4, q5, q6⟩ := I.early j hj hwj hSj
   exact ⟨lj, q1, q2.keep (z2.block _ q5) (fun id lo h => hid_mono hφle h), q3, q4, by omega, q5, q6⟩
  by_cases hip : p ≤ i
  ·-- ahead of its place
   have hmax : max i p = i := by omega
   rw [hmax] at z5 z6 hqn
   have hrev : hid n1 (st (i + 1)).al (upd φ (st i).al l) = upd (hid n1 (st i).al φ) (st i).al l := by
    rw [hal, hid_reveal (upd_same φ (st i).al l), hid_updIn (Nat.le_refl _) hal1]
   have hsame : hid n1 (st p).al (upd φ (st i).al l) = hid n1 (st p).al φ := hid_updIn (C.al_mono hip (by omega)) hal1
   refine hK p (upd φ (st i).al l) _ w' ⟨I.hp, I.cl_ hm, hef, by rw [put_size]; exact I.sz, ?_, I.tm2_ C ho z, by rw [put_defers_]; exact I.df, ?_, I.nx, ?_, ?_, ?_, hnone, ?_, I.g5⟩
   ·refine I.tm1_ C ho hφle (Nat.le_refl _) I.hp ?_
    have : max (i + 1) p = i + 1 := by omega
    rw [this, hrev, hv]; exact z6
   ·rw [hsame]; exact I.rel.laid z2
   ·rw [hsame]; exact I.ext.laid z2
   ·intro j hj hwj hSj
    rw [hsame]
    by_cases hji : j = i
    ·subst hji
     refine ⟨l, upd_same _ _ _, by rw [hrev]; exact z5, z4, by rw [z3]; exact I.ext.wle, by rw [z3]; omega, fun id o' lo h1 h2 h3 => ?_⟩
     have := I.rel.lt h1 h2
     omega
    ·obtain ⟨lj, q1, q2, q3, q4, q5, q6, q7⟩ := hearly j hj hwj (hSj.resolve_right hji)
     exact ⟨lj, hφle _ _ q1, q2, q3, q4, q5, q7⟩
   ·intro j k hj hk hjk hwj hwk hSj hSk lj lk hlj hlk
    have get : ∀ j, p ≤ j → AW E ops st j → (S j ∨ j = i) → ∀ lj, upd φ (st i).al l (st j).al = some lj → (j = i ∧ lj.c = w.heap.size) ∨ (j ≠ i ∧ S j ∧ φ (st j).al = some lj ∧ lj.c < w.heap.size) := by
     intro j hj hwj hSj lj hlj
     by_cases hji : j = i
     ·subst hji
      rw [upd_same] at hlj; injection hlj with hlj; subst hlj
      exact .inl ⟨rfl, z3⟩
     ·obtain ⟨oj, hoj, hcj, _⟩ := hwj
      have hSj' := hSj.resolve_right hji
      rw [upd_ne _ _ (alne j oj hoj hcj hji)] at hlj
      obtain ⟨lj', q1, q2, q3, q4, q5, q6, q7⟩ := hearly j hj ⟨oj, hoj, hcj, by assumption⟩ hSj'
      rw [hlj] at q1; injection q1 with q1; subst q1
      exact .inr ⟨hji, hSj', hlj, q6⟩
    rcases get j hj hwj hSj lj hlj with ⟨rfl, a1⟩ | ⟨a1, a2, a3, a4⟩ <;> rcases get k hk hwk hSk lk hlk with ⟨rfl, b1⟩ | ⟨b1, b2, b3, b4⟩
    ·exact absurd rfl hjk
    ·omega
    ·omega
    ·exact I.dist j k hj hk hjk hwj hwk a2 b2 lj lk a3 b3
   ·intro j hj hwj hSj
    exact I.ghost j hj hwj fun h => hSj (.inl h)
  ·-- behind its place
   have hmax : max i p = p := by omega
   rw [hmax] at z5 z6 hqn
   have hout : ¬ ((st p).al ≤ (st i).al ∧ (st i).al < n1) := by
    have := C.al_mono (i := i + 1) (j := p) (by omega) I.hp
    omega
   have hrev : hid n1 (st p).al (upd φ (st i).al l) = upd (hid n1 (st p).al φ) (st i).al l := hid_updOut hout
   have hgst := I.ghost i (by omega) haw hS
   have hgs : gset (st p).σ.get (st i).al (some (obs i)) = (st p).σ.get := by
    funext id
    by_cases he : id = (st i).al
    ·subst he; simp [gset, hgst]
    ·simp [gset, he]
   refine hK p (upd φ (st i).al l) _ w' ⟨I.hp, I.cl_ hm, hef, by rw [put_size]; exact I.sz, ?_, I.tm2_ C ho z, by rw [put_defers_]; exact I.df, ?_, I.nx, ?_, ?_, ?_, hnone, ?_, I.g5⟩
   ·refine I.tm1_ C ho hφle (Nat.le_refl _) I.hp ?_
    have : max (i + 1) p = p := by omega
    rw [this, hrev, hv]; exact z6
   ·rw [hrev]
    have := I.rel.alloc z2 hqn (Nat.le_refl _) (Nat.lt_of_lt_of_le hal1 I.nx) z3 z4 z5
    rw [hgs] at this
    exact this
   ·rw [hrev]
    exact I.ext.allocAt z2 hqn hn0 z3
   ·intro j hj hwj hSj
    have hji : j ≠ i := by omega
    rw [hrev]
    obtain ⟨lj, q1, q2, q3, q4, q5, q6, q7⟩ := hearly j hj hwj (hSj.resolve_right hji)
    refine ⟨lj, hφle _ _ q1, q2, q3, q4, q5, fun id o' lo h1 h2 h3 => ?_⟩
    by_cases he : id = (st i).al
    ·subst he
     rw [upd_same] at h2; injection h2 with h2; subst h2
     omega
    ·rw [upd_ne _ _ he] at h2
     exact q7 id o' lo h1 h2 h3
   ·intro j k hj hk hjk hwj hwk hSj hSk lj lk hlj hlk
    have hji : j ≠ i := by omega
    have hki : k ≠ i := by omega
    obtain ⟨oj, hoj, hcj, _⟩ := hwj
    obtain ⟨ok, hok, hck, _⟩ := hwk
    rw [upd_ne _ _ (alne j oj hoj hcj hji)] at hlj
    rw [upd_ne _ _ (alne k ok hok hck hki)] at hlk
    exact I.dist j k hj hk hjk ⟨oj, hoj, hcj, by assumption⟩ ⟨ok, hok, hck, by assumption⟩ (hSj.resolve_right hji) (hSk.resolve_right hki) lj lk hlj hlk
   ·intro j hj hwj hSj
    exact I.ghost j hj hwj fun h => hSj (.inl h)
 ·-- it changes the heap
  obtain ⟨hw, hc, hch, hop, _, _⟩ := h1
  have hEF : EF E ops st i := ⟨o, ho, hc, hw⟩
  have hpi : p ≤ i := by
   rcases Nat.lt_or_ge i p with h | h
   ·exact absurd ((I.ef i hEF).2 h) hS
   ·exact h
  have I := I.move C (i - p) p i (by omega) (Nat.le_of_lt hi) (fun j h1 h2 he => by
   have := C.chain h0 I.cl i hEF hm j h2 he
   have := (I.ef j he).1 this
   omega)
  have hg := I.guard_ C ho hm hw
  obtain ⟨ρa, r1, r2⟩ := I.opers C ho hS hm
  rw [show max i i = i by omega] at r2
  rw [← aoper_congr r1] at hop
  refine wpOpIn_wanted ho hg (oper_sound C.hE C.hrec I.rel r2 hop fun φ' w' u hu hR hX => ?_)
  have hal : (st (i + 1)).al = (st i).al := C.al_other ho (by rw [hc]; intro h; cases h)
  let φ2 : Phi := fun id => match φ' id with
   | some l => some l
   | none => φ id
  have hle2 : ∀ id l, φ' id = some l → φ2 id = some l := fun id l h => by show (match φ' id with | some l => some l | none => φ id) = _; rw [h]
  have hφle : ∀ id l, φ id = some l → φ2 id = some l := by
   intro id l h
   show (match φ' id with | some l => some l | none => φ id) = _
   by_cases hh : (st i).al ≤ id ∧ id < n1
   ·have h1 := hX.dom id (Nat.lt_of_lt_of_le hh.2 I.nx) (hid_in hh.1 hh.2)
    rw [h1]; exact h
   ·have h1 := hX.le id l (by rw [hid_out hh]; exact h)
    rw [h1]
  have hback : ∀ id, φ' id = none → ¬ ((st i).al ≤ id ∧ id < n1) → φ id = none := by
   intro id h hh
   cases hl : φ id with
   | none => rfl
   | some l =>
     have h1 := hX.le id l (by rw [hid_out hh]; exact hl)
     rw [h] at h1; cases h1
  have heq : hid n1 (st (i + 1)).al φ2 = φ' := by
   rw [hal]
   funext id
   by_cases hh : (st i).al ≤ id ∧ id < n1
   ·rw [hid_in hh.1 hh.2]
    exact (hX.dom id (Nat.lt_of_lt_of_le hh.2 I.nx) (hid_in hh.1 hh.2)).symm
   ·rw [hid_out hh]
    show (match φ' id with | some l => some l | none => φ id) = _
    cases h : φ' id with
    | some l => rfl
    | none => exact hback id h hh
  refine hK (i + 1) φ2 _ w' ⟨hi, I.cl_ hm, ?_, by rw [put_size]; exact I.sz, ?_, I.tm2_ C ho u, by rw [put_defers_]; exact I.df, by rw [heq]; exact hR, Nat.le_trans I.nx hX.nle, by rw [heq]; exact I.ext.trans hX, ?_, ?_, ?_, ?_, ?_⟩
  ·intro j hj
   have h := I.ef j hj
   constructor
   ·rintro (hs | rfl)
    ·have := h.1 hs; omega
    ·omega
   ·intro hlt
    by_cases hji : j = i
    ·exact .inr hji
    ·exact .inl (h.2 (by omega))
  ·refine I.tm1_ C ho hφle (Nat.le_succ _) hi ?_
   rw [show max (i + 1) (i + 1) = i + 1 by omega, heq]; exact hu
  ·intro j hj hwj hSj
   obtain ⟨lj, q1, q2, q3, q4, q5, q6⟩ := I.early j (by omega) hwj (hSj.resolve_right (by omega))
   have hblock : w'.heap[lj.c]? = w.heap[lj.c]? := hX.frame lj.c q5 q6
   refine ⟨lj, hφle _ _ q1, q2.keep hblock (fun id l h => hid_mono hφle h), q3, q4, Nat.lt_of_lt_of_le q5 hX.wle, fun id o' lo h1 h2 h3 => ?_⟩
   rw [heq] at h2
   rcases hX.img id o' lo h1 h2 h3 with hge | ⟨k, ok, lk, k1, k2, k3, k4⟩
   ·omega
   ·rw [← k4]; exact q6 k ok lk k1 k2 k3
  ·intro j k hj hk hjk hwj hwk hSj hSk lj lk hlj hlk
   have hSj' := hSj.resolve_right (show j ≠ i by omega)
   have hSk' := hSk.resolve_right (show k ≠ i by omega)
   have get : ∀ j, i + 1 ≤ j → AW E ops st j → S j → ∀ lj, φ2 (st j).al = some lj → φ (st j).al = some lj := by
    intro j hj hwj hSj lj hlj
    obtain ⟨lj', q1, _⟩ := I.early j (by omega) hwj hSj
    have := hφle _ _ q1
    rw [hlj] at this; injection this with this; subst this
    exact q1
   exact I.dist j k (by omega) (by omega) hjk hwj hwk hSj' hSk' lj lk (get j hj hwj hSj' lj hlj) (get k hk hwk hSk' lk hlk)
  ·intro j oj hoj hcj hh
   have hjn := I.none_ j oj hoj hcj (hh.imp (fun hn hs => hn (.inl hs)) id)
   have hjl := lt_of_at hoj
   have hlt : (st j).al < n1 := by have := C.al_le (i := j + 1) hjl; have := C.al_alloc hoj hcj; omega
   have hd : hid n1 (st i).al φ (st j).al = none := by
    cases h : hid n1 (st i).al φ (st j).al with
    | none => rfl
    | some l => have := hid_le h; rw [hjn] at this; cases this
   have := hX.dom _ (Nat.lt_of_lt_of_le hlt I.nx) hd
   show (match φ' (st j).al with | some l => some l | none => φ (st j).al) = none
   rw [this]; exact hjn
  ·intro j hj hwj hSj
   have hji : j ≠ i := fun e => hSj (.inr e)
   have hSj' : ¬ S j := fun h => hSj (.inl h)
   obtain ⟨oj, hoj, hcj, hwj'⟩ := hwj
   have hjl := lt_of_at hoj
   have hlt : (st j).al < n1 := by have := C.al_le (i := j + 1) hjl; have := C.al_alloc hoj hcj; omega
   have hjn := I.none_ j oj hoj hcj (.inl hSj')
   have hd : hid n1 (st i).al φ (st j).al = none := by
    cases h : hid n1 (st i).al φ (st j).al with
    | none => rfl
    | some l => have := hid_le h; rw [hjn] at this; cases this
   rw [hX.ghost _ (Nat.lt_of_lt_of_le hlt I.nx) hd]
   exact I.ghost j (by omega) ⟨oj, hoj, hcj, hwj'⟩ hSj'
  ·intro id h1 h2
   rw [hal] at h1
   rw [hX.ghost id (Nat.lt_of_lt_of_le h2 I.nx) (hid_in h1 h2)]
   exact I.g5 id h1 h2
end
end Go.Proofs.Ytmjmhpbncfjnpaa.Bm
