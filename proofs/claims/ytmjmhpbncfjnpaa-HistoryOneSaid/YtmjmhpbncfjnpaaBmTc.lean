/- The abstract machine: regions that draw their order: what stands while some operations are carried out. -/
import Derived.Test.YtmjmhpbncfjnpaaBmTb
set_option linter.unusedSimpArgs false
set_option linter.unusedVariables false
namespace Go.Proofs.Ytmjmhpbncfjnpaa.Bm
open Go.RowKit
def W (ops : Array Oper) (t : Tmp) (j : Nat) : Prop := ∃ o, ops[j]? = some o ∧ o.dst = some t
structure Ctx (P : Program) (E : Env) (rec : Job → St → Option (Out × St)) (ops : Array Oper) (mk wr : Tr Nat) (st : Nat → DS) (vs : Nat → AV) (obs : Nat → AObj) (w0 ws : World) (φ0 : Phi) (g0 : Heap) (n0 n1 : Nat) : Prop where
 hE : EnvOK P E
 hrec : RecOK P w0 rec
 step : ∀ i o, ops[i]? = some o → DStep E rec ops mk o i (st i) (vs i) (obs i) (st (i + 1))
 uniq : ∀ t j j', W ops t j → W ops t j' → j = j'
 wr_ : ∀ t j, wr.get t = some j ↔ W ops t j
 ok : ∀ i o, ops[i]? = some o → operOk mk wr (mask mk i) i o = true
 bits : ∀ i o, ops[i]? = some o → ∀ b, (mask mk i).testBit b = true → ∃ e ∈ o.after, ebinds e = true ∧ (e.on = b ∨ (mask mk e.on).testBit b = true)
 al1 : (st ops.size).al = n1
 base : w0.heap.size ≤ ws.heap.size
 n0le : n0 ≤ (st 0).al
 reads : ∀ r ∈ (st ops.size).reads, readOk E mk r (st ops.size).effs [] (st ops.size).σ.heap = true
section
variable {P : Program} {E : Env} {rec : Job → St → Option (Out × St)} {ops : Array Oper} {mk wr : Tr Nat} {st : Nat → DS} {vs : Nat → AV} {obs : Nat → AObj} {w0 ws : World} {φ0 : Phi} {g0 : Heap} {n0 n1 : Nat}
def EF (E : Env) (ops : Array Oper) (st : Nat → DS) (i : Nat) : Prop := ∃ o, ops[i]? = some o ∧ acls E o.op = .eff ∧ awanted (st i).fr ops o = some true
def AW (E : Env) (ops : Array Oper) (st : Nat → DS) (i : Nat) : Prop := ∃ o, ops[i]? = some o ∧ acls E o.op = .alloc ∧ awanted (st i).fr ops o = some true
theorem lt_of_at {i : Nat} {o : Oper} (h : ops[i]? = some o) : i < ops.size := (Array.getElem?_eq_some_iff.1 h).1
theorem at_of_lt {i : Nat} (h : i < ops.size) : ∃ o, ops[i]? = some o := ⟨ops[i], Array.getElem?_eq_getElem h⟩
theorem Ctx.al_succ (C : Ctx P E rec ops mk wr st vs obs w0 ws φ0 g0 n0 n1) {i : Nat} (h : i < ops.size) : (st i).al ≤ (st (i + 1)).al := by
 obtain ⟨o, ho⟩ := at_of_lt h
 rw [(C.step i o ho).2.1]
 split
 ·exact Nat.le_succ _
 ·exact Nat.le_refl _
theorem Ctx.al_mono (C : Ctx P E rec ops mk wr st vs obs w0 ws φ0 g0 n0 n1) {i j : Nat} (h : i ≤ j) (hj : j ≤ ops.size) : (st i).al ≤ (st j).al := by
 induction j with
 | zero => have : i = 0 := by omega
           subst this; exact Nat.le_refl _
 | succ j ih =>
   by_cases he : i = j + 1
   ·subst he; exact Nat.le_refl _
   ·exact Nat.le_trans (ih (by omega) (by omega)) (C.al_succ (by omega))
theorem Ctx.al_le (C : Ctx P E rec ops mk wr st vs obs w0 ws φ0 g0 n0 n1) {i : Nat} (h : i ≤ ops.size) : (st i).al ≤ n1 := by
 rw [← C.al1]; exact C.al_mono h (Nat.le_refl _)
theorem Ctx.al_alloc (C : Ctx P E rec ops mk wr st vs obs w0 ws φ0 g0 n0 n1) {i : Nat} {o : Oper} (ho : ops[i]? = some o) (hc : acls E o.op = .alloc) : (st (i + 1)).al = (st i).al + 1 := by
 rw [(C.step i o ho).2.1, hc]
theorem Ctx.al_other (C : Ctx P E rec ops mk wr st vs obs w0 ws φ0 g0 n0 n1) {i : Nat} {o : Oper} (ho : ops[i]? = some o) (hc : acls E o.op ≠ .alloc) : (st (i + 1)).al = (st i).al := by
 rw [(C.step i o ho).2.1]
 cases h : acls E o.op with
 | alloc => exact absurd h hc
 | read => rfl
 | eff => rfl
theorem Ctx.n0_le (C : Ctx P E rec ops mk wr st vs obs w0 ws φ0 g0 n0 n1) {i : Nat} (h : i ≤ ops.size) : n0 ≤ (st i).al := Nat.le_trans C.n0le (C.al_mono (Nat.zero_le _) h)
theorem put_get {fr fr' : Fr} {dst : Option Tmp} {v : AV} (h : fr.put dst v = some fr') (t : Tmp) : fr'.get t = (if dst = some t then v else fr.get t) ∧ fr'.size = fr.size ∧ fr'.marks = fr.marks ∧ fr'.rnd = fr.rnd ∧ (dst = some t → t < fr.size) := by
 rw [Fr.put_eq] at h
 cases dst with
 | none =>
   simp only [Option.some.injEq] at h; subst h
   exact ⟨by simp, rfl, rfl, rfl, by simp⟩
 | some d =>
   simp only at h
   obtain ⟨hb, h⟩ := cond_some h
   simp only [Option.some.injEq] at h; subst h
   have hlt : d < fr.size := by simpa [Nat.blt_eq] using hb
   refine ⟨?_, rfl, rfl, rfl, fun e => by injection e with e; subst e; exact hlt⟩
   simp only [Fr.get]
   rw [Tr.get_set]
   by_cases ht : t = d
   ·subst ht; simp
   ·rw [if_neg ht, if_neg (by intro e; injection e with e; exact ht e.symm)]
theorem Ctx.frame (C : Ctx P E rec ops mk wr st vs obs w0 ws φ0 g0 n0 n1) : ∀ i, i ≤ ops.size → (st i).fr.size = (st 0).fr.size ∧ (st i).fr.marks = (st 0).fr.marks ∧ (st i).fr.rnd = (st 0).fr.rnd ∧
  ∀ t, (∀ j, W ops t j → j < i → (st i).fr.get t = vs j) ∧ ((∀ j, W ops t j → ¬ j < i) → (st i).fr.get t = (st 0).fr.get t) := by
 intro i
 induction i with
 | zero => exact fun _ => ⟨rfl, rfl, rfl, fun t => ⟨fun j _ h => by omega, fun _ => rfl⟩⟩
 | succ i ih =>
   intro hi
   obtain ⟨h1, h2, h3, h4⟩ := ih (by omega)
   obtain ⟨o, ho⟩ := at_of_lt (ops := ops) (i := i) (by omega)
   have hp := (C.step i o ho).1
   refine ⟨(put_get hp 0).2.1.trans h1, (put_get hp 0).2.2.1.trans h2, (put_get hp 0).2.2.2.1.trans h3, fun t => ⟨fun j hj hlt => ?_, fun hno => ?_⟩⟩
   ·rw [(put_get hp t).1]
    by_cases hd : o.dst = some t
    ·rw [if_pos hd]
     have : i = j := C.uniq t i j ⟨o, ho, hd⟩ hj
     rw [this]
    ·rw [if_neg hd]
     have hne : j ≠ i := fun e => by
      subst e
      obtain ⟨o', ho', hd'⟩ := hj
      rw [ho] at ho'; injection ho' with ho'; subst ho'
      exact hd hd'
     exact (h4 t).1 j hj (by omega)
   ·rw [(put_get hp t).1]
    have hd : ¬ o.dst = some t := fun hd => hno i ⟨o, ho, hd⟩ (by omega)
    rw [if_neg hd]
    exact (h4 t).2 fun j hj hlt => hno j hj (by omega)
theorem Ctx.mask_lt (C : Ctx P E rec ops mk wr st vs obs w0 ws φ0 g0 n0 n1) : ∀ i, i < ops.size → ∀ b, (mask mk i).testBit b = true → b < i := by
 intro i
 induction i using Nat.strongRecOn with
 | _ i ih =>
   intro hi b hb
   obtain ⟨o, ho⟩ := at_of_lt hi
   obtain ⟨e, h1, h2, h3⟩ := C.bits i o ho b hb
   have hok := C.ok i o ho
   simp only [operOk, Bool.and_eq_true] at hok
   have he : edgeOk i e = true := List.all_eq_true.1 hok.1.1.1 e (Array.mem_toList_iff.2 h1)
   unfold edgeOk at he
   rw [h2] at he
   simp only [cond_true] at he
   have hlt : e.on < i := by simpa [Nat.blt_eq] using he
   rcases h3 with h3 | h3
   ·omega
   ·have := ih e.on hlt (by omega) b h3
    omega
theorem ebinds_any (e : Edge) : ebinds e = Region.binds .any e := by
 unfold ebinds Region.binds
 cases e.ground <;> rfl
theorem Ctx.effs_same (C : Ctx P E rec ops mk wr st vs obs w0 ws φ0 g0 n0 n1) {i : Nat} (hi : i < ops.size) (h : ¬ EF E ops st i) : (st (i + 1)).effs = (st i).effs := by
 obtain ⟨o, ho⟩ := at_of_lt hi
 rcases (C.step i o ho).2.2 with h1 | h1 | h1 | h1
 ·exact h1.2.2.2.1
 ·exact h1.2.2.2.2.1
 ·exact h1.2.2.2.2.1
 ·exact absurd ⟨o, ho, h1.2.1, h1.1⟩ h
theorem Ctx.effs_more (C : Ctx P E rec ops mk wr st vs obs w0 ws φ0 g0 n0 n1) {i : Nat} (h : EF E ops st i) : (st (i + 1)).effs = (i, (st i).σ.heap) :: (st i).effs ∧ chainOk mk (st i).effs i = true := by
 obtain ⟨o, ho, hc, hw⟩ := h
 rcases (C.step i o ho).2.2 with h1 | h1 | h1 | h1
 ·rw [hw] at h1; cases h1.1
 ·rw [hc] at h1; cases h1.2.1
 ·rw [hc] at h1; cases h1.2.1
 ·exact ⟨h1.2.2.2.2.1, h1.2.2.1⟩
theorem EF.lt {i : Nat} (h : EF E ops st i) : i < ops.size := by
 obtain ⟨o, ho, _⟩ := h
 exact lt_of_at ho
theorem Ctx.head (C : Ctx P E rec ops mk wr st vs obs w0 ws φ0 g0 n0 n1) (h0 : (st 0).effs = []) : ∀ i, i ≤ ops.size → (∀ e ∈ (st i).effs, EF E ops st e.1 ∧ e.1 < i) ∧
  ((∃ j, j < i ∧ EF E ops st j) → ∃ j h es, (st i).effs = (j, h) :: es ∧ EF E ops st j ∧ j < i ∧ ∀ k, k < i → EF E ops st k → k ≤ j) := by
 intro i
 induction i with
 | zero => exact fun _ => ⟨by rw [h0]; intro e he; simp at he, fun ⟨j, h, _⟩ => by omega⟩
 | succ i ih =>
   intro hi
   obtain ⟨h1, h2⟩ := ih (by omega)
   by_cases he : EF E ops st i
   ·rw [(C.effs_more he).1]
    refine ⟨fun e hmem => ?_, fun _ => ⟨i, _, _, rfl, he, by omega, fun k hk _ => by omega⟩⟩
    rcases List.mem_cons.1 hmem with rfl | hmem
    ·exact ⟨he, Nat.lt_succ_self i⟩
    ·exact ⟨(h1 e hmem).1, by have := (h1 e hmem).2; omega⟩
   ·rw [C.effs_same (by omega) he]
    refine ⟨fun e hmem => ⟨(h1 e hmem).1, by have := (h1 e hmem).2; omega⟩, fun ⟨j, hj, hej⟩ => ?_⟩
    have hne : j ≠ i := fun e => by subst e; exact he hej
    obtain ⟨j', h, es, q1, q2, q3, q4⟩ := h2 ⟨j, by omega, hej⟩
    exact ⟨j', h, es, q1, q2, by omega, fun k hk hek => q4 k (by have : k ≠ i := fun e => by subst e; exact he hek
                                                                 omega) hek⟩
theorem Ctx.chain (C : Ctx P E rec ops mk wr st vs obs w0 ws φ0 g0 n0 n1) (h0 : (st 0).effs = []) {S : Nat → Prop} (hcl : ∀ i, S i → ∀ b, (mask mk i).testBit b = true → S b) :
  ∀ i, EF E ops st i → (∀ b, (mask mk i).testBit b = true → S b) → ∀ j, j < i → EF E ops st j → S j := by
 intro i
 induction i using Nat.strongRecOn with
 | _ i ih =>
   intro hi hm j hj hej
   obtain ⟨j0, h, es, q1, q2, q3, q4⟩ := (C.head h0 i (Nat.le_of_lt hi.lt)).2 ⟨j, hj, hej⟩
   have hch := (C.effs_more hi).2
   rw [q1] at hch
   have hS : S j0 := hm j0 hch
   have hle := q4 j hj hej
   by_cases he : j = j0
   ·subst he; exact hS
   ·exact ih j0 q3 q2 (hcl j0 hS) j (by omega) hej
theorem Ctx.down (C : Ctx P E rec ops mk wr st vs obs w0 ws φ0 g0 n0 n1) {r : Nat × Op × AV × Fr} (hr : r ∈ (st ops.size).reads) : ∀ k q, q + k = ops.size → ∃ later h, readOk E mk r (st q).effs later h = true ∧
  ((EF E ops st q ∨ q = ops.size) → h = (st q).σ.heap) ∧ ∀ e ∈ later, EF E ops st e.1 ∧ q ≤ e.1 := by
 intro k
 induction k with
 | zero =>
   intro q hq
   have : q = ops.size := by omega
   subst this
   exact ⟨[], _, C.reads r hr, fun _ => rfl, fun e he => by simp at he⟩
 | succ k ih =>
   intro q hq
   obtain ⟨later, h, h1, h2, h3⟩ := ih (q + 1) (by omega)
   by_cases he : EF E ops st q
   ·rw [(C.effs_more he).1] at h1
    simp only [readOk, Bool.and_eq_true] at h1
    refine ⟨_, _, h1.2, fun _ => rfl, fun e hmem => ?_⟩
    rcases List.mem_cons.1 hmem with rfl | hmem
    ·exact ⟨he, Nat.le_refl _⟩
    ·exact ⟨(h3 e hmem).1, by have := (h3 e hmem).2; omega⟩
   ·rw [C.effs_same (by omega) he] at h1
    exact ⟨later, h, h1, fun hq' => by rcases hq' with hq' | hq'
                                       ·exact absurd hq' he
                                       ·omega, fun e hmem => ⟨(h3 e hmem).1, by have := (h3 e hmem).2; omega⟩⟩
theorem readOk_now {r : Nat × Op × AV × Fr} {effs later : List (Nat × Tr AObj)} {h : Tr AObj} (hr : readOk E mk r effs later h = true) (hm : mayAt mk r.1 later effs = true) :
  aread E r.2.2.2.eval h.get r.2.1 = some r.2.2.1 := by
 have key : (cond (mayAt mk r.1 later effs) (match aread E r.2.2.2.eval h.get r.2.1 with | some v => AV.beq v r.2.2.1 | none => false) true) = true := by
  cases effs with
  | nil => exact hr
  | cons p es =>
    obtain ⟨j, h0⟩ := p
    simp only [readOk, Bool.and_eq_true] at hr
    exact hr.1
 rw [hm] at key
 simp only [cond_true] at key
 split at key
 ·rename_i v hv
  rw [hv, AV.eq_of_beq _ _ key]
 ·cases key
theorem Ctx.reads_in (C : Ctx P E rec ops mk wr st vs obs w0 ws φ0 g0 n0 n1) : ∀ k i, i + k = ops.size → ∀ r ∈ (st i).reads, r ∈ (st ops.size).reads := by
 intro k
 induction k with
 | zero => intro i hi r hr; have : i = ops.size := by omega
           subst this; exact hr
 | succ k ih =>
   intro i hi r hr
   refine ih (i + 1) (by omega) r ?_
   obtain ⟨o, ho⟩ := at_of_lt (ops := ops) (i := i) (by omega)
   rcases (C.step i o ho).2.2 with h1 | h1 | h1 | h1
   ·rw [h1.2.2.2.2]; exact hr
   ·rw [h1.2.2.2.2.2]
    cases looks o.op
    ·exact hr
    ·exact List.mem_cons_of_mem _ hr
   ·rw [h1.2.2.2.2.2]; exact hr
   ·rw [h1.2.2.2.2.2]; exact hr
end
end Go.Proofs.Ytmjmhpbncfjnpaa.Bm
