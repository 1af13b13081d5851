/- The abstract machine: runs of a function that are known: one entry for each state from which it is called. -/
import Derived.Test.YtdgplkcobpikiaaGreatBmVm
set_option linter.unusedSimpArgs false
set_option linter.unusedVariables false
namespace Go.Proofs.YtdgplkcobpikiaaGreat.Bm
open Go.RowKit

structure Mem where
  args : List AV
  need : List (Nat × AObj)
  nx : Nat
  v : AV
  out : List (Nat × AObj)
  nx2 : Nat
  gone : List Nat := []
def isIn (id : Nat) : List Nat → Bool
  | [] => false
  | j :: l => Nat.beq id j || isIn id l
def killG : List Nat → Tr AObj → Tr AObj
  | [], t => t
  | id :: l, t => killG l (t.set id none)
theorem killG_get : ∀ (l : List Nat) (t : Tr AObj) (id : Nat), (isIn id l = true → (killG l t).get id = none) ∧ (isIn id l = false → (killG l t).get id = t.get id)
  | [], t, id => ⟨fun h => (by cases h), fun _ => rfl⟩
  | j :: l, t, id => by
    obtain ⟨h1, h2⟩ := killG_get l (t.set j none) id
    cases hl : isIn id l with
    | true => exact ⟨fun _ => h1 hl, fun h => by simp [isIn, hl] at h⟩
    | false =>
      have e := h2 hl
      rw [Tr.get_set] at e
      refine ⟨fun h => ?_, fun h => ?_⟩
      · have hj : id = j := by
          simp only [isIn, hl, Bool.or_false] at h
          exact Nat.eq_of_beq_eq_true h
        rw [if_pos hj] at e
        exact e
      · have hj : ¬ id = j := fun hh => by subst hh; simp [isIn] at h
        rw [if_neg hj] at e
        exact e
def setL : List (Nat × AObj) → Tr AObj → Tr AObj
  | [], t => t
  | (id, o) :: l, t => setL l (t.set id (some o))
def isAt (σ : St) (id : Nat) (o : AObj) : Bool := match σ.get id with
  | some o' => AObj.beq o' o
  | none => false
def allAt (σ : St) : List (Nat × AObj) → Bool
  | [] => true
  | (id, o) :: l => isAt σ id o && allAt σ l
def hasK (id : Nat) : List (Nat × AObj) → Bool
  | [] => false
  | (j, _) :: l => Nat.beq id j || hasK id l
def outIn (need : List (Nat × AObj)) (nx : Nat) : List (Nat × AObj) → Bool
  | [] => true
  | (id, _) :: l => (hasK id need || Nat.ble nx id) && outIn need nx l
def keepL (σ : St) (out : List (Nat × AObj)) (gone : List Nat) : List (Nat × AObj) → Bool
  | [] => true
  | (id, o) :: l => (hasK id out || (isAt σ id o || isIn id gone)) && keepL σ out gone l
def goneL (σ : St) (need : List (Nat × AObj)) : List Nat → Bool
  | [] => true
  | id :: l => (hasK id need && (match σ.get id with | none => true | some _ => false)) && goneL σ need l
def Mem.st (e : Mem) : St := { heap := setL e.need .nil, next := e.nx }
def memOK (E : Env) (m f : Nat) (e : Mem) : Bool := match evS E m (.call f e.args) e.st with
  | some [(.val v, σ1)] => AV.beq v e.v && (Nat.beq σ1.next e.nx2 && (allAt σ1 e.out && (outIn e.need e.nx e.out && (keepL σ1 e.out e.gone e.need && goneL σ1 e.need e.gone))))
  | _ => false
def AllM (E : Env) (m f : Nat) : List Mem → Prop
  | [] => True
  | e :: l => memOK E m f e = true ∧ AllM E m f l
def memF (args : List AV) (σ : St) : List Mem → Option Mem
  | [] => none
  | e :: l => cond (AV.beqL args e.args && (Nat.beq σ.next e.nx && allAt σ e.need)) (some e) (memF args σ l)
def Mem.aft (e : Mem) (σ : St) : St := { heap := killG e.gone (setL e.out σ.heap), next := e.nx2 }
def memRun (es : List Mem) (args : List AV) (σ : St) : T (AV × St) := match memF args σ es with
  | some e => .ret (e.v, e.aft σ)
  | none => .fail
theorem setL_get : ∀ (l : List (Nat × AObj)) (t : Tr AObj) (id : Nat), (hasK id l = false → (setL l t).get id = t.get id) ∧ (hasK id l = true → ∃ o, (id, o) ∈ l ∧ (setL l t).get id = some o)
  | [], t, id => ⟨fun _ => rfl, fun h => by cases h⟩
  | (j, o) :: l, t, id => by
    obtain ⟨h1, h2⟩ := setL_get l (t.set j (some o)) id
    cases hl : hasK id l with
    | true =>
      obtain ⟨o', e1, e2⟩ := h2 hl
      exact ⟨fun h => by simp [hasK, hl] at h, fun _ => ⟨o', List.mem_cons_of_mem _ e1, e2⟩⟩
    | false =>
      have e := h1 hl
      rw [Tr.get_set] at e
      refine ⟨fun h => ?_, fun h => ?_⟩
      · have hj : ¬ id = j := fun hh => by subst hh; simp [hasK] at h
        rw [if_neg hj] at e
        exact e
      · have hj : id = j := by
          simp only [hasK, hl, Bool.or_false] at h
          exact Nat.eq_of_beq_eq_true h
        subst hj
        rw [if_pos rfl] at e
        exact ⟨o, List.mem_cons_self, e⟩
theorem allAt_mem {σ : St} : ∀ {l : List (Nat × AObj)}, allAt σ l = true → ∀ id o, (id, o) ∈ l → σ.get id = some o
  | [], h, id, o, hm => by simp at hm
  | (j, x) :: l, h, id, o, hm => by
    simp only [allAt, Bool.and_eq_true] at h
    rcases List.mem_cons.1 hm with hm | hm
    · injection hm with e1 e2; subst e1; subst e2
      have := h.1
      unfold isAt at this
      split at this
      · rename_i o' hg; rw [hg, AObj.beq_eq _ _ this]
      · cases this
    · exact allAt_mem h.2 id o hm
theorem outIn_mem {need : List (Nat × AObj)} {nx : Nat} : ∀ {l : List (Nat × AObj)}, outIn need nx l = true → ∀ id, hasK id l = true → hasK id need = true ∨ nx ≤ id
  | [], h, id, hm => by cases hm
  | (j, x) :: l, h, id, hm => by
    simp only [outIn, Bool.and_eq_true, Bool.or_eq_true] at h
    simp only [hasK, Bool.or_eq_true] at hm
    rcases hm with hm | hm
    · have := Nat.eq_of_beq_eq_true hm; subst this
      exact h.1.imp (fun h => h) fun h => Nat.le_of_ble_eq_true h
    · exact outIn_mem h.2 id hm
theorem hasK_of_mem : ∀ {l : List (Nat × AObj)} {id : Nat} {o : AObj}, (id, o) ∈ l → hasK id l = true
  | [], id, o, h => by simp at h
  | (j, x) :: l, id, o, h => by
    simp only [hasK, Bool.or_eq_true]
    rcases List.mem_cons.1 h with h | h
    · injection h with e1 e2; subst e1; exact .inl (Nat.beq_refl _)
    · exact .inr (hasK_of_mem h)
theorem goneL_mem {σ : St} {need : List (Nat × AObj)} : ∀ {l : List Nat}, goneL σ need l = true → ∀ id, isIn id l = true → hasK id need = true ∧ σ.get id = none
  | [], h, id, hm => by cases hm
  | j :: l, h, id, hm => by
    simp only [goneL, Bool.and_eq_true] at h
    simp only [isIn, Bool.or_eq_true] at hm
    rcases hm with hm | hm
    · have := Nat.eq_of_beq_eq_true hm; subst this
      refine ⟨h.1.1, ?_⟩
      have h2 := h.1.2
      split at h2
      · rename_i hg; exact hg
      · cases h2
    · exact goneL_mem h.2 id hm
theorem keepL_mem {σ : St} {out : List (Nat × AObj)} {gone : List Nat} : ∀ {l : List (Nat × AObj)}, keepL σ out gone l = true → ∀ id o, (id, o) ∈ l → hasK id out = true ∨ σ.get id = some o ∨ isIn id gone = true
  | [], h, id, o, hm => by simp at hm
  | (j, x) :: l, h, id, o, hm => by
    simp only [keepL, Bool.and_eq_true, Bool.or_eq_true] at h
    rcases List.mem_cons.1 hm with hm | hm
    · injection hm with e1 e2; subst e1; subst e2
      refine h.1.imp (fun h => h) fun h => h.imp (fun h => ?_) fun h => h
      unfold isAt at h
      split at h
      · rename_i o' hg; rw [hg, AObj.beq_eq _ _ h]
      · cases h
    · exact keepL_mem h.2 id o hm
theorem memF_some {args : List AV} {σ : St} : ∀ {es : List Mem} {e : Mem}, memF args σ es = some e → e ∈ es ∧ args = e.args ∧ σ.next = e.nx ∧ allAt σ e.need = true
  | [], e, h => by cases h
  | x :: es, e, h => by
    simp only [memF] at h
    cases hb : (AV.beqL args x.args && (Nat.beq σ.next x.nx && allAt σ x.need)) with
    | true =>
      rw [hb] at h
      simp only [cond_true, Option.some.injEq] at h; subst h
      simp only [Bool.and_eq_true] at hb
      exact ⟨List.mem_cons_self, AV.eq_of_beqL _ _ hb.1, Nat.eq_of_beq_eq_true hb.2.1, hb.2.2⟩
    | false =>
      rw [hb] at h
      obtain ⟨q1, q2⟩ := memF_some (es := es) h
      exact ⟨List.mem_cons_of_mem _ q1, q2⟩
theorem AllM.mem {E : Env} {m f : Nat} : ∀ {es : List Mem}, AllM E m f es → ∀ e ∈ es, memOK E m f e = true
  | [], _, e, h => by simp at h
  | x :: es, h, e, hm => by
    rcases List.mem_cons.1 hm with rfl | hm
    · exact h.1
    · exact AllM.mem h.2 e hm
section
variable {P : Program} {E : Env} {w0 w w' : World} {φ φ' : Phi} {σ σ' : St}
theorem mem_frame {e : Mem} {u : Value} {σ1 : St} (hR : Rel w0 φ σ.get σ.next w) (hnx : σ.next = e.nx) (hat : allAt σ e.need = true) (hn2 : σ1.next = e.nx2) (ho : allAt σ1 e.out = true)
    (hin : outIn e.need e.nx e.out = true) (hk : keepL σ1 e.out e.gone e.need = true) (hgo : goneL σ1 e.need e.gone = true)
    (h2 : Rel w0 φ' σ1.get σ1.next w') (h3 : Ext w0 φ e.st.get e.st.next w φ' σ1.get σ1.next w') :
    Rel w0 φ' (e.aft σ).get (e.aft σ).next w' ∧ Ext w0 φ σ.get σ.next w φ' (e.aft σ).get (e.aft σ).next w' := by
  have hst : e.st.next = e.nx := rfl
  rw [hst] at h3
  rw [hn2] at h2 h3
  have sub : ∀ id o, e.st.get id = some o → σ.get id = some o ∧ hasK id e.need = true := fun id o hg => by
    obtain ⟨q1, q2⟩ := setL_get e.need .nil id
    cases hb : hasK id e.need with
    | false => have : e.st.get id = (Tr.nil : Tr AObj).get id := q1 hb; rw [this] at hg; cases hg
    | true =>
      obtain ⟨o', e1, e2⟩ := q2 hb
      have : e.st.get id = some o' := e2
      rw [this] at hg; injection hg with hg; subst hg
      exact ⟨allAt_mem hat _ _ e1, rfl⟩
  have inn : ∀ id, hasK id e.need = true → ∃ o, e.st.get id = some o ∧ σ.get id = some o ∧ (e.aft σ).get id = σ1.get id := fun id hb => by
    obtain ⟨o, e1, e2⟩ := (setL_get e.need .nil id).2 hb
    refine ⟨o, e2, allAt_mem hat _ _ e1, ?_⟩
    obtain ⟨r1, r2⟩ := setL_get e.out σ.heap id
    obtain ⟨k1, k2⟩ := killG_get e.gone (setL e.out σ.heap) id
    cases hgn : isIn id e.gone with
    | true => rw [(goneL_mem hgo id hgn).2]; exact k1 hgn
    | false =>
    refine (k2 hgn).trans ?_
    cases hb2 : hasK id e.out with
    | true =>
      obtain ⟨o2, d1, d2⟩ := r2 hb2
      rw [allAt_mem ho _ _ d1]; exact d2
    | false =>
      rcases keepL_mem hk id o e1 with hh | hh | hh
      · rw [hb2] at hh; cases hh
      · rw [hh]; exact (r1 hb2).trans (allAt_mem hat _ _ e1)
      · rw [hgn] at hh; cases hh
  have cases_ : ∀ id o, (e.aft σ).get id = some o → ((hasK id e.need = true ∨ e.nx ≤ id) ∧ σ1.get id = some o) ∨ (id < e.nx ∧ hasK id e.need = false ∧ σ.get id = some o) := fun id o hg => by
    obtain ⟨r1, r2⟩ := setL_get e.out σ.heap id
    obtain ⟨k1, k2⟩ := killG_get e.gone (setL e.out σ.heap) id
    cases hgn : isIn id e.gone with
    | true =>
      have : (e.aft σ).get id = none := k1 hgn
      rw [this] at hg; cases hg
    | false =>
    have hka : (e.aft σ).get id = (setL e.out σ.heap).get id := k2 hgn
    cases hb2 : hasK id e.out with
    | true =>
      obtain ⟨o2, d1, d2⟩ := r2 hb2
      have : (e.aft σ).get id = some o2 := hka.trans d2
      rw [this] at hg; injection hg with hg; subst hg
      exact .inl ⟨outIn_mem hin id hb2, allAt_mem ho _ _ d1⟩
    | false =>
      cases hb : hasK id e.need with
      | true =>
        obtain ⟨o', _, _, q⟩ := inn id hb
        rw [q] at hg
        exact .inl ⟨.inl rfl, hg⟩
      | false =>
        have hg' : σ.get id = some o := (r1 hb2).symm.trans (hka.symm.trans hg)
        have : id < e.nx := by
          by_cases h : id < e.nx
          · exact h
          · rw [hR.gfresh id (by omega)] at hg'; cases hg'
        exact .inr ⟨this, rfl, hg'⟩
  have out_ : ∀ id, hasK id e.need = false → e.st.get id = none := fun id hb => (setL_get e.need .nil id).1 hb
  have old : ∀ id l, id < e.nx → φ' id = some l → φ id = some l := fun id l hid hl => by
    cases hp : φ id with
    | none => rw [h3.dom id hid hp] at hl; cases hl
    | some l' => rw [h3.le id l' hp] at hl; injection hl with hl; rw [hl]
  have img_ : ∀ id o l, σ1.get id = some o → φ' id = some l → o.rw = true → w.heap.size ≤ l.c ∨ ∃ i o0 l0, (σ.get i = some o0 ∧ hasK i e.need = true) ∧ φ i = some l0 ∧ o0.rw = true ∧ l0.c = l.c := fun id o l a b c => by
    rcases h3.img id o l a b c with h | ⟨i, o0, l0, q1, q2, q3, q4⟩
    · exact .inl h
    · exact .inr ⟨i, o0, l0, sub i o0 q1, q2, q3, q4⟩
  -- what is written behind does not stand where an untouched object stands
  have apart : ∀ i oi li j oj lj, σ1.get i = some oi → φ' i = some li → oi.rw = true → hasK j e.need = false → σ.get j = some oj → φ j = some lj → li.c ≠ lj.c := fun i oi li j oj lj a1 a2 a3 b1 b2 b3 => by
    have hlt := hR.lt b2 b3
    rcases img_ i oi li a1 a2 a3 with h | ⟨i0, o0, l0, ⟨q1, q1'⟩, q2, q3, q4⟩
    · omega
    · have hne : i0 ≠ j := fun h => by subst h; rw [q1'] at b1; cases b1
      have := hR.inj i0 j o0 oj l0 lj hne q1 b2 q2 b3 q3
      omega
  refine ⟨⟨fun id o l hg hl => ?_, fun id o l hg hl => ?_, fun i j oi oj li lj hij hi hj hli hlj hrw => ?_, fun id hid => h2.fresh id hid, fun id hid => ?_, h2.below⟩,
    ⟨h3.le, fun id hid => h3.dom id (by rw [← hnx]; exact hid), fun id hid hn => ?_, fun c hc hno => h3.frame c hc fun id o l a b d => hno id o l (sub id o a).1 b d, fun id o l hg hl hrw => ?_, by rw [hnx]; exact h3.nle, h3.wle⟩⟩
  · rcases cases_ id o hg with ⟨_, a⟩ | ⟨a1, a2, a3⟩
    · exact h2.objs id o l a hl
    · have hp := old id l a1 hl
      refine (hR.objs id o l a3 hp).keep (h3.frame l.c (hR.lt a3 hp) fun i0 o0 l0 b1 b2 b3 => ?_) h3.le
      obtain ⟨c1, c2⟩ := sub i0 o0 b1
      have hne : i0 ≠ id := fun h => by subst h; rw [c2] at a2; cases a2
      exact hR.inj i0 id o0 o l0 l hne c1 a3 b2 hp b3
  · rcases cases_ id o hg with ⟨_, a⟩ | ⟨a1, a2, a3⟩
    · exact h2.own id o l a hl
    · exact hR.own id o l a3 (old id l a1 hl)
  · rcases cases_ i oi hi with ⟨_, a⟩ | ⟨a1, a2, a3⟩
    · rcases cases_ j oj hj with ⟨_, b⟩ | ⟨b1, b2, b3⟩
      · exact h2.inj i j oi oj li lj hij a b hli hlj hrw
      · exact apart i oi li j oj lj a hli hrw b2 b3 (old j lj b1 hlj)
    · have hp := old i li a1 hli
      rcases cases_ j oj hj with ⟨_, b⟩ | ⟨b1, b2, b3⟩
      · cases hjr : oj.rw with
        | true => exact (apart j oj lj i oi li b hlj hjr a2 a3 hp).symm
        | false =>
          have h1 := (hR.own i oi li a3 hp).1 hrw
          have h4 : ¬ w0.heap.size ≤ lj.c := fun h => by have := (h2.own j oj lj b hlj).2 h; rw [hjr] at this; cases this
          omega
      · exact hR.inj i j oi oj li lj hij a3 b3 hp (old j lj b1 hlj) hrw
  · have hid : e.nx2 ≤ id := hid
    have hle := h3.nle
    cases hg : (e.aft σ).get id with
    | none => rfl
    | some o =>
      rcases cases_ id o hg with ⟨_, a⟩ | ⟨a1, a2, a3⟩
      · rw [h2.gfresh id hid] at a; cases a
      · omega
  · rw [hnx] at hid
    cases hb : hasK id e.need with
    | true =>
      obtain ⟨o, c1, c2, c3⟩ := inn id hb
      rw [c3, h3.ghost id hid hn, c1, c2]
    | false =>
      cases hb2 : hasK id e.out with
      | true =>
        rcases outIn_mem hin id hb2 with h | h
        · rw [hb] at h; cases h
        · omega
      | false =>
        refine ((killG_get e.gone (setL e.out σ.heap) id).2 ?_).trans ((setL_get e.out σ.heap id).1 hb2)
        cases hgn : isIn id e.gone with
        | false => rfl
        | true => have := (goneL_mem hgo id hgn).1; rw [hb] at this; cases this
  · rcases cases_ id o hg with ⟨_, a⟩ | ⟨a1, a2, a3⟩
    · rcases img_ id o l a hl hrw with h | ⟨i, o0, l0, ⟨q1, _⟩, q2, q3, q4⟩
      · exact .inl h
      · exact .inr ⟨i, o0, l0, q1, q2, q3, q4⟩
    · exact .inr ⟨id, o, l, a3, old id l a1 hl, hrw, rfl⟩
/-- Known runs in place of a function. -/
theorem Good.addM2 {E' : Env} (h : Good P E) (h' : Good P E') {m f : Nat} {es : List Mem} (hall : AllM E' m f es) : Good P (Bm.addF E f ⟨memRun es⟩) :=
  h.addF fun w0 args σ v σ' hr => by
    simp only [memRun] at hr
    split at hr
    · rename_i e hf
      simp only [T.run, Option.some.injEq, Prod.mk.injEq] at hr
      obtain ⟨rfl, rfl⟩ := hr
      obtain ⟨he, rfl, hnx, hat⟩ := memF_some hf
      have hok := hall.mem e he
      unfold memOK at hok
      split at hok
      · rename_i v σ1 hev
        simp only [Bool.and_eq_true] at hok
        obtain ⟨o1, o2, o3, o4, o5, o6⟩ := hok
        have hv := AV.eq_of_beq _ _ o1
        have hn2 := Nat.eq_of_beq_eq_true o2
        have key : CallS P w0 f e.args e.st [(.val v, σ1)] := evS_sound h'.env (h'.intr w0) m _ _ _ hev
        refine ⟨key.1, fun n φ w us hR hus => ?_⟩
        have hR0 : Rel w0 φ e.st.get e.st.next w := by
          have sub : ∀ id o, e.st.get id = some o → σ.get id = some o := fun id o hg => by
            obtain ⟨q1, q2⟩ := setL_get e.need .nil id
            cases hb : hasK id e.need with
            | false => have : e.st.get id = (Tr.nil : Tr AObj).get id := q1 hb; rw [this] at hg; cases hg
            | true =>
              obtain ⟨o', e1, e2⟩ := q2 hb
              have : e.st.get id = some o' := e2
              rw [this] at hg; injection hg with hg; subst hg
              exact allAt_mem hat _ _ e1
          refine ⟨fun id o l hg hl => hR.objs id o l (sub id o hg) hl, fun id o l hg hl => hR.own id o l (sub id o hg) hl, fun i j oi oj li lj hij hi hj => hR.inj i j oi oj li lj hij (sub i oi hi) (sub j oj hj),
            fun id hid => hR.fresh id (by rw [hnx]; exact hid), fun id hid => ?_, hR.below⟩
          cases hg : e.st.get id with
          | none => rfl
          | some o =>
            have := sub id o hg
            rw [hR.gfresh id (by rw [hnx]; exact hid)] at this
            cases this
        refine CallsIn.mono (key.2 n φ w us hR0 hus) fun x w' hx => ?_
        obtain ⟨v1, σ2, hm, u, φ1, rfl, q1, q2, q3⟩ := hx
        simp only [List.mem_singleton, Prod.mk.injEq, Out.val.injEq] at hm
        obtain ⟨rfl, rfl⟩ := hm
        obtain ⟨z1, z2⟩ := mem_frame (u := u) hR hnx hat hn2 o3 o4 o5 o6 q2 q3
        exact ⟨u, φ1, rfl, by rw [← hv]; exact q1, z1, z2⟩
      · cases hok
    · cases hr
theorem Good.addM (h : Good P E) {m f : Nat} {es : List Mem} (hall : AllM E m f es) : Good P (Bm.addF E f ⟨memRun es⟩) := h.addM2 h hall
end
end Go.Proofs.YtdgplkcobpikiaaGreat.Bm
