/- The abstract machine: runs in which the order of a map's entries is open: all that a run may come to. -/
import Derived.Test.YtdgplkcobpikiaaGreatBmVk
set_option linter.unusedSimpArgs false
set_option linter.unusedVariables false
namespace Go.Proofs.YtdgplkcobpikiaaGreat.Bm
open Go.RowKit

/-! ### Lists of what may be -/
def bindL {α β : Type} : List α → (α → Option (List β)) → Option (List β)
  | [], _ => some []
  | a :: l, f => match f a, bindL l f with
    | some x, some y => some (x ++ y)
    | _, _ => none
theorem bindL_mem {α β : Type} : ∀ {l : List α} {f : α → Option (List β)} {r : List β}, bindL l f = some r → ∀ a ∈ l, ∃ x, f a = some x ∧ ∀ b ∈ x, b ∈ r
  | [], f, r, h, a, ha => by simp at ha
  | a :: l, f, r, h, b, hb => by
    simp only [bindL] at h
    split at h
    · rename_i x y hx hy
      simp only [Option.some.injEq] at h; subst h
      rcases List.mem_cons.1 hb with rfl | hb
      · exact ⟨x, hx, fun c hc => List.mem_append_left _ hc⟩
      · obtain ⟨z, h1, h2⟩ := bindL_mem hy b hb
        exact ⟨z, h1, fun c hc => List.mem_append_right _ (h2 c hc)⟩
    · cases h
def each {α β : Type} (o : Option (List α)) (f : α → Option (List β)) : Option (List β) := match o with
  | none => none
  | some l => bindL l f
theorem each_mem {α β : Type} {o : Option (List α)} {f : α → Option (List β)} {r : List β} (h : each o f = some r) : ∃ l, o = some l ∧ ∀ a ∈ l, ∃ x, f a = some x ∧ ∀ b ∈ x, b ∈ r := by
  cases o with
  | none => cases h
  | some l => exact ⟨l, rfl, bindL_mem h⟩
def one {α : Type} (o : Option α) : Option (List α) := match o with
  | none => none
  | some a => some [a]

/-! ### Equal states -/
def optBeq {α : Type} (f : α → α → Bool) : Option α → Option α → Bool
  | none, none => true
  | some a, some b => f a b
  | _, _ => false
def Tr.beq {α : Type} (f : α → α → Bool) : Tr α → Tr α → Bool
  | .nil, .nil => true
  | .node l v r, .node l' v' r' => Tr.beq f l l' && (optBeq f v v' && Tr.beq f r r')
  | _, _ => false
theorem optBeq_eq {α : Type} {f : α → α → Bool} (hf : ∀ a b, f a b = true → a = b) : ∀ {a b : Option α}, optBeq f a b = true → a = b
  | none, none, _ => rfl
  | some a, some b, h => by rw [hf a b h]
  | none, some _, h => by cases h
  | some _, none, h => by cases h
theorem Tr.beq_eq {α : Type} {f : α → α → Bool} (hf : ∀ a b, f a b = true → a = b) : ∀ {s t : Tr α}, Tr.beq f s t = true → s = t
  | .nil, .nil, _ => rfl
  | .node l v r, .node l' v' r', h => by
    simp only [Tr.beq, Bool.and_eq_true] at h
    rw [Tr.beq_eq hf h.1, optBeq_eq hf h.2.1, Tr.beq_eq hf h.2.2]
  | .nil, .node _ _ _, h => by cases h
  | .node _ _ _, .nil, h => by cases h
def entBeq : List (AV × AV × Nat) → List (AV × AV × Nat) → Bool
  | [], [] => true
  | (k, v, b) :: l, (k', v', b') :: l' => AV.beq k k' && (AV.beq v v' && (Nat.beq b b' && entBeq l l'))
  | _, _ => false
theorem entBeq_eq : ∀ {a b : List (AV × AV × Nat)}, entBeq a b = true → a = b
  | [], [], _ => rfl
  | (k, v, b) :: l, (k', v', b') :: l', h => by
    simp only [entBeq, Bool.and_eq_true] at h
    rw [AV.eq_of_beq _ _ h.1, AV.eq_of_beq _ _ h.2.1, Nat.eq_of_beq_eq_true h.2.2.1, entBeq_eq h.2.2.2]
  | [], _ :: _, h => by cases h
  | _ :: _, [], h => by cases h
def AObj.beq : AObj → AObj → Bool
  | .cells a b, .cells a' b' => AV.beqL a a' && (b == b')
  | .map e c, .map e' c' => entBeq e e' && Nat.beq c c'
  | .miter m s se l, .miter m' s' se' l' => optBeq Nat.beq m m' && (Nat.beq s s' && ((se == se') && Nat.beq l l'))
  | .defd, .defd => true
  | _, _ => false
theorem AObj.beq_eq : ∀ (a b : AObj), AObj.beq a b = true → a = b := by
  intro a b h
  cases a <;> cases b <;> simp only [AObj.beq, Bool.and_eq_true, beq_iff_eq, Bool.false_eq_true] at h
  · rw [AV.eq_of_beqL _ _ h.1, h.2]
  · rw [entBeq_eq h.1, Nat.eq_of_beq_eq_true h.2]
  · rfl
  · rw [optBeq_eq (fun _ _ => Nat.eq_of_beq_eq_true) h.1, Nat.eq_of_beq_eq_true h.2.1, h.2.2.1, Nat.eq_of_beq_eq_true h.2.2.2]
def St.beq (s t : St) : Bool := Nat.beq s.next t.next && Tr.beq AObj.beq s.heap t.heap
theorem St.beq_eq {s t : St} (h : St.beq s t = true) : s = t := by
  simp only [St.beq, Bool.and_eq_true] at h
  cases s; cases t
  simp only at h
  rw [Nat.eq_of_beq_eq_true h.1, Tr.beq_eq AObj.beq_eq h.2]
/-! What nothing speaks of any more is forgotten. -/
mutual
def refsA : AV → List Nat → List Nat
  | .ptr k _, l => k :: l
  | .slice k _ _ _ _ _, l => k :: l
  | .tptr k _ _ _, l => k :: l
  | .tsl k _ _ _ _ _, l => k :: l
  | .osl _ k _ _ _ _ _, l => k :: l
  | .map k, l => k :: l
  | .yld k, l => k :: l
  | .func _ a b, l => refsAs a (refsAs b l)
  | .iface _ x, l => refsA x l
  | .agg vs, l => refsAs vs l
  | .tuple vs, l => refsAs vs l
  | _, l => l
def refsAs : List AV → List Nat → List Nat
  | [], l => l
  | x :: xs, l => refsA x (refsAs xs l)
end
def refsEn : List (AV × AV × Nat) → List Nat → List Nat
  | [], l => l
  | (k, v, _) :: es, l => refsA k (refsA v (refsEn es l))
def refsTr : Tr AV → List Nat → List Nat
  | .nil, l => l
  | .node a v b, l => refsTr a (match v with
    | some x => refsA x (refsTr b l)
    | none => refsTr b l)
def refsOb : AObj → List Nat → List Nat
  | .cells vs _, l => refsAs vs l
  | .map es _, l => refsEn es l
  | .loop lp, l => lp.dfr :: refsTr lp.tmps l
  | .miter (some m) _ _ _, l => m :: l
  | _, l => l
def markR (σ : St) (n0 : Nat) : Nat → List Nat → Tr Bool → Tr Bool
  | 0, _, vis => vis
  | _ + 1, [], vis => vis
  | f + 1, id :: wk, vis => cond (Nat.blt id n0) (markR σ n0 f wk vis) (match vis.get id with
    | some _ => markR σ n0 f wk vis
    | none => match σ.get id with
      | some o => markR σ n0 f (refsOb o wk) (vis.set id (some true))
      | none => markR σ n0 f wk vis)
def oldR (σ : St) : Nat → List Nat → List Nat
  | 0, l => l
  | n + 1, l => oldR σ n (match σ.get n with
    | some o => refsOb o l
    | none => l)
def sweepF (vis : Tr Bool) : Nat → Nat → St → St
  | 0, _, σ => σ
  | k + 1, id, σ => sweepF vis k (Nat.succ id) (match vis.get id with
    | some _ => σ
    | none => σ.kill id)
def sweep (n0 m : Nat) (o : Out) (σ : St) : St := sweepF (markR σ n0 1000000 (match o with | .val v => refsA v (oldR σ n0 []) | .ex _ _ => oldR σ n0 []) .nil) (Nat.sub m n0) n0 { σ with next := cond (Nat.ble σ.next m) m σ.next }
def Swept (n0 : Nat) (σ σ' : St) : Prop := σ.next ≤ σ'.next ∧ ∀ id, σ'.get id = σ.get id ∨ (n0 ≤ id ∧ σ'.get id = none)
theorem Swept.refl (n0 : Nat) (σ : St) : Swept n0 σ σ := ⟨Nat.le_refl _, fun _ => .inl rfl⟩
theorem Swept.trans {n0 : Nat} {a b c : St} (h : Swept n0 a b) (k : Swept n0 b c) : Swept n0 a c :=
  ⟨Nat.le_trans h.1 k.1, fun id => by
    rcases k.2 id with e | ⟨e1, e2⟩
    · rcases h.2 id with f | ⟨f1, f2⟩
      · exact .inl (e.trans f)
      · exact .inr ⟨f1, e.trans f2⟩
    · exact .inr ⟨e1, e2⟩⟩
theorem Swept.kill {n0 id : Nat} (h : n0 ≤ id) (σ : St) : Swept n0 σ (σ.kill id) := ⟨Nat.le_refl _, fun j => by
  show (σ.heap.set id none).get j = σ.get j ∨ _
  rw [Tr.get_set]
  by_cases hj : j = id
  · subst hj; rw [if_pos rfl]; exact .inr ⟨h, by show (σ.heap.set j none).get j = none; rw [Tr.get_set_same]⟩
  · rw [if_neg hj]; exact .inl rfl⟩
theorem sweepF_ok {n0 : Nat} {vis : Tr Bool} : ∀ (k id : Nat) (σ : St), n0 ≤ id → Swept n0 σ (sweepF vis k id σ)
  | 0, id, σ, h => Swept.refl n0 σ
  | k + 1, id, σ, h => by
    simp only [sweepF]
    refine Swept.trans ?_ (sweepF_ok k (Nat.succ id) _ (Nat.le_succ_of_le h))
    split
    · exact Swept.refl n0 σ
    · exact Swept.kill h σ
theorem sweep_ok (n0 m : Nat) (o : Out) (σ : St) : Swept n0 σ (sweep n0 m o σ) := by
  refine Swept.trans ?_ (sweepF_ok _ _ _ (Nat.le_refl _))
  refine ⟨?_, fun _ => .inl rfl⟩
  show σ.next ≤ cond (Nat.ble σ.next m) m σ.next
  cases hb : Nat.ble σ.next m with
  | true => exact Nat.le_of_ble_eq_true hb
  | false => exact Nat.le_refl _
def maxN : List (Out × St) → Nat → Nat
  | [], m => m
  | (_, σ) :: l, m => maxN l (cond (Nat.ble σ.next m) m σ.next)
def dropL : Nat → Nat → St → St
  | 0, _, σ => σ
  | k + 1, id, σ => dropL k (Nat.succ id) (match σ.get id with
    | some (.loop lp) => match lp.st with
      | .exhausted => σ.kill id
      | _ => σ
    | _ => σ)
theorem dropL_ok {n0 : Nat} : ∀ (k id : Nat) (σ : St), n0 ≤ id → Swept n0 σ (dropL k id σ)
  | 0, id, σ, h => Swept.refl n0 σ
  | k + 1, id, σ, h => by
    simp only [dropL]
    refine Swept.trans ?_ (dropL_ok k (Nat.succ id) _ (Nat.le_succ_of_le h))
    split
    · split
      · exact Swept.kill h σ
      · exact Swept.refl n0 σ
    · exact Swept.refl n0 σ
def hasO (v : AV) (σ : St) : List (Out × St) → Bool
  | [] => false
  | (.val u, τ) :: l => (AV.beq u v && St.beq τ σ) || hasO v σ l
  | (.ex _ _, _) :: l => hasO v σ l
theorem hasO_mem {v : AV} {σ : St} : ∀ {l : List (Out × St)}, hasO v σ l = true → (Out.val v, σ) ∈ l
  | [], h => by cases h
  | (.val u, τ) :: l, h => by
    simp only [hasO, Bool.or_eq_true, Bool.and_eq_true] at h
    rcases h with ⟨h1, h2⟩ | h
    · rw [AV.eq_of_beq _ _ h1, St.beq_eq h2]; exact List.mem_cons_self
    · exact List.mem_cons_of_mem _ (hasO_mem h)
  | (.ex _ _, _) :: l, h => List.mem_cons_of_mem _ (hasO_mem (l := l) (by simpa only [hasO] using h))
def dedup : List (Out × St) → List (Out × St)
  | [] => []
  | (.val v, σ) :: l => cond (hasO v σ (dedup l)) (dedup l) ((.val v, σ) :: dedup l)
  | (.ex e fr, σ) :: l => (.ex e fr, σ) :: dedup l
theorem dedup_mem {v : AV} {σ : St} : ∀ {l : List (Out × St)}, (Out.val v, σ) ∈ l → (Out.val v, σ) ∈ dedup l
  | [], h => by simp at h
  | (.val u, τ) :: l, h => by
    simp only [dedup]
    cases hb : hasO u τ (dedup l) with
    | true =>
      simp only [cond_true]
      rcases List.mem_cons.1 h with h | h
      · injection h with h1 h2; injection h1 with h1; subst h1; subst h2
        exact hasO_mem hb
      · exact dedup_mem h
    | false =>
      simp only [cond_false]
      rcases List.mem_cons.1 h with h | h
      · rw [h]; exact List.mem_cons_self
      · exact List.mem_cons_of_mem _ (dedup_mem h)
  | (.ex e fr, τ) :: l, h => by
    simp only [dedup]
    rcases List.mem_cons.1 h with h | h
    · injection h with h1 h2; cases h1
    · exact List.mem_cons_of_mem _ (dedup_mem h)
def mergeC (n0 : Nat) (rs : List (Out × St)) : List (Out × St) := match rs with
  | [] => []
  | [x] => [x]
  | rs => dedup (rs.map fun r => (r.1, sweep n0 (maxN rs 0) r.1 r.2))
theorem mergeC_mem {n0 : Nat} {rs : List (Out × St)} {v : AV} {σ : St} (h : (Out.val v, σ) ∈ rs) : ∃ σ', (Out.val v, σ') ∈ mergeC n0 rs ∧ Swept n0 σ σ' := by
  unfold mergeC
  split
  · simp at h
  · exact ⟨σ, h, Swept.refl _ _⟩
  · exact ⟨sweep n0 (maxN rs 0) (.val v) σ, dedup_mem (List.mem_map.2 ⟨_, h, rfl⟩), sweep_ok _ _ _ _⟩

/-! ### One operation -/
def entS (m since : Nat) (seen : List Nat) (clock : Nat) (σ : St) (id : Nat) : List (AV × AV × Nat) → Option (List (AV × St))
  | [] => some []
  | (k, v, b) :: es => cond (Nat.blt b since) (match entS m since seen clock σ id es with
    | some r => some ((.tuple [.bool true, k, v], σ.put id (.miter (some m) since (seen ++ [b]) clock)) :: r)
    | none => none) none
theorem entS_mem {m since : Nat} {seen : List Nat} {clock : Nat} {σ : St} {id : Nat} : ∀ {es : List (AV × AV × Nat)} {r : List (AV × St)}, entS m since seen clock σ id es = some r → ∀ k v b, (k, v, b) ∈ es →
    b < since ∧ (AV.tuple [.bool true, k, v], σ.put id (.miter (some m) since (seen ++ [b]) clock)) ∈ r
  | [], r, h, k, v, b, he => by simp at he
  | (k0, v0, b0) :: es, r, h, k, v, b, he => by
    simp only [entS] at h
    cases hb : Nat.blt b0 since with
    | false => rw [hb] at h; cases h
    | true =>
      rw [hb] at h
      simp only [cond_true] at h
      split at h
      · rename_i r0 hr
        simp only [Option.some.injEq] at h; subst h
        rcases List.mem_cons.1 he with he | he
        · injection he with h1 h2; injection h2 with h2 h3; subst h1; subst h2; subst h3
          exact ⟨by simpa [Nat.blt_eq] using hb, List.mem_cons_self⟩
        · obtain ⟨q1, q2⟩ := entS_mem hr k v b he
          exact ⟨q1, List.mem_cons_of_mem _ q2⟩
      · cases h
def anextS (σ : St) (it : AV) : Option (List (AV × St)) :=
  match it with
  | .ptr id 0 => match σ.get id with
    | some (.miter none _ _ _) => some [(.tuple [.bool false], σ)]
    | some (.miter (some m) since seen last) => match σ.get m with
      | some (.map es clock) =>
        cond (!seen.isEmpty && !es.isEmpty && es.all (fun e => Nat.ble last e.2.2)) none (
        match es.filter (fun e => !seen.contains e.2.2) with
        | [] => some [(.tuple [.bool false], σ)]
        | e :: l => entS m since seen clock σ id (e :: l))
      | _ => none
    | _ => none
  | _ => none
section
variable {P : Program} {E : Env} {w0 w w' : World} {φ φ' : Phi} {g : Heap} {n : Nat} {σ σ' σ1 : St} {fr fr' fr1 : Fr} {a : Act} {r : Option Nat}
theorem choose_mapNext (k : Nat) (hk : 0 < k) (w : World) : ∃ i w', i < k ∧ (w' = w ∨ w' = w.drew) ∧ (choose (.mapNext k)).run P w = .ok i w' := by
  by_cases h : k ≤ 1
  · refine ⟨0, w, hk, .inl rfl, ?_⟩
    simp [choose, Sem.run, Question.forced, h, Sem.run_pure]
  · refine ⟨Question.cut (.mapNext k) (w.tape w.drawn (.mapNext k)), w.drew, ?_, .inr rfl, ?_⟩
    · simp only [Question.cut]; exact Nat.mod_lt _ hk
    · simp only [choose, Sem.run, Question.forced, decide_eq_false h, Bool.false_eq_true, if_false]; rfl
theorem eff_nextS (hR : Rel w0 φ σ.get σ.next w) {it : AV} {rs : List (AV × St)} {u : Value} {ty : TypeId} (h : anextS σ it = some rs) (hu : VR φ it u) :
    ∃ z w' x σ', (x, σ') ∈ rs ∧ (Instr.next u false ty).run P w = .ok z w' ∧ VR φ x z ∧ Rel w0 φ σ'.get σ'.next w' ∧ Ext w0 φ σ.get σ.next w φ σ'.get σ'.next w' := by
  unfold anextS at h
  split at h
  · rename_i id
    simp only [VR] at hu
    obtain ⟨l, hl, rfl⟩ := hu
    have over : VR φ (.tuple [.bool false]) (.tuple #[.bool false]) := by simp only [VR]; exact ⟨[.bool false], rfl, VRL.cons (by simp only [VR]) VRL.nil⟩
    split at h
    · rename_i since seen last hg
      simp only [Option.some.injEq] at h; subst h
      obtain ⟨h0, cm, hm1, hm2⟩ := hR.objs id _ l hg hl
      simp only at hm2; subst hm2
      have hgo : (getObj l.c).run P w = .ok (.mapIter none since seen.toArray last) w := getObj_run hm1 (fun _ _ _ h => by cases h)
      refine ⟨.tuple #[.bool false], w, _, _, List.mem_singleton.2 rfl, ?_, over, hR, Ext.refl _ _ _ _ _⟩
      rw [h0]
      simp only [Instr.next, Sem.run_bind, hgo, Result.andThen_ok, Sem.run_pure]
    · rename_i m since seen last hg
      split at h
      · rename_i es clock hgm
        obtain ⟨h0, cm, hm1, lm, hlm, rfl⟩ := hR.objs id _ l hg hl
        obtain ⟨ms, hn1, hn2⟩ := hR.objs m _ lm hgm hlm
        have hgo : (getObj l.c).run P w = .ok (.mapIter (some lm.c) since seen.toArray last) w := getObj_run hm1 (fun _ _ _ h => by cases h)
        have hgo2 : (getObj lm.c).run P w = .ok (.map ms.toArray clock) w := getObj_run hn1 (fun _ _ _ h => by cases h)
        have hseen : seen.toArray.isEmpty = seen.isEmpty := by cases seen <;> rfl
        have hemp : ms.toArray.isEmpty = es.isEmpty := by
          have := hn2.1
          cases ms <;> cases es <;> simp_all
        have hall : (ms.toArray.all fun e => decide (e.born ≥ last)) = es.all fun e => Nat.ble last e.2.2 := by
          rw [← hn2.all_born (p := fun b => Nat.ble last b)]
          simp only [List.all_toArray]
          congr 1
          funext e
          rw [Bool.eq_iff_iff]; simp [Nat.ble_eq]
        cases hq : (!seen.isEmpty && !es.isEmpty && es.all (fun e => Nat.ble last e.2.2)) with
        | true => rw [hq] at h; cases h
        | false =>
          rw [hq] at h
          simp only [cond_false] at h
          have hleft : EntsR φ (es.filter fun e => !seen.contains e.2.2) (ms.filter fun e => !seen.contains e.born) := hn2.filter (p := fun b => !seen.contains b)
          have hcont : (fun e : MapEntry => !seen.toArray.contains e.born) = fun e => !seen.contains e.born := by funext e; simp
          split at h
          · rename_i hnil
            simp only [Option.some.injEq] at h; subst h
            rw [hnil] at hleft
            have hl0 : ms.filter (fun e => !seen.contains e.born) = [] := List.eq_nil_of_length_eq_zero hleft.1
            refine ⟨.tuple #[.bool false], w, _, _, List.mem_singleton.2 rfl, ?_, over, hR, Ext.refl _ _ _ _ _⟩
            rw [h0]
            simp only [Instr.next, Sem.run_bind, hgo, Result.andThen_ok, Sem.run_pure, hgo2, hseen, hemp, hall, hq, Bool.false_eq_true, if_false, hcont]
            have hfl : ms.toArray.filter (fun e => !seen.contains e.born) = #[] := by rw [List.filter_toArray, hl0]
            simp only [hfl]
            simp [choose, Sem.run, Question.forced, Sem.run_pure]
          · rename_i e0 l0 hcons
            rw [hcons] at hleft
            generalize hml : ms.filter (fun e => !seen.contains e.born) = ml at hleft
            have hlen := hleft.1
            have hpos : 0 < ml.length := by rw [hlen]; simp
            -- each is an old one
            have hold : ∀ x ∈ ml, x.born < since := fun x hx => by
              obtain ⟨j, hj, rfl⟩ := List.getElem_of_mem hx
              have hje : j < (e0 :: l0).length := by rw [← hlen]; exact hj
              obtain ⟨m', q1, q2⟩ := hleft.2 j _ (List.getElem?_eq_getElem hje)
              rw [List.getElem?_eq_getElem hj] at q1
              injection q1 with q1; subst q1
              rcases hek : (e0 :: l0)[j] with ⟨k, v, b⟩
              have := (entS_mem h k v b (by rw [← hek]; exact List.getElem_mem hje)).1
              rw [hek] at q2
              rw [← q2.2.2]; exact this
            have hfl : ms.toArray.filter (fun e => !seen.contains e.born) = ml.toArray := by rw [List.filter_toArray, hml]
            have hf1 : ml.toArray.filter (fun e => decide (e.born < since)) = ml.toArray := by
              rw [List.filter_toArray, List.filter_eq_self.2 (fun x hx => decide_eq_true (hold x hx))]
            have hf2 : ml.toArray.filter (fun e => decide (e.born ≥ since)) = #[] := by
              rw [List.filter_toArray, List.filter_eq_nil_iff.2 (fun x hx => by have := hold x hx; simp; omega)]
            have hne : ml.toArray.isEmpty = false := by
              cases ml with
              | nil => simp at hpos
              | cons _ _ => rfl
            obtain ⟨i, w1, hi, hw1, hch⟩ := choose_mapNext (P := P) ml.length hpos w
            have hie : i < (e0 :: l0).length := by rw [← hlen]; exact hi
            obtain ⟨m0, q1, q2⟩ := hleft.2 i _ (List.getElem?_eq_getElem hie)
            rw [List.getElem?_eq_getElem hi] at q1
            injection q1 with q1
            rcases hek : (e0 :: l0)[i] with ⟨k, v, b⟩
            rw [hek] at q2
            obtain ⟨c1, c2, c3⟩ := q2
            simp only at c1 c2 c3
            have hmem := (entS_mem h k v b (by rw [← hek]; exact List.getElem_mem hie)).2
            have hR1 : Rel w0 φ σ.get σ.next w1 := by
              rcases hw1 with rfl | rfl
              · exact hR
              · exact hR.drew
            have hh1 : w1.heap = w.heap := by rcases hw1 with rfl | rfl <;> rfl
            obtain ⟨w', s1, s2, s3⟩ := run_setObj (P := P) (w := w1) (o' := .mapIter (some lm.c) since (seen.toArray.push m0.born) clock) (by rw [hh1]; exact hm1) (fun _ _ _ h => by cases h)
            have hO : ObjR φ w' l (.miter (some m) since (seen ++ [b]) clock) := ⟨h0, some lm.c, by rw [s3, c3]; simp, lm, hlm, rfl⟩
            obtain ⟨r1, r2⟩ := hR1.turn hg hl rfl rfl s2 hO
            have r2' : Ext w0 φ σ.get σ.next w φ (gset σ.get id (some (.miter (some m) since (seen ++ [b]) clock))) σ.next w' := by
              rcases hw1 with rfl | rfl
              · exact r2
              · exact ⟨r2.le, r2.dom, r2.ghost, r2.frame, r2.img, r2.nle, r2.wle⟩
            refine ⟨.tuple #[.bool true, m0.key, m0.val], w', _, _, hmem, ?_, ?_, by rw [get_put]; exact r1, by rw [get_put]; exact r2'⟩
            · rw [h0]
              simp only [Instr.next, Sem.run_bind, hgo, Result.andThen_ok, Sem.run_pure, hgo2, hseen, hemp, hall, hq, Bool.false_eq_true, if_false, hcont]
              simp only [hfl, hf1, hf2, hne]
              have hsz : (#[] ++ (ml.toArray ++ #[]).map some : Array (Option MapEntry)) = (ml.map some).toArray := by simp
              simp only [Bool.false_eq_true, if_false, hsz, List.size_toArray, List.length_map, hch, Result.andThen_ok]
              have hat : (ml.map some).toArray[i]? = some (some m0) := by
                simp [q1, hi]
              simp only [hat]
              simp only [Sem.run_bind, s1, Result.andThen_ok, Sem.run_pure]
            · simp only [VR]
              exact ⟨[.bool true, m0.key, m0.val], rfl, VRL.cons (by simp only [VR]) (VRL.cons c1 (VRL.cons c2 VRL.nil))⟩
      · cases h
    · cases h
  · cases h
end
end Go.Proofs.YtdgplkcobpikiaaGreat.Bm
