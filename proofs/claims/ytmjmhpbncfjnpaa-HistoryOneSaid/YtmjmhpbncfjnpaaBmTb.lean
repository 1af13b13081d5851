/- The abstract machine: regions that draw their order: what is hidden; what an operation looks at. -/
import Derived.Test.YtmjmhpbncfjnpaaBmTa
set_option linter.unusedSimpArgs false
set_option linter.unusedVariables false
namespace Go.Proofs.Ytmjmhpbncfjnpaa.Bm
open Go.RowKit
def hid (n1 k : Nat) (φ : Phi) : Phi := fun id => if k ≤ id ∧ id < n1 then none else φ id
section
variable {n1 k k' : Nat} {φ φ' φ0 : Phi}
theorem hid_le {id : Nat} {l : Loc} (h : hid n1 k φ id = some l) : φ id = some l := by
 unfold hid at h
 split at h
 ·cases h
 ·exact h
theorem hid_monok (hk : k ≤ k') {id : Nat} {l : Loc} (h : hid n1 k φ id = some l) : hid n1 k' φ id = some l := by
 unfold hid at h ⊢
 split at h
 ·cases h
 ·rw [if_neg (by omega)]; exact h
theorem hid_mono (hφ : ∀ id l, φ id = some l → φ' id = some l) {id : Nat} {l : Loc} (h : hid n1 k φ id = some l) : hid n1 k φ' id = some l := by
 unfold hid at h ⊢
 split at h
 ·cases h
 ·rename_i hn
  rw [if_neg hn]; exact hφ _ _ h
theorem hid_all : hid n1 n1 φ = φ := by
 funext id
 unfold hid
 rw [if_neg (by omega)]
theorem hid_in {id : Nat} (h1 : k ≤ id) (h2 : id < n1) : hid n1 k φ id = none := by
 unfold hid; rw [if_pos ⟨h1, h2⟩]
theorem hid_out {id : Nat} (h : ¬ (k ≤ id ∧ id < n1)) : hid n1 k φ id = φ id := by
 unfold hid; rw [if_neg h]
theorem hid_step (h : φ k = none) : hid n1 (k + 1) φ = hid n1 k φ := by
 funext id
 unfold hid
 by_cases he : id = k
 ·subst he
  rw [if_neg (by omega), h]
  split <;> rfl
 ·by_cases hc : k ≤ id ∧ id < n1
  ·rw [if_pos hc, if_pos (by omega)]
  ·rw [if_neg hc, if_neg (by omega)]
theorem hid_reveal {l : Loc} (h : φ k = some l) : hid n1 (k + 1) φ = upd (hid n1 k φ) k l := by
 funext id
 simp only [hid, upd]
 by_cases he : id = k
 ·subst he
  rw [if_neg (by omega), if_pos rfl, h]
 ·rw [if_neg he]
  by_cases hc : k ≤ id ∧ id < n1
  ·rw [if_pos hc, if_pos (by omega)]
  ·rw [if_neg hc, if_neg (by omega)]
theorem hid_updIn {id : Nat} {l : Loc} (h1 : k ≤ id) (h2 : id < n1) : hid n1 k (upd φ id l) = hid n1 k φ := by
 funext i
 simp only [hid, upd]
 by_cases he : i = id
 ·subst he
  rw [if_pos ⟨h1, h2⟩, if_pos ⟨h1, h2⟩]
 ·rw [if_neg he]
theorem hid_updOut {id : Nat} {l : Loc} (h : ¬ (k ≤ id ∧ id < n1)) : hid n1 k (upd φ id l) = upd (hid n1 k φ) id l := by
 funext i
 simp only [hid, upd]
 by_cases he : i = id
 ·subst he
  rw [if_neg h]
  simp
 ·rw [if_neg he, if_neg he]
end
section
variable {P : Program} {E : Env} {w0 w w' ws : World} {φ φ' φ0 : Phi} {g g0 : Heap} {n n0 : Nat}
theorem Rel.more (hR : Rel w0 φ g n w) (hle : ∀ id l, φ id = some l → φ' id = some l) (hnew : ∀ id l, φ' id = some l → φ id = some l ∨ g id = none) (hf : ∀ id, n ≤ id → φ' id = none) : Rel w0 φ' g n w := by
 have pull : ∀ id o l, g id = some o → φ' id = some l → φ id = some l := by
  intro id o l h1 h2
  rcases hnew id l h2 with h | h
  ·exact h
  ·rw [h1] at h; cases h
 exact ⟨fun id o l h1 h2 => (hR.objs id o l h1 (pull _ _ _ h1 h2)).keep rfl hle, fun id o l h1 h2 => hR.own id o l h1 (pull _ _ _ h1 h2),
  fun i j oi oj li lj hij h1 h2 h3 h4 h5 => hR.inj i j oi oj li lj hij h1 h2 (pull _ _ _ h1 h3) (pull _ _ _ h2 h4) h5, hf, hR.gfresh, hR.below⟩
theorem Rel.laid (hR : Rel w0 φ g n w) (hL : Laid w w') : Rel w0 φ g n w' :=
 ⟨fun id o l h1 h2 => (hR.objs id o l h1 h2).keep (hL.block _ (hR.lt h1 h2)) (fun _ _ h => h), hR.own, hR.inj, hR.fresh, hR.gfresh, hL.below hR.below⟩
theorem Ext.laid (hX : Ext w0 φ0 g0 n0 ws φ g n w) (hL : Laid w w') : Ext w0 φ0 g0 n0 ws φ g n w' :=
 ⟨hX.le, hX.dom, hX.ghost, fun c hc hno => (hL.block c (Nat.lt_of_lt_of_le hc hX.wle)).trans (hX.frame c hc hno), hX.img, hX.nle, by rw [hL.size]; exact Nat.le_succ_of_le hX.wle⟩
theorem Rel.insert (hR : Rel w0 φ g n w) {id : Nat} {o : AObj} {l : Loc} (hid : φ id = none) (hn : id < n) (hrw : o.rw = true) (hO : ObjR φ w l o) (hown : w0.heap.size ≤ l.c)
  (hno : ∀ i oi li, g i = some oi → φ i = some li → oi.rw = true → li.c ≠ l.c) : Rel w0 (upd φ id l) (gset g id (some o)) n w := by
 have hle := upd_le (φ := φ) (id := id) l hid
 have pull : ∀ i oi li, i ≠ id → gset g id (some o) i = some oi → upd φ id l i = some li → g i = some oi ∧ φ i = some li := by
  intro i oi li hi h1 h2
  simp only [gset, hi, if_false] at h1
  rw [upd_ne φ l hi] at h2
  exact ⟨h1, h2⟩
 have self : ∀ oi li, gset g id (some o) id = some oi → upd φ id l id = some li → oi = o ∧ li = l := by
  intro oi li h1 h2
  simp only [gset, if_true, Option.some.injEq] at h1
  rw [upd_same] at h2
  injection h2 with h2
  exact ⟨h1.symm, h2.symm⟩
 have hall : ∀ i oi li, g i = some oi → φ i = some li → li.c ≠ l.c := by
  intro i oi li h1 h2
  by_cases hr : oi.rw = true
  ·exact hno i oi li h1 h2 hr
  ·intro e
   exact hr ((hR.own i oi li h1 h2).2 (by rw [e]; exact hown))
 refine ⟨?_, ?_, ?_, ?_, ?_, hR.below⟩
 ·intro i oi li h1 h2
  by_cases hi : i = id
  ·subst hi
   obtain ⟨rfl, rfl⟩ := self oi li h1 h2
   exact hO.keep rfl hle
  ·obtain ⟨a, b⟩ := pull i oi li hi h1 h2
   exact (hR.objs i oi li a b).keep rfl hle
 ·intro i oi li h1 h2
  by_cases hi : i = id
  ·subst hi
   obtain ⟨rfl, rfl⟩ := self oi li h1 h2
   exact ⟨fun _ => hown, fun _ => hrw⟩
  ·obtain ⟨a, b⟩ := pull i oi li hi h1 h2
   exact hR.own i oi li a b
 ·intro i j oi oj li lj hij h1 h2 h3 h4 h5
  by_cases hi : i = id
  ·subst hi
   obtain ⟨rfl, rfl⟩ := self oi li h1 h3
   obtain ⟨a, b⟩ := pull j oj lj (fun e => hij e.symm) h2 h4
   exact fun e => hall j oj lj a b e.symm
  ·obtain ⟨a, b⟩ := pull i oi li hi h1 h3
   by_cases hj : j = id
   ·subst hj
    obtain ⟨rfl, rfl⟩ := self oj lj h2 h4
    exact hall i oi li a b
   ·obtain ⟨c, d⟩ := pull j oj lj hj h2 h4
    exact hR.inj i j oi oj li lj hij a c b d h5
 ·intro i hi
  rw [upd_ne φ l (by omega)]; exact hR.fresh i hi
 ·intro i hi
  simp only [gset]; rw [if_neg (by omega)]; exact hR.gfresh i hi
theorem Ext.insert (hX : Ext w0 φ0 g0 n0 ws φ g n w) {id : Nat} {o : AObj} {l : Loc} (hid : φ id = none) (hn : n0 ≤ id) (hl : ws.heap.size ≤ l.c) : Ext w0 φ0 g0 n0 ws (upd φ id l) (gset g id (some o)) n w := by
 refine ⟨fun i li h => upd_le l hid _ _ (hX.le _ _ h), fun i hi h => by rw [upd_ne φ l (by omega)]; exact hX.dom i hi h, fun i hi h => ?_, hX.frame, fun i oi li h1 h2 h3 => ?_, hX.nle, hX.wle⟩
 ·simp only [gset]; rw [if_neg (by omega)]; exact hX.ghost i hi h
 ·by_cases hi : i = id
  ·subst hi
   rw [upd_same] at h2; injection h2 with h2; subst h2
   exact .inl hl
  ·simp only [gset, hi, if_false] at h1
   rw [upd_ne φ l hi] at h2
   exact hX.img i oi li h1 h2 h3
theorem Ext.allocAt (hX : Ext w0 φ0 g0 n0 ws φ g n w) (hL : Laid w w') {id : Nat} {l : Loc} (hid : φ id = none) (hn : n0 ≤ id) (hl : l.c = w.heap.size) : Ext w0 φ0 g0 n0 ws (upd φ id l) g n w' := by
 have hX' := hX.laid hL
 refine ⟨fun i li h => upd_le l hid _ _ (hX.le _ _ h), fun i hi h => by rw [upd_ne φ l (by omega)]; exact hX.dom i hi h, hX.ghost, hX'.frame, fun i oi li h1 h2 h3 => ?_, hX.nle, hX'.wle⟩
 by_cases hi : i = id
 ·subst hi
  rw [upd_same] at h2; injection h2 with h2; subst h2
  exact .inl (by rw [hl]; exact hX.wle)
 ·rw [upd_ne φ l hi] at h2
  exact hX.img i oi li h1 h2 h3
theorem Rel.ghost_ (hR : Rel w0 φ g n w) {id : Nat} (o : AObj) (hid : φ id = none) (hn : id < n) : Rel w0 φ (gset g id (some o)) n w := by
 have pull : ∀ i oi li, gset g id (some o) i = some oi → φ i = some li → g i = some oi := by
  intro i oi li h1 h2
  have hi : i ≠ id := fun e => by subst e; rw [hid] at h2; cases h2
  simpa only [gset, hi, if_false] using h1
 exact ⟨fun i oi li h1 h2 => hR.objs i oi li (pull _ _ _ h1 h2) h2, fun i oi li h1 h2 => hR.own i oi li (pull _ _ _ h1 h2) h2,
  fun i j oi oj li lj hij h1 h2 h3 h4 h5 => hR.inj i j oi oj li lj hij (pull _ _ _ h1 h3) (pull _ _ _ h2 h4) h3 h4 h5, hR.fresh, (fun i hi => by simp only [gset]; rw [if_neg (by omega)]; exact hR.gfresh i hi), hR.below⟩
theorem Ext.ghost_ (hX : Ext w0 φ0 g0 n0 ws φ g n w) {id : Nat} (o : AObj) (hid : φ id = none) (hn : n0 ≤ id) : Ext w0 φ0 g0 n0 ws φ (gset g id (some o)) n w := by
 refine ⟨hX.le, hX.dom, fun i hi h => ?_, hX.frame, fun i oi li h1 h2 h3 => ?_, hX.nle, hX.wle⟩
 ·simp only [gset]; rw [if_neg (by omega)]; exact hX.ghost i hi h
 ·have hi : i ≠ id := fun e => by subst e; rw [hid] at h2; cases h2
  exact hX.img i oi li (by simpa only [gset, hi, if_false] using h1) h2 h3
end
section
variable {E : Env} {ρ ρ' : Operand → AV} {g g' : Heap} {σ : St} {rec : Job → St → Option (Out × St)}
theorem apure_congr {op : Op} (h : ∀ x ∈ op.operands, ρ x = ρ' x) : apure E ρ op = apure E ρ' op := by
 cases op <;> simp only [Op.operands] at h <;> simp only [apure] <;> try rfl
 case move x => rw [h x (by simp)]
 case assign x => rw [h x (by simp)]
 case pick c a b => rw [h c (by simp), h a (by simp), h b (by simp)]
 case build t ps =>
  congr 1
  refine List.map_congr_left fun p hp => ?_
  rw [h p.2 (by simp; exact ⟨p.1, by simpa using hp⟩)]
 case nilCheck x => rw [h x (by simp)]
 case binOp op t x y b => rw [h x (by simp), h y (by simp)]
 case unOp op t x => rw [h x (by simp)]
 case makeFunc fn first captured =>
  have h1 : first.toList.map ρ = first.toList.map ρ' := List.map_congr_left fun x hx => h x (by simp at hx ⊢; exact .inl hx)
  have h2 : captured.toList.map ρ = captured.toList.map ρ' := List.map_congr_left fun x hx => h x (by simp at hx ⊢; exact .inr hx)
  rw [h1, h2]
 case fieldAddr s x f => rw [h x (by simp)]
 case field s x f => rw [h x (by simp)]
 case indexAddr t x i => rw [h x (by simp), h i (by simp)]
 case index t x i => rw [h x (by simp), h i (by simp)]
 case extract x i => rw [h x (by simp)]
theorem args_congr {c : Call} (h : ∀ x ∈ c.operands, ρ x = ρ' x) : c.args.toList.map ρ = c.args.toList.map ρ' ∧ (∀ f, c.callee = .value f → ρ f = ρ' f) := by
 refine ⟨List.map_congr_left fun x hx => h x ?_, fun f hf => h f ?_⟩
 ·unfold Call.operands
  split <;> simp_all
 ·unfold Call.operands
  rw [hf]
  simp
theorem aread0_congr {op : Op} (h : ∀ x ∈ op.operands, ρ x = ρ' x) : aread0 E ρ g op = aread0 E ρ' g op := by
 cases op <;> simp only [aread0] <;> (try exact apure_congr h)
 case load t a => rw [h a (by simp [Op.operands])]
 case convert s d x => rw [h x (by simp [Op.operands])]
 case lookup t x i ok => rw [h x (by simp [Op.operands]), h i (by simp [Op.operands])]
 case slice t x lo hi mx =>
  have hx := h x (by simp [Op.operands])
  have h1 : lo.map ρ = lo.map ρ' := by cases lo with | none => rfl | some y => simp [h y (by simp [Op.operands])]
  have h2 : hi.map ρ = hi.map ρ' := by cases hi with | none => rfl | some y => simp [h y (by simp [Op.operands])]
  have h3 : mx.map ρ = mx.map ρ' := by cases mx with | none => rfl | some y => simp [h y (by simp [Op.operands])]
  rw [hx, h1, h2, h3]
 case call c =>
  have hm := (args_congr (c := c) h).1
  generalize c.args.toList = l at hm
  cases l with
  | nil => split <;> simp_all
  | cons x xs =>
    simp only [List.map_cons, List.cons.injEq] at hm
    obtain ⟨hm1, hm2⟩ := hm
    generalize c.argTypes.toList = ts
    cases ts with
    | nil =>
      generalize c.callee = ce
      cases ce with
      | builtin b => cases b <;> simp only [hm1, hm2]
      | _ => rfl
    | cons t ts =>
      generalize c.callee = ce
      cases ce with
      | builtin b => cases b <;> simp only [hm1, hm2]
      | _ => rfl
theorem tread_congr {op : Op} (h : ∀ x ∈ op.operands, ρ x = ρ' x) : tread E ρ g op = tread E ρ' g op := by
 cases op <;> simp only [tread]
 case lookup t x i ok => rw [h x (by simp [Op.operands]), h i (by simp [Op.operands])]
 case load t a => rw [h a (by simp [Op.operands])]
 case nilCheck x => rw [h x (by simp [Op.operands])]
 case fieldAddr s x f => rw [h x (by simp [Op.operands])]
 case index t x i => rw [h x (by simp [Op.operands]), h i (by simp [Op.operands])]
 case binOp op t x y yt => rw [h x (by simp [Op.operands]), h y (by simp [Op.operands])]
 case convert s d x => rw [h x (by simp [Op.operands])]
 case indexAddr t x i => rw [h x (by simp [Op.operands]), h i (by simp [Op.operands])]
 case slice t x lo hi mx =>
  have hx := h x (by simp [Op.operands])
  have h1 : lo.map ρ = lo.map ρ' := by cases lo with | none => rfl | some y => simp [h y (by simp [Op.operands])]
  have h2 : hi.map ρ = hi.map ρ' := by cases hi with | none => rfl | some y => simp [h y (by simp [Op.operands])]
  have h3 : mx.map ρ = mx.map ρ' := by cases mx with | none => rfl | some y => simp [h y (by simp [Op.operands])]
  rw [hx, h1, h2, h3]
 case call c =>
  have hm : ∀ x ∈ c.args.toList, ρ x = ρ' x := fun x hx => h x (by simp only [Op.operands]; unfold Call.operands; split <;> simp_all)
  generalize c.args.toList = l at hm
  split
  ·rename_i x t hc hty
   rw [hm x (by simp)]
  ·rename_i x t hc hty
   rw [hm x (by simp)]
  ·rfl
theorem aread_congr {op : Op} (h : ∀ x ∈ op.operands, ρ x = ρ' x) : aread E ρ g op = aread E ρ' g op := by
 unfold aread
 rw [tread_congr h, aread0_congr h]
theorem talloc_congr {op : Op} (h : ∀ x ∈ op.operands, ρ x = ρ' x) : talloc E ρ op = talloc E ρ' op := by
 cases op <;> simp only [talloc]
 case makeSlice t l c => rw [h l (by simp [Op.operands]), h c (by simp [Op.operands])]
 case convert s d x => rw [h x (by simp [Op.operands])]
theorem aalloc0_congr {op : Op} (h : ∀ x ∈ op.operands, ρ x = ρ' x) : aalloc0 E ρ op = aalloc0 E ρ' op := by
 cases op <;> simp only [aalloc0] <;> try rfl
 case box t x => rw [h x (by simp [Op.operands])]
 case buildSlice t len ps =>
  have : ps.toList.map (fun p => (p.1, ρ p.2)) = ps.toList.map (fun p => (p.1, ρ' p.2)) := List.map_congr_left fun p hp => by
   rw [h p.2 (by simp [Op.operands]; exact ⟨p.1, by simpa using hp⟩)]
  rw [this]
 case makeSlice t l c => rw [h l (by simp [Op.operands]), h c (by simp [Op.operands])]
 case makeMap t r =>
  cases r with
  | none => rfl
  | some x => simp only; rw [h x (by simp [Op.operands])]
 case convert s d x => rw [h x (by simp [Op.operands])]
theorem aeff0_congr {v1 v2 : AV} {op : Op} (h : ∀ x ∈ op.operands, ρ x = ρ' x) : aeff0 E v1 v2 ρ σ op = aeff0 E v1 v2 ρ' σ op := by
 cases op <;> simp only [aeff0] <;> try rfl
 case store t a x => rw [h a (by simp [Op.operands]), h x (by simp [Op.operands])]
 case mapUpdate t m k v => rw [h m (by simp [Op.operands]), h k (by simp [Op.operands]), h v (by simp [Op.operands])]
 case insert t m k v => rw [h m (by simp [Op.operands]), h k (by simp [Op.operands]), h v (by simp [Op.operands])]
 case mapEntry t m k => rw [h m (by simp [Op.operands]), h k (by simp [Op.operands])]
 case entryStore t m s v => rw [h m (by simp [Op.operands]), h s (by simp [Op.operands]), h v (by simp [Op.operands])]
 case range t x => rw [h x (by simp [Op.operands])]
 case next it b => rw [h it (by simp [Op.operands])]
 case entry it => rw [h it (by simp [Op.operands])]
theorem aalloc_congr {op : Op} (h : ∀ x ∈ op.operands, ρ x = ρ' x) : aalloc E ρ op = aalloc E ρ' op := by
 unfold aalloc
 rw [talloc_congr h, aalloc0_congr h]
theorem opA_congr {op : Op} (h : ∀ x ∈ op.operands, ρ x = ρ' x) : opA ρ op = opA ρ' op := by
 cases op <;> simp only [opA]
 case call c =>
  have hm : ∀ x ∈ c.args.toList, ρ x = ρ' x := fun x hx => h x (by simp only [Op.operands]; unfold Call.operands; split <;> simp_all)
  generalize c.args.toList = l at hm
  split
  ·exact hm _ (by simp)
  ·rfl
theorem opB_congr {op : Op} (h : ∀ x ∈ op.operands, ρ x = ρ' x) : opB ρ op = opB ρ' op := by
 cases op <;> simp only [opB]
 case call c =>
  have hm : ∀ x ∈ c.args.toList, ρ x = ρ' x := fun x hx => h x (by simp only [Op.operands]; unfold Call.operands; split <;> simp_all)
  generalize c.args.toList = l at hm
  split
  ·exact hm _ (by simp)
  ·rfl
theorem teff_congr {b : Bool} {v1 v2 : AV} {op : Op} (h : ∀ x ∈ op.operands, ρ x = ρ' x) : teff E b v1 v2 ρ σ op = teff E b v1 v2 ρ' σ op := by
 cases op <;> simp only [teff]
 case store t a x => rw [h a (by simp [Op.operands]), h x (by simp [Op.operands])]
 case mapUpdate t m k v => rw [h m (by simp [Op.operands]), h k (by simp [Op.operands]), h v (by simp [Op.operands])]
 case insert t m k v => rw [h m (by simp [Op.operands]), h k (by simp [Op.operands]), h v (by simp [Op.operands])]
theorem aeff_congr {op : Op} (h : ∀ x ∈ op.operands, ρ x = ρ' x) : aeff E ρ σ op = aeff E ρ' σ op := by
 unfold aeff beff
 rw [opA_congr h, opB_congr h, teff_congr h, aeff0_congr h]
theorem aoper_congr {op : Op} (h : ∀ x ∈ op.operands, ρ x = ρ' x) : aoper E rec ρ σ op = aoper E rec ρ' σ op := by
 unfold aoper
 rw [aread_congr h, aalloc_congr h]
 split
 ·rfl
 ·rfl
 ·split
  ·split
   ·rename_i f hf
    obtain ⟨h1, h2⟩ := args_congr h
    rw [h1, h2 f hf]
   ·exact aeff_congr h
  ·exact aeff_congr h
theorem aread0_blind {op : Op} (h : looks op = false) : aread0 E ρ g op = aread0 E ρ g' op := by
 cases op <;> simp only [looks] at h <;> first | (cases h; done) | simp only [aread0]
theorem tread_blind {op : Op} (h : looks op = false) : tread E ρ g op = tread E ρ g' op := by
 cases op <;> simp only [looks] at h <;> first | (cases h; done) | simp only [tread]
theorem aread_blind {op : Op} (h : looks op = false) : aread E ρ g op = aread E ρ g' op := by
 unfold aread
 rw [tread_blind h, aread0_blind h]
end
end Go.Proofs.Ytmjmhpbncfjnpaa.Bm
