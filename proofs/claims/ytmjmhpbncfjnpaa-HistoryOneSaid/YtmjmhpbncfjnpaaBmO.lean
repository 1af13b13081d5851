/- The abstract machine: append; clear; delete; each operation that changes the heap. -/
import Derived.Test.YtmjmhpbncfjnpaaBmN
set_option linter.unusedSimpArgs false
set_option linter.unusedVariables false
namespace Go.Proofs.Ytmjmhpbncfjnpaa.Bm
open Go.RowKit
section
variable {P : Program} {E : Env} {w0 w w' : World} {φ : Phi} {g : Heap} {n : Nat} {σ σ' : St}
theorem Rel.move (hR : Rel w0 φ g n w) {id : Nat} {o o' : AObj} {l l' : Loc} (hg : g id = some o) (hl : φ id = some l) (hrw : o.rw = true) (hrw' : o'.rw = true) (hT : Turned w w' l.c) (hc : l'.c = l.c)
  (hO : ObjR (upd φ n l') w' l' o') :
  Rel w0 (upd φ n l') (gset (gset g id none) n (some o')) (n + 1) w' ∧ Ext w0 φ g n w (upd φ n l') (gset (gset g id none) n (some o')) (n + 1) w' := by
 have hown := (hR.own id o l hg hl).1 hrw
 have hfn := hR.fresh n (Nat.le_refl _)
 have hidn : id ≠ n := fun e => by subst e; rw [hfn] at hl; cases hl
 have hle := upd_le (φ := φ) (id := n) l' hfn
 have pull : ∀ i oi, i ≠ n → gset (gset g id none) n (some o') i = some oi → i ≠ id ∧ g i = some oi := by
  intro i oi hi h
  simp only [gset, hi, if_false] at h
  by_cases hid : i = id
  ·simp [hid] at h
  ·exact ⟨hid, by simpa [hid] using h⟩
 have self : ∀ oi, gset (gset g id none) n (some o') n = some oi → oi = o' := by
  intro oi h; simp [gset] at h; exact h.symm
 refine ⟨⟨?_, ?_, ?_, ?_, (fun i hi => by
  simp only [gset]
  rw [if_neg (by omega)]
  split
  ·rfl
  ·exact hR.gfresh i (by omega)), ?_⟩, ⟨hle, ?_, ?_, ?_, ?_, Nat.le_succ _, by rw [hT.size]; exact Nat.le_refl _⟩⟩
 ·intro i oi li hgi hli
  by_cases hi : i = n
  ·subst hi
   rw [upd_same] at hli; injection hli with hli; subst hli
   have := self _ hgi; subst this
   exact hO
  ·obtain ⟨h1, h2⟩ := pull i oi hi hgi
   rw [upd_ne φ l' hi] at hli
   have hne : l.c ≠ li.c := hR.inj id i o oi l li (fun e => h1 e.symm) hg h2 hl hli hrw
   exact (hR.objs i oi li h2 hli).keep (hT.block _ (fun e => hne e.symm)) hle
 ·intro i oi li hgi hli
  by_cases hi : i = n
  ·subst hi
   rw [upd_same] at hli; injection hli with hli; subst hli
   have := self _ hgi; subst this
   exact ⟨fun _ => by rw [hc]; exact hown, fun _ => hrw'⟩
  ·obtain ⟨h1, h2⟩ := pull i oi hi hgi
   rw [upd_ne φ l' hi] at hli
   exact hR.own i oi li h2 hli
 ·intro i j oi oj li lj hij hgi hgj hli hlj hrwi
  by_cases hi : i = n
  ·subst hi
   have hj : j ≠ i := fun e => hij e.symm
   obtain ⟨h1, h2⟩ := pull j oj hj hgj
   rw [upd_ne φ l' hj] at hlj
   rw [upd_same] at hli; injection hli with hli; subst hli
   rw [hc]
   exact hR.inj id j o oj l lj (fun e => h1 e.symm) hg h2 hl hlj hrw
  ·obtain ⟨h1, h2⟩ := pull i oi hi hgi
   rw [upd_ne φ l' hi] at hli
   by_cases hj : j = n
   ·subst hj
    rw [upd_same] at hlj; injection hlj with hlj; subst hlj
    rw [hc]
    exact fun e => hR.inj id i o oi l li (fun e => h1 e.symm) hg h2 hl hli hrw e.symm
   ·obtain ⟨h3, h4⟩ := pull j oj hj hgj
    rw [upd_ne φ l' hj] at hlj
    exact hR.inj i j oi oj li lj hij h2 h4 hli hlj hrwi
 ·intro i hi
  rw [upd_ne φ l' (by omega)]
  exact hR.fresh i (by omega)
 ·have hb := hR.below
  exact ⟨hT.os.trans hb.os, hT.tape.trans hb.tape, hT.output.trans hb.output, by rw [hT.size]; exact hb.size, fun k hk => (hT.block k (by omega)).trans (hb.block k hk)⟩
 ·intro i hi h
  rw [upd_ne φ l' (by omega)]; exact h
 ·intro i hi h
  have : i ≠ id := fun e => by subst e; rw [h] at hl; cases hl
  simp [gset, this, show ¬ i = n by omega]
 ·intro c hc' hno
  exact hT.block c (fun e => hno id o l hg hl hrw e.symm)
 ·intro i oi li hgi hli hr
  by_cases hi : i = n
  ·subst hi
   rw [upd_same] at hli; injection hli with hli; subst hli
   exact .inr ⟨id, o, l, hg, hl, hrw, hc.symm⟩
  ·obtain ⟨h1, h2⟩ := pull i oi hi hgi
   rw [upd_ne φ l' hi] at hli
   exact .inr ⟨i, oi, li, h2, hli, hr, rfl⟩
theorem growBy_le (nl : Nat) : ∀ (r c : Nat), Builtin.growBy nl r c ≤ 2 ^ r * (c + 768)
 | 0, c => by simp [Builtin.growBy]
 | r + 1, c => by
   simp only [Builtin.growBy]
   have h1 : 1 ≤ 2 ^ r := Nat.one_le_two_pow
   have e : 2 ^ (r + 1) * (c + 768) = 2 ^ r * (2 * (c + 768)) := by rw [Nat.pow_succ, Nat.mul_assoc]
   split
   ·rw [e]
    calc c ≤ 1 * (2 * (c + 768)) := by omega
     _ ≤ _ := Nat.mul_le_mul_right _ h1
   ·refine Nat.le_trans (growBy_le nl r _) ?_
    rw [e]
    exact Nat.mul_le_mul_left _ (by omega)
theorem cap_le {need cap bytes : Nat} (h : cap < need) (hb : need * bytes ≤ 17179869184) : Builtin.nextslicecap need cap * bytes ≤ 281474976710656 := by
 have h1 : Builtin.nextslicecap need cap ≤ 16 * (need + 768) := by
  unfold Builtin.nextslicecap
  split
  ·omega
  ·split
   ·omega
   ·have h := growBy_le need 4 cap
    have e : (2 : Nat) ^ 4 = 16 := by decide
    rw [e] at h
    have h2 : 16 * (cap + 768) ≤ 16 * (need + 768) := Nat.mul_le_mul_left _ (by omega)
    exact Nat.le_trans h h2
 have h2 : bytes ≤ need * bytes := Nat.le_mul_of_pos_left _ (by omega)
 calc Builtin.nextslicecap need cap * bytes ≤ 16 * (need + 768) * bytes := Nat.mul_le_mul_right _ h1
  _ = 16 * (need * bytes) + 12288 * bytes := by rw [Nat.mul_assoc, Nat.add_mul, Nat.mul_add]; omega
  _ ≤ _ := by omega
theorem askRoom_run (k : Nat) (w : World) : (askRoom k).run P w = .ok () w := by
 unfold askRoom
 split
 ·simp [mark, Sem.run, Sem.run_pure]
 ·simp [Sem.run_pure]
theorem Rel.drew (hR : Rel w0 φ g n w) : Rel w0 φ g n w.drew :=
 ⟨fun id o l h1 h2 => (hR.objs id o l h1 h2).keep rfl (fun _ _ h => h), hR.own, hR.inj, hR.fresh, hR.gfresh, ⟨hR.below.os, hR.below.tape, hR.below.output, hR.below.size, hR.below.block⟩⟩
theorem lenOf_run {x : AV} {u : Value} (hu : VR φ x u) {m : Nat} (h : alenOf x = some m) (w : World) : (Builtin.lenOf u).run P w = .ok m w := by
 unfold alenOf at h
 split at h
 ·simp only [Option.some.injEq] at h; subst h
  simp only [VR] at hu
  obtain ⟨_, _, _, _, rfl, _⟩ := hu
  simp [Builtin.lenOf, Sem.run_pure]
 ·simp only [Option.some.injEq] at h; subst h
  simp only [VR] at hu; subst hu
  simp [Builtin.lenOf, Sem.run_pure]
 ·simp only [Option.some.injEq] at h; subst h
  simp only [VR] at hu
  obtain ⟨b, rfl, rfl⟩ := hu
  simp [Builtin.lenOf, Sem.run_pure, bytesOf_length]
 ·cases h
theorem zeroCells_spec {t : TypeId} {te : TI} (hT : TyOK P t te) {z : Value} (hz1 : te.zero = ofArr z.cells) (k : Nat) :
  VRL φ (rep k te.zero) (Builtin.zeroCells z.cells k).toList := by
 have hv : VRL φ te.zero z.cells.toList := by rw [hz1]; exact ofArr_toArray _
 exact VRL.zeros hv k _ (by rw [← Array.length_toList, hv.length])
theorem afirst_length {es m : Nat} {x : AV} {r : List AV} (h : afirst g es m x = some r) (hm : alenOf x = some m) : r.length = m * es := by
 unfold afirst at h
 split at h
 ·rename_i id off len cap es' hid
  cases hes : Nat.beq es es' with
  | false => rw [hes] at h; cases h
  | true =>
    rw [hes] at h
    simp only [cond_true] at h
    split at h
    ·exact (cut_some h).2
    ·cases h
 ·simp only [alenOf, Option.some.injEq] at hm
  simp only [Option.some.injEq] at h
  subst hm; subst h; simp
 ·cases hes : Nat.beq es 1 with
  | false => rw [hes] at h; cases h
  | true =>
    rw [hes] at h
    have := Nat.eq_of_beq_eq_true hes; subst this
    simp only [alenOf, Option.some.injEq] at hm
    simp only [cond_true, Option.some.injEq] at h
    subst hm; subst h; simp
 ·cases h
theorem app_kinds (hE : EnvOK P E) (hR : Rel w0 φ g n w) {e xt : TypeId} {te tx : TI} (hte : E.ty.get e = some te) (htx : E.ty.get xt = some tx) {x : AV} {u : Value} (hu : VR φ x u) {m : Nat} {new : List AV}
  (hn : aappN te tx x = some m) (hnew : aappNew g te tx m x = some new) :
  (∃ k k' : IntKind, (∀ w, (underlying xt).run P w = .ok (.int k) w) ∧ u = .int k' m ∧ m ≤ 281474976710656 ∧ m * te.bytes ≤ 281474976710656 ∧ new = rep m te.zero) ∨
  (∃ dx : TypeDesc, (∀ k, dx ≠ .int k) ∧ (∀ w, (underlying xt).run P w = .ok dx w) ∧ (∀ w, (Builtin.lenOf u).run P w = .ok m w) ∧ new.length = m * te.size ∧ ∃ cs : List Value, (Builtin.firstCells te.size m u).run P w = .ok cs.toArray w ∧ VRL φ new cs) := by
 have hX := hE.at_ htx
 obtain ⟨dx, hdx, hkx⟩ := hX.und_
 unfold aappN at hn
 unfold aappNew at hnew
 split at hn
 ·rename_i k hk
  rw [hk] at hkx
  have := mkK_int hkx; subst this
  simp only [hk] at hnew
  split at hn
  ·rename_i k' i
   cases hb : (decide (0 ≤ i) && decide (i ≤ 281474976710656) && Nat.ble (i.toNat * te.bytes) 281474976710656) with
   | false => rw [hb] at hn; cases hn
   | true =>
     rw [hb] at hn
     simp only [cond_true, Option.some.injEq] at hn
     simp only [Bool.and_eq_true, decide_eq_true_eq] at hb
     have hby := Nat.le_of_ble_eq_true hb.2
     cases hz : te.zero.all AV.one with
     | false => rw [hz] at hnew; cases hnew
     | true =>
       rw [hz] at hnew
       simp only [cond_true, Option.some.injEq] at hnew
       simp only [VR] at hu
       subst hn
       exact .inl ⟨k, k', hdx, by rw [hu]; congr 1; omega, by omega, hby, hnew.symm⟩
  ·cases hn
 ·rename_i hni
  right
  have hd' : ∀ k, dx ≠ .int k := fun k hk' => by subst hk'; exact hni k hkx
  refine ⟨dx, hd', hdx, lenOf_run hu hn, ?_⟩
  have hnew' : afirst g te.size m x = some new := by
   split at hnew
   ·rename_i k hk; exact absurd hk (hni k)
   ·exact hnew
  exact ⟨afirst_length hnew' hn, run_first hR hnew' hu (fun m' hm => by rw [hn] at hm; injection hm with hm; omega)⟩
theorem app_fits (hE : EnvOK P E) (hR : Rel w0 φ g n w) {t e xt ty : TypeId} {te tx : TI} (hd : ∀ w, (underlying t).run P w = .ok (.slice e) w) (hte : E.ty.get e = some te) (htx : E.ty.get xt = some tx) {x : AV} {u : Value} (hu : VR φ x u) {m : Nat} {new : List AV}
  (hn : aappN te tx x = some m) (hnew : aappNew g te tx m x = some new) {base : Option Addr} {sLen sCap : Nat} (hle : sLen + m ≤ sCap) :
  ∃ cs : List Value, VRL φ new cs ∧ (Builtin.append_ #[t, xt] ty #[.slice base sLen sCap, u]).run P w =
   ((match base with | some a => storeCells (a.add (sLen * te.size)) cs | none => pure ()).run P w).andThen fun _ w' => .ok (.slice base (sLen + m) sCap) w' := by
 have hTe := hE.at_ hte
 rcases app_kinds hE hR hte htx hu hn hnew with ⟨k, k', hdx, rfl, hm1, hm2, rfl⟩ | ⟨dx, hni, hdx, hl, hnl, cs, hf, hcs⟩
 ·obtain ⟨ei, hti, hti2, _⟩ := hTe.typeInfo_ w
  obtain ⟨z, hz, hz1, hz2⟩ := hTe.zero2_
  have hw := i64_small hm1
  have h1 : ¬ (m : Int) < 0 := by omega
  have h2 : ¬ ((m : Int) * ei.bytes > 2 ^ 48) := by
   have : ((m * te.bytes : Nat) : Int) ≤ 281474976710656 := by omega
   rw [Int.natCast_mul] at this
   rw [hti2]; omega
  have hcells := zeroCells_spec (φ := φ) hTe hz1 m
  by_cases h0 : m * te.size = 0
  ·refine ⟨[], ?_, ?_⟩
   ·have : rep m te.zero = [] := List.eq_nil_of_length_eq_zero (by rw [rep_length, hTe.zlen, h0])
    rw [this]; exact VRL.nil
   ·simp only [Builtin.append_, List.getElem?_toArray, List.getElem?_cons_zero, List.getElem?_cons_succ, Sem.run_bind, hd, hdx, hTe.sizeOf_, Result.andThen_ok, Sem.run_pure, Bool.false_eq_true, if_false, hle, if_true, Bool.not_false, hti, asInt, asIntOf, hw, h1, h2, Int.toNat_natCast, Bool.not_true, h0]
    cases base <;> simp [Sem.run_pure, Sem.run_bind, Result.andThen]
  ·refine ⟨_, hcells, ?_⟩
   simp only [Builtin.append_, List.getElem?_toArray, List.getElem?_cons_zero, List.getElem?_cons_succ, Sem.run_bind, hd, hdx, hTe.sizeOf_, Result.andThen_ok, Sem.run_pure, Bool.false_eq_true, if_false, hle, if_true, Bool.not_false, hti, asInt, asIntOf, hw, h1, h2, Int.toNat_natCast, Bool.not_true, h0, hz]
   cases base <;> simp [Sem.run_pure, Sem.run_bind, Result.andThen]
 ·have hz : (match dx with | .int _ => true | _ => false) = false := by cases dx <;> first | rfl | exact absurd rfl (hni _)
  refine ⟨cs, hcs, ?_⟩
  simp only [Builtin.append_, List.getElem?_toArray, List.getElem?_cons_zero, List.getElem?_cons_succ, Sem.run_bind, hd, hdx, hTe.sizeOf_, Result.andThen_ok, Sem.run_pure, hz, Bool.false_eq_true, if_false, hl, hle, if_true, Bool.not_false, hf]
  cases base <;> simp [Sem.run_pure, Sem.run_bind, Result.andThen]
theorem app_grows (hE : EnvOK P E) (hR : Rel w0 φ g n w) {t e xt ty : TypeId} {te tx : TI} (hd : ∀ w, (underlying t).run P w = .ok (.slice e) w) (hte : E.ty.get e = some te) (htx : E.ty.get xt = some tx) {x : AV} {u : Value} (hu : VR φ x u) {m : Nat} {new : List AV}
  (hn : aappN te tx x = some m) (hnew : aappNew g te tx m x = some new) {base : Option Addr} {sLen sCap : Nat} (hle : ¬ sLen + m ≤ sCap) (hok : growOk te (sLen + m) = true)
  {ol : List Value} (hold : (Builtin.firstCells te.size sLen (.slice base sLen sCap)).run P w.drew = .ok ol.toArray w.drew) (holl : ol.length = sLen * te.size) :
  ∃ (cs : List Value) (arr : Array Value) (c : Nat), VRL φ new cs ∧ cs.length = m * te.size ∧ sLen + m ≤ c ∧ arr.size = c * te.size ∧ (∃ rs, arr.toList = ol ++ cs ++ rs) ∧
   (Builtin.append_ #[t, xt] ty #[.slice base sLen sCap, u]).run P w = .ok (.slice (some ⟨w.heap.size, 0, none⟩) (sLen + m) c) (w.drew.alloc (.cells arr e)) := by
 have hTe := hE.at_ hte
 obtain ⟨ei, hti, hti2, _⟩ := hTe.typeInfo_ w
 obtain ⟨ej, htj, htj2, _⟩ := hTe.typeInfo_ w.drew
 obtain ⟨z, hz, hz1, hz2⟩ := hTe.zero2_
 unfold growOk growB at hok
 simp only [Bool.and_eq_true] at hok
 have ho1 := Nat.le_of_ble_eq_true hok.1
 have ho2 := Nat.le_of_ble_eq_true hok.2
 obtain ⟨c, hc1, hc2⟩ := choose_appendCap (P := P) (sLen + m) sCap e w ho1
 have hcap : ¬ (Builtin.nextslicecap (sLen + m) sCap * ei.bytes > 2 ^ 48) := by
  have := cap_le (need := sLen + m) (cap := sCap) (bytes := ei.bytes) (by omega) (by rw [hti2]; exact ho2)
  omega
 have hmax : ¬ (((sLen + m : Nat) : Int) > IntKind.i64.max) := by
  have : IntKind.i64.max = 9223372036854775807 := by decide
  rw [this]; omega
 have hzs : (z.cells).size = te.size := by rw [← hTe.zlen, hz1, ofArr_length]
 have hzc : ∀ k, (Builtin.zeroCells z.cells k).size = k * te.size := by intro k; simp [Builtin.zeroCells, hzs]
 rcases app_kinds hE hR.drew hte htx hu hn hnew with ⟨k, k', hdx, rfl, hm1, hm2, rfl⟩ | ⟨dx, hni, hdx, hl, hnl, cs, hf, hcs⟩
 ·have hw := i64_small hm1
  have h1 : ¬ (m : Int) < 0 := by omega
  have h2 : ¬ ((m : Int) * ei.bytes > 2 ^ 48) := by
   have : ((m * te.bytes : Nat) : Int) ≤ 281474976710656 := by omega
   rw [Int.natCast_mul] at this
   rw [hti2]; omega
  have hcells := zeroCells_spec (φ := φ) hTe hz1 m
  by_cases h0 : m * te.size = 0
  ·refine ⟨[], ol.toArray ++ #[] ++ Builtin.zeroCells z.cells (c - (sLen + m)), c, ?_, by simp [h0], hc1, ?_, ⟨(Builtin.zeroCells z.cells (c - (sLen + m))).toList, by simp⟩, ?_⟩
   ·have : rep m te.zero = [] := List.eq_nil_of_length_eq_zero (by rw [rep_length, hTe.zlen, h0])
    rw [this]; exact VRL.nil
   ·simp only [Array.size_append, List.size_toArray, holl, hzc, Array.size_empty, List.length_nil]
    have : c = sLen + m + (c - (sLen + m)) := by omega
    generalize c - (sLen + m) = d at this
    subst this
    rw [Nat.add_mul, Nat.add_mul]; omega
   ·simp only [Builtin.append_, List.getElem?_toArray, List.getElem?_cons_zero, List.getElem?_cons_succ, Sem.run_bind, hd, hdx, hTe.sizeOf_, Result.andThen_ok, Sem.run_pure, Bool.false_eq_true, if_false, hle, if_true, Bool.not_false, hti, htj, asInt, asIntOf, hw, h1, h2, Int.toNat_natCast, Bool.not_true, h0, hz, hmax, false_and, hcap, hc2, askRoom_run, hold]
    simp [newRow, newObj, Sem.run, Sem.run_pure, Sem.run_bind, World.alloc_eq, Result.andThen]
    rfl
  ·have hcl : (Builtin.zeroCells z.cells m).toList.length = m * te.size := by rw [Array.length_toList, hzc]
   refine ⟨_, ol.toArray ++ Builtin.zeroCells z.cells m ++ Builtin.zeroCells z.cells (c - (sLen + m)), c, hcells, hcl, hc1, ?_, ⟨(Builtin.zeroCells z.cells (c - (sLen + m))).toList, by simp⟩, ?_⟩
   ·simp only [Array.size_append, List.size_toArray, holl, hzc]
    have : c = sLen + m + (c - (sLen + m)) := by omega
    generalize c - (sLen + m) = d at this
    subst this
    rw [Nat.add_mul, Nat.add_mul]
   ·simp only [Builtin.append_, List.getElem?_toArray, List.getElem?_cons_zero, List.getElem?_cons_succ, Sem.run_bind, hd, hdx, hTe.sizeOf_, Result.andThen_ok, Sem.run_pure, Bool.false_eq_true, if_false, hle, if_true, Bool.not_false, hti, htj, asInt, asIntOf, hw, h1, h2, Int.toNat_natCast, Bool.not_true, h0, hz, hmax, false_and, hcap, hc2, askRoom_run, hold]
    simp [newRow, newObj, Sem.run, Sem.run_pure, Sem.run_bind, World.alloc_eq, Result.andThen]
    rfl
 ·have hzf : (match dx with | .int _ => true | _ => false) = false := by cases dx <;> first | rfl | exact absurd rfl (hni _)
  have hcl : cs.length = m * te.size := by
   rw [hcs.length, hnl]
  refine ⟨cs, ol.toArray ++ cs.toArray ++ Builtin.zeroCells z.cells (c - (sLen + m)), c, hcs, hcl, hc1, ?_, ⟨(Builtin.zeroCells z.cells (c - (sLen + m))).toList, by simp⟩, ?_⟩
  ·simp only [Array.size_append, List.size_toArray, holl, hzc, hcl]
   have : c = sLen + m + (c - (sLen + m)) := by omega
   generalize c - (sLen + m) = d at this
   subst this
   rw [Nat.add_mul, Nat.add_mul]
  ·simp only [Builtin.append_, List.getElem?_toArray, List.getElem?_cons_zero, List.getElem?_cons_succ, Sem.run_bind, hd, hdx, hTe.sizeOf_, Result.andThen_ok, Sem.run_pure, hzf, Bool.false_eq_true, if_false, hl, hle, if_true, Bool.not_false, hti, htj, hmax, false_and, hcap, hc2, askRoom_run, hold, hf, hz]
   simp [newRow, newObj, Sem.run, Sem.run_pure, Sem.run_bind, World.alloc_eq, Result.andThen]
   rfl
end
end Go.Proofs.Ytmjmhpbncfjnpaa.Bm
