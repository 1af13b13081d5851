/- The abstract machine: what lays new objects. -/
import Derived.Test.YtmjmhpbncfjnpaaBmK
set_option linter.unusedSimpArgs false
set_option linter.unusedVariables false
namespace Go.Proofs.Ytmjmhpbncfjnpaa.Bm
open Go.RowKit
section
variable {P : Program} {E : Env} {w0 w w' : World} {φ : Phi} {g : Heap} {n : Nat}
theorem notBad {x : AV} (h : x.cells.all AV.one = true) : x.isBad = false := by
 cases x <;> first | rfl | (simp [AV.cells, AV.one] at h)
theorem cellsObj {φ' : Phi} (hle : ∀ id l, φ id = some l → φ' id = some l) {vs : List AV} {cs : Array Value} (hv : VRL φ vs cs.toList) (e : TypeId) (w : World) :
  ObjR φ' (w.alloc (.cells cs e)) ⟨w.heap.size, 0, cs.size⟩ (.cells vs true) := by
 have hn := Laid.new w (.cells cs e)
 have hlen : cs.size = vs.length := by rw [← Array.length_toList]; exact hv.length
 refine ⟨fun j x hx => ?_, by show vs.length ≤ cs.size; omega, fun _ => ⟨cs, e, (0, 0), hn, by simp, fun j _ => by simp only [World.frozen?, hn]; simp⟩⟩
 obtain ⟨v, h1, h2⟩ := hv.at_ j x hx
 refine ⟨v, ?_, VR.mono hle _ _ h2⟩
 simp only [World.cell?, hn]
 simpa using h1
theorem rep_at {α : Type} (zs : List α) : ∀ (n j : Nat), j < n * zs.length → (rep n zs)[j]? = zs[j % zs.length]?
 | 0, j, h => by simp at h
 | n + 1, j, h => by
   simp only [rep]
   by_cases hj : j < zs.length
   ·rw [List.getElem?_append_left hj, Nat.mod_eq_of_lt hj]
   ·have hle : zs.length ≤ j := by omega
    have hz : 0 < zs.length := by
     rcases Nat.eq_zero_or_pos zs.length with h0 | h0
     ·rw [h0] at h; simp at h
     ·exact h0
    rw [List.getElem?_append_right hle, rep_at zs n (j - zs.length) (by rw [Nat.add_mul] at h; omega)]
    congr 1
    exact (Nat.mod_eq_sub_mod hle).symm
theorem rep_length {α : Type} (zs : List α) : ∀ n : Nat, (rep n zs).length = n * zs.length
 | 0 => by simp [rep]
 | n + 1 => by simp [rep, rep_length zs n, Nat.add_mul]; omega
theorem VRL.zeros {zs : List AV} {z : Array Value} (hz : VRL φ zs z.toList) (k m : Nat) (hm : m = k * zs.length) : VRL φ (rep k zs) ((Array.range m).map (fun i => z[i % z.size]!)).toList := by
 subst hm
 have hzl : z.size = zs.length := by rw [← Array.length_toList]; exact hz.length
 refine VRL.of_at (by simp [rep_length]) fun j x hx => ?_
 have hj : j < k * zs.length := by
  have := (List.getElem?_eq_some_iff.1 hx).1
  rwa [rep_length] at this
 have hpos : 0 < zs.length := by
  rcases Nat.eq_zero_or_pos zs.length with h0 | h0
  ·rw [h0] at hj; simp at hj
  ·exact h0
 rw [rep_at zs k j hj] at hx
 obtain ⟨v, h1, h2⟩ := hz.at_ _ _ hx
 refine ⟨v, ?_, h2⟩
 simp only [Array.toList_map, Array.toList_range, List.getElem?_map, List.getElem?_range hj, Option.map_some, Option.some.injEq]
 rw [hzl]
 have hlt : j % zs.length < z.size := by rw [hzl]; exact Nat.mod_lt _ hpos
 rw [getElem!_pos z _ hlt]
 have := h1
 rw [Array.getElem?_toList, Array.getElem?_eq_getElem hlt] at this
 injection this
theorem afill_length {pl : Nat → Option (Nat × Nat)} : ∀ (ps : List (Nat × AV)) (cells r : List AV), afill pl cells ps = some r → r.length = cells.length
 | [], cells, r, h => by simp only [afill, Option.some.injEq] at h; rw [h]
 | (i, v) :: ps, cells, r, h => by
   simp only [afill] at h
   cases hp : pl i with
   | none => rw [hp] at h; cases h
   | some q =>
     obtain ⟨off, size⟩ := q
     simp only [hp] at h
     cases hq : (!v.isBad && (Nat.beq v.cells.length size && Nat.ble off cells.length)) with
     | false => rw [hq] at h; cases h
     | true =>
       rw [hq] at h
       simp only [cond_true] at h
       cases hw : wr cells off v.cells with
       | none => rw [hw] at h; cases h
       | some c' =>
         rw [hw] at h
         rw [afill_length ps _ _ h, (wr_spec _ _ _ _ hw).1]
theorem zerosRun {t : TypeId} {te : TI} (hT : TyOK P t te) {z : Value} (hz1 : te.zero = ofArr z.cells) (k : Nat) : ∃ zc : Array Value, ((k * te.size = 0 → zc = #[]) ∧ (k * te.size ≠ 0 → zc = z.cells)) ∧
  VRL φ (rep k te.zero) ((Array.range (k * te.size)).map (fun i => zc[i % zc.size]!)).toList := by
 have hv : VRL φ te.zero z.cells.toList := by rw [hz1]; exact ofArr_toArray _
 have hzs : VRL φ (rep k te.zero) ((Array.range (k * te.size)).map (fun i => z.cells[i % z.cells.size]!)).toList := VRL.zeros hv k _ (by rw [hT.zlen])
 by_cases h0 : k * te.size = 0
 ·refine ⟨#[], ⟨fun _ => rfl, fun h => absurd h0 h⟩, ?_⟩
  rw [h0] at hzs ⊢
  simpa using hzs
 ·exact ⟨z.cells, ⟨fun h => absurd h h0, fun _ => rfl⟩, hzs⟩
theorem VRL.ints (l : List Nat) (s : ByteArray) (h : bytesOf s = l) : VRL φ (l.map fun (b : Nat) => AV.int .u8 (b : Int)) (s.data.map fun b => Value.int .u8 b.toNat).toList := by
 subst h
 unfold bytesOf
 rw [Array.toList_map]
 induction s.data.toList with
 | nil => exact VRL.nil
 | cons c cs ih => exact VRL.cons (by simp only [VR]) ih
theorem i64_small {m : Nat} (h : m ≤ 281474976710656) : IntKind.i64.wrap (m : Int) = m := by
 unfold IntKind.wrap
 have e : (m : Int) % (2 ^ IntKind.i64.bits : Int) = m := Int.emod_eq_of_lt (by omega) (by show (m : Int) < 2 ^ 64; omega)
 simp only [e]
 rw [if_neg]
 simp only [Bool.and_eq_true, decide_eq_true_eq, not_and]
 intro _
 show ¬ ((m : Int) ≥ 2 ^ 63)
 omega
theorem choose_appendCap (need old : Nat) (e : TypeId) (w : World) (hn : need ≤ 281474976710656) : ∃ c, need ≤ c ∧ (choose (.appendCap need old e)).run P w = .ok c w.drew := by
 refine ⟨Question.cut (.appendCap need old e) (w.tape w.drawn (.appendCap need old e)), ?_, ?_⟩
 ·simp only [Question.cut]; omega
 ·simp only [choose, Sem.run, Question.forced, Bool.false_eq_true, if_false]; rfl
theorem marked_row (w : World) (cs : Array Value) (e : TypeId) : ∃ w', (do let a ← newRow e cs; markStringish a; pure a : Sem Addr).run P w = .ok ⟨w.heap.size, 0, none⟩ w' ∧ Laid w w' ∧ w'.heap[w.heap.size]? = some (.cells cs e (cs.size, cs.size + 1)) := by
 have hn := Laid.new w (.cells cs e)
 have hA := Laid.alloc w (.cells cs e)
 refine ⟨(w.alloc (.cells cs e)).freeze { block := w.heap.size, off := cs.size } 1, ?_, ?_, ?_⟩
 ·have hsh : (w.alloc (.cells cs e)).shape? w.heap.size = some (e, cs.size) := by simp only [World.shape?, hn]
  have h1 : (newRow e cs).run P w = .ok ⟨w.heap.size, 0, none⟩ (w.alloc (.cells cs e)) := rfl
  have h2 : (markStringish ⟨w.heap.size, 0, none⟩).run P (w.alloc (.cells cs e)) = .ok () ((w.alloc (.cells cs e)).freeze { block := w.heap.size, off := cs.size } 1) := by
   have h3 : (shape w.heap.size).run P (w.alloc (.cells cs e)) = .ok (some (e, cs.size)) (w.alloc (.cells cs e)) := by
    show Result.ok ((w.alloc (.cells cs e)).shape? w.heap.size) _ = _
    rw [hsh]
   simp only [markStringish, Sem.run_bind, h3, Result.andThen_ok]
   rfl
  simp only [Sem.run_bind, h1, h2, Result.andThen_ok, Sem.run_pure]
 ·refine ⟨hA.os, hA.tape, hA.output, ?_, fun c hc => ?_⟩
  ·rw [← hA.size]; simp [World.freeze]
  ·rw [← hA.block c hc]
   simp only [World.freeze, Nat.one_ne_zero, if_false, Array.getElem?_modify]
   rw [if_neg (by omega)]
 ·simp only [World.freeze, Nat.one_ne_zero, if_false, Array.getElem?_modify, if_true, hn, Option.map_some]
  simp
theorem run_aalloc0 (hE : EnvOK P E) {ρa : Operand → AV} {ρ : Operand → Value} (hρ : ∀ x, VR φ (ρa x) (ρ x)) {o : Oper} {ob : AObj} {f : Nat → AV}
  (h : aalloc0 E ρa o.op = some (ob, f)) {id : Nat} (hid : φ id = none) :
  ∃ z w' l, (execOp ρ o).run P w = .ok (.value z) w' ∧ Laid w w' ∧ l.c = w.heap.size ∧ ob.rw = true ∧ ObjR (upd φ id l) w' l ob ∧ VR (upd φ id l) (f id) z := by
 unfold aalloc0 at h
 split at h <;> rename_i hop <;> (try cases h)
 ·-- alloc
  rename_i e
  split at h
  ·rename_i te hte
   simp only [Option.some.injEq, Prod.mk.injEq] at h
   obtain ⟨rfl, rfl⟩ := h
   have hT := hE.at_ hte
   obtain ⟨z, hz, hz1, _⟩ := hT.zero2_
   have hv : VRL φ te.zero z.cells.toList := by rw [hz1]; exact ofArr_toArray _
   refine ⟨.pointer (some ⟨w.heap.size, 0, none⟩), w.alloc (.cells z.cells e), ⟨w.heap.size, 0, z.cells.size⟩, ?_, Laid.alloc _ _, rfl, rfl, cellsObj (upd_le _ hid) hv e w, by simp only [VR]; exact ⟨_, upd_same _ _ _, rfl⟩⟩
   simp [execOp, hop, Instr.alloc, Sem.run_bind, hz, Result.andThen_ok, newVar, newRow, newObj, Sem.run, Sem.run_pure, World.alloc_eq]
  ·cases h
 ·-- box
  rename_i e x
  simp only at h
  cases hone : (ρa x).cells.all AV.one with
  | false => rw [hone] at h; cases h
  | true =>
    rw [hone] at h
    simp only [cond_true, Option.some.injEq, Prod.mk.injEq] at h
    obtain ⟨rfl, rfl⟩ := h
    refine ⟨.pointer (some ⟨w.heap.size, 0, none⟩), w.alloc (.cells (ρ x).cells e), ⟨w.heap.size, 0, (ρ x).cells.size⟩, ?_, Laid.alloc _ _, rfl, rfl, cellsObj (upd_le _ hid) ((hρ x).cells (notBad hone)) e w, by simp only [VR]; exact ⟨_, upd_same _ _ _, rfl⟩⟩
    simp [execOp, hop, Instr.box, Sem.run_bind, Result.andThen_ok, newVar, newRow, newObj, Sem.run, Sem.run_pure, World.alloc_eq]
 ·-- buildSlice
  rename_i t len parts
  split at h
  ·cases h
  ·rename_i ti ht
   have hT := hE.at_ ht
   obtain ⟨d, hd, hk⟩ := hT.und_
   split at h
   ·rename_i e hkk
    rw [hkk] at hk
    have := mkK_slice hk; subst this
    split at h
    ·cases h
    ·rename_i te hte
     have hTe := hE.at_ hte
     obtain ⟨z, hz, hz1, hz2⟩ := hTe.zero2_
     cases hb : Nat.ble (len * te.size) 16777216 with
     | false => rw [hb] at h; cases h
     | true =>
       rw [hb] at h
       simp only [cond_true] at h
       have hle := Nat.le_of_ble_eq_true hb
       split at h
       ·rename_i cs hcs
        cases hone : cs.all AV.one with
        | false => rw [hone] at h; cases h
        | true =>
          rw [hone] at h
          simp only [cond_true, Option.some.injEq, Prod.mk.injEq] at h
          obtain ⟨rfl, rfl⟩ := h
          obtain ⟨zc, ⟨hzc1, hzc3⟩, hzc2⟩ := zerosRun (φ := φ) hTe hz1 len
          obtain ⟨l', hf, hr⟩ := run_fill (parts' := (parts.map fun (i, x) => (i, ρ x)).toList) hcs hzc2 (by simp) (by
           have := VRL.map_ops hρ (parts.toList.map (·.2))
           simp only [List.map_map, Array.toList_map] at this ⊢
           exact this)
          simp only [Array.toArray_toList] at hf
          have hlen : l'.length = len * te.size := by
           rw [hr.length]
           rw [afill_length _ _ _ hcs, rep_length, hTe.zlen]
          refine ⟨.slice (some ⟨w.heap.size, 0, none⟩) len len, w.alloc (.cells l'.toArray e), ⟨w.heap.size, 0, l'.toArray.size⟩, ?_, Laid.alloc _ _, rfl, rfl, cellsObj (upd_le _ hid) (by simpa using hr) e w, ?_⟩
          ·by_cases h0 : len * te.size = 0
           ·rw [hzc1 h0] at hf
            rw [h0] at hf
            simp only [execOp, hop, Instr.buildSlice, Sem.run_bind, hd, Result.andThen_ok, hTe.sizeOf_, h0, show ¬ ((0 : Nat) > 2 ^ 24) by omega, if_false, if_true, Sem.run_pure, hf]
            simp [newRow, newObj, Sem.run, Sem.run_pure, Sem.run_bind, World.alloc_eq, Result.andThen]
           ·rw [hzc3 h0] at hf
            simp only [execOp, hop, Instr.buildSlice, Sem.run_bind, hd, Result.andThen_ok, hTe.sizeOf_, h0, show ¬ (len * te.size > 2 ^ 24) by omega, if_false, hz, Sem.run_pure, hf]
            simp [newRow, newObj, Sem.run, Sem.run_pure, Sem.run_bind, World.alloc_eq, Result.andThen]
          ·simp only [VR]
           exact ⟨_, _, len, upd_same _ _ _, rfl, Nat.le_refl _, Nat.le_refl _, fun _ => rfl, fun _ => by simp, fun _ => by simp [hlen]⟩
       ·cases h
   ·cases h
 ·-- makeSlice
  rename_i t l c
  split at h
  ·cases h
  ·rename_i ti ht
   have hT := hE.at_ ht
   obtain ⟨d, hd, hk⟩ := hT.und_
   split at h
   ·rename_i e hkk
    rw [hkk] at hk
    have := mkK_slice hk; subst this
    split at h
    ·cases h
    ·rename_i te hte
     have hTe := hE.at_ hte
     obtain ⟨z, hz, hz1, hz2⟩ := hTe.zero2_
     split at h
     ·rename_i ln cn hln hcn
      have hmk : ∀ {x : Operand} {m : Nat}, amakeLen (ρa x) = some m → ∃ k, ρ x = .int k (m : Int) ∧ m ≤ 281474976710656 := by
       intro x m hx
       have hxx := hρ x
       unfold amakeLen at hx
       split at hx
       ·rename_i k i hxa
        rw [hxa] at hxx
        simp only [VR] at hxx
        cases hb : (decide (0 ≤ i) && decide (i ≤ 281474976710656)) with
        | false => rw [hb] at hx; cases hx
        | true =>
          rw [hb] at hx
          simp only [cond_true, Option.some.injEq] at hx
          simp only [Bool.and_eq_true, decide_eq_true_eq] at hb
          subst hx
          exact ⟨k, by rw [hxx]; congr 1; omega, by omega⟩
       ·cases hx
      obtain ⟨kl, hl1, hl2⟩ := hmk hln
      obtain ⟨kc, hc1, hc2⟩ := hmk hcn
      cases hb : (Nat.ble ln cn && Nat.ble (te.bytes * cn) 281474976710656) with
      | false => rw [hb] at h; cases h
      | true =>
        rw [hb] at h
        simp only [cond_true, Option.some.injEq, Prod.mk.injEq] at h
        obtain ⟨rfl, rfl⟩ := h
        simp only [Bool.and_eq_true] at hb
        have hlc := Nat.le_of_ble_eq_true hb.1
        have hby := Nat.le_of_ble_eq_true hb.2
        obtain ⟨zc, ⟨hzc1, hzc3⟩, hzc2⟩ := zerosRun (φ := φ) hTe hz1 cn
        obtain ⟨ie, hie, hie2, _⟩ := hTe.typeInfo_ w
        have w1 : IntKind.i64.wrap (ln : Int) = ln := i64_small hl2
        have w2 : IntKind.i64.wrap (cn : Int) = cn := i64_small hc2
        have hbl : (ie.bytes : Int) * (cn : Int) ≤ 281474976710656 := by
         have h3 : ((te.bytes * cn : Nat) : Int) ≤ 281474976710656 := by omega
         rw [Int.natCast_mul] at h3
         rw [hie2]; exact h3
        have hask : ∀ k : Nat, (askRoom k).run P w = .ok () w := by
         intro k
         unfold askRoom
         split
         ·simp [mark, Sem.run, Sem.run_pure]
         ·simp [Sem.run_pure]
        refine ⟨.slice (some ⟨w.heap.size, 0, none⟩) ln cn, w.alloc (.cells ((Array.range (cn * te.size)).map (fun i => zc[i % zc.size]!)) e), ⟨w.heap.size, 0, ((Array.range (cn * te.size)).map (fun i => zc[i % zc.size]!)).size⟩, ?_, Laid.alloc _ _, rfl, rfl, cellsObj (upd_le _ hid) hzc2 e w, ?_⟩
        ·have t1 : (decide ((cn : Int) < 0) || decide ((ie.bytes : Int) * (cn : Int) > 2 ^ 48)) = false := by
          simp only [Bool.or_eq_false_iff, decide_eq_false_iff_not]; omega
         have t2 : decide ((ln : Int) < 0) = false := decide_eq_false (by omega)
         have t3 : decide ((ln : Int) > (cn : Int)) = false := decide_eq_false (by omega)
         by_cases h0 : cn * te.size = 0
         ·rw [hzc1 h0]
          simp only [execOp, hop, hl1, hc1, Instr.makeSlice, Sem.run_bind, hd, Result.andThen_ok, asInt, asIntOf, Sem.run_pure, hie, w1, w2, t1, t2, t3, Bool.or_self, Bool.false_eq_true, if_false, Int.toNat_natCast, hask, hTe.sizeOf_, h0, if_true]
          simp [newRow, newObj, Sem.run, Sem.run_pure, Sem.run_bind, World.alloc_eq, Result.andThen]
         ·rw [hzc3 h0]
          simp only [execOp, hop, hl1, hc1, Instr.makeSlice, Sem.run_bind, hd, Result.andThen_ok, asInt, asIntOf, Sem.run_pure, hie, w1, w2, t1, t2, t3, Bool.or_self, Bool.false_eq_true, if_false, Int.toNat_natCast, hask, hTe.sizeOf_, h0, hz]
          simp [newRow, newObj, Sem.run, Sem.run_pure, Sem.run_bind, World.alloc_eq, Result.andThen]
        ·simp only [VR]
         exact ⟨_, _, cn, upd_same _ _ _, rfl, hlc, Nat.le_refl _, fun _ => rfl, fun _ => by simp, fun _ => by simp⟩
     ·cases h
   ·cases h
 ·-- makeMap
  rename_i t r
  have fin : ∀ s : Unit, ∃ z w' l, (execOp ρ o).run P w = .ok (.value z) w' ∧ Laid w w' ∧ l.c = w.heap.size ∧ (AObj.map [] 0).rw = true ∧ ObjR (upd φ id l) w' l (.map [] 0) ∧ VR (upd φ id l) (.map id) z → True := fun _ => ⟨undef, w, ⟨0, 0, 0⟩, fun _ => trivial⟩
  have obj : ObjR (upd φ id ⟨w.heap.size, 0, 0⟩) (w.alloc (.map #[] 0)) ⟨w.heap.size, 0, 0⟩ (.map [] 0) := ⟨[], Laid.new w _, rfl, fun j e he => by simp at he⟩
  have val : VR (upd φ id ⟨w.heap.size, 0, 0⟩) (.map id) (.map (some w.heap.size)) := by simp only [VR]; exact ⟨_, upd_same _ _ _, rfl⟩
  split at h
  ·simp only [Option.some.injEq, Prod.mk.injEq] at h
   obtain ⟨rfl, rfl⟩ := h
   refine ⟨_, w.alloc (.map #[] 0), ⟨w.heap.size, 0, 0⟩, ?_, Laid.alloc _ _, rfl, rfl, obj, val⟩
   simp [execOp, hop, Instr.makeMap, Sem.run_bind, newObj, Sem.run, Sem.run_pure, World.alloc_eq, Result.andThen]
  ·rename_i x
   split at h
   ·rename_i ti k m ht hx
    have hT := hE.at_ ht
    obtain ⟨d, hd, hk⟩ := hT.und_
    split at h
    ·rename_i kt et hkk
     rw [hkk] at hk
     have := mkK_map hk; subst this
     simp only [Option.some.injEq, Prod.mk.injEq] at h
     obtain ⟨rfl, rfl⟩ := h
     have hxx := hρ x
     rw [hx] at hxx
     simp only [VR] at hxx
     refine ⟨_, w.alloc (.map #[] 0), ⟨w.heap.size, 0, 0⟩, ?_, Laid.alloc _ _, rfl, rfl, obj, val⟩
     simp [execOp, hop, Instr.makeMap, hxx, asInt, asIntOf, Sem.run_bind, hd, newObj, Sem.run, Sem.run_pure, World.alloc_eq, Result.andThen]
    ·cases h
   ·cases h
 ·-- a text's bytes
  rename_i s d x
  split at h
  ·rename_i ts td l hts htd hx
   have hS := hE.at_ hts
   have hD := hE.at_ htd
   obtain ⟨ds, hds, hks⟩ := hS.und_
   obtain ⟨dd, hdd, hkd⟩ := hD.und_
   split at h
   ·rename_i e hk1 hk2
    rw [hk1] at hks
    rw [hk2] at hkd
    have := mkK_string hks; subst this
    have := mkK_slice hkd; subst this
    split at h
    ·rename_i te hte
     have hTe := hE.at_ hte
     obtain ⟨de, hde, hke⟩ := hTe.und_
     split at h
     ·rename_i hk3
      rw [hk3] at hke
      have := mkK_int hke; subst this
      cases hb : Nat.ble l.length 281474976710656 with
      | false => rw [hb] at h; cases h
      | true =>
      rw [hb] at h
      simp only [cond_true, Option.some.injEq, Prod.mk.injEq] at h
      obtain ⟨rfl, rfl⟩ := h
      have hxx := hρ x
      rw [hx] at hxx
      simp only [VR] at hxx
      obtain ⟨b, hb1, hb2⟩ := hxx
      have hsz : b.size = l.length := by rw [← hb2, bytesOf_length]
      obtain ⟨c, hc1, hc2⟩ := choose_appendCap (P := P) b.size 0 e w (by rw [hsz]; exact Nat.le_of_ble_eq_true hb)
      obtain ⟨w', hw1, hw2, hw3⟩ := marked_row (P := P) w.drew ((b.data.map fun (b : UInt8) => Value.int .u8 b.toNat) ++ Array.replicate (c - b.size) (.int .u8 0)) e
      have hdr : w.drew.heap = w.heap := rfl
      have hL : Laid w w' := ⟨hw2.os, hw2.tape, hw2.output, hw2.size, hw2.block⟩
      have hbs : b.data.size = b.size := rfl
      refine ⟨.slice (some ⟨w.heap.size, 0, none⟩) b.size c, w', ⟨w.heap.size, 0, c⟩, ?_, hL, rfl, rfl, ?_, ?_⟩
      ·rw [hdr] at hw1
       have hst : (Conv.stringToBytes e b).run P w = .ok (.slice (some ⟨w.heap.size, 0, none⟩) b.size c) w' := by
        simp only [Sem.run_bind] at hw1
        simp only [Conv.stringToBytes, Sem.run_bind, hc2, Result.andThen_ok]
        revert hw1
        generalize (newRow e _).run P w.drew = r1
        cases r1 with
        | ok a w1 =>
          simp only [Result.andThen_ok]
          generalize (markStringish a).run P w1 = r2
          cases r2 with
          | ok _ w2 =>
            simp only [Result.andThen_ok, Sem.run_pure]
            intro hh
            injection hh with h1 h2
            rw [h1, h2]
          | halt x w2 => intro hh; simp [Result.andThen] at hh
        | halt x w1 => intro hh; simp [Result.andThen] at hh
       simp only [execOp, hop, hb1, convert, Sem.run_bind, hds, hdd, hde, Result.andThen_ok, hst, Sem.run_pure]
      ·have hints := VRL.ints (φ := upd φ id ⟨w.heap.size, 0, c⟩) l b hb2
       refine ⟨fun j y hy => ?_, by rw [List.length_map]; show l.length ≤ c; omega, fun _ => ⟨_, e, _, hw3, by rw [Array.size_append, Array.size_map, Array.size_replicate]; show b.size + (c - b.size) = 0 + c; omega, fun j hj => ?_⟩⟩
       ·obtain ⟨v, a1, a2⟩ := hints.at_ j y hy
        refine ⟨v, ?_, a2⟩
        rw [hdr] at hw3
        simp only [World.cell?, hw3]
        have hj : j < b.data.size := by
         have := (List.getElem?_eq_some_iff.1 a1).1
         simpa using this
        simp only [Option.isSome_none, Bool.false_eq_true, if_false, Nat.zero_add]
        rw [Array.getElem?_append_left (by simpa using hj)]
        rw [Array.getElem?_toList] at a1
        exact a1
       ·rw [hdr] at hw3
        simp only [World.frozen?, hw3, Nat.zero_add]
        simp only [Bool.and_eq_false_iff, decide_eq_false_iff_not]
        left
        simp only at hj
        rw [Array.size_append, Array.size_map, Array.size_replicate]
        have : b.data.size = b.size := rfl
        omega
      ·simp only [VR]
       exact ⟨_, _, c, upd_same _ _ _, by rw [hsz], Nat.le_refl _, by omega, (fun h => by cases h), (fun _ => by simp), (fun _ => by simp)⟩
     ·cases h
    ·cases h
   ·cases h
  ·cases h
end
end Go.Proofs.Ytmjmhpbncfjnpaa.Bm
