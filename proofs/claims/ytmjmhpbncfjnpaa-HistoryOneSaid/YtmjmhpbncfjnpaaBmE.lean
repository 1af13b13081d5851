/- The abstract machine: the operations that only reckon stand for the model's. -/
import Derived.Test.YtmjmhpbncfjnpaaBmD
import Derived.Laws.Entries
import Derived.Laws.Cells
set_option linter.unusedSimpArgs false
set_option linter.unusedVariables false
namespace Go.Proofs.Ytmjmhpbncfjnpaa.Bm
open Go.RowKit
structure EnvOK (P : Program) (E : Env) : Prop where
 ty : ∀ t ti, E.ty.get t = some ti → mkTI P t = some ti
 fn : ∀ f fn, E.fn.get f = some fn → ∃ fn0, P.funcs[f]? = some fn0 ∧ (fn0.name == "runtime.NumGoroutine") = false ∧ fn0.ntmps = fn.ntmps ∧ fn0.results = fn.results ∧ fn0.body = fn.body.map (erase E)
 mixed : P.follows .mixedOrders = true
 bits : E.bits = bitsR
structure TyOK (P : Program) (t : TypeId) (ti : TI) : Prop where
 info : ∃ i, P.info? t = some i ∧ i.size = ti.size ∧ i.bytes = ti.bytes ∧ ∃ z, i.zero = some z ∧ ti.zero = ofArr z.cells ∧ zeroOk ti.k ti.size z = true
 und : ∃ d, P.underlying t = some d ∧ ti.k = mkK d
 eq : ti.eqok = true → ti.k.isAgg = true ∧ P.stoodInHeld t = false ∧ P.eqGuardType P.depth t = false
section
variable {P : Program} {E : Env}
theorem EnvOK.at_ (h : EnvOK P E) {t : TypeId} {ti : TI} (ht : E.ty.get t = some ti) : TyOK P t ti := by
 have h1 := h.ty t ti ht
 unfold mkTI at h1
 cases hi : P.info? t with
 | none => rw [hi] at h1; cases h1
 | some i =>
   cases hd : P.underlying t with
   | none => rw [hi, hd] at h1; cases h1
   | some d =>
     cases hz : i.zero with
     | none => simp only [hi, hd, hz] at h1; cases h1
     | some z =>
       simp only [hi, hd, hz] at h1
       cases hzo : zeroOk (mkK d) i.size z with
       | false => rw [hzo] at h1; cases h1
       | true =>
       rw [hzo] at h1
       simp only [cond_true, Option.some.injEq] at h1
       subst h1
       refine ⟨⟨i, hi, rfl, rfl, z, hz, rfl, hzo⟩, ⟨d, hd, rfl⟩, fun h => ?_⟩
       simp only [Bool.and_eq_true, Bool.not_eq_true'] at h
       exact ⟨h.1.1, h.1.2, h.2⟩
variable {t : TypeId} {ti : TI} {w : World}
theorem TyOK.sizeOf_ (h : TyOK P t ti) (w : World) : (sizeOf t).run P w = .ok ti.size w := by
 obtain ⟨i, hi, hs, _⟩ := h.info
 simp [sizeOf, typeInfo, program, hi, hs, Sem.run]
theorem TyOK.typeInfo_ (h : TyOK P t ti) (w : World) : ∃ i, (typeInfo t).run P w = .ok i w ∧ i.bytes = ti.bytes ∧ i.size = ti.size := by
 obtain ⟨i, hi, hs, hb, _⟩ := h.info
 exact ⟨i, by simp [typeInfo, program, hi, Sem.run], hb, hs⟩
theorem TyOK.zero_ (h : TyOK P t ti) (w : World) : ∃ z, (zeroValue t).run P w = .ok z w ∧ ti.zero = ofArr z.cells := by
 obtain ⟨i, hi, _, _, z, hz, he, _⟩ := h.info
 exact ⟨z, by simp [zeroValue, typeInfo, program, hi, hz, Sem.run], he⟩
theorem TyOK.zero2_ (h : TyOK P t ti) : ∃ z, (∀ w, (zeroValue t).run P w = .ok z w) ∧ ti.zero = ofArr z.cells ∧ zeroOk ti.k ti.size z = true := by
 obtain ⟨i, hi, _, _, z, hz, he, ho⟩ := h.info
 exact ⟨z, fun w => by simp [zeroValue, typeInfo, program, hi, hz, Sem.run], he, ho⟩
theorem zeroOk_size {k : K} {n : Nat} {z : Value} (h : zeroOk k n z = true) : z.cells.size = n := by
 cases z <;> simp only [zeroOk, Bool.and_eq_true] at h <;> first | exact Nat.eq_of_beq_eq_true h.2
theorem ofVals_length : ∀ l : List Value, (ofVals l).length = l.length
 | [] => rfl
 | _ :: l => by simp [ofVals, ofVals_length l]
theorem ofArr_length (a : Array Value) : (ofArr a).length = a.size := by cases a; simp [ofArr, ofVals_length]
theorem TyOK.zlen (h : TyOK P t ti) : ti.zero.length = ti.size := by
 obtain ⟨z, _, h1, h2⟩ := h.zero2_
 rw [h1, ofArr_length]; exact zeroOk_size h2
theorem TyOK.und_ (h : TyOK P t ti) : ∃ d, (∀ w, (underlying t).run P w = .ok d w) ∧ ti.k = mkK d := by
 obtain ⟨d, hd, hk⟩ := h.und
 exact ⟨d, fun w => run_underlying hd w, hk⟩
theorem TyOK.isAgg_ (h : TyOK P t ti) (w : World) : (isAgg t).run P w = .ok ti.k.isAgg w := by
 obtain ⟨d, hd, hk⟩ := h.und
 simp only [isAgg, Sem.run_bind, run_underlying hd, Result.andThen_ok]
 rw [hk]
 cases d <;> rfl
theorem mkK_slice {d : TypeDesc} {e : TypeId} (h : K.slice e = mkK d) : d = .slice e := by cases d <;> simp [mkK] at h; subst h; rfl
theorem mkK_arr {d : TypeDesc} {n : Nat} {e : TypeId} (h : K.arr n e = mkK d) : d = .array n e := by cases d <;> simp [mkK] at h; obtain ⟨rfl, rfl⟩ := h; rfl
theorem mkK_map {d : TypeDesc} {k e : TypeId} (h : K.map k e = mkK d) : d = .map k e := by cases d <;> simp [mkK] at h; obtain ⟨rfl, rfl⟩ := h; rfl
theorem mkK_ptr {d : TypeDesc} {e : TypeId} (h : K.ptr e = mkK d) : d = .pointer e := by cases d <;> simp [mkK] at h; subst h; rfl
theorem mkK_int {d : TypeDesc} {k : IntKind} (h : K.int k = mkK d) : d = .int k := by cases d <;> simp [mkK] at h; subst h; rfl
theorem mkK_string {d : TypeDesc} (h : K.string = mkK d) : d = .string := by cases d <;> simp [mkK] at h; rfl
theorem mkK_bool {d : TypeDesc} (h : K.bool = mkK d) : d = .bool := by cases d <;> simp [mkK] at h; rfl
theorem mkK_func {d : TypeDesc} (h : K.func = mkK d) : ∃ a b c, d = .func a b c := by cases d <;> simp [mkK] at h; exact ⟨_, _, _, rfl⟩
theorem mkK_iface {d : TypeDesc} {b : Bool} (h : K.iface b = mkK d) : ∃ m, d = .interface m := by cases d <;> simp [mkK] at h; exact ⟨_, rfl⟩
theorem mkK_strct {d : TypeDesc} {fs : List (TypeId × Nat × Bool)} (h : K.strct fs = mkK d) : ∃ gs : Array Field, d = .struct gs ∧ fs = gs.toList.map fun f => (f.type, f.offset, decide (f.name = "_")) := by
 cases d <;> simp [mkK] at h
 exact ⟨_, rfl, h⟩
theorem bytesOf_length (s : ByteArray) : (bytesOf s).length = s.size := by simp [bytesOf]
theorem bytesOf_append (s t : ByteArray) : bytesOf (s ++ t) = bytesOf s ++ bytesOf t := by
 simp [bytesOf, ByteArray.data_append]
theorem bytesOf_inj {s t : ByteArray} (h : bytesOf s = bytesOf t) : s = t := by
 have h2 : s.data.toList = t.data.toList := by
  refine List.map_inj_right (f := UInt8.toNat) (fun a b hab => UInt8.toNat_inj.1 hab) |>.1 h
 cases s; cases t; simp at h2; simp [h2]
theorem bytesOf_extract (s : ByteArray) (l h : Nat) : bytesOf (s.extract l h) = ((bytesOf s).drop l).take (h - l) := by
 simp [bytesOf, ByteArray.data_extract, Array.toList_extract, List.extract, List.map_take, List.map_drop]
theorem bytesOf_get (s : ByteArray) (i : Nat) : (bytesOf s)[i]? = (s[i]?).map UInt8.toNat := by
 unfold bytesOf
 rw [List.getElem?_map]
 congr 1
 by_cases h : i < s.size
 ·rw [getElem?_pos s i h, List.getElem?_eq_getElem (by simpa using h)]; rfl
 ·rw [getElem?_neg s i h, List.getElem?_eq_none (by simpa using h)]
theorem run_part (hE : EnvOK P E) {φ : Phi} {cs : List AV} {l : List Value} (hl : VRL φ cs l) {t : TypeId} {off : Nat} {r : AV} (h : apart E t cs off = some r) (w : World) :
  ∃ v, (part t l.toArray off).run P w = .ok v w ∧ VR φ r v := by
 unfold apart at h
 cases ht : E.ty.get t with
 | none => rw [ht] at h; cases h
 | some ti =>
   simp only [ht] at h
   have hT := hE.at_ ht
   cases hk : ti.k.isAgg with
   | true =>
     rw [hk] at h
     simp only [cond_true] at h
     cases hc : cut cs off ti.size with
     | none => rw [hc] at h; cases h
     | some x =>
       rw [hc] at h
       simp only [Option.some.injEq] at h
       subst h
       refine ⟨.agg (l.toArray.extract off (off + ti.size)), ?_, ?_⟩
       ·simp [part, Sem.run_bind, hT.isAgg_, hk, hT.sizeOf_, Sem.run_pure]
       ·simp only [VR]
        refine ⟨(l.drop off).take ti.size, ?_, hl.cut hc⟩
        simp [List.extract_toArray, List.extract]
   | false =>
     rw [hk] at h
     simp only [cond_false] at h
     obtain ⟨v, h1, h2⟩ := hl.at_ _ _ h
     refine ⟨v, ?_, h2⟩
     simp [part, Sem.run_bind, hT.isAgg_, hk, h1, Sem.run_pure]
end
end Go.Proofs.Ytmjmhpbncfjnpaa.Bm
