/- The abstract machine: how its values and states stand for the model's. -/
import Derived.Test.YtmjmhpbncfjnpaaBmC
import Derived.Below
import Derived.Laws.Rows
set_option linter.unusedSimpArgs false
set_option linter.unusedVariables false
namespace Go.Proofs.Ytmjmhpbncfjnpaa.Bm
open Go.RowKit
structure Loc where
 c : Nat
 o : Nat
 room : Nat
abbrev Phi := Nat → Option Loc
mutual
def VR (φ : Phi) : AV → Value → Prop
 | .bool b, v => v = .bool b
 | .int k n, v => v = .int k n
 | .str s, v => ∃ b : ByteArray, v = .string b ∧ bytesOf b = s
 | .ptr id off, v => ∃ l, φ id = some l ∧ v = .pointer (some ⟨l.c, l.o + off, none⟩)
 | .nilPtr, v => v = .pointer none
 | .slice id off len cap es hid, v => ∃ (l : Loc) (ad : Addr) (ccap : Nat), φ id = some l ∧ v = .slice (some ad) len ccap ∧ len ≤ cap ∧ cap ≤ ccap ∧ (hid = false → ccap = cap) ∧
    (0 < ccap → ad = ⟨l.c, l.o + off, none⟩) ∧ (0 < ccap → off + ccap * es ≤ l.room)
 | .tptr id i j es, v => ∃ l, φ id = some l ∧ v = .pointer (some ⟨l.c, l.o + (i * es + j), none⟩)
 | .tsl id off len cap es hid, v => ∃ (l : Loc) (ad : Addr) (ccap : Nat), φ id = some l ∧ v = .slice (some ad) len ccap ∧ len ≤ cap ∧ cap ≤ ccap ∧ (hid = false → ccap = cap) ∧
    (0 < ccap → ad = ⟨l.c, l.o + off * es, none⟩) ∧ (0 < ccap → off * es + ccap * es ≤ l.room)
 | .osl nl id off len cap es hid, v => (nl = true ∧ v = .slice none 0 0 ∧ len = 0 ∧ cap = 0) ∨ (nl = false ∧ ∃ (l : Loc) (ad : Addr) (ccap : Nat), φ id = some l ∧ v = .slice (some ad) len ccap ∧ len ≤ cap ∧ cap ≤ ccap ∧ (hid = false → ccap = cap) ∧
    (0 < ccap → ad = ⟨l.c, l.o + off * es, none⟩) ∧ (0 < ccap → off * es + ccap * es ≤ l.room))
 | .nilSlice, v => v = .slice none 0 0
 | .map id, v => ∃ l, φ id = some l ∧ v = .map (some l.c)
 | .nilMap, v => v = .map none
 | .func fn a b, v => (∀ l, fn ≠ .yield l) ∧ ∃ x y : List Value, v = .func fn x.toArray y.toArray ∧ VRL φ a x ∧ VRL φ b y
 | .yld id, v => ∃ l, φ id = some l ∧ v = .func (.yield l.c) #[] #[]
 | .nilFunc, v => v = .nilFunc
 | .iface t x, v => ∃ y, v = .iface t y ∧ VR φ x y
 | .nilIface, v => v = .nilIface
 | .agg cs, v => ∃ l : List Value, v = .agg l.toArray ∧ VRL φ cs l
 | .tuple cs, v => ∃ l : List Value, v = .tuple l.toArray ∧ VRL φ cs l
 | .bad, _ => True
def VRL (φ : Phi) : List AV → List Value → Prop
 | [], l => l = []
 | x :: xs, l => ∃ y ys, l = y :: ys ∧ VR φ x y ∧ VRL φ xs ys
end
mutual
theorem VR.mono {φ φ' : Phi} (h : ∀ id l, φ id = some l → φ' id = some l) : ∀ (x : AV) (v : Value), VR φ x v → VR φ' x v
 | .bool _, _, hv => by simpa only [VR] using hv
 | .int _ _, _, hv => by simpa only [VR] using hv
 | .str _, _, hv => by simpa only [VR] using hv
 | .ptr _ _, _, hv => by
   simp only [VR] at hv ⊢
   obtain ⟨l, h1, h2⟩ := hv
   exact ⟨l, h _ _ h1, h2⟩
 | .nilPtr, _, hv => by simpa only [VR] using hv
 | .slice _ _ _ _ _ _, _, hv => by
   simp only [VR] at hv ⊢
   obtain ⟨l, ad, cc, h1, h2⟩ := hv
   exact ⟨l, ad, cc, h _ _ h1, h2⟩
 | .tptr _ _ _ _, _, hv => by
   simp only [VR] at hv ⊢
   obtain ⟨l, h1, h2⟩ := hv
   exact ⟨l, h _ _ h1, h2⟩
 | .tsl _ _ _ _ _ _, _, hv => by
   simp only [VR] at hv ⊢
   obtain ⟨l, ad, cc, h1, h2⟩ := hv
   exact ⟨l, ad, cc, h _ _ h1, h2⟩
 | .osl _ _ _ _ _ _ _, _, hv => by
   simp only [VR] at hv ⊢
   rcases hv with hv | ⟨h0, l, ad, cc, h1, h2⟩
   ·exact .inl hv
   ·exact .inr ⟨h0, l, ad, cc, h _ _ h1, h2⟩
 | .nilSlice, _, hv => by simpa only [VR] using hv
 | .map _, _, hv => by
   simp only [VR] at hv ⊢
   obtain ⟨l, h1, h2⟩ := hv
   exact ⟨l, h _ _ h1, h2⟩
 | .nilMap, _, hv => by simpa only [VR] using hv
 | .func _ a b, _, hv => by
   simp only [VR] at hv ⊢
   obtain ⟨h0, x, y, h1, h2, h3⟩ := hv
   exact ⟨h0, x, y, h1, VRL.mono h a x h2, VRL.mono h b y h3⟩
 | .yld _, _, hv => by
   simp only [VR] at hv ⊢
   obtain ⟨l, h1, h2⟩ := hv
   exact ⟨l, h _ _ h1, h2⟩
 | .nilFunc, _, hv => by simpa only [VR] using hv
 | .iface _ x, _, hv => by
   simp only [VR] at hv ⊢
   obtain ⟨y, h1, h2⟩ := hv
   exact ⟨y, h1, VR.mono h x y h2⟩
 | .nilIface, _, hv => by simpa only [VR] using hv
 | .agg cs, _, hv => by
   simp only [VR] at hv ⊢
   obtain ⟨l, h1, h2⟩ := hv
   exact ⟨l, h1, VRL.mono h cs l h2⟩
 | .tuple cs, _, hv => by
   simp only [VR] at hv ⊢
   obtain ⟨l, h1, h2⟩ := hv
   exact ⟨l, h1, VRL.mono h cs l h2⟩
 | .bad, _, _ => by simp only [VR]
theorem VRL.mono {φ φ' : Phi} (h : ∀ id l, φ id = some l → φ' id = some l) : ∀ (xs : List AV) (l : List Value), VRL φ xs l → VRL φ' xs l
 | [], _, hv => by simpa only [VRL] using hv
 | x :: xs, _, hv => by
   simp only [VRL] at hv ⊢
   obtain ⟨y, ys, h1, h2, h3⟩ := hv
   exact ⟨y, ys, h1, VR.mono h x y h2, VRL.mono h xs ys h3⟩
end
mutual
theorem VR.ofVal (φ : Phi) : ∀ v : Value, VR φ (ofVal v) v
 | .bool _ => by simp only [Bm.ofVal, VR]
 | .int _ _ => by simp only [Bm.ofVal, VR]
 | .float _ _ => by simp [Bm.ofVal, VR]
 | .complex _ _ _ => by simp [Bm.ofVal, VR]
 | .string s => by simp only [Bm.ofVal, VR]; exact ⟨s, rfl, rfl⟩
 | .pointer none => by simp only [Bm.ofVal, VR]
 | .pointer (some _) => by simp [Bm.ofVal, VR]
 | .slice none 0 0 => by simp only [Bm.ofVal, VR]
 | .slice none 0 (_ + 1) => by simp [Bm.ofVal, VR]
 | .slice none (_ + 1) _ => by simp [Bm.ofVal, VR]
 | .slice (some _) _ _ => by simp [Bm.ofVal, VR]
 | .map none => by simp only [Bm.ofVal, VR]
 | .map (some _) => by simp [Bm.ofVal, VR]
 | .chan _ => by simp [Bm.ofVal, VR]
 | .func (.func f) ⟨a⟩ ⟨b⟩ => by
   simp only [Bm.ofVal, VR, Bm.ofArr]
   exact ⟨(fun l h => by cases h), a, b, rfl, VRL.ofVals φ a, VRL.ofVals φ b⟩
 | .func (.method _) _ _ => by simp [Bm.ofVal, VR]
 | .func (.methodOf _ _) _ _ => by simp [Bm.ofVal, VR]
 | .func (.via _ _ _ _) _ _ => by simp [Bm.ofVal, VR]
 | .func (.yield _) _ _ => by simp [Bm.ofVal, VR]
 | .nilFunc => by simp only [Bm.ofVal, VR]
 | .iface t v => by
   simp only [Bm.ofVal, VR]
   exact ⟨v, rfl, VR.ofVal φ v⟩
 | .nilIface => by simp only [Bm.ofVal, VR]
 | .agg ⟨l⟩ => by
   simp only [Bm.ofVal, VR, Bm.ofArr]
   exact ⟨l, rfl, VRL.ofVals φ l⟩
 | .tuple ⟨l⟩ => by
   simp only [Bm.ofVal, VR, Bm.ofArr]
   exact ⟨l, rfl, VRL.ofVals φ l⟩
theorem VRL.ofVals (φ : Phi) : ∀ l : List Value, VRL φ (ofVals l) l
 | [] => by simp only [Bm.ofVals, VRL]
 | v :: vs => by
   simp only [Bm.ofVals, VRL]
   exact ⟨v, vs, rfl, VR.ofVal φ v, VRL.ofVals φ vs⟩
end
section
variable {φ : Phi}
theorem VRL.length : ∀ {xs : List AV} {l : List Value}, VRL φ xs l → l.length = xs.length
 | [], _, h => by simp only [VRL] at h; simp [h]
 | x :: xs, _, h => by
   simp only [VRL] at h
   obtain ⟨y, ys, rfl, _, h3⟩ := h
   simp [VRL.length h3]
theorem VRL.nil : VRL φ [] [] := by simp only [VRL]
theorem VRL.cons {x : AV} {v : Value} {xs : List AV} {l : List Value} (h : VR φ x v) (h' : VRL φ xs l) : VRL φ (x :: xs) (v :: l) := by
 simp only [VRL]; exact ⟨v, l, rfl, h, h'⟩
theorem VRL.at_ : ∀ {xs : List AV} {l : List Value} (h : VRL φ xs l) (j : Nat) (x : AV), xs[j]? = some x → ∃ v, l[j]? = some v ∧ VR φ x v
 | [], _, _, j, x, hj => by simp at hj
 | x :: xs, _, h, j, y, hj => by
   simp only [VRL] at h
   obtain ⟨v, vs, rfl, h2, h3⟩ := h
   cases j with
   | zero => simp at hj; subst hj; exact ⟨v, rfl, h2⟩
   | succ j => simpa using VRL.at_ h3 j y (by simpa using hj)
theorem VRL.of_at : ∀ {xs : List AV} {l : List Value}, l.length = xs.length → (∀ (j : Nat) (x : AV), xs[j]? = some x → ∃ v : Value, l[j]? = some v ∧ VR φ x v) → VRL φ xs l
 | [], l, hl, _ => by simp at hl; simp only [VRL]; exact hl
 | x :: xs, [], hl, _ => by simp at hl
 | x :: xs, v :: l, hl, h => by
   obtain ⟨v', h1, h2⟩ := h 0 x rfl
   simp at h1; subst h1
   refine VRL.cons h2 (VRL.of_at (by simpa using hl) fun j y hj => ?_)
   simpa using h (j + 1) y (by simpa using hj)
theorem VRL.append {xs ys : List AV} {l m : List Value} (h : VRL φ xs l) (h' : VRL φ ys m) : VRL φ (xs ++ ys) (l ++ m) := by
 refine VRL.of_at (by simp [h.length, h'.length]) fun j x hj => ?_
 by_cases hlt : j < xs.length
 ·rw [List.getElem?_append_left hlt] at hj
  obtain ⟨v, h1, h2⟩ := h.at_ j x hj
  exact ⟨v, by rw [List.getElem?_append_left (by rw [h.length]; exact hlt)]; exact h1, h2⟩
 ·rw [List.getElem?_append_right (by omega)] at hj
  obtain ⟨v, h1, h2⟩ := h'.at_ _ x hj
  exact ⟨v, by rw [List.getElem?_append_right (by rw [h.length]; omega), h.length]; exact h1, h2⟩
theorem VRL.drop {xs : List AV} {l : List Value} (h : VRL φ xs l) (n : Nat) : VRL φ (xs.drop n) (l.drop n) := by
 refine VRL.of_at (by simp [h.length]) fun j x hj => ?_
 rw [List.getElem?_drop] at hj
 obtain ⟨v, h1, h2⟩ := h.at_ _ x hj
 exact ⟨v, by rw [List.getElem?_drop]; exact h1, h2⟩
theorem VRL.take {xs : List AV} {l : List Value} (h : VRL φ xs l) (n : Nat) : VRL φ (xs.take n) (l.take n) := by
 refine VRL.of_at (by simp [h.length]) fun j x hj => ?_
 rw [List.getElem?_take] at hj
 split at hj
 ·rename_i hlt
  obtain ⟨v, h1, h2⟩ := h.at_ _ x hj
  exact ⟨v, by rw [List.getElem?_take, if_pos hlt]; exact h1, h2⟩
 ·simp at hj
theorem cut_some {α : Type} {vs r : List α} {off n : Nat} (h : cut vs off n = some r) : r = (vs.drop off).take n ∧ r.length = n := by
 unfold cut at h
 simp only at h
 cases hb : Nat.beq ((vs.drop off).take n).length n with
 | false => rw [hb] at h; simp at h
 | true =>
   rw [hb] at h
   simp only [cond_true, Option.some.injEq] at h
   subst h
   exact ⟨rfl, Nat.eq_of_beq_eq_true hb⟩
theorem VRL.cut {xs r : List AV} {l : List Value} (h : VRL φ xs l) {off n : Nat} (hc : cut xs off n = some r) : VRL φ r ((l.drop off).take n) := by
 rw [(cut_some hc).1]; exact (h.drop off).take n
theorem VR.not_agg {x : AV} {v : Value} (h : VR φ x v) (hb : x.isBad = false) (hx : ∀ cs, x ≠ .agg cs) : ∀ cs, v ≠ .agg cs := by
 intro cs hc
 subst hc
 cases x <;> simp only [VR] at h
 case agg cs' => exact hx _ rfl
 case bad => cases hb
 case str => obtain ⟨_, h, _⟩ := h; cases h
 case ptr => obtain ⟨_, _, h⟩ := h; cases h
 case slice => obtain ⟨_, _, _, _, h, _⟩ := h; cases h
 case tptr => obtain ⟨_, _, h⟩ := h; cases h
 case tsl => obtain ⟨_, _, _, _, h, _⟩ := h; cases h
 case osl => rcases h with ⟨_, h, _⟩ | ⟨_, _, _, _, _, h, _⟩ <;> cases h
 case map => obtain ⟨_, _, h⟩ := h; cases h
 case func => obtain ⟨_, _, _, h, _⟩ := h; cases h
 case yld => obtain ⟨_, _, h⟩ := h; cases h
 case iface => obtain ⟨_, h, _⟩ := h; cases h
 case tuple => obtain ⟨_, h, _⟩ := h; cases h
 all_goals cases h
theorem VR.cells {x : AV} {v : Value} (h : VR φ x v) (hb : x.isBad = false) : VRL φ x.cells v.cells.toList := by
 by_cases hx : ∃ cs, x = .agg cs
 ·obtain ⟨cs, rfl⟩ := hx
  simp only [VR] at h
  obtain ⟨l, rfl, h2⟩ := h
  simpa [AV.cells, Value.cells] using h2
 ·have hx' : ∀ cs, x ≠ .agg cs := fun cs e => hx ⟨cs, e⟩
  have hv := h.not_agg hb hx'
  have e1 : x.cells = [x] := by cases x <;> first | rfl | exact absurd rfl (hx' _)
  have e2 : v.cells = #[v] := by cases v <;> first | rfl | exact absurd rfl (hv _)
  rw [e1, e2]
  exact VRL.cons h VRL.nil
theorem VR.one {x : AV} {v : Value} (h : VR φ x v) (hx : x.one = true) : (∀ cs, v ≠ .agg cs) ∧ (∀ cs, v ≠ .tuple cs) := by
 cases x <;> simp [AV.one] at hx <;> simp only [VR] at h
 case str => obtain ⟨_, rfl, _⟩ := h; exact ⟨(fun _ h => by cases h), (fun _ h => by cases h)⟩
 case ptr => obtain ⟨_, _, rfl⟩ := h; exact ⟨(fun _ h => by cases h), (fun _ h => by cases h)⟩
 case slice => obtain ⟨_, _, _, _, rfl, _⟩ := h; exact ⟨(fun _ h => by cases h), (fun _ h => by cases h)⟩
 case tptr => obtain ⟨_, _, rfl⟩ := h; exact ⟨(fun _ h => by cases h), (fun _ h => by cases h)⟩
 case tsl => obtain ⟨_, _, _, _, rfl, _⟩ := h; exact ⟨(fun _ h => by cases h), (fun _ h => by cases h)⟩
 case osl => rcases h with ⟨_, rfl, _⟩ | ⟨_, _, _, _, _, rfl, _⟩ <;> exact ⟨(fun _ h => by cases h), (fun _ h => by cases h)⟩
 case map => obtain ⟨_, _, rfl⟩ := h; exact ⟨(fun _ h => by cases h), (fun _ h => by cases h)⟩
 case func => obtain ⟨_, _, _, rfl, _⟩ := h; exact ⟨(fun _ h => by cases h), (fun _ h => by cases h)⟩
 case yld => obtain ⟨_, _, rfl⟩ := h; exact ⟨(fun _ h => by cases h), (fun _ h => by cases h)⟩
 case iface => obtain ⟨_, rfl, _⟩ := h; exact ⟨(fun _ h => by cases h), (fun _ h => by cases h)⟩
 all_goals (subst h; exact ⟨(fun _ h => by cases h), (fun _ h => by cases h)⟩)
theorem VR.undef_ : VR φ .undef undef := by
 simp only [AV.undef, VR]
 exact ⟨[], rfl, VRL.nil⟩
theorem VR.of_undef {v : Value} (h : VR φ .undef v) : v = undef := by
 simp only [AV.undef, VR] at h
 obtain ⟨l, rfl, h2⟩ := h
 simp only [VRL] at h2
 subst h2
 rfl
end
def AObj.rw : AObj → Bool
 | .cells _ rw => rw
 | .tarr _ _ _ rw => rw
 | .omap _ _ _ _ _ _ _ rw => rw
 | _ => true
def EntR (φ : Phi) (e : AV × AV × Nat) (m : MapEntry) : Prop := VR φ e.1 m.key ∧ VR φ e.2.1 m.val ∧ e.2.2 = m.born
def EntsR (φ : Phi) (es : List (AV × AV × Nat)) (ms : List MapEntry) : Prop := ms.length = es.length ∧ ∀ (j : Nat) (e : AV × AV × Nat), es[j]? = some e → ∃ m : MapEntry, ms[j]? = some m ∧ EntR φ e m
def TmpsR (φ : Phi) (t : Tr AV) (n : Nat) (tmps : Array Value) : Prop :=
 tmps.size = n ∧ ∀ j, VR φ (match t.get j with | some v => v | none => .undef) (tmps.getD j undef)
def CellsR (φ : Phi) (w : World) (l : Loc) (vs : List AV) (rw : Bool) : Prop := (∀ (j : Nat) (x : AV), vs[j]? = some x → ∃ v, w.cell? ⟨l.c, l.o + j, none⟩ = some v ∧ VR φ x v) ∧ vs.length ≤ l.room ∧
   (rw = true → ∃ arr e fz, w.heap[l.c]? = some (.cells arr e fz) ∧ arr.size = l.o + l.room ∧ ∀ j, j < l.room → w.frozen? ⟨l.c, l.o + j, none⟩ = false)
def EntsO (ks vs : List Sh) (ka va : Bool) (has : AV → Bool) (f : AV → Nat → AV) (es : List (AV × AV × Nat)) : Prop :=
 (∀ e ∈ es, keyFit ks ka e.1 = true ∧ has e.1 = true ∧ ofCells va (trow (f e.1) vs 0) = some e.2.1) ∧
 (∀ k, keyFit ks ka k = true → has k = true → ∃ e ∈ es, e.1 = k) ∧ (es.map (·.1)).Nodup
def ObjR (φ : Phi) (w : World) (l : Loc) : AObj → Prop
 | .cells vs rw => CellsR φ w l vs rw
 | .tarr sh n f rw => CellsR φ w l (tcells sh f 0 n) rw
 | .map es clock => ∃ ms : List MapEntry, w.heap[l.c]? = some (.map ms.toArray clock) ∧ EntsR φ es ms
 | .omap ks vs ka va z has f _ => ∃ es clock, (∃ ms : List MapEntry, w.heap[l.c]? = some (.map ms.toArray clock) ∧ EntsR φ es ms) ∧ EntsO ks vs ka va has f es
 | .loop lp => ∃ fn tmps ld, w.heap[l.c]? = some (.loop { state := lp.st, pending := lp.pend, fn := fn, tmps := tmps, params := lp.params.toArray, assign := lp.assign, body := lp.body, defers := ld.c }) ∧
    φ lp.dfr = some ld ∧ TmpsR φ lp.tmps lp.size tmps
 | .defd => w.heap[l.c]? = some (.deferred (some []))
 | .miter m since seen last => l.o = 0 ∧ ∃ cm : Option Nat, w.heap[l.c]? = some (.mapIter cm since seen.toArray last) ∧ (match m with | none => cm = none | some id => ∃ lm, φ id = some lm ∧ cm = some lm.c)
abbrev Heap := Nat → Option AObj
structure Rel (w0 : World) (φ : Phi) (g : Heap) (n : Nat) (w : World) : Prop where
 objs : ∀ id o l, g id = some o → φ id = some l → ObjR φ w l o
 own : ∀ id o l, g id = some o → φ id = some l → (o.rw = true ↔ w0.heap.size ≤ l.c)
 inj : ∀ i j oi oj li lj, i ≠ j → g i = some oi → g j = some oj → φ i = some li → φ j = some lj → oi.rw = true → li.c ≠ lj.c
 fresh : ∀ id, n ≤ id → φ id = none
 gfresh : ∀ id, n ≤ id → g id = none
 below : Below w0.heap.size w0 w
structure Ext (w0 : World) (φ : Phi) (g : Heap) (n : Nat) (w : World) (φ' : Phi) (g' : Heap) (n' : Nat) (w' : World) : Prop where
 le : ∀ id l, φ id = some l → φ' id = some l
 dom : ∀ id, id < n → φ id = none → φ' id = none
 ghost : ∀ id, id < n → φ id = none → g' id = g id
 frame : ∀ c, c < w.heap.size → (∀ id o l, g id = some o → φ id = some l → o.rw = true → l.c ≠ c) → w'.heap[c]? = w.heap[c]?
 img : ∀ id o l, g' id = some o → φ' id = some l → o.rw = true → w.heap.size ≤ l.c ∨ ∃ i o0 l0, g i = some o0 ∧ φ i = some l0 ∧ o0.rw = true ∧ l0.c = l.c
 nle : n ≤ n'
 wle : w.heap.size ≤ w'.heap.size
theorem Ext.refl (w0 : World) (φ : Phi) (g : Heap) (n : Nat) (w : World) : Ext w0 φ g n w φ g n w where
 le := fun _ _ h => h
 dom := fun _ _ h => h
 ghost := fun _ _ _ => rfl
 frame := fun _ _ _ => rfl
 img := fun id o l h1 h2 h3 => .inr ⟨id, o, l, h1, h2, h3, rfl⟩
 nle := Nat.le_refl _
 wle := Nat.le_refl _
theorem Ext.trans {w0 : World} {φ φ1 φ2 : Phi} {g g1 g2 : Heap} {n n1 n2 : Nat} {w w1 w2 : World}
  (h : Ext w0 φ g n w φ1 g1 n1 w1) (k : Ext w0 φ1 g1 n1 w1 φ2 g2 n2 w2) : Ext w0 φ g n w φ2 g2 n2 w2 where
 le := fun id l hl => k.le _ _ (h.le _ _ hl)
 dom := fun id hi hn => k.dom _ (Nat.lt_of_lt_of_le hi h.nle) (h.dom _ hi hn)
 ghost := fun id hi hn => (k.ghost _ (Nat.lt_of_lt_of_le hi h.nle) (h.dom _ hi hn)).trans (h.ghost _ hi hn)
 frame := fun c hc hno => by
  refine (k.frame c (Nat.lt_of_lt_of_le hc h.wle) fun id o l h1 h2 h3 he => ?_).trans (h.frame c hc hno)
  rcases h.img id o l h1 h2 h3 with hge | ⟨i, o0, l0, a1, a2, a3, a4⟩
  ·omega
  ·exact hno i o0 l0 a1 a2 a3 (by omega)
 img := fun id o l h1 h2 h3 => by
  rcases k.img id o l h1 h2 h3 with hge | ⟨i, o0, l0, a1, a2, a3, a4⟩
  ·exact .inl (Nat.le_trans h.wle hge)
  ·rcases h.img i o0 l0 a1 a2 a3 with hge | ⟨i', o0', l0', b1, b2, b3, b4⟩
   ·exact .inl (by omega)
   ·exact .inr ⟨i', o0', l0', b1, b2, b3, by omega⟩
 nle := Nat.le_trans h.nle k.nle
 wle := Nat.le_trans h.wle k.wle
end Go.Proofs.Ytmjmhpbncfjnpaa.Bm
