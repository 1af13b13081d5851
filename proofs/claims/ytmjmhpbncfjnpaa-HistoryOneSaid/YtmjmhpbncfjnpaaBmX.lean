/- The abstract machine: arrays whose length and contents are open: where their cells lie; places within them; loads. -/
import Derived.Test.YtmjmhpbncfjnpaaBmJ
set_option linter.unusedSimpArgs false
set_option linter.unusedVariables false
namespace Go.Proofs.Ytmjmhpbncfjnpaa.Bm
open Go.RowKit
theorem trow_length (f : Nat → AV) : ∀ (sh : List Sh) (j : Nat), (trow f sh j).length = sh.length
 | [], _ => rfl
 | s :: sh, j => by simp [trow, trow_length f sh]
theorem tcells_length (sh : List Sh) (f : Nat → Nat → AV) : ∀ (i n : Nat), (tcells sh f i n).length = n * sh.length
 | _, 0 => by simp [tcells]
 | i, n + 1 => by simp [tcells, trow_length, tcells_length sh f (i + 1) n, Nat.add_mul]; omega
theorem tcells_drop (sh : List Sh) (f : Nat → Nat → AV) : ∀ (k i n : Nat), k < n → (tcells sh f i n).drop (k * sh.length) = trow (f (i + k)) sh 0 ++ tcells sh f (i + k + 1) (n - k - 1)
 | 0, i, n + 1, _ => by simp [tcells]
 | k + 1, i, n + 1, h => by
   have hl : (k + 1) * sh.length = (trow (f i) sh 0).length + k * sh.length := by rw [trow_length, Nat.add_mul]; omega
   simp only [tcells]
   rw [hl, List.drop_append, List.drop_eq_nil_of_le (by omega), List.nil_append, Nat.add_sub_cancel_left, tcells_drop sh f k (i + 1) n (by omega)]
   rw [show i + 1 + k = i + (k + 1) by omega, show n - k - 1 = n + 1 - (k + 1) - 1 by omega]
section
variable {P : Program} {E : Env} {w0 w w' : World} {φ φ' : Phi} {g : Heap} {n : Nat}
theorem VR_tptr {id i j es : Nat} {v : Value} : VR φ (.tptr id i j es) v ↔ VR φ (.ptr id (i * es + j)) v := by simp only [VR]
theorem VR_tsl {id off len cap es : Nat} {hid : Bool} {v : Value} : VR φ (.tsl id off len cap es hid) v ↔ VR φ (.slice id (off * es) len cap es hid) v := by simp only [VR]
def utv : AV → AV
 | .tptr id i j es => .ptr id (i * es + j)
 | .tsl id off len cap es hid => .slice id (off * es) len cap es hid
 | v => v
theorem VR_utv {x : AV} {v : Value} : VR φ (utv x) v ↔ VR φ x v := by
 cases x with
 | tptr => exact VR_tptr.symm
 | tsl => exact VR_tsl.symm
 | _ => exact Iff.rfl
def untype : AObj → AObj
 | .tarr sh n f rw => .cells (tcells sh f 0 n) rw
 | o => o
def untyped (g : Heap) : Heap := fun id => (g id).map untype
theorem untype_rw (o : AObj) : (untype o).rw = o.rw := by cases o <;> rfl
theorem untype_obj (φ : Phi) (w : World) (l : Loc) (o : AObj) : ObjR φ w l (untype o) ↔ ObjR φ w l o := by cases o <;> exact Iff.rfl
theorem Rel.untyped (hR : Rel w0 φ g n w) : Rel w0 φ (untyped g) n w := by
 have pull : ∀ id o, Bm.untyped g id = some o → ∃ o', g id = some o' ∧ o = untype o' := by
  intro id o h
  unfold Bm.untyped at h
  rw [Option.map_eq_some_iff] at h
  obtain ⟨o', h1, h2⟩ := h
  exact ⟨o', h1, h2.symm⟩
 refine ⟨?_, ?_, ?_, hR.fresh, ?_, hR.below⟩
 ·intro id o l h1 h2
  obtain ⟨o', a, rfl⟩ := pull _ _ h1
  exact (untype_obj _ _ _ _).2 (hR.objs id o' l a h2)
 ·intro id o l h1 h2
  obtain ⟨o', a, rfl⟩ := pull _ _ h1
  rw [untype_rw]
  exact hR.own id o' l a h2
 ·intro i j oi oj li lj hij h1 h2 h3 h4 h5
  obtain ⟨oi', a, rfl⟩ := pull _ _ h1
  obtain ⟨oj', b, rfl⟩ := pull _ _ h2
  rw [untype_rw] at h5
  exact hR.inj i j oi' oj' li lj hij a b h3 h4 h5
 ·intro id hi
  show (g id).map untype = none
  rw [hR.gfresh id hi]; rfl
theorem tcells_cut {sh : List Sh} {f : Nat → Nat → AV} {n i j k : Nat} {r : List AV} (hi : i < n) (h : cut (trow (f i) sh 0) j k = some r) : cut (tcells sh f 0 n) (i * sh.length + j) k = some r := by
 obtain ⟨h1, h2⟩ := cut_some h
 have hd : (tcells sh f 0 n).drop (i * sh.length + j) = (trow (f i) sh 0 ++ tcells sh f (i + 1) (n - i - 1)).drop j := by
  rw [← List.drop_drop, tcells_drop sh f i 0 n hi]
  simp
 have hjk : k ≤ ((trow (f i) sh 0).drop j).length := by rw [h1] at h2; rw [List.length_take] at h2; omega
 have he : ((tcells sh f 0 n).drop (i * sh.length + j)).take k = r := by
  rw [hd, h1, List.drop_append]
  rw [List.take_append_of_le_length hjk]
 unfold cut
 simp only [he, h2]
 have : Nat.beq k k = true := Nat.beq_refl k
 rw [this]; rfl
theorem tcells_at {sh : List Sh} {f : Nat → Nat → AV} {n i j : Nat} {v : AV} (hi : i < n) (h : (trow (f i) sh 0)[j]? = some v) : (tcells sh f 0 n)[i * sh.length + j]? = some v := by
 have hj := (List.getElem?_eq_some_iff.1 h).1
 rw [← List.getElem?_drop, tcells_drop sh f i 0 n hi, List.getElem?_append_left (by simpa using hj)]
 simpa using h
theorem trow_get (r : Nat → AV) : ∀ (sh : List Sh) (j0 j : Nat), (trow r sh j0)[j]? = (sh[j]?).map fun s => view s (r (j0 + j))
 | [], j0, j => by simp [trow]
 | s :: sh, j0, 0 => by simp [trow]
 | s :: sh, j0, j + 1 => by
   have := trow_get r sh (j0 + 1) j
   simp only [trow, List.getElem?_cons_succ]
   rw [this, show j0 + 1 + j = j0 + (j + 1) by omega]
theorem tcells_get {sh : List Sh} {f : Nat → Nat → AV} {n k j : Nat} (hk : k < n) (hj : j < sh.length) : (tcells sh f 0 n)[k * sh.length + j]? = some (view sh[j] (f k j)) :=
 tcells_at hk (by rw [trow_get, List.getElem?_eq_getElem hj]; simp)
theorem split_lt {p n es : Nat} (h : p < n * es) : p / es < n ∧ p % es < es ∧ p = p / es * es + p % es := by
 have hes : 0 < es := by
  rcases Nat.eq_zero_or_pos es with h0 | h0
  ·subst h0; simp at h
  ·exact h0
 refine ⟨(Nat.div_lt_iff_lt_mul hes).2 h, Nat.mod_lt _ hes, ?_⟩
 have := Nat.div_add_mod p es
 rw [Nat.mul_comm] at this
 exact this.symm
theorem join_lt {k j n es : Nat} (hk : k < n) (hj : j < es) : k * es + j < n * es := by
 have : (k + 1) * es ≤ n * es := Nat.mul_le_mul_right _ hk
 rw [Nat.add_mul] at this
 omega
theorem rows_ext {α : Type} {xs ys : List α} {n es : Nat} (hx : xs.length = n * es) (hy : ys.length = n * es) (h : ∀ k j, k < n → j < es → xs[k * es + j]? = ys[k * es + j]?) : xs = ys := by
 refine List.ext_getElem? fun p => ?_
 by_cases hp : p < n * es
 ·obtain ⟨h1, h2, h3⟩ := split_lt hp
  rw [h3]
  exact h _ _ h1 h2
 ·rw [List.getElem?_eq_none (by omega), List.getElem?_eq_none (by omega)]
theorem tcells_ext {sh : List Sh} {f f' : Nat → Nat → AV} {n : Nat} (h : ∀ k j, k < n → f k j = f' k j) : tcells sh f 0 n = tcells sh f' 0 n :=
 rows_ext (tcells_length _ _ _ _) (tcells_length _ _ _ _) fun k j hk hj => by rw [tcells_get hk hj, tcells_get hk hj, h k j hk]
theorem tcells_sub {sh : List Sh} {f : Nat → Nat → AV} {n off k : Nat} (h : off + k ≤ n) : cut (tcells sh f 0 n) (off * sh.length) (k * sh.length) = some (tcells sh (fun i j => f (off + i) j) 0 k) := by
 have hm : (off + k) * sh.length ≤ n * sh.length := Nat.mul_le_mul_right _ h
 rw [Nat.add_mul] at hm
 have hl : (((tcells sh f 0 n).drop (off * sh.length)).take (k * sh.length)).length = k * sh.length := by
  rw [List.length_take, List.length_drop, tcells_length]; omega
 have he : ((tcells sh f 0 n).drop (off * sh.length)).take (k * sh.length) = tcells sh (fun i j => f (off + i) j) 0 k := by
  refine rows_ext hl (tcells_length _ _ _ _) fun a j ha hj => ?_
  have := join_lt ha hj
  rw [List.getElem?_take, if_pos this, List.getElem?_drop, tcells_get ha hj, show off * sh.length + (a * sh.length + j) = (off + a) * sh.length + j by rw [Nat.add_mul]; omega]
  exact tcells_get (by omega) hj
 unfold cut
 simp only [hl]
 rw [show Nat.beq (k * sh.length) (k * sh.length) = true from Nat.beq_refl _, he]; rfl
theorem bytes_tcells {f : Nat → Nat → AV} : ∀ (n i : Nat), (∀ k, i ≤ k → k < i + n → 0 ≤ byteAt f k ∧ byteAt f k < 256) → bytesOfCells (tcells [.int .u8] f i n) = some ((List.range' i n).map fun k => (byteAt f k).toNat)
 | 0, i, _ => by simp [tcells, bytesOfCells]
 | n + 1, i, h => by
   have ih := bytes_tcells n (i + 1) (fun k h1 h2 => h k (by omega) (by omega))
   have h0 := h i (Nat.le_refl _) (by omega)
   simp only [byteAt] at h0 ih
   simp only [tcells, trow, List.cons_append, List.nil_append, view, bytesOfCells, ih, List.range'_succ, List.map_cons, byteAt, h0.1, h0.2, decide_true, Bool.and_self, cond_true]
theorem acell_untyped {g : Heap} {id : Nat} {vs : List AV} (h : acell g id = some vs) : acell (Bm.untyped g) id = some vs := by
 unfold acell at h ⊢
 split at h
 ·rename_i us rw_ hg
  simp only [Option.some.injEq] at h; subst h
  simp [Bm.untyped, hg, untype]
 ·cases h
theorem afield_any {s : TypeId} {f q o : Nat} (h : afieldAddr E s (.ptr 0 0) f = some (.ptr q o)) (id k : Nat) : afieldAddr E s (.ptr id k) f = some (.ptr id (k + o)) := by
 unfold afieldAddr at h ⊢
 cases hs : E.ty.get s with
 | none => simp only [hs] at h; cases h
 | some ti =>
   simp only [hs] at h ⊢
   cases hk : ti.k with
   | strct fs =>
     simp only [hk] at h ⊢
     cases hf : fs[f]? with
     | none => simp only [hf] at h; cases h
     | some p =>
       obtain ⟨t, o', b⟩ := p
       simp only [hf] at h ⊢
       cases ht : E.ty.get t with
       | none => simp only [ht] at h; cases h
       | some tf =>
         simp only [ht] at h ⊢
         cases hz : Nat.beq tf.size 0 with
         | true => rw [hz] at h; cases h
         | false =>
           rw [hz] at h
           simp only [cond_false, Option.some.injEq, AV.ptr.injEq] at h ⊢
           exact ⟨trivial, by omega⟩
   | _ => simp only [hk] at h; cases h
theorem tnat_bound {v : Option AV} {d m y : Nat} {o : List Bool} (h : tnat v d = some (m, o)) (ho : (o.all fun b => b) = true) (hy : m ≤ y) : abound v d y = some m := by
 unfold tnat at h
 split at h
 ·simp only [Option.some.injEq, Prod.mk.injEq] at h
  obtain ⟨rfl, rfl⟩ := h
  rfl
 ·rename_i k i
  simp only [Option.some.injEq, Prod.mk.injEq] at h
  obtain ⟨rfl, rfl⟩ := h
  simp only [List.all_cons, List.all_nil, Bool.and_true, decide_eq_true_eq] at ho
  have h2 : i ≤ (y : Int) := by omega
  simp only [abound, aboundv, ho, h2, decide_true, Bool.and_self, cond_true]
 ·cases h
theorem VR_dnb {x : AV} {v : Value} (h : VR φ x v) : VR φ (dnb (nlOf x) x) v := by
 cases x with
 | osl nl id off len cap es hid =>
   simp only [VR] at h
   rcases h with ⟨rfl, rfl, _, _⟩ | ⟨rfl, h⟩
   ·show VR φ .nilSlice _
    simp only [VR]
   ·show VR φ (.tsl id off len cap es hid) _
    simp only [VR]; exact h
 | _ => exact h
theorem VR_osl {nl : Bool} {id off len cap es : Nat} {hid : Bool} {v : Value} (h : VR φ (.osl nl id off len cap es hid) v) : (nl = true ∧ v = .slice none 0 0 ∧ len = 0 ∧ cap = 0) ∨ (nl = false ∧ VR φ (.tsl id off len cap es hid) v) := by
 simp only [VR] at h ⊢
 exact h
theorem osl_tsl {nl : Bool} {id off len cap es : Nat} {hid : Bool} {v : Value} (hn : nl = false) (h : VR φ (.tsl id off len cap es hid) v) : VR φ (.osl nl id off len cap es hid) v := by
 simp only [VR] at h ⊢
 exact .inr ⟨hn, h⟩
theorem run_tconv (hE : EnvOK P E) (hR : Rel w0 φ g n w) {ρa : Operand → AV} {ρ : Operand → Value} (hρ : ∀ x, VR φ (ρa x) (ρ x)) {o : Oper} {r : AV} {obl : List Bool} {s d : TypeId} {x : Operand} {id off len cap es : Nat} {hid : Bool} (hop : o.op = .convert s d x) (hx : utv (dnb (nlOf (ρa x)) (ρa x)) = .slice id (off * es) len cap es hid) (h : tconv E g s d id off len es = some (r, obl)) (hobl : (obl.all fun b => b) = true) :
  ∃ z, (execOp ρ o).run P w = .ok (.value z) w ∧ VR φ r z := by
 unfold tconv at h
 split at h
 ·rename_i ts td hts htd
  split at h
  ·rename_i e hks hkd
   split at h
   ·rename_i te hte
    split at h
    ·rename_i hk8
     split at h
     ·rename_i sh m f rw_ hg
      cases hb : (shBeq sh [.int .u8] && Nat.beq es 1) with
      | false => rw [hb] at h; cases h
      | true =>
        rw [hb] at h
        simp only [cond_true, Option.some.injEq, Prod.mk.injEq] at h
        obtain ⟨rfl, rfl⟩ := h
        simp only [Bool.and_eq_true] at hb
        have hsh : sh = [.int .u8] := by
         cases sh with
         | nil => simp [shBeq] at hb
         | cons q sh =>
           cases sh with
           | nil => cases q <;> simp [shBeq, Sh.beq] at hb ⊢; exact hb.1
           | cons _ _ => simp [shBeq] at hb
        subst hsh
        have := Nat.eq_of_beq_eq_true hb.2; subst this
        simp only [List.all_cons, List.all_nil, Bool.and_true, Bool.and_eq_true] at hobl
        obtain ⟨o1, o2⟩ := hobl
        have hle := Nat.le_of_ble_eq_true o1
        have hr : ∀ k, k < len → 0 ≤ byteAt f (off + k) ∧ byteAt f (off + k) < 256 := fun k hk => by
         have := List.all_eq_true.1 o2 k (List.mem_range.2 hk)
         simpa using this
        have hcell : acell (Bm.untyped g) id = some (tcells [.int .u8] f 0 m) := by simp [acell, Bm.untyped, hg, untype]
        have hcut := tcells_sub (sh := [.int .u8]) (f := f) hle
        simp only [List.length_cons, List.length_nil, Nat.zero_add, Nat.mul_one] at hcut
        have hby := bytes_tcells (f := fun i j => f (off + i) j) len 0 (fun k _ h2 => hr k (by omega))
        rw [← List.range_eq_range'] at hby
        refine run_aread0 hE hR.untyped (fun z => VR_utv.2 (VR_dnb (hρ z))) ?_
        rw [hop]
        simp only [aread0, aconv, hts, htd, hx, hkd, hks, hte, hk8, Nat.beq_refl, cond_true, hcell, Nat.mul_one, hcut, hby]
        rfl
     ·cases h
    ·cases h
   ·cases h
  ·cases h
 ·cases h
theorem run_tindexAddr (hE : EnvOK P E) {ρa : Operand → AV} {ρ : Operand → Value} (hρ : ∀ x, VR φ (ρa x) (ρ x)) {o : Oper} {r : AV} {obl : List Bool} {t : TypeId} {x ix : Operand} {id off len cap es : Nat} {hid : Bool} (hop : o.op = .indexAddr t x ix) (ha : VR φ (.tsl id off len cap es hid) (ρ x)) (h : tindexAddr E t id off len es (ρa ix) = some (r, obl)) (hobl : (obl.all fun b => b) = true) :
  ∃ z, (execOp ρ o).run P w = .ok (.value z) w ∧ VR φ r z := by
 rw [VR_tsl] at ha
 unfold tindexAddr at h
 split at h
 ·rename_i ti k m ht hix
  split at h
  ·rename_i e hk
   split at h
   ·rename_i te he
    cases hes : Nat.beq te.size es with
    | false => rw [hes] at h; cases h
    | true =>
      rw [hes] at h
      simp only [cond_true, Option.some.injEq, Prod.mk.injEq] at h
      obtain ⟨rfl, rfl⟩ := h
      simp only [List.all_cons, List.all_nil, Bool.and_true, Bool.and_eq_true] at hobl
      have hp : aindexAddr E t (.slice id (off * es) len cap es hid) (ρa ix) = some (.ptr id (off * es + m.toNat * es)) := by
       simp only [aindexAddr, ht, hix, hk, he, hes, hobl.1, hobl.2, Bool.and_self, cond_true]
      obtain ⟨z, h1, h2⟩ := run_indexAddr hE hp ha (hρ ix) w
      refine ⟨z, by simp only [execOp, hop, Sem.run_bind, h1, Result.andThen_ok, Sem.run_pure], ?_⟩
      rw [VR_tptr, Nat.add_mul, Nat.add_zero]; exact h2
   ·cases h
  ·cases h
 ·cases h
theorem run_tslice (hE : EnvOK P E) (hR : Rel w0 φ g n w) {ρa : Operand → AV} {ρ : Operand → Value} (hρ : ∀ x, VR φ (ρa x) (ρ x)) {o : Oper} {r : AV} {obl : List Bool} {t : TypeId} {x : Operand} {lo hi mx : Option Operand} {id off len cap es : Nat} {hid : Bool} (hop : o.op = .slice t x lo hi mx) (ha : VR φ (.tsl id off len cap es hid) (ρ x)) (h : tslice E t id off len cap es hid (lo.map ρa) (hi.map ρa) (mx.map ρa) = some (r, obl)) (hobl : (obl.all fun b => b) = true) :
  ∃ z, (execOp ρ o).run P w = .ok (.value z) w ∧ VR φ r z := by
 rw [VR_tsl] at ha
 unfold tslice at h
 split at h
 ·cases h
 ·rename_i ti ht
  split at h
  ·rename_i e hk
   split at h
   ·cases h
   ·rename_i te he
    cases hes : Nat.beq te.size es with
    | false => rw [hes] at h; cases h
    | true =>
      rw [hes] at h
      simp only [cond_true] at h
      split at h
      ·rename_i l o1 hh o2 hlo hhi
       split at h
       ·rename_i hmx
        simp only [Option.some.injEq, Prod.mk.injEq] at h
        obtain ⟨rfl, rfl⟩ := h
        simp only [List.all_cons, List.all_append, Bool.and_eq_true] at hobl
        obtain ⟨b1, b2, b3, b4⟩ := hobl
        have c1 := Nat.le_of_ble_eq_true b1
        have c2 := Nat.le_of_ble_eq_true b2
        have hp : aslice E g t (.slice id (off * es) len cap es hid) (lo.map ρa) (hi.map ρa) (mx.map ρa) = some (.slice id (off * es + l * es) (hh - l) (cap - l) es hid) := by
         simp only [aslice, ht, hk, he, hes, cond_true, hmx, abounds, tnat_bound hhi b4 c2, tnat_bound hlo b3 c1]
        obtain ⟨z, h1, h2⟩ := run_slice hE hR hp ha (optR_map hρ lo) (optR_map hρ hi) (optR_map hρ mx)
        refine ⟨z, by simp only [execOp, hop, Sem.run_bind, h1, Result.andThen_ok, Sem.run_pure], ?_⟩
        rw [VR_tsl, Nat.add_mul]; exact h2
       ·rename_i mv hmx
        split at h
        ·rename_i hv m o3 hhiv hm3
         simp only [Option.some.injEq, Prod.mk.injEq] at h
         obtain ⟨rfl, rfl⟩ := h
         simp only [List.all_cons, List.all_append, Bool.and_eq_true] at hobl
         obtain ⟨b1, b2, b5, b3, b4, b6⟩ := hobl
         have c1 := Nat.le_of_ble_eq_true b1
         have c2 := Nat.le_of_ble_eq_true b2
         have c3 := Nat.le_of_ble_eq_true b5
         have e1 := tnat_bound hm3 b6 c3
         simp only [abound] at e1
         have e2 := tnat_bound hhi b4 c2
         rw [hhiv] at e2
         simp only [abound] at e2
         have hp : aslice E g t (.slice id (off * es) len cap es hid) (lo.map ρa) (hi.map ρa) (mx.map ρa) = some (.slice id (off * es + l * es) (hh - l) (m - l) es false) := by
          simp only [aslice, ht, hk, he, hes, cond_true, hmx, hhiv, abounds, e1, e2, tnat_bound hlo b3 c1]
         obtain ⟨z, h1, h2⟩ := run_slice hE hR hp ha (optR_map hρ lo) (optR_map hρ hi) (optR_map hρ mx)
         refine ⟨z, by simp only [execOp, hop, Sem.run_bind, h1, Result.andThen_ok, Sem.run_pure], ?_⟩
         rw [VR_tsl, Nat.add_mul]; exact h2
        ·cases h
      ·cases h
  ·cases h
theorem run_tlen (hE : EnvOK P E) (hR : Rel w0 φ g n w) {ρa : Operand → AV} {ρ : Operand → Value} (hρ : ∀ x, VR φ (ρa x) (ρ x)) {o : Oper} {r : AV} {obl : List Bool} {c : Call} {t : TypeId} {x : Operand} {id off len cap es : Nat} {hid : Bool} (hop : o.op = .call c) (hc : c.callee = .builtin .len) (hargs : c.args.toList = [x]) (hty : c.argTypes.toList = [t]) (ha : VR φ (.tsl id off len cap es hid) (ρ x)) (h : tlen E t len = some (r, obl)) :
  ∃ z, (execOp ρ o).run P w = .ok (.value z) w ∧ VR φ r z := by
 rw [VR_tsl] at ha
 unfold tlen at h
 split at h
 ·cases h
 ·rename_i ti ht
  split at h
  ·rename_i e hk
   simp only [Option.some.injEq, Prod.mk.injEq] at h
   obtain ⟨rfl, rfl⟩ := h
   have hp : alen E g t (.slice id (off * es) len cap es hid) = some (.int .i64 len) := by
    simp only [alen, ht, hk]
   obtain ⟨z, h1, h2⟩ := run_len hE hR (ty := o.type) (ts := []) (us := []) hp ha
   refine ⟨z, ?_, h2⟩
   simp only [execOp, hop, resolve, hc, Sem.run_bind, Sem.run_pure, Result.andThen_ok, invoke, builtin, map_cons_array ρ hargs, List.map_nil]
   rw [cons_array hty, h1]
   simp only [Result.andThen_ok, Sem.run_pure]
  ·cases h
theorem run_tcap (hE : EnvOK P E) (hR : Rel w0 φ g n w) {ρa : Operand → AV} {ρ : Operand → Value} (hρ : ∀ x, VR φ (ρa x) (ρ x)) {o : Oper} {r : AV} {obl : List Bool} {c : Call} {t : TypeId} {x : Operand} {id off len cap es : Nat} {hid : Bool} (hop : o.op = .call c) (hc : c.callee = .builtin .cap) (hargs : c.args.toList = [x]) (hty : c.argTypes.toList = [t]) (hx : utv (dnb (nlOf (ρa x)) (ρa x)) = .slice id (off * es) len cap es hid) (h : tcap E t cap hid = some (r, obl)) :
  ∃ z, (execOp ρ o).run P w = .ok (.value z) w ∧ VR φ r z := by
 unfold tcap at h
 split at h
 ·cases h
 ·rename_i ti ht
  split at h
  ·rename_i e hk
   simp only [Option.some.injEq, Prod.mk.injEq] at h
   obtain ⟨rfl, rfl⟩ := h
   refine run_aread0 hE hR.untyped (fun z => VR_utv.2 (VR_dnb (hρ z))) ?_
   rw [hop]
   simp only [aread0, hc, hargs, hty, hx, acap, ht, hk]
  ·cases h
theorem u8s_ok : ∀ {cs : List AV} {l : List Nat} {o : List Bool}, u8s cs = some (l, o) → (o.all fun b => b) = true → bytesOfCells cs = some l
 | [], l, o, h, _ => by
   simp only [u8s, Option.some.injEq, Prod.mk.injEq] at h
   obtain ⟨rfl, rfl⟩ := h
   rfl
 | x :: r, l, o, h, ho => by
   unfold u8s at h
   split at h
   ·rename_i h0; cases h0
   ·rename_i n r' heq
    injection heq with e1 e2; subst e1; subst e2
    cases hr : u8s r with
    | none => rw [hr] at h; cases h
    | some q =>
      obtain ⟨l1, o1⟩ := q
      rw [hr] at h
      simp only [Option.some.injEq, Prod.mk.injEq] at h
      obtain ⟨rfl, rfl⟩ := h
      simp only [List.all_cons, Bool.and_eq_true] at ho
      have ih := u8s_ok hr ho.2
      simp only [bytesOfCells, ih, ho.1.1, ho.1.2, Bool.and_self, cond_true]
   ·cases h
theorem run_tconvC (hE : EnvOK P E) (hR : Rel w0 φ g n w) {ρa : Operand → AV} {ρ : Operand → Value} (hρ : ∀ x, VR φ (ρa x) (ρ x)) {o : Oper} {r : AV} {obl : List Bool} {s d : TypeId} {x : Operand} {id off len cap es : Nat} {hid : Bool} (hop : o.op = .convert s d x) (hx : ρa x = .slice id off len cap es hid) (h : tconvC E g s d id off len es = some (r, obl)) (hobl : (obl.all fun b => b) = true) :
  ∃ z, (execOp ρ o).run P w = .ok (.value z) w ∧ VR φ r z := by
 unfold tconvC at h
 split at h
 ·rename_i ts td hts htd
  split at h
  ·rename_i e hks hkd
   split at h
   ·rename_i te hte
    split at h
    ·rename_i hk8
     cases hb : Nat.beq es 1 with
     | false => rw [hb] at h; cases h
     | true =>
       rw [hb] at h
       simp only [cond_true] at h
       split at h
       ·rename_i vs hvs
        split at h
        ·rename_i cs hcs
         split at h
         ·rename_i l o1 hu
          simp only [Option.some.injEq, Prod.mk.injEq] at h
          obtain ⟨rfl, rfl⟩ := h
          have hby := u8s_ok hu hobl
          refine run_aread0 hE hR hρ ?_
          rw [hop]
          simp only [aread0, aconv, hts, htd, hx, hkd, hks, hte, hk8, hb, cond_true, hvs, hcs, hby]
         ·cases h
        ·cases h
       ·cases h
    ·cases h
   ·cases h
  ·cases h
 ·cases h
theorem Sh.eq_of_beq' : ∀ {a b : Sh}, a.beq b = true → a = b
 | .int k, .int l, h => by simp only [Sh.beq, decide_eq_true_eq] at h; subst h; rfl
 | .str, .str, _ => rfl
 | .bool, .bool, _ => rfl
theorem aeq_one {t : TypeId} {s : Sh} {x y : AV} (ht : flatTy E t s = true) (hx : shOk s x = true) (hy : shOk s y = true) (d : Nat) : aeq E (d + 1) t x y = some (AV.beq x y) := by
 unfold flatTy at ht
 split at ht
 ·rename_i ti hti
  split at ht
  ·rename_i s' hs'
   have := Sh.eq_of_beq' ht; subst this
   have hk : (ti.k = .bool ∧ s' = .bool) ∨ (∃ k, ti.k = .int k ∧ s' = .int k) ∨ (ti.k = .string ∧ s' = .str) := by
    cases h : ti.k <;> rw [h] at hs' <;> simp [shOfK] at hs' <;> simp [← hs']
   rcases hk with ⟨h1, rfl⟩ | ⟨k, h1, rfl⟩ | ⟨h1, rfl⟩
   ·cases x <;> simp [shOk] at hx
    cases y <;> simp [shOk] at hy
    simp only [aeq, hti, h1, AV.beq]
   ·cases x <;> simp [shOk] at hx
    cases y <;> simp [shOk] at hy
    subst hx; subst hy
    simp only [aeq, hti, h1, AV.beq, decide_true, cond_true, Bool.true_and]
    congr 1
   ·cases x <;> simp [shOk] at hx
    cases y <;> simp [shOk] at hy
    simp only [aeq, hti, h1, AV.beq]
  ·cases ht
 ·cases ht
theorem flatTy_part {t : TypeId} {s : Sh} (ht : flatTy E t s = true) (cs : List AV) (i : Nat) : apart E t cs i = cs[i]? := by
 unfold flatTy at ht
 split at ht
 ·rename_i ti hti
  split at ht
  ·rename_i s' hs'
   have : ti.k.isAgg = false := by cases h : ti.k <;> rw [h] at hs' <;> simp [shOfK] at hs' <;> rfl
   simp only [apart, hti, this, cond_false]
  ·cases ht
 ·cases ht
theorem aeqF_row (d : Nat) : ∀ (fs : List (TypeId × Nat × Bool)) (ks : List Sh) (i : Nat) (xs ys : List AV), rowF E i fs ks = true → shFit ks (xs.drop i) = true → (xs.drop i).length = ks.length → shFit ks (ys.drop i) = true → (ys.drop i).length = ks.length →
  aeqF E (aeq E (d + 1)) xs ys fs = some (AV.beqL (xs.drop i) (ys.drop i))
 | [], [], i, xs, ys, _, _, h2, _, h4 => by
   rw [List.eq_nil_of_length_eq_zero h2, List.eq_nil_of_length_eq_zero h4]; rfl
 | [], _ :: _, i, xs, ys, h, _, _, _, _ => by simp [rowF] at h
 | _ :: _, [], i, xs, ys, h, _, _, _, _ => by simp [rowF] at h
 | (t, o, b) :: fs, s :: ks, i, xs, ys, h, h1, h2, h3, h4 => by
   simp only [rowF, Bool.and_eq_true, Bool.not_eq_true'] at h
   obtain ⟨⟨⟨a1, a2⟩, a3⟩, a4⟩ := h
   have := Nat.eq_of_beq_eq_true a2; subst this
   subst a3
   cases hx : xs.drop o with
   | nil => rw [hx] at h2; simp at h2
   | cons x xt =>
     cases hy : ys.drop o with
     | nil => rw [hy] at h4; simp at h4
     | cons y yt =>
       rw [hx] at h1 h2; rw [hy] at h3 h4
       simp only [shFit, Bool.and_eq_true] at h1 h3
       have hxt : xs.drop (Nat.succ o) = xt := by rw [Nat.succ_eq_add_one, ← List.drop_drop, hx]; rfl
       have hyt : ys.drop (Nat.succ o) = yt := by rw [Nat.succ_eq_add_one, ← List.drop_drop, hy]; rfl
       have hx0 : xs[o]? = some x := by
        have : (xs.drop o)[0]? = some x := by rw [hx]; rfl
        rw [List.getElem?_drop] at this; simpa using this
       have hy0 : ys[o]? = some y := by
        have : (ys.drop o)[0]? = some y := by rw [hy]; rfl
        rw [List.getElem?_drop] at this; simpa using this
       have ih := aeqF_row d fs ks (Nat.succ o) xs ys a4 (by rw [hxt]; exact h1.2) (by rw [hxt]; simpa using h2) (by rw [hyt]; exact h3.2) (by rw [hyt]; simpa using h4)
       simp only [aeqF, cond_false, flatTy_part a1, hx0, hy0, aeq_one a1 h1.1 h3.1 d]
       rw [ih, hxt, hyt]
       simp only [AV.beqL]
       cases AV.beq x y <;> rfl
theorem aeq_key {kt : TypeId} {ks : List Sh} {ka : Bool} {k k' : AV} (ht : keyTy E kt ks ka = true) (h : keyFit ks ka k = true) (h' : keyFit ks ka k' = true) : aeq E 50 kt k k' = some (AV.beq k k') := by
 cases ka with
 | false =>
   simp only [keyTy] at ht
   simp only [keyFit] at h h'
   split at ht
   ·exact aeq_one ht h h' 49
   ·cases ht
 | true =>
   simp only [keyTy] at ht
   simp only [keyFit] at h h'
   split at ht
   ·rename_i ti hti
    split at ht
    ·rename_i fs hk
     simp only [Bool.and_eq_true] at ht
     split at h
     ·rename_i cs
      split at h'
      ·rename_i cs'
       simp only [Bool.and_eq_true] at h h'
       have e := aeqF_row 48 fs ks 0 cs cs' ht.2 h.1 (Nat.eq_of_beq_eq_true h.2) h'.1 (Nat.eq_of_beq_eq_true h'.2)
       simp only [List.drop_zero] at e
       have hrec : aeq E (48 + 1) = aeq E 49 := rfl
       rw [hrec] at e
       show aeq E (49 + 1) kt (.agg cs) (.agg cs') = _
       rw [aeq]
       simp only [hti, hk, ht.1, cond_true, e, AV.beq]
      ·cases h'
     ·cases h
    ·cases ht
   ·cases ht
theorem shOk_refl {s : Sh} {x : AV} (h : shOk s x = true) : AV.beq x x = true := by
 cases s <;> cases x <;> simp [shOk] at h <;> simp [AV.beq]
theorem shFit_refl : ∀ {ks : List Sh} {xs : List AV}, shFit ks xs = true → AV.beqL xs xs = true
 | _, [], _ => rfl
 | [], _ :: _, h => by simp [shFit] at h
 | s :: ks, x :: xs, h => by
   simp only [shFit, Bool.and_eq_true] at h
   simp only [AV.beqL, shOk_refl h.1, shFit_refl h.2, Bool.and_self]
theorem keyFit_refl {ks : List Sh} {ka : Bool} {k : AV} (h : keyFit ks ka k = true) : AV.beq k k = true := by
 cases ka with
 | false =>
   simp only [keyFit] at h
   split at h
   ·exact shOk_refl h
   ·cases h
 | true =>
   simp only [keyFit] at h
   split at h
   ·simp only [Bool.and_eq_true] at h
    simp only [AV.beq, shFit_refl h.1]
   ·cases h
theorem afind_ent {kt : TypeId} {ks : List Sh} {ka : Bool} {k : AV} (ht : keyTy E kt ks ka = true) (hk : keyFit ks ka k = true) : ∀ (es : List (AV × AV × Nat)) (i : Nat), (∀ e ∈ es, keyFit ks ka e.1 = true) →
  (afind E kt k es i = some none ∧ ∀ e ∈ es, e.1 ≠ k) ∨ ∃ j e, es[j]? = some e ∧ e.1 = k ∧ afind E kt k es i = some (some (i + j, e.2.1))
 | [], i, _ => .inl ⟨rfl, fun e he => by simp at he⟩
 | (k', v, b) :: es, i, hes => by
   have hk' := hes (k', v, b) (by simp)
   have hq := aeq_key ht hk hk'
   cases hb : AV.beq k k' with
   | true =>
     rw [hb] at hq
     exact .inr ⟨0, (k', v, b), rfl, (AV.eq_of_beq _ _ hb).symm, by simp only [afind, hq, Nat.add_zero]⟩
   | false =>
     rw [hb] at hq
     have hne : k' ≠ k := fun h => by
      subst h
      rw [keyFit_refl hk] at hb; cases hb
     rcases afind_ent ht hk es (i + 1) (fun e he => hes e (by simp [he])) with ⟨h1, h2⟩ | ⟨j, e, h1, h2, h3⟩
     ·refine .inl ⟨by simp only [afind, hq]; exact h1, fun e he => ?_⟩
      rcases List.mem_cons.1 he with rfl | he
      ·exact hne
      ·exact h2 e he
     ·exact .inr ⟨j + 1, e, by simpa using h1, h2, by simp only [afind, hq]; rw [h3, show i + 1 + j = i + (j + 1) by omega]⟩
def gset (g : Heap) (id : Nat) (o : Option AObj) : Heap := fun i => if i = id then o else g i
theorem Rel.reobj (hR : Rel w0 φ g n w) {id : Nat} {o o' : AObj} {l : Loc} (hg : g id = some o) (hl : φ id = some l) (hrw : o'.rw = o.rw) (hO : ObjR φ w l o') : Rel w0 φ (gset g id (some o')) n w := by
 have pull : ∀ i oi, gset g id (some o') i = some oi → (i = id ∧ oi = o') ∨ (i ≠ id ∧ g i = some oi) := by
  intro i oi h
  by_cases hi : i = id
  ·subst hi; simp [gset] at h; exact .inl ⟨rfl, h.symm⟩
  ·exact .inr ⟨hi, by simpa [gset, hi] using h⟩
 refine ⟨?_, ?_, ?_, hR.fresh, ?_, hR.below⟩
 ·intro i oi li h1 h2
  rcases pull i oi h1 with ⟨rfl, rfl⟩ | ⟨_, h⟩
  ·rw [hl] at h2; injection h2 with h2; subst h2; exact hO
  ·exact hR.objs i oi li h h2
 ·intro i oi li h1 h2
  rcases pull i oi h1 with ⟨rfl, rfl⟩ | ⟨_, h⟩
  ·rw [hl] at h2; injection h2 with h2; subst h2; rw [hrw]; exact hR.own i o l hg hl
  ·exact hR.own i oi li h h2
 ·intro i j oi oj li lj hij h1 h2 h3 h4 h5
  rcases pull i oi h1 with ⟨rfl, rfl⟩ | ⟨a1, a2⟩
  ·rcases pull j oj h2 with ⟨rfl, rfl⟩ | ⟨b1, b2⟩
   ·exact absurd rfl hij
   ·exact hR.inj i j o oj li lj hij hg b2 h3 h4 (by rw [← hrw]; exact h5)
  ·rcases pull j oj h2 with ⟨rfl, rfl⟩ | ⟨b1, b2⟩
   ·exact hR.inj i j oi o li lj hij a2 hg h3 h4 h5
   ·exact hR.inj i j oi oj li lj hij a2 b2 h3 h4 h5
 ·intro i hi
  have : i ≠ id := fun h => by subst h; rw [hR.gfresh i hi] at hg; cases hg
  simp [gset, this, hR.gfresh i hi]
theorem trow_ext {f f' : Nat → AV} : ∀ (sh : List Sh) (j : Nat), (∀ i, f i = f' i) → trow f sh j = trow f' sh j
 | [], _, _ => rfl
 | s :: sh, j, h => by simp only [trow, h j, trow_ext sh (Nat.succ j) h]
theorem trow_fit' : ∀ (sh : List Sh) (xs ys : List AV), shFit sh xs = true → xs.length = sh.length → trow (fun j => getAt (ys ++ xs) j) sh ys.length = xs
 | [], xs, ys, _, hl => by simp only [List.length_nil] at hl; rw [List.eq_nil_of_length_eq_zero hl]; rfl
 | s :: sh, [], ys, _, hl => by simp at hl
 | s :: sh, x :: xs, ys, h, hl => by
   simp only [shFit, Bool.and_eq_true] at h
   have ih := trow_fit' sh xs (ys ++ [x]) h.2 (by simpa using hl)
   have hx : getAt (ys ++ x :: xs) ys.length = x := by simp [getAt]
   simp only [trow, hx]
   have hv : view s x = x := by
    have h1 := h.1
    cases s <;> cases x <;> simp [shOk] at h1 <;> simp [view, AV.toI, AV.toS, AV.toB, h1]
   rw [hv]
   congr 1
   rw [List.append_assoc, List.singleton_append, List.length_append, List.length_singleton] at ih
   exact ih
theorem trow_fit {sh : List Sh} {xs : List AV} (h : shFit sh xs = true) (hl : xs.length = sh.length) : trow (fun j => getAt xs j) sh 0 = xs := trow_fit' sh xs [] h hl
theorem omap_at (hR : Rel w0 φ g n w) {id : Nat} {ks vs : List Sh} {ka va : Bool} {z : List AV} {has : AV → Bool} {f : AV → Nat → AV} {u : Value} (hg : g id = some (.omap ks vs ka va z has f true)) (hu : VR φ (.map id) u) :
  ∃ l es clock, φ id = some l ∧ EntsO ks vs ka va has f es ∧ ObjR φ w l (.map es clock) ∧ Rel w0 φ (gset g id (some (.map es clock))) n w := by
 simp only [VR] at hu
 obtain ⟨l, hl, rfl⟩ := hu
 obtain ⟨es, clock, h1, h2⟩ := hR.objs id _ l hg hl
 have hO : ObjR φ w l (.map es clock) := h1
 exact ⟨l, es, clock, hl, h2, hO, hR.reobj (o' := .map es clock) hg hl rfl hO⟩
theorem run_tlookup (hE : EnvOK P E) (hR : Rel w0 φ g n w) {t : TypeId} {id : Nat} {k r : AV} {ok : Bool} {obl : List Bool} {u v : Value} (h : tlookup E g t id k ok = some (r, obl)) (hu : VR φ (.map id) u) (hv : VR φ k v) :
  ∃ z, (Instr.lookup t u v ok).run P w = .ok z w ∧ VR φ r z := by
 unfold tlookup at h
 split at h
 ·rename_i ks vs ka va z has f rw_ ti hg ht
  split at h
  ·rename_i kt et hk
   cases hok : omapOk E kt et ks vs ka va z k with
   | false => rw [hok] at h; cases h
   | true =>
     rw [hok] at h
     simp only [cond_true] at h
     split at h
     ·rename_i x hx
      simp only [Option.some.injEq, Prod.mk.injEq] at h
      obtain ⟨rfl, rfl⟩ := h
      simp only [VR] at hu
      obtain ⟨l, hl, rfl⟩ := hu
      obtain ⟨es, clock, ⟨ms, hm, hms⟩, hO⟩ := hR.objs id _ l hg hl
      unfold omapOk at hok
      split at hok
      ·rename_i te hte
       simp only [Bool.and_eq_true, beq_iff_eq] at hok
       obtain ⟨⟨⟨⟨⟨⟨⟨a1, a2⟩, a3⟩, a4⟩, a5⟩, a6⟩, a7⟩, a8⟩ := hok
       have hz := AV.eq_of_beqL _ _ a4
       refine run_lookup0 hE ht hk hte a1 hms (.inr ⟨l.c, clock, rfl, hm⟩) ?_ hv
       rcases afind_ent a3 a2 es 0 (fun e he => (hO.1 e he).1) with ⟨h1, h2⟩ | ⟨j, e, h1, h2, h3⟩
       ·have hh : has k = false := by
         cases hb : has k with
         | false => rfl
         | true => obtain ⟨e, e1, e2⟩ := hO.2.1 k a2 hb; exact absurd e2 (h2 e e1)
        rw [hh] at hx
        simp only [cond_false, trow_fit a6 (Nat.eq_of_beq_eq_true a7)] at hx
        simp only [h1, hz, a5, hx, hh]
       ·have hm := List.mem_of_getElem? h1
        obtain ⟨b1, b2, b3⟩ := hO.1 e hm
        rw [h2] at b2 b3
        rw [b2] at hx
        simp only [cond_true] at hx
        rw [b3] at hx
        injection hx with hx
        simp only [h3, hx, b2]
      ·cases hok
     ·cases h
  ·cases h
 ·cases h
theorem run_tread (hE : EnvOK P E) (hR : Rel w0 φ g n w) {ρa : Operand → AV} {ρ : Operand → Value} (hρ : ∀ x, VR φ (ρa x) (ρ x)) {o : Oper} {r : AV} {obl : List Bool} (h : tread E ρa g o.op = some (r, obl)) (hobl : (obl.all fun b => b) = true) :
  ∃ z, (execOp ρ o).run P w = .ok (.value z) w ∧ VR φ r z := by
 unfold tread at h
 split at h <;> rename_i hop
 ·rename_i t x ix ok
  split at h
  ·rename_i id hx
   have hu := hρ x
   rw [hx] at hu
   obtain ⟨z, h1, h2⟩ := run_tlookup (P := P) hE hR h hu (hρ ix)
   exact ⟨z, by simp only [execOp, hop, Sem.run_bind, h1, Result.andThen_ok, Sem.run_pure], h2⟩
  ·cases h
 ·rename_i t x ix
  split at h
  ·rename_i s hx
   unfold tindex at h
   split at h
   ·rename_i ti k m ht hix
    split at h
    ·rename_i hk
     simp only [Option.some.injEq, Prod.mk.injEq] at h
     obtain ⟨rfl, rfl⟩ := h
     simp only [List.all_cons, List.all_nil, Bool.and_true, Bool.and_eq_true, decide_eq_true_eq] at hobl
     obtain ⟨o1, o2⟩ := hobl
     have hlt : m.toNat < s.length := by simpa [Nat.blt_eq] using o2
     refine run_aread0 hE hR hρ ?_
     rw [hop]
     simp only [aread0, apure, aindex, ht, hix, hx, hk, o1, decide_true, cond_true, List.getElem?_eq_getElem hlt, natAt]
    ·cases h
   ·cases h
  ·cases h
 ·rename_i bop t x y yt
  unfold tnil at h
  split at h
  ·rename_i ti ht
   split at h
   ·rename_i e id off len cap es hid hk hx hy
    split at h
    ·simp only [Option.some.injEq, Prod.mk.injEq] at h
     obtain ⟨rfl, rfl⟩ := h
     refine run_aread0 hE hR.untyped (fun z => VR_utv.2 (hρ z)) ?_
     rw [hop]
     simp only [aread0, apure, hx, hy, utv, abin, aeq, ht, hk]
    ·simp only [Option.some.injEq, Prod.mk.injEq] at h
     obtain ⟨rfl, rfl⟩ := h
     refine run_aread0 hE hR.untyped (fun z => VR_utv.2 (hρ z)) ?_
     rw [hop]
     simp only [aread0, apure, hx, hy, utv, abin, aeq, ht, hk, Bool.not_false]
    ·cases h
   ·rename_i e id off len cap es hid hk hx hy
    split at h
    ·simp only [Option.some.injEq, Prod.mk.injEq] at h
     obtain ⟨rfl, rfl⟩ := h
     refine run_aread0 hE hR.untyped (fun z => VR_utv.2 (hρ z)) ?_
     rw [hop]
     simp only [aread0, apure, hx, hy, utv, abin, aeq, ht, hk]
    ·simp only [Option.some.injEq, Prod.mk.injEq] at h
     obtain ⟨rfl, rfl⟩ := h
     refine run_aread0 hE hR.untyped (fun z => VR_utv.2 (hρ z)) ?_
     rw [hop]
     simp only [aread0, apure, hx, hy, utv, abin, aeq, ht, hk, Bool.not_false]
    ·cases h
   ·rename_i e nl id off len cap es hid hk hx hy
    have hxv := VR_osl (by have := hρ x; rw [hx] at this; exact this)
    have fin : ∀ b : Bool, aread0 E (fun z => dnb (nlOf (ρa z)) (ρa z)) g o.op = some (.bool b) → r = .bool b → ∃ z, (execOp ρ o).run P w = .ok (.value z) w ∧ VR φ r z := fun b hb hr => by
     subst hr
     exact run_aread0 hE hR (fun z => VR_dnb (hρ z)) hb
    have fin2 : ∀ b : Bool, aread0 E (fun z => utv (dnb (nlOf (ρa z)) (ρa z))) (Bm.untyped g) o.op = some (.bool b) → r = .bool b → ∃ z, (execOp ρ o).run P w = .ok (.value z) w ∧ VR φ r z := fun b hb hr => by
     subst hr
     exact run_aread0 hE hR.untyped (fun z => VR_utv.2 (VR_dnb (hρ z))) hb
    split at h
    ·simp only [Option.some.injEq, Prod.mk.injEq] at h
     obtain ⟨rfl, rfl⟩ := h
     cases nl with
     | true =>
       refine fin true ?_ rfl
       rw [hop]
       simp only [aread0, apure, hx, hy, nlOf, dnb, abin, aeq, ht, hk]
     | false =>
       refine fin2 false ?_ rfl
       rw [hop]
       simp only [aread0, apure, hx, hy, nlOf, dnb, utv, abin, aeq, ht, hk]
    ·simp only [Option.some.injEq, Prod.mk.injEq] at h
     obtain ⟨rfl, rfl⟩ := h
     cases nl with
     | true =>
       refine fin false ?_ rfl
       rw [hop]
       simp only [aread0, apure, hx, hy, nlOf, dnb, abin, aeq, ht, hk, Bool.not_true]
     | false =>
       refine fin2 true ?_ rfl
       rw [hop]
       simp only [aread0, apure, hx, hy, nlOf, dnb, utv, abin, aeq, ht, hk, Bool.not_false]
    ·cases h
   ·cases h
  ·cases h
 ·rename_i s d x
  split at h
  ·rename_i id off len cap es hid hx
   exact run_tconv hE hR hρ hop (by rw [hx]; rfl) h hobl
  ·rename_i nl id off len cap es hid hx
   rcases VR_osl (by have := hρ x; rw [hx] at this; exact this) with ⟨rfl, hv, rfl, rfl⟩ | ⟨rfl, hv⟩
   ·unfold tconv at h
    split at h
    ·rename_i ts td hts htd
     split at h
     ·rename_i e hks hkd
      split at h
      ·rename_i te hte
       split at h
       ·rename_i hk8
        split at h
        ·rename_i sh m f rw_ hg
         cases hb : (shBeq sh [.int .u8] && Nat.beq es 1) with
         | false => rw [hb] at h; cases h
         | true =>
           rw [hb] at h
           simp only [cond_true, Option.some.injEq, Prod.mk.injEq] at h
           obtain ⟨rfl, rfl⟩ := h
           refine run_aread0 hE hR (fun z => VR_dnb (hρ z)) ?_
           rw [hop]
           simp only [aread0, aconv, hts, htd, hx, nlOf, dnb, hkd, hks, hte, hk8, List.range_zero, List.map_nil]
        ·cases h
       ·cases h
      ·cases h
     ·cases h
    ·cases h
   ·exact run_tconv hE hR hρ hop (by rw [hx]; rfl) h hobl
  ·rename_i id off len cap es hid hx
   exact run_tconvC hE hR hρ hop hx h hobl
  ·cases h
 ·rename_i t a
  have ha := hρ a
  split at h
  ·rename_i id i j es hx
   rw [hx, VR_tptr] at ha
   unfold tload at h
   split at h
   ·rename_i sh m f rw_ ti hg ht
    cases hes : Nat.beq es sh.length with
    | false => rw [hes] at h; cases h
    | true =>
      rw [hes] at h
      have hes := Nat.eq_of_beq_eq_true hes
      subst hes
      simp only [cond_true] at h
      split at h
      ·rename_i v hv
       simp only [Option.some.injEq, Prod.mk.injEq] at h
       obtain ⟨rfl, rfl⟩ := h
       simp only [List.all_cons, List.all_nil, Bool.and_true] at hobl
       have hi : i < m := by simpa [Nat.blt_eq] using hobl
       have hl : aload E (Bm.untyped g) t (.ptr id (i * sh.length + j)) = some v := by
        have hc : acell (Bm.untyped g) id = some (tcells sh f 0 m) := by simp [acell, Bm.untyped, hg, untype]
        simp only [aload, ht, hc]
        cases hag : ti.k.isAgg with
        | true =>
          rw [hag] at hv
          simp only at hv
          split at hv
          ·rename_i rr hr
           simp only [cond_true, tcells_cut hi hr]
           exact hv
          ·cases hv
        | false =>
          rw [hag] at hv
          simp only [cond_false]
          exact tcells_at hi hv
       obtain ⟨z, h1, h2⟩ := run_load hE hR.untyped hl ha
       exact ⟨z, by simp only [execOp, hop, Sem.run_bind, h1, Result.andThen_ok, Sem.run_pure], h2⟩
      ·cases h
   ·cases h
  ·cases h
 ·rename_i s x f
  have ha := hρ x
  split at h
  ·rename_i id i j es hx
   rw [hx, VR_tptr] at ha
   unfold tfield at h
   split at h
   ·rename_i q of hf
    simp only [Option.some.injEq, Prod.mk.injEq] at h
    obtain ⟨rfl, rfl⟩ := h
    obtain ⟨z, h1, h2⟩ := run_fieldAddr hE (afield_any hf id (i * es + j)) ha w
    refine ⟨z, by simp only [execOp, hop, Sem.run_bind, h1, Result.andThen_ok, Sem.run_pure], ?_⟩
    rw [VR_tptr, ← Nat.add_assoc]; exact h2
   ·cases h
  ·cases h
 ·rename_i t x ix
  have ha := hρ x
  split at h
  ·rename_i id off len cap es hid hx
   rw [hx] at ha
   exact run_tindexAddr hE hρ hop ha h hobl
  ·rename_i nl id off len cap es hid hx
   rcases VR_osl (by have := hρ x; rw [hx] at this; exact this) with ⟨rfl, hv, rfl, rfl⟩ | ⟨rfl, hv⟩
   ·unfold tindexAddr at h
    split at h
    ·rename_i ti k m ht hix
     split at h
     ·split at h
      ·cases hes : Nat.beq _ es with
       | false => rw [hes] at h; cases h
       | true =>
         rw [hes] at h
         simp only [cond_true, Option.some.injEq, Prod.mk.injEq] at h
         obtain ⟨rfl, rfl⟩ := h
         simp only [List.all_cons, List.all_nil, Bool.and_true, Bool.and_eq_true, decide_eq_true_eq] at hobl
         omega
      ·cases h
     ·cases h
    ·cases h
   ·exact run_tindexAddr hE hρ hop hv h hobl
  ·cases h
 ·rename_i t x lo hi mx
  have ha := hρ x
  split at h
  ·rename_i id off len cap es hid hx
   rw [hx] at ha
   exact run_tslice hE hR hρ hop ha h hobl
  ·rename_i nl id off len cap es hid hx
   unfold toSl at h
   split at h
   ·rename_i id' off' len' cap' es' hid' l' hsl
    simp only [Option.some.injEq, Prod.mk.injEq] at h
    obtain ⟨rfl, rfl⟩ := h
    rcases VR_osl (by have := hρ x; rw [hx] at this; exact this) with ⟨rfl, hv, rfl, rfl⟩ | ⟨rfl, hv⟩
    ·have hnil : VR φ .nilSlice (ρ x) := by simp only [VR]; exact hv
     unfold tslice at hsl
     split at hsl
     ·cases hsl
     ·rename_i ti ht
      split at hsl
      ·rename_i e hk
       split at hsl
       ·cases hsl
       ·rename_i te he
        cases hes : Nat.beq te.size es with
        | false => rw [hes] at hsl; cases hsl
        | true =>
          rw [hes] at hsl
          simp only [cond_true] at hsl
          split at hsl
          ·rename_i l o1 hh o2 hlo hhi
           split at hsl
           ·rename_i hmx
            simp only [Option.some.injEq, Prod.mk.injEq, AV.tsl.injEq] at hsl
            obtain ⟨⟨rfl, rfl, rfl, rfl, rfl, rfl⟩, rfl⟩ := hsl
            simp only [List.all_cons, List.all_append, Bool.and_eq_true] at hobl
            obtain ⟨b1, b2, b3, b4⟩ := hobl
            have c1 := Nat.le_of_ble_eq_true b1
            have c2 := Nat.le_of_ble_eq_true b2
            have hp : aslice E g t .nilSlice (lo.map ρa) (hi.map ρa) (mx.map ρa) = some .nilSlice := by
             simp only [aslice, ht, hk, he, hmx, abounds, tnat_bound hhi b4 c2, tnat_bound hlo b3 c1]
            obtain ⟨z, h1, h2⟩ := run_slice hE hR hp hnil (optR_map hρ lo) (optR_map hρ hi) (optR_map hρ mx)
            refine ⟨z, by simp only [execOp, hop, Sem.run_bind, h1, Result.andThen_ok, Sem.run_pure], ?_⟩
            simp only [VR] at h2 ⊢
            exact .inl ⟨trivial, h2, by omega, by omega⟩
           ·rename_i mv hmx
            split at hsl
            ·rename_i hv2 m o3 hhiv hm3
             simp only [Option.some.injEq, Prod.mk.injEq, AV.tsl.injEq] at hsl
             obtain ⟨⟨rfl, rfl, rfl, rfl, rfl, rfl⟩, rfl⟩ := hsl
             simp only [List.all_cons, List.all_append, Bool.and_eq_true] at hobl
             obtain ⟨b1, b2, b5, b3, b4, b6⟩ := hobl
             have c1 := Nat.le_of_ble_eq_true b1
             have c2 := Nat.le_of_ble_eq_true b2
             have c3 := Nat.le_of_ble_eq_true b5
             have e1 := tnat_bound hm3 b6 c3
             simp only [abound] at e1
             have e2 := tnat_bound hhi b4 c2
             rw [hhiv] at e2
             simp only [abound] at e2
             have hp : aslice E g t .nilSlice (lo.map ρa) (hi.map ρa) (mx.map ρa) = some .nilSlice := by
              simp only [aslice, ht, hk, he, hmx, hhiv, abounds, e1, e2, tnat_bound hlo b3 c1]
             obtain ⟨z, h1, h2⟩ := run_slice hE hR hp hnil (optR_map hρ lo) (optR_map hρ hi) (optR_map hρ mx)
             refine ⟨z, by simp only [execOp, hop, Sem.run_bind, h1, Result.andThen_ok, Sem.run_pure], ?_⟩
             simp only [VR] at h2 ⊢
             exact .inl ⟨trivial, h2, by omega, by omega⟩
            ·cases hsl
          ·cases hsl
      ·cases hsl
    ·obtain ⟨z, h1, h2⟩ := run_tslice hE hR hρ hop hv hsl hobl
     exact ⟨z, h1, osl_tsl rfl h2⟩
   ·cases h
  ·rename_i s hx
   unfold tpart at h
   split at h
   ·rename_i ti ht hmx
    split at h
    ·rename_i hk
     split at h
     ·rename_i l o1 hh o2 hlo hhi
      simp only [Option.some.injEq, Prod.mk.injEq] at h
      obtain ⟨rfl, rfl⟩ := h
      simp only [List.all_cons, List.all_append, Bool.and_eq_true] at hobl
      obtain ⟨b1, b2, b3, b4⟩ := hobl
      have c1 := Nat.le_of_ble_eq_true b1
      have c2 := Nat.le_of_ble_eq_true b2
      refine run_aread0 hE hR hρ ?_
      rw [hop]
      simp only [aread0, aslice, ht, hx, hk, hmx, abounds, tnat_bound hhi b4 c2, tnat_bound hlo b3 c1]
     ·cases h
    ·cases h
   ·cases h
  ·cases h
 ·rename_i x
  have ha := hρ x
  split at h
  ·rename_i id i j es hx
   simp only [Option.some.injEq, Prod.mk.injEq] at h
   obtain ⟨rfl, rfl⟩ := h
   rw [hx] at ha
   have ha' := ha
   simp only [VR] at ha
   obtain ⟨l, h1, h2⟩ := ha
   exact ⟨ρ x, by simp only [execOp, hop, h2, Sem.run_pure], ha'⟩
  ·cases h
 ·rename_i c
  split at h
  ·rename_i x t hc hargs hty
   have ha := hρ x
   split at h
   ·rename_i id off len cap es hid hx
    rw [hx] at ha
    exact run_tlen hE hR hρ hop hc hargs hty ha h
   ·rename_i nl id off len cap es hid hx
    rcases VR_osl (by have := hρ x; rw [hx] at this; exact this) with ⟨rfl, hv, rfl, rfl⟩ | ⟨rfl, hv⟩
    ·unfold tlen at h
     split at h
     ·cases h
     ·rename_i ti ht
      split at h
      ·rename_i e hk
       simp only [Option.some.injEq, Prod.mk.injEq] at h
       obtain ⟨rfl, rfl⟩ := h
       refine run_aread0 hE hR (fun z => VR_dnb (hρ z)) ?_
       rw [hop]
       simp only [aread0, hc, hargs, hty, hx, nlOf, dnb, alen, ht, hk]
       rfl
      ·cases h
    ·exact run_tlen hE hR hρ hop hc hargs hty hv h
   ·cases h
  ·rename_i x t hc hargs hty
   split at h
   ·rename_i id off len cap es hid hx
    exact run_tcap hE hR hρ hop hc hargs hty (by rw [hx]; rfl) h
   ·rename_i nl id off len cap es hid hx
    rcases VR_osl (by have := hρ x; rw [hx] at this; exact this) with ⟨rfl, hv, rfl, rfl⟩ | ⟨rfl, hv⟩
    ·unfold tcap at h
     split at h
     ·cases h
     ·rename_i ti ht
      split at h
      ·rename_i e hk
       simp only [Option.some.injEq, Prod.mk.injEq] at h
       obtain ⟨rfl, rfl⟩ := h
       refine run_aread0 hE hR (fun z => VR_dnb (hρ z)) ?_
       rw [hop]
       simp only [aread0, hc, hargs, hty, hx, nlOf, dnb, acap, ht, hk]
       rfl
      ·cases h
    ·exact run_tcap hE hR hρ hop hc hargs hty (by rw [hx]; rfl) h
   ·cases h
  ·cases h
 ·cases h
theorem run_aread (hE : EnvOK P E) (hR : Rel w0 φ g n w) {ρa : Operand → AV} {ρ : Operand → Value} (hρ : ∀ x, VR φ (ρa x) (ρ x)) {o : Oper} {r : AV} (h : aread E ρa g o.op = some r) :
  ∃ z, (execOp ρ o).run P w = .ok (.value z) w ∧ VR φ r z := by
 unfold aread at h
 split at h
 ·rename_i v obl ht
  cases ho : (obl.all fun b => b) with
  | false => rw [ho] at h; cases h
  | true =>
    rw [ho] at h
    simp only [cond_true, Option.some.injEq] at h; subst h
    exact run_tread hE hR hρ ht ho
 ·exact run_aread0 hE hR hρ h
end
end Go.Proofs.Ytmjmhpbncfjnpaa.Bm
