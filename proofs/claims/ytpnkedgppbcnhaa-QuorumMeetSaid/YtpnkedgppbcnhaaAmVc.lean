/- The abstract machine: arguments that are slices of rows of integers, booleans and strings. -/
import Derived.Test.YtpnkedgppbcnhaaAmVb
import Derived.Deep.Slices
set_option linter.unusedSimpArgs false
set_option linter.unusedVariables false
namespace Go.Proofs.Ytpnkedgppbcnhaa.Am
open Go.RowKit

theorem cell_lt {W : World} {a : Addr} {v : Value} (h : W.cell? a = some v) : a.block < W.heap.size ∧ a.spot = none := by
  unfold World.cell? at h
  split at h
  · rename_i c t z hb
    refine ⟨(Array.getElem?_eq_some_iff.1 hb).1, ?_⟩
    cases hs : a.spot with
    | none => rfl
    | some _ => rw [hs] at h; simp at h
  · cases h
theorem add_eq {a : Addr} (h : a.spot = none) (n : Nat) : a.add n = ⟨a.block, a.off + n, none⟩ := by
  unfold Addr.add
  by_cases hn : n = 0
  · subst hn
    simp only [if_true, Nat.add_zero]
    cases a; simp_all
  · simp [hn]

/-- Where a slice's rows are read. -/
theorem open_rowsR {H : Type} {enc : TypeId × Value → H} {P : Program} {W : World} {sp : Nat → Bool} {held : Bool} {t e : TypeId} {sh : List Sh} {v : Value} {fuel : Nat} {x : DataW H × List MemPlace} (R : (Nat → AV) → Prop)
    (ht : P.underlying t = some (.slice e)) (hc : P.cellsOf e = sh.length) (hpos : 0 < sh.length) (hsp : ∀ b, sp b = true)
    (hel : ∀ cs n y, DataW.trod enc P W 0 sp held n e cs = some y → ∃ r : Nat → AV, (∀ φ, VRL φ (trow r sh 0) cs) ∧ R r) (hv : DataW.trod enc P W 0 sp held fuel t [v] = some x) :
    v = .slice none 0 0 ∨ (∃ a, v = .slice (some a) 0 0) ∨ ∃ (l : Loc) (n cap : Nat) (f : Nat → Nat → AV), l.c < W.heap.size ∧ 0 < cap ∧ n ≤ cap ∧ cap ≤ maxLen ∧ v = .slice (some ⟨l.c, l.o, none⟩) n cap ∧ cap * sh.length ≤ l.room ∧
      (∀ φ, CellsR φ W l (tcells sh f 0 n) false) ∧ ∀ i, i < n → R (f i) := by
  rcases Go.Deep.open_slice ht hv with ⟨h1, _⟩ | ⟨a, len0, cap, m, n, D, Pl, h1, hb, hle, hcm, hm, _, hrow⟩
  · left
    simpa using h1
  · have h1 : v = .slice (some a) len0 cap := by simpa using h1
    subst h1
    right
    rw [hsp] at hm
    simp only [if_true] at hm
    subst hm
    by_cases hc0 : m = 0
    · left
      subst hc0
      have : len0 = 0 := by omega
      subst this
      exact ⟨a, rfl⟩
    · right
      rw [hc] at hrow
      obtain ⟨f, hf⟩ := Go.Deep.choose_lt (α := Nat → AV) (n := m) (p := fun i r => ∃ cs', W.cells? 0 (a.add (i * sh.length)) sh.length = some cs' ∧ (∀ φ, VRL φ (trow r sh 0) cs') ∧ R r) (fun i hi => by
        obtain ⟨cs', q1, q2⟩ := hrow i hi
        obtain ⟨r, hr⟩ := hel _ _ _ q2
        exact ⟨r, cs', q1, hr⟩)
      have hspot : a.block < W.heap.size ∧ a.spot = none := by
        obtain ⟨cs', q1, q2, _⟩ := hf 0 (by omega)
        obtain ⟨_, q3, q4⟩ := World.cells?_some q1
        have := q4 0 hpos
        have hlt : 0 < cs'.length := by omega
        rw [List.getElem?_eq_getElem hlt] at this
        have := cell_lt this
        simpa [Addr.add] using this
      refine ⟨⟨a.block, a.off, m * sh.length⟩, len0, m, f, hspot.1, by omega, hle, hcm, ?_, Nat.le_refl _, fun φ => ⟨fun j x hj => ?_, ?_, fun h => by cases h⟩, fun i hi => ?_⟩
      · have : a = ⟨a.block, a.off, none⟩ := by
          have h := hspot.2
          cases a; simp_all
        rw [← this]
      · have hlt := (List.getElem?_eq_some_iff.1 hj).1
        rw [tcells_length] at hlt
        obtain ⟨q1, q2, q3⟩ := split_lt hlt
        obtain ⟨cs', r1, r2, _⟩ := hf (j / sh.length) (by omega)
        obtain ⟨_, r3, r4⟩ := World.cells?_some r1
        have hcell := r4 (j % sh.length) q2
        rw [Go.Deep.add_add, ← q3, add_eq hspot.2] at hcell
        have hx : (trow (f (j / sh.length)) sh 0)[j % sh.length]? = some x := by
          have := tcells_get (f := f) q1 q2
          rw [← q3, hj] at this
          injection this with this
          rw [trow_get, List.getElem?_eq_getElem q2, Option.map_some, Nat.zero_add, this]
        obtain ⟨u, u1, u2⟩ := (r2 φ).at_ _ _ hx
        exact ⟨u, by rw [hcell]; exact u1, u2⟩
      · rw [tcells_length]
        exact Nat.mul_le_mul_right _ hle
      · obtain ⟨cs', _, _, q⟩ := hf i (by omega)
        exact q
theorem open_rows {H : Type} {enc : TypeId × Value → H} {P : Program} {W : World} {sp : Nat → Bool} {held : Bool} {t e : TypeId} {sh : List Sh} {v : Value} {fuel : Nat} {x : DataW H × List MemPlace}
    (ht : P.underlying t = some (.slice e)) (hc : P.cellsOf e = sh.length) (hpos : 0 < sh.length) (hsp : ∀ b, sp b = true)
    (hel : ∀ cs n y, DataW.trod enc P W 0 sp held n e cs = some y → ∃ r : Nat → AV, ∀ φ, VRL φ (trow r sh 0) cs) (hv : DataW.trod enc P W 0 sp held fuel t [v] = some x) :
    v = .slice none 0 0 ∨ (∃ a, v = .slice (some a) 0 0) ∨ ∃ (l : Loc) (n cap : Nat) (f : Nat → Nat → AV), l.c < W.heap.size ∧ 0 < cap ∧ n ≤ cap ∧ cap ≤ maxLen ∧ v = .slice (some ⟨l.c, l.o, none⟩) n cap ∧ cap * sh.length ≤ l.room ∧
      ∀ φ, CellsR φ W l (tcells sh f 0 n) false := by
  rcases open_rowsR (fun _ => True) ht hc hpos hsp (fun cs n y h => by obtain ⟨r, hr⟩ := hel cs n y h; exact ⟨r, hr, trivial⟩) hv with h | h | ⟨l, n, cap, f, h1, h2, h3, h4, h5, h6, h7, _⟩
  · exact .inl h
  · exact .inr (.inl h)
  · exact .inr (.inr ⟨l, n, cap, f, h1, h2, h3, h4, h5, h6, h7⟩)

/-- The type's cells are such. -/
def Sh.desc : Sh → TypeDesc
  | .int k => .int k
  | .str => .string
  | .bool => .bool
theorem one_cell {H : Type} {enc : TypeId × Value → H} {P : Program} {W : World} {sp : Nat → Bool} {held : Bool} {t : TypeId} {s : Sh} {n : Nat} {cs : List Value} {y : DataW H × List MemPlace} (hu : P.underlying t = some s.desc)
    (h : DataW.trod enc P W 0 sp held n t cs = some y) : ∃ a v, cs = [v] ∧ ∀ φ, VR φ (view s a) v := by
  cases s with
  | int k =>
    obtain ⟨m, q1, _, _⟩ := DataW.trod_int hu h
    exact ⟨.int k m, _, q1, fun φ => by simp only [view, AV.toI, VR]⟩
  | str =>
    obtain ⟨b, q1, _, _⟩ := DataW.trod_string hu h
    exact ⟨.str (bytesOf b), _, q1, fun φ => by simp only [view, AV.toS, VR]; exact ⟨b, rfl, rfl⟩⟩
  | bool =>
    obtain ⟨b, q1, _⟩ := DataW.trod_bool hu h
    exact ⟨.bool b, _, q1, fun φ => by simp only [view, AV.toB, VR]⟩
/-- A row of one cell. -/
theorem row_one {H : Type} {enc : TypeId × Value → H} {P : Program} {W : World} {sp : Nat → Bool} {held : Bool} {e : TypeId} (s : Sh) (hu : P.underlying e = some s.desc)
    (cs : List Value) (n : Nat) (y : DataW H × List MemPlace) (h : DataW.trod enc P W 0 sp held n e cs = some y) : ∃ r : Nat → AV, ∀ φ, VRL φ (trow r [s] 0) cs := by
  obtain ⟨a, v, rfl, hv⟩ := one_cell hu h
  exact ⟨fun _ => a, fun φ => VRL.cons (hv φ) VRL.nil⟩
/-- A struct whose fields have one cell each. -/
theorem open_fields {H : Type} {enc : TypeId × Value → H} {P : Program} {W : World} {sp : Nat → Bool} {held : Bool} {e : TypeId} {fs : Array Field} (he : P.underlying e = some (.struct fs)) (ts : List TypeId)
    (hfs : fs.toList.map (fun f => (f.type, f.offset)) = ts.zipIdx) (hcell : P.cellsOf e = ts.length) (hone : (ts.all fun t => Nat.beq (P.cellsOf t) 1) = true)
    {cs : List Value} {n : Nat} {y : DataW H × List MemPlace} (h : DataW.trod enc P W 0 sp held n e cs = some y) : cs.length = ts.length ∧ ∀ (i : Nat) t, ts[i]? = some t → ∃ v n' y', cs[i]? = some v ∧ DataW.trod enc P W 0 sp held n' t [v] = some y' := by
  obtain ⟨xs, n', _, rfl, hl, hlen, hf⟩ := DataW.trod_struct he h
  have hsz : fs.size = ts.length := by
    have := congrArg List.length hfs
    simpa using this
  refine ⟨by rw [hl, hcell], fun i t hi => ?_⟩
  have hil := (List.getElem?_eq_some_iff.1 hi).1
  have hif : i < fs.size := by omega
  have hget : fs[i]? = some fs[i] := Array.getElem?_eq_getElem hif
  have hxi : i < xs.length := by omega
  have := hf i fs[i] hget
  rw [List.getElem?_eq_getElem hxi] at this
  have hfi : (fs.toList.map (fun f => (f.type, f.offset)))[i]? = some (fs[i].type, fs[i].offset) := by simp [hif]
  rw [hfs] at hfi
  have hki : ts.zipIdx[i]? = some (t, i) := by
    rw [List.getElem?_zipIdx, hi]; simp
  rw [hki] at hfi
  injection hfi with hfi
  injection hfi with hu ho
  have h1 : P.cellsOf t = 1 := Nat.eq_of_beq_eq_true (List.all_eq_true.1 hone t (List.mem_of_getElem? hi))
  rw [← ho, ← hu, h1] at this
  have hci : i < cs.length := by rw [hl, hcell]; exact hil
  have hd : (cs.drop i).take 1 = [cs[i]] := by
    rw [List.drop_eq_getElem_cons hci]; rfl
  rw [hd] at this
  exact ⟨cs[i], _, _, List.getElem?_eq_getElem hci, this⟩
/-- A row that is a struct of such. -/
theorem row_struct {H : Type} {enc : TypeId × Value → H} {P : Program} {W : World} {sp : Nat → Bool} {held : Bool} {e : TypeId} {fs : Array Field} (he : P.underlying e = some (.struct fs)) (sh : List Sh) (ts : List TypeId)
    (hfs : fs.toList.map (fun f => (f.type, f.offset)) = ts.zipIdx) (hcell : P.cellsOf e = ts.length) (hone : (ts.all fun t => Nat.beq (P.cellsOf t) 1) = true) (hsh : ts.map P.underlying = sh.map fun s => some s.desc)
    (cs : List Value) (n : Nat) (y : DataW H × List MemPlace) (h : DataW.trod enc P W 0 sp held n e cs = some y) : ∃ r : Nat → AV, ∀ φ, VRL φ (trow r sh 0) cs := by
  obtain ⟨hl, hf⟩ := open_fields he ts hfs hcell hone h
  have hts : ts.length = sh.length := by simpa using congrArg List.length hsh
  have key : ∀ i, i < sh.length → ∃ a : AV, ∃ s v, sh[i]? = some s ∧ cs[i]? = some v ∧ ∀ φ, VR φ (view s a) v := by
    intro i hi
    have hit : i < ts.length := by omega
    obtain ⟨v, n', y', q1, q2⟩ := hf i _ (List.getElem?_eq_getElem hit)
    have hu : P.underlying ts[i] = some (sh[i]).desc := by
      have : (ts.map P.underlying)[i]? = some (P.underlying ts[i]) := by simp [hit]
      rw [hsh] at this
      simpa [hi] using this.symm
    obtain ⟨a, v', h1, h2⟩ := one_cell hu q2
    injection h1 with h1 _
    subst h1
    exact ⟨a, sh[i], _, List.getElem?_eq_getElem hi, q1, h2⟩
  obtain ⟨r, hr⟩ := Go.Deep.choose_lt (α := AV) (n := sh.length) (p := fun i a => ∃ s v, sh[i]? = some s ∧ cs[i]? = some v ∧ ∀ φ, VR φ (view s a) v) key
  refine ⟨r, fun φ => VRL.of_at (by rw [trow_length, hl, hts]) fun j x hx => ?_⟩
  have hj : j < sh.length := by
    have := (List.getElem?_eq_some_iff.1 hx).1
    rw [trow_length] at this
    exact this
  obtain ⟨s, v, k1, k2, k3⟩ := hr j hj
  refine ⟨v, k2, ?_⟩
  rw [trow_get, k1] at hx
  simp only [Option.map_some, Nat.zero_add, Option.some.injEq] at hx
  subst hx
  exact k3 φ

/-- States in which nothing may be written. -/
theorem ro_none (W : World) : Rel W (fun _ => none) (stC []).get (stC []).next W := rel_empty W
theorem ro_add {W : World} {φ : Phi} {H : List (Option AObj)} (hR : Rel W φ (stC H).get (stC H).next W) (hro : ∀ o, some o ∈ H → o.rw = false) {l : Loc} (hl : l.c < W.heap.size) {o : AObj} (hrw : o.rw = false) (hO : ∀ φ, ObjR φ W l o) :
    Rel W (upd φ H.length l) (stC (H ++ [some o])).get (stC (H ++ [some o])).next W := by
  have hfr := hR.fresh H.length (Nat.le_refl _)
  have hle := upd_le (φ := φ) (id := H.length) l hfr
  have hget : ∀ id o1, (stC (H ++ [some o])).get id = some o1 → (id = H.length ∧ o1 = o) ∨ (id ≠ H.length ∧ (stC H).get id = some o1) := by
    intro id o1 h
    rw [stC_get] at h
    rw [stC_get]
    by_cases hid : id < H.length
    · rw [List.getElem?_append_left hid] at h
      exact .inr ⟨by omega, h⟩
    · rw [List.getElem?_append_right (by omega)] at h
      by_cases he : id = H.length
      · subst he
        simp at h
        exact .inl ⟨rfl, h.symm⟩
      · have : ([some o] : List (Option AObj))[id - H.length]? = none := List.getElem?_eq_none (by simp; omega)
        rw [this] at h
        cases h
  have hmem : ∀ id o1, (stC H).get id = some o1 → o1.rw = false := by
    intro id o1 h
    rw [stC_get] at h
    split at h
    · rename_i x hx
      subst h
      exact hro o1 (List.mem_of_getElem? hx)
    · cases h
  refine ⟨?_, ?_, ?_, ?_, ?_, hR.below⟩
  · intro id o1 l1 h1 h2
    rcases hget id o1 h1 with ⟨rfl, rfl⟩ | ⟨hne, h1⟩
    · rw [upd_same] at h2; injection h2 with h2; subst h2
      exact hO _
    · rw [upd_ne φ l hne] at h2
      exact (hR.objs id o1 l1 h1 h2).keep rfl hle
  · intro id o1 l1 h1 h2
    rcases hget id o1 h1 with ⟨rfl, rfl⟩ | ⟨hne, h1⟩
    · rw [upd_same] at h2; injection h2 with h2; subst h2
      rw [hrw]
      exact ⟨(fun h => by cases h), (fun h => by omega)⟩
    · rw [upd_ne φ l hne] at h2
      exact hR.own id o1 l1 h1 h2
  · intro i j oi oj li lj hij hi hj hli hlj hrwi
    rcases hget i oi hi with ⟨rfl, rfl⟩ | ⟨_, hi⟩
    · rw [hrw] at hrwi; cases hrwi
    · rw [hmem i oi hi] at hrwi; cases hrwi
  · intro id hid
    have hid : (H ++ [some o]).length ≤ id := hid
    rw [List.length_append] at hid
    have hid : H.length + 1 ≤ id := hid
    rw [upd_ne φ l (by omega)]
    exact hR.fresh id (by show H.length ≤ id; omega)
  · intro id hid
    have hid : (H ++ [some o]).length ≤ id := hid
    rw [stC_get, List.getElem?_eq_none hid]
theorem ro_gap {W : World} {φ : Phi} {H : List (Option AObj)} (hR : Rel W φ (stC H).get (stC H).next W) (l : Loc) : Rel W (upd φ H.length l) (stC (H ++ [none])).get (stC (H ++ [none])).next W := by
  have hfr := hR.fresh H.length (Nat.le_refl _)
  have hle := upd_le (φ := φ) (id := H.length) l hfr
  have hget : ∀ id o1, (stC (H ++ [none])).get id = some o1 → id ≠ H.length ∧ (stC H).get id = some o1 := by
    intro id o1 h
    rw [stC_get] at h
    rw [stC_get]
    by_cases hid : id < H.length
    · rw [List.getElem?_append_left hid] at h
      exact ⟨by omega, h⟩
    · rw [List.getElem?_append_right (by omega)] at h
      by_cases he : id = H.length
      · subst he
        simp at h
      · have : ([none] : List (Option AObj))[id - H.length]? = none := List.getElem?_eq_none (by simp; omega)
        rw [this] at h
        cases h
  refine ⟨?_, ?_, ?_, ?_, ?_, hR.below⟩
  · intro id o1 l1 h1 h2
    obtain ⟨hne, h1⟩ := hget id o1 h1
    rw [upd_ne φ l hne] at h2
    exact (hR.objs id o1 l1 h1 h2).keep rfl hle
  · intro id o1 l1 h1 h2
    obtain ⟨hne, h1⟩ := hget id o1 h1
    rw [upd_ne φ l hne] at h2
    exact hR.own id o1 l1 h1 h2
  · intro i j oi oj li lj hij hi hj hli hlj hrwi
    obtain ⟨hne, hi⟩ := hget i oi hi
    obtain ⟨hne', hj⟩ := hget j oj hj
    rw [upd_ne φ l hne] at hli
    rw [upd_ne φ l hne'] at hlj
    exact hR.inj i j oi oj li lj hij hi hj hli hlj hrwi
  · intro id hid
    have hid : (H ++ [none]).length ≤ id := hid
    rw [List.length_append] at hid
    have hid : H.length + 1 ≤ id := hid
    rw [upd_ne φ l (by omega)]
    exact hR.fresh id (by show H.length ≤ id; omega)
  · intro id hid
    have hid : (H ++ [none]).length ≤ id := hid
    rw [stC_get, List.getElem?_eq_none hid]
theorem VR_rows {φ : Phi} {l : Loc} {id n cap es : Nat} (h : φ id = some l) (hn : n ≤ cap) (hr : cap * es ≤ l.room) : VR φ (.tsl id 0 n n es true) (.slice (some ⟨l.c, l.o, none⟩) n cap) := by
  simp only [VR]
  exact ⟨l, _, cap, h, rfl, Nat.le_refl _, hn, (fun h => by cases h), fun _ => by simp, fun _ => by simpa using hr⟩

/-- What a law's call tells, and what must hold for it. -/
def resA (E : Env) (m f : Nat) (args : List AV) (σ : St) (t : Tape) : Option (List Prop) := match evA E m (.call f args) σ t with
  | some ((.val (.bool b), _), _, obl) => some (oblP obl ++ [b = true])
  | _ => none
theorem law_runA {P : Program} {E : Env} {W : World} (hE : EnvOK P E) (hI : IntrOK P W E) {m f : Nat} {args : List AV} {us : List Value} {φ : Phi} {σ : St} {t : Tape} {ps : List Prop} (hR : Rel W φ σ.get σ.next W) (hargs : VRL φ args us) (h : resA E m f args σ t = some ps) (hp : allP ps) :
    Calls P f us.toArray W fun e W' => e = .returned (.bool true) ∧ Below W.heap.size W W' := by
  unfold resA at h
  split at h
  · rename_i b σ' t' obl hev
    simp only [Option.some.injEq] at h; subst h
    obtain ⟨p1, p2⟩ := allP_append hp
    refine law_run hE hI (m := m) hR hargs ?_
    unfold resB
    rw [evA_ev hev (oblP_all p1)]
    exact p2.1
  · cases h
end Go.Proofs.Ytpnkedgppbcnhaa.Am
