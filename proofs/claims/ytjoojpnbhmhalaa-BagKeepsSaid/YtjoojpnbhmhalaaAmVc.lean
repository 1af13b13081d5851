/- The abstract machine: arguments that are slices of rows of integers, booleans and strings. -/
import Derived.Test.YtjoojpnbhmhalaaAmVb
import Derived.Deep.Slices
set_option linter.unusedSimpArgs false
set_option linter.unusedVariables false
namespace Go.Proofs.Ytjoojpnbhmhalaa.Am
open Go.RowKit

theorem cell_lt {W : World} {a : Addr} {v : Value} (h : W.cell? a = some v) : a.block < W.heap.size ∧ a.spot = none := by
  unfold World.cell? at h
  split at h
  · rename_i c t z hb
    refine ⟨(Array.getElem?_eq_some_iff.1 hb).1, ?_⟩
    cases hs : a.spot with
    | none => rfl
    | some _ => rw [hs] at h; simp at h
  · cases h
theorem add_eq {a : Addr} (h : a.spot = none) (n : Nat) : a.add n = ⟨a.block, a.off + n, none⟩ := by
  unfold Addr.add
  by_cases hn : n = 0
  · subst hn
    simp only [if_true, Nat.add_zero]
    cases a; simp_all
  · simp [hn]

/-- Where a slice's rows are read. -/
theorem open_rows {H : Type} {enc : TypeId × Value → H} {P : Program} {W : World} {sp : Nat → Bool} {held : Bool} {t e : TypeId} {sh : List Sh} {v : Value} {d : DataW H} {ps : List MemPlace}
    (ht : P.underlying t = some (.slice e)) (hc : P.cellsOf e = sh.length) (hpos : 0 < sh.length) (hsp : ∀ b, sp b = true)
    (hel : ∀ cs n y, DataW.trod enc P W 0 sp held n e cs = some y → ∃ r : Nat → AV, ∀ φ, VRL φ (trow r sh 0) cs) (hvs : ∃ a len cap, v = .slice a len cap) (hv : DataW.Trod enc P W 0 sp held t v d ps) :
    v = .slice none 0 0 ∨ (∃ a, v = .slice (some a) 0 0) ∨ ∃ (l : Loc) (n cap : Nat) (f : Nat → Nat → AV), l.c < W.heap.size ∧ 0 < cap ∧ n ≤ cap ∧ cap ≤ maxLen ∧ v = .slice (some ⟨l.c, l.o, none⟩) n cap ∧ cap * sh.length ≤ l.room ∧
      ∀ φ, CellsR φ W l (tcells sh f 0 n) false := by
  obtain ⟨fuel, hv⟩ := hv
  obtain ⟨a0, len0, cap0, rfl⟩ := hvs
  have hcells : (Value.slice a0 len0 cap0).cells.toList = [.slice a0 len0 cap0] := rfl
  rw [hcells] at hv
  rcases Go.Deep.open_slice ht hv with ⟨h1, _⟩ | ⟨a, len, cap, m, n, D, Pl, h1, hb, hle, hcm, hm, _, hrow⟩
  · left
    simpa using h1
  · have h1 : a0 = some a ∧ len0 = len ∧ cap0 = cap := by simpa using h1
    obtain ⟨rfl, rfl, rfl⟩ := h1
    right
    rw [hsp] at hm
    simp only [if_true] at hm
    subst hm
    by_cases hc0 : m = 0
    · left
      subst hc0
      have : len0 = 0 := by omega
      subst this
      exact ⟨a, rfl⟩
    · right
      rw [hc] at hrow
      obtain ⟨f, hf⟩ := Go.Deep.choose_lt (α := Nat → AV) (n := m) (p := fun i r => ∃ cs', W.cells? 0 (a.add (i * sh.length)) sh.length = some cs' ∧ ∀ φ, VRL φ (trow r sh 0) cs') (fun i hi => by
        obtain ⟨cs', q1, q2⟩ := hrow i hi
        obtain ⟨r, hr⟩ := hel _ _ _ q2
        exact ⟨r, cs', q1, hr⟩)
      have hspot : a.block < W.heap.size ∧ a.spot = none := by
        obtain ⟨cs', q1, q2⟩ := hf 0 (by omega)
        obtain ⟨_, q3, q4⟩ := World.cells?_some q1
        have := q4 0 hpos
        have hlt : 0 < cs'.length := by omega
        rw [List.getElem?_eq_getElem hlt] at this
        have := cell_lt this
        simpa [Addr.add] using this
      refine ⟨⟨a.block, a.off, m * sh.length⟩, len0, m, f, hspot.1, by omega, hle, hcm, ?_, Nat.le_refl _, fun φ => ⟨fun j x hj => ?_, ?_, fun h => by cases h⟩⟩
      · have : a = ⟨a.block, a.off, none⟩ := by
          have h := hspot.2
          cases a; simp_all
        rw [← this]
      · have hlt := (List.getElem?_eq_some_iff.1 hj).1
        rw [tcells_length] at hlt
        obtain ⟨q1, q2, q3⟩ := split_lt hlt
        obtain ⟨cs', r1, r2⟩ := hf (j / sh.length) (by omega)
        obtain ⟨_, r3, r4⟩ := World.cells?_some r1
        have hcell := r4 (j % sh.length) q2
        rw [Go.Deep.add_add, ← q3, add_eq hspot.2] at hcell
        have hx : (trow (f (j / sh.length)) sh 0)[j % sh.length]? = some x := by
          have := tcells_get (f := f) q1 q2
          rw [← q3, hj] at this
          injection this with this
          rw [trow_get, List.getElem?_eq_getElem q2, Option.map_some, Nat.zero_add, this]
        obtain ⟨u, u1, u2⟩ := (r2 φ).at_ _ _ hx
        exact ⟨u, by rw [hcell]; exact u1, u2⟩
      · rw [tcells_length]
        exact Nat.mul_le_mul_right _ hle

/-- A row that is a struct of integers. -/
theorem row_ints {H : Type} {enc : TypeId × Value → H} {P : Program} {W : World} {sp : Nat → Bool} {held : Bool} {e : TypeId} {fs : Array Field} (he : P.underlying e = some (.struct fs)) (ks : List IntKind)
    (hfs : fs.toList.map (fun f => (P.underlying f.type, f.offset)) = ks.zipIdx.map (fun p => (some (.int p.1), p.2))) (hcell : P.cellsOf e = ks.length) (hone : ∀ f ∈ fs.toList, P.cellsOf f.type = 1)
    (cs : List Value) (n : Nat) (y : DataW H × List MemPlace) (h : DataW.trod enc P W 0 sp held n e cs = some y) : ∃ r : Nat → AV, ∀ φ, VRL φ (trow r (ks.map Sh.int) 0) cs := by
  obtain ⟨xs, n', _, rfl, hl, hlen, hf⟩ := DataW.trod_struct he h
  have hsz : fs.size = ks.length := by
    have := congrArg List.length hfs
    simpa using this
  have key : ∀ i, i < ks.length → ∃ k m, ks[i]? = some k ∧ cs[i]? = some (.int k m) := by
    intro i hi
    have hif : i < fs.size := by omega
    have hget : fs[i]? = some fs[i] := Array.getElem?_eq_getElem hif
    have hxi : i < xs.length := by omega
    have := hf i fs[i] hget
    rw [List.getElem?_eq_getElem hxi] at this
    have hfi : (fs.toList.map (fun f => (P.underlying f.type, f.offset)))[i]? = some (P.underlying fs[i].type, fs[i].offset) := by simp [hif]
    rw [hfs] at hfi
    have hki : (ks.zipIdx.map (fun p => ((some (TypeDesc.int p.1) : Option TypeDesc), p.2)))[i]? = some (some (.int ks[i]), i) := by simp [hi]
    rw [hki] at hfi
    injection hfi with hfi
    injection hfi with hu ho
    rw [← ho, hone fs[i] (by simp)] at this
    obtain ⟨m, q1, _, _⟩ := DataW.trod_int hu.symm this
    refine ⟨ks[i], m, List.getElem?_eq_getElem hi, ?_⟩
    have h0 : ((cs.drop i).take 1)[0]? = some (.int ks[i] m) := by rw [q1]; rfl
    simpa [List.getElem?_take, List.getElem?_drop] using h0
  refine ⟨fun j => match cs[j]? with | some (.int k m) => .int k m | _ => .int .i64 0, fun φ => VRL.of_at (by rw [trow_length, List.length_map, hl, hcell]) fun j x hx => ?_⟩
  have hj : j < ks.length := by
    have := (List.getElem?_eq_some_iff.1 hx).1
    rw [trow_length, List.length_map] at this
    exact this
  obtain ⟨k, m, k1, k2⟩ := key j hj
  refine ⟨_, k2, ?_⟩
  rw [trow_get, List.getElem?_map, k1] at hx
  simp only [Option.map_some, Nat.zero_add, k2, view, AV.toI, Option.some.injEq] at hx
  subst hx
  simp only [VR]

/-- States in which nothing may be written. -/
theorem ro_none (W : World) : Rel W (fun _ => none) (stC []).get (stC []).next W := rel_empty W
theorem ro_add {W : World} {φ : Phi} {H : List (Option AObj)} (hR : Rel W φ (stC H).get (stC H).next W) (hro : ∀ o, some o ∈ H → o.rw = false) {l : Loc} (hl : l.c < W.heap.size) {o : AObj} (hrw : o.rw = false) (hO : ∀ φ, ObjR φ W l o) :
    Rel W (upd φ H.length l) (stC (H ++ [some o])).get (stC (H ++ [some o])).next W := by
  have hfr := hR.fresh H.length (Nat.le_refl _)
  have hle := upd_le (φ := φ) (id := H.length) l hfr
  have hget : ∀ id o1, (stC (H ++ [some o])).get id = some o1 → (id = H.length ∧ o1 = o) ∨ (id ≠ H.length ∧ (stC H).get id = some o1) := by
    intro id o1 h
    rw [stC_get] at h
    rw [stC_get]
    by_cases hid : id < H.length
    · rw [List.getElem?_append_left hid] at h
      exact .inr ⟨by omega, h⟩
    · rw [List.getElem?_append_right (by omega)] at h
      by_cases he : id = H.length
      · subst he
        simp at h
        exact .inl ⟨rfl, h.symm⟩
      · have : ([some o] : List (Option AObj))[id - H.length]? = none := List.getElem?_eq_none (by simp; omega)
        rw [this] at h
        cases h
  have hmem : ∀ id o1, (stC H).get id = some o1 → o1.rw = false := by
    intro id o1 h
    rw [stC_get] at h
    split at h
    · rename_i x hx
      subst h
      exact hro o1 (List.mem_of_getElem? hx)
    · cases h
  refine ⟨?_, ?_, ?_, ?_, ?_, hR.below⟩
  · intro id o1 l1 h1 h2
    rcases hget id o1 h1 with ⟨rfl, rfl⟩ | ⟨hne, h1⟩
    · rw [upd_same] at h2; injection h2 with h2; subst h2
      exact hO _
    · rw [upd_ne φ l hne] at h2
      exact (hR.objs id o1 l1 h1 h2).keep rfl hle
  · intro id o1 l1 h1 h2
    rcases hget id o1 h1 with ⟨rfl, rfl⟩ | ⟨hne, h1⟩
    · rw [upd_same] at h2; injection h2 with h2; subst h2
      rw [hrw]
      exact ⟨(fun h => by cases h), (fun h => by omega)⟩
    · rw [upd_ne φ l hne] at h2
      exact hR.own id o1 l1 h1 h2
  · intro i j oi oj li lj hij hi hj hli hlj hrwi
    rcases hget i oi hi with ⟨rfl, rfl⟩ | ⟨_, hi⟩
    · rw [hrw] at hrwi; cases hrwi
    · rw [hmem i oi hi] at hrwi; cases hrwi
  · intro id hid
    have hid : (H ++ [some o]).length ≤ id := hid
    rw [List.length_append] at hid
    have hid : H.length + 1 ≤ id := hid
    rw [upd_ne φ l (by omega)]
    exact hR.fresh id (by show H.length ≤ id; omega)
  · intro id hid
    have hid : (H ++ [some o]).length ≤ id := hid
    rw [stC_get, List.getElem?_eq_none hid]
theorem ro_gap {W : World} {φ : Phi} {H : List (Option AObj)} (hR : Rel W φ (stC H).get (stC H).next W) (l : Loc) : Rel W (upd φ H.length l) (stC (H ++ [none])).get (stC (H ++ [none])).next W := by
  have hfr := hR.fresh H.length (Nat.le_refl _)
  have hle := upd_le (φ := φ) (id := H.length) l hfr
  have hget : ∀ id o1, (stC (H ++ [none])).get id = some o1 → id ≠ H.length ∧ (stC H).get id = some o1 := by
    intro id o1 h
    rw [stC_get] at h
    rw [stC_get]
    by_cases hid : id < H.length
    · rw [List.getElem?_append_left hid] at h
      exact ⟨by omega, h⟩
    · rw [List.getElem?_append_right (by omega)] at h
      by_cases he : id = H.length
      · subst he
        simp at h
      · have : ([none] : List (Option AObj))[id - H.length]? = none := List.getElem?_eq_none (by simp; omega)
        rw [this] at h
        cases h
  refine ⟨?_, ?_, ?_, ?_, ?_, hR.below⟩
  · intro id o1 l1 h1 h2
    obtain ⟨hne, h1⟩ := hget id o1 h1
    rw [upd_ne φ l hne] at h2
    exact (hR.objs id o1 l1 h1 h2).keep rfl hle
  · intro id o1 l1 h1 h2
    obtain ⟨hne, h1⟩ := hget id o1 h1
    rw [upd_ne φ l hne] at h2
    exact hR.own id o1 l1 h1 h2
  · intro i j oi oj li lj hij hi hj hli hlj hrwi
    obtain ⟨hne, hi⟩ := hget i oi hi
    obtain ⟨hne', hj⟩ := hget j oj hj
    rw [upd_ne φ l hne] at hli
    rw [upd_ne φ l hne'] at hlj
    exact hR.inj i j oi oj li lj hij hi hj hli hlj hrwi
  · intro id hid
    have hid : (H ++ [none]).length ≤ id := hid
    rw [List.length_append] at hid
    have hid : H.length + 1 ≤ id := hid
    rw [upd_ne φ l (by omega)]
    exact hR.fresh id (by show H.length ≤ id; omega)
  · intro id hid
    have hid : (H ++ [none]).length ≤ id := hid
    rw [stC_get, List.getElem?_eq_none hid]
theorem VR_rows {φ : Phi} {l : Loc} {id n cap es : Nat} (h : φ id = some l) (hn : n ≤ cap) (hr : cap * es ≤ l.room) : VR φ (.tsl id 0 n n es true) (.slice (some ⟨l.c, l.o, none⟩) n cap) := by
  simp only [VR]
  exact ⟨l, _, cap, h, rfl, Nat.le_refl _, hn, (fun h => by cases h), fun _ => by simp, fun _ => by simpa using hr⟩
end Go.Proofs.Ytjoojpnbhmhalaa.Am
