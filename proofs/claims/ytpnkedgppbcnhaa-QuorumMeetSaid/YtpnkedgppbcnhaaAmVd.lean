/- The abstract machine: functions that read, and tell a value of no place: what they tell in any state. -/
import Derived.Test.YtpnkedgppbcnhaaAmVc
set_option linter.unusedSimpArgs false
set_option linter.unusedVariables false
namespace Go.Proofs.Ytpnkedgppbcnhaa.Am
open Go.RowKit
section
variable {P : Program} {E : Env} {w0 w w' : World} {φ φ' : Phi} {g : Heap} {n : Nat} {σ σ' : St}

/-- A world in which all that was stays. -/
theorem Rel.below_ (hR : Rel w0 φ g n w) (hB : Below w.heap.size w w') : Rel w0 φ g n w' ∧ Ext w0 φ g n w φ g n w' := by
  have hle := hB.size
  have blk : ∀ id o l, g id = some o → φ id = some l → w'.heap[l.c]? = w.heap[l.c]? := fun id o l h1 h2 => hB.block _ (hR.lt h1 h2)
  refine ⟨⟨fun id o l h1 h2 => (hR.objs id o l h1 h2).keep (blk id o l h1 h2) (fun _ _ h => h), hR.own, hR.inj, hR.fresh, hR.gfresh, ?_⟩, ⟨fun _ _ h => h, fun _ _ h => h, fun _ _ _ => rfl, fun c hc _ => hB.block c hc, fun id o l h1 h2 h3 => .inr ⟨id, o, l, h1, h2, h3, rfl⟩, Nat.le_refl _, hle⟩⟩
  have hb := hR.below
  exact ⟨hB.os.trans hb.os, hB.tape.trans hb.tape, hB.output.trans hb.output, Nat.le_trans hb.size hle, fun k hk => (hB.block k (Nat.lt_of_lt_of_le hk hb.size)).trans (hb.block k hk)⟩

theorem callOK_reads (hE : EnvOK P E) {f : FuncId} {fn : Func} (hfn : E.fn.get f = some fn) (hb : fn.body.isNone = false) {args : List AV} {v : AV}
    (hc : ∀ k φ w us, Rel w0 φ σ.get σ.next w → VRL φ args us → CallsIn (fen none) k P f us.toArray w (fun e W' => ∃ u, e = .returned u ∧ (∀ φ, VR φ v u) ∧ Below w.heap.size w W')) : CallOK P w0 f args σ v σ := by
  obtain ⟨h1, h2⟩ := hE.fn f fn hfn
  refine ⟨⟨fn, h1, hb, h2⟩, fun k φ w us hR hus => CallsIn.mono (hc k φ w us hR hus) fun e W' he => ?_⟩
  obtain ⟨u, rfl, hv, hB⟩ := he
  obtain ⟨r1, r2⟩ := hR.below_ hB
  exact ⟨u, φ, rfl, hv φ, r1, r2⟩

/-- A call without arguments that tells 'true' where there is nothing tells it anywhere. -/
theorem lives_ok (hE : EnvOK P E) (hI : ∀ w0, IntrOK P w0 E) {m : Nat} {f : FuncId} (h : resB E m f [] (stC []) = true) (w0 : World) (σ : St) : CallOK P w0 f [] σ (.bool true) σ := by
  unfold resB at h
  split at h
  · rename_i b σ1 hev
    subst h
    have hj : ∀ W, CallOK P W f [] (stC []) (.bool true) σ1 := fun W => ev_sound hE (hI W) m _ _ _ _ hev
    obtain ⟨h1, _⟩ := hj w0
    refine ⟨h1, fun k φ w us hR hus => ?_⟩
    have hus : us = [] := by simpa only [VRL] using hus
    subst hus
    refine CallsIn.mono ((hj w).2 k _ w [] (rel_empty w) VRL.nil) fun e W' he => ?_
    obtain ⟨u, φ', rfl, q1, q2, _⟩ := he
    obtain ⟨r1, r2⟩ := hR.below_ q2.below
    exact ⟨u, φ, rfl, by simpa only [VR] using q1, r1, r2⟩
  · cases h

/-- A call, what it tells being of no place. -/
def resW (E : Env) (m f : Nat) (args : List AV) (σ : St) (t : Tape) (v : AV) : Option (List Prop) := match evA E m (.call f args) σ t with
  | some ((.val u, _), _, obl) => match wkV (fun _ => none) v u with
    | some ps => some (oblP obl ++ ps)
    | none => none
  | _ => none
theorem callsW (hE : EnvOK P E) {W : World} (hI : IntrOK P W E) {m : Nat} {f : FuncId} {args : List AV} {us : List Value} {t : Tape} {v : AV} {ps : List Prop} (h : resW E m f args σ t v = some ps) (hp : allP ps) (k : Nat) (hR : Rel W φ σ.get σ.next W) (hus : VRL φ args us) :
    CallsIn (fen none) k P f us.toArray W fun e W' => ∃ u, e = .returned u ∧ (∀ φ, VR φ v u) ∧ Below W.heap.size W W' := by
  unfold resW at h
  split at h
  · rename_i u σ1 t' obl hev
    split at h
    · rename_i qs hq
      simp only [Option.some.injEq] at h; subst h
      obtain ⟨p1, p2⟩ := allP_append hp
      obtain ⟨_, hj⟩ : CallOK P W f args σ u σ1 := ev_sound hE hI m _ _ _ _ (evA_ev hev (oblP_all p1))
      refine CallsIn.mono (hj k φ W us hR hus) fun e W' he => ?_
      obtain ⟨x, φ', rfl, q1, q2, _⟩ := he
      exact ⟨x, rfl, fun ψ => VR.mono (fun id l h => by simp [ren] at h) _ _ (wkV_ok _ _ _ _ hq p2 q1), q2.below⟩
    · cases h
  · cases h

/-- A part of an open array, as an argument of which nothing is written. -/
theorem ro_of_tsl (hR : Rel w0 φ g n w) {id off len cap es : Nat} {hid : Bool} {sh : List Sh} {m : Nat} {f : Nat → Nat → AV} {rw_ : Bool} {u : Value} (hg : g id = some (.tarr sh m f rw_)) (hv : VR φ (.tsl id off len cap es hid) u) (hes : es = sh.length) (hle : off + len ≤ m) :
    ∃ l : Loc, l.c < w.heap.size ∧ (∀ ψ, CellsR ψ w l (tcells sh (fun i j => f (off + i) j) 0 len) false) ∧ ∀ (ψ : Phi) id', ψ id' = some l → VR ψ (.tsl id' 0 len len es true) u := by
  subst hes
  simp only [VR] at hv
  obtain ⟨l, ad, cc, h1, rfl, h2, h3, h4, h5, h6⟩ := hv
  have hO : CellsR φ w l (tcells sh f 0 m) rw_ := hR.objs id _ l hg h1
  obtain ⟨c1, c2, c3⟩ := hO
  rw [tcells_length] at c2
  have hm : (off + len) * sh.length ≤ m * sh.length := Nat.mul_le_mul_right _ hle
  rw [Nat.add_mul] at hm
  refine ⟨⟨l.c, l.o + off * sh.length, l.room - off * sh.length⟩, hR.lt (l := l) hg h1, fun ψ => ⟨fun j x hj => ?_, ?_, fun h => by cases h⟩, fun ψ id' hψ => ?_⟩
  · have hlt := (List.getElem?_eq_some_iff.1 hj).1
    rw [tcells_length] at hlt
    obtain ⟨q1, q2, q3⟩ := split_lt hlt
    have hj' := hj
    rw [q3, tcells_get q1 q2] at hj'
    have hold : (tcells sh f 0 m)[off * sh.length + j]? = some x := by
      have e : off * sh.length + j = (off + j / sh.length) * sh.length + j % sh.length := by rw [Nat.add_mul]; omega
      rw [e, tcells_get (by omega) q2]; exact hj'
    obtain ⟨v, d1, d2⟩ := c1 _ x hold
    refine ⟨v, by rw [Nat.add_assoc]; exact d1, ?_⟩
    injection hj' with hj'
    rw [← hj'] at d2 ⊢
    generalize sh[j % sh.length] = q at d2 ⊢
    cases q <;> simpa only [view, VR] using d2
  · rw [tcells_length]
    show len * sh.length ≤ l.room - off * sh.length
    omega
  · simp only [VR]
    refine ⟨_, ad, cc, hψ, rfl, Nat.le_refl _, by omega, (fun h => by cases h), fun h => ?_, fun h => ?_⟩
    · rw [h5 h]; simp
    · have := h6 h
      show 0 * sh.length + cc * sh.length ≤ l.room - off * sh.length
      omega

end
end Go.Proofs.Ytpnkedgppbcnhaa.Am
