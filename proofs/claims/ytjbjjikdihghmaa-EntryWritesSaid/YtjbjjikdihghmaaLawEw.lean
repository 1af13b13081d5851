/- Any entry's bytes are the document's, or it is refused; a good one has room: for every input the law returns true, and the input reads as it did. No condition. -/
import Derived.Test.YtjbjjikdihghmaaEwB
import Derived.Test.YtjbjjikdihghmaaEwC
set_option linter.unusedSimpArgs false
set_option linter.unusedVariables false
namespace Go.Proofs.Ytjbjjikdihghmaa.entry
open Go Go.ChangeShapes Go.WideShapes Go.ChangeAt Go.RowKit Go.Proofs.Ytjbjjikdihghmaa.Bm
theorem r39_inv {A : Int → Int → Int → Int → Int → Bool} {c : CS} {r : CS} (h : (r39 A c).run = some r) : ∃ cl rq fr ct bl, c = a39 cl rq fr ct bl ∧ (r39B A cl rq fr ct bl).run = some r := by
  unfold r39 at h
  split at h
  · rename_i cl rq fr ct bl
    obtain ⟨hc, hb⟩ := chkT_run h
    exact ⟨cl, rq, fr, ct, bl, rfl, hb⟩
  · cases h
theorem r13_inv {A : Int → Int → Int → Int → Int → Bool} {c : CS} {r : Nat × CS} (h : (r13 A c).run = some r) : ∃ ix tm st kd cl rq fr ct d nd bh bl nl n f, c = c13 ix tm st kd cl rq fr ct d nd bh bl nl n f 0 ∧ (r13B A ix tm st kd cl rq fr ct d nd bh bl nl n f).run = some r := by
  unfold r13 at h
  split at h
  · rename_i nl n z_1 z_2 z_3 ix tm st kd cl rq fr ct d z_4 z_5 z_6 nd bh bl sh_7 z_8 f
    obtain ⟨hc, hb⟩ := chkT_run h
    have h0 := hc 0 _ rfl
    have h0 := of_decide_eq_true h0; subst h0
    have h1 := hc 1 _ rfl
    have h1 := of_decide_eq_true h1; subst h1
    have h2 := hc 2 _ rfl
    have h2 := of_decide_eq_true h2; subst h2
    have h3 := hc 3 _ rfl
    have h3 := of_decide_eq_true h3; subst h3
    have h4 := hc 4 _ rfl
    have h4 := of_decide_eq_true h4; subst h4
    have h5 := hc 5 _ rfl
    have h5 := of_decide_eq_true h5; subst h5
    have h6 := hc 6 _ rfl
    have h6 := (shBeq_eq h6).symm; subst h6
    have h7 := hc 7 _ rfl
    have h7 := of_decide_eq_true h7; subst h7
    exact ⟨ix, tm, st, kd, cl, rq, fr, ct, d, nd, bh, bl, nl, n, f, rfl, hb⟩
  · cases h
theorem f11_inv  {c : CS} {r : CS} (h : (f11  c).run = some r) : ∃ nd bh bl, c = a11 nd bh bl ∧ (f11B  nd bh bl).run = some r := by
  unfold f11 at h
  split at h
  · rename_i nd bh bl
    obtain ⟨hc, hb⟩ := chkT_run h
    exact ⟨nd, bh, bl, rfl, hb⟩
  · cases h
theorem f13_inv  {c : CS} {r : CS} (h : (f13  c).run = some r) : ∃ ix tm st kd cl rq fr ct d nd bh bl nl n f, c = a13 ix tm st kd cl rq fr ct d nd bh bl nl n f ∧ (f13B  ix tm st kd cl rq fr ct d nd bh bl nl n f).run = some r := by
  unfold f13 at h
  split at h
  · rename_i ix tm st kd cl rq fr ct d nl n z_1 nd bh bl sh_2 z_3 f
    obtain ⟨hc, hb⟩ := chkT_run h
    have h0 := hc 0 _ rfl
    have h0 := of_decide_eq_true h0; subst h0
    have h1 := hc 1 _ rfl
    have h1 := (shBeq_eq h1).symm; subst h1
    have h2 := hc 2 _ rfl
    have h2 := of_decide_eq_true h2; subst h2
    exact ⟨ix, tm, st, kd, cl, rq, fr, ct, d, nd, bh, bl, nl, n, f, rfl, hb⟩
  · cases h
theorem scan_run {α : Type} {b : Bool} {x y r : α} (h : (T.ask b (.ret x) (.ret y)).run = some r) : r = cond b x y := by
  simp only [T.run] at h
  cases b <;> simp only [cond_true, cond_false, Option.some.injEq] at h ⊢ <;> exact h.symm
theorem g12 : Bm.Good Try.prog E12 := g11.addR g11 (by kernel_rfl) (fun c c' h => by
    obtain ⟨cl, rq, fr, ct, bl, rfl, hb⟩ := r39_inv h
    simp only [r39B, T.run, Option.some.injEq] at hb; subst hb
    exact ⟨1000, .keep, [], k39_p, k39_S cl rq fr ct bl⟩)
theorem blt2 {i n : Nat} (h : i < n) : Nat.blt i n = true := by rw [blt_iff]; simp [h]
theorem i13 (c : CS) (r : Nat × CS) (h : (r13 askP c).run = some r) : ∃ n, iterC (stepC E12 300 (loopC E12 11 0) 0 h13 ((.normal, h13) :: x13) s13_p) n c = some r := by
  obtain ⟨ix, tm, st, kd, cl, rq, fr, ct, d, nd, bh, bl, nl, n, f, rfl, hb⟩ := r13_inv h
  obtain ⟨hn, hb2⟩ := chkT_run hb
  have hn := le_of (hn 0 _ rfl)
  rw [scan_run hb2]
  refine iter_scan (C := fun i => c13 ix tm st kd cl rq fr ct d nd bh bl nl n f i) (q := rowA askP f bl) (by simp) (by simp) (fun i hi => ?_) ?_
  · show s13 ix tm st kd cl rq fr ct d nd bh bl nl n f i s13_p = _
    rw [s13_eq]
    simp only [ix_, lt1 hi, blt2 hi, wrap_i64s (i := i) (by omega), cond_true]
    change cond (rowZ f i) _ (cond (askP (f i 0).toI (f i 1).toI (f i 2).toI (f i 3).toI bl) _ _) = cond (cond (rowZ f i) true (askP (f i 0).toI (f i 1).toI (f i 2).toI (f i 3).toI bl)) _ _
    cases rowZ f i <;> cases askP (f i 0).toI (f i 1).toI (f i 2).toI (f i 3).toI bl <;> rfl
  · show s13 ix tm st kd cl rq fr ct d nd bh bl nl n f n s13_p = _
    rw [s13_eq]
    simp only [lt0, cond_false]
theorem g13 : Bm.Good Try.prog E13 := g12.addL (by kernel_rfl) rfl (by decide) (by decide) rfl i13
set_option maxRecDepth 100000 in
theorem g14 : Bm.Good Try.prog E14 := by
  refine (g13.addR g11 (by kernel_rfl) (fun c c' h => ?_)).addR g13 (by kernel_rfl) (fun c c' h => ?_)
  · obtain ⟨nd, bh, bl, rfl, hb⟩ := f11_inv h
    simp only [f11B, T.run, Option.some.injEq] at hb; subst hb
    exact ⟨1000, .keep, [], k11_p, k11_S nd bh bl⟩
  · obtain ⟨ix, tm, st, kd, cl, rq, fr, ct, d, nd, bh, bl, nl, n, f, rfl, hb⟩ := f13_inv h
    obtain ⟨hn, hb2⟩ := chkT_run hb
    simp only [T.run, Option.some.injEq] at hb2; subst hb2
    exact ⟨1000, .keep, [], k13_p, k13_S ix tm st kd cl rq fr ct d nd bh bl nl n f (hn 0 _ rfl)⟩
set_option maxRecDepth 100000 in
theorem g15 : Bm.Good Try.prog E15 := g14.addF (lives_ok (m := 100000) g0 (by kernel_rfl))

/-! ### What is good is written, and has room -/
theorem ct_ {c x : Bool} (h : cond c x false = true) : c = true ∧ x = true := by
  cases c with
  | true => exact ⟨rfl, h⟩
  | false => cases h
theorem cf_ {c x : Bool} (h : cond c false x = true) : c = false ∧ x = true := by
  cases c with
  | true => cases h
  | false => exact ⟨rfl, h⟩
theorem wrap_i64i {x : Int} (h : 0 ≤ x) (h2 : x < 1000000000) : IntKind.wrap .i64 x = x := by
  obtain ⟨k, rfl⟩ : ∃ k : Nat, x = (k : Int) := ⟨x.toNat, by omega⟩
  exact wrap_i64 (by omega)
theorem ask_ct {cl rq fr ct bl : Int} (h : askP cl rq fr ct bl = true) : 0 < ct ∧ ct ≤ 8 := by
  unfold askP at h
  obtain ⟨_, h⟩ := ct_ h
  obtain ⟨_, h⟩ := ct_ h
  obtain ⟨_, h⟩ := ct_ h
  obtain ⟨h1, h⟩ := ct_ h
  obtain ⟨h2, h⟩ := ct_ h
  exact ⟨of_decide_eq_true h2, of_decide_eq_true h1⟩
theorem fine_bh {nd bh bl : Int} (h : fineP nd bh bl = true) : 1 ≤ bh ∧ bh ≤ 64 := by
  by_cases h1 : bh ≥ 1
  · by_cases h2 : bh ≤ 64
    · exact ⟨h1, h2⟩
    · unfold fineP at h
      rw [decide_eq_false h2, decide_eq_true h1] at h
      cases hq : (nd == 3) <;> cases hw : (nd == 5) <;> cases hr : (nd == 7) <;> rw [hq, hw, hr] at h <;> cases h
  · unfold fineP at h
    rw [decide_eq_false h1] at h
    cases hq : (nd == 3) <;> cases hw : (nd == 5) <;> cases hr : (nd == 7) <;> rw [hq, hw, hr] at h <;> cases h
theorem good_facts {ix tm st kd cl rq fr ct : Int} {d : List Nat} {nd bh bl : Int} {nl : Bool} {n : Nat} {f : Nat → Nat → AV} (h : goodP ix tm st kd cl rq fr ct d nd bh bl nl n f = true) : 0 ≤ kd ∧ kd ≤ 255 ∧ d.length ≤ 64 ∧ (n : Int) ≤ bh := by
  unfold goodP at h
  obtain ⟨_, h⟩ := ct_ h
  obtain ⟨_, h⟩ := ct_ h
  obtain ⟨_, h⟩ := ct_ h
  obtain ⟨_, h⟩ := ct_ h
  obtain ⟨_, h⟩ := ct_ h
  obtain ⟨_, h⟩ := ct_ h
  obtain ⟨hb, h⟩ := cf_ h
  obtain ⟨_, h⟩ := cf_ h
  obtain ⟨_, h⟩ := ct_ h
  have hb := of_decide_eq_false hb
  cases h1 : (kd == 1) with
  | true =>
    rw [h1] at h
    obtain ⟨ha, h⟩ := ct_ h
    obtain ⟨c1, c2⟩ := ask_ct ha
    have h1 : kd = 1 := by simpa using h1
    have h : (d.length : Int) = IntKind.wrap IntKind.i64 (8 * IntKind.wrap IntKind.i64 ct) := by simpa using h
    rw [wrap_i64i (x := ct) (by omega) (by omega), wrap_i64i (by omega) (by omega)] at h
    omega
  | false =>
    rw [h1] at h
    obtain ⟨h2, h⟩ := ct_ h
    obtain ⟨_, h⟩ := ct_ h
    have h2 : kd = 2 := by simpa using h2
    have h : d = bytesOf { data := #[] } := by simpa using h
    have : d.length = 0 := by rw [h]; rfl
    omega
/-- Bytes. -/
def BR (F : Nat → Nat → AV) (n : Nat) : Prop := ∀ i, i < n → 0 ≤ (F i 0).toI ∧ (F i 0).toI < 256
theorem br_byt (x : Int) (i : Nat) : 0 ≤ byt x i ∧ byt x i < 256 := by unfold byt; omega
theorem br_one {x : Int} {n : Nat} : BR (oneB x) n := fun i _ => br_byt _ _
theorem br_all {w n : Nat} {g : Nat → Nat → AV} : BR (allB w g) n := fun i _ => br_byt _ _
theorem br_look {cl rq fr ct : Int} (a : Nat) : 0 ≤ lookI cl rq fr ct a ∧ lookI cl rq fr ct a < 256 := by
  unfold lookI
  cases Nat.blt a 8 <;> cases Nat.blt a 16 <;> cases Nat.blt a 20 <;> exact br_byt _ _
theorem br_str {d : List Nat} {n : Nat} (h : ∀ b ∈ d, b < 256) : BR (strB d) n := fun i _ => by
  show 0 ≤ ((natAt d i : Nat) : Int) ∧ ((natAt d i : Nat) : Int) < 256
  have : natAt d i < 256 := by
    unfold natAt
    split
    · rename_i v hv; exact h v (List.mem_of_getElem? hv)
    · decide
  omega
theorem br_join {F X : Nat → Nat → AV} {n m : Nat} (h : BR F n) (k : BR X m) : BR (fjoin F n X) (n + m) := fun i hi => by
  by_cases h1 : i < n
  · rw [fjoin_lt h1]; exact h i h1
  · rw [fjoin_ge (by omega)]; exact k _ (by omega)
theorem br_ent {ix tm st kd cl rq fr ct : Int} {d : List Nat} {m : Nat} {g : Nat → Nat → AV} (h : ∀ b ∈ d, b < 256) : BR (entB ix tm st kd cl rq fr ct d m g) (52 + d.length + 24 * m) := by
  unfold entB
  refine br_join ?_ (fun i _ => br_look _)
  have := br_join (n := 51 + d.length) (m := 1) (X := allB 1 (rowsOf 1 [.int .u64 (IntKind.wrap .u64 (m : Int))] 1)) (F := fjoin (fjoin (fjoin (fjoin (fjoin (fun _ _ => .bad) 0 (allB 8 (rowsOf 1 [.int .u64 ix, .int .u64 tm, .int .u64 st] 3))) 24 (allB 1 (rowsOf 1 [.int .u64 (IntKind.wrap .u64 kd)] 1))) 25 (lookB cl rq fr ct)) 49 (oneB (IntKind.wrap .u64 (d.length : Int)))) 51 (strB d)) ?_ br_all
  · rw [show 52 + d.length = 51 + d.length + 1 by omega]; exact this
  · refine br_join ?_ (br_str h)
    refine br_join (n := 49) (m := 2) ?_ br_one
    refine br_join (n := 25) (m := 24) ?_ (fun i _ => br_look _)
    refine br_join (n := 24) (m := 1) ?_ br_all
    exact br_join (n := 0) (m := 24) (fun i hi => absurd hi (Nat.not_lt_zero _)) br_all
set_option maxRecDepth 100000 in
theorem k3_true (ix tm st kd cl rq fr ct : Int) (d : List Nat) (nd bh bl : Int) (nl : Bool) (n : Nat) (f : Nat → Nat → AV) (hd : ∀ b ∈ d, b < 256) (h1 : u64B ix = true) (h2 : u64B tm = true) (h3 : u64B st = true) (h4 : lookOk cl rq fr ct = true) (h5 : okFrom (rowOk f) 0 n = true) :
    k3 ix tm st kd cl rq fr ct d nd bh bl nl n f k3_p = some true := by
  rw [k3_eq]
  by_cases l1 : (d.length : Int) ≤ 20000
  · by_cases l2 : (n : Int) ≤ 200
    · have hN : Nat.ble n 1000000 = true := ble_t (by omega)
      rw [decide_eq_true l1, decide_eq_true l2, h1, h2, h3, h4, h5, hN, ble_t (show 0 + (52 + d.length + 24 * n) ≤ 52 + d.length + 24 * n by omega)]
      have hall : (List.all (List.range (52 + List.length d + 24 * n)) fun i => decide (0 ≤ byteAt (entB ix tm st kd cl rq fr ct d n f) (0 + i)) && decide (byteAt (entB ix tm st kd cl rq fr ct d n f) (0 + i) < 256)) = true := by
        rw [List.all_eq_true]
        intro i hi
        have := br_ent (ix := ix) (tm := tm) (st := st) (kd := kd) (cl := cl) (rq := rq) (fr := fr) (ct := ct) (g := f) hd i (List.mem_range.1 hi)
        rw [Nat.zero_add, Bool.and_eq_true, decide_eq_true_eq, decide_eq_true_eq]
        exact this
      rw [hall]
      cases hF : fineP nd bh bl with
      | false => cases decide (kd < 0) <;> cases decide (kd > 255) <;> cases decide ((d.length : Int) > 16384) <;> cases decide ((n : Int) > 64) <;> rfl
      | true =>
        cases hG : goodP ix tm st kd cl rq fr ct d nd bh bl nl n f with
        | false => cases decide (kd < 0) <;> cases decide (kd > 255) <;> cases decide ((d.length : Int) > 16384) <;> cases decide ((n : Int) > 64) <;> rfl
        | true =>
          obtain ⟨a1, a2, a3, a4⟩ := good_facts hG
          obtain ⟨b1, b2⟩ := fine_bh hF
          rw [decide_eq_false (show ¬ kd < 0 by omega), decide_eq_false (show ¬ kd > 255 by omega), decide_eq_false (show ¬ (d.length : Int) > 16384 by omega), decide_eq_false (show ¬ (n : Int) > 64 by omega)]
          rw [if_neg (show ¬ 0 > bh by omega), wrap_i64i (x := bh * 24) (by omega) (by omega), wrap_i64i (by omega) (by omega), decide_eq_true (by omega)]
          rfl
    · rw [decide_eq_true l1, decide_eq_false l2]; rfl
  · rw [decide_eq_false l1]; rfl
theorem u64_rng {x : Int} (h : IntKind.min .u64 ≤ x ∧ x ≤ IntKind.max .u64) : u64B x = true := by
  have a : (0 : Int) ≤ x := h.1
  have b : x ≤ 18446744073709551615 := h.2
  rw [u64B_eq, decide_eq_true a, decide_eq_true (show x < 18446744073709551616 by omega)]; rfl
theorem look_rng {cl rq fr ct : Int} (h1 : IntKind.min .u64 ≤ cl ∧ cl ≤ IntKind.max .u64) (h2 : IntKind.min .u64 ≤ rq ∧ rq ≤ IntKind.max .u64) : lookOk cl rq fr ct = true := by
  unfold lookOk
  rw [u64_rng h1, u64_rng h2, u64_wrap, u64_wrap]; rfl
end Go.Proofs.Ytjbjjikdihghmaa.entry
namespace Go.Proofs.Ytjbjjikdihghmaa.entryWrites
open Go Go.ChangeShapes Go.WideShapes Go.ChangeAt Go.RowKit Go.Proofs.Ytjbjjikdihghmaa.Bm Go.Proofs.Ytjbjjikdihghmaa.entry

theorem own : ownKnob Try.prog.godebug = none := by kernel_rfl
theorem laidOut : laidOutB Try.prog = true := by kernel_rfl
theorem readable : ((Try.f3.params.toList).all fun t => Try.prog.readableRec t && Nat.blt t Try.prog.types.size) = true := by kernel_rfl
theorem fits : argsIs Try.prog [.st [.one (.int .u64), .one (.int .u64), .one (.int .u64), .one (.int .i64), .one (.int .u64), .one (.int .u64), .one (.int .u32), .one (.int .u32), .one .str, .sl shL], .st [.one (.int .i64), .one (.int .i64), .one (.int .u32)]] Try.f3.params.toList = true := by kernel_rfl
set_option maxRecDepth 100000 in
theorem walk {H : Type} {enc : TypeId × Value → H} (W : World) (args : Array Value) (base : Nat) (ds : List (DataW H)) (p : List MemPlace) (hA : DataW.TrodAll enc Try.prog W 0 (fun _ => true) true Try.f3.params.toList args.toList ds p)
    (hval : ∀ (j : Nat) t v, Try.f3.params[j]? = some t → args[j]? = some v → Value.okWide Try.prog W .any base t v) : Calls Try.prog 3 args W fun e W' => e = .returned (.bool true) ∧ Below W.heap.size W W' := by
    obtain ⟨xs, os1, φ', hI, _, h3, h4⟩ := args_ok (base := base) (P := Try.prog) (fun _ => rfl) fits hA (fun j t v h1 h2 => hval j t v (by rw [← Array.getElem?_toList]; exact h1) (by rw [← Array.getElem?_toList]; exact h2)) (RO.nil W)
    obtain ⟨_, _, _, _, rfl, rfl, ⟨_, rfl, hs0⟩, hI⟩ := hI
    obtain ⟨_, _, _, _, rfl, rfl, ⟨⟨x0, rfl, y0⟩, rfl⟩, hs0⟩ := hs0
    obtain ⟨_, _, _, _, rfl, rfl, ⟨⟨x1, rfl, y1⟩, rfl⟩, hs0⟩ := hs0
    obtain ⟨_, _, _, _, rfl, rfl, ⟨⟨x2, rfl, y2⟩, rfl⟩, hs0⟩ := hs0
    obtain ⟨_, _, _, _, rfl, rfl, ⟨⟨x3, rfl, y3⟩, rfl⟩, hs0⟩ := hs0
    obtain ⟨_, _, _, _, rfl, rfl, ⟨⟨x4, rfl, y4⟩, rfl⟩, hs0⟩ := hs0
    obtain ⟨_, _, _, _, rfl, rfl, ⟨⟨x5, rfl, y5⟩, rfl⟩, hs0⟩ := hs0
    obtain ⟨_, _, _, _, rfl, rfl, ⟨⟨x6, rfl, y6⟩, rfl⟩, hs0⟩ := hs0
    obtain ⟨_, _, _, _, rfl, rfl, ⟨⟨x7, rfl, y7⟩, rfl⟩, hs0⟩ := hs0
    obtain ⟨_, _, _, _, rfl, rfl, ⟨⟨x8, rfl, y8⟩, rfl⟩, hs0⟩ := hs0
    obtain ⟨_, _, _, _, rfl, rfl, ⟨nlx9, x9, fx9, rfl, rfl, hnx9, hlx9, y9⟩, hs0⟩ := hs0
    obtain ⟨rfl, rfl⟩ := hs0
    obtain ⟨_, _, _, _, rfl, rfl, ⟨_, rfl, hs1⟩, hI⟩ := hI
    obtain ⟨_, _, _, _, rfl, rfl, ⟨⟨x10, rfl, y10⟩, rfl⟩, hs1⟩ := hs1
    obtain ⟨_, _, _, _, rfl, rfl, ⟨⟨x11, rfl, y11⟩, rfl⟩, hs1⟩ := hs1
    obtain ⟨_, _, _, _, rfl, rfl, ⟨⟨x12, rfl, y12⟩, rfl⟩, hs1⟩ := hs1
    obtain ⟨rfl, rfl⟩ := hs1
    obtain ⟨rfl, rfl⟩ := hI
    have hl := k3_true x0 x1 x2 x3 x4 x5 x6 x7 x8 x10 x11 x12 nlx9 x9 fx9 y8.1 (u64_rng y0) (u64_rng y1) (u64_rng y2) (look_rng y4 y5) (okFrom_iff.2 fun j hj => by
      rw [Nat.zero_add]
      exact look_rng (y9 j hj 0 (.int .u64) rfl) (y9 j hj 1 (.int .u64) rfl))
    have := law_T g15 h4.rel h3 hl
    simpa using this
set_option maxRecDepth 100000 in
theorem lifted (os : Os) (started : os.Started) (H : Type) (enc : TypeId × Value → H) :
    ReturnsInHanded {} Try.checked os 3 .any (Rows.entryWritesSpec.pre6 enc Try.prog Try.f3 Rows.entryWritesRow.domain false) (Rows.entryWritesSpec.post enc Try.prog Try.f3 false true false false) := by
  refine returnsInHanded_of_change_sized (C := Try.checked) own started (by kernel_rfl) Try.func3
    (ChangeSpec.witness6 (enc := enc) (C := Try.checked) false ⟨#[], #[.agg #[.int .u64 0, .int .u64 0, .int .u64 0, .int .i64 0, .int .u64 0, .int .u64 0, .int .u32 0, .int .u32 0, .string ⟨#[]⟩, .slice none 0 0], .agg #[.int .i64 0, .int .i64 0, .int .u32 0]], []⟩ 8 (by kernel_rfl) (by kernel_rfl) (by kernel_rfl) (by kernel_rfl)) ?_
  intro W base args ds gs before hval0 hW hcnd hsz0 _
  have hW' := hW
  obtain ⟨p, q, hA0, hV, rfl, hfz, hnd⟩ := hW
  have hA : DataW.TrodAll enc Try.prog W 0 (fun _ => true) true Try.f3.params.toList args.toList ds p := hA0
  obtain ⟨rfl, rfl⟩ := trodVars_none hV
  obtain ⟨d1, d2, rfl⟩ : ∃ d1 d2, ds = [d1, d2] := by
    have hA := hA
    obtain ⟨_, _, d1, ds1, _, _, _, rfl, _, _, hA⟩ := trodAll_cons hA
    obtain ⟨_, _, d2, ds2, _, _, _, rfl, _, _, hA⟩ := trodAll_cons hA
    obtain ⟨_, rfl, _⟩ := trodAll_nil hA
    exact ⟨d1, d2, rfl⟩
  refine (walk W args base _ p hA hval0).mono fun e W' ⟨he, bel⟩ => ?_
  subst he
  exact ⟨_, rfl, _, _, _, [], _, [], hW', trodAll_mk1 (shut_bool Try.underlying4 _), trods_below (ts := []) laidOut bel readable hA, rfl, bel.frame _, fun h => by cases h⟩
theorem over : Rows.entryWritesRow.holds Try.pinned (OpenSpec.ofChange Rows.entryWritesSpec) :=
  OpenClaim.holds_of_wide 3 Try.f3 rfl rfl rfl rfl rfl rfl rfl ⟨rfl, rfl, rfl, rfl, rfl⟩ rfl rfl rfl rfl rfl (by kernel_rfl) Try.func3 (by kernel_rfl)
    (of_decide_eq_true (by kernel_rfl)) (by unfold Func.isWrapper; first | (rw [if_pos (by decide +kernel)]; kernel_rfl) | (rw [if_neg (by decide +kernel)]; exact ⟨rfl, rfl⟩))
    (fun os started H enc _ => lifted os started H enc)
theorem proved : Rows.EntryWritesSaid := over
#print axioms proved
end Go.Proofs.Ytjbjjikdihghmaa.entryWrites
