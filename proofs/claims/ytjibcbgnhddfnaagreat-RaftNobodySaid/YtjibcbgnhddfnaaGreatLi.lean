/- Light of events: the loop over items. -/
import Derived.Test.YtjibcbgnhddfnaaGreatRows
import Derived.Test.YtjibcbgnhddfnaaGreatBmVo
import Derived.KernelRfl
set_option linter.unusedSimpArgs false
set_option linter.unusedVariables false
set_option maxRecDepth 20000
namespace Go.Proofs.YtjibcbgnhddfnaaGreat.raftNobody
open Go Go.RowKit Go.Proofs.YtjibcbgnhddfnaaGreat.Bm
noncomputable def E0 : Env := mkEnv Tryz.prog 221 189
abbrev shI : List Sh := [.int .u64, .int .i64, .str]
abbrev shK : List Sh := [.int .i64]
def h16 : Pat := ⟨54, [(0, .keep), (7, .keep), (8, .keep), (9, .keep), (39, .asl shI), (40, .keep), (41, .keep)], []⟩
def x16 : List (Ex × Pat) := [(.exit 2, ⟨54, [(0, .keep), (7, .keep), (8, .keep), (9, .keep)], []⟩), (.ret, ⟨54, [(2, .keep)], []⟩)]
def c16 (v0 v1 v2 v3 v4 v5 v6 v7 v8 v9 : Int) (v10 : Bool) (v11 : Int) (v12 v14 : List Nat) (nk : Bool) (k : Nat) (g : Nat → Nat → AV) (rk : Bool) (a b : Int) (nl : Bool) (n : Nat) (f : Nat → Nat → AV) (rw : Bool) (i : Int) : CS :=
  ⟨[.slice 0 0 1 1 16 false, .slice 0 0 1 1 16 false, .int .i64 a, .int .i64 b, .osl nl 1 0 n n 3 true, .int .i64 (n : Nat), .int .i64 i], [some (.cells [.int .i64 v0, .int .i64 v1, .int .i64 v2, .int .i64 v3, .int .i64 v4, .int .u64 v5, .int .u64 v6, .int .u64 v7, .int .u64 v8, .int .u64 v9, .bool v10, .int .u64 v11, .str v12, .osl nl 1 0 n n 3 true, .str v14, .osl nk 2 0 k k 1 true] true), some (.tarr shI n f rw), some (.tarr shK k g rk)]⟩
def d16 (v0 v1 v2 v3 v4 v5 v6 v7 v8 v9 : Int) (v10 : Bool) (v11 : Int) (v12 v14 : List Nat) (nk : Bool) (k : Nat) (g : Nat → Nat → AV) (rk : Bool) (a b : Int) (nl : Bool) (n : Nat) (f : Nat → Nat → AV) (rw : Bool) : CS :=
  ⟨[.slice 0 0 1 1 16 false, .slice 0 0 1 1 16 false, .int .i64 a, .int .i64 b], [some (.cells [.int .i64 v0, .int .i64 v1, .int .i64 v2, .int .i64 v3, .int .i64 v4, .int .u64 v5, .int .u64 v6, .int .u64 v7, .int .u64 v8, .int .u64 v9, .bool v10, .int .u64 v11, .str v12, .osl nl 1 0 n n 3 true, .str v14, .osl nk 2 0 k k 1 true] true), some (.tarr shI n f rw), some (.tarr shK k g rk)]⟩
theorem okE : ∃ q : (Nat → Nat → AV) → Nat → Bool, q = fun f n => okFrom (fun i => !decide (((AV.toS (f i 2)).length : Int) > 1000)) 0 n := ⟨_, rfl⟩
/-- Are all texts short (not unfolded by the kernel). -/
noncomputable def okL : (Nat → Nat → AV) → Nat → Bool := Classical.choose okE
noncomputable def r16 (c : CS) : T (Nat × CS) := match c with
  | ⟨[.slice 0 0 1 1 16 false, .slice 0 0 1 1 16 false, .int .i64 a, .int .i64 b, .osl nl 1 0 n z 3 true, .int .i64 (.ofNat n2), .int .i64 i], [some (.cells [.int .i64 v0, .int .i64 v1, .int .i64 v2, .int .i64 v3, .int .i64 v4, .int .u64 v5, .int .u64 v6, .int .u64 v7, .int .u64 v8, .int .u64 v9, .bool v10, .int .u64 v11, .str v12, .osl nl3 1 0 n3 z3 3 true, .str v14, .osl nk 2 0 k zk 1 true] true), some (.tarr sh m f rw), some (.tarr shk mk g rk)]⟩ =>
    chkT [decide (z = n), decide (n2 = n), decide (i = 0), shBeq sh shI, decide (m = n), Nat.ble n 1000000, decide (nl3 = nl), decide (n3 = n), decide (z3 = n), decide (zk = k), shBeq shk shK, decide (mk = k)] (.ask (okL f n) (.ret (1, d16 v0 v1 v2 v3 v4 v5 v6 v7 v8 v9 v10 v11 v12 v14 nk k g rk a b nl n f rw)) (.ret (2, ⟨[.bool false], []⟩)))
  | _ => .fail
noncomputable def EL : Env := addL E0 16 2 1000000 h16 x16 0 r16
noncomputable def s16 (v0 v1 v2 v3 v4 v5 v6 v7 v8 v9 : Int) (v10 : Bool) (v11 : Int) (v12 v14 : List Nat) (nk : Bool) (k : Nat) (g : Nat → Nat → AV) (rk : Bool) (a b : Int) (nl : Bool) (n : Nat) (f : Nat → Nat → AV) (rw : Bool) (i : Nat) (π : Plan) : Option (Nat × CS) := stepC (E0) (300) (loopC E0 16 2) (0) (h16) ((.normal, h16) :: x16) π (c16 v0 v1 v2 v3 v4 v5 v6 v7 v8 v9 v10 v11 v12 v14 nk k g rk a b nl n f rw i)
def s16_p : Plan := (.fork (.reck 1 (.must true (.fork (.fork .stop .stop) .stop))) .stop)
theorem s16_is (v0 : Int) (v1 : Int) (v2 : Int) (v3 : Int) (v4 : Int) (v5 : Int) (v6 : Int) (v7 : Int) (v8 : Int) (v9 : Int) (v10 : Bool) (v11 : Int) (v12 : List Nat) (v14 : List Nat) (nk : Bool) (k : Nat) (g : Nat → Nat → AV) (rk : Bool) (a : Int) (b : Int) (nl : Bool) (n : Nat) (f : Nat → Nat → AV) (rw : Bool) (i : Nat) : s16 v0 v1 v2 v3 v4 v5 v6 v7 v8 v9 v10 v11 v12 v14 nk k g rk a b nl n f rw i s16_p = (cond (decide ((↑i : Int) < (↑n : Int)))
  (cond (decide ((↑i : Int) < (↑n : Int))) (cond (Nat.blt (0 + Int.toNat (↑i : Int)) n)
  (cond (decide ((↑(List.length (AV.toS (f (0 + Int.toNat (↑i : Int)) (Nat.succ (Nat.succ 0))))) : Int) > 1000))
  (some (2, (CS.mk [(AV.bool (false))] [])))
  (some (0, (CS.mk [(AV.slice (0) (0) (1) (1) (16) (false)), (AV.slice (0) (0) (1) (1) (16) (false)), (AV.int IntKind.i64 (a)), (AV.int IntKind.i64 (b)), (AV.osl (nl) (1) (0) (n) (n) (3) (true)), (AV.int IntKind.i64 ((↑n : Int))), (AV.int IntKind.i64 (IntKind.wrap IntKind.i64 ((↑i : Int) + 1)))] [some (AObj.cells [(AV.int IntKind.i64 (v0)), (AV.int IntKind.i64 (v1)), (AV.int IntKind.i64 (v2)), (AV.int IntKind.i64 (v3)), (AV.int IntKind.i64 (v4)), (AV.int IntKind.u64 (v5)), (AV.int IntKind.u64 (v6)), (AV.int IntKind.u64 (v7)), (AV.int IntKind.u64 (v8)), (AV.int IntKind.u64 (v9)), (AV.bool (v10)), (AV.int IntKind.u64 (v11)), (AV.str (v12)), (AV.osl (nl) (1) (0) (n) (n) (3) (true)), (AV.str (v14)), (AV.osl (nk) (2) (0) (k) (k) (1) (true))] true), some (AObj.tarr [Sh.int IntKind.u64, Sh.int IntKind.i64, Sh.str] (n) f rw), some (AObj.tarr [Sh.int IntKind.i64] (k) g rk)]))))
  none) none)
  (some (1, (CS.mk [(AV.slice (0) (0) (1) (1) (16) (false)), (AV.slice (0) (0) (1) (1) (16) (false)), (AV.int IntKind.i64 (a)), (AV.int IntKind.i64 (b))] [some (AObj.cells [(AV.int IntKind.i64 (v0)), (AV.int IntKind.i64 (v1)), (AV.int IntKind.i64 (v2)), (AV.int IntKind.i64 (v3)), (AV.int IntKind.i64 (v4)), (AV.int IntKind.u64 (v5)), (AV.int IntKind.u64 (v6)), (AV.int IntKind.u64 (v7)), (AV.int IntKind.u64 (v8)), (AV.int IntKind.u64 (v9)), (AV.bool (v10)), (AV.int IntKind.u64 (v11)), (AV.str (v12)), (AV.osl (nl) (1) (0) (n) (n) (3) (true)), (AV.str (v14)), (AV.osl (nk) (2) (0) (k) (k) (1) (true))] true), some (AObj.tarr [Sh.int IntKind.u64, Sh.int IntKind.i64, Sh.str] (n) f rw), some (AObj.tarr [Sh.int IntKind.i64] (k) g rk)])))) := by kernel_rfl
theorem s16_eq (v0 : Int) (v1 : Int) (v2 : Int) (v3 : Int) (v4 : Int) (v5 : Int) (v6 : Int) (v7 : Int) (v8 : Int) (v9 : Int) (v10 : Bool) (v11 : Int) (v12 : List Nat) (v14 : List Nat) (nk : Bool) (k : Nat) (g : Nat → Nat → AV) (rk : Bool) (a : Int) (b : Int) (nl : Bool) (n : Nat) (f : Nat → Nat → AV) (rw : Bool) (i : Nat) : s16 v0 v1 v2 v3 v4 v5 v6 v7 v8 v9 v10 v11 v12 v14 nk k g rk a b nl n f rw i s16_p = (cond (decide ((↑i : Int) < (↑n : Int)))
  (cond (Nat.blt (0 + Int.toNat (↑i : Int)) n)
  (cond (decide ((↑(List.length (AV.toS (f (0 + Int.toNat (↑i : Int)) (Nat.succ (Nat.succ 0))))) : Int) > 1000))
  (some (2, (CS.mk [(AV.bool (false))] [])))
  (some (0, (CS.mk [(AV.slice (0) (0) (1) (1) (16) (false)), (AV.slice (0) (0) (1) (1) (16) (false)), (AV.int IntKind.i64 (a)), (AV.int IntKind.i64 (b)), (AV.osl (nl) (1) (0) (n) (n) (3) (true)), (AV.int IntKind.i64 ((↑n : Int))), (AV.int IntKind.i64 (IntKind.wrap IntKind.i64 ((↑i : Int) + 1)))] [some (AObj.cells [(AV.int IntKind.i64 (v0)), (AV.int IntKind.i64 (v1)), (AV.int IntKind.i64 (v2)), (AV.int IntKind.i64 (v3)), (AV.int IntKind.i64 (v4)), (AV.int IntKind.u64 (v5)), (AV.int IntKind.u64 (v6)), (AV.int IntKind.u64 (v7)), (AV.int IntKind.u64 (v8)), (AV.int IntKind.u64 (v9)), (AV.bool (v10)), (AV.int IntKind.u64 (v11)), (AV.str (v12)), (AV.osl (nl) (1) (0) (n) (n) (3) (true)), (AV.str (v14)), (AV.osl (nk) (2) (0) (k) (k) (1) (true))] true), some (AObj.tarr [Sh.int IntKind.u64, Sh.int IntKind.i64, Sh.str] (n) f rw), some (AObj.tarr [Sh.int IntKind.i64] (k) g rk)]))))
  none)
  (some (1, (CS.mk [(AV.slice (0) (0) (1) (1) (16) (false)), (AV.slice (0) (0) (1) (1) (16) (false)), (AV.int IntKind.i64 (a)), (AV.int IntKind.i64 (b))] [some (AObj.cells [(AV.int IntKind.i64 (v0)), (AV.int IntKind.i64 (v1)), (AV.int IntKind.i64 (v2)), (AV.int IntKind.i64 (v3)), (AV.int IntKind.i64 (v4)), (AV.int IntKind.u64 (v5)), (AV.int IntKind.u64 (v6)), (AV.int IntKind.u64 (v7)), (AV.int IntKind.u64 (v8)), (AV.int IntKind.u64 (v9)), (AV.bool (v10)), (AV.int IntKind.u64 (v11)), (AV.str (v12)), (AV.osl (nl) (1) (0) (n) (n) (3) (true)), (AV.str (v14)), (AV.osl (nk) (2) (0) (k) (k) (1) (true))] true), some (AObj.tarr [Sh.int IntKind.u64, Sh.int IntKind.i64, Sh.str] (n) f rw), some (AObj.tarr [Sh.int IntKind.i64] (k) g rk)])))) := by
  rw [s16_is]
  try simp only [eq_self, decide_true, beq_self_eq_true, Nat.beq_refl, ble_self, Int.le_refl, Nat.le_refl]
  cases (decide ((↑i : Int) < (↑n : Int))) with
  | true =>
    cases (Nat.blt (0 + Int.toNat (↑i : Int)) n) with
    | true =>
      cases (decide ((↑(List.length (AV.toS (f (0 + Int.toNat (↑i : Int)) (Nat.succ (Nat.succ 0))))) : Int) > 1000)) with
      | true =>
        rfl
      | false =>
        rfl
    | false =>
      rfl
  | false =>
    rfl

theorem okL_eq (f : Nat → Nat → AV) (n : Nat) : okL f n = okFrom (fun i => !decide (((AV.toS (f i 2)).length : Int) > 1000)) 0 n := by
  rw [show okL = _ from Classical.choose_spec okE]
theorem r16_inv {c : CS} {r : Nat × CS} (h : (r16 c).run = some r) : ∃ (v0 v1 v2 v3 v4 v5 v6 v7 v8 v9 : Int) (v10 : Bool) (v11 : Int) (v12 v14 : List Nat) (nk : Bool) (k : Nat) (g : Nat → Nat → AV) (rk : Bool) (a b : Int) (nl : Bool) (n : Nat) (f : Nat → Nat → AV) (rw : Bool), c = c16 v0 v1 v2 v3 v4 v5 v6 v7 v8 v9 v10 v11 v12 v14 nk k g rk a b nl n f rw 0 ∧ n ≤ 1000000 ∧ r = cond (okL f n) (1, d16 v0 v1 v2 v3 v4 v5 v6 v7 v8 v9 v10 v11 v12 v14 nk k g rk a b nl n f rw) (2, ⟨[.bool false], []⟩) := by
  unfold r16 at h
  split at h
  · rename_i a b nl n z n2 i v0 v1 v2 v3 v4 v5 v6 v7 v8 v9 v10 v11 v12 nl3 n3 z3 v14 nk k zk sh m f rw shk mk g rk
    obtain ⟨hc, hb⟩ := chkT_run h
    have h0 := of_decide_eq_true (hc 0 _ rfl)
    have h1 := of_decide_eq_true (hc 1 _ rfl)
    have h2 := of_decide_eq_true (hc 2 _ rfl)
    have h3 := (shBeq_eq (hc 3 _ rfl)).symm
    have h4 := of_decide_eq_true (hc 4 _ rfl)
    have h5 := Nat.le_of_ble_eq_true (hc 5 _ rfl)
    have h6 := of_decide_eq_true (hc 6 _ rfl)
    have h7 := of_decide_eq_true (hc 7 _ rfl)
    have h8 := of_decide_eq_true (hc 8 _ rfl)
    have h9 := of_decide_eq_true (hc 9 _ rfl)
    have h10 := (shBeq_eq (hc 10 _ rfl)).symm
    have h11 := of_decide_eq_true (hc 11 _ rfl)
    subst h3; subst h2; subst h0; subst h1; subst h4; subst h6; subst h7; subst h8; subst h9; subst h10; subst h11
    refine ⟨v0, v1, v2, v3, v4, v5, v6, v7, v8, v9, v10, v11, v12, v14, nk, _, g, rk, a, b, _, _, f, rw, rfl, h5, ?_⟩
    cases hk : okL f _ with
    | true => rw [hk] at hb; simpa [T.run] using hb.symm
    | false => rw [hk] at hb; simpa [T.run] using hb.symm
  · cases h
theorem i16 (c : CS) (r : Nat × CS) (h : (r16 c).run = some r) : ∃ it, iterC (stepC E0 300 (loopC E0 16 2) 0 h16 ((.normal, h16) :: x16) s16_p) it c = some r := by
  obtain ⟨v0, v1, v2, v3, v4, v5, v6, v7, v8, v9, v10, v11, v12, v14, nk, k, g, rk, a, b, nl, n, f, rw_, rfl, hn, rfl⟩ := r16_inv h
  rw [okL_eq]
  refine iter_scan (C := fun i => c16 v0 v1 v2 v3 v4 v5 v6 v7 v8 v9 v10 v11 v12 v14 nk k g rk a b nl n f rw_ i) (q := fun i => !decide (((AV.toS (f i 2)).length : Int) > 1000)) (by simp) (by simp) (fun i hi => ?_) ?_
  · have e := s16_eq v0 v1 v2 v3 v4 v5 v6 v7 v8 v9 v10 v11 v12 v14 nk k g rk a b nl n f rw_ i
    rw [decide_eq_true (show (i : Int) < (n : Int) by omega), show 0 + Int.toNat (i : Int) = i by simp, show Nat.blt i n = true by rw [blt_iff]; exact decide_eq_true hi, wrap_i64s (by omega)] at e
    simp only [cond_true] at e
    refine Eq.trans e ?_
    cases decide (((AV.toS (f i 2)).length : Int) > 1000) <;> rfl
  · have e := s16_eq v0 v1 v2 v3 v4 v5 v6 v7 v8 v9 v10 v11 v12 v14 nk k g rk a b nl n f rw_ n
    rw [decide_eq_false (show ¬ (n : Int) < (n : Int) by omega)] at e
    exact e
theorem g0 : Bm.Good Tryz.prog E0 := good0 (by kernel_rfl) (by kernel_rfl) (by kernel_rfl)
theorem gL : Bm.Good Tryz.prog EL := g0.addL (by kernel_rfl) rfl (by decide) (by decide) rfl i16
end Go.Proofs.YtjibcbgnhddfnaaGreat.raftNobody
