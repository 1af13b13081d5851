/- Reads of a blank device: definitions, and one turn of each loop. -/
import Derived.Test.YtdgplkcobpikiaaGreatRows
import Derived.Test.YtdgplkcobpikiaaGreatBmVo
import Derived.KernelRfl
set_option linter.unusedSimpArgs false
set_option linter.unusedVariables false
set_option maxRecDepth 20000
namespace Go.Proofs.YtdgplkcobpikiaaGreat.raftOpen
open Go Go.RowKit Go.Proofs.YtdgplkcobpikiaaGreat.Bm
noncomputable def E0 : Env := mkEnv Tryz.prog 237 205
noncomputable def E1 : Env := { E0 with tyd := fun t => Nat.beq t 98 || Nat.beq t 5, bits := bitsR }
abbrev shB : List Sh := [.int .u8]
def zf (_ _ : Nat) : AV := .int .u8 0
def h86 : Pat := ⟨20, [(0, .asl shB), (2, .keep)], []⟩
def x86 : List (Ex × Pat) := [(.exit 0, ⟨20, [(2, .keep)], []⟩)]
def h85 : Pat := ⟨39, [(0, .keep), (1, .keep), (9, .asl shB), (25, .keep), (26, .keep)], []⟩
def x85 : List (Ex × Pat) := [(.exit 0, ⟨39, [(0, .keep), (9, .asl shB)], []⟩)]
def c86 (nl : Bool) (o : Nat) (n : Nat) (N : Nat) (f : Nat → Nat → AV) (rw : Bool) (m : Int) : CS :=
  ⟨[.osl nl 0 o n n 1 true, .int .u64 m], [some (.tarr shB N f rw)]⟩
def c85 (s k d : Int) (t : Nat) (at_ n : Int) (l : Nat) (f : Nat → Nat → AV) (i : Int) : CS :=
  ⟨[.ptr 0 0, .int .i64 at_, .osl false 1 0 l l 1 true, .int .i64 n, .int .i64 i], [some (.cells [.int .i64 s, .map 2, .nilSlice, .bool false, .int .i64 k, .int .i64 d] true), some (.tarr shB l f true), some (.map [] t)]⟩
noncomputable def r85 (c : CS) : T (Nat × CS) := match c with
  | ⟨[.ptr 0 0, .int .i64 at_, .osl false 1 0 l z1 1 true, .int .i64 (.ofNat n), .int .i64 i], [some (.cells [.int .i64 s, .map 2, .nilSlice, .bool false, .int .i64 k, .int .i64 d] true), some (.tarr sh l2 f true), some (.map [] t)]⟩ =>
    chkT [decide (z1 = l), decide (l = 0), decide (i = 0), shBeq sh shB, Nat.ble n 1000] (.ret (1, ⟨[.ptr 0 0, .osl false 1 0 (64 * n) (64 * n) 1 true], [some (.cells [.int .i64 s, .map 2, .nilSlice, .bool false, .int .i64 k, .int .i64 d] true), some (.tarr shB (64 * n) zf true), some (.map [] t)]⟩))
  | _ => .fail
noncomputable def r86 (c : CS) : T (Nat × CS) := match c with
  | ⟨[.osl nl 0 o n z 1 true, .int .u64 m], [some (.tarr sh N f rw)]⟩ =>
    chkT [decide (nl = false), decide (o = 0), decide (z = n), decide (m = 0), shBeq sh shB, decide (N = n), okFrom (fun i => decide ((f i 0).toI = 0)) 0 n] (.ret (1, ⟨[.int .u64 0], [some (.tarr shB n zf rw)]⟩))
  | _ => .fail
noncomputable def E2 : Env := addL E1 100 0 1000000 h85 x85 1 r85
noncomputable def E3 : Env := addL E2 101 0 1000001 h86 x86 1 r86
noncomputable def s85 (s : Int) (k : Int) (d : Int) (t : Nat) (at_ : Int) (n : Int) (l : Nat) (i : Int) (π : Plan) : Option (Nat × CS) := stepC (E1) (400) (loopC E1 100 0) (1) (h85) ((.normal, h85) :: x85) π (c85 s k d t at_ n l zf i)
def s85_p : Plan := (.fork (.reck 65 (.must true (.reck 1 (.must false (.fork (.fork .stop .stop) .stop))))) .stop)
theorem s85_is (s : Int) (k : Int) (d : Int) (t : Nat) (at_ : Int) (n : Int) (l : Nat) (i : Int) : s85 s k d t at_ n l i s85_p = (cond (decide (i < n))
  (cond (decide (IntKind.wrap IntKind.i64 (at_ + i) = IntKind.wrap IntKind.i64 (at_ + i))) (cond (Nat.ble ((l) + (64)) (l)) none (cond (growB (1) (l + (64 - 0)))
  (cond (Nat.ble (0 + l) l)
  (some (0, (CS.mk [(AV.ptr (0) (0)), (AV.int IntKind.i64 (at_)), (AV.osl (false) (1) (0) (l + (64 - 0)) (l + (64 - 0)) (1) (true)), (AV.int IntKind.i64 (n)), (AV.int IntKind.i64 (IntKind.wrap IntKind.i64 (i + 1)))] [some (AObj.cells [(AV.int IntKind.i64 (s)), (AV.map (2)), AV.nilSlice, (AV.bool (false)), (AV.int IntKind.i64 (k)), (AV.int IntKind.i64 (d))] true), some (AObj.tarr [Sh.int IntKind.u8] (l + (64 - 0)) (fjoin (fun p_ q_ => (zf) (0 + p_) q_) (l) (rowsOf (1) [(AV.int IntKind.u8 (0)), (AV.int IntKind.u8 (0)), (AV.int IntKind.u8 (0)), (AV.int IntKind.u8 (0)), (AV.int IntKind.u8 (0)), (AV.int IntKind.u8 (0)), (AV.int IntKind.u8 (0)), (AV.int IntKind.u8 (0)), (AV.int IntKind.u8 (0)), (AV.int IntKind.u8 (0)), (AV.int IntKind.u8 (0)), (AV.int IntKind.u8 (0)), (AV.int IntKind.u8 (0)), (AV.int IntKind.u8 (0)), (AV.int IntKind.u8 (0)), (AV.int IntKind.u8 (0)), (AV.int IntKind.u8 (0)), (AV.int IntKind.u8 (0)), (AV.int IntKind.u8 (0)), (AV.int IntKind.u8 (0)), (AV.int IntKind.u8 (0)), (AV.int IntKind.u8 (0)), (AV.int IntKind.u8 (0)), (AV.int IntKind.u8 (0)), (AV.int IntKind.u8 (0)), (AV.int IntKind.u8 (0)), (AV.int IntKind.u8 (0)), (AV.int IntKind.u8 (0)), (AV.int IntKind.u8 (0)), (AV.int IntKind.u8 (0)), (AV.int IntKind.u8 (0)), (AV.int IntKind.u8 (0)), (AV.int IntKind.u8 (0)), (AV.int IntKind.u8 (0)), (AV.int IntKind.u8 (0)), (AV.int IntKind.u8 (0)), (AV.int IntKind.u8 (0)), (AV.int IntKind.u8 (0)), (AV.int IntKind.u8 (0)), (AV.int IntKind.u8 (0)), (AV.int IntKind.u8 (0)), (AV.int IntKind.u8 (0)), (AV.int IntKind.u8 (0)), (AV.int IntKind.u8 (0)), (AV.int IntKind.u8 (0)), (AV.int IntKind.u8 (0)), (AV.int IntKind.u8 (0)), (AV.int IntKind.u8 (0)), (AV.int IntKind.u8 (0)), (AV.int IntKind.u8 (0)), (AV.int IntKind.u8 (0)), (AV.int IntKind.u8 (0)), (AV.int IntKind.u8 (0)), (AV.int IntKind.u8 (0)), (AV.int IntKind.u8 (0)), (AV.int IntKind.u8 (0)), (AV.int IntKind.u8 (0)), (AV.int IntKind.u8 (0)), (AV.int IntKind.u8 (0)), (AV.int IntKind.u8 (0)), (AV.int IntKind.u8 (0)), (AV.int IntKind.u8 (0)), (AV.int IntKind.u8 (0)), (AV.int IntKind.u8 (0))] (64))) true), some (AObj.map [] (t))])))
  none)
  none)) none)
  (some (1, (CS.mk [(AV.ptr (0) (0)), (AV.osl (false) (1) (0) (l) (l) (1) (true))] [some (AObj.cells [(AV.int IntKind.i64 (s)), (AV.map (2)), AV.nilSlice, (AV.bool (false)), (AV.int IntKind.i64 (k)), (AV.int IntKind.i64 (d))] true), some (AObj.tarr [Sh.int IntKind.u8] (l) (zf) true), some (AObj.map [] (t))])))) := by kernel_rfl
theorem s85_eq (s : Int) (k : Int) (d : Int) (t : Nat) (at_ : Int) (n : Int) (l : Nat) (i : Int) : s85 s k d t at_ n l i s85_p = (cond (decide (i < n))
  (cond (Nat.ble ((l) + (64)) (l)) none (cond (growB (1) (l + (64 - 0)))
  (cond (Nat.ble (0 + l) l)
  (some (0, (CS.mk [(AV.ptr (0) (0)), (AV.int IntKind.i64 (at_)), (AV.osl (false) (1) (0) (l + (64 - 0)) (l + (64 - 0)) (1) (true)), (AV.int IntKind.i64 (n)), (AV.int IntKind.i64 (IntKind.wrap IntKind.i64 (i + 1)))] [some (AObj.cells [(AV.int IntKind.i64 (s)), (AV.map (2)), AV.nilSlice, (AV.bool (false)), (AV.int IntKind.i64 (k)), (AV.int IntKind.i64 (d))] true), some (AObj.tarr [Sh.int IntKind.u8] (l + (64 - 0)) (fjoin (fun p_ q_ => (zf) (0 + p_) q_) (l) (rowsOf (1) [(AV.int IntKind.u8 (0)), (AV.int IntKind.u8 (0)), (AV.int IntKind.u8 (0)), (AV.int IntKind.u8 (0)), (AV.int IntKind.u8 (0)), (AV.int IntKind.u8 (0)), (AV.int IntKind.u8 (0)), (AV.int IntKind.u8 (0)), (AV.int IntKind.u8 (0)), (AV.int IntKind.u8 (0)), (AV.int IntKind.u8 (0)), (AV.int IntKind.u8 (0)), (AV.int IntKind.u8 (0)), (AV.int IntKind.u8 (0)), (AV.int IntKind.u8 (0)), (AV.int IntKind.u8 (0)), (AV.int IntKind.u8 (0)), (AV.int IntKind.u8 (0)), (AV.int IntKind.u8 (0)), (AV.int IntKind.u8 (0)), (AV.int IntKind.u8 (0)), (AV.int IntKind.u8 (0)), (AV.int IntKind.u8 (0)), (AV.int IntKind.u8 (0)), (AV.int IntKind.u8 (0)), (AV.int IntKind.u8 (0)), (AV.int IntKind.u8 (0)), (AV.int IntKind.u8 (0)), (AV.int IntKind.u8 (0)), (AV.int IntKind.u8 (0)), (AV.int IntKind.u8 (0)), (AV.int IntKind.u8 (0)), (AV.int IntKind.u8 (0)), (AV.int IntKind.u8 (0)), (AV.int IntKind.u8 (0)), (AV.int IntKind.u8 (0)), (AV.int IntKind.u8 (0)), (AV.int IntKind.u8 (0)), (AV.int IntKind.u8 (0)), (AV.int IntKind.u8 (0)), (AV.int IntKind.u8 (0)), (AV.int IntKind.u8 (0)), (AV.int IntKind.u8 (0)), (AV.int IntKind.u8 (0)), (AV.int IntKind.u8 (0)), (AV.int IntKind.u8 (0)), (AV.int IntKind.u8 (0)), (AV.int IntKind.u8 (0)), (AV.int IntKind.u8 (0)), (AV.int IntKind.u8 (0)), (AV.int IntKind.u8 (0)), (AV.int IntKind.u8 (0)), (AV.int IntKind.u8 (0)), (AV.int IntKind.u8 (0)), (AV.int IntKind.u8 (0)), (AV.int IntKind.u8 (0)), (AV.int IntKind.u8 (0)), (AV.int IntKind.u8 (0)), (AV.int IntKind.u8 (0)), (AV.int IntKind.u8 (0)), (AV.int IntKind.u8 (0)), (AV.int IntKind.u8 (0)), (AV.int IntKind.u8 (0)), (AV.int IntKind.u8 (0))] (64))) true), some (AObj.map [] (t))])))
  none)
  none))
  (some (1, (CS.mk [(AV.ptr (0) (0)), (AV.osl (false) (1) (0) (l) (l) (1) (true))] [some (AObj.cells [(AV.int IntKind.i64 (s)), (AV.map (2)), AV.nilSlice, (AV.bool (false)), (AV.int IntKind.i64 (k)), (AV.int IntKind.i64 (d))] true), some (AObj.tarr [Sh.int IntKind.u8] (l) (zf) true), some (AObj.map [] (t))])))) := by
  rw [s85_is]
  try simp only [eq_self, decide_true, beq_self_eq_true, Nat.beq_refl, ble_self, Int.le_refl, Nat.le_refl]
  cases (decide (i < n)) with
  | true =>
    cases (growB (1) (l + (64 - 0))) with
    | true =>
      cases (Nat.ble (0 + l) l) with
      | true =>
        rfl
      | false =>
        rfl
    | false =>
      rfl
  | false =>
    rfl

noncomputable def s86 (o : Nat) (n : Nat) (N : Nat) (rw : Bool) (π : Plan) : Option (Nat × CS) := stepC (E2) (400) (loopC E2 101 0) (1) (h86) ((.normal, h86) :: x86) π (c86 false o n N zf rw 0)
def s86_p : Plan := (.fork (.fork (.fork (.must true .stop) .stop) (.reck 1 (.fork (.reck 5 (.fork (.reck 135 (.fork (.must true (.reck 14 (.fork (.must true (.must true (.must true (.must false (.reck 2 (.fork (.reck 1 (.must true (.must true (.reck 4 (.fork (.reck 4 (.fork (.reck 4 (.fork (.reck 4 (.fork (.reck 4 (.fork (.reck 4 (.fork (.reck 4 (.fork (.reck 4 (.fork (.reck 2 (.must true (.must true (.reck 2 (.must true (.must true (.must true (.must true (.must true (.reck 2 (.must true (.must true (.must true (.must true (.must true (.reck 2 (.must true (.must true (.must true (.must true (.must true (.reck 2 (.must true (.must true (.must true (.reck 1 (.must true (.reck 2 (.must true (.reck 1 (.must true (.fork (.must true .stop) .stop)))))))))))))))))))))))))))))))) .stop)) .stop)) .stop)) .stop)) .stop)) .stop)) .stop)) .stop))))) .stop)))))) (.must false (.must false (.must false (.must true (.reck 2 (.must true (.must true (.reck 2 (.must true (.must true (.must true (.must true (.must true (.reck 2 (.must true (.must true (.must true (.must true (.must true (.reck 2 (.must true (.must true (.must true (.must true (.must true (.reck 2 (.must true (.must true (.must true (.reck 1 (.must true (.reck 2 (.must true (.reck 1 (.must true (.fork (.must true .stop) .stop))))))))))))))))))))))))))))))))))))))) .stop)) .stop)) .stop))) .stop)
theorem s86_is (o : Nat) (n : Nat) (N : Nat) (rw : Bool) : s86 o n N rw s86_p = (cond (decide ((↑n : Int) ≥ 64))
  (cond (decide ((↑n : Int) < 64))
  (cond (Nat.ble (Int.toNat 64) n)
  (cond (Nat.ble n n) (some (0, (CS.mk [(AV.osl (false) (0) (o + Int.toNat 64) (n - Int.toNat 64) (n - Int.toNat 64) (1) (true)), (AV.int IntKind.u64 (0))] [some (AObj.tarr [Sh.int IntKind.u8] (N) (zf) rw)]))) none)
  none)
  (cond (Nat.ble (Int.toNat 8) n)
  (cond (Nat.ble (o + 0 + (Int.toNat 8 - 0)) N)
  (cond (Nat.ble (Int.toNat 56) n)
  (cond (Nat.ble n n) (cond (decide (8 > (↑(n - Int.toNat 56) : Int)) == false)
  (cond (decide (8 > (↑(n - Int.toNat 56) : Int)) == false) (cond (decide (8 > (↑(n - Int.toNat 56) : Int)) == false) (cond (decide (8 > (↑(n - Int.toNat 56) : Int)) == false) (cond (decide (8 > (↑(n - Int.toNat 56) : Int))) none (cond (Nat.ble (Int.toNat 8) (n - Int.toNat 56))
  (cond (Nat.ble (Int.toNat 8) (n - Int.toNat 56)) (cond (Nat.ble (n - Int.toNat 56) (n - Int.toNat 56)) (cond (Nat.blt (o + Int.toNat 56 + 0 + Int.toNat 0) N)
  (cond (Nat.blt (o + Int.toNat 56 + 0 + Int.toNat (IntKind.wrap IntKind.i64 (0 + 1))) N)
  (cond (Nat.blt (o + Int.toNat 56 + 0 + Int.toNat (IntKind.wrap IntKind.i64 (IntKind.wrap IntKind.i64 (0 + 1) + 1))) N)
  (cond (Nat.blt (o + Int.toNat 56 + 0 + Int.toNat (IntKind.wrap IntKind.i64 (IntKind.wrap IntKind.i64 (IntKind.wrap IntKind.i64 (0 + 1) + 1) + 1))) N)
  (cond (Nat.blt (o + Int.toNat 56 + 0 + Int.toNat (IntKind.wrap IntKind.i64 (IntKind.wrap IntKind.i64 (IntKind.wrap IntKind.i64 (IntKind.wrap IntKind.i64 (0 + 1) + 1) + 1) + 1))) N)
  (cond (Nat.blt (o + Int.toNat 56 + 0 + Int.toNat (IntKind.wrap IntKind.i64 (IntKind.wrap IntKind.i64 (IntKind.wrap IntKind.i64 (IntKind.wrap IntKind.i64 (IntKind.wrap IntKind.i64 (0 + 1) + 1) + 1) + 1) + 1))) N)
  (cond (Nat.blt (o + Int.toNat 56 + 0 + Int.toNat (IntKind.wrap IntKind.i64 (IntKind.wrap IntKind.i64 (IntKind.wrap IntKind.i64 (IntKind.wrap IntKind.i64 (IntKind.wrap IntKind.i64 (IntKind.wrap IntKind.i64 (0 + 1) + 1) + 1) + 1) + 1) + 1))) N)
  (cond (Nat.blt (o + Int.toNat 56 + 0 + Int.toNat (IntKind.wrap IntKind.i64 (IntKind.wrap IntKind.i64 (IntKind.wrap IntKind.i64 (IntKind.wrap IntKind.i64 (IntKind.wrap IntKind.i64 (IntKind.wrap IntKind.i64 (IntKind.wrap IntKind.i64 (0 + 1) + 1) + 1) + 1) + 1) + 1) + 1))) N)
  (cond (Nat.ble (Int.toNat 56) n) (cond (Nat.ble n n) (cond (Nat.beq (o + Int.toNat 56) (o + Int.toNat 56)) (cond (Nat.beq (n - Int.toNat 56) (n - Int.toNat 56)) (cond (Nat.beq (n - Int.toNat 56) (n - Int.toNat 56)) (cond (Nat.ble (Int.toNat 56) n) (cond (Nat.ble n n) (cond (Nat.beq (o + Int.toNat 56) (o + Int.toNat 56)) (cond (Nat.beq (n - Int.toNat 56) (n - Int.toNat 56)) (cond (Nat.beq (n - Int.toNat 56) (n - Int.toNat 56)) (cond (Nat.ble (Int.toNat 56) n) (cond (Nat.ble n n) (cond (Nat.beq (o + Int.toNat 56) (o + Int.toNat 56)) (cond (Nat.beq (n - Int.toNat 56) (n - Int.toNat 56)) (cond (Nat.beq (n - Int.toNat 56) (n - Int.toNat 56)) (cond (Nat.ble (Int.toNat 56) n) (cond (Nat.ble n n) (cond (Nat.beq (o + Int.toNat 56) (o + Int.toNat 56)) (cond (Nat.beq (n - Int.toNat 56) (n - Int.toNat 56)) (cond (Nat.beq (n - Int.toNat 56) (n - Int.toNat 56)) (cond (Nat.ble (Int.toNat 8) n) (cond (Nat.beq (o + 0) (o + 0)) (cond (Nat.beq (n - 0) (n - 0)) (cond (Nat.ble (Int.toNat 64) n)
  (cond (Nat.ble n n) (some (0, (CS.mk [(AV.osl (false) (0) (o + Int.toNat 64) (n - Int.toNat 64) (n - Int.toNat 64) (1) (true)), (AV.int IntKind.u64 (0))] [some (AObj.tarr [Sh.int IntKind.u8] (N) (zf) rw)]))) none)
  none) none) none) none) none) none) none) none) none) none) none) none) none) none) none) none) none) none) none) none) none) none) none) none)
  none)
  none)
  none)
  none)
  none)
  none)
  none)
  none) none) none)
  none)) none) none) none)
  (cond (decide (8 > (↑(n - Int.toNat 56) : Int)) == false) none (cond (decide (8 > (↑(n - Int.toNat 56) : Int)) == false) none (cond (decide (8 > (↑(n - Int.toNat 56) : Int)) == false) none (cond (decide (8 > (↑(n - Int.toNat 56) : Int))) (cond (Nat.ble (Int.toNat 56) n) (cond (Nat.ble n n) (cond (Nat.beq (o + Int.toNat 56) (o + Int.toNat 56)) (cond (Nat.beq (n - Int.toNat 56) (n - Int.toNat 56)) (cond (Nat.beq (n - Int.toNat 56) (n - Int.toNat 56)) (cond (Nat.ble (Int.toNat 56) n) (cond (Nat.ble n n) (cond (Nat.beq (o + Int.toNat 56) (o + Int.toNat 56)) (cond (Nat.beq (n - Int.toNat 56) (n - Int.toNat 56)) (cond (Nat.beq (n - Int.toNat 56) (n - Int.toNat 56)) (cond (Nat.ble (Int.toNat 56) n) (cond (Nat.ble n n) (cond (Nat.beq (o + Int.toNat 56) (o + Int.toNat 56)) (cond (Nat.beq (n - Int.toNat 56) (n - Int.toNat 56)) (cond (Nat.beq (n - Int.toNat 56) (n - Int.toNat 56)) (cond (Nat.ble (Int.toNat 56) n) (cond (Nat.ble n n) (cond (Nat.beq (o + Int.toNat 56) (o + Int.toNat 56)) (cond (Nat.beq (n - Int.toNat 56) (n - Int.toNat 56)) (cond (Nat.beq (n - Int.toNat 56) (n - Int.toNat 56)) (cond (Nat.ble (Int.toNat 8) n) (cond (Nat.beq (o + 0) (o + 0)) (cond (Nat.beq (n - 0) (n - 0)) (cond (Nat.ble (Int.toNat 64) n)
  (cond (Nat.ble n n) (some (0, (CS.mk [(AV.osl (false) (0) (o + Int.toNat 64) (n - Int.toNat 64) (n - Int.toNat 64) (1) (true)), (AV.int IntKind.u64 (0))] [some (AObj.tarr [Sh.int IntKind.u8] (N) (zf) rw)]))) none)
  none) none) none) none) none) none) none) none) none) none) none) none) none) none) none) none) none) none) none) none) none) none) none) none) none))))) none)
  none)
  none)
  none))
  (some (1, (CS.mk [(AV.int IntKind.u64 (0))] [some (AObj.tarr [Sh.int IntKind.u8] (N) (zf) rw)])))) := by kernel_rfl
theorem s86_eq (o : Nat) (n : Nat) (N : Nat) (rw : Bool) : s86 o n N rw s86_p = (cond (decide ((↑n : Int) ≥ 64))
  (cond (decide ((↑n : Int) < 64))
  (cond (Nat.ble (Int.toNat 64) n)
  (some (0, (CS.mk [(AV.osl (false) (0) (o + Int.toNat 64) (n - Int.toNat 64) (n - Int.toNat 64) (1) (true)), (AV.int IntKind.u64 (0))] [some (AObj.tarr [Sh.int IntKind.u8] (N) (zf) rw)])))
  none)
  (cond (Nat.ble (Int.toNat 8) n)
  (cond (Nat.ble (o + 0 + (Int.toNat 8 - 0)) N)
  (cond (Nat.ble (Int.toNat 56) n)
  (cond (decide (8 > (↑(n - Int.toNat 56) : Int)))
  (cond (Nat.ble (Int.toNat 64) n)
  (some (0, (CS.mk [(AV.osl (false) (0) (o + Int.toNat 64) (n - Int.toNat 64) (n - Int.toNat 64) (1) (true)), (AV.int IntKind.u64 (0))] [some (AObj.tarr [Sh.int IntKind.u8] (N) (zf) rw)])))
  none)
  (cond (Nat.ble (Int.toNat 8) (n - Int.toNat 56))
  (cond (Nat.blt (o + Int.toNat 56 + 0 + Int.toNat 0) N)
  (cond (Nat.blt (o + Int.toNat 56 + 0 + Int.toNat (IntKind.wrap IntKind.i64 (0 + 1))) N)
  (cond (Nat.blt (o + Int.toNat 56 + 0 + Int.toNat (IntKind.wrap IntKind.i64 (IntKind.wrap IntKind.i64 (0 + 1) + 1))) N)
  (cond (Nat.blt (o + Int.toNat 56 + 0 + Int.toNat (IntKind.wrap IntKind.i64 (IntKind.wrap IntKind.i64 (IntKind.wrap IntKind.i64 (0 + 1) + 1) + 1))) N)
  (cond (Nat.blt (o + Int.toNat 56 + 0 + Int.toNat (IntKind.wrap IntKind.i64 (IntKind.wrap IntKind.i64 (IntKind.wrap IntKind.i64 (IntKind.wrap IntKind.i64 (0 + 1) + 1) + 1) + 1))) N)
  (cond (Nat.blt (o + Int.toNat 56 + 0 + Int.toNat (IntKind.wrap IntKind.i64 (IntKind.wrap IntKind.i64 (IntKind.wrap IntKind.i64 (IntKind.wrap IntKind.i64 (IntKind.wrap IntKind.i64 (0 + 1) + 1) + 1) + 1) + 1))) N)
  (cond (Nat.blt (o + Int.toNat 56 + 0 + Int.toNat (IntKind.wrap IntKind.i64 (IntKind.wrap IntKind.i64 (IntKind.wrap IntKind.i64 (IntKind.wrap IntKind.i64 (IntKind.wrap IntKind.i64 (IntKind.wrap IntKind.i64 (0 + 1) + 1) + 1) + 1) + 1) + 1))) N)
  (cond (Nat.blt (o + Int.toNat 56 + 0 + Int.toNat (IntKind.wrap IntKind.i64 (IntKind.wrap IntKind.i64 (IntKind.wrap IntKind.i64 (IntKind.wrap IntKind.i64 (IntKind.wrap IntKind.i64 (IntKind.wrap IntKind.i64 (IntKind.wrap IntKind.i64 (0 + 1) + 1) + 1) + 1) + 1) + 1) + 1))) N)
  (cond (Nat.ble (Int.toNat 64) n)
  (some (0, (CS.mk [(AV.osl (false) (0) (o + Int.toNat 64) (n - Int.toNat 64) (n - Int.toNat 64) (1) (true)), (AV.int IntKind.u64 (0))] [some (AObj.tarr [Sh.int IntKind.u8] (N) (zf) rw)])))
  none)
  none)
  none)
  none)
  none)
  none)
  none)
  none)
  none)
  none))
  none)
  none)
  none))
  (some (1, (CS.mk [(AV.int IntKind.u64 (0))] [some (AObj.tarr [Sh.int IntKind.u8] (N) (zf) rw)])))) := by
  rw [s86_is]
  try simp only [eq_self, decide_true, beq_self_eq_true, Nat.beq_refl, ble_self, Int.le_refl, Nat.le_refl]
  cases (decide ((↑n : Int) ≥ 64)) with
  | true =>
    cases (decide ((↑n : Int) < 64)) with
    | true =>
      cases (Nat.ble (Int.toNat 64) n) with
      | true =>
        rfl
      | false =>
        rfl
    | false =>
      cases (Nat.ble (Int.toNat 8) n) with
      | true =>
        cases (Nat.ble (o + 0 + (Int.toNat 8 - 0)) N) with
        | true =>
          cases (Nat.ble (Int.toNat 56) n) with
          | true =>
            cases (decide (8 > (↑(n - Int.toNat 56) : Int))) with
            | true =>
              cases (Nat.ble (Int.toNat 64) n) with
              | true =>
                rfl
              | false =>
                rfl
            | false =>
              cases (Nat.ble (Int.toNat 8) (n - Int.toNat 56)) with
              | true =>
                cases (Nat.blt (o + Int.toNat 56 + 0 + Int.toNat 0) N) with
                | true =>
                  cases (Nat.blt (o + Int.toNat 56 + 0 + Int.toNat (IntKind.wrap IntKind.i64 (0 + 1))) N) with
                  | true =>
                    cases (Nat.blt (o + Int.toNat 56 + 0 + Int.toNat (IntKind.wrap IntKind.i64 (IntKind.wrap IntKind.i64 (0 + 1) + 1))) N) with
                    | true =>
                      cases (Nat.blt (o + Int.toNat 56 + 0 + Int.toNat (IntKind.wrap IntKind.i64 (IntKind.wrap IntKind.i64 (IntKind.wrap IntKind.i64 (0 + 1) + 1) + 1))) N) with
                      | true =>
                        cases (Nat.blt (o + Int.toNat 56 + 0 + Int.toNat (IntKind.wrap IntKind.i64 (IntKind.wrap IntKind.i64 (IntKind.wrap IntKind.i64 (IntKind.wrap IntKind.i64 (0 + 1) + 1) + 1) + 1))) N) with
                        | true =>
                          cases (Nat.blt (o + Int.toNat 56 + 0 + Int.toNat (IntKind.wrap IntKind.i64 (IntKind.wrap IntKind.i64 (IntKind.wrap IntKind.i64 (IntKind.wrap IntKind.i64 (IntKind.wrap IntKind.i64 (0 + 1) + 1) + 1) + 1) + 1))) N) with
                          | true =>
                            cases (Nat.blt (o + Int.toNat 56 + 0 + Int.toNat (IntKind.wrap IntKind.i64 (IntKind.wrap IntKind.i64 (IntKind.wrap IntKind.i64 (IntKind.wrap IntKind.i64 (IntKind.wrap IntKind.i64 (IntKind.wrap IntKind.i64 (0 + 1) + 1) + 1) + 1) + 1) + 1))) N) with
                            | true =>
                              cases (Nat.blt (o + Int.toNat 56 + 0 + Int.toNat (IntKind.wrap IntKind.i64 (IntKind.wrap IntKind.i64 (IntKind.wrap IntKind.i64 (IntKind.wrap IntKind.i64 (IntKind.wrap IntKind.i64 (IntKind.wrap IntKind.i64 (IntKind.wrap IntKind.i64 (0 + 1) + 1) + 1) + 1) + 1) + 1) + 1))) N) with
                              | true =>
                                cases (Nat.ble (Int.toNat 64) n) with
                                | true =>
                                  rfl
                                | false =>
                                  rfl
                              | false =>
                                rfl
                            | false =>
                              rfl
                          | false =>
                            rfl
                        | false =>
                          rfl
                      | false =>
                        rfl
                    | false =>
                      rfl
                  | false =>
                    rfl
                | false =>
                  rfl
              | false =>
                rfl
          | false =>
            rfl
        | false =>
          rfl
      | false =>
        rfl
  | false =>
    rfl

end Go.Proofs.YtdgplkcobpikiaaGreat.raftOpen
