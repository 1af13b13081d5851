/- Entries, written; the law: what the machine reckons. -/
import Derived.Test.YtjbjjikdihghmaaBxB
import Derived.KernelRfl
set_option linter.unusedSimpArgs false
set_option linter.unusedVariables false
set_option maxRecDepth 20000
namespace Go.Proofs.Ytjbjjikdihghmaa.entry
open Go Go.RowKit Go.Proofs.Ytjbjjikdihghmaa.Bm
def strB (d : List Nat) (i _ : Nat) : AV := .int .u8 (natAt d i)
/-- A look's bytes; those of looks in a row. -/
def lookI (cl rq fr ct : Int) (a : Nat) : Int := cond (Nat.blt a 8) (byt cl a) (cond (Nat.blt a 16) (byt rq (a - 8)) (cond (Nat.blt a 20) (byt (IntKind.wrap .u64 fr) (a - 16)) (byt (IntKind.wrap .u64 ct) (a - 20))))
def lookB (cl rq fr ct : Int) (a _ : Nat) : AV := .int .u8 (lookI cl rq fr ct a)
def behB (g : Nat → Nat → AV) (a _ : Nat) : AV := .int .u8 (lookI (g (a / 24) 0).toI (g (a / 24) 1).toI (g (a / 24) 2).toI (g (a / 24) 3).toI (a % 24))
noncomputable def lookOk (cl rq fr ct : Int) : Bool := u64B cl && u64B rq && u64B (IntKind.wrap .u64 fr) && u64B (IntKind.wrap .u64 ct)
noncomputable def rowOk (g : Nat → Nat → AV) (i : Nat) : Bool := lookOk (g i 0).toI (g i 1).toI (g i 2).toI (g i 3).toI
def h8 : Pat := ⟨70, [(4, .asl shB), (59, .asl shL), (60, .keep), (61, .keep)], []⟩
def x8 : List (Ex × Pat) := [(.exit 1, ⟨70, [(4, .asl shB)], []⟩)]
def a24 (n : Nat) (f : Nat → Nat → AV) (d : List Nat) : CS :=
  ⟨[.osl false 0 0 n n 1 true, .str d], [some (.tarr shB n f true)]⟩
def a22 (n : Nat) (f : Nat → Nat → AV) (cl : Int) (rq : Int) (fr : Int) (ct : Int) : CS :=
  ⟨[.osl false 0 0 n n 1 true, .agg [.int .u64 cl, .int .u64 rq, .int .u32 fr, .int .u32 ct]], [some (.tarr shB n f true)]⟩
def c8 (n : Nat) (f : Nat → Nat → AV) (nl2 : Bool) (m : Nat) (g : Nat → Nat → AV) (j : Nat) : CS :=
  ⟨[.osl false 0 0 n n 1 true, .osl nl2 1 0 m m 4 true, .int .i64 (m : Nat), .int .i64 (j : Nat)], [some (.tarr shB n f true), some (.tarr shL m g false)]⟩
def a8 (ix : Int) (tm : Int) (st : Int) (kd : Int) (cl : Int) (rq : Int) (fr : Int) (ct : Int) (d : List Nat) (nl2 : Bool) (m : Nat) (g : Nat → Nat → AV) : CS :=
  ⟨[.agg [.int .u64 ix, .int .u64 tm, .int .u64 st, .int .i64 kd, .int .u64 cl, .int .u64 rq, .int .u32 fr, .int .u32 ct, .str d, .osl nl2 0 0 m m 4 true]], [some (.tarr shL m g false)]⟩
/-- An entry's bytes. -/
def entB (ix tm st kd cl rq fr ct : Int) (d : List Nat) (m : Nat) (g : Nat → Nat → AV) : Nat → Nat → AV :=
  fjoin (fjoin (fjoin (fjoin (fjoin (fjoin (fjoin (fun _ _ => .bad) 0 (allB 8 (rowsOf 1 [.int .u64 ix, .int .u64 tm, .int .u64 st] 3))) 24 (allB 1 (rowsOf 1 [.int .u64 (IntKind.wrap .u64 kd)] 1))) 25 (lookB cl rq fr ct)) 49 (oneB (IntKind.wrap .u64 (d.length : Int)))) 51 (strB d)) (51 + d.length) (allB 1 (rowsOf 1 [.int .u64 (IntKind.wrap .u64 (m : Int))] 1))) (52 + d.length) (behB g)
noncomputable def f24B  (n : Nat) (f : Nat → Nat → AV) (d : List Nat) : T (CS) :=
  chkT [Nat.ble (n + 16) 900000] (.ask (decide ((d.length : Int) > 16384)) (.ret ⟨[.tuple [.nilSlice, .int .i64 11]], []⟩) (.ret ⟨[.tuple [.tsl 0 0 (n + 2 + d.length) (n + 2 + d.length) 1 true, .int .i64 0]], [some (.tarr shB (n + 2 + d.length) (fjoin (fjoin f n (oneB (IntKind.wrap .u64 (d.length : Int)))) (n + 2) (strB d)) true)]⟩))
noncomputable def f24  (c : CS) : T (CS) := match c with
  | ⟨[.osl z_1 0 0 n z_2 1 true, .str d], [some (.tarr sh_3 z_4 f true)]⟩ => chkT [decide (false = z_1), decide (n = z_2), shBeq sh_3 shB, decide (n = z_4)] (f24B  n f d)
  | _ => .fail
noncomputable def f22B  (n : Nat) (f : Nat → Nat → AV) (cl : Int) (rq : Int) (fr : Int) (ct : Int) : T (CS) :=
  chkT [Nat.ble (n + 32) 1000000] (.ret ⟨[.osl false 0 0 (n + 24) (n + 24) 1 true], [some (.tarr shB (n + 24) (fjoin f n (lookB cl rq fr ct)) true)]⟩)
noncomputable def f22  (c : CS) : T (CS) := match c with
  | ⟨[.osl z_1 0 0 n z_2 1 true, .agg [.int .u64 cl, .int .u64 rq, .int .u32 fr, .int .u32 ct]], [some (.tarr sh_3 z_4 f true)]⟩ => chkT [decide (false = z_1), decide (n = z_2), shBeq sh_3 shB, decide (n = z_4)] (f22B  n f cl rq fr ct)
  | _ => .fail
noncomputable def r8B  (n : Nat) (f : Nat → Nat → AV) (nl2 : Bool) (m : Nat) (g : Nat → Nat → AV) : T (Nat × CS) :=
  chkT [Nat.ble m 1000, Nat.ble (n + 24 * m + 32) 1000000] (.ret (1, ⟨[.osl false 0 0 (n + 24 * m) (n + 24 * m) 1 true], [some (.tarr shB (n + 24 * m) (fjoin f n (behB g)) true)]⟩))
noncomputable def r8  (c : CS) : T (Nat × CS) := match c with
  | ⟨[.osl z_1 0 0 n z_2 1 true, .osl nl2 1 0 m z_3 4 true, .int .i64 z_4, .int .i64 z_5], [some (.tarr sh_6 z_7 f true), some (.tarr sh_8 z_9 g false)]⟩ => chkT [decide (false = z_1), decide (n = z_2), decide (m = z_3), decide ((m : Nat) = z_4), decide (0 = z_5), shBeq sh_6 shB, decide (n = z_7), shBeq sh_8 shL, decide (m = z_9)] (r8B  n f nl2 m g)
  | _ => .fail
noncomputable def f8B  (ix : Int) (tm : Int) (st : Int) (kd : Int) (cl : Int) (rq : Int) (fr : Int) (ct : Int) (d : List Nat) (nl2 : Bool) (m : Nat) (g : Nat → Nat → AV) : T (CS) :=
  .ask (decide (kd < 0)) (.ret ⟨[.tuple [.nilSlice, .int .i64 2]], []⟩) (.ask (decide (kd > 255)) (.ret ⟨[.tuple [.nilSlice, .int .i64 2]], []⟩) (.ask (decide ((d.length : Int) > 16384)) (.ret ⟨[.tuple [.nilSlice, .int .i64 11]], []⟩) (.ask (decide ((m : Int) > 64)) (.ret ⟨[.tuple [.nilSlice, .int .i64 11]], []⟩) (.ret ⟨[.tuple [.tsl 0 0 (52 + d.length + 24 * m) (52 + d.length + 24 * m) 1 true, .int .i64 0]], [some (.tarr shB (52 + d.length + 24 * m) (entB ix tm st kd cl rq fr ct d m g) true)]⟩))))
noncomputable def f8  (c : CS) : T (CS) := match c with
  | ⟨[.agg [.int .u64 ix, .int .u64 tm, .int .u64 st, .int .i64 kd, .int .u64 cl, .int .u64 rq, .int .u32 fr, .int .u32 ct, .str d, .osl nl2 0 0 m z_1 4 true]], [some (.tarr sh_2 z_3 g false)]⟩ => chkT [decide (m = z_1), shBeq sh_2 shL, decide (m = z_3)] (f8B  ix tm st kd cl rq fr ct d nl2 m g)
  | _ => .fail
noncomputable def E8 : Env := addF E7 24 ⟨fiRun [.asl shB, .keep] [] 0 f24⟩
noncomputable def E9 : Env := addF E8 22 ⟨fiRun [.asl shB, .keep] [] 0 f22⟩
noncomputable def E9b : Env := addL E9 8 1 1000004 h8 x8 0 r8
noncomputable def E10 : Env := E9b
noncomputable def k24 (n : Nat) (f : Nat → Nat → AV) (d : List Nat) (π : Plan) : Option CS := callC (E7) (1000) (24) (0) (.keep) ([]) π (a24 n f d)
def k24_p : Plan := (.fork .stop (.must true (.reck 3 (.must true (.reck 5 (.fork (.reck 1 (.fork (.fork .stop .stop) (.fork (.fork .stop .stop) .stop))) .stop))))))
theorem k24_is (n : Nat) (f : Nat → Nat → AV) (d : List Nat) : k24 n f d k24_p = (cond (decide ((↑(List.length d) : Int) > 16384))
  (some (CS.mk [(AV.tuple [AV.nilSlice, (AV.int IntKind.i64 (11))])] []))
  (cond (decide (n = n)) (cond (decide (n = n)) (cond (Nat.ble (n + 8 * 1) 1000000)
  (cond (Nat.ble ((n + Int.toNat 2 * 1) + (List.length (d))) (n + Int.toNat 2 * 1))
  (cond (Nat.ble (0 + (n + Int.toNat 2 * 1 + List.length d)) (n + Int.toNat 2 * 1))
  (some (CS.mk [(AV.tuple [(AV.tsl (0) (0) (n + Int.toNat 2 * 1 + List.length d) (n + Int.toNat 2 * 1 + List.length d) (1) (true)), (AV.int IntKind.i64 (0))])] [some (AObj.tarr [Sh.int IntKind.u8] (n + Int.toNat 2 * 1) (fover (fjoin f (n) (allB (2) (rowsOf (1) [(AV.int IntKind.u64 (IntKind.wrap IntKind.u64 (↑(List.length d) : Int)))] (1)))) (0 + (n + Int.toNat 2 * 1)) (List.length d) (fun p_ q_ => (AV.int IntKind.u8 ((↑(natAt d p_) : Int))))) true)]))
  none)
  (cond (growB (1) (n + Int.toNat 2 * 1 + List.length d))
  (cond (Nat.ble (0 + (n + Int.toNat 2 * 1)) (n + Int.toNat 2 * 1))
  (some (CS.mk [(AV.tuple [(AV.tsl (0) (0) (n + Int.toNat 2 * 1 + List.length d) (n + Int.toNat 2 * 1 + List.length d) (1) (true)), (AV.int IntKind.i64 (0))])] [some (AObj.tarr [Sh.int IntKind.u8] (n + Int.toNat 2 * 1 + List.length d) (fjoin (fun p_ q_ => (fjoin f (n) (allB (2) (rowsOf (1) [(AV.int IntKind.u64 (IntKind.wrap IntKind.u64 (↑(List.length d) : Int)))] (1)))) (0 + p_) q_) (n + Int.toNat 2 * 1) (fun p_ q_ => (AV.int IntKind.u8 ((↑(natAt d p_) : Int))))) true)]))
  none)
  none))
  none) none) none)) := by kernel_rfl
theorem k24_eq (n : Nat) (f : Nat → Nat → AV) (d : List Nat) : k24 n f d k24_p = (cond (decide ((↑(List.length d) : Int) > 16384))
  (some (CS.mk [(AV.tuple [AV.nilSlice, (AV.int IntKind.i64 (11))])] []))
  (cond (Nat.ble (n + 8 * 1) 1000000)
  (cond (Nat.ble ((n + Int.toNat 2 * 1) + (List.length (d))) (n + Int.toNat 2 * 1))
  (cond (Nat.ble (0 + (n + Int.toNat 2 * 1 + List.length d)) (n + Int.toNat 2 * 1))
  (some (CS.mk [(AV.tuple [(AV.tsl (0) (0) (n + Int.toNat 2 * 1 + List.length d) (n + Int.toNat 2 * 1 + List.length d) (1) (true)), (AV.int IntKind.i64 (0))])] [some (AObj.tarr [Sh.int IntKind.u8] (n + Int.toNat 2 * 1) (fover (fjoin f (n) (allB (2) (rowsOf (1) [(AV.int IntKind.u64 (IntKind.wrap IntKind.u64 (↑(List.length d) : Int)))] (1)))) (0 + (n + Int.toNat 2 * 1)) (List.length d) (fun p_ q_ => (AV.int IntKind.u8 ((↑(natAt d p_) : Int))))) true)]))
  none)
  (cond (growB (1) (n + Int.toNat 2 * 1 + List.length d))
  (cond (Nat.ble (0 + (n + Int.toNat 2 * 1)) (n + Int.toNat 2 * 1))
  (some (CS.mk [(AV.tuple [(AV.tsl (0) (0) (n + Int.toNat 2 * 1 + List.length d) (n + Int.toNat 2 * 1 + List.length d) (1) (true)), (AV.int IntKind.i64 (0))])] [some (AObj.tarr [Sh.int IntKind.u8] (n + Int.toNat 2 * 1 + List.length d) (fjoin (fun p_ q_ => (fjoin f (n) (allB (2) (rowsOf (1) [(AV.int IntKind.u64 (IntKind.wrap IntKind.u64 (↑(List.length d) : Int)))] (1)))) (0 + p_) q_) (n + Int.toNat 2 * 1) (fun p_ q_ => (AV.int IntKind.u8 ((↑(natAt d p_) : Int))))) true)]))
  none)
  none))
  none)) := by
  rw [k24_is]
  try simp only [eq_self, decide_true, beq_self_eq_true, Nat.beq_refl, ble_self, Int.le_refl, Nat.le_refl]
  cases (decide ((↑(List.length d) : Int) > 16384)) with
  | true =>
    rfl
  | false =>
    cases (Nat.ble (n + 8 * 1) 1000000) with
    | true =>
      cases (Nat.ble ((n + Int.toNat 2 * 1) + (List.length (d))) (n + Int.toNat 2 * 1)) with
      | true =>
        cases (Nat.ble (0 + (n + Int.toNat 2 * 1 + List.length d)) (n + Int.toNat 2 * 1)) with
        | true =>
          rfl
        | false =>
          rfl
      | false =>
        cases (growB (1) (n + Int.toNat 2 * 1 + List.length d)) with
        | true =>
          cases (Nat.ble (0 + (n + Int.toNat 2 * 1)) (n + Int.toNat 2 * 1)) with
          | true =>
            rfl
          | false =>
            rfl
        | false =>
          rfl
    | false =>
      rfl

noncomputable def k22 (n : Nat) (f : Nat → Nat → AV) (cl : Int) (rq : Int) (fr : Int) (ct : Int) (π : Plan) : Option CS := callC (E7) (1000) (22) (0) (.asl shB) ([]) π (a22 n f cl rq fr ct)
def k22_p : Plan := (.must true (.reck 3 (.must true (.reck 5 (.fork (.reck 1 (.must true (.reck 3 (.must true (.reck 5 (.fork .stop .stop)))))) .stop)))))
theorem k22_is (n : Nat) (f : Nat → Nat → AV) (cl : Int) (rq : Int) (fr : Int) (ct : Int) : k22 n f cl rq fr ct k22_p = (cond (decide (n = n)) (cond (decide (n = n)) (cond (Nat.ble (n + 8 * 2) 1000000)
  (cond (decide (n + Int.toNat 8 * 2 = n + Int.toNat 8 * 2)) (cond (decide (n + Int.toNat 8 * 2 = n + Int.toNat 8 * 2)) (cond (Nat.ble (n + Int.toNat 8 * 2 + 8 * 2) 1000000)
  (some (CS.mk [(AV.osl (false) (0) (0) (n + Int.toNat 8 * 2 + Int.toNat 4 * 2) (n + Int.toNat 8 * 2 + Int.toNat 4 * 2) (1) (true))] [some (AObj.tarr [Sh.int IntKind.u8] (n + Int.toNat 8 * 2 + Int.toNat 4 * 2) (fjoin (fjoin f (n) (allB (8) (rowsOf (1) [(AV.int IntKind.u64 (cl)), (AV.int IntKind.u64 (rq))] (2)))) (n + Int.toNat 8 * 2) (allB (4) (rowsOf (1) [(AV.int IntKind.u64 (IntKind.wrap IntKind.u64 fr)), (AV.int IntKind.u64 (IntKind.wrap IntKind.u64 ct))] (2)))) true)]))
  none) none) none)
  none) none) none) := by kernel_rfl
theorem k22_eq (n : Nat) (f : Nat → Nat → AV) (cl : Int) (rq : Int) (fr : Int) (ct : Int) : k22 n f cl rq fr ct k22_p = (cond (Nat.ble (n + 8 * 2) 1000000)
  (cond (Nat.ble (n + Int.toNat 8 * 2 + 8 * 2) 1000000)
  (some (CS.mk [(AV.osl (false) (0) (0) (n + Int.toNat 8 * 2 + Int.toNat 4 * 2) (n + Int.toNat 8 * 2 + Int.toNat 4 * 2) (1) (true))] [some (AObj.tarr [Sh.int IntKind.u8] (n + Int.toNat 8 * 2 + Int.toNat 4 * 2) (fjoin (fjoin f (n) (allB (8) (rowsOf (1) [(AV.int IntKind.u64 (cl)), (AV.int IntKind.u64 (rq))] (2)))) (n + Int.toNat 8 * 2) (allB (4) (rowsOf (1) [(AV.int IntKind.u64 (IntKind.wrap IntKind.u64 fr)), (AV.int IntKind.u64 (IntKind.wrap IntKind.u64 ct))] (2)))) true)]))
  none)
  none) := by
  rw [k22_is]
  try simp only [eq_self, decide_true, beq_self_eq_true, Nat.beq_refl, ble_self, Int.le_refl, Nat.le_refl]
  cases (Nat.ble (n + 8 * 2) 1000000) with
  | true =>
    cases (Nat.ble (n + Int.toNat 8 * 2 + 8 * 2) 1000000) with
    | true =>
      rfl
    | false =>
      rfl
  | false =>
    rfl

noncomputable def s8 (n : Nat) (f : Nat → Nat → AV) (nl2 : Bool) (m : Nat) (g : Nat → Nat → AV) (j : Nat) (π : Plan) : Option (Nat × CS) := stepC (E9) (300) (loopC E9 8 1) (0) (h8) ((.normal, h8) :: x8) π (c8 n f nl2 m g j)
def s8_p : Plan := (.fork (.reck 1 (.must true (.fork (.reck 1 (.must true (.reck 1 (.must true (.fork .stop .stop))))) .stop))) .stop)
theorem s8_is (n : Nat) (f : Nat → Nat → AV) (nl2 : Bool) (m : Nat) (g : Nat → Nat → AV) (j : Nat) : s8 n f nl2 m g j s8_p = (cond (decide ((↑j : Int) < (↑m : Int)))
  (cond (decide ((↑j : Int) < (↑m : Int))) (cond (Nat.blt (0 + Int.toNat (↑j : Int)) m)
  (cond (decide (n = n)) (cond (decide (n = n)) (cond (Nat.ble (n + 32) 1000000)
  (some (0, (CS.mk [(AV.osl (false) (0) (0) (n + 24) (n + 24) (1) (true)), (AV.osl (nl2) (1) (0) (m) (m) (4) (true)), (AV.int IntKind.i64 ((↑m : Int))), (AV.int IntKind.i64 (IntKind.wrap IntKind.i64 ((↑j : Int) + 1)))] [some (AObj.tarr [Sh.int IntKind.u8] (n + 24) (fjoin f (n) (lookB (AV.toI (g (0 + Int.toNat (↑j : Int)) 0)) (AV.toI (g (0 + Int.toNat (↑j : Int)) (Nat.succ 0))) (AV.toI (g (0 + Int.toNat (↑j : Int)) (Nat.succ (Nat.succ 0)))) (AV.toI (g (0 + Int.toNat (↑j : Int)) (Nat.succ (Nat.succ (Nat.succ 0))))))) true), some (AObj.tarr [Sh.int IntKind.u64, Sh.int IntKind.u64, Sh.int IntKind.u32, Sh.int IntKind.u32] (m) g false)])))
  none) none) none)
  none) none)
  (some (1, (CS.mk [(AV.osl (false) (0) (0) (n) (n) (1) (true))] [some (AObj.tarr [Sh.int IntKind.u8] (n) f true)])))) := by kernel_rfl
theorem s8_eq (n : Nat) (f : Nat → Nat → AV) (nl2 : Bool) (m : Nat) (g : Nat → Nat → AV) (j : Nat) : s8 n f nl2 m g j s8_p = (cond (decide ((↑j : Int) < (↑m : Int)))
  (cond (Nat.blt (0 + Int.toNat (↑j : Int)) m)
  (cond (Nat.ble (n + 32) 1000000)
  (some (0, (CS.mk [(AV.osl (false) (0) (0) (n + 24) (n + 24) (1) (true)), (AV.osl (nl2) (1) (0) (m) (m) (4) (true)), (AV.int IntKind.i64 ((↑m : Int))), (AV.int IntKind.i64 (IntKind.wrap IntKind.i64 ((↑j : Int) + 1)))] [some (AObj.tarr [Sh.int IntKind.u8] (n + 24) (fjoin f (n) (lookB (AV.toI (g (0 + Int.toNat (↑j : Int)) 0)) (AV.toI (g (0 + Int.toNat (↑j : Int)) (Nat.succ 0))) (AV.toI (g (0 + Int.toNat (↑j : Int)) (Nat.succ (Nat.succ 0)))) (AV.toI (g (0 + Int.toNat (↑j : Int)) (Nat.succ (Nat.succ (Nat.succ 0))))))) true), some (AObj.tarr [Sh.int IntKind.u64, Sh.int IntKind.u64, Sh.int IntKind.u32, Sh.int IntKind.u32] (m) g false)])))
  none)
  none)
  (some (1, (CS.mk [(AV.osl (false) (0) (0) (n) (n) (1) (true))] [some (AObj.tarr [Sh.int IntKind.u8] (n) f true)])))) := by
  rw [s8_is]
  try simp only [eq_self, decide_true, beq_self_eq_true, Nat.beq_refl, ble_self, Int.le_refl, Nat.le_refl]
  cases (decide ((↑j : Int) < (↑m : Int))) with
  | true =>
    cases (Nat.blt (0 + Int.toNat (↑j : Int)) m) with
    | true =>
      cases (Nat.ble (n + 32) 1000000) with
      | true =>
        rfl
      | false =>
        rfl
    | false =>
      rfl
  | false =>
    rfl

noncomputable def k8 (ix : Int) (tm : Int) (st : Int) (kd : Int) (cl : Int) (rq : Int) (fr : Int) (ct : Int) (d : List Nat) (nl2 : Bool) (m : Nat) (g : Nat → Nat → AV) (π : Plan) : Option CS := callC (E10) (1000) (8) (0) (.keep) ([]) π (a8 ix tm st kd cl rq fr ct d nl2 m g)
def k8_p : Plan := (.fork (.must true (.must true (.must false (.fork .stop (.fork (.must true (.must true (.must true (.must false (.fork .stop (.reck 30 (.must true (.must true (.must true (.must true (.must true (.must true (.must true (.must true (.must true (.must true (.reck 1 (.must true (.must true (.must true (.must true (.must true (.must true (.must true (.must true (.must true (.must true (.must true (.must true (.reck 1 (.must true (.must true (.must true (.must true (.reck 5 (.must false (.must true (.reck 3 (.must true (.reck 5 (.fork (.reck 2 (.must true (.must true (.must true (.reck 2 (.must true (.reck 1 (.must true (.fork (.fork .stop .stop) .stop))))))))) .stop))))))))))))))))))))))))))))))))))))))))) (.must false (.must false (.must false (.must true .stop))))))))) (.must false (.must false (.must true .stop))))
theorem k8_is (ix : Int) (tm : Int) (st : Int) (kd : Int) (cl : Int) (rq : Int) (fr : Int) (ct : Int) (d : List Nat) (nl2 : Bool) (m : Nat) (g : Nat → Nat → AV) : k8 ix tm st kd cl rq fr ct d nl2 m g k8_p = (cond (decide (kd < 0) == false)
  (cond (decide (kd < 0) == false) (cond (decide (kd < 0) == false) (cond (decide (kd < 0)) none (cond (decide (kd > 255))
  (some (CS.mk [(AV.tuple [AV.nilSlice, (AV.int IntKind.i64 (2))])] []))
  (cond (decide ((↑(List.length d) : Int) > 16384) == false)
  (cond (decide ((↑(List.length d) : Int) > 16384) == false) (cond (decide ((↑(List.length d) : Int) > 16384) == false) (cond (decide ((↑(List.length d) : Int) > 16384) == false) (cond (decide ((↑(List.length d) : Int) > 16384)) none (cond (decide ((↑m : Int) > 64))
  (some (CS.mk [(AV.tuple [AV.nilSlice, (AV.int IntKind.i64 (11))])] []))
  (cond (decide (ix = ix)) (cond (decide (tm = tm)) (cond (decide (st = st)) (cond (decide (kd = kd)) (cond (decide (cl = cl)) (cond (decide (rq = rq)) (cond (decide (fr = fr)) (cond (decide (ct = ct)) (cond (d == d) (cond (nl2 == nl2) (cond (Nat.beq m m) (cond (Nat.beq m m) (cond (decide (ix = ix)) (cond (decide (tm = tm)) (cond (decide (st = st)) (cond (decide (kd = kd)) (cond (decide (cl = cl)) (cond (decide (rq = rq)) (cond (decide (fr = fr)) (cond (decide (ct = ct)) (cond (d == d) (cond (nl2 == nl2) (cond (Nat.beq m m) (cond (Nat.beq m m) (cond (decide (IntKind.wrap IntKind.u64 kd = IntKind.wrap IntKind.u64 kd)) (cond (decide (kd = kd)) (cond (decide ((↑(List.length d) : Int) > 16384)) none (cond (decide (0 + Int.toNat 8 * 3 + Int.toNat 1 * 1 + 24 + 2 + List.length d = 0 + Int.toNat 8 * 3 + Int.toNat 1 * 1 + 24 + 2 + List.length d)) (cond (decide (0 + Int.toNat 8 * 3 + Int.toNat 1 * 1 + 24 + 2 + List.length d = 0 + Int.toNat 8 * 3 + Int.toNat 1 * 1 + 24 + 2 + List.length d)) (cond (Nat.ble (0 + Int.toNat 8 * 3 + Int.toNat 1 * 1 + 24 + 2 + List.length d + 8 * 1) 1000000)
  (cond (decide (0 + Int.toNat 8 * 3 + Int.toNat 1 * 1 + 24 + 2 + List.length d + Int.toNat 1 * 1 = 0 + Int.toNat 8 * 3 + Int.toNat 1 * 1 + 24 + 2 + List.length d + Int.toNat 1 * 1)) (cond (decide (m = m)) (cond (decide ((↑m : Int) = (↑m : Int))) (cond (decide (0 + Int.toNat 8 * 3 + Int.toNat 1 * 1 + 24 + 2 + List.length d + Int.toNat 1 * 1 = 0 + Int.toNat 8 * 3 + Int.toNat 1 * 1 + 24 + 2 + List.length d + Int.toNat 1 * 1)) (cond (decide (m = m)) (cond (Nat.ble m 1000)
  (cond (Nat.ble (0 + Int.toNat 8 * 3 + Int.toNat 1 * 1 + 24 + 2 + List.length d + Int.toNat 1 * 1 + 24 * m + 32) 1000000)
  (some (CS.mk [(AV.tuple [(AV.tsl (0) (0) (0 + Int.toNat 8 * 3 + Int.toNat 1 * 1 + 24 + 2 + List.length d + Int.toNat 1 * 1 + 24 * m) (0 + Int.toNat 8 * 3 + Int.toNat 1 * 1 + 24 + 2 + List.length d + Int.toNat 1 * 1 + 24 * m) (1) (true)), (AV.int IntKind.i64 (0))])] [some (AObj.tarr [Sh.int IntKind.u8] (0 + Int.toNat 8 * 3 + Int.toNat 1 * 1 + 24 + 2 + List.length d + Int.toNat 1 * 1 + 24 * m) (fjoin (fjoin (fjoin (fjoin (fjoin (fjoin (fjoin (fun p_ q_ => AV.bad) (0) (allB (8) (rowsOf (1) [(AV.int IntKind.u64 (ix)), (AV.int IntKind.u64 (tm)), (AV.int IntKind.u64 (st))] (3)))) (24) (allB (1) (rowsOf (1) [(AV.int IntKind.u64 (IntKind.wrap IntKind.u64 kd))] (1)))) (25) (lookB (cl) (rq) (fr) (ct))) (49) (oneB (IntKind.wrap IntKind.u64 (↑(List.length d) : Int)))) (51) (strB (d))) (0 + Int.toNat 8 * 3 + Int.toNat 1 * 1 + 24 + 2 + List.length d) (allB (1) (rowsOf (1) [(AV.int IntKind.u64 (IntKind.wrap IntKind.u64 (↑m : Int)))] (1)))) (0 + Int.toNat 8 * 3 + Int.toNat 1 * 1 + 24 + 2 + List.length d + Int.toNat 1 * 1) (behB g)) true)]))
  none)
  none) none) none) none) none) none)
  none) none) none)) none) none) none) none) none) none) none) none) none) none) none) none) none) none) none) none) none) none) none) none) none) none) none) none) none) none))) none) none) none)
  (cond (decide ((↑(List.length d) : Int) > 16384) == false) none (cond (decide ((↑(List.length d) : Int) > 16384) == false) none (cond (decide ((↑(List.length d) : Int) > 16384) == false) none (cond (decide ((↑(List.length d) : Int) > 16384)) (some (CS.mk [(AV.tuple [AV.nilSlice, (AV.int IntKind.i64 (11))])] [])) none))))))) none) none)
  (cond (decide (kd < 0) == false) none (cond (decide (kd < 0) == false) none (cond (decide (kd < 0)) (some (CS.mk [(AV.tuple [AV.nilSlice, (AV.int IntKind.i64 (2))])] [])) none)))) := by kernel_rfl
theorem k8_eq (ix : Int) (tm : Int) (st : Int) (kd : Int) (cl : Int) (rq : Int) (fr : Int) (ct : Int) (d : List Nat) (nl2 : Bool) (m : Nat) (g : Nat → Nat → AV) : k8 ix tm st kd cl rq fr ct d nl2 m g k8_p = (cond (decide (kd < 0))
  (some (CS.mk [(AV.tuple [AV.nilSlice, (AV.int IntKind.i64 (2))])] []))
  (cond (decide (kd > 255))
  (some (CS.mk [(AV.tuple [AV.nilSlice, (AV.int IntKind.i64 (2))])] []))
  (cond (decide ((↑(List.length d) : Int) > 16384))
  (some (CS.mk [(AV.tuple [AV.nilSlice, (AV.int IntKind.i64 (11))])] []))
  (cond (decide ((↑m : Int) > 64))
  (some (CS.mk [(AV.tuple [AV.nilSlice, (AV.int IntKind.i64 (11))])] []))
  (cond (Nat.ble (0 + Int.toNat 8 * 3 + Int.toNat 1 * 1 + 24 + 2 + List.length d + 8 * 1) 1000000)
  (cond (Nat.ble m 1000)
  (cond (Nat.ble (0 + Int.toNat 8 * 3 + Int.toNat 1 * 1 + 24 + 2 + List.length d + Int.toNat 1 * 1 + 24 * m + 32) 1000000)
  (some (CS.mk [(AV.tuple [(AV.tsl (0) (0) (0 + Int.toNat 8 * 3 + Int.toNat 1 * 1 + 24 + 2 + List.length d + Int.toNat 1 * 1 + 24 * m) (0 + Int.toNat 8 * 3 + Int.toNat 1 * 1 + 24 + 2 + List.length d + Int.toNat 1 * 1 + 24 * m) (1) (true)), (AV.int IntKind.i64 (0))])] [some (AObj.tarr [Sh.int IntKind.u8] (0 + Int.toNat 8 * 3 + Int.toNat 1 * 1 + 24 + 2 + List.length d + Int.toNat 1 * 1 + 24 * m) (fjoin (fjoin (fjoin (fjoin (fjoin (fjoin (fjoin (fun p_ q_ => AV.bad) (0) (allB (8) (rowsOf (1) [(AV.int IntKind.u64 (ix)), (AV.int IntKind.u64 (tm)), (AV.int IntKind.u64 (st))] (3)))) (24) (allB (1) (rowsOf (1) [(AV.int IntKind.u64 (IntKind.wrap IntKind.u64 kd))] (1)))) (25) (lookB (cl) (rq) (fr) (ct))) (49) (oneB (IntKind.wrap IntKind.u64 (↑(List.length d) : Int)))) (51) (strB (d))) (0 + Int.toNat 8 * 3 + Int.toNat 1 * 1 + 24 + 2 + List.length d) (allB (1) (rowsOf (1) [(AV.int IntKind.u64 (IntKind.wrap IntKind.u64 (↑m : Int)))] (1)))) (0 + Int.toNat 8 * 3 + Int.toNat 1 * 1 + 24 + 2 + List.length d + Int.toNat 1 * 1) (behB g)) true)]))
  none)
  none)
  none))))) := by
  rw [k8_is]
  try simp only [eq_self, decide_true, beq_self_eq_true, Nat.beq_refl, ble_self, Int.le_refl, Nat.le_refl]
  cases (decide (kd < 0)) with
  | true =>
    rfl
  | false =>
    cases (decide (kd > 255)) with
    | true =>
      rfl
    | false =>
      cases (decide ((↑(List.length d) : Int) > 16384)) with
      | true =>
        rfl
      | false =>
        cases (decide ((↑m : Int) > 64)) with
        | true =>
          rfl
        | false =>
          cases (Nat.ble (0 + Int.toNat 8 * 3 + Int.toNat 1 * 1 + 24 + 2 + List.length d + 8 * 1) 1000000) with
          | true =>
            cases (Nat.ble m 1000) with
            | true =>
              cases (Nat.ble (0 + Int.toNat 8 * 3 + Int.toNat 1 * 1 + 24 + 2 + List.length d + Int.toNat 1 * 1 + 24 * m + 32) 1000000) with
              | true =>
                rfl
              | false =>
                rfl
            | false =>
              rfl
          | false =>
            rfl

/-- Has an entry bytes; which error it has. -/
def wOK (kd : Int) (d : List Nat) (m : Nat) : Bool := !(decide (kd < 0)) && (!(decide (kd > 255)) && (!(decide ((d.length : Int) > 16384)) && !(decide ((m : Int) > 64))))
def errN (kd : Int) (d : List Nat) (m : Nat) : Int := cond (decide (kd < 0) || decide (kd > 255)) 2 11
noncomputable def f8xB  (ix : Int) (tm : Int) (st : Int) (kd : Int) (cl : Int) (rq : Int) (fr : Int) (ct : Int) (d : List Nat) (nl2 : Bool) (m : Nat) (g : Nat → Nat → AV) : T (CS) :=
  .ask (wOK kd d m) (.ret ⟨[.tuple [.tsl 0 0 (52 + d.length + 24 * m) (52 + d.length + 24 * m) 1 true, .int .i64 0]], [some (.tarr shB (52 + d.length + 24 * m) (entB ix tm st kd cl rq fr ct d m g) true)]⟩) (.ret ⟨[.tuple [.nilSlice, .int .i64 (errN kd d m)]], []⟩)
noncomputable def f8x  (c : CS) : T (CS) := match c with
  | ⟨[.agg [.int .u64 ix, .int .u64 tm, .int .u64 st, .int .i64 kd, .int .u64 cl, .int .u64 rq, .int .u32 fr, .int .u32 ct, .str d, .osl nl2 0 0 m z_1 4 true]], [some (.tarr sh_2 z_3 g false)]⟩ => chkT [decide (m = z_1), shBeq sh_2 shL, decide (m = z_3)] (f8xB  ix tm st kd cl rq fr ct d nl2 m g)
  | _ => .fail
noncomputable def H1 : Env := addF F10 8 ⟨fnRun [pE] [] f8x⟩
noncomputable def H2 : Env := addF H1 14 ⟨fiRun [.keep] [pR] 1 q14x⟩
noncomputable def H3 : Env := addF H2 7 livesI
def hT : Pat := ⟨97, [(1, .asl shB)], []⟩
def xT : List (Ex × Pat) := [(.ret, ⟨97, [(4, .keep)], []⟩)]
abbrev pT : List Bool := [true, true, true]
def cT (nl2 : Bool) (N : Nat) (g : Nat → Nat → AV) : CS :=
  ⟨[.osl nl2 0 0 N N 1 true], [some (.tarr shB N g false)]⟩
noncomputable def rTB  (nl2 : Bool) (N : Nat) (g : Nat → Nat → AV) : T (Nat × CS) :=
  chkT [okB g N, Nat.ble N 20000, cond nl2 (Nat.beq N 0) true] (.ret (0, ⟨[.bool true], []⟩))
noncomputable def rT  (c : CS) : T (Nat × CS) := match c with
  | ⟨[.osl nl2 0 0 N z_1 1 true], [some (.tarr sh_2 z_3 g false)]⟩ => chkT [decide (N = z_1), shBeq sh_2 shB, decide (N = z_3)] (rTB  nl2 N g)
  | _ => .fail
noncomputable def H4 : Env := addB H3 5 pT 1000020 hT xT 0 rT
/-- Is what was read the entry. -/
def backR (F : Nat → Nat → AV) (ix tm st kd cl rq fr ct : Int) (d : List Nat) (n : Nat) (f : Nat → Nat → AV) : Bool :=
  sameR (val F 0 8) (val F 8 8) (val F 16 8) (IntKind.wrap .i64 (val F 24 1)) (val F 25 8) (val F 33 8) (IntKind.wrap .u32 (val F 41 4)) (IntKind.wrap .u32 (val F 45 4)) (strV F 51 (tlen F 0)) ix tm st kd cl rq fr ct d false false (bnum F 0) n (lookF F (51 + (tlen F 0 + 1))) f
def h2 : Pat := ⟨97, [(1, .asl shB), (2, .keep), (7, .keep)], [[], lE, pR]⟩
def x2 : List (Ex × Pat) := [(.normal, ⟨97, [(1, .asl shB)], []⟩)]
abbrev p2 : List Bool := [true, true, false, true, true, false, true]
def c2 (nl2 : Bool) (N : Nat) (g : Nat → Nat → AV) (ix : Int) (tm : Int) (st : Int) (kd : Int) (cl : Int) (rq : Int) (fr : Int) (ct : Int) (d : List Nat) (nl : Bool) (n : Nat) (f : Nat → Nat → AV) (M : Nat) (F : Nat → Nat → AV) : CS :=
  ⟨[.osl nl2 0 0 N N 1 true, .ptr 1 0, .ptr 2 0], [some (.tarr shB N g false), some (.cells [.int .u64 ix, .int .u64 tm, .int .u64 st, .int .i64 kd, .int .u64 cl, .int .u64 rq, .int .u32 fr, .int .u32 ct, .str d, .osl nl 3 0 n n 4 true] true), some (.cells [.osl false 4 0 M M 1 true, .bool false] true), some (.tarr shL n f false), some (.tarr shB M F true)]⟩
noncomputable def r2B  (nl2 : Bool) (N : Nat) (g : Nat → Nat → AV) (ix : Int) (tm : Int) (st : Int) (kd : Int) (cl : Int) (rq : Int) (fr : Int) (ct : Int) (d : List Nat) (nl : Bool) (n : Nat) (f : Nat → Nat → AV) (M : Nat) (F : Nat → Nat → AV) : T (Nat × CS) :=
  chkT [okB F M, Nat.ble M 1000000, entOK F 0 M, backR F ix tm st kd cl rq fr ct d n f, decide (M - eEnd F 0 = N), Nat.ble N 20000] (.ret (0, ⟨[.osl nl2 0 0 N N 1 true], [some (.tarr shB N g false)]⟩))
noncomputable def r2  (c : CS) : T (Nat × CS) := match c with
  | ⟨[.osl nl2 0 0 N z_1 1 true, .ptr 1 0, .ptr 2 0], [some (.tarr sh_2 z_3 g false), some (.cells [.int .u64 ix, .int .u64 tm, .int .u64 st, .int .i64 kd, .int .u64 cl, .int .u64 rq, .int .u32 fr, .int .u32 ct, .str d, .osl nl 3 0 n z_4 4 true] true), some (.cells [.osl z_5 4 0 M z_6 1 true, .bool z_7] true), some (.tarr sh_8 z_9 f false), some (.tarr sh_10 z_11 F true)]⟩ => chkT [decide (N = z_1), shBeq sh_2 shB, decide (N = z_3), decide (n = z_4), decide (false = z_5), decide (M = z_6), decide (false = z_7), shBeq sh_8 shL, decide (n = z_9), shBeq sh_10 shB, decide (M = z_11)] (r2B  nl2 N g ix tm st kd cl rq fr ct d nl n f M F)
  | _ => .fail
noncomputable def H5 : Env := addB H4 5 p2 1000021 h2 x2 0 r2
noncomputable def kT (nl2 : Bool) (N : Nat) (g : Nat → Nat → AV) (π : Plan) : Option (Nat × CS) := stepC (H3) (1000) (pieceC H3 5 pT) (0) (hT) (xT) π (cT nl2 N g)
def kT_p : Plan := (.fork (.must true (.reck 2 (.must true (.reck 1 (.must true (.must true (.fork (.fork (.reck 9 (.fork (.reck 10 (.fork (.must true (.must true (.must true (.must true (.reck 1 (.must true (.must true (.reck 1 (.fork (.fork (.must true (.fork (.fork (.must true (.must true (.fork (.fork (.must true (.must true (.fork (.must true (.must true (.must true (.must true (.must true (.must true (.must true (.must true (.must true (.must true (.reck 1 (.must true (.must true (.must true (.reck 1 (.must true (.must true (.must true (.must true (.must true (.must true (.must true (.must true .stop))))))))))))))))))))))) (.must false (.must true (.must true (.must true (.must true (.must true (.must true (.must true (.must true (.must true (.reck 1 (.must true (.must true (.must true (.reck 1 (.must true (.must true (.must true (.must true (.must true (.must true (.must true (.must true .stop)))))))))))))))))))))))))) .stop) .stop))) .stop) .stop)) .stop) .stop))))))))) (.must false (.must false (.must false (.must false (.must false (.must false (.must false (.must false (.must false (.must false (.must false (.reck 2 (.must true (.must true (.must true (.must true .stop)))))))))))))))))) (.must false (.must false (.must false (.must false (.must false (.must false (.must false (.must false (.must false .stop))))))))))) (.reck 6 (.must true (.reck 1 (.must true (.fork (.reck 10 (.fork (.must true (.must true (.must true (.must true (.reck 1 (.must true (.must true (.reck 1 (.fork (.fork (.must true (.fork (.fork (.must true (.must true (.fork (.fork (.must true (.must true (.fork (.must true (.must true (.must true (.must true (.must true (.must true (.must true (.must true (.must true (.must true (.reck 1 (.must true (.must true (.must true (.reck 1 (.must true (.must true (.must true (.must true (.must true (.must true (.must true (.must true .stop))))))))))))))))))))))) (.must false (.must true (.must true (.must true (.must true (.must true (.must true (.must true (.must true (.must true (.reck 1 (.must true (.must true (.must true (.reck 1 (.must true (.must true (.must true (.must true (.must true (.must true (.must true (.must true .stop)))))))))))))))))))))))))) .stop) .stop))) .stop) .stop)) .stop) .stop))))))))) (.must false (.must false (.must false (.must false (.must false (.must false (.must false (.must false (.must false (.must false (.must false (.reck 2 (.must true (.must true (.must true (.must true .stop)))))))))))))))))) (.must false (.must false (.must false (.must false (.must false (.must false (.must false (.must false (.must false .stop))))))))))))))) .stop))))))) .stop)
theorem kT_is (nl2 : Bool) (N : Nat) (g : Nat → Nat → AV) : kT nl2 N g kT_p = (cond (decide (N - 0 = N))
  (cond (decide (N - 0 = N)) (cond ((okB g (N))) (cond (Nat.ble N 1000000) (cond (bif nl2 then Nat.beq N 0 else true) (cond ((entOK g (0) (N)))
  (cond (Nat.beq (bnum g 0) 0)
  (cond (wOK (IntKind.wrap IntKind.i64 (val g (0 + 24) 1)) (strV g (0 + 51) (tlen g 0)) 0)
  (cond (((↑(52 + List.length (strV g (0 + 51) (tlen g 0)) + 24 * 0) : Int) == IntKind.wrap IntKind.i64 ((↑N : Int) - (↑(N - eEnd g 0) : Int))) == true)
  (cond (((↑(52 + List.length (strV g (0 + 51) (tlen g 0)) + 24 * 0) : Int) == IntKind.wrap IntKind.i64 ((↑N : Int) - (↑(N - eEnd g 0) : Int))) == true) (cond (((↑(52 + List.length (strV g (0 + 51) (tlen g 0)) + 24 * 0) : Int) == IntKind.wrap IntKind.i64 ((↑N : Int) - (↑(N - eEnd g 0) : Int))) == true) (cond (((↑(52 + List.length (strV g (0 + 51) (tlen g 0)) + 24 * 0) : Int) == IntKind.wrap IntKind.i64 ((↑N : Int) - (↑(N - eEnd g 0) : Int))) == true) (cond (((↑(52 + List.length (strV g (0 + 51) (tlen g 0)) + 24 * 0) : Int) == IntKind.wrap IntKind.i64 ((↑N : Int) - (↑(N - eEnd g 0) : Int))) == true) (cond (((↑(52 + List.length (strV g (0 + 51) (tlen g 0)) + 24 * 0) : Int) == IntKind.wrap IntKind.i64 ((↑N : Int) - (↑(N - eEnd g 0) : Int))) == true) (cond (((↑(52 + List.length (strV g (0 + 51) (tlen g 0)) + 24 * 0) : Int) == IntKind.wrap IntKind.i64 ((↑N : Int) - (↑(N - eEnd g 0) : Int))) == true) (cond (Nat.ble (Int.toNat (IntKind.wrap IntKind.i64 ((↑N : Int) - (↑(N - eEnd g 0) : Int)))) N)
  (cond (decide (0 ≤ IntKind.wrap IntKind.i64 ((↑N : Int) - (↑(N - eEnd g 0) : Int))))
  (cond (((↑(52 + List.length (strV g (0 + 51) (tlen g 0)) + 24 * 0) : Int) == IntKind.wrap IntKind.i64 ((↑N : Int) - (↑(N - eEnd g 0) : Int))) == true) (cond (Nat.ble (0 + 0 + (Int.toNat (IntKind.wrap IntKind.i64 ((↑N : Int) - (↑(N - eEnd g 0) : Int))) - 0)) N)
  (cond (List.all (List.range (Int.toNat (IntKind.wrap IntKind.i64 ((↑N : Int) - (↑(N - eEnd g 0) : Int))) - 0)) fun i => decide (0 ≤ byteAt g (0 + 0 + i)) && decide (byteAt g (0 + 0 + i) < 256))
  (cond (((↑(52 + List.length (strV g (0 + 51) (tlen g 0)) + 24 * 0) : Int) == IntKind.wrap IntKind.i64 ((↑N : Int) - (↑(N - eEnd g 0) : Int))) == true) (cond (((↑(52 + List.length (strV g (0 + 51) (tlen g 0)) + 24 * 0) : Int) == IntKind.wrap IntKind.i64 ((↑N : Int) - (↑(N - eEnd g 0) : Int))) == true) (cond (Nat.ble (0 + (52 + List.length (strV g (0 + 51) (tlen g 0)) + 24 * 0)) (52 + List.length (strV g (0 + 51) (tlen g 0)) + 24 * 0))
  (cond (List.all (List.range (52 + List.length (strV g (0 + 51) (tlen g 0)) + 24 * 0)) fun i => decide (0 ≤ byteAt (entB (val g 0 8) (val g (0 + 8) 8) (val g (0 + 16) 8) (IntKind.wrap IntKind.i64 (val g (0 + 24) 1)) (val g (0 + 25) 8) (val g (0 + 33) 8) (IntKind.wrap IntKind.u32 (val g (0 + 41) 4)) (IntKind.wrap IntKind.u32 (val g (0 + 45) 4)) (strV g (0 + 51) (tlen g 0)) 0 fun x x_1 => AV.bad) (0 + i)) && decide (byteAt (entB (val g 0 8) (val g (0 + 8) 8) (val g (0 + 16) 8) (IntKind.wrap IntKind.i64 (val g (0 + 24) 1)) (val g (0 + 25) 8) (val g (0 + 33) 8) (IntKind.wrap IntKind.u32 (val g (0 + 41) 4)) (IntKind.wrap IntKind.u32 (val g (0 + 45) 4)) (strV g (0 + 51) (tlen g 0)) 0 fun x x_1 => AV.bad) (0 + i) < 256))
  (cond (((↑(52 + List.length (strV g (0 + 51) (tlen g 0)) + 24 * 0) : Int) == IntKind.wrap IntKind.i64 ((↑N : Int) - (↑(N - eEnd g 0) : Int))) == true) (cond ((↑(52 + List.length (strV g (0 + 51) (tlen g 0)) + 24 * 0) : Int) == IntKind.wrap IntKind.i64 ((↑N : Int) - (↑(N - eEnd g 0) : Int))) (cond ((List.map (fun i => Int.toNat (byteAt g (0 + 0 + i))) (List.range (Int.toNat (IntKind.wrap IntKind.i64 ((↑N : Int) - (↑(N - eEnd g 0) : Int))) - 0)) == List.map (fun i => Int.toNat (byteAt (entB (val g 0 8) (val g (0 + 8) 8) (val g (0 + 16) 8) (IntKind.wrap IntKind.i64 (val g (0 + 24) 1)) (val g (0 + 25) 8) (val g (0 + 33) 8) (IntKind.wrap IntKind.u32 (val g (0 + 41) 4)) (IntKind.wrap IntKind.u32 (val g (0 + 45) 4)) (strV g (0 + 51) (tlen g 0)) 0 fun x x_1 => AV.bad) (0 + i))) (List.range (52 + List.length (strV g (0 + 51) (tlen g 0)) + 24 * 0))) == true)
  (cond (List.map (fun i => Int.toNat (byteAt g (0 + 0 + i))) (List.range (Int.toNat (IntKind.wrap IntKind.i64 ((↑N : Int) - (↑(N - eEnd g 0) : Int))) - 0)) == List.map (fun i => Int.toNat (byteAt (entB (val g 0 8) (val g (0 + 8) 8) (val g (0 + 16) 8) (IntKind.wrap IntKind.i64 (val g (0 + 24) 1)) (val g (0 + 25) 8) (val g (0 + 33) 8) (IntKind.wrap IntKind.u32 (val g (0 + 41) 4)) (IntKind.wrap IntKind.u32 (val g (0 + 45) 4)) (strV g (0 + 51) (tlen g 0)) 0 fun x x_1 => AV.bad) (0 + i))) (List.range (52 + List.length (strV g (0 + 51) (tlen g 0)) + 24 * 0))) (cond (Nat.ble (0 + (52 + List.length (strV g (0 + 51) (tlen g 0)) + 24 * 0)) (52 + List.length (strV g (0 + 51) (tlen g 0)) + 24 * 0)) (cond (List.all (List.range (52 + List.length (strV g (0 + 51) (tlen g 0)) + 24 * 0)) fun i => decide (0 ≤ byteAt (entB (val g 0 8) (val g (0 + 8) 8) (val g (0 + 16) 8) (IntKind.wrap IntKind.i64 (val g (0 + 24) 1)) (val g (0 + 25) 8) (val g (0 + 33) 8) (IntKind.wrap IntKind.u32 (val g (0 + 41) 4)) (IntKind.wrap IntKind.u32 (val g (0 + 45) 4)) (strV g (0 + 51) (tlen g 0)) 0 fun x x_1 => AV.bad) (0 + i)) && decide (byteAt (entB (val g 0 8) (val g (0 + 8) 8) (val g (0 + 16) 8) (IntKind.wrap IntKind.i64 (val g (0 + 24) 1)) (val g (0 + 25) 8) (val g (0 + 33) 8) (IntKind.wrap IntKind.u32 (val g (0 + 41) 4)) (IntKind.wrap IntKind.u32 (val g (0 + 45) 4)) (strV g (0 + 51) (tlen g 0)) 0 fun x x_1 => AV.bad) (0 + i) < 256)) (cond (List.map (fun i => Int.toNat (byteAt (entB (val g 0 8) (val g (0 + 8) 8) (val g (0 + 16) 8) (IntKind.wrap IntKind.i64 (val g (0 + 24) 1)) (val g (0 + 25) 8) (val g (0 + 33) 8) (IntKind.wrap IntKind.u32 (val g (0 + 41) 4)) (IntKind.wrap IntKind.u32 (val g (0 + 45) 4)) (strV g (0 + 51) (tlen g 0)) 0 fun x x_1 => AV.bad) (0 + i))) (List.range (52 + List.length (strV g (0 + 51) (tlen g 0)) + 24 * 0)) == List.map (fun i => Int.toNat (byteAt (entB (val g 0 8) (val g (0 + 8) 8) (val g (0 + 16) 8) (IntKind.wrap IntKind.i64 (val g (0 + 24) 1)) (val g (0 + 25) 8) (val g (0 + 33) 8) (IntKind.wrap IntKind.u32 (val g (0 + 41) 4)) (IntKind.wrap IntKind.u32 (val g (0 + 45) 4)) (strV g (0 + 51) (tlen g 0)) 0 fun x x_1 => AV.bad) (0 + i))) (List.range (52 + List.length (strV g (0 + 51) (tlen g 0)) + 24 * 0))) (cond (Nat.ble (0 + (52 + List.length (strV g (0 + 51) (tlen g 0)) + 24 * 0)) (52 + List.length (strV g (0 + 51) (tlen g 0)) + 24 * 0)) (cond (List.all (List.range (52 + List.length (strV g (0 + 51) (tlen g 0)) + 24 * 0)) fun i => decide (0 ≤ byteAt (entB (val g 0 8) (val g (0 + 8) 8) (val g (0 + 16) 8) (IntKind.wrap IntKind.i64 (val g (0 + 24) 1)) (val g (0 + 25) 8) (val g (0 + 33) 8) (IntKind.wrap IntKind.u32 (val g (0 + 41) 4)) (IntKind.wrap IntKind.u32 (val g (0 + 45) 4)) (strV g (0 + 51) (tlen g 0)) 0 fun x x_1 => AV.bad) (0 + i)) && decide (byteAt (entB (val g 0 8) (val g (0 + 8) 8) (val g (0 + 16) 8) (IntKind.wrap IntKind.i64 (val g (0 + 24) 1)) (val g (0 + 25) 8) (val g (0 + 33) 8) (IntKind.wrap IntKind.u32 (val g (0 + 41) 4)) (IntKind.wrap IntKind.u32 (val g (0 + 45) 4)) (strV g (0 + 51) (tlen g 0)) 0 fun x x_1 => AV.bad) (0 + i) < 256)) (cond (List.map (fun i => Int.toNat (byteAt (entB (val g 0 8) (val g (0 + 8) 8) (val g (0 + 16) 8) (IntKind.wrap IntKind.i64 (val g (0 + 24) 1)) (val g (0 + 25) 8) (val g (0 + 33) 8) (IntKind.wrap IntKind.u32 (val g (0 + 41) 4)) (IntKind.wrap IntKind.u32 (val g (0 + 45) 4)) (strV g (0 + 51) (tlen g 0)) 0 fun x x_1 => AV.bad) (0 + i))) (List.range (52 + List.length (strV g (0 + 51) (tlen g 0)) + 24 * 0)) == List.map (fun i => Int.toNat (byteAt (entB (val g 0 8) (val g (0 + 8) 8) (val g (0 + 16) 8) (IntKind.wrap IntKind.i64 (val g (0 + 24) 1)) (val g (0 + 25) 8) (val g (0 + 33) 8) (IntKind.wrap IntKind.u32 (val g (0 + 41) 4)) (IntKind.wrap IntKind.u32 (val g (0 + 45) 4)) (strV g (0 + 51) (tlen g 0)) 0 fun x x_1 => AV.bad) (0 + i))) (List.range (52 + List.length (strV g (0 + 51) (tlen g 0)) + 24 * 0))) (cond (Nat.ble (0 + 0 + (Int.toNat (IntKind.wrap IntKind.i64 ((↑N : Int) - (↑(N - eEnd g 0) : Int))) - 0)) N) (cond (List.all (List.range (Int.toNat (IntKind.wrap IntKind.i64 ((↑N : Int) - (↑(N - eEnd g 0) : Int))) - 0)) fun i => decide (0 ≤ byteAt g (0 + 0 + i)) && decide (byteAt g (0 + 0 + i) < 256)) (cond (List.map (fun i => Int.toNat (byteAt g (0 + 0 + i))) (List.range (Int.toNat (IntKind.wrap IntKind.i64 ((↑N : Int) - (↑(N - eEnd g 0) : Int))) - 0)) == List.map (fun i => Int.toNat (byteAt g (0 + 0 + i))) (List.range (Int.toNat (IntKind.wrap IntKind.i64 ((↑N : Int) - (↑(N - eEnd g 0) : Int))) - 0))) (cond (Nat.ble (Int.toNat (IntKind.wrap IntKind.i64 ((↑N : Int) - (↑(N - eEnd g 0) : Int)))) N) (cond (decide (0 ≤ IntKind.wrap IntKind.i64 ((↑N : Int) - (↑(N - eEnd g 0) : Int)))) (cond (nl2 == nl2) (cond (Nat.beq (Int.toNat (IntKind.wrap IntKind.i64 ((↑N : Int) - (↑(N - eEnd g 0) : Int))) - 0) (Int.toNat (IntKind.wrap IntKind.i64 ((↑N : Int) - (↑(N - eEnd g 0) : Int))) - 0)) (cond (Nat.beq (N - 0) (N - 0)) (cond (decide ((↑N : Int) = (↑N : Int))) (cond (decide ((↑N : Int) = (↑N : Int))) (cond (decide ((↑N : Int) = (↑N : Int))) (cond (decide ((↑N : Int) = (↑N : Int))) (cond (decide ((↑(52 + List.length (strV g (0 + 51) (tlen g 0)) + 24 * 0) : Int) = (↑(52 + List.length (strV g (0 + 51) (tlen g 0)) + 24 * 0) : Int))) (cond (decide ((↑(52 + List.length (strV g (0 + 51) (tlen g 0)) + 24 * 0) : Int) = (↑(52 + List.length (strV g (0 + 51) (tlen g 0)) + 24 * 0) : Int))) (some (0, (CS.mk [(AV.bool (true))] []))) none) none) none) none) none) none) none) none) none) none) none) none) none) none) none) none) none) none) none) none) none)
  (cond (List.map (fun i => Int.toNat (byteAt g (0 + 0 + i))) (List.range (Int.toNat (IntKind.wrap IntKind.i64 ((↑N : Int) - (↑(N - eEnd g 0) : Int))) - 0)) == List.map (fun i => Int.toNat (byteAt (entB (val g 0 8) (val g (0 + 8) 8) (val g (0 + 16) 8) (IntKind.wrap IntKind.i64 (val g (0 + 24) 1)) (val g (0 + 25) 8) (val g (0 + 33) 8) (IntKind.wrap IntKind.u32 (val g (0 + 41) 4)) (IntKind.wrap IntKind.u32 (val g (0 + 45) 4)) (strV g (0 + 51) (tlen g 0)) 0 fun x x_1 => AV.bad) (0 + i))) (List.range (52 + List.length (strV g (0 + 51) (tlen g 0)) + 24 * 0))) none (cond (Nat.ble (0 + (52 + List.length (strV g (0 + 51) (tlen g 0)) + 24 * 0)) (52 + List.length (strV g (0 + 51) (tlen g 0)) + 24 * 0)) (cond (List.all (List.range (52 + List.length (strV g (0 + 51) (tlen g 0)) + 24 * 0)) fun i => decide (0 ≤ byteAt (entB (val g 0 8) (val g (0 + 8) 8) (val g (0 + 16) 8) (IntKind.wrap IntKind.i64 (val g (0 + 24) 1)) (val g (0 + 25) 8) (val g (0 + 33) 8) (IntKind.wrap IntKind.u32 (val g (0 + 41) 4)) (IntKind.wrap IntKind.u32 (val g (0 + 45) 4)) (strV g (0 + 51) (tlen g 0)) 0 fun x x_1 => AV.bad) (0 + i)) && decide (byteAt (entB (val g 0 8) (val g (0 + 8) 8) (val g (0 + 16) 8) (IntKind.wrap IntKind.i64 (val g (0 + 24) 1)) (val g (0 + 25) 8) (val g (0 + 33) 8) (IntKind.wrap IntKind.u32 (val g (0 + 41) 4)) (IntKind.wrap IntKind.u32 (val g (0 + 45) 4)) (strV g (0 + 51) (tlen g 0)) 0 fun x x_1 => AV.bad) (0 + i) < 256)) (cond (List.map (fun i => Int.toNat (byteAt (entB (val g 0 8) (val g (0 + 8) 8) (val g (0 + 16) 8) (IntKind.wrap IntKind.i64 (val g (0 + 24) 1)) (val g (0 + 25) 8) (val g (0 + 33) 8) (IntKind.wrap IntKind.u32 (val g (0 + 41) 4)) (IntKind.wrap IntKind.u32 (val g (0 + 45) 4)) (strV g (0 + 51) (tlen g 0)) 0 fun x x_1 => AV.bad) (0 + i))) (List.range (52 + List.length (strV g (0 + 51) (tlen g 0)) + 24 * 0)) == List.map (fun i => Int.toNat (byteAt (entB (val g 0 8) (val g (0 + 8) 8) (val g (0 + 16) 8) (IntKind.wrap IntKind.i64 (val g (0 + 24) 1)) (val g (0 + 25) 8) (val g (0 + 33) 8) (IntKind.wrap IntKind.u32 (val g (0 + 41) 4)) (IntKind.wrap IntKind.u32 (val g (0 + 45) 4)) (strV g (0 + 51) (tlen g 0)) 0 fun x x_1 => AV.bad) (0 + i))) (List.range (52 + List.length (strV g (0 + 51) (tlen g 0)) + 24 * 0))) (cond (Nat.ble (0 + (52 + List.length (strV g (0 + 51) (tlen g 0)) + 24 * 0)) (52 + List.length (strV g (0 + 51) (tlen g 0)) + 24 * 0)) (cond (List.all (List.range (52 + List.length (strV g (0 + 51) (tlen g 0)) + 24 * 0)) fun i => decide (0 ≤ byteAt (entB (val g 0 8) (val g (0 + 8) 8) (val g (0 + 16) 8) (IntKind.wrap IntKind.i64 (val g (0 + 24) 1)) (val g (0 + 25) 8) (val g (0 + 33) 8) (IntKind.wrap IntKind.u32 (val g (0 + 41) 4)) (IntKind.wrap IntKind.u32 (val g (0 + 45) 4)) (strV g (0 + 51) (tlen g 0)) 0 fun x x_1 => AV.bad) (0 + i)) && decide (byteAt (entB (val g 0 8) (val g (0 + 8) 8) (val g (0 + 16) 8) (IntKind.wrap IntKind.i64 (val g (0 + 24) 1)) (val g (0 + 25) 8) (val g (0 + 33) 8) (IntKind.wrap IntKind.u32 (val g (0 + 41) 4)) (IntKind.wrap IntKind.u32 (val g (0 + 45) 4)) (strV g (0 + 51) (tlen g 0)) 0 fun x x_1 => AV.bad) (0 + i) < 256)) (cond (List.map (fun i => Int.toNat (byteAt (entB (val g 0 8) (val g (0 + 8) 8) (val g (0 + 16) 8) (IntKind.wrap IntKind.i64 (val g (0 + 24) 1)) (val g (0 + 25) 8) (val g (0 + 33) 8) (IntKind.wrap IntKind.u32 (val g (0 + 41) 4)) (IntKind.wrap IntKind.u32 (val g (0 + 45) 4)) (strV g (0 + 51) (tlen g 0)) 0 fun x x_1 => AV.bad) (0 + i))) (List.range (52 + List.length (strV g (0 + 51) (tlen g 0)) + 24 * 0)) == List.map (fun i => Int.toNat (byteAt (entB (val g 0 8) (val g (0 + 8) 8) (val g (0 + 16) 8) (IntKind.wrap IntKind.i64 (val g (0 + 24) 1)) (val g (0 + 25) 8) (val g (0 + 33) 8) (IntKind.wrap IntKind.u32 (val g (0 + 41) 4)) (IntKind.wrap IntKind.u32 (val g (0 + 45) 4)) (strV g (0 + 51) (tlen g 0)) 0 fun x x_1 => AV.bad) (0 + i))) (List.range (52 + List.length (strV g (0 + 51) (tlen g 0)) + 24 * 0))) (cond (Nat.ble (0 + 0 + (Int.toNat (IntKind.wrap IntKind.i64 ((↑N : Int) - (↑(N - eEnd g 0) : Int))) - 0)) N) (cond (List.all (List.range (Int.toNat (IntKind.wrap IntKind.i64 ((↑N : Int) - (↑(N - eEnd g 0) : Int))) - 0)) fun i => decide (0 ≤ byteAt g (0 + 0 + i)) && decide (byteAt g (0 + 0 + i) < 256)) (cond (List.map (fun i => Int.toNat (byteAt g (0 + 0 + i))) (List.range (Int.toNat (IntKind.wrap IntKind.i64 ((↑N : Int) - (↑(N - eEnd g 0) : Int))) - 0)) == List.map (fun i => Int.toNat (byteAt g (0 + 0 + i))) (List.range (Int.toNat (IntKind.wrap IntKind.i64 ((↑N : Int) - (↑(N - eEnd g 0) : Int))) - 0))) (cond (Nat.ble (Int.toNat (IntKind.wrap IntKind.i64 ((↑N : Int) - (↑(N - eEnd g 0) : Int)))) N) (cond (decide (0 ≤ IntKind.wrap IntKind.i64 ((↑N : Int) - (↑(N - eEnd g 0) : Int)))) (cond (nl2 == nl2) (cond (Nat.beq (Int.toNat (IntKind.wrap IntKind.i64 ((↑N : Int) - (↑(N - eEnd g 0) : Int))) - 0) (Int.toNat (IntKind.wrap IntKind.i64 ((↑N : Int) - (↑(N - eEnd g 0) : Int))) - 0)) (cond (Nat.beq (N - 0) (N - 0)) (cond (decide ((↑N : Int) = (↑N : Int))) (cond (decide ((↑N : Int) = (↑N : Int))) (cond (decide ((↑N : Int) = (↑N : Int))) (cond (decide ((↑N : Int) = (↑N : Int))) (cond (decide ((↑(52 + List.length (strV g (0 + 51) (tlen g 0)) + 24 * 0) : Int) = (↑(52 + List.length (strV g (0 + 51) (tlen g 0)) + 24 * 0) : Int))) (cond (decide ((↑(52 + List.length (strV g (0 + 51) (tlen g 0)) + 24 * 0) : Int) = (↑(52 + List.length (strV g (0 + 51) (tlen g 0)) + 24 * 0) : Int))) (some (0, (CS.mk [(AV.bool (false))] []))) none) none) none) none) none) none) none) none) none) none) none) none) none) none) none) none) none) none) none) none))) none) none)
  none)
  none) none) none)
  none)
  none) none)
  none)
  none) none) none) none) none) none) none)
  (cond (((↑(52 + List.length (strV g (0 + 51) (tlen g 0)) + 24 * 0) : Int) == IntKind.wrap IntKind.i64 ((↑N : Int) - (↑(N - eEnd g 0) : Int))) == true) none (cond (((↑(52 + List.length (strV g (0 + 51) (tlen g 0)) + 24 * 0) : Int) == IntKind.wrap IntKind.i64 ((↑N : Int) - (↑(N - eEnd g 0) : Int))) == true) none (cond (((↑(52 + List.length (strV g (0 + 51) (tlen g 0)) + 24 * 0) : Int) == IntKind.wrap IntKind.i64 ((↑N : Int) - (↑(N - eEnd g 0) : Int))) == true) none (cond (((↑(52 + List.length (strV g (0 + 51) (tlen g 0)) + 24 * 0) : Int) == IntKind.wrap IntKind.i64 ((↑N : Int) - (↑(N - eEnd g 0) : Int))) == true) none (cond (((↑(52 + List.length (strV g (0 + 51) (tlen g 0)) + 24 * 0) : Int) == IntKind.wrap IntKind.i64 ((↑N : Int) - (↑(N - eEnd g 0) : Int))) == true) none (cond (((↑(52 + List.length (strV g (0 + 51) (tlen g 0)) + 24 * 0) : Int) == IntKind.wrap IntKind.i64 ((↑N : Int) - (↑(N - eEnd g 0) : Int))) == true) none (cond (((↑(52 + List.length (strV g (0 + 51) (tlen g 0)) + 24 * 0) : Int) == IntKind.wrap IntKind.i64 ((↑N : Int) - (↑(N - eEnd g 0) : Int))) == true) none (cond (((↑(52 + List.length (strV g (0 + 51) (tlen g 0)) + 24 * 0) : Int) == IntKind.wrap IntKind.i64 ((↑N : Int) - (↑(N - eEnd g 0) : Int))) == true) none (cond (((↑(52 + List.length (strV g (0 + 51) (tlen g 0)) + 24 * 0) : Int) == IntKind.wrap IntKind.i64 ((↑N : Int) - (↑(N - eEnd g 0) : Int))) == true) none (cond (((↑(52 + List.length (strV g (0 + 51) (tlen g 0)) + 24 * 0) : Int) == IntKind.wrap IntKind.i64 ((↑N : Int) - (↑(N - eEnd g 0) : Int))) == true) none (cond ((↑(52 + List.length (strV g (0 + 51) (tlen g 0)) + 24 * 0) : Int) == IntKind.wrap IntKind.i64 ((↑N : Int) - (↑(N - eEnd g 0) : Int))) none (cond (decide ((↑N : Int) = (↑N : Int))) (cond (decide ((↑N : Int) = (↑N : Int))) (cond (decide ((↑(52 + List.length (strV g (0 + 51) (tlen g 0)) + 24 * 0) : Int) = (↑(52 + List.length (strV g (0 + 51) (tlen g 0)) + 24 * 0) : Int))) (cond (decide ((↑(52 + List.length (strV g (0 + 51) (tlen g 0)) + 24 * 0) : Int) = (↑(52 + List.length (strV g (0 + 51) (tlen g 0)) + 24 * 0) : Int))) (some (0, (CS.mk [(AV.bool (false))] []))) none) none) none) none)))))))))))))
  (cond ((errN (IntKind.wrap IntKind.i64 (val g (0 + 24) 1)) (strV g (0 + 51) (tlen g 0)) 0 == 0) == true) none (cond ((errN (IntKind.wrap IntKind.i64 (val g (0 + 24) 1)) (strV g (0 + 51) (tlen g 0)) 0 == 0) == true) none (cond ((errN (IntKind.wrap IntKind.i64 (val g (0 + 24) 1)) (strV g (0 + 51) (tlen g 0)) 0 == 0) == true) none (cond ((errN (IntKind.wrap IntKind.i64 (val g (0 + 24) 1)) (strV g (0 + 51) (tlen g 0)) 0 == 0) == true) none (cond ((errN (IntKind.wrap IntKind.i64 (val g (0 + 24) 1)) (strV g (0 + 51) (tlen g 0)) 0 == 0) == true) none (cond ((errN (IntKind.wrap IntKind.i64 (val g (0 + 24) 1)) (strV g (0 + 51) (tlen g 0)) 0 == 0) == true) none (cond ((errN (IntKind.wrap IntKind.i64 (val g (0 + 24) 1)) (strV g (0 + 51) (tlen g 0)) 0 == 0) == true) none (cond ((errN (IntKind.wrap IntKind.i64 (val g (0 + 24) 1)) (strV g (0 + 51) (tlen g 0)) 0 == 0) == true) none (cond (errN (IntKind.wrap IntKind.i64 (val g (0 + 24) 1)) (strV g (0 + 51) (tlen g 0)) 0 == 0) none (some (0, (CS.mk [(AV.bool (false))] [])))))))))))))
  (cond (decide (bnum g 0 = bnum g 0)) (cond (decide (bnum g 0 = bnum g 0)) (cond (wOK (IntKind.wrap IntKind.i64 (val g (0 + 24) 1)) (strV g (0 + 51) (tlen g 0)) (bnum g 0))
  (cond (((↑(52 + List.length (strV g (0 + 51) (tlen g 0)) + 24 * bnum g 0) : Int) == IntKind.wrap IntKind.i64 ((↑N : Int) - (↑(N - eEnd g 0) : Int))) == true)
  (cond (((↑(52 + List.length (strV g (0 + 51) (tlen g 0)) + 24 * bnum g 0) : Int) == IntKind.wrap IntKind.i64 ((↑N : Int) - (↑(N - eEnd g 0) : Int))) == true) (cond (((↑(52 + List.length (strV g (0 + 51) (tlen g 0)) + 24 * bnum g 0) : Int) == IntKind.wrap IntKind.i64 ((↑N : Int) - (↑(N - eEnd g 0) : Int))) == true) (cond (((↑(52 + List.length (strV g (0 + 51) (tlen g 0)) + 24 * bnum g 0) : Int) == IntKind.wrap IntKind.i64 ((↑N : Int) - (↑(N - eEnd g 0) : Int))) == true) (cond (((↑(52 + List.length (strV g (0 + 51) (tlen g 0)) + 24 * bnum g 0) : Int) == IntKind.wrap IntKind.i64 ((↑N : Int) - (↑(N - eEnd g 0) : Int))) == true) (cond (((↑(52 + List.length (strV g (0 + 51) (tlen g 0)) + 24 * bnum g 0) : Int) == IntKind.wrap IntKind.i64 ((↑N : Int) - (↑(N - eEnd g 0) : Int))) == true) (cond (((↑(52 + List.length (strV g (0 + 51) (tlen g 0)) + 24 * bnum g 0) : Int) == IntKind.wrap IntKind.i64 ((↑N : Int) - (↑(N - eEnd g 0) : Int))) == true) (cond (Nat.ble (Int.toNat (IntKind.wrap IntKind.i64 ((↑N : Int) - (↑(N - eEnd g 0) : Int)))) N)
  (cond (decide (0 ≤ IntKind.wrap IntKind.i64 ((↑N : Int) - (↑(N - eEnd g 0) : Int))))
  (cond (((↑(52 + List.length (strV g (0 + 51) (tlen g 0)) + 24 * bnum g 0) : Int) == IntKind.wrap IntKind.i64 ((↑N : Int) - (↑(N - eEnd g 0) : Int))) == true) (cond (Nat.ble (0 + 0 + (Int.toNat (IntKind.wrap IntKind.i64 ((↑N : Int) - (↑(N - eEnd g 0) : Int))) - 0)) N)
  (cond (List.all (List.range (Int.toNat (IntKind.wrap IntKind.i64 ((↑N : Int) - (↑(N - eEnd g 0) : Int))) - 0)) fun i => decide (0 ≤ byteAt g (0 + 0 + i)) && decide (byteAt g (0 + 0 + i) < 256))
  (cond (((↑(52 + List.length (strV g (0 + 51) (tlen g 0)) + 24 * bnum g 0) : Int) == IntKind.wrap IntKind.i64 ((↑N : Int) - (↑(N - eEnd g 0) : Int))) == true) (cond (((↑(52 + List.length (strV g (0 + 51) (tlen g 0)) + 24 * bnum g 0) : Int) == IntKind.wrap IntKind.i64 ((↑N : Int) - (↑(N - eEnd g 0) : Int))) == true) (cond (Nat.ble (0 + (52 + List.length (strV g (0 + 51) (tlen g 0)) + 24 * bnum g 0)) (52 + List.length (strV g (0 + 51) (tlen g 0)) + 24 * bnum g 0))
  (cond (List.all (List.range (52 + List.length (strV g (0 + 51) (tlen g 0)) + 24 * bnum g 0)) fun i => decide (0 ≤ byteAt (entB (val g 0 8) (val g (0 + 8) 8) (val g (0 + 16) 8) (IntKind.wrap IntKind.i64 (val g (0 + 24) 1)) (val g (0 + 25) 8) (val g (0 + 33) 8) (IntKind.wrap IntKind.u32 (val g (0 + 41) 4)) (IntKind.wrap IntKind.u32 (val g (0 + 45) 4)) (strV g (0 + 51) (tlen g 0)) (bnum g 0) (lookF g (0 + (51 + (tlen g 0 + 1))))) (0 + i)) && decide (byteAt (entB (val g 0 8) (val g (0 + 8) 8) (val g (0 + 16) 8) (IntKind.wrap IntKind.i64 (val g (0 + 24) 1)) (val g (0 + 25) 8) (val g (0 + 33) 8) (IntKind.wrap IntKind.u32 (val g (0 + 41) 4)) (IntKind.wrap IntKind.u32 (val g (0 + 45) 4)) (strV g (0 + 51) (tlen g 0)) (bnum g 0) (lookF g (0 + (51 + (tlen g 0 + 1))))) (0 + i) < 256))
  (cond (((↑(52 + List.length (strV g (0 + 51) (tlen g 0)) + 24 * bnum g 0) : Int) == IntKind.wrap IntKind.i64 ((↑N : Int) - (↑(N - eEnd g 0) : Int))) == true) (cond ((↑(52 + List.length (strV g (0 + 51) (tlen g 0)) + 24 * bnum g 0) : Int) == IntKind.wrap IntKind.i64 ((↑N : Int) - (↑(N - eEnd g 0) : Int))) (cond ((List.map (fun i => Int.toNat (byteAt g (0 + 0 + i))) (List.range (Int.toNat (IntKind.wrap IntKind.i64 ((↑N : Int) - (↑(N - eEnd g 0) : Int))) - 0)) == List.map (fun i => Int.toNat (byteAt (entB (val g 0 8) (val g (0 + 8) 8) (val g (0 + 16) 8) (IntKind.wrap IntKind.i64 (val g (0 + 24) 1)) (val g (0 + 25) 8) (val g (0 + 33) 8) (IntKind.wrap IntKind.u32 (val g (0 + 41) 4)) (IntKind.wrap IntKind.u32 (val g (0 + 45) 4)) (strV g (0 + 51) (tlen g 0)) (bnum g 0) (lookF g (0 + (51 + (tlen g 0 + 1))))) (0 + i))) (List.range (52 + List.length (strV g (0 + 51) (tlen g 0)) + 24 * bnum g 0))) == true)
  (cond (List.map (fun i => Int.toNat (byteAt g (0 + 0 + i))) (List.range (Int.toNat (IntKind.wrap IntKind.i64 ((↑N : Int) - (↑(N - eEnd g 0) : Int))) - 0)) == List.map (fun i => Int.toNat (byteAt (entB (val g 0 8) (val g (0 + 8) 8) (val g (0 + 16) 8) (IntKind.wrap IntKind.i64 (val g (0 + 24) 1)) (val g (0 + 25) 8) (val g (0 + 33) 8) (IntKind.wrap IntKind.u32 (val g (0 + 41) 4)) (IntKind.wrap IntKind.u32 (val g (0 + 45) 4)) (strV g (0 + 51) (tlen g 0)) (bnum g 0) (lookF g (0 + (51 + (tlen g 0 + 1))))) (0 + i))) (List.range (52 + List.length (strV g (0 + 51) (tlen g 0)) + 24 * bnum g 0))) (cond (Nat.ble (0 + (52 + List.length (strV g (0 + 51) (tlen g 0)) + 24 * bnum g 0)) (52 + List.length (strV g (0 + 51) (tlen g 0)) + 24 * bnum g 0)) (cond (List.all (List.range (52 + List.length (strV g (0 + 51) (tlen g 0)) + 24 * bnum g 0)) fun i => decide (0 ≤ byteAt (entB (val g 0 8) (val g (0 + 8) 8) (val g (0 + 16) 8) (IntKind.wrap IntKind.i64 (val g (0 + 24) 1)) (val g (0 + 25) 8) (val g (0 + 33) 8) (IntKind.wrap IntKind.u32 (val g (0 + 41) 4)) (IntKind.wrap IntKind.u32 (val g (0 + 45) 4)) (strV g (0 + 51) (tlen g 0)) (bnum g 0) (lookF g (0 + (51 + (tlen g 0 + 1))))) (0 + i)) && decide (byteAt (entB (val g 0 8) (val g (0 + 8) 8) (val g (0 + 16) 8) (IntKind.wrap IntKind.i64 (val g (0 + 24) 1)) (val g (0 + 25) 8) (val g (0 + 33) 8) (IntKind.wrap IntKind.u32 (val g (0 + 41) 4)) (IntKind.wrap IntKind.u32 (val g (0 + 45) 4)) (strV g (0 + 51) (tlen g 0)) (bnum g 0) (lookF g (0 + (51 + (tlen g 0 + 1))))) (0 + i) < 256)) (cond (List.map (fun i => Int.toNat (byteAt (entB (val g 0 8) (val g (0 + 8) 8) (val g (0 + 16) 8) (IntKind.wrap IntKind.i64 (val g (0 + 24) 1)) (val g (0 + 25) 8) (val g (0 + 33) 8) (IntKind.wrap IntKind.u32 (val g (0 + 41) 4)) (IntKind.wrap IntKind.u32 (val g (0 + 45) 4)) (strV g (0 + 51) (tlen g 0)) (bnum g 0) (lookF g (0 + (51 + (tlen g 0 + 1))))) (0 + i))) (List.range (52 + List.length (strV g (0 + 51) (tlen g 0)) + 24 * bnum g 0)) == List.map (fun i => Int.toNat (byteAt (entB (val g 0 8) (val g (0 + 8) 8) (val g (0 + 16) 8) (IntKind.wrap IntKind.i64 (val g (0 + 24) 1)) (val g (0 + 25) 8) (val g (0 + 33) 8) (IntKind.wrap IntKind.u32 (val g (0 + 41) 4)) (IntKind.wrap IntKind.u32 (val g (0 + 45) 4)) (strV g (0 + 51) (tlen g 0)) (bnum g 0) (lookF g (0 + (51 + (tlen g 0 + 1))))) (0 + i))) (List.range (52 + List.length (strV g (0 + 51) (tlen g 0)) + 24 * bnum g 0))) (cond (Nat.ble (0 + (52 + List.length (strV g (0 + 51) (tlen g 0)) + 24 * bnum g 0)) (52 + List.length (strV g (0 + 51) (tlen g 0)) + 24 * bnum g 0)) (cond (List.all (List.range (52 + List.length (strV g (0 + 51) (tlen g 0)) + 24 * bnum g 0)) fun i => decide (0 ≤ byteAt (entB (val g 0 8) (val g (0 + 8) 8) (val g (0 + 16) 8) (IntKind.wrap IntKind.i64 (val g (0 + 24) 1)) (val g (0 + 25) 8) (val g (0 + 33) 8) (IntKind.wrap IntKind.u32 (val g (0 + 41) 4)) (IntKind.wrap IntKind.u32 (val g (0 + 45) 4)) (strV g (0 + 51) (tlen g 0)) (bnum g 0) (lookF g (0 + (51 + (tlen g 0 + 1))))) (0 + i)) && decide (byteAt (entB (val g 0 8) (val g (0 + 8) 8) (val g (0 + 16) 8) (IntKind.wrap IntKind.i64 (val g (0 + 24) 1)) (val g (0 + 25) 8) (val g (0 + 33) 8) (IntKind.wrap IntKind.u32 (val g (0 + 41) 4)) (IntKind.wrap IntKind.u32 (val g (0 + 45) 4)) (strV g (0 + 51) (tlen g 0)) (bnum g 0) (lookF g (0 + (51 + (tlen g 0 + 1))))) (0 + i) < 256)) (cond (List.map (fun i => Int.toNat (byteAt (entB (val g 0 8) (val g (0 + 8) 8) (val g (0 + 16) 8) (IntKind.wrap IntKind.i64 (val g (0 + 24) 1)) (val g (0 + 25) 8) (val g (0 + 33) 8) (IntKind.wrap IntKind.u32 (val g (0 + 41) 4)) (IntKind.wrap IntKind.u32 (val g (0 + 45) 4)) (strV g (0 + 51) (tlen g 0)) (bnum g 0) (lookF g (0 + (51 + (tlen g 0 + 1))))) (0 + i))) (List.range (52 + List.length (strV g (0 + 51) (tlen g 0)) + 24 * bnum g 0)) == List.map (fun i => Int.toNat (byteAt (entB (val g 0 8) (val g (0 + 8) 8) (val g (0 + 16) 8) (IntKind.wrap IntKind.i64 (val g (0 + 24) 1)) (val g (0 + 25) 8) (val g (0 + 33) 8) (IntKind.wrap IntKind.u32 (val g (0 + 41) 4)) (IntKind.wrap IntKind.u32 (val g (0 + 45) 4)) (strV g (0 + 51) (tlen g 0)) (bnum g 0) (lookF g (0 + (51 + (tlen g 0 + 1))))) (0 + i))) (List.range (52 + List.length (strV g (0 + 51) (tlen g 0)) + 24 * bnum g 0))) (cond (Nat.ble (0 + 0 + (Int.toNat (IntKind.wrap IntKind.i64 ((↑N : Int) - (↑(N - eEnd g 0) : Int))) - 0)) N) (cond (List.all (List.range (Int.toNat (IntKind.wrap IntKind.i64 ((↑N : Int) - (↑(N - eEnd g 0) : Int))) - 0)) fun i => decide (0 ≤ byteAt g (0 + 0 + i)) && decide (byteAt g (0 + 0 + i) < 256)) (cond (List.map (fun i => Int.toNat (byteAt g (0 + 0 + i))) (List.range (Int.toNat (IntKind.wrap IntKind.i64 ((↑N : Int) - (↑(N - eEnd g 0) : Int))) - 0)) == List.map (fun i => Int.toNat (byteAt g (0 + 0 + i))) (List.range (Int.toNat (IntKind.wrap IntKind.i64 ((↑N : Int) - (↑(N - eEnd g 0) : Int))) - 0))) (cond (Nat.ble (Int.toNat (IntKind.wrap IntKind.i64 ((↑N : Int) - (↑(N - eEnd g 0) : Int)))) N) (cond (decide (0 ≤ IntKind.wrap IntKind.i64 ((↑N : Int) - (↑(N - eEnd g 0) : Int)))) (cond (nl2 == nl2) (cond (Nat.beq (Int.toNat (IntKind.wrap IntKind.i64 ((↑N : Int) - (↑(N - eEnd g 0) : Int))) - 0) (Int.toNat (IntKind.wrap IntKind.i64 ((↑N : Int) - (↑(N - eEnd g 0) : Int))) - 0)) (cond (Nat.beq (N - 0) (N - 0)) (cond (decide ((↑N : Int) = (↑N : Int))) (cond (decide ((↑N : Int) = (↑N : Int))) (cond (decide ((↑N : Int) = (↑N : Int))) (cond (decide ((↑N : Int) = (↑N : Int))) (cond (decide ((↑(52 + List.length (strV g (0 + 51) (tlen g 0)) + 24 * bnum g 0) : Int) = (↑(52 + List.length (strV g (0 + 51) (tlen g 0)) + 24 * bnum g 0) : Int))) (cond (decide ((↑(52 + List.length (strV g (0 + 51) (tlen g 0)) + 24 * bnum g 0) : Int) = (↑(52 + List.length (strV g (0 + 51) (tlen g 0)) + 24 * bnum g 0) : Int))) (some (0, (CS.mk [(AV.bool (true))] []))) none) none) none) none) none) none) none) none) none) none) none) none) none) none) none) none) none) none) none) none) none)
  (cond (List.map (fun i => Int.toNat (byteAt g (0 + 0 + i))) (List.range (Int.toNat (IntKind.wrap IntKind.i64 ((↑N : Int) - (↑(N - eEnd g 0) : Int))) - 0)) == List.map (fun i => Int.toNat (byteAt (entB (val g 0 8) (val g (0 + 8) 8) (val g (0 + 16) 8) (IntKind.wrap IntKind.i64 (val g (0 + 24) 1)) (val g (0 + 25) 8) (val g (0 + 33) 8) (IntKind.wrap IntKind.u32 (val g (0 + 41) 4)) (IntKind.wrap IntKind.u32 (val g (0 + 45) 4)) (strV g (0 + 51) (tlen g 0)) (bnum g 0) (lookF g (0 + (51 + (tlen g 0 + 1))))) (0 + i))) (List.range (52 + List.length (strV g (0 + 51) (tlen g 0)) + 24 * bnum g 0))) none (cond (Nat.ble (0 + (52 + List.length (strV g (0 + 51) (tlen g 0)) + 24 * bnum g 0)) (52 + List.length (strV g (0 + 51) (tlen g 0)) + 24 * bnum g 0)) (cond (List.all (List.range (52 + List.length (strV g (0 + 51) (tlen g 0)) + 24 * bnum g 0)) fun i => decide (0 ≤ byteAt (entB (val g 0 8) (val g (0 + 8) 8) (val g (0 + 16) 8) (IntKind.wrap IntKind.i64 (val g (0 + 24) 1)) (val g (0 + 25) 8) (val g (0 + 33) 8) (IntKind.wrap IntKind.u32 (val g (0 + 41) 4)) (IntKind.wrap IntKind.u32 (val g (0 + 45) 4)) (strV g (0 + 51) (tlen g 0)) (bnum g 0) (lookF g (0 + (51 + (tlen g 0 + 1))))) (0 + i)) && decide (byteAt (entB (val g 0 8) (val g (0 + 8) 8) (val g (0 + 16) 8) (IntKind.wrap IntKind.i64 (val g (0 + 24) 1)) (val g (0 + 25) 8) (val g (0 + 33) 8) (IntKind.wrap IntKind.u32 (val g (0 + 41) 4)) (IntKind.wrap IntKind.u32 (val g (0 + 45) 4)) (strV g (0 + 51) (tlen g 0)) (bnum g 0) (lookF g (0 + (51 + (tlen g 0 + 1))))) (0 + i) < 256)) (cond (List.map (fun i => Int.toNat (byteAt (entB (val g 0 8) (val g (0 + 8) 8) (val g (0 + 16) 8) (IntKind.wrap IntKind.i64 (val g (0 + 24) 1)) (val g (0 + 25) 8) (val g (0 + 33) 8) (IntKind.wrap IntKind.u32 (val g (0 + 41) 4)) (IntKind.wrap IntKind.u32 (val g (0 + 45) 4)) (strV g (0 + 51) (tlen g 0)) (bnum g 0) (lookF g (0 + (51 + (tlen g 0 + 1))))) (0 + i))) (List.range (52 + List.length (strV g (0 + 51) (tlen g 0)) + 24 * bnum g 0)) == List.map (fun i => Int.toNat (byteAt (entB (val g 0 8) (val g (0 + 8) 8) (val g (0 + 16) 8) (IntKind.wrap IntKind.i64 (val g (0 + 24) 1)) (val g (0 + 25) 8) (val g (0 + 33) 8) (IntKind.wrap IntKind.u32 (val g (0 + 41) 4)) (IntKind.wrap IntKind.u32 (val g (0 + 45) 4)) (strV g (0 + 51) (tlen g 0)) (bnum g 0) (lookF g (0 + (51 + (tlen g 0 + 1))))) (0 + i))) (List.range (52 + List.length (strV g (0 + 51) (tlen g 0)) + 24 * bnum g 0))) (cond (Nat.ble (0 + (52 + List.length (strV g (0 + 51) (tlen g 0)) + 24 * bnum g 0)) (52 + List.length (strV g (0 + 51) (tlen g 0)) + 24 * bnum g 0)) (cond (List.all (List.range (52 + List.length (strV g (0 + 51) (tlen g 0)) + 24 * bnum g 0)) fun i => decide (0 ≤ byteAt (entB (val g 0 8) (val g (0 + 8) 8) (val g (0 + 16) 8) (IntKind.wrap IntKind.i64 (val g (0 + 24) 1)) (val g (0 + 25) 8) (val g (0 + 33) 8) (IntKind.wrap IntKind.u32 (val g (0 + 41) 4)) (IntKind.wrap IntKind.u32 (val g (0 + 45) 4)) (strV g (0 + 51) (tlen g 0)) (bnum g 0) (lookF g (0 + (51 + (tlen g 0 + 1))))) (0 + i)) && decide (byteAt (entB (val g 0 8) (val g (0 + 8) 8) (val g (0 + 16) 8) (IntKind.wrap IntKind.i64 (val g (0 + 24) 1)) (val g (0 + 25) 8) (val g (0 + 33) 8) (IntKind.wrap IntKind.u32 (val g (0 + 41) 4)) (IntKind.wrap IntKind.u32 (val g (0 + 45) 4)) (strV g (0 + 51) (tlen g 0)) (bnum g 0) (lookF g (0 + (51 + (tlen g 0 + 1))))) (0 + i) < 256)) (cond (List.map (fun i => Int.toNat (byteAt (entB (val g 0 8) (val g (0 + 8) 8) (val g (0 + 16) 8) (IntKind.wrap IntKind.i64 (val g (0 + 24) 1)) (val g (0 + 25) 8) (val g (0 + 33) 8) (IntKind.wrap IntKind.u32 (val g (0 + 41) 4)) (IntKind.wrap IntKind.u32 (val g (0 + 45) 4)) (strV g (0 + 51) (tlen g 0)) (bnum g 0) (lookF g (0 + (51 + (tlen g 0 + 1))))) (0 + i))) (List.range (52 + List.length (strV g (0 + 51) (tlen g 0)) + 24 * bnum g 0)) == List.map (fun i => Int.toNat (byteAt (entB (val g 0 8) (val g (0 + 8) 8) (val g (0 + 16) 8) (IntKind.wrap IntKind.i64 (val g (0 + 24) 1)) (val g (0 + 25) 8) (val g (0 + 33) 8) (IntKind.wrap IntKind.u32 (val g (0 + 41) 4)) (IntKind.wrap IntKind.u32 (val g (0 + 45) 4)) (strV g (0 + 51) (tlen g 0)) (bnum g 0) (lookF g (0 + (51 + (tlen g 0 + 1))))) (0 + i))) (List.range (52 + List.length (strV g (0 + 51) (tlen g 0)) + 24 * bnum g 0))) (cond (Nat.ble (0 + 0 + (Int.toNat (IntKind.wrap IntKind.i64 ((↑N : Int) - (↑(N - eEnd g 0) : Int))) - 0)) N) (cond (List.all (List.range (Int.toNat (IntKind.wrap IntKind.i64 ((↑N : Int) - (↑(N - eEnd g 0) : Int))) - 0)) fun i => decide (0 ≤ byteAt g (0 + 0 + i)) && decide (byteAt g (0 + 0 + i) < 256)) (cond (List.map (fun i => Int.toNat (byteAt g (0 + 0 + i))) (List.range (Int.toNat (IntKind.wrap IntKind.i64 ((↑N : Int) - (↑(N - eEnd g 0) : Int))) - 0)) == List.map (fun i => Int.toNat (byteAt g (0 + 0 + i))) (List.range (Int.toNat (IntKind.wrap IntKind.i64 ((↑N : Int) - (↑(N - eEnd g 0) : Int))) - 0))) (cond (Nat.ble (Int.toNat (IntKind.wrap IntKind.i64 ((↑N : Int) - (↑(N - eEnd g 0) : Int)))) N) (cond (decide (0 ≤ IntKind.wrap IntKind.i64 ((↑N : Int) - (↑(N - eEnd g 0) : Int)))) (cond (nl2 == nl2) (cond (Nat.beq (Int.toNat (IntKind.wrap IntKind.i64 ((↑N : Int) - (↑(N - eEnd g 0) : Int))) - 0) (Int.toNat (IntKind.wrap IntKind.i64 ((↑N : Int) - (↑(N - eEnd g 0) : Int))) - 0)) (cond (Nat.beq (N - 0) (N - 0)) (cond (decide ((↑N : Int) = (↑N : Int))) (cond (decide ((↑N : Int) = (↑N : Int))) (cond (decide ((↑N : Int) = (↑N : Int))) (cond (decide ((↑N : Int) = (↑N : Int))) (cond (decide ((↑(52 + List.length (strV g (0 + 51) (tlen g 0)) + 24 * bnum g 0) : Int) = (↑(52 + List.length (strV g (0 + 51) (tlen g 0)) + 24 * bnum g 0) : Int))) (cond (decide ((↑(52 + List.length (strV g (0 + 51) (tlen g 0)) + 24 * bnum g 0) : Int) = (↑(52 + List.length (strV g (0 + 51) (tlen g 0)) + 24 * bnum g 0) : Int))) (some (0, (CS.mk [(AV.bool (false))] []))) none) none) none) none) none) none) none) none) none) none) none) none) none) none) none) none) none) none) none) none))) none) none)
  none)
  none) none) none)
  none)
  none) none)
  none)
  none) none) none) none) none) none) none)
  (cond (((↑(52 + List.length (strV g (0 + 51) (tlen g 0)) + 24 * bnum g 0) : Int) == IntKind.wrap IntKind.i64 ((↑N : Int) - (↑(N - eEnd g 0) : Int))) == true) none (cond (((↑(52 + List.length (strV g (0 + 51) (tlen g 0)) + 24 * bnum g 0) : Int) == IntKind.wrap IntKind.i64 ((↑N : Int) - (↑(N - eEnd g 0) : Int))) == true) none (cond (((↑(52 + List.length (strV g (0 + 51) (tlen g 0)) + 24 * bnum g 0) : Int) == IntKind.wrap IntKind.i64 ((↑N : Int) - (↑(N - eEnd g 0) : Int))) == true) none (cond (((↑(52 + List.length (strV g (0 + 51) (tlen g 0)) + 24 * bnum g 0) : Int) == IntKind.wrap IntKind.i64 ((↑N : Int) - (↑(N - eEnd g 0) : Int))) == true) none (cond (((↑(52 + List.length (strV g (0 + 51) (tlen g 0)) + 24 * bnum g 0) : Int) == IntKind.wrap IntKind.i64 ((↑N : Int) - (↑(N - eEnd g 0) : Int))) == true) none (cond (((↑(52 + List.length (strV g (0 + 51) (tlen g 0)) + 24 * bnum g 0) : Int) == IntKind.wrap IntKind.i64 ((↑N : Int) - (↑(N - eEnd g 0) : Int))) == true) none (cond (((↑(52 + List.length (strV g (0 + 51) (tlen g 0)) + 24 * bnum g 0) : Int) == IntKind.wrap IntKind.i64 ((↑N : Int) - (↑(N - eEnd g 0) : Int))) == true) none (cond (((↑(52 + List.length (strV g (0 + 51) (tlen g 0)) + 24 * bnum g 0) : Int) == IntKind.wrap IntKind.i64 ((↑N : Int) - (↑(N - eEnd g 0) : Int))) == true) none (cond (((↑(52 + List.length (strV g (0 + 51) (tlen g 0)) + 24 * bnum g 0) : Int) == IntKind.wrap IntKind.i64 ((↑N : Int) - (↑(N - eEnd g 0) : Int))) == true) none (cond (((↑(52 + List.length (strV g (0 + 51) (tlen g 0)) + 24 * bnum g 0) : Int) == IntKind.wrap IntKind.i64 ((↑N : Int) - (↑(N - eEnd g 0) : Int))) == true) none (cond ((↑(52 + List.length (strV g (0 + 51) (tlen g 0)) + 24 * bnum g 0) : Int) == IntKind.wrap IntKind.i64 ((↑N : Int) - (↑(N - eEnd g 0) : Int))) none (cond (decide ((↑N : Int) = (↑N : Int))) (cond (decide ((↑N : Int) = (↑N : Int))) (cond (decide ((↑(52 + List.length (strV g (0 + 51) (tlen g 0)) + 24 * bnum g 0) : Int) = (↑(52 + List.length (strV g (0 + 51) (tlen g 0)) + 24 * bnum g 0) : Int))) (cond (decide ((↑(52 + List.length (strV g (0 + 51) (tlen g 0)) + 24 * bnum g 0) : Int) = (↑(52 + List.length (strV g (0 + 51) (tlen g 0)) + 24 * bnum g 0) : Int))) (some (0, (CS.mk [(AV.bool (false))] []))) none) none) none) none)))))))))))))
  (cond ((errN (IntKind.wrap IntKind.i64 (val g (0 + 24) 1)) (strV g (0 + 51) (tlen g 0)) (bnum g 0) == 0) == true) none (cond ((errN (IntKind.wrap IntKind.i64 (val g (0 + 24) 1)) (strV g (0 + 51) (tlen g 0)) (bnum g 0) == 0) == true) none (cond ((errN (IntKind.wrap IntKind.i64 (val g (0 + 24) 1)) (strV g (0 + 51) (tlen g 0)) (bnum g 0) == 0) == true) none (cond ((errN (IntKind.wrap IntKind.i64 (val g (0 + 24) 1)) (strV g (0 + 51) (tlen g 0)) (bnum g 0) == 0) == true) none (cond ((errN (IntKind.wrap IntKind.i64 (val g (0 + 24) 1)) (strV g (0 + 51) (tlen g 0)) (bnum g 0) == 0) == true) none (cond ((errN (IntKind.wrap IntKind.i64 (val g (0 + 24) 1)) (strV g (0 + 51) (tlen g 0)) (bnum g 0) == 0) == true) none (cond ((errN (IntKind.wrap IntKind.i64 (val g (0 + 24) 1)) (strV g (0 + 51) (tlen g 0)) (bnum g 0) == 0) == true) none (cond ((errN (IntKind.wrap IntKind.i64 (val g (0 + 24) 1)) (strV g (0 + 51) (tlen g 0)) (bnum g 0) == 0) == true) none (cond (errN (IntKind.wrap IntKind.i64 (val g (0 + 24) 1)) (strV g (0 + 51) (tlen g 0)) (bnum g 0) == 0) none (some (0, (CS.mk [(AV.bool (false))] []))))))))))))) none) none))
  (some (0, (CS.mk [(AV.bool (true))] [])))) none) none) none) none)
  none) := by kernel_rfl
theorem kT_eq (nl2 : Bool) (N : Nat) (g : Nat → Nat → AV) (hy0 : (Nat.ble N 1000000) = true) (hy1 : (okB g (N)) = true) (hy2 : (bif nl2 then Nat.beq N 0 else true) = true) (hy3 : (errN (IntKind.wrap IntKind.i64 (val g (0 + 24) 1)) (strV g (0 + 51) (tlen g 0)) 0 == 0) = false) (hy4 : (errN (IntKind.wrap IntKind.i64 (val g (0 + 24) 1)) (strV g (0 + 51) (tlen g 0)) (bnum g 0) == 0) = false) : kT nl2 N g kT_p = (cond (decide (N - 0 = N))
  (cond (entOK g (0) (N))
  (cond (Nat.beq (bnum g 0) 0)
  (cond (wOK (IntKind.wrap IntKind.i64 (val g (0 + 24) 1)) (strV g (0 + 51) (tlen g 0)) 0)
  (cond ((↑(52 + List.length (strV g (0 + 51) (tlen g 0)) + 24 * 0) : Int) == IntKind.wrap IntKind.i64 ((↑N : Int) - (↑(N - eEnd g 0) : Int)))
  (cond (Nat.ble (Int.toNat (IntKind.wrap IntKind.i64 ((↑N : Int) - (↑(N - eEnd g 0) : Int)))) N)
  (cond (decide (0 ≤ IntKind.wrap IntKind.i64 ((↑N : Int) - (↑(N - eEnd g 0) : Int))))
  (cond (Nat.ble (0 + 0 + (Int.toNat (IntKind.wrap IntKind.i64 ((↑N : Int) - (↑(N - eEnd g 0) : Int))) - 0)) N)
  (cond (List.all (List.range (Int.toNat (IntKind.wrap IntKind.i64 ((↑N : Int) - (↑(N - eEnd g 0) : Int))) - 0)) fun i => decide (0 ≤ byteAt g (0 + 0 + i)) && decide (byteAt g (0 + 0 + i) < 256))
  (cond (Nat.ble (0 + (52 + List.length (strV g (0 + 51) (tlen g 0)) + 24 * 0)) (52 + List.length (strV g (0 + 51) (tlen g 0)) + 24 * 0))
  (cond (List.all (List.range (52 + List.length (strV g (0 + 51) (tlen g 0)) + 24 * 0)) fun i => decide (0 ≤ byteAt (entB (val g 0 8) (val g (0 + 8) 8) (val g (0 + 16) 8) (IntKind.wrap IntKind.i64 (val g (0 + 24) 1)) (val g (0 + 25) 8) (val g (0 + 33) 8) (IntKind.wrap IntKind.u32 (val g (0 + 41) 4)) (IntKind.wrap IntKind.u32 (val g (0 + 45) 4)) (strV g (0 + 51) (tlen g 0)) 0 fun x x_1 => AV.bad) (0 + i)) && decide (byteAt (entB (val g 0 8) (val g (0 + 8) 8) (val g (0 + 16) 8) (IntKind.wrap IntKind.i64 (val g (0 + 24) 1)) (val g (0 + 25) 8) (val g (0 + 33) 8) (IntKind.wrap IntKind.u32 (val g (0 + 41) 4)) (IntKind.wrap IntKind.u32 (val g (0 + 45) 4)) (strV g (0 + 51) (tlen g 0)) 0 fun x x_1 => AV.bad) (0 + i) < 256))
  (cond (List.map (fun i => Int.toNat (byteAt g (0 + 0 + i))) (List.range (Int.toNat (IntKind.wrap IntKind.i64 ((↑N : Int) - (↑(N - eEnd g 0) : Int))) - 0)) == List.map (fun i => Int.toNat (byteAt (entB (val g 0 8) (val g (0 + 8) 8) (val g (0 + 16) 8) (IntKind.wrap IntKind.i64 (val g (0 + 24) 1)) (val g (0 + 25) 8) (val g (0 + 33) 8) (IntKind.wrap IntKind.u32 (val g (0 + 41) 4)) (IntKind.wrap IntKind.u32 (val g (0 + 45) 4)) (strV g (0 + 51) (tlen g 0)) 0 fun x x_1 => AV.bad) (0 + i))) (List.range (52 + List.length (strV g (0 + 51) (tlen g 0)) + 24 * 0)))
  (some (0, (CS.mk [(AV.bool (true))] [])))
  (some (0, (CS.mk [(AV.bool (false))] []))))
  none)
  none)
  none)
  none)
  none)
  none)
  (some (0, (CS.mk [(AV.bool (false))] []))))
  (some (0, (CS.mk [(AV.bool (false))] []))))
  (cond (wOK (IntKind.wrap IntKind.i64 (val g (0 + 24) 1)) (strV g (0 + 51) (tlen g 0)) (bnum g 0))
  (cond ((↑(52 + List.length (strV g (0 + 51) (tlen g 0)) + 24 * bnum g 0) : Int) == IntKind.wrap IntKind.i64 ((↑N : Int) - (↑(N - eEnd g 0) : Int)))
  (cond (Nat.ble (Int.toNat (IntKind.wrap IntKind.i64 ((↑N : Int) - (↑(N - eEnd g 0) : Int)))) N)
  (cond (decide (0 ≤ IntKind.wrap IntKind.i64 ((↑N : Int) - (↑(N - eEnd g 0) : Int))))
  (cond (Nat.ble (0 + 0 + (Int.toNat (IntKind.wrap IntKind.i64 ((↑N : Int) - (↑(N - eEnd g 0) : Int))) - 0)) N)
  (cond (List.all (List.range (Int.toNat (IntKind.wrap IntKind.i64 ((↑N : Int) - (↑(N - eEnd g 0) : Int))) - 0)) fun i => decide (0 ≤ byteAt g (0 + 0 + i)) && decide (byteAt g (0 + 0 + i) < 256))
  (cond (Nat.ble (0 + (52 + List.length (strV g (0 + 51) (tlen g 0)) + 24 * bnum g 0)) (52 + List.length (strV g (0 + 51) (tlen g 0)) + 24 * bnum g 0))
  (cond (List.all (List.range (52 + List.length (strV g (0 + 51) (tlen g 0)) + 24 * bnum g 0)) fun i => decide (0 ≤ byteAt (entB (val g 0 8) (val g (0 + 8) 8) (val g (0 + 16) 8) (IntKind.wrap IntKind.i64 (val g (0 + 24) 1)) (val g (0 + 25) 8) (val g (0 + 33) 8) (IntKind.wrap IntKind.u32 (val g (0 + 41) 4)) (IntKind.wrap IntKind.u32 (val g (0 + 45) 4)) (strV g (0 + 51) (tlen g 0)) (bnum g 0) (lookF g (0 + (51 + (tlen g 0 + 1))))) (0 + i)) && decide (byteAt (entB (val g 0 8) (val g (0 + 8) 8) (val g (0 + 16) 8) (IntKind.wrap IntKind.i64 (val g (0 + 24) 1)) (val g (0 + 25) 8) (val g (0 + 33) 8) (IntKind.wrap IntKind.u32 (val g (0 + 41) 4)) (IntKind.wrap IntKind.u32 (val g (0 + 45) 4)) (strV g (0 + 51) (tlen g 0)) (bnum g 0) (lookF g (0 + (51 + (tlen g 0 + 1))))) (0 + i) < 256))
  (cond (List.map (fun i => Int.toNat (byteAt g (0 + 0 + i))) (List.range (Int.toNat (IntKind.wrap IntKind.i64 ((↑N : Int) - (↑(N - eEnd g 0) : Int))) - 0)) == List.map (fun i => Int.toNat (byteAt (entB (val g 0 8) (val g (0 + 8) 8) (val g (0 + 16) 8) (IntKind.wrap IntKind.i64 (val g (0 + 24) 1)) (val g (0 + 25) 8) (val g (0 + 33) 8) (IntKind.wrap IntKind.u32 (val g (0 + 41) 4)) (IntKind.wrap IntKind.u32 (val g (0 + 45) 4)) (strV g (0 + 51) (tlen g 0)) (bnum g 0) (lookF g (0 + (51 + (tlen g 0 + 1))))) (0 + i))) (List.range (52 + List.length (strV g (0 + 51) (tlen g 0)) + 24 * bnum g 0)))
  (some (0, (CS.mk [(AV.bool (true))] [])))
  (some (0, (CS.mk [(AV.bool (false))] []))))
  none)
  none)
  none)
  none)
  none)
  none)
  (some (0, (CS.mk [(AV.bool (false))] []))))
  (some (0, (CS.mk [(AV.bool (false))] [])))))
  (some (0, (CS.mk [(AV.bool (true))] []))))
  none) := by
  rw [kT_is]
  try simp only [hy0, hy1, hy2, hy3, hy4, eq_self, decide_true, beq_self_eq_true, Nat.beq_refl, ble_self, Int.le_refl, Nat.le_refl]
  cases (decide (N - 0 = N)) with
  | true =>
    cases (entOK g (0) (N)) with
    | true =>
      cases (Nat.beq (bnum g 0) 0) with
      | true =>
        cases (wOK (IntKind.wrap IntKind.i64 (val g (0 + 24) 1)) (strV g (0 + 51) (tlen g 0)) 0) with
        | true =>
          cases ((↑(52 + List.length (strV g (0 + 51) (tlen g 0)) + 24 * 0) : Int) == IntKind.wrap IntKind.i64 ((↑N : Int) - (↑(N - eEnd g 0) : Int))) with
          | true =>
            cases (Nat.ble (Int.toNat (IntKind.wrap IntKind.i64 ((↑N : Int) - (↑(N - eEnd g 0) : Int)))) N) with
            | true =>
              cases (decide (0 ≤ IntKind.wrap IntKind.i64 ((↑N : Int) - (↑(N - eEnd g 0) : Int)))) with
              | true =>
                cases (Nat.ble (0 + 0 + (Int.toNat (IntKind.wrap IntKind.i64 ((↑N : Int) - (↑(N - eEnd g 0) : Int))) - 0)) N) with
                | true =>
                  cases (List.all (List.range (Int.toNat (IntKind.wrap IntKind.i64 ((↑N : Int) - (↑(N - eEnd g 0) : Int))) - 0)) fun i => decide (0 ≤ byteAt g (0 + 0 + i)) && decide (byteAt g (0 + 0 + i) < 256)) with
                  | true =>
                    cases (Nat.ble (0 + (52 + List.length (strV g (0 + 51) (tlen g 0)) + 24 * 0)) (52 + List.length (strV g (0 + 51) (tlen g 0)) + 24 * 0)) with
                    | true =>
                      cases (List.all (List.range (52 + List.length (strV g (0 + 51) (tlen g 0)) + 24 * 0)) fun i => decide (0 ≤ byteAt (entB (val g 0 8) (val g (0 + 8) 8) (val g (0 + 16) 8) (IntKind.wrap IntKind.i64 (val g (0 + 24) 1)) (val g (0 + 25) 8) (val g (0 + 33) 8) (IntKind.wrap IntKind.u32 (val g (0 + 41) 4)) (IntKind.wrap IntKind.u32 (val g (0 + 45) 4)) (strV g (0 + 51) (tlen g 0)) 0 fun x x_1 => AV.bad) (0 + i)) && decide (byteAt (entB (val g 0 8) (val g (0 + 8) 8) (val g (0 + 16) 8) (IntKind.wrap IntKind.i64 (val g (0 + 24) 1)) (val g (0 + 25) 8) (val g (0 + 33) 8) (IntKind.wrap IntKind.u32 (val g (0 + 41) 4)) (IntKind.wrap IntKind.u32 (val g (0 + 45) 4)) (strV g (0 + 51) (tlen g 0)) 0 fun x x_1 => AV.bad) (0 + i) < 256)) with
                      | true =>
                        cases (List.map (fun i => Int.toNat (byteAt g (0 + 0 + i))) (List.range (Int.toNat (IntKind.wrap IntKind.i64 ((↑N : Int) - (↑(N - eEnd g 0) : Int))) - 0)) == List.map (fun i => Int.toNat (byteAt (entB (val g 0 8) (val g (0 + 8) 8) (val g (0 + 16) 8) (IntKind.wrap IntKind.i64 (val g (0 + 24) 1)) (val g (0 + 25) 8) (val g (0 + 33) 8) (IntKind.wrap IntKind.u32 (val g (0 + 41) 4)) (IntKind.wrap IntKind.u32 (val g (0 + 45) 4)) (strV g (0 + 51) (tlen g 0)) 0 fun x x_1 => AV.bad) (0 + i))) (List.range (52 + List.length (strV g (0 + 51) (tlen g 0)) + 24 * 0))) with
                        | true =>
                          rfl
                        | false =>
                          rfl
                      | false =>
                        rfl
                    | false =>
                      rfl
                  | false =>
                    rfl
                | false =>
                  rfl
              | false =>
                rfl
            | false =>
              rfl
          | false =>
            rfl
        | false =>
          rfl
      | false =>
        cases (wOK (IntKind.wrap IntKind.i64 (val g (0 + 24) 1)) (strV g (0 + 51) (tlen g 0)) (bnum g 0)) with
        | true =>
          cases ((↑(52 + List.length (strV g (0 + 51) (tlen g 0)) + 24 * bnum g 0) : Int) == IntKind.wrap IntKind.i64 ((↑N : Int) - (↑(N - eEnd g 0) : Int))) with
          | true =>
            cases (Nat.ble (Int.toNat (IntKind.wrap IntKind.i64 ((↑N : Int) - (↑(N - eEnd g 0) : Int)))) N) with
            | true =>
              cases (decide (0 ≤ IntKind.wrap IntKind.i64 ((↑N : Int) - (↑(N - eEnd g 0) : Int)))) with
              | true =>
                cases (Nat.ble (0 + 0 + (Int.toNat (IntKind.wrap IntKind.i64 ((↑N : Int) - (↑(N - eEnd g 0) : Int))) - 0)) N) with
                | true =>
                  cases (List.all (List.range (Int.toNat (IntKind.wrap IntKind.i64 ((↑N : Int) - (↑(N - eEnd g 0) : Int))) - 0)) fun i => decide (0 ≤ byteAt g (0 + 0 + i)) && decide (byteAt g (0 + 0 + i) < 256)) with
                  | true =>
                    cases (Nat.ble (0 + (52 + List.length (strV g (0 + 51) (tlen g 0)) + 24 * bnum g 0)) (52 + List.length (strV g (0 + 51) (tlen g 0)) + 24 * bnum g 0)) with
                    | true =>
                      cases (List.all (List.range (52 + List.length (strV g (0 + 51) (tlen g 0)) + 24 * bnum g 0)) fun i => decide (0 ≤ byteAt (entB (val g 0 8) (val g (0 + 8) 8) (val g (0 + 16) 8) (IntKind.wrap IntKind.i64 (val g (0 + 24) 1)) (val g (0 + 25) 8) (val g (0 + 33) 8) (IntKind.wrap IntKind.u32 (val g (0 + 41) 4)) (IntKind.wrap IntKind.u32 (val g (0 + 45) 4)) (strV g (0 + 51) (tlen g 0)) (bnum g 0) (lookF g (0 + (51 + (tlen g 0 + 1))))) (0 + i)) && decide (byteAt (entB (val g 0 8) (val g (0 + 8) 8) (val g (0 + 16) 8) (IntKind.wrap IntKind.i64 (val g (0 + 24) 1)) (val g (0 + 25) 8) (val g (0 + 33) 8) (IntKind.wrap IntKind.u32 (val g (0 + 41) 4)) (IntKind.wrap IntKind.u32 (val g (0 + 45) 4)) (strV g (0 + 51) (tlen g 0)) (bnum g 0) (lookF g (0 + (51 + (tlen g 0 + 1))))) (0 + i) < 256)) with
                      | true =>
                        cases (List.map (fun i => Int.toNat (byteAt g (0 + 0 + i))) (List.range (Int.toNat (IntKind.wrap IntKind.i64 ((↑N : Int) - (↑(N - eEnd g 0) : Int))) - 0)) == List.map (fun i => Int.toNat (byteAt (entB (val g 0 8) (val g (0 + 8) 8) (val g (0 + 16) 8) (IntKind.wrap IntKind.i64 (val g (0 + 24) 1)) (val g (0 + 25) 8) (val g (0 + 33) 8) (IntKind.wrap IntKind.u32 (val g (0 + 41) 4)) (IntKind.wrap IntKind.u32 (val g (0 + 45) 4)) (strV g (0 + 51) (tlen g 0)) (bnum g 0) (lookF g (0 + (51 + (tlen g 0 + 1))))) (0 + i))) (List.range (52 + List.length (strV g (0 + 51) (tlen g 0)) + 24 * bnum g 0))) with
                        | true =>
                          rfl
                        | false =>
                          rfl
                      | false =>
                        rfl
                    | false =>
                      rfl
                  | false =>
                    rfl
                | false =>
                  rfl
              | false =>
                rfl
            | false =>
              rfl
          | false =>
            rfl
        | false =>
          rfl
    | false =>
      rfl
  | false =>
    rfl

noncomputable def kP (nl2 : Bool) (N : Nat) (g : Nat → Nat → AV) (ix : Int) (tm : Int) (st : Int) (kd : Int) (cl : Int) (rq : Int) (fr : Int) (ct : Int) (d : List Nat) (nl : Bool) (n : Nat) (f : Nat → Nat → AV) (M : Nat) (F : Nat → Nat → AV) (π : Plan) : Option (Nat × CS) := stepC (H4) (1000) (pieceC H4 5 p2) (0) (h2) (x2) π (c2 nl2 N g ix tm st kd cl rq fr ct d nl n f M F)
def kP_p : Plan := (.reck 1 (.fork (.must true (.reck 2 (.must true (.reck 1 (.must true (.must true (.fork (.reck 2 (.must true (.reck 3 (.must true (.reck 1 (.fork (.must true (.reck 1 (.must true (.must true (.must true (.must false (.fork (.must true (.reck 5 (.must false .stop))) (.must false (.must true .stop))))))))) (.must false (.must false (.must false (.must false (.must true .stop))))))))))) (.reck 1 (.must true (.must true (.reck 1 (.must true (.reck 1 (.must true (.fork (.fork (.must true (.reck 1 (.must true (.must true (.must true (.must false (.fork (.must true (.reck 5 (.must false .stop))) (.must false (.must true .stop))))))))) (.must false (.must false (.must false (.must false (.must true .stop)))))) .stop))))))))))))))) .stop))
theorem kP_is (nl2 : Bool) (N : Nat) (g : Nat → Nat → AV) (ix : Int) (tm : Int) (st : Int) (kd : Int) (cl : Int) (rq : Int) (fr : Int) (ct : Int) (d : List Nat) (nl : Bool) (n : Nat) (f : Nat → Nat → AV) (M : Nat) (F : Nat → Nat → AV) : kP nl2 N g ix tm st kd cl rq fr ct d nl n f M F kP_p = (cond (decide (M - 0 = M))
  (cond (decide (M - 0 = M)) (cond ((okB F (M))) (cond (Nat.ble M 1000000) (cond ((entOK F (0) (M))) (cond (Nat.beq (bnum F 0) 0)
  (cond (decide (n = n)) (cond (decide (n = n)) (cond ((!sameR (val F 0 8) (val F (0 + 8) 8) (val F (0 + 16) 8) (IntKind.wrap IntKind.i64 (val F (0 + 24) 1)) (val F (0 + 25) 8) (val F (0 + 33) 8) (IntKind.wrap IntKind.u32 (val F (0 + 41) 4)) (IntKind.wrap IntKind.u32 (val F (0 + 45) 4)) (strV F (0 + 51) (tlen F 0)) ix tm st kd cl rq fr ct d true nl 0 n (fun x x_1 => AV.bad) f) == false)
  (cond ((!sameR (val F 0 8) (val F (0 + 8) 8) (val F (0 + 16) 8) (IntKind.wrap IntKind.i64 (val F (0 + 24) 1)) (val F (0 + 25) 8) (val F (0 + 33) 8) (IntKind.wrap IntKind.u32 (val F (0 + 41) 4)) (IntKind.wrap IntKind.u32 (val F (0 + 45) 4)) (strV F (0 + 51) (tlen F 0)) ix tm st kd cl rq fr ct d true nl 0 n (fun x x_1 => AV.bad) f) == false) (cond ((!sameR (val F 0 8) (val F (0 + 8) 8) (val F (0 + 16) 8) (IntKind.wrap IntKind.i64 (val F (0 + 24) 1)) (val F (0 + 25) 8) (val F (0 + 33) 8) (IntKind.wrap IntKind.u32 (val F (0 + 41) 4)) (IntKind.wrap IntKind.u32 (val F (0 + 45) 4)) (strV F (0 + 51) (tlen F 0)) ix tm st kd cl rq fr ct d true nl 0 n (fun x x_1 => AV.bad) f) == false) (cond ((!sameR (val F 0 8) (val F (0 + 8) 8) (val F (0 + 16) 8) (IntKind.wrap IntKind.i64 (val F (0 + 24) 1)) (val F (0 + 25) 8) (val F (0 + 33) 8) (IntKind.wrap IntKind.u32 (val F (0 + 41) 4)) (IntKind.wrap IntKind.u32 (val F (0 + 45) 4)) (strV F (0 + 51) (tlen F 0)) ix tm st kd cl rq fr ct d true nl 0 n (fun x x_1 => AV.bad) f) == false) (cond ((!sameR (val F 0 8) (val F (0 + 8) 8) (val F (0 + 16) 8) (IntKind.wrap IntKind.i64 (val F (0 + 24) 1)) (val F (0 + 25) 8) (val F (0 + 33) 8) (IntKind.wrap IntKind.u32 (val F (0 + 41) 4)) (IntKind.wrap IntKind.u32 (val F (0 + 45) 4)) (strV F (0 + 51) (tlen F 0)) ix tm st kd cl rq fr ct d true nl 0 n (fun x x_1 => AV.bad) f) == false) (cond (!sameR (val F 0 8) (val F (0 + 8) 8) (val F (0 + 16) 8) (IntKind.wrap IntKind.i64 (val F (0 + 24) 1)) (val F (0 + 25) 8) (val F (0 + 33) 8) (IntKind.wrap IntKind.u32 (val F (0 + 41) 4)) (IntKind.wrap IntKind.u32 (val F (0 + 45) 4)) (strV F (0 + 51) (tlen F 0)) ix tm st kd cl rq fr ct d true nl 0 n (fun x x_1 => AV.bad) f) none (cond (((↑(M - eEnd F 0) : Int) != (↑N : Int)) == false)
  (cond (((↑(M - eEnd F 0) : Int) != (↑N : Int)) == false) (cond ((↑(M - eEnd F 0) : Int) != (↑N : Int)) none (some (0, (CS.mk [(AV.osl (nl2) (0) (0) (N) (N) (1) (true))] [some (AObj.tarr [Sh.int IntKind.u8] (N) g false)])))) none)
  (cond (((↑(M - eEnd F 0) : Int) != (↑N : Int)) == false) none (cond ((↑(M - eEnd F 0) : Int) != (↑N : Int)) none none)))) none) none) none) none)
  (cond ((!sameR (val F 0 8) (val F (0 + 8) 8) (val F (0 + 16) 8) (IntKind.wrap IntKind.i64 (val F (0 + 24) 1)) (val F (0 + 25) 8) (val F (0 + 33) 8) (IntKind.wrap IntKind.u32 (val F (0 + 41) 4)) (IntKind.wrap IntKind.u32 (val F (0 + 45) 4)) (strV F (0 + 51) (tlen F 0)) ix tm st kd cl rq fr ct d true nl 0 n (fun x x_1 => AV.bad) f) == false) none (cond ((!sameR (val F 0 8) (val F (0 + 8) 8) (val F (0 + 16) 8) (IntKind.wrap IntKind.i64 (val F (0 + 24) 1)) (val F (0 + 25) 8) (val F (0 + 33) 8) (IntKind.wrap IntKind.u32 (val F (0 + 41) 4)) (IntKind.wrap IntKind.u32 (val F (0 + 45) 4)) (strV F (0 + 51) (tlen F 0)) ix tm st kd cl rq fr ct d true nl 0 n (fun x x_1 => AV.bad) f) == false) none (cond ((!sameR (val F 0 8) (val F (0 + 8) 8) (val F (0 + 16) 8) (IntKind.wrap IntKind.i64 (val F (0 + 24) 1)) (val F (0 + 25) 8) (val F (0 + 33) 8) (IntKind.wrap IntKind.u32 (val F (0 + 41) 4)) (IntKind.wrap IntKind.u32 (val F (0 + 45) 4)) (strV F (0 + 51) (tlen F 0)) ix tm st kd cl rq fr ct d true nl 0 n (fun x x_1 => AV.bad) f) == false) none (cond ((!sameR (val F 0 8) (val F (0 + 8) 8) (val F (0 + 16) 8) (IntKind.wrap IntKind.i64 (val F (0 + 24) 1)) (val F (0 + 25) 8) (val F (0 + 33) 8) (IntKind.wrap IntKind.u32 (val F (0 + 41) 4)) (IntKind.wrap IntKind.u32 (val F (0 + 45) 4)) (strV F (0 + 51) (tlen F 0)) ix tm st kd cl rq fr ct d true nl 0 n (fun x x_1 => AV.bad) f) == false) none (cond (!sameR (val F 0 8) (val F (0 + 8) 8) (val F (0 + 16) 8) (IntKind.wrap IntKind.i64 (val F (0 + 24) 1)) (val F (0 + 25) 8) (val F (0 + 33) 8) (IntKind.wrap IntKind.u32 (val F (0 + 41) 4)) (IntKind.wrap IntKind.u32 (val F (0 + 45) 4)) (strV F (0 + 51) (tlen F 0)) ix tm st kd cl rq fr ct d true nl 0 n (fun x x_1 => AV.bad) f) none none)))))) none) none)
  (cond (decide (bnum F 0 = bnum F 0)) (cond (decide (n = n)) (cond (decide (bnum F 0 = bnum F 0)) (cond (decide (n = n)) (cond (Nat.ble (bnum F 0) 1000000)
  (cond ((!sameR (val F 0 8) (val F (0 + 8) 8) (val F (0 + 16) 8) (IntKind.wrap IntKind.i64 (val F (0 + 24) 1)) (val F (0 + 25) 8) (val F (0 + 33) 8) (IntKind.wrap IntKind.u32 (val F (0 + 41) 4)) (IntKind.wrap IntKind.u32 (val F (0 + 45) 4)) (strV F (0 + 51) (tlen F 0)) ix tm st kd cl rq fr ct d false nl (bnum F 0) n (lookF F (0 + (51 + (tlen F 0 + 1)))) f) == false)
  (cond ((!sameR (val F 0 8) (val F (0 + 8) 8) (val F (0 + 16) 8) (IntKind.wrap IntKind.i64 (val F (0 + 24) 1)) (val F (0 + 25) 8) (val F (0 + 33) 8) (IntKind.wrap IntKind.u32 (val F (0 + 41) 4)) (IntKind.wrap IntKind.u32 (val F (0 + 45) 4)) (strV F (0 + 51) (tlen F 0)) ix tm st kd cl rq fr ct d false nl (bnum F 0) n (lookF F (0 + (51 + (tlen F 0 + 1)))) f) == false) (cond ((!sameR (val F 0 8) (val F (0 + 8) 8) (val F (0 + 16) 8) (IntKind.wrap IntKind.i64 (val F (0 + 24) 1)) (val F (0 + 25) 8) (val F (0 + 33) 8) (IntKind.wrap IntKind.u32 (val F (0 + 41) 4)) (IntKind.wrap IntKind.u32 (val F (0 + 45) 4)) (strV F (0 + 51) (tlen F 0)) ix tm st kd cl rq fr ct d false nl (bnum F 0) n (lookF F (0 + (51 + (tlen F 0 + 1)))) f) == false) (cond ((!sameR (val F 0 8) (val F (0 + 8) 8) (val F (0 + 16) 8) (IntKind.wrap IntKind.i64 (val F (0 + 24) 1)) (val F (0 + 25) 8) (val F (0 + 33) 8) (IntKind.wrap IntKind.u32 (val F (0 + 41) 4)) (IntKind.wrap IntKind.u32 (val F (0 + 45) 4)) (strV F (0 + 51) (tlen F 0)) ix tm st kd cl rq fr ct d false nl (bnum F 0) n (lookF F (0 + (51 + (tlen F 0 + 1)))) f) == false) (cond ((!sameR (val F 0 8) (val F (0 + 8) 8) (val F (0 + 16) 8) (IntKind.wrap IntKind.i64 (val F (0 + 24) 1)) (val F (0 + 25) 8) (val F (0 + 33) 8) (IntKind.wrap IntKind.u32 (val F (0 + 41) 4)) (IntKind.wrap IntKind.u32 (val F (0 + 45) 4)) (strV F (0 + 51) (tlen F 0)) ix tm st kd cl rq fr ct d false nl (bnum F 0) n (lookF F (0 + (51 + (tlen F 0 + 1)))) f) == false) (cond (!sameR (val F 0 8) (val F (0 + 8) 8) (val F (0 + 16) 8) (IntKind.wrap IntKind.i64 (val F (0 + 24) 1)) (val F (0 + 25) 8) (val F (0 + 33) 8) (IntKind.wrap IntKind.u32 (val F (0 + 41) 4)) (IntKind.wrap IntKind.u32 (val F (0 + 45) 4)) (strV F (0 + 51) (tlen F 0)) ix tm st kd cl rq fr ct d false nl (bnum F 0) n (lookF F (0 + (51 + (tlen F 0 + 1)))) f) none (cond (((↑(M - eEnd F 0) : Int) != (↑N : Int)) == false)
  (cond (((↑(M - eEnd F 0) : Int) != (↑N : Int)) == false) (cond ((↑(M - eEnd F 0) : Int) != (↑N : Int)) none (some (0, (CS.mk [(AV.osl (nl2) (0) (0) (N) (N) (1) (true))] [some (AObj.tarr [Sh.int IntKind.u8] (N) g false)])))) none)
  (cond (((↑(M - eEnd F 0) : Int) != (↑N : Int)) == false) none (cond ((↑(M - eEnd F 0) : Int) != (↑N : Int)) none none)))) none) none) none) none)
  (cond ((!sameR (val F 0 8) (val F (0 + 8) 8) (val F (0 + 16) 8) (IntKind.wrap IntKind.i64 (val F (0 + 24) 1)) (val F (0 + 25) 8) (val F (0 + 33) 8) (IntKind.wrap IntKind.u32 (val F (0 + 41) 4)) (IntKind.wrap IntKind.u32 (val F (0 + 45) 4)) (strV F (0 + 51) (tlen F 0)) ix tm st kd cl rq fr ct d false nl (bnum F 0) n (lookF F (0 + (51 + (tlen F 0 + 1)))) f) == false) none (cond ((!sameR (val F 0 8) (val F (0 + 8) 8) (val F (0 + 16) 8) (IntKind.wrap IntKind.i64 (val F (0 + 24) 1)) (val F (0 + 25) 8) (val F (0 + 33) 8) (IntKind.wrap IntKind.u32 (val F (0 + 41) 4)) (IntKind.wrap IntKind.u32 (val F (0 + 45) 4)) (strV F (0 + 51) (tlen F 0)) ix tm st kd cl rq fr ct d false nl (bnum F 0) n (lookF F (0 + (51 + (tlen F 0 + 1)))) f) == false) none (cond ((!sameR (val F 0 8) (val F (0 + 8) 8) (val F (0 + 16) 8) (IntKind.wrap IntKind.i64 (val F (0 + 24) 1)) (val F (0 + 25) 8) (val F (0 + 33) 8) (IntKind.wrap IntKind.u32 (val F (0 + 41) 4)) (IntKind.wrap IntKind.u32 (val F (0 + 45) 4)) (strV F (0 + 51) (tlen F 0)) ix tm st kd cl rq fr ct d false nl (bnum F 0) n (lookF F (0 + (51 + (tlen F 0 + 1)))) f) == false) none (cond ((!sameR (val F 0 8) (val F (0 + 8) 8) (val F (0 + 16) 8) (IntKind.wrap IntKind.i64 (val F (0 + 24) 1)) (val F (0 + 25) 8) (val F (0 + 33) 8) (IntKind.wrap IntKind.u32 (val F (0 + 41) 4)) (IntKind.wrap IntKind.u32 (val F (0 + 45) 4)) (strV F (0 + 51) (tlen F 0)) ix tm st kd cl rq fr ct d false nl (bnum F 0) n (lookF F (0 + (51 + (tlen F 0 + 1)))) f) == false) none (cond (!sameR (val F 0 8) (val F (0 + 8) 8) (val F (0 + 16) 8) (IntKind.wrap IntKind.i64 (val F (0 + 24) 1)) (val F (0 + 25) 8) (val F (0 + 33) 8) (IntKind.wrap IntKind.u32 (val F (0 + 41) 4)) (IntKind.wrap IntKind.u32 (val F (0 + 45) 4)) (strV F (0 + 51) (tlen F 0)) ix tm st kd cl rq fr ct d false nl (bnum F 0) n (lookF F (0 + (51 + (tlen F 0 + 1)))) f) none none))))))
  none) none) none) none) none)) none) none) none) none)
  none) := by kernel_rfl
theorem kP_eq (nl2 : Bool) (N : Nat) (g : Nat → Nat → AV) (ix : Int) (tm : Int) (st : Int) (kd : Int) (cl : Int) (rq : Int) (fr : Int) (ct : Int) (d : List Nat) (nl : Bool) (n : Nat) (f : Nat → Nat → AV) (M : Nat) (F : Nat → Nat → AV) (hy0 : (okB F (M)) = true) (hy1 : (Nat.ble M 1000000) = true) (hy2 : (entOK F (0) (M)) = true) : kP nl2 N g ix tm st kd cl rq fr ct d nl n f M F kP_p = (cond (decide (M - 0 = M))
  (cond (Nat.beq (bnum F 0) 0)
  (cond (sameR (val F 0 8) (val F (0 + 8) 8) (val F (0 + 16) 8) (IntKind.wrap IntKind.i64 (val F (0 + 24) 1)) (val F (0 + 25) 8) (val F (0 + 33) 8) (IntKind.wrap IntKind.u32 (val F (0 + 41) 4)) (IntKind.wrap IntKind.u32 (val F (0 + 45) 4)) (strV F (0 + 51) (tlen F 0)) ix tm st kd cl rq fr ct d true nl 0 n (fun x x_1 => AV.bad) f)
  (cond ((↑(M - eEnd F 0) : Int) != (↑N : Int))
  none
  (some (0, (CS.mk [(AV.osl (nl2) (0) (0) (N) (N) (1) (true))] [some (AObj.tarr [Sh.int IntKind.u8] (N) g false)]))))
  none)
  (cond (Nat.ble (bnum F 0) 1000000)
  (cond (sameR (val F 0 8) (val F (0 + 8) 8) (val F (0 + 16) 8) (IntKind.wrap IntKind.i64 (val F (0 + 24) 1)) (val F (0 + 25) 8) (val F (0 + 33) 8) (IntKind.wrap IntKind.u32 (val F (0 + 41) 4)) (IntKind.wrap IntKind.u32 (val F (0 + 45) 4)) (strV F (0 + 51) (tlen F 0)) ix tm st kd cl rq fr ct d false nl (bnum F 0) n (lookF F (0 + (51 + (tlen F 0 + 1)))) f)
  (cond ((↑(M - eEnd F 0) : Int) != (↑N : Int))
  none
  (some (0, (CS.mk [(AV.osl (nl2) (0) (0) (N) (N) (1) (true))] [some (AObj.tarr [Sh.int IntKind.u8] (N) g false)]))))
  none)
  none))
  none) := by
  rw [kP_is]
  try simp only [hy0, hy1, hy2, eq_self, decide_true, beq_self_eq_true, Nat.beq_refl, ble_self, Int.le_refl, Nat.le_refl]
  cases (decide (M - 0 = M)) with
  | true =>
    cases (Nat.beq (bnum F 0) 0) with
    | true =>
      cases (sameR (val F 0 8) (val F (0 + 8) 8) (val F (0 + 16) 8) (IntKind.wrap IntKind.i64 (val F (0 + 24) 1)) (val F (0 + 25) 8) (val F (0 + 33) 8) (IntKind.wrap IntKind.u32 (val F (0 + 41) 4)) (IntKind.wrap IntKind.u32 (val F (0 + 45) 4)) (strV F (0 + 51) (tlen F 0)) ix tm st kd cl rq fr ct d true nl 0 n (fun x x_1 => AV.bad) f) with
      | true =>
        cases ((↑(M - eEnd F 0) : Int) != (↑N : Int)) with
        | true =>
          rfl
        | false =>
          rfl
      | false =>
        rfl
    | false =>
      cases (Nat.ble (bnum F 0) 1000000) with
      | true =>
        cases (sameR (val F 0 8) (val F (0 + 8) 8) (val F (0 + 16) 8) (IntKind.wrap IntKind.i64 (val F (0 + 24) 1)) (val F (0 + 25) 8) (val F (0 + 33) 8) (IntKind.wrap IntKind.u32 (val F (0 + 41) 4)) (IntKind.wrap IntKind.u32 (val F (0 + 45) 4)) (strV F (0 + 51) (tlen F 0)) ix tm st kd cl rq fr ct d false nl (bnum F 0) n (lookF F (0 + (51 + (tlen F 0 + 1)))) f) with
        | true =>
          cases ((↑(M - eEnd F 0) : Int) != (↑N : Int)) with
          | true =>
            rfl
          | false =>
            rfl
        | false =>
          rfl
      | false =>
        rfl
  | false =>
    rfl

noncomputable def k5 (ix : Int) (tm : Int) (st : Int) (kd : Int) (cl : Int) (rq : Int) (fr : Int) (ct : Int) (d : List Nat) (nl : Bool) (n : Nat) (f : Nat → Nat → AV) (nl2 : Bool) (N : Nat) (g : Nat → Nat → AV) (π : Plan) : Option Bool := lawT (H5) (5000) (5) ([.agg [.int .u64 ix, .int .u64 tm, .int .u64 st, .int .i64 kd, .int .u64 cl, .int .u64 rq, .int .u32 fr, .int .u32 ct, .str d, .osl nl 0 0 n n 4 true], .osl nl2 1 0 N N 1 true]) ([some (.tarr shL n f false), some (.tarr shB N g false)]) π
def k5_p : Plan := (.fork (.must true (.must true (.must true (.must true (.fork (.must true (.must true (.must false (.fork .stop (.must true (.reck 1 (.must true (.fork (.reck 1 (.must false (.fork (.fork (.fork (.fork (.fork (.must true (.reck 1 (.must true (.must true (.reck 1 (.must true (.reck 2 (.must true (.reck 1 (.fork (.fork (.fork (.fork (.fork (.fork (.must true (.must true (.reck 1 (.must true (.must true (.must true (.fork .stop .stop))))))) .stop) .stop) .stop) .stop) .stop) .stop)))))))))) .stop) (.fork (.fork (.must true (.reck 1 (.must true (.must true (.reck 1 (.must true (.reck 2 (.must true (.reck 1 (.must true (.fork (.fork (.fork (.fork (.fork (.must true (.must true (.reck 1 (.must true (.must true (.must true (.fork .stop .stop))))))) .stop) .stop) .stop) .stop) .stop))))))))))) .stop) .stop)) (.fork (.fork (.fork (.must true (.reck 1 (.must true (.must true (.reck 1 (.must true (.reck 2 (.must true (.reck 1 (.fork (.fork (.fork (.fork (.fork (.fork (.must true (.must true (.reck 1 (.must true (.must true (.must true (.fork .stop .stop))))))) .stop) .stop) .stop) .stop) .stop) .stop)))))))))) .stop) .stop) (.fork (.fork (.fork (.must true (.reck 1 (.must true (.must true (.reck 1 (.must true (.reck 2 (.must true (.reck 1 (.must true (.fork (.fork (.fork (.fork (.fork (.must true (.must true (.reck 1 (.must true (.must true (.must true (.fork .stop .stop))))))) .stop) .stop) .stop) .stop) .stop))))))))))) .stop) .stop) .stop))) .stop) .stop))) (.must false (.must true (.reck 1 (.must true (.must true (.must true (.fork .stop .stop))))))))))))))) (.must false (.must false (.must true .stop)))))))) (.must false (.must false (.must false (.must false .stop)))))
theorem k5_is (ix : Int) (tm : Int) (st : Int) (kd : Int) (cl : Int) (rq : Int) (fr : Int) (ct : Int) (d : List Nat) (nl : Bool) (n : Nat) (f : Nat → Nat → AV) (nl2 : Bool) (N : Nat) (g : Nat → Nat → AV) : k5 ix tm st kd cl rq fr ct d nl n f nl2 N g k5_p = (cond (decide ((↑(List.length d) : Int) ≤ 20000) == true)
  (cond (decide ((↑(List.length d) : Int) ≤ 20000) == true) (cond (decide ((↑(List.length d) : Int) ≤ 20000) == true) (cond (decide ((↑(List.length d) : Int) ≤ 20000) == true) (cond (decide ((↑(List.length d) : Int) ≤ 20000)) (cond ((!decide ((↑n : Int) ≤ 200)) == false)
  (cond ((!decide ((↑n : Int) ≤ 200)) == false) (cond ((!decide ((↑n : Int) ≤ 200)) == false) (cond (!decide ((↑n : Int) ≤ 200)) none (cond (decide ((↑N : Int) > 20000))
  (some (true))
  (cond (decide (n = n)) (cond (decide (n = n)) (cond (wOK kd d n)
  (cond (Nat.ble ((0) + (52 + List.length d + 24 * n)) (0)) none (cond (growB (1) (0 + (52 + List.length d + 24 * n)))
  (cond (Nat.ble (0 + (52 + List.length d + 24 * n)) (52 + List.length d + 24 * n))
  (cond (nl2)
  (cond (Nat.ble ((0 + (52 + List.length d + 24 * n)) + (0)) (0 + (52 + List.length d + 24 * n)))
  (cond (Nat.ble (0 + (0 + (52 + List.length d + 24 * n) + 0)) (0 + (52 + List.length d + 24 * n)))
  (cond (decide (N = N)) (cond (decide (N = N)) (cond (decide (n = n)) (cond (decide (0 + (52 + List.length d + 24 * n) + 0 = 0 + (52 + List.length d + 24 * n) + 0)) (cond (decide (n = n)) (cond (decide (0 + (52 + List.length d + 24 * n) + 0 = 0 + (52 + List.length d + 24 * n)))
  (cond ((okB (fover (fjoin (rowsOf (1) [] (0)) (0) (fun p_ q_ => (entB (ix) (tm) (st) (kd) (cl) (rq) (fr) (ct) (d) (n) f) (0 + p_) q_)) (0 + (0 + (52 + List.length d + 24 * n))) (0) (fun p_ q_ => AV.bad)) (0 + (52 + List.length d + 24 * n) + 0)))
  (cond (Nat.ble (0 + (52 + List.length d + 24 * n) + 0) 1000000)
  (cond ((entOK (fover (fjoin (rowsOf (1) [] (0)) (0) (fun p_ q_ => (entB (ix) (tm) (st) (kd) (cl) (rq) (fr) (ct) (d) (n) f) (0 + p_) q_)) (0 + (0 + (52 + List.length d + 24 * n))) (0) (fun p_ q_ => AV.bad)) (0) (0 + (52 + List.length d + 24 * n) + 0)))
  (cond ((backR (fover (fjoin (rowsOf (1) [] (0)) (0) (fun p_ q_ => (entB (ix) (tm) (st) (kd) (cl) (rq) (fr) (ct) (d) (n) f) (0 + p_) q_)) (0 + (0 + (52 + List.length d + 24 * n))) (0) (fun p_ q_ => AV.bad)) (ix) (tm) (st) (kd) (cl) (rq) (fr) (ct) (d) (n) f))
  (cond (decide (0 + (52 + List.length d + 24 * n) + 0 - eEnd (fover (fjoin (rowsOf 1 (List.take (0 * 1) (List.drop 0 (rep 0 [AV.int IntKind.u8 (Int.ofNat 0)]))) 0) 0 fun i j => entB ix tm st kd cl rq fr ct d n f (0 + i) j) (0 + (0 + (52 + List.length d + 24 * n))) 0 fun x x_1 => AV.bad) 0 = N))
  (cond (Nat.ble N 20000) (cond (decide (N = N)) (cond (decide (N = N)) (cond ((okB g (N))) (cond (Nat.ble N 20000) (cond (bif nl2 then Nat.beq N 0 else true)
  (some (true))
  none) none) none) none) none) none)
  none)
  none)
  none)
  none)
  none)
  none) none) none) none) none) none)
  none)
  (cond (growB (1) (0 + (52 + List.length d + 24 * n) + 0))
  (cond (Nat.ble (0 + (0 + (52 + List.length d + 24 * n))) (0 + (52 + List.length d + 24 * n)))
  (cond (decide (N = N)) (cond (decide (N = N)) (cond (decide (n = n)) (cond (decide (0 + (52 + List.length d + 24 * n) + 0 = 0 + (52 + List.length d + 24 * n) + 0)) (cond (decide (n = n)) (cond (decide (0 + (52 + List.length d + 24 * n) + 0 = 0 + (52 + List.length d + 24 * n) + 0)) (cond ((okB (fjoin (fun p_ q_ => (fjoin (rowsOf (1) [] (0)) (0) (fun p_ q_ => (entB (ix) (tm) (st) (kd) (cl) (rq) (fr) (ct) (d) (n) f) (0 + p_) q_)) (0 + p_) q_) (0 + (52 + List.length d + 24 * n)) (fun p_ q_ => AV.bad)) (0 + (52 + List.length d + 24 * n) + 0)))
  (cond (Nat.ble (0 + (52 + List.length d + 24 * n) + 0) 1000000)
  (cond ((entOK (fjoin (fun p_ q_ => (fjoin (rowsOf (1) [] (0)) (0) (fun p_ q_ => (entB (ix) (tm) (st) (kd) (cl) (rq) (fr) (ct) (d) (n) f) (0 + p_) q_)) (0 + p_) q_) (0 + (52 + List.length d + 24 * n)) (fun p_ q_ => AV.bad)) (0) (0 + (52 + List.length d + 24 * n) + 0)))
  (cond ((backR (fjoin (fun p_ q_ => (fjoin (rowsOf (1) [] (0)) (0) (fun p_ q_ => (entB (ix) (tm) (st) (kd) (cl) (rq) (fr) (ct) (d) (n) f) (0 + p_) q_)) (0 + p_) q_) (0 + (52 + List.length d + 24 * n)) (fun p_ q_ => AV.bad)) (ix) (tm) (st) (kd) (cl) (rq) (fr) (ct) (d) (n) f))
  (cond (decide (0 + (52 + List.length d + 24 * n) + 0 - eEnd (fjoin (fun i j => fjoin (rowsOf 1 (List.take (0 * 1) (List.drop 0 (rep 0 [AV.int IntKind.u8 (Int.ofNat 0)]))) 0) 0 (fun i j => entB ix tm st kd cl rq fr ct d n f (0 + i) j) (0 + i) j) (0 + (52 + List.length d + 24 * n)) fun x x_1 => AV.bad) 0 = N))
  (cond (Nat.ble N 20000) (cond (decide (N = N)) (cond (decide (N = N)) (cond ((okB g (N))) (cond (Nat.ble N 20000) (cond (bif nl2 then Nat.beq N 0 else true)
  (some (true))
  none) none) none) none) none) none)
  none)
  none)
  none)
  none)
  none) none) none) none) none) none) none)
  none)
  none))
  (cond (Nat.ble ((0 + (52 + List.length d + 24 * n)) + (N)) (0 + (52 + List.length d + 24 * n)))
  (cond (Nat.ble (0 + (0 + (52 + List.length d + 24 * n) + N)) (0 + (52 + List.length d + 24 * n)))
  (cond (Nat.ble (0 + N) N)
  (cond (decide (N = N)) (cond (decide (N = N)) (cond (decide (n = n)) (cond (decide (0 + (52 + List.length d + 24 * n) + N = 0 + (52 + List.length d + 24 * n) + N)) (cond (decide (n = n)) (cond (decide (0 + (52 + List.length d + 24 * n) + N = 0 + (52 + List.length d + 24 * n)))
  (cond ((okB (fover (fjoin (rowsOf (1) [] (0)) (0) (fun p_ q_ => (entB (ix) (tm) (st) (kd) (cl) (rq) (fr) (ct) (d) (n) f) (0 + p_) q_)) (0 + (0 + (52 + List.length d + 24 * n))) (N) (fun p_ q_ => g (0 + p_) q_)) (0 + (52 + List.length d + 24 * n) + N)))
  (cond (Nat.ble (0 + (52 + List.length d + 24 * n) + N) 1000000)
  (cond ((entOK (fover (fjoin (rowsOf (1) [] (0)) (0) (fun p_ q_ => (entB (ix) (tm) (st) (kd) (cl) (rq) (fr) (ct) (d) (n) f) (0 + p_) q_)) (0 + (0 + (52 + List.length d + 24 * n))) (N) (fun p_ q_ => g (0 + p_) q_)) (0) (0 + (52 + List.length d + 24 * n) + N)))
  (cond ((backR (fover (fjoin (rowsOf (1) [] (0)) (0) (fun p_ q_ => (entB (ix) (tm) (st) (kd) (cl) (rq) (fr) (ct) (d) (n) f) (0 + p_) q_)) (0 + (0 + (52 + List.length d + 24 * n))) (N) (fun p_ q_ => g (0 + p_) q_)) (ix) (tm) (st) (kd) (cl) (rq) (fr) (ct) (d) (n) f))
  (cond (decide (0 + (52 + List.length d + 24 * n) + N - eEnd (fover (fjoin (rowsOf 1 (List.take (0 * 1) (List.drop 0 (rep 0 [AV.int IntKind.u8 (Int.ofNat 0)]))) 0) 0 fun i j => entB ix tm st kd cl rq fr ct d n f (0 + i) j) (0 + (0 + (52 + List.length d + 24 * n))) N fun i j => g (0 + i) j) 0 = N))
  (cond (Nat.ble N 20000) (cond (decide (N = N)) (cond (decide (N = N)) (cond ((okB g (N))) (cond (Nat.ble N 20000) (cond (bif nl2 then Nat.beq N 0 else true)
  (some (true))
  none) none) none) none) none) none)
  none)
  none)
  none)
  none)
  none)
  none) none) none) none) none) none)
  none)
  none)
  (cond (growB (1) (0 + (52 + List.length d + 24 * n) + N))
  (cond (Nat.ble (0 + (0 + (52 + List.length d + 24 * n))) (0 + (52 + List.length d + 24 * n)))
  (cond (Nat.ble (0 + N) N)
  (cond (decide (N = N)) (cond (decide (N = N)) (cond (decide (n = n)) (cond (decide (0 + (52 + List.length d + 24 * n) + N = 0 + (52 + List.length d + 24 * n) + N)) (cond (decide (n = n)) (cond (decide (0 + (52 + List.length d + 24 * n) + N = 0 + (52 + List.length d + 24 * n) + N)) (cond ((okB (fjoin (fun p_ q_ => (fjoin (rowsOf (1) [] (0)) (0) (fun p_ q_ => (entB (ix) (tm) (st) (kd) (cl) (rq) (fr) (ct) (d) (n) f) (0 + p_) q_)) (0 + p_) q_) (0 + (52 + List.length d + 24 * n)) (fun p_ q_ => g (0 + p_) q_)) (0 + (52 + List.length d + 24 * n) + N)))
  (cond (Nat.ble (0 + (52 + List.length d + 24 * n) + N) 1000000)
  (cond ((entOK (fjoin (fun p_ q_ => (fjoin (rowsOf (1) [] (0)) (0) (fun p_ q_ => (entB (ix) (tm) (st) (kd) (cl) (rq) (fr) (ct) (d) (n) f) (0 + p_) q_)) (0 + p_) q_) (0 + (52 + List.length d + 24 * n)) (fun p_ q_ => g (0 + p_) q_)) (0) (0 + (52 + List.length d + 24 * n) + N)))
  (cond ((backR (fjoin (fun p_ q_ => (fjoin (rowsOf (1) [] (0)) (0) (fun p_ q_ => (entB (ix) (tm) (st) (kd) (cl) (rq) (fr) (ct) (d) (n) f) (0 + p_) q_)) (0 + p_) q_) (0 + (52 + List.length d + 24 * n)) (fun p_ q_ => g (0 + p_) q_)) (ix) (tm) (st) (kd) (cl) (rq) (fr) (ct) (d) (n) f))
  (cond (decide (0 + (52 + List.length d + 24 * n) + N - eEnd (fjoin (fun i j => fjoin (rowsOf 1 (List.take (0 * 1) (List.drop 0 (rep 0 [AV.int IntKind.u8 (Int.ofNat 0)]))) 0) 0 (fun i j => entB ix tm st kd cl rq fr ct d n f (0 + i) j) (0 + i) j) (0 + (52 + List.length d + 24 * n)) fun i j => g (0 + i) j) 0 = N))
  (cond (Nat.ble N 20000) (cond (decide (N = N)) (cond (decide (N = N)) (cond ((okB g (N))) (cond (Nat.ble N 20000) (cond (bif nl2 then Nat.beq N 0 else true)
  (some (true))
  none) none) none) none) none) none)
  none)
  none)
  none)
  none)
  none) none) none) none) none) none) none)
  none)
  none)
  none)))
  none)
  none))
  (cond (errN kd d n == 0) none (cond (decide (N = N)) (cond (decide (N = N)) (cond ((okB g (N))) (cond (Nat.ble N 20000) (cond (bif nl2 then Nat.beq N 0 else true)
  (some (true))
  none) none) none) none) none))) none) none))) none) none)
  (cond ((!decide ((↑n : Int) ≤ 200)) == false) none (cond ((!decide ((↑n : Int) ≤ 200)) == false) none (cond (!decide ((↑n : Int) ≤ 200)) (some (true)) none)))) none) none) none) none)
  (cond (decide ((↑(List.length d) : Int) ≤ 20000) == true) none (cond (decide ((↑(List.length d) : Int) ≤ 20000) == true) none (cond (decide ((↑(List.length d) : Int) ≤ 20000) == true) none (cond (decide ((↑(List.length d) : Int) ≤ 20000)) none (some (true))))))) := by kernel_rfl
theorem k5_eq (ix : Int) (tm : Int) (st : Int) (kd : Int) (cl : Int) (rq : Int) (fr : Int) (ct : Int) (d : List Nat) (nl : Bool) (n : Nat) (f : Nat → Nat → AV) (nl2 : Bool) (N : Nat) (g : Nat → Nat → AV) (hy0 : (Nat.ble N 20000) = true) (hy1 : (okB g (N)) = true) (hy2 : (errN kd d n == 0) = false) (hy3 : (Nat.ble ((0) + (52 + List.length d + 24 * n)) (0)) = false) : k5 ix tm st kd cl rq fr ct d nl n f nl2 N g k5_p = (cond (decide ((↑(List.length d) : Int) ≤ 20000))
  (cond (decide ((↑n : Int) ≤ 200))
  (cond (decide ((↑N : Int) > 20000))
  (some (true))
  (cond (wOK kd d n)
  (cond (growB (1) (0 + (52 + List.length d + 24 * n)))
  (cond (Nat.ble (0 + (52 + List.length d + 24 * n)) (52 + List.length d + 24 * n))
  (cond (nl2)
  (cond (Nat.ble ((0 + (52 + List.length d + 24 * n)) + (0)) (0 + (52 + List.length d + 24 * n)))
  (cond (Nat.ble (0 + (0 + (52 + List.length d + 24 * n) + 0)) (0 + (52 + List.length d + 24 * n)))
  (cond (decide (0 + (52 + List.length d + 24 * n) + 0 = 0 + (52 + List.length d + 24 * n)))
  (cond (okB (fover (fjoin (rowsOf (1) [] (0)) (0) (fun p_ q_ => (entB (ix) (tm) (st) (kd) (cl) (rq) (fr) (ct) (d) (n) f) (0 + p_) q_)) (0 + (0 + (52 + List.length d + 24 * n))) (0) (fun p_ q_ => AV.bad)) (0 + (52 + List.length d + 24 * n) + 0))
  (cond (Nat.ble (0 + (52 + List.length d + 24 * n) + 0) 1000000)
  (cond (entOK (fover (fjoin (rowsOf (1) [] (0)) (0) (fun p_ q_ => (entB (ix) (tm) (st) (kd) (cl) (rq) (fr) (ct) (d) (n) f) (0 + p_) q_)) (0 + (0 + (52 + List.length d + 24 * n))) (0) (fun p_ q_ => AV.bad)) (0) (0 + (52 + List.length d + 24 * n) + 0))
  (cond (backR (fover (fjoin (rowsOf (1) [] (0)) (0) (fun p_ q_ => (entB (ix) (tm) (st) (kd) (cl) (rq) (fr) (ct) (d) (n) f) (0 + p_) q_)) (0 + (0 + (52 + List.length d + 24 * n))) (0) (fun p_ q_ => AV.bad)) (ix) (tm) (st) (kd) (cl) (rq) (fr) (ct) (d) (n) f)
  (cond (decide (0 + (52 + List.length d + 24 * n) + 0 - eEnd (fover (fjoin (rowsOf 1 (List.take (0 * 1) (List.drop 0 (rep 0 [AV.int IntKind.u8 (Int.ofNat 0)]))) 0) 0 fun i j => entB ix tm st kd cl rq fr ct d n f (0 + i) j) (0 + (0 + (52 + List.length d + 24 * n))) 0 fun x x_1 => AV.bad) 0 = N))
  (cond (bif nl2 then Nat.beq N 0 else true)
  (some (true))
  none)
  none)
  none)
  none)
  none)
  none)
  none)
  none)
  (cond (growB (1) (0 + (52 + List.length d + 24 * n) + 0))
  (cond (Nat.ble (0 + (0 + (52 + List.length d + 24 * n))) (0 + (52 + List.length d + 24 * n)))
  (cond (okB (fjoin (fun p_ q_ => (fjoin (rowsOf (1) [] (0)) (0) (fun p_ q_ => (entB (ix) (tm) (st) (kd) (cl) (rq) (fr) (ct) (d) (n) f) (0 + p_) q_)) (0 + p_) q_) (0 + (52 + List.length d + 24 * n)) (fun p_ q_ => AV.bad)) (0 + (52 + List.length d + 24 * n) + 0))
  (cond (Nat.ble (0 + (52 + List.length d + 24 * n) + 0) 1000000)
  (cond (entOK (fjoin (fun p_ q_ => (fjoin (rowsOf (1) [] (0)) (0) (fun p_ q_ => (entB (ix) (tm) (st) (kd) (cl) (rq) (fr) (ct) (d) (n) f) (0 + p_) q_)) (0 + p_) q_) (0 + (52 + List.length d + 24 * n)) (fun p_ q_ => AV.bad)) (0) (0 + (52 + List.length d + 24 * n) + 0))
  (cond (backR (fjoin (fun p_ q_ => (fjoin (rowsOf (1) [] (0)) (0) (fun p_ q_ => (entB (ix) (tm) (st) (kd) (cl) (rq) (fr) (ct) (d) (n) f) (0 + p_) q_)) (0 + p_) q_) (0 + (52 + List.length d + 24 * n)) (fun p_ q_ => AV.bad)) (ix) (tm) (st) (kd) (cl) (rq) (fr) (ct) (d) (n) f)
  (cond (decide (0 + (52 + List.length d + 24 * n) + 0 - eEnd (fjoin (fun i j => fjoin (rowsOf 1 (List.take (0 * 1) (List.drop 0 (rep 0 [AV.int IntKind.u8 (Int.ofNat 0)]))) 0) 0 (fun i j => entB ix tm st kd cl rq fr ct d n f (0 + i) j) (0 + i) j) (0 + (52 + List.length d + 24 * n)) fun x x_1 => AV.bad) 0 = N))
  (cond (bif nl2 then Nat.beq N 0 else true)
  (some (true))
  none)
  none)
  none)
  none)
  none)
  none)
  none)
  none))
  (cond (Nat.ble ((0 + (52 + List.length d + 24 * n)) + (N)) (0 + (52 + List.length d + 24 * n)))
  (cond (Nat.ble (0 + (0 + (52 + List.length d + 24 * n) + N)) (0 + (52 + List.length d + 24 * n)))
  (cond (Nat.ble (0 + N) N)
  (cond (decide (0 + (52 + List.length d + 24 * n) + N = 0 + (52 + List.length d + 24 * n)))
  (cond (okB (fover (fjoin (rowsOf (1) [] (0)) (0) (fun p_ q_ => (entB (ix) (tm) (st) (kd) (cl) (rq) (fr) (ct) (d) (n) f) (0 + p_) q_)) (0 + (0 + (52 + List.length d + 24 * n))) (N) (fun p_ q_ => g (0 + p_) q_)) (0 + (52 + List.length d + 24 * n) + N))
  (cond (Nat.ble (0 + (52 + List.length d + 24 * n) + N) 1000000)
  (cond (entOK (fover (fjoin (rowsOf (1) [] (0)) (0) (fun p_ q_ => (entB (ix) (tm) (st) (kd) (cl) (rq) (fr) (ct) (d) (n) f) (0 + p_) q_)) (0 + (0 + (52 + List.length d + 24 * n))) (N) (fun p_ q_ => g (0 + p_) q_)) (0) (0 + (52 + List.length d + 24 * n) + N))
  (cond (backR (fover (fjoin (rowsOf (1) [] (0)) (0) (fun p_ q_ => (entB (ix) (tm) (st) (kd) (cl) (rq) (fr) (ct) (d) (n) f) (0 + p_) q_)) (0 + (0 + (52 + List.length d + 24 * n))) (N) (fun p_ q_ => g (0 + p_) q_)) (ix) (tm) (st) (kd) (cl) (rq) (fr) (ct) (d) (n) f)
  (cond (decide (0 + (52 + List.length d + 24 * n) + N - eEnd (fover (fjoin (rowsOf 1 (List.take (0 * 1) (List.drop 0 (rep 0 [AV.int IntKind.u8 (Int.ofNat 0)]))) 0) 0 fun i j => entB ix tm st kd cl rq fr ct d n f (0 + i) j) (0 + (0 + (52 + List.length d + 24 * n))) N fun i j => g (0 + i) j) 0 = N))
  (cond (bif nl2 then Nat.beq N 0 else true)
  (some (true))
  none)
  none)
  none)
  none)
  none)
  none)
  none)
  none)
  none)
  (cond (growB (1) (0 + (52 + List.length d + 24 * n) + N))
  (cond (Nat.ble (0 + (0 + (52 + List.length d + 24 * n))) (0 + (52 + List.length d + 24 * n)))
  (cond (Nat.ble (0 + N) N)
  (cond (okB (fjoin (fun p_ q_ => (fjoin (rowsOf (1) [] (0)) (0) (fun p_ q_ => (entB (ix) (tm) (st) (kd) (cl) (rq) (fr) (ct) (d) (n) f) (0 + p_) q_)) (0 + p_) q_) (0 + (52 + List.length d + 24 * n)) (fun p_ q_ => g (0 + p_) q_)) (0 + (52 + List.length d + 24 * n) + N))
  (cond (Nat.ble (0 + (52 + List.length d + 24 * n) + N) 1000000)
  (cond (entOK (fjoin (fun p_ q_ => (fjoin (rowsOf (1) [] (0)) (0) (fun p_ q_ => (entB (ix) (tm) (st) (kd) (cl) (rq) (fr) (ct) (d) (n) f) (0 + p_) q_)) (0 + p_) q_) (0 + (52 + List.length d + 24 * n)) (fun p_ q_ => g (0 + p_) q_)) (0) (0 + (52 + List.length d + 24 * n) + N))
  (cond (backR (fjoin (fun p_ q_ => (fjoin (rowsOf (1) [] (0)) (0) (fun p_ q_ => (entB (ix) (tm) (st) (kd) (cl) (rq) (fr) (ct) (d) (n) f) (0 + p_) q_)) (0 + p_) q_) (0 + (52 + List.length d + 24 * n)) (fun p_ q_ => g (0 + p_) q_)) (ix) (tm) (st) (kd) (cl) (rq) (fr) (ct) (d) (n) f)
  (cond (decide (0 + (52 + List.length d + 24 * n) + N - eEnd (fjoin (fun i j => fjoin (rowsOf 1 (List.take (0 * 1) (List.drop 0 (rep 0 [AV.int IntKind.u8 (Int.ofNat 0)]))) 0) 0 (fun i j => entB ix tm st kd cl rq fr ct d n f (0 + i) j) (0 + i) j) (0 + (52 + List.length d + 24 * n)) fun i j => g (0 + i) j) 0 = N))
  (cond (bif nl2 then Nat.beq N 0 else true)
  (some (true))
  none)
  none)
  none)
  none)
  none)
  none)
  none)
  none)
  none)))
  none)
  none)
  (cond (bif nl2 then Nat.beq N 0 else true)
  (some (true))
  none)))
  (some (true)))
  (some (true))) := by
  rw [k5_is]
  try simp only [hy0, hy1, hy2, hy3, eq_self, decide_true, beq_self_eq_true, Nat.beq_refl, ble_self, Int.le_refl, Nat.le_refl]
  cases (decide ((↑(List.length d) : Int) ≤ 20000)) with
  | true =>
    cases (decide ((↑n : Int) ≤ 200)) with
    | true =>
      cases (decide ((↑N : Int) > 20000)) with
      | true =>
        rfl
      | false =>
        cases (wOK kd d n) with
        | true =>
          cases (growB (1) (0 + (52 + List.length d + 24 * n))) with
          | true =>
            cases (Nat.ble (0 + (52 + List.length d + 24 * n)) (52 + List.length d + 24 * n)) with
            | true =>
              cases (nl2) with
              | true =>
                cases (Nat.ble ((0 + (52 + List.length d + 24 * n)) + (0)) (0 + (52 + List.length d + 24 * n))) with
                | true =>
                  cases (Nat.ble (0 + (0 + (52 + List.length d + 24 * n) + 0)) (0 + (52 + List.length d + 24 * n))) with
                  | true =>
                    cases (decide (0 + (52 + List.length d + 24 * n) + 0 = 0 + (52 + List.length d + 24 * n))) with
                    | true =>
                      cases (okB (fover (fjoin (rowsOf (1) [] (0)) (0) (fun p_ q_ => (entB (ix) (tm) (st) (kd) (cl) (rq) (fr) (ct) (d) (n) f) (0 + p_) q_)) (0 + (0 + (52 + List.length d + 24 * n))) (0) (fun p_ q_ => AV.bad)) (0 + (52 + List.length d + 24 * n) + 0)) with
                      | true =>
                        cases (Nat.ble (0 + (52 + List.length d + 24 * n) + 0) 1000000) with
                        | true =>
                          cases (entOK (fover (fjoin (rowsOf (1) [] (0)) (0) (fun p_ q_ => (entB (ix) (tm) (st) (kd) (cl) (rq) (fr) (ct) (d) (n) f) (0 + p_) q_)) (0 + (0 + (52 + List.length d + 24 * n))) (0) (fun p_ q_ => AV.bad)) (0) (0 + (52 + List.length d + 24 * n) + 0)) with
                          | true =>
                            cases (backR (fover (fjoin (rowsOf (1) [] (0)) (0) (fun p_ q_ => (entB (ix) (tm) (st) (kd) (cl) (rq) (fr) (ct) (d) (n) f) (0 + p_) q_)) (0 + (0 + (52 + List.length d + 24 * n))) (0) (fun p_ q_ => AV.bad)) (ix) (tm) (st) (kd) (cl) (rq) (fr) (ct) (d) (n) f) with
                            | true =>
                              cases (decide (0 + (52 + List.length d + 24 * n) + 0 - eEnd (fover (fjoin (rowsOf 1 (List.take (0 * 1) (List.drop 0 (rep 0 [AV.int IntKind.u8 (Int.ofNat 0)]))) 0) 0 fun i j => entB ix tm st kd cl rq fr ct d n f (0 + i) j) (0 + (0 + (52 + List.length d + 24 * n))) 0 fun x x_1 => AV.bad) 0 = N)) with
                              | true =>
                                cases (bif true then Nat.beq N 0 else true) with
                                | true =>
                                  rfl
                                | false =>
                                  rfl
                              | false =>
                                rfl
                            | false =>
                              rfl
                          | false =>
                            rfl
                        | false =>
                          rfl
                      | false =>
                        rfl
                    | false =>
                      rfl
                  | false =>
                    rfl
                | false =>
                  cases (growB (1) (0 + (52 + List.length d + 24 * n) + 0)) with
                  | true =>
                    cases (Nat.ble (0 + (0 + (52 + List.length d + 24 * n))) (0 + (52 + List.length d + 24 * n))) with
                    | true =>
                      cases (okB (fjoin (fun p_ q_ => (fjoin (rowsOf (1) [] (0)) (0) (fun p_ q_ => (entB (ix) (tm) (st) (kd) (cl) (rq) (fr) (ct) (d) (n) f) (0 + p_) q_)) (0 + p_) q_) (0 + (52 + List.length d + 24 * n)) (fun p_ q_ => AV.bad)) (0 + (52 + List.length d + 24 * n) + 0)) with
                      | true =>
                        cases (Nat.ble (0 + (52 + List.length d + 24 * n) + 0) 1000000) with
                        | true =>
                          cases (entOK (fjoin (fun p_ q_ => (fjoin (rowsOf (1) [] (0)) (0) (fun p_ q_ => (entB (ix) (tm) (st) (kd) (cl) (rq) (fr) (ct) (d) (n) f) (0 + p_) q_)) (0 + p_) q_) (0 + (52 + List.length d + 24 * n)) (fun p_ q_ => AV.bad)) (0) (0 + (52 + List.length d + 24 * n) + 0)) with
                          | true =>
                            cases (backR (fjoin (fun p_ q_ => (fjoin (rowsOf (1) [] (0)) (0) (fun p_ q_ => (entB (ix) (tm) (st) (kd) (cl) (rq) (fr) (ct) (d) (n) f) (0 + p_) q_)) (0 + p_) q_) (0 + (52 + List.length d + 24 * n)) (fun p_ q_ => AV.bad)) (ix) (tm) (st) (kd) (cl) (rq) (fr) (ct) (d) (n) f) with
                            | true =>
                              cases (decide (0 + (52 + List.length d + 24 * n) + 0 - eEnd (fjoin (fun i j => fjoin (rowsOf 1 (List.take (0 * 1) (List.drop 0 (rep 0 [AV.int IntKind.u8 (Int.ofNat 0)]))) 0) 0 (fun i j => entB ix tm st kd cl rq fr ct d n f (0 + i) j) (0 + i) j) (0 + (52 + List.length d + 24 * n)) fun x x_1 => AV.bad) 0 = N)) with
                              | true =>
                                cases (bif true then Nat.beq N 0 else true) with
                                | true =>
                                  rfl
                                | false =>
                                  rfl
                              | false =>
                                rfl
                            | false =>
                              rfl
                          | false =>
                            rfl
                        | false =>
                          rfl
                      | false =>
                        rfl
                    | false =>
                      rfl
                  | false =>
                    rfl
              | false =>
                cases (Nat.ble ((0 + (52 + List.length d + 24 * n)) + (N)) (0 + (52 + List.length d + 24 * n))) with
                | true =>
                  cases (Nat.ble (0 + (0 + (52 + List.length d + 24 * n) + N)) (0 + (52 + List.length d + 24 * n))) with
                  | true =>
                    cases (Nat.ble (0 + N) N) with
                    | true =>
                      cases (decide (0 + (52 + List.length d + 24 * n) + N = 0 + (52 + List.length d + 24 * n))) with
                      | true =>
                        cases (okB (fover (fjoin (rowsOf (1) [] (0)) (0) (fun p_ q_ => (entB (ix) (tm) (st) (kd) (cl) (rq) (fr) (ct) (d) (n) f) (0 + p_) q_)) (0 + (0 + (52 + List.length d + 24 * n))) (N) (fun p_ q_ => g (0 + p_) q_)) (0 + (52 + List.length d + 24 * n) + N)) with
                        | true =>
                          cases (Nat.ble (0 + (52 + List.length d + 24 * n) + N) 1000000) with
                          | true =>
                            cases (entOK (fover (fjoin (rowsOf (1) [] (0)) (0) (fun p_ q_ => (entB (ix) (tm) (st) (kd) (cl) (rq) (fr) (ct) (d) (n) f) (0 + p_) q_)) (0 + (0 + (52 + List.length d + 24 * n))) (N) (fun p_ q_ => g (0 + p_) q_)) (0) (0 + (52 + List.length d + 24 * n) + N)) with
                            | true =>
                              cases (backR (fover (fjoin (rowsOf (1) [] (0)) (0) (fun p_ q_ => (entB (ix) (tm) (st) (kd) (cl) (rq) (fr) (ct) (d) (n) f) (0 + p_) q_)) (0 + (0 + (52 + List.length d + 24 * n))) (N) (fun p_ q_ => g (0 + p_) q_)) (ix) (tm) (st) (kd) (cl) (rq) (fr) (ct) (d) (n) f) with
                              | true =>
                                cases (decide (0 + (52 + List.length d + 24 * n) + N - eEnd (fover (fjoin (rowsOf 1 (List.take (0 * 1) (List.drop 0 (rep 0 [AV.int IntKind.u8 (Int.ofNat 0)]))) 0) 0 fun i j => entB ix tm st kd cl rq fr ct d n f (0 + i) j) (0 + (0 + (52 + List.length d + 24 * n))) N fun i j => g (0 + i) j) 0 = N)) with
                                | true =>
                                  cases (bif false then Nat.beq N 0 else true) with
                                  | true =>
                                    rfl
                                  | false =>
                                    rfl
                                | false =>
                                  rfl
                              | false =>
                                rfl
                            | false =>
                              rfl
                          | false =>
                            rfl
                        | false =>
                          rfl
                      | false =>
                        rfl
                    | false =>
                      rfl
                  | false =>
                    rfl
                | false =>
                  cases (growB (1) (0 + (52 + List.length d + 24 * n) + N)) with
                  | true =>
                    cases (Nat.ble (0 + (0 + (52 + List.length d + 24 * n))) (0 + (52 + List.length d + 24 * n))) with
                    | true =>
                      cases (Nat.ble (0 + N) N) with
                      | true =>
                        cases (okB (fjoin (fun p_ q_ => (fjoin (rowsOf (1) [] (0)) (0) (fun p_ q_ => (entB (ix) (tm) (st) (kd) (cl) (rq) (fr) (ct) (d) (n) f) (0 + p_) q_)) (0 + p_) q_) (0 + (52 + List.length d + 24 * n)) (fun p_ q_ => g (0 + p_) q_)) (0 + (52 + List.length d + 24 * n) + N)) with
                        | true =>
                          cases (Nat.ble (0 + (52 + List.length d + 24 * n) + N) 1000000) with
                          | true =>
                            cases (entOK (fjoin (fun p_ q_ => (fjoin (rowsOf (1) [] (0)) (0) (fun p_ q_ => (entB (ix) (tm) (st) (kd) (cl) (rq) (fr) (ct) (d) (n) f) (0 + p_) q_)) (0 + p_) q_) (0 + (52 + List.length d + 24 * n)) (fun p_ q_ => g (0 + p_) q_)) (0) (0 + (52 + List.length d + 24 * n) + N)) with
                            | true =>
                              cases (backR (fjoin (fun p_ q_ => (fjoin (rowsOf (1) [] (0)) (0) (fun p_ q_ => (entB (ix) (tm) (st) (kd) (cl) (rq) (fr) (ct) (d) (n) f) (0 + p_) q_)) (0 + p_) q_) (0 + (52 + List.length d + 24 * n)) (fun p_ q_ => g (0 + p_) q_)) (ix) (tm) (st) (kd) (cl) (rq) (fr) (ct) (d) (n) f) with
                              | true =>
                                cases (decide (0 + (52 + List.length d + 24 * n) + N - eEnd (fjoin (fun i j => fjoin (rowsOf 1 (List.take (0 * 1) (List.drop 0 (rep 0 [AV.int IntKind.u8 (Int.ofNat 0)]))) 0) 0 (fun i j => entB ix tm st kd cl rq fr ct d n f (0 + i) j) (0 + i) j) (0 + (52 + List.length d + 24 * n)) fun i j => g (0 + i) j) 0 = N)) with
                                | true =>
                                  cases (bif false then Nat.beq N 0 else true) with
                                  | true =>
                                    rfl
                                  | false =>
                                    rfl
                                | false =>
                                  rfl
                              | false =>
                                rfl
                            | false =>
                              rfl
                          | false =>
                            rfl
                        | false =>
                          rfl
                      | false =>
                        rfl
                    | false =>
                      rfl
                  | false =>
                    rfl
            | false =>
              rfl
          | false =>
            rfl
        | false =>
          cases (bif nl2 then Nat.beq N 0 else true) with
          | true =>
            rfl
          | false =>
            rfl
    | false =>
      rfl
  | false =>
    rfl

end Go.Proofs.Ytjbjjikdihghmaa.entry
