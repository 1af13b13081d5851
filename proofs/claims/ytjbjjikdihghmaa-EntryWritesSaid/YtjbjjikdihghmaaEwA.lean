/- Entries, written: what the machine reckons. -/
import Derived.Test.YtjbjjikdihghmaaOcA
set_option linter.unusedSimpArgs false
set_option linter.unusedVariables false
set_option maxRecDepth 20000
namespace Go.Proofs.Ytjbjjikdihghmaa.entry
open Go Go.RowKit Go.Proofs.Ytjbjjikdihghmaa.Bm
abbrev shL : List Sh := [.int .u64, .int .u64, .int .u32, .int .u32]
def strB (d : List Nat) (i _ : Nat) : AV := .int .u8 (natAt d i)
/-- A look's bytes; those of looks in a row. -/
def lookI (cl rq fr ct : Int) (a : Nat) : Int := cond (Nat.blt a 8) (byt cl a) (cond (Nat.blt a 16) (byt rq (a - 8)) (cond (Nat.blt a 20) (byt (IntKind.wrap .u64 fr) (a - 16)) (byt (IntKind.wrap .u64 ct) (a - 20))))
def lookB (cl rq fr ct : Int) (a _ : Nat) : AV := .int .u8 (lookI cl rq fr ct a)
def behB (g : Nat → Nat → AV) (a _ : Nat) : AV := .int .u8 (lookI (g (a / 24) 0).toI (g (a / 24) 1).toI (g (a / 24) 2).toI (g (a / 24) 3).toI (a % 24))
noncomputable def lookOk (cl rq fr ct : Int) : Bool := u64B cl && u64B rq && u64B (IntKind.wrap .u64 fr) && u64B (IntKind.wrap .u64 ct)
noncomputable def rowOk (g : Nat → Nat → AV) (i : Nat) : Bool := lookOk (g i 0).toI (g i 1).toI (g i 2).toI (g i 3).toI
def h8 : Pat := ⟨70, [(4, .asl shB), (59, .asl shL), (60, .keep), (61, .keep)], []⟩
def x8 : List (Ex × Pat) := [(.exit 1, ⟨70, [(4, .asl shB)], []⟩)]
def lE : List PV := [.keep, .keep, .keep, .keep, .keep, .keep, .keep, .keep, .keep, .asl shL]
def pE : PV := .agg lE
def h9 : Pat := ⟨68, [(1, .keep), (4, .asl shB), (5, .keep)], [lE]⟩
def x9 : List (Ex × Pat) := [(.exit 0, ⟨68, [(4, .asl shB)], []⟩)]
def a24 (n : Nat) (f : Nat → Nat → AV) (d : List Nat) : CS :=
  ⟨[.osl false 0 0 n n 1 true, .str d], [some (.tarr shB n f true)]⟩
def a22 (n : Nat) (f : Nat → Nat → AV) (cl : Int) (rq : Int) (fr : Int) (ct : Int) : CS :=
  ⟨[.osl false 0 0 n n 1 true, .agg [.int .u64 cl, .int .u64 rq, .int .u32 fr, .int .u32 ct]], [some (.tarr shB n f true)]⟩
def c8 (n : Nat) (f : Nat → Nat → AV) (nl2 : Bool) (m : Nat) (g : Nat → Nat → AV) (j : Nat) : CS :=
  ⟨[.osl false 0 0 n n 1 true, .osl nl2 1 0 m m 4 true, .int .i64 (m : Nat), .int .i64 (j : Nat)], [some (.tarr shB n f true), some (.tarr shL m g false)]⟩
def c9 (ix : Int) (tm : Int) (st : Int) (kd : Int) (cl : Int) (rq : Int) (fr : Int) (ct : Int) (d : List Nat) (nl2 : Bool) (n : Nat) (f : Nat → Nat → AV) (m : Nat) (g : Nat → Nat → AV) (j : Nat) : CS :=
  ⟨[.ptr 0 0, .osl false 1 0 n n 1 true, .int .i64 (j : Nat)], [some (.cells [.int .u64 ix, .int .u64 tm, .int .u64 st, .int .i64 kd, .int .u64 cl, .int .u64 rq, .int .u32 fr, .int .u32 ct, .str d, .osl nl2 2 0 m m 4 true] true), some (.tarr shB n f true), some (.tarr shL m g false)]⟩
def a8 (ix : Int) (tm : Int) (st : Int) (kd : Int) (cl : Int) (rq : Int) (fr : Int) (ct : Int) (d : List Nat) (nl2 : Bool) (m : Nat) (g : Nat → Nat → AV) : CS :=
  ⟨[.agg [.int .u64 ix, .int .u64 tm, .int .u64 st, .int .i64 kd, .int .u64 cl, .int .u64 rq, .int .u32 fr, .int .u32 ct, .str d, .osl nl2 0 0 m m 4 true]], [some (.tarr shL m g false)]⟩
/-- An entry's bytes. -/
def entB (ix tm st kd cl rq fr ct : Int) (d : List Nat) (m : Nat) (g : Nat → Nat → AV) : Nat → Nat → AV :=
  fjoin (fjoin (fjoin (fjoin (fjoin (fjoin (fjoin (fun _ _ => .bad) 0 (allB 8 (rowsOf 1 [.int .u64 ix, .int .u64 tm, .int .u64 st] 3))) 24 (allB 1 (rowsOf 1 [.int .u64 (IntKind.wrap .u64 kd)] 1))) 25 (lookB cl rq fr ct)) 49 (oneB (IntKind.wrap .u64 (d.length : Int)))) 51 (strB d)) (51 + d.length) (allB 1 (rowsOf 1 [.int .u64 (IntKind.wrap .u64 (m : Int))] 1))) (52 + d.length) (behB g)
noncomputable def f24B  (n : Nat) (f : Nat → Nat → AV) (d : List Nat) : T (CS) :=
  chkT [Nat.ble (n + 16) 900000] (.ask (decide ((d.length : Int) > 16384)) (.ret ⟨[.tuple [.nilSlice, .int .i64 11]], []⟩) (.ret ⟨[.tuple [.tsl 0 0 (n + 2 + d.length) (n + 2 + d.length) 1 true, .int .i64 0]], [some (.tarr shB (n + 2 + d.length) (fjoin (fjoin f n (oneB (IntKind.wrap .u64 (d.length : Int)))) (n + 2) (strB d)) true)]⟩))
noncomputable def f24  (c : CS) : T (CS) := match c with
  | ⟨[.osl z_1 0 0 n z_2 1 true, .str d], [some (.tarr sh_3 z_4 f true)]⟩ => chkT [decide (false = z_1), decide (n = z_2), shBeq sh_3 shB, decide (n = z_4)] (f24B  n f d)
  | _ => .fail
noncomputable def f29B  (n : Nat) (f : Nat → Nat → AV) (d : List Nat) : T (CS) :=
  chkT [Nat.ble (n + 16) 900000] (.ask (decide ((d.length : Int) > 16384)) (.ret ⟨[.tuple [.nilSlice, .bool false]], []⟩) (.ret ⟨[.tuple [.tsl 0 0 (n + 2 + d.length) (n + 2 + d.length) 1 true, .bool true]], [some (.tarr shB (n + 2 + d.length) (fjoin (fjoin f n (oneB (IntKind.wrap .u64 (d.length : Int)))) (n + 2) (strB d)) true)]⟩))
noncomputable def f29  (c : CS) : T (CS) := match c with
  | ⟨[.osl z_1 0 0 n z_2 1 true, .str d], [some (.tarr sh_3 z_4 f true)]⟩ => chkT [decide (false = z_1), decide (n = z_2), shBeq sh_3 shB, decide (n = z_4)] (f29B  n f d)
  | _ => .fail
noncomputable def f22B  (n : Nat) (f : Nat → Nat → AV) (cl : Int) (rq : Int) (fr : Int) (ct : Int) : T (CS) :=
  chkT [Nat.ble (n + 32) 1000000] (.ret ⟨[.osl false 0 0 (n + 24) (n + 24) 1 true], [some (.tarr shB (n + 24) (fjoin f n (lookB cl rq fr ct)) true)]⟩)
noncomputable def f22  (c : CS) : T (CS) := match c with
  | ⟨[.osl z_1 0 0 n z_2 1 true, .agg [.int .u64 cl, .int .u64 rq, .int .u32 fr, .int .u32 ct]], [some (.tarr sh_3 z_4 f true)]⟩ => chkT [decide (false = z_1), decide (n = z_2), shBeq sh_3 shB, decide (n = z_4)] (f22B  n f cl rq fr ct)
  | _ => .fail
noncomputable def f26B  (n : Nat) (f : Nat → Nat → AV) (cl : Int) (rq : Int) (fr : Int) (ct : Int) : T (CS) :=
  chkT [lookOk cl rq fr ct, Nat.ble (n + 32) 1000000] (.ret ⟨[.osl false 0 0 (n + 24) (n + 24) 1 true], [some (.tarr shB (n + 24) (fjoin f n (lookB cl rq fr ct)) true)]⟩)
noncomputable def f26  (c : CS) : T (CS) := match c with
  | ⟨[.osl z_1 0 0 n z_2 1 true, .agg [.int .u64 cl, .int .u64 rq, .int .u32 fr, .int .u32 ct]], [some (.tarr sh_3 z_4 f true)]⟩ => chkT [decide (false = z_1), decide (n = z_2), shBeq sh_3 shB, decide (n = z_4)] (f26B  n f cl rq fr ct)
  | _ => .fail
noncomputable def r8B  (n : Nat) (f : Nat → Nat → AV) (nl2 : Bool) (m : Nat) (g : Nat → Nat → AV) : T (Nat × CS) :=
  chkT [Nat.ble m 1000, Nat.ble (n + 24 * m + 32) 1000000] (.ret (1, ⟨[.osl false 0 0 (n + 24 * m) (n + 24 * m) 1 true], [some (.tarr shB (n + 24 * m) (fjoin f n (behB g)) true)]⟩))
noncomputable def r8  (c : CS) : T (Nat × CS) := match c with
  | ⟨[.osl z_1 0 0 n z_2 1 true, .osl nl2 1 0 m z_3 4 true, .int .i64 z_4, .int .i64 z_5], [some (.tarr sh_6 z_7 f true), some (.tarr sh_8 z_9 g false)]⟩ => chkT [decide (false = z_1), decide (n = z_2), decide (m = z_3), decide ((m : Nat) = z_4), decide (0 = z_5), shBeq sh_6 shB, decide (n = z_7), shBeq sh_8 shL, decide (m = z_9)] (r8B  n f nl2 m g)
  | _ => .fail
noncomputable def r9B  (ix : Int) (tm : Int) (st : Int) (kd : Int) (cl : Int) (rq : Int) (fr : Int) (ct : Int) (d : List Nat) (nl2 : Bool) (n : Nat) (f : Nat → Nat → AV) (m : Nat) (g : Nat → Nat → AV) : T (Nat × CS) :=
  chkT [Nat.ble m 1000, Nat.ble (n + 24 * m + 32) 1000000, okFrom (rowOk g) 0 m] (.ret (1, ⟨[.osl false 0 0 (n + 24 * m) (n + 24 * m) 1 true], [some (.tarr shB (n + 24 * m) (fjoin f n (behB g)) true)]⟩))
noncomputable def r9  (c : CS) : T (Nat × CS) := match c with
  | ⟨[.ptr 0 0, .osl z_1 1 0 n z_2 1 true, .int .i64 z_3], [some (.cells [.int .u64 ix, .int .u64 tm, .int .u64 st, .int .i64 kd, .int .u64 cl, .int .u64 rq, .int .u32 fr, .int .u32 ct, .str d, .osl nl2 2 0 m z_4 4 true] true), some (.tarr sh_5 z_6 f true), some (.tarr sh_7 z_8 g false)]⟩ => chkT [decide (false = z_1), decide (n = z_2), decide (0 = z_3), decide (m = z_4), shBeq sh_5 shB, decide (n = z_6), shBeq sh_7 shL, decide (m = z_8)] (r9B  ix tm st kd cl rq fr ct d nl2 n f m g)
  | _ => .fail
noncomputable def f8B  (ix : Int) (tm : Int) (st : Int) (kd : Int) (cl : Int) (rq : Int) (fr : Int) (ct : Int) (d : List Nat) (nl2 : Bool) (m : Nat) (g : Nat → Nat → AV) : T (CS) :=
  .ask (decide (kd < 0)) (.ret ⟨[.tuple [.nilSlice, .int .i64 2]], []⟩) (.ask (decide (kd > 255)) (.ret ⟨[.tuple [.nilSlice, .int .i64 2]], []⟩) (.ask (decide ((d.length : Int) > 16384)) (.ret ⟨[.tuple [.nilSlice, .int .i64 11]], []⟩) (.ask (decide ((m : Int) > 64)) (.ret ⟨[.tuple [.nilSlice, .int .i64 11]], []⟩) (.ret ⟨[.tuple [.tsl 0 0 (52 + d.length + 24 * m) (52 + d.length + 24 * m) 1 true, .int .i64 0]], [some (.tarr shB (52 + d.length + 24 * m) (entB ix tm st kd cl rq fr ct d m g) true)]⟩))))
noncomputable def f8  (c : CS) : T (CS) := match c with
  | ⟨[.agg [.int .u64 ix, .int .u64 tm, .int .u64 st, .int .i64 kd, .int .u64 cl, .int .u64 rq, .int .u32 fr, .int .u32 ct, .str d, .osl nl2 0 0 m z_1 4 true]], [some (.tarr sh_2 z_3 g false)]⟩ => chkT [decide (m = z_1), shBeq sh_2 shL, decide (m = z_3)] (f8B  ix tm st kd cl rq fr ct d nl2 m g)
  | _ => .fail
noncomputable def f9B  (ix : Int) (tm : Int) (st : Int) (kd : Int) (cl : Int) (rq : Int) (fr : Int) (ct : Int) (d : List Nat) (nl2 : Bool) (m : Nat) (g : Nat → Nat → AV) : T (CS) :=
  .ask (decide (kd < 0)) (.ret ⟨[.tuple [.nilSlice, .int .i64 2]], []⟩) (.ask (decide (kd > 255)) (.ret ⟨[.tuple [.nilSlice, .int .i64 2]], []⟩) (.ask (decide ((d.length : Int) > 16384)) (.ret ⟨[.tuple [.nilSlice, .int .i64 11]], []⟩) (.ask (decide ((m : Int) > 64)) (.ret ⟨[.tuple [.nilSlice, .int .i64 11]], []⟩) (chkT [u64B ix, u64B tm, u64B st, lookOk cl rq fr ct, okFrom (rowOk g) 0 m] (.ret ⟨[.tuple [.tsl 0 0 (52 + d.length + 24 * m) (52 + d.length + 24 * m) 1 true, .int .i64 0]], [some (.tarr shB (52 + d.length + 24 * m) (entB ix tm st kd cl rq fr ct d m g) true)]⟩)))))
noncomputable def f9  (c : CS) : T (CS) := match c with
  | ⟨[.agg [.int .u64 ix, .int .u64 tm, .int .u64 st, .int .i64 kd, .int .u64 cl, .int .u64 rq, .int .u32 fr, .int .u32 ct, .str d, .osl nl2 0 0 m z_1 4 true]], [some (.tarr sh_2 z_3 g false)]⟩ => chkT [decide (m = z_1), shBeq sh_2 shL, decide (m = z_3)] (f9B  ix tm st kd cl rq fr ct d nl2 m g)
  | _ => .fail
noncomputable def E8 : Env := addF (addF E7 24 ⟨fiRun [.asl shB, .keep] [] 0 f24⟩) 29 ⟨fiRun [.asl shB, .keep] [] 0 f29⟩
noncomputable def E9 : Env := addF (addF E8 22 ⟨fiRun [.asl shB, .keep] [] 0 f22⟩) 26 ⟨fiRun [.asl shB, .keep] [] 0 f26⟩
noncomputable def E9b : Env := addL E9 8 1 1000004 h8 x8 0 r8
noncomputable def E10 : Env := addL E9b 9 0 1000005 h9 x9 0 r9
noncomputable def E11 : Env := addF (addF E10 8 ⟨fiRun [pE] [] 0 f8⟩) 9 ⟨fiRun [pE] [] 0 f9⟩
noncomputable def k24 (n : Nat) (f : Nat → Nat → AV) (d : List Nat) (π : Plan) : Option CS := callC (E7) (1000) (24) (0) (.keep) ([]) π (a24 n f d)
def k24_p : Plan := (.fork .stop (.must true (.reck 3 (.must true (.reck 5 (.fork (.reck 1 (.fork (.fork .stop .stop) (.fork (.fork .stop .stop) .stop))) .stop))))))
theorem k24_is (n : Nat) (f : Nat → Nat → AV) (d : List Nat) : k24 n f d k24_p = (cond (decide ((↑(List.length d) : Int) > 16384))
  (some (CS.mk [(AV.tuple [AV.nilSlice, (AV.int IntKind.i64 (11))])] []))
  (cond (decide (n = n)) (cond (decide (n = n)) (cond (Nat.ble (n + 8 * 1) 1000000)
  (cond (Nat.ble ((n + Int.toNat 2 * 1) + (List.length (d))) (n + Int.toNat 2 * 1))
  (cond (Nat.ble (0 + (n + Int.toNat 2 * 1 + List.length d)) (n + Int.toNat 2 * 1))
  (some (CS.mk [(AV.tuple [(AV.tsl (0) (0) (n + Int.toNat 2 * 1 + List.length d) (n + Int.toNat 2 * 1 + List.length d) (1) (true)), (AV.int IntKind.i64 (0))])] [some (AObj.tarr [Sh.int IntKind.u8] (n + Int.toNat 2 * 1) (fover (fjoin f (n) (allB (2) (rowsOf (1) [(AV.int IntKind.u64 (IntKind.wrap IntKind.u64 (↑(List.length d) : Int)))] (1)))) (0 + (n + Int.toNat 2 * 1)) (List.length d) (fun p_ q_ => (AV.int IntKind.u8 ((↑(natAt d p_) : Int))))) true)]))
  none)
  (cond (growB (1) (n + Int.toNat 2 * 1 + List.length d))
  (cond (Nat.ble (0 + (n + Int.toNat 2 * 1)) (n + Int.toNat 2 * 1))
  (some (CS.mk [(AV.tuple [(AV.tsl (0) (0) (n + Int.toNat 2 * 1 + List.length d) (n + Int.toNat 2 * 1 + List.length d) (1) (true)), (AV.int IntKind.i64 (0))])] [some (AObj.tarr [Sh.int IntKind.u8] (n + Int.toNat 2 * 1 + List.length d) (fjoin (fun p_ q_ => (fjoin f (n) (allB (2) (rowsOf (1) [(AV.int IntKind.u64 (IntKind.wrap IntKind.u64 (↑(List.length d) : Int)))] (1)))) (0 + p_) q_) (n + Int.toNat 2 * 1) (fun p_ q_ => (AV.int IntKind.u8 ((↑(natAt d p_) : Int))))) true)]))
  none)
  none))
  none) none) none)) := by kernel_rfl
theorem k24_eq (n : Nat) (f : Nat → Nat → AV) (d : List Nat) : k24 n f d k24_p = (cond (decide ((↑(List.length d) : Int) > 16384))
  (some (CS.mk [(AV.tuple [AV.nilSlice, (AV.int IntKind.i64 (11))])] []))
  (cond (Nat.ble (n + 8 * 1) 1000000)
  (cond (Nat.ble ((n + Int.toNat 2 * 1) + (List.length (d))) (n + Int.toNat 2 * 1))
  (cond (Nat.ble (0 + (n + Int.toNat 2 * 1 + List.length d)) (n + Int.toNat 2 * 1))
  (some (CS.mk [(AV.tuple [(AV.tsl (0) (0) (n + Int.toNat 2 * 1 + List.length d) (n + Int.toNat 2 * 1 + List.length d) (1) (true)), (AV.int IntKind.i64 (0))])] [some (AObj.tarr [Sh.int IntKind.u8] (n + Int.toNat 2 * 1) (fover (fjoin f (n) (allB (2) (rowsOf (1) [(AV.int IntKind.u64 (IntKind.wrap IntKind.u64 (↑(List.length d) : Int)))] (1)))) (0 + (n + Int.toNat 2 * 1)) (List.length d) (fun p_ q_ => (AV.int IntKind.u8 ((↑(natAt d p_) : Int))))) true)]))
  none)
  (cond (growB (1) (n + Int.toNat 2 * 1 + List.length d))
  (cond (Nat.ble (0 + (n + Int.toNat 2 * 1)) (n + Int.toNat 2 * 1))
  (some (CS.mk [(AV.tuple [(AV.tsl (0) (0) (n + Int.toNat 2 * 1 + List.length d) (n + Int.toNat 2 * 1 + List.length d) (1) (true)), (AV.int IntKind.i64 (0))])] [some (AObj.tarr [Sh.int IntKind.u8] (n + Int.toNat 2 * 1 + List.length d) (fjoin (fun p_ q_ => (fjoin f (n) (allB (2) (rowsOf (1) [(AV.int IntKind.u64 (IntKind.wrap IntKind.u64 (↑(List.length d) : Int)))] (1)))) (0 + p_) q_) (n + Int.toNat 2 * 1) (fun p_ q_ => (AV.int IntKind.u8 ((↑(natAt d p_) : Int))))) true)]))
  none)
  none))
  none)) := by
  rw [k24_is]
  try simp only [eq_self, decide_true, beq_self_eq_true, Nat.beq_refl, ble_self, Int.le_refl, Nat.le_refl]
  cases (decide ((↑(List.length d) : Int) > 16384)) with
  | true =>
    rfl
  | false =>
    cases (Nat.ble (n + 8 * 1) 1000000) with
    | true =>
      cases (Nat.ble ((n + Int.toNat 2 * 1) + (List.length (d))) (n + Int.toNat 2 * 1)) with
      | true =>
        cases (Nat.ble (0 + (n + Int.toNat 2 * 1 + List.length d)) (n + Int.toNat 2 * 1)) with
        | true =>
          rfl
        | false =>
          rfl
      | false =>
        cases (growB (1) (n + Int.toNat 2 * 1 + List.length d)) with
        | true =>
          cases (Nat.ble (0 + (n + Int.toNat 2 * 1)) (n + Int.toNat 2 * 1)) with
          | true =>
            rfl
          | false =>
            rfl
        | false =>
          rfl
    | false =>
      rfl

noncomputable def k29 (n : Nat) (f : Nat → Nat → AV) (d : List Nat) (π : Plan) : Option CS := callC (E7) (1000) (29) (0) (.keep) ([]) π (a24 n f d)
def k29_p : Plan := (.fork .stop (.must true (.reck 1 (.must true (.reck 1 (.fork (.reck 2 (.fork (.reck 1 (.fork (.fork .stop .stop) (.fork (.fork .stop .stop) .stop))) .stop)) .stop))))))
theorem k29_is (n : Nat) (f : Nat → Nat → AV) (d : List Nat) : k29 n f d k29_p = (cond (decide ((↑(List.length d) : Int) > 16384))
  (some (CS.mk [(AV.tuple [AV.nilSlice, (AV.bool (false))])] []))
  (cond (decide (n = n)) (cond (decide (n = n)) (cond (Nat.ble (n + 8) 1000000)
  (cond (u64B (IntKind.wrap IntKind.u64 (↑(List.length d) : Int)))
  (cond (Nat.ble ((n + Int.toNat 2) + (List.length (d))) (n + Int.toNat 2))
  (cond (Nat.ble (0 + (n + Int.toNat 2 + List.length d)) (n + Int.toNat 2))
  (some (CS.mk [(AV.tuple [(AV.tsl (0) (0) (n + Int.toNat 2 + List.length d) (n + Int.toNat 2 + List.length d) (1) (true)), (AV.bool (true))])] [some (AObj.tarr [Sh.int IntKind.u8] (n + Int.toNat 2) (fover (fjoin f (n) (oneB (IntKind.wrap IntKind.u64 (↑(List.length d) : Int)))) (0 + (n + Int.toNat 2)) (List.length d) (fun p_ q_ => (AV.int IntKind.u8 ((↑(natAt d p_) : Int))))) true)]))
  none)
  (cond (growB (1) (n + Int.toNat 2 + List.length d))
  (cond (Nat.ble (0 + (n + Int.toNat 2)) (n + Int.toNat 2))
  (some (CS.mk [(AV.tuple [(AV.tsl (0) (0) (n + Int.toNat 2 + List.length d) (n + Int.toNat 2 + List.length d) (1) (true)), (AV.bool (true))])] [some (AObj.tarr [Sh.int IntKind.u8] (n + Int.toNat 2 + List.length d) (fjoin (fun p_ q_ => (fjoin f (n) (oneB (IntKind.wrap IntKind.u64 (↑(List.length d) : Int)))) (0 + p_) q_) (n + Int.toNat 2) (fun p_ q_ => (AV.int IntKind.u8 ((↑(natAt d p_) : Int))))) true)]))
  none)
  none))
  none)
  none) none) none)) := by kernel_rfl
theorem k29_eq (n : Nat) (f : Nat → Nat → AV) (d : List Nat) : k29 n f d k29_p = (cond (decide ((↑(List.length d) : Int) > 16384))
  (some (CS.mk [(AV.tuple [AV.nilSlice, (AV.bool (false))])] []))
  (cond (Nat.ble (n + 8) 1000000)
  (cond (u64B (IntKind.wrap IntKind.u64 (↑(List.length d) : Int)))
  (cond (Nat.ble ((n + Int.toNat 2) + (List.length (d))) (n + Int.toNat 2))
  (cond (Nat.ble (0 + (n + Int.toNat 2 + List.length d)) (n + Int.toNat 2))
  (some (CS.mk [(AV.tuple [(AV.tsl (0) (0) (n + Int.toNat 2 + List.length d) (n + Int.toNat 2 + List.length d) (1) (true)), (AV.bool (true))])] [some (AObj.tarr [Sh.int IntKind.u8] (n + Int.toNat 2) (fover (fjoin f (n) (oneB (IntKind.wrap IntKind.u64 (↑(List.length d) : Int)))) (0 + (n + Int.toNat 2)) (List.length d) (fun p_ q_ => (AV.int IntKind.u8 ((↑(natAt d p_) : Int))))) true)]))
  none)
  (cond (growB (1) (n + Int.toNat 2 + List.length d))
  (cond (Nat.ble (0 + (n + Int.toNat 2)) (n + Int.toNat 2))
  (some (CS.mk [(AV.tuple [(AV.tsl (0) (0) (n + Int.toNat 2 + List.length d) (n + Int.toNat 2 + List.length d) (1) (true)), (AV.bool (true))])] [some (AObj.tarr [Sh.int IntKind.u8] (n + Int.toNat 2 + List.length d) (fjoin (fun p_ q_ => (fjoin f (n) (oneB (IntKind.wrap IntKind.u64 (↑(List.length d) : Int)))) (0 + p_) q_) (n + Int.toNat 2) (fun p_ q_ => (AV.int IntKind.u8 ((↑(natAt d p_) : Int))))) true)]))
  none)
  none))
  none)
  none)) := by
  rw [k29_is]
  try simp only [eq_self, decide_true, beq_self_eq_true, Nat.beq_refl, ble_self, Int.le_refl, Nat.le_refl]
  cases (decide ((↑(List.length d) : Int) > 16384)) with
  | true =>
    rfl
  | false =>
    cases (Nat.ble (n + 8) 1000000) with
    | true =>
      cases (u64B (IntKind.wrap IntKind.u64 (↑(List.length d) : Int))) with
      | true =>
        cases (Nat.ble ((n + Int.toNat 2) + (List.length (d))) (n + Int.toNat 2)) with
        | true =>
          cases (Nat.ble (0 + (n + Int.toNat 2 + List.length d)) (n + Int.toNat 2)) with
          | true =>
            rfl
          | false =>
            rfl
        | false =>
          cases (growB (1) (n + Int.toNat 2 + List.length d)) with
          | true =>
            cases (Nat.ble (0 + (n + Int.toNat 2)) (n + Int.toNat 2)) with
            | true =>
              rfl
            | false =>
              rfl
          | false =>
            rfl
      | false =>
        rfl
    | false =>
      rfl

noncomputable def k22 (n : Nat) (f : Nat → Nat → AV) (cl : Int) (rq : Int) (fr : Int) (ct : Int) (π : Plan) : Option CS := callC (E7) (1000) (22) (0) (.asl shB) ([]) π (a22 n f cl rq fr ct)
def k22_p : Plan := (.must true (.reck 3 (.must true (.reck 5 (.fork (.reck 1 (.must true (.reck 3 (.must true (.reck 5 (.fork .stop .stop)))))) .stop)))))
theorem k22_is (n : Nat) (f : Nat → Nat → AV) (cl : Int) (rq : Int) (fr : Int) (ct : Int) : k22 n f cl rq fr ct k22_p = (cond (decide (n = n)) (cond (decide (n = n)) (cond (Nat.ble (n + 8 * 2) 1000000)
  (cond (decide (n + Int.toNat 8 * 2 = n + Int.toNat 8 * 2)) (cond (decide (n + Int.toNat 8 * 2 = n + Int.toNat 8 * 2)) (cond (Nat.ble (n + Int.toNat 8 * 2 + 8 * 2) 1000000)
  (some (CS.mk [(AV.osl (false) (0) (0) (n + Int.toNat 8 * 2 + Int.toNat 4 * 2) (n + Int.toNat 8 * 2 + Int.toNat 4 * 2) (1) (true))] [some (AObj.tarr [Sh.int IntKind.u8] (n + Int.toNat 8 * 2 + Int.toNat 4 * 2) (fjoin (fjoin f (n) (allB (8) (rowsOf (1) [(AV.int IntKind.u64 (cl)), (AV.int IntKind.u64 (rq))] (2)))) (n + Int.toNat 8 * 2) (allB (4) (rowsOf (1) [(AV.int IntKind.u64 (IntKind.wrap IntKind.u64 fr)), (AV.int IntKind.u64 (IntKind.wrap IntKind.u64 ct))] (2)))) true)]))
  none) none) none)
  none) none) none) := by kernel_rfl
theorem k22_eq (n : Nat) (f : Nat → Nat → AV) (cl : Int) (rq : Int) (fr : Int) (ct : Int) : k22 n f cl rq fr ct k22_p = (cond (Nat.ble (n + 8 * 2) 1000000)
  (cond (Nat.ble (n + Int.toNat 8 * 2 + 8 * 2) 1000000)
  (some (CS.mk [(AV.osl (false) (0) (0) (n + Int.toNat 8 * 2 + Int.toNat 4 * 2) (n + Int.toNat 8 * 2 + Int.toNat 4 * 2) (1) (true))] [some (AObj.tarr [Sh.int IntKind.u8] (n + Int.toNat 8 * 2 + Int.toNat 4 * 2) (fjoin (fjoin f (n) (allB (8) (rowsOf (1) [(AV.int IntKind.u64 (cl)), (AV.int IntKind.u64 (rq))] (2)))) (n + Int.toNat 8 * 2) (allB (4) (rowsOf (1) [(AV.int IntKind.u64 (IntKind.wrap IntKind.u64 fr)), (AV.int IntKind.u64 (IntKind.wrap IntKind.u64 ct))] (2)))) true)]))
  none)
  none) := by
  rw [k22_is]
  try simp only [eq_self, decide_true, beq_self_eq_true, Nat.beq_refl, ble_self, Int.le_refl, Nat.le_refl]
  cases (Nat.ble (n + 8 * 2) 1000000) with
  | true =>
    cases (Nat.ble (n + Int.toNat 8 * 2 + 8 * 2) 1000000) with
    | true =>
      rfl
    | false =>
      rfl
  | false =>
    rfl

noncomputable def k26 (n : Nat) (f : Nat → Nat → AV) (cl : Int) (rq : Int) (fr : Int) (ct : Int) (π : Plan) : Option CS := callC (E7) (1000) (26) (0) (.asl shB) ([]) π (a22 n f cl rq fr ct)
def k26_p : Plan := (.must true (.reck 3 (.must true (.reck 5 (.fork (.reck 1 (.fork (.reck 1 (.must true (.reck 3 (.must true (.reck 5 (.fork (.reck 1 (.fork .stop .stop)) .stop)))))) .stop)) .stop)))))
theorem k26_is (n : Nat) (f : Nat → Nat → AV) (cl : Int) (rq : Int) (fr : Int) (ct : Int) : k26 n f cl rq fr ct k26_p = (cond (decide (n = n)) (cond (decide (n = n)) (cond ((allU (rowsOf (1) [(AV.int IntKind.u64 (cl)), (AV.int IntKind.u64 (rq))] (2)) (2)))
  (cond (Nat.ble (n + 8 * 2) 1000000)
  (cond (decide (n + Int.toNat 8 * 2 = n + Int.toNat 8 * 2)) (cond (decide (n + Int.toNat 8 * 2 = n + Int.toNat 8 * 2)) (cond ((allU (rowsOf (1) [(AV.int IntKind.u64 (IntKind.wrap IntKind.u64 fr)), (AV.int IntKind.u64 (IntKind.wrap IntKind.u64 ct))] (2)) (2)))
  (cond (Nat.ble (n + Int.toNat 8 * 2 + 8 * 2) 1000000)
  (some (CS.mk [(AV.osl (false) (0) (0) (n + Int.toNat 8 * 2 + Int.toNat 4 * 2) (n + Int.toNat 8 * 2 + Int.toNat 4 * 2) (1) (true))] [some (AObj.tarr [Sh.int IntKind.u8] (n + Int.toNat 8 * 2 + Int.toNat 4 * 2) (fjoin (fjoin f (n) (allB (8) (rowsOf (1) [(AV.int IntKind.u64 (cl)), (AV.int IntKind.u64 (rq))] (2)))) (n + Int.toNat 8 * 2) (allB (4) (rowsOf (1) [(AV.int IntKind.u64 (IntKind.wrap IntKind.u64 fr)), (AV.int IntKind.u64 (IntKind.wrap IntKind.u64 ct))] (2)))) true)]))
  none)
  none) none) none)
  none)
  none) none) none) := by kernel_rfl
theorem k26_eq (n : Nat) (f : Nat → Nat → AV) (cl : Int) (rq : Int) (fr : Int) (ct : Int) : k26 n f cl rq fr ct k26_p = (cond (allU (rowsOf (1) [(AV.int IntKind.u64 (cl)), (AV.int IntKind.u64 (rq))] (2)) (2))
  (cond (Nat.ble (n + 8 * 2) 1000000)
  (cond (allU (rowsOf (1) [(AV.int IntKind.u64 (IntKind.wrap IntKind.u64 fr)), (AV.int IntKind.u64 (IntKind.wrap IntKind.u64 ct))] (2)) (2))
  (cond (Nat.ble (n + Int.toNat 8 * 2 + 8 * 2) 1000000)
  (some (CS.mk [(AV.osl (false) (0) (0) (n + Int.toNat 8 * 2 + Int.toNat 4 * 2) (n + Int.toNat 8 * 2 + Int.toNat 4 * 2) (1) (true))] [some (AObj.tarr [Sh.int IntKind.u8] (n + Int.toNat 8 * 2 + Int.toNat 4 * 2) (fjoin (fjoin f (n) (allB (8) (rowsOf (1) [(AV.int IntKind.u64 (cl)), (AV.int IntKind.u64 (rq))] (2)))) (n + Int.toNat 8 * 2) (allB (4) (rowsOf (1) [(AV.int IntKind.u64 (IntKind.wrap IntKind.u64 fr)), (AV.int IntKind.u64 (IntKind.wrap IntKind.u64 ct))] (2)))) true)]))
  none)
  none)
  none)
  none) := by
  rw [k26_is]
  try simp only [eq_self, decide_true, beq_self_eq_true, Nat.beq_refl, ble_self, Int.le_refl, Nat.le_refl]
  cases (allU (rowsOf (1) [(AV.int IntKind.u64 (cl)), (AV.int IntKind.u64 (rq))] (2)) (2)) with
  | true =>
    cases (Nat.ble (n + 8 * 2) 1000000) with
    | true =>
      cases (allU (rowsOf (1) [(AV.int IntKind.u64 (IntKind.wrap IntKind.u64 fr)), (AV.int IntKind.u64 (IntKind.wrap IntKind.u64 ct))] (2)) (2)) with
      | true =>
        cases (Nat.ble (n + Int.toNat 8 * 2 + 8 * 2) 1000000) with
        | true =>
          rfl
        | false =>
          rfl
      | false =>
        rfl
    | false =>
      rfl
  | false =>
    rfl

noncomputable def s8 (n : Nat) (f : Nat → Nat → AV) (nl2 : Bool) (m : Nat) (g : Nat → Nat → AV) (j : Nat) (π : Plan) : Option (Nat × CS) := stepC (E9) (300) (loopC E9 8 1) (0) (h8) ((.normal, h8) :: x8) π (c8 n f nl2 m g j)
def s8_p : Plan := (.fork (.reck 1 (.must true (.fork (.reck 1 (.must true (.reck 1 (.must true (.fork .stop .stop))))) .stop))) .stop)
theorem s8_is (n : Nat) (f : Nat → Nat → AV) (nl2 : Bool) (m : Nat) (g : Nat → Nat → AV) (j : Nat) : s8 n f nl2 m g j s8_p = (cond (decide ((↑j : Int) < (↑m : Int)))
  (cond (decide ((↑j : Int) < (↑m : Int))) (cond (Nat.blt (0 + Int.toNat (↑j : Int)) m)
  (cond (decide (n = n)) (cond (decide (n = n)) (cond (Nat.ble (n + 32) 1000000)
  (some (0, (CS.mk [(AV.osl (false) (0) (0) (n + 24) (n + 24) (1) (true)), (AV.osl (nl2) (1) (0) (m) (m) (4) (true)), (AV.int IntKind.i64 ((↑m : Int))), (AV.int IntKind.i64 (IntKind.wrap IntKind.i64 ((↑j : Int) + 1)))] [some (AObj.tarr [Sh.int IntKind.u8] (n + 24) (fjoin f (n) (lookB (AV.toI (g (0 + Int.toNat (↑j : Int)) 0)) (AV.toI (g (0 + Int.toNat (↑j : Int)) (Nat.succ 0))) (AV.toI (g (0 + Int.toNat (↑j : Int)) (Nat.succ (Nat.succ 0)))) (AV.toI (g (0 + Int.toNat (↑j : Int)) (Nat.succ (Nat.succ (Nat.succ 0))))))) true), some (AObj.tarr [Sh.int IntKind.u64, Sh.int IntKind.u64, Sh.int IntKind.u32, Sh.int IntKind.u32] (m) g false)])))
  none) none) none)
  none) none)
  (some (1, (CS.mk [(AV.osl (false) (0) (0) (n) (n) (1) (true))] [some (AObj.tarr [Sh.int IntKind.u8] (n) f true)])))) := by kernel_rfl
theorem s8_eq (n : Nat) (f : Nat → Nat → AV) (nl2 : Bool) (m : Nat) (g : Nat → Nat → AV) (j : Nat) : s8 n f nl2 m g j s8_p = (cond (decide ((↑j : Int) < (↑m : Int)))
  (cond (Nat.blt (0 + Int.toNat (↑j : Int)) m)
  (cond (Nat.ble (n + 32) 1000000)
  (some (0, (CS.mk [(AV.osl (false) (0) (0) (n + 24) (n + 24) (1) (true)), (AV.osl (nl2) (1) (0) (m) (m) (4) (true)), (AV.int IntKind.i64 ((↑m : Int))), (AV.int IntKind.i64 (IntKind.wrap IntKind.i64 ((↑j : Int) + 1)))] [some (AObj.tarr [Sh.int IntKind.u8] (n + 24) (fjoin f (n) (lookB (AV.toI (g (0 + Int.toNat (↑j : Int)) 0)) (AV.toI (g (0 + Int.toNat (↑j : Int)) (Nat.succ 0))) (AV.toI (g (0 + Int.toNat (↑j : Int)) (Nat.succ (Nat.succ 0)))) (AV.toI (g (0 + Int.toNat (↑j : Int)) (Nat.succ (Nat.succ (Nat.succ 0))))))) true), some (AObj.tarr [Sh.int IntKind.u64, Sh.int IntKind.u64, Sh.int IntKind.u32, Sh.int IntKind.u32] (m) g false)])))
  none)
  none)
  (some (1, (CS.mk [(AV.osl (false) (0) (0) (n) (n) (1) (true))] [some (AObj.tarr [Sh.int IntKind.u8] (n) f true)])))) := by
  rw [s8_is]
  try simp only [eq_self, decide_true, beq_self_eq_true, Nat.beq_refl, ble_self, Int.le_refl, Nat.le_refl]
  cases (decide ((↑j : Int) < (↑m : Int))) with
  | true =>
    cases (Nat.blt (0 + Int.toNat (↑j : Int)) m) with
    | true =>
      cases (Nat.ble (n + 32) 1000000) with
      | true =>
        rfl
      | false =>
        rfl
    | false =>
      rfl
  | false =>
    rfl

noncomputable def s9 (ix : Int) (tm : Int) (st : Int) (kd : Int) (cl : Int) (rq : Int) (fr : Int) (ct : Int) (d : List Nat) (nl2 : Bool) (n : Nat) (f : Nat → Nat → AV) (m : Nat) (g : Nat → Nat → AV) (j : Nat) (π : Plan) : Option (Nat × CS) := stepC (E9b) (300) (loopC E9b 9 0) (0) (h9) ((.normal, h9) :: x9) π (c9 ix tm st kd cl rq fr ct d nl2 n f m g j)
def s9_p : Plan := (.fork (.reck 1 (.must true (.fork (.reck 1 (.must true (.reck 1 (.must true (.fork (.fork .stop .stop) .stop))))) .stop))) .stop)
theorem s9_is (ix : Int) (tm : Int) (st : Int) (kd : Int) (cl : Int) (rq : Int) (fr : Int) (ct : Int) (d : List Nat) (nl2 : Bool) (n : Nat) (f : Nat → Nat → AV) (m : Nat) (g : Nat → Nat → AV) (j : Nat) : s9 ix tm st kd cl rq fr ct d nl2 n f m g j s9_p = (cond (decide ((↑j : Int) < (↑m : Int)))
  (cond (decide ((↑j : Int) < (↑m : Int))) (cond (Nat.blt (0 + Int.toNat (↑j : Int)) m)
  (cond (decide (n = n)) (cond (decide (n = n)) (cond (lookOk (AV.toI (g (0 + Int.toNat (↑j : Int)) 0)) (AV.toI (g (0 + Int.toNat (↑j : Int)) (Nat.succ 0))) (AV.toI (g (0 + Int.toNat (↑j : Int)) (Nat.succ (Nat.succ 0)))) (AV.toI (g (0 + Int.toNat (↑j : Int)) (Nat.succ (Nat.succ (Nat.succ 0))))))
  (cond (Nat.ble (n + 32) 1000000)
  (some (0, (CS.mk [(AV.ptr (0) (0)), (AV.osl (false) (1) (0) (n + 24) (n + 24) (1) (true)), (AV.int IntKind.i64 (IntKind.wrap IntKind.i64 ((↑j : Int) + 1)))] [some (AObj.cells [(AV.int IntKind.u64 (ix)), (AV.int IntKind.u64 (tm)), (AV.int IntKind.u64 (st)), (AV.int IntKind.i64 (kd)), (AV.int IntKind.u64 (cl)), (AV.int IntKind.u64 (rq)), (AV.int IntKind.u32 (fr)), (AV.int IntKind.u32 (ct)), (AV.str (d)), (AV.osl (nl2) (2) (0) (m) (m) (4) (true))] true), some (AObj.tarr [Sh.int IntKind.u8] (n + 24) (fjoin f (n) (lookB (AV.toI (g (0 + Int.toNat (↑j : Int)) 0)) (AV.toI (g (0 + Int.toNat (↑j : Int)) (Nat.succ 0))) (AV.toI (g (0 + Int.toNat (↑j : Int)) (Nat.succ (Nat.succ 0)))) (AV.toI (g (0 + Int.toNat (↑j : Int)) (Nat.succ (Nat.succ (Nat.succ 0))))))) true), some (AObj.tarr [Sh.int IntKind.u64, Sh.int IntKind.u64, Sh.int IntKind.u32, Sh.int IntKind.u32] (m) g false)])))
  none)
  none) none) none)
  none) none)
  (some (1, (CS.mk [(AV.osl (false) (0) (0) (n) (n) (1) (true))] [some (AObj.tarr [Sh.int IntKind.u8] (n) f true)])))) := by kernel_rfl
theorem s9_eq (ix : Int) (tm : Int) (st : Int) (kd : Int) (cl : Int) (rq : Int) (fr : Int) (ct : Int) (d : List Nat) (nl2 : Bool) (n : Nat) (f : Nat → Nat → AV) (m : Nat) (g : Nat → Nat → AV) (j : Nat) : s9 ix tm st kd cl rq fr ct d nl2 n f m g j s9_p = (cond (decide ((↑j : Int) < (↑m : Int)))
  (cond (Nat.blt (0 + Int.toNat (↑j : Int)) m)
  (cond (lookOk (AV.toI (g (0 + Int.toNat (↑j : Int)) 0)) (AV.toI (g (0 + Int.toNat (↑j : Int)) (Nat.succ 0))) (AV.toI (g (0 + Int.toNat (↑j : Int)) (Nat.succ (Nat.succ 0)))) (AV.toI (g (0 + Int.toNat (↑j : Int)) (Nat.succ (Nat.succ (Nat.succ 0))))))
  (cond (Nat.ble (n + 32) 1000000)
  (some (0, (CS.mk [(AV.ptr (0) (0)), (AV.osl (false) (1) (0) (n + 24) (n + 24) (1) (true)), (AV.int IntKind.i64 (IntKind.wrap IntKind.i64 ((↑j : Int) + 1)))] [some (AObj.cells [(AV.int IntKind.u64 (ix)), (AV.int IntKind.u64 (tm)), (AV.int IntKind.u64 (st)), (AV.int IntKind.i64 (kd)), (AV.int IntKind.u64 (cl)), (AV.int IntKind.u64 (rq)), (AV.int IntKind.u32 (fr)), (AV.int IntKind.u32 (ct)), (AV.str (d)), (AV.osl (nl2) (2) (0) (m) (m) (4) (true))] true), some (AObj.tarr [Sh.int IntKind.u8] (n + 24) (fjoin f (n) (lookB (AV.toI (g (0 + Int.toNat (↑j : Int)) 0)) (AV.toI (g (0 + Int.toNat (↑j : Int)) (Nat.succ 0))) (AV.toI (g (0 + Int.toNat (↑j : Int)) (Nat.succ (Nat.succ 0)))) (AV.toI (g (0 + Int.toNat (↑j : Int)) (Nat.succ (Nat.succ (Nat.succ 0))))))) true), some (AObj.tarr [Sh.int IntKind.u64, Sh.int IntKind.u64, Sh.int IntKind.u32, Sh.int IntKind.u32] (m) g false)])))
  none)
  none)
  none)
  (some (1, (CS.mk [(AV.osl (false) (0) (0) (n) (n) (1) (true))] [some (AObj.tarr [Sh.int IntKind.u8] (n) f true)])))) := by
  rw [s9_is]
  try simp only [eq_self, decide_true, beq_self_eq_true, Nat.beq_refl, ble_self, Int.le_refl, Nat.le_refl]
  cases (decide ((↑j : Int) < (↑m : Int))) with
  | true =>
    cases (Nat.blt (0 + Int.toNat (↑j : Int)) m) with
    | true =>
      cases (lookOk (AV.toI (g (0 + Int.toNat (↑j : Int)) 0)) (AV.toI (g (0 + Int.toNat (↑j : Int)) (Nat.succ 0))) (AV.toI (g (0 + Int.toNat (↑j : Int)) (Nat.succ (Nat.succ 0)))) (AV.toI (g (0 + Int.toNat (↑j : Int)) (Nat.succ (Nat.succ (Nat.succ 0)))))) with
      | true =>
        cases (Nat.ble (n + 32) 1000000) with
        | true =>
          rfl
        | false =>
          rfl
      | false =>
        rfl
    | false =>
      rfl
  | false =>
    rfl

noncomputable def k8 (ix : Int) (tm : Int) (st : Int) (kd : Int) (cl : Int) (rq : Int) (fr : Int) (ct : Int) (d : List Nat) (nl2 : Bool) (m : Nat) (g : Nat → Nat → AV) (π : Plan) : Option CS := callC (E10) (1000) (8) (0) (.keep) ([]) π (a8 ix tm st kd cl rq fr ct d nl2 m g)
def k8_p : Plan := (.fork (.must true (.must true (.must false (.fork .stop (.fork (.must true (.must true (.must true (.must false (.fork .stop (.reck 30 (.must true (.must true (.must true (.must true (.must true (.must true (.must true (.must true (.must true (.must true (.reck 1 (.must true (.must true (.must true (.must true (.must true (.must true (.must true (.must true (.must true (.must true (.must true (.must true (.reck 1 (.must true (.must true (.must true (.must true (.reck 5 (.must false (.must true (.reck 3 (.must true (.reck 5 (.fork (.reck 2 (.must true (.must true (.must true (.reck 2 (.must true (.reck 1 (.must true (.fork (.fork .stop .stop) .stop))))))))) .stop))))))))))))))))))))))))))))))))))))))))) (.must false (.must false (.must false (.must true .stop))))))))) (.must false (.must false (.must true .stop))))
theorem k8_is (ix : Int) (tm : Int) (st : Int) (kd : Int) (cl : Int) (rq : Int) (fr : Int) (ct : Int) (d : List Nat) (nl2 : Bool) (m : Nat) (g : Nat → Nat → AV) : k8 ix tm st kd cl rq fr ct d nl2 m g k8_p = (cond (decide (kd < 0) == false)
  (cond (decide (kd < 0) == false) (cond (decide (kd < 0) == false) (cond (decide (kd < 0)) none (cond (decide (kd > 255))
  (some (CS.mk [(AV.tuple [AV.nilSlice, (AV.int IntKind.i64 (2))])] []))
  (cond (decide ((↑(List.length d) : Int) > 16384) == false)
  (cond (decide ((↑(List.length d) : Int) > 16384) == false) (cond (decide ((↑(List.length d) : Int) > 16384) == false) (cond (decide ((↑(List.length d) : Int) > 16384) == false) (cond (decide ((↑(List.length d) : Int) > 16384)) none (cond (decide ((↑m : Int) > 64))
  (some (CS.mk [(AV.tuple [AV.nilSlice, (AV.int IntKind.i64 (11))])] []))
  (cond (decide (ix = ix)) (cond (decide (tm = tm)) (cond (decide (st = st)) (cond (decide (kd = kd)) (cond (decide (cl = cl)) (cond (decide (rq = rq)) (cond (decide (fr = fr)) (cond (decide (ct = ct)) (cond (d == d) (cond (nl2 == nl2) (cond (Nat.beq m m) (cond (Nat.beq m m) (cond (decide (ix = ix)) (cond (decide (tm = tm)) (cond (decide (st = st)) (cond (decide (kd = kd)) (cond (decide (cl = cl)) (cond (decide (rq = rq)) (cond (decide (fr = fr)) (cond (decide (ct = ct)) (cond (d == d) (cond (nl2 == nl2) (cond (Nat.beq m m) (cond (Nat.beq m m) (cond (decide (IntKind.wrap IntKind.u64 kd = IntKind.wrap IntKind.u64 kd)) (cond (decide (kd = kd)) (cond (decide ((↑(List.length d) : Int) > 16384)) none (cond (decide (0 + Int.toNat 8 * 3 + Int.toNat 1 * 1 + 24 + 2 + List.length d = 0 + Int.toNat 8 * 3 + Int.toNat 1 * 1 + 24 + 2 + List.length d)) (cond (decide (0 + Int.toNat 8 * 3 + Int.toNat 1 * 1 + 24 + 2 + List.length d = 0 + Int.toNat 8 * 3 + Int.toNat 1 * 1 + 24 + 2 + List.length d)) (cond (Nat.ble (0 + Int.toNat 8 * 3 + Int.toNat 1 * 1 + 24 + 2 + List.length d + 8 * 1) 1000000)
  (cond (decide (0 + Int.toNat 8 * 3 + Int.toNat 1 * 1 + 24 + 2 + List.length d + Int.toNat 1 * 1 = 0 + Int.toNat 8 * 3 + Int.toNat 1 * 1 + 24 + 2 + List.length d + Int.toNat 1 * 1)) (cond (decide (m = m)) (cond (decide ((↑m : Int) = (↑m : Int))) (cond (decide (0 + Int.toNat 8 * 3 + Int.toNat 1 * 1 + 24 + 2 + List.length d + Int.toNat 1 * 1 = 0 + Int.toNat 8 * 3 + Int.toNat 1 * 1 + 24 + 2 + List.length d + Int.toNat 1 * 1)) (cond (decide (m = m)) (cond (Nat.ble m 1000)
  (cond (Nat.ble (0 + Int.toNat 8 * 3 + Int.toNat 1 * 1 + 24 + 2 + List.length d + Int.toNat 1 * 1 + 24 * m + 32) 1000000)
  (some (CS.mk [(AV.tuple [(AV.tsl (0) (0) (0 + Int.toNat 8 * 3 + Int.toNat 1 * 1 + 24 + 2 + List.length d + Int.toNat 1 * 1 + 24 * m) (0 + Int.toNat 8 * 3 + Int.toNat 1 * 1 + 24 + 2 + List.length d + Int.toNat 1 * 1 + 24 * m) (1) (true)), (AV.int IntKind.i64 (0))])] [some (AObj.tarr [Sh.int IntKind.u8] (0 + Int.toNat 8 * 3 + Int.toNat 1 * 1 + 24 + 2 + List.length d + Int.toNat 1 * 1 + 24 * m) (fjoin (fjoin (fjoin (fjoin (fjoin (fjoin (fjoin (fun p_ q_ => AV.bad) (0) (allB (8) (rowsOf (1) [(AV.int IntKind.u64 (ix)), (AV.int IntKind.u64 (tm)), (AV.int IntKind.u64 (st))] (3)))) (24) (allB (1) (rowsOf (1) [(AV.int IntKind.u64 (IntKind.wrap IntKind.u64 kd))] (1)))) (25) (lookB (cl) (rq) (fr) (ct))) (49) (oneB (IntKind.wrap IntKind.u64 (↑(List.length d) : Int)))) (51) (strB (d))) (0 + Int.toNat 8 * 3 + Int.toNat 1 * 1 + 24 + 2 + List.length d) (allB (1) (rowsOf (1) [(AV.int IntKind.u64 (IntKind.wrap IntKind.u64 (↑m : Int)))] (1)))) (0 + Int.toNat 8 * 3 + Int.toNat 1 * 1 + 24 + 2 + List.length d + Int.toNat 1 * 1) (behB g)) true)]))
  none)
  none) none) none) none) none) none)
  none) none) none)) none) none) none) none) none) none) none) none) none) none) none) none) none) none) none) none) none) none) none) none) none) none) none) none) none) none))) none) none) none)
  (cond (decide ((↑(List.length d) : Int) > 16384) == false) none (cond (decide ((↑(List.length d) : Int) > 16384) == false) none (cond (decide ((↑(List.length d) : Int) > 16384) == false) none (cond (decide ((↑(List.length d) : Int) > 16384)) (some (CS.mk [(AV.tuple [AV.nilSlice, (AV.int IntKind.i64 (11))])] [])) none))))))) none) none)
  (cond (decide (kd < 0) == false) none (cond (decide (kd < 0) == false) none (cond (decide (kd < 0)) (some (CS.mk [(AV.tuple [AV.nilSlice, (AV.int IntKind.i64 (2))])] [])) none)))) := by kernel_rfl
theorem k8_eq (ix : Int) (tm : Int) (st : Int) (kd : Int) (cl : Int) (rq : Int) (fr : Int) (ct : Int) (d : List Nat) (nl2 : Bool) (m : Nat) (g : Nat → Nat → AV) : k8 ix tm st kd cl rq fr ct d nl2 m g k8_p = (cond (decide (kd < 0))
  (some (CS.mk [(AV.tuple [AV.nilSlice, (AV.int IntKind.i64 (2))])] []))
  (cond (decide (kd > 255))
  (some (CS.mk [(AV.tuple [AV.nilSlice, (AV.int IntKind.i64 (2))])] []))
  (cond (decide ((↑(List.length d) : Int) > 16384))
  (some (CS.mk [(AV.tuple [AV.nilSlice, (AV.int IntKind.i64 (11))])] []))
  (cond (decide ((↑m : Int) > 64))
  (some (CS.mk [(AV.tuple [AV.nilSlice, (AV.int IntKind.i64 (11))])] []))
  (cond (Nat.ble (0 + Int.toNat 8 * 3 + Int.toNat 1 * 1 + 24 + 2 + List.length d + 8 * 1) 1000000)
  (cond (Nat.ble m 1000)
  (cond (Nat.ble (0 + Int.toNat 8 * 3 + Int.toNat 1 * 1 + 24 + 2 + List.length d + Int.toNat 1 * 1 + 24 * m + 32) 1000000)
  (some (CS.mk [(AV.tuple [(AV.tsl (0) (0) (0 + Int.toNat 8 * 3 + Int.toNat 1 * 1 + 24 + 2 + List.length d + Int.toNat 1 * 1 + 24 * m) (0 + Int.toNat 8 * 3 + Int.toNat 1 * 1 + 24 + 2 + List.length d + Int.toNat 1 * 1 + 24 * m) (1) (true)), (AV.int IntKind.i64 (0))])] [some (AObj.tarr [Sh.int IntKind.u8] (0 + Int.toNat 8 * 3 + Int.toNat 1 * 1 + 24 + 2 + List.length d + Int.toNat 1 * 1 + 24 * m) (fjoin (fjoin (fjoin (fjoin (fjoin (fjoin (fjoin (fun p_ q_ => AV.bad) (0) (allB (8) (rowsOf (1) [(AV.int IntKind.u64 (ix)), (AV.int IntKind.u64 (tm)), (AV.int IntKind.u64 (st))] (3)))) (24) (allB (1) (rowsOf (1) [(AV.int IntKind.u64 (IntKind.wrap IntKind.u64 kd))] (1)))) (25) (lookB (cl) (rq) (fr) (ct))) (49) (oneB (IntKind.wrap IntKind.u64 (↑(List.length d) : Int)))) (51) (strB (d))) (0 + Int.toNat 8 * 3 + Int.toNat 1 * 1 + 24 + 2 + List.length d) (allB (1) (rowsOf (1) [(AV.int IntKind.u64 (IntKind.wrap IntKind.u64 (↑m : Int)))] (1)))) (0 + Int.toNat 8 * 3 + Int.toNat 1 * 1 + 24 + 2 + List.length d + Int.toNat 1 * 1) (behB g)) true)]))
  none)
  none)
  none))))) := by
  rw [k8_is]
  try simp only [eq_self, decide_true, beq_self_eq_true, Nat.beq_refl, ble_self, Int.le_refl, Nat.le_refl]
  cases (decide (kd < 0)) with
  | true =>
    rfl
  | false =>
    cases (decide (kd > 255)) with
    | true =>
      rfl
    | false =>
      cases (decide ((↑(List.length d) : Int) > 16384)) with
      | true =>
        rfl
      | false =>
        cases (decide ((↑m : Int) > 64)) with
        | true =>
          rfl
        | false =>
          cases (Nat.ble (0 + Int.toNat 8 * 3 + Int.toNat 1 * 1 + 24 + 2 + List.length d + 8 * 1) 1000000) with
          | true =>
            cases (Nat.ble m 1000) with
            | true =>
              cases (Nat.ble (0 + Int.toNat 8 * 3 + Int.toNat 1 * 1 + 24 + 2 + List.length d + Int.toNat 1 * 1 + 24 * m + 32) 1000000) with
              | true =>
                rfl
              | false =>
                rfl
            | false =>
              rfl
          | false =>
            rfl

noncomputable def k9 (ix : Int) (tm : Int) (st : Int) (kd : Int) (cl : Int) (rq : Int) (fr : Int) (ct : Int) (d : List Nat) (nl2 : Bool) (m : Nat) (g : Nat → Nat → AV) (π : Plan) : Option CS := callC (E10) (1000) (9) (0) (.keep) ([]) π (a8 ix tm st kd cl rq fr ct d nl2 m g)
def k9_p : Plan := (.fork (.must true (.must true (.must false (.fork .stop (.fork (.must true (.must true (.must true (.must false (.fork .stop (.reck 10 (.fork (.reck 10 (.fork (.reck 5 (.fork (.reck 2 (.must true (.must true (.must true (.must true (.must true (.must true (.must true (.must true (.must true (.must true (.reck 1 (.must true (.must true (.must true (.must true (.must true (.must true (.must true (.must true (.must true (.must true (.must true (.must true (.reck 1 (.must true (.must true (.must true (.must true (.reck 5 (.must false (.must true (.reck 1 (.must true (.reck 1 (.fork (.reck 2 (.fork (.reck 2 (.must true (.reck 1 (.must true (.reck 1 (.must true (.reck 1 (.must true (.fork (.fork (.fork .stop .stop) .stop) .stop))))))))) .stop)) .stop)))))))))))))))))))))))))))))))))))) .stop)) .stop)) .stop))))))) (.must false (.must false (.must false (.must true .stop))))))))) (.must false (.must false (.must true .stop))))
theorem k9_is (ix : Int) (tm : Int) (st : Int) (kd : Int) (cl : Int) (rq : Int) (fr : Int) (ct : Int) (d : List Nat) (nl2 : Bool) (m : Nat) (g : Nat → Nat → AV) : k9 ix tm st kd cl rq fr ct d nl2 m g k9_p = (cond (decide (kd < 0) == false)
  (cond (decide (kd < 0) == false) (cond (decide (kd < 0) == false) (cond (decide (kd < 0)) none (cond (decide (kd > 255))
  (some (CS.mk [(AV.tuple [AV.nilSlice, (AV.int IntKind.i64 (2))])] []))
  (cond (decide ((↑(List.length d) : Int) > 16384) == false)
  (cond (decide ((↑(List.length d) : Int) > 16384) == false) (cond (decide ((↑(List.length d) : Int) > 16384) == false) (cond (decide ((↑(List.length d) : Int) > 16384) == false) (cond (decide ((↑(List.length d) : Int) > 16384)) none (cond (decide ((↑m : Int) > 64))
  (some (CS.mk [(AV.tuple [AV.nilSlice, (AV.int IntKind.i64 (11))])] []))
  (cond ((allU (rowsOf (1) [(AV.int IntKind.u64 (ix)), (AV.int IntKind.u64 (tm)), (AV.int IntKind.u64 (st))] (3)) (3)))
  (cond (u64B (IntKind.wrap IntKind.u64 kd))
  (cond (lookOk cl rq fr ct)
  (cond (decide (ix = ix)) (cond (decide (tm = tm)) (cond (decide (st = st)) (cond (decide (kd = kd)) (cond (decide (cl = cl)) (cond (decide (rq = rq)) (cond (decide (fr = fr)) (cond (decide (ct = ct)) (cond (d == d) (cond (nl2 == nl2) (cond (Nat.beq m m) (cond (Nat.beq m m) (cond (decide (ix = ix)) (cond (decide (tm = tm)) (cond (decide (st = st)) (cond (decide (kd = kd)) (cond (decide (cl = cl)) (cond (decide (rq = rq)) (cond (decide (fr = fr)) (cond (decide (ct = ct)) (cond (d == d) (cond (nl2 == nl2) (cond (Nat.beq m m) (cond (Nat.beq m m) (cond (decide (IntKind.wrap IntKind.u64 kd = IntKind.wrap IntKind.u64 kd)) (cond (decide (kd = kd)) (cond (decide ((↑(List.length d) : Int) > 16384)) none (cond (decide (0 + Int.toNat 8 * 3 + Int.toNat 1 + 24 + 2 + List.length d = 0 + Int.toNat 8 * 3 + Int.toNat 1 + 24 + 2 + List.length d)) (cond (decide (0 + Int.toNat 8 * 3 + Int.toNat 1 + 24 + 2 + List.length d = 0 + Int.toNat 8 * 3 + Int.toNat 1 + 24 + 2 + List.length d)) (cond (Nat.ble (0 + Int.toNat 8 * 3 + Int.toNat 1 + 24 + 2 + List.length d + 8) 1000000)
  (cond (u64B (IntKind.wrap IntKind.u64 (↑m : Int)))
  (cond (decide (0 + Int.toNat 8 * 3 + Int.toNat 1 + 24 + 2 + List.length d + Int.toNat 1 = 0 + Int.toNat 8 * 3 + Int.toNat 1 + 24 + 2 + List.length d + Int.toNat 1)) (cond (decide (m = m)) (cond (decide (0 + Int.toNat 8 * 3 + Int.toNat 1 + 24 + 2 + List.length d + Int.toNat 1 = 0 + Int.toNat 8 * 3 + Int.toNat 1 + 24 + 2 + List.length d + Int.toNat 1)) (cond (decide (m = m)) (cond (Nat.ble m 1000)
  (cond (Nat.ble (0 + Int.toNat 8 * 3 + Int.toNat 1 + 24 + 2 + List.length d + Int.toNat 1 + 24 * m + 32) 1000000)
  (cond (okFrom (rowOk g) 0 m)
  (some (CS.mk [(AV.tuple [(AV.tsl (0) (0) (0 + Int.toNat 8 * 3 + Int.toNat 1 + 24 + 2 + List.length d + Int.toNat 1 + 24 * m) (0 + Int.toNat 8 * 3 + Int.toNat 1 + 24 + 2 + List.length d + Int.toNat 1 + 24 * m) (1) (true)), (AV.int IntKind.i64 (0))])] [some (AObj.tarr [Sh.int IntKind.u8] (0 + Int.toNat 8 * 3 + Int.toNat 1 + 24 + 2 + List.length d + Int.toNat 1 + 24 * m) (fjoin (fjoin (fjoin (fjoin (fjoin (fjoin (fjoin (fun p_ q_ => AV.bad) (0) (allB (8) (rowsOf (1) [(AV.int IntKind.u64 (ix)), (AV.int IntKind.u64 (tm)), (AV.int IntKind.u64 (st))] (3)))) (24) (oneB (IntKind.wrap IntKind.u64 kd))) (25) (lookB (cl) (rq) (fr) (ct))) (49) (oneB (IntKind.wrap IntKind.u64 (↑(List.length d) : Int)))) (51) (strB (d))) (0 + Int.toNat 8 * 3 + Int.toNat 1 + 24 + 2 + List.length d) (oneB (IntKind.wrap IntKind.u64 (↑m : Int)))) (0 + Int.toNat 8 * 3 + Int.toNat 1 + 24 + 2 + List.length d + Int.toNat 1) (behB g)) true)]))
  none)
  none)
  none) none) none) none) none)
  none)
  none) none) none)) none) none) none) none) none) none) none) none) none) none) none) none) none) none) none) none) none) none) none) none) none) none) none) none) none) none)
  none)
  none)
  none))) none) none) none)
  (cond (decide ((↑(List.length d) : Int) > 16384) == false) none (cond (decide ((↑(List.length d) : Int) > 16384) == false) none (cond (decide ((↑(List.length d) : Int) > 16384) == false) none (cond (decide ((↑(List.length d) : Int) > 16384)) (some (CS.mk [(AV.tuple [AV.nilSlice, (AV.int IntKind.i64 (11))])] [])) none))))))) none) none)
  (cond (decide (kd < 0) == false) none (cond (decide (kd < 0) == false) none (cond (decide (kd < 0)) (some (CS.mk [(AV.tuple [AV.nilSlice, (AV.int IntKind.i64 (2))])] [])) none)))) := by kernel_rfl
theorem k9_eq (ix : Int) (tm : Int) (st : Int) (kd : Int) (cl : Int) (rq : Int) (fr : Int) (ct : Int) (d : List Nat) (nl2 : Bool) (m : Nat) (g : Nat → Nat → AV) : k9 ix tm st kd cl rq fr ct d nl2 m g k9_p = (cond (decide (kd < 0))
  (some (CS.mk [(AV.tuple [AV.nilSlice, (AV.int IntKind.i64 (2))])] []))
  (cond (decide (kd > 255))
  (some (CS.mk [(AV.tuple [AV.nilSlice, (AV.int IntKind.i64 (2))])] []))
  (cond (decide ((↑(List.length d) : Int) > 16384))
  (some (CS.mk [(AV.tuple [AV.nilSlice, (AV.int IntKind.i64 (11))])] []))
  (cond (decide ((↑m : Int) > 64))
  (some (CS.mk [(AV.tuple [AV.nilSlice, (AV.int IntKind.i64 (11))])] []))
  (cond (allU (rowsOf (1) [(AV.int IntKind.u64 (ix)), (AV.int IntKind.u64 (tm)), (AV.int IntKind.u64 (st))] (3)) (3))
  (cond (u64B (IntKind.wrap IntKind.u64 kd))
  (cond (lookOk cl rq fr ct)
  (cond (Nat.ble (0 + Int.toNat 8 * 3 + Int.toNat 1 + 24 + 2 + List.length d + 8) 1000000)
  (cond (u64B (IntKind.wrap IntKind.u64 (↑m : Int)))
  (cond (Nat.ble m 1000)
  (cond (Nat.ble (0 + Int.toNat 8 * 3 + Int.toNat 1 + 24 + 2 + List.length d + Int.toNat 1 + 24 * m + 32) 1000000)
  (cond (okFrom (rowOk g) 0 m)
  (some (CS.mk [(AV.tuple [(AV.tsl (0) (0) (0 + Int.toNat 8 * 3 + Int.toNat 1 + 24 + 2 + List.length d + Int.toNat 1 + 24 * m) (0 + Int.toNat 8 * 3 + Int.toNat 1 + 24 + 2 + List.length d + Int.toNat 1 + 24 * m) (1) (true)), (AV.int IntKind.i64 (0))])] [some (AObj.tarr [Sh.int IntKind.u8] (0 + Int.toNat 8 * 3 + Int.toNat 1 + 24 + 2 + List.length d + Int.toNat 1 + 24 * m) (fjoin (fjoin (fjoin (fjoin (fjoin (fjoin (fjoin (fun p_ q_ => AV.bad) (0) (allB (8) (rowsOf (1) [(AV.int IntKind.u64 (ix)), (AV.int IntKind.u64 (tm)), (AV.int IntKind.u64 (st))] (3)))) (24) (oneB (IntKind.wrap IntKind.u64 kd))) (25) (lookB (cl) (rq) (fr) (ct))) (49) (oneB (IntKind.wrap IntKind.u64 (↑(List.length d) : Int)))) (51) (strB (d))) (0 + Int.toNat 8 * 3 + Int.toNat 1 + 24 + 2 + List.length d) (oneB (IntKind.wrap IntKind.u64 (↑m : Int)))) (0 + Int.toNat 8 * 3 + Int.toNat 1 + 24 + 2 + List.length d + Int.toNat 1) (behB g)) true)]))
  none)
  none)
  none)
  none)
  none)
  none)
  none)
  none))))) := by
  rw [k9_is]
  try simp only [eq_self, decide_true, beq_self_eq_true, Nat.beq_refl, ble_self, Int.le_refl, Nat.le_refl]
  cases (decide (kd < 0)) with
  | true =>
    rfl
  | false =>
    cases (decide (kd > 255)) with
    | true =>
      rfl
    | false =>
      cases (decide ((↑(List.length d) : Int) > 16384)) with
      | true =>
        rfl
      | false =>
        cases (decide ((↑m : Int) > 64)) with
        | true =>
          rfl
        | false =>
          cases (allU (rowsOf (1) [(AV.int IntKind.u64 (ix)), (AV.int IntKind.u64 (tm)), (AV.int IntKind.u64 (st))] (3)) (3)) with
          | true =>
            cases (u64B (IntKind.wrap IntKind.u64 kd)) with
            | true =>
              cases (lookOk cl rq fr ct) with
              | true =>
                cases (Nat.ble (0 + Int.toNat 8 * 3 + Int.toNat 1 + 24 + 2 + List.length d + 8) 1000000) with
                | true =>
                  cases (u64B (IntKind.wrap IntKind.u64 (↑m : Int))) with
                  | true =>
                    cases (Nat.ble m 1000) with
                    | true =>
                      cases (Nat.ble (0 + Int.toNat 8 * 3 + Int.toNat 1 + 24 + 2 + List.length d + Int.toNat 1 + 24 * m + 32) 1000000) with
                      | true =>
                        cases (okFrom (rowOk g) 0 m) with
                        | true =>
                          rfl
                        | false =>
                          rfl
                      | false =>
                        rfl
                    | false =>
                      rfl
                  | false =>
                    rfl
                | false =>
                  rfl
              | false =>
                rfl
            | false =>
              rfl
          | false =>
            rfl
end Go.Proofs.Ytjbjjikdihghmaa.entry
