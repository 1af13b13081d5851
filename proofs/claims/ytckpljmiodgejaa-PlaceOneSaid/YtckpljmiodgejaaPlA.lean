/- Leases: what the machine reckons of the loops and functions, by canonical states. No condition. -/
import Derived.Test.YtckpljmiodgejaaRows
import Derived.Test.YtckpljmiodgejaaBmVk
import Derived.KernelRfl
set_option linter.unusedSimpArgs false
set_option linter.unusedVariables false
set_option maxRecDepth 20000
namespace Go.Proofs.Ytckpljmiodgejaa.placeOne
open Go Go.Proofs.Ytckpljmiodgejaa.Bm
noncomputable def E0 : Env := mkEnv Try.prog 123 99
abbrev shL : List Sh := [.int .u64, .int .i64, .int .u64, .int .u64]
abbrev shX : List Sh := [.int .u64, .int .u64, .int .i64, .int .u64, .int .u64]
/-- A lease: of which chunk, who holds it, its epoch, until when. -/
structure Ls where
  c : Int
  h : Int
  e : Int
  u : Int
def Ls.cell (x : Ls) : Nat → AV
  | 0 => .int .u64 x.c
  | 1 => .int .i64 x.h
  | 2 => .int .u64 x.e
  | _ => .int .u64 x.u
def nilLs : Ls := ⟨0, 0, 0, 0⟩
/-- An array of leases, out of a list. -/
def finL (L : List Ls) (i j : Nat) : AV := (L.getD i nilLs).cell j
def lsAt (f : Nat → Nat → AV) (i : Nat) : Ls := ⟨(f i 0).toI, (f i 1).toI, (f i 2).toI, (f i 3).toI⟩
/-- The list of what an array holds. -/
def rdL (f : Nat → Nat → AV) (n : Nat) : List Ls := (List.range n).map (lsAt f)
/-- The first one of which q tells yes; else how many there are. -/
def firstL (q : Ls → Bool) : List Ls → Nat
  | [] => 0
  | x :: l => cond (q x) 0 (firstL q l + 1)
theorem idxE : ∃ q : (Ls → Bool) → (Nat → Nat → AV) → Nat → Nat, q = fun p f n => firstL p (rdL f n) := ⟨_, rfl⟩
/-- As firstL, of an array (not unfolded by the kernel). -/
noncomputable def idx : (Ls → Bool) → (Nat → Nat → AV) → Nat → Nat := Classical.choose idxE
theorem idx_eq (p : Ls → Bool) (f : Nat → Nat → AV) (n : Nat) : idx p f n = firstL p (rdL f n) := by
  rw [show idx = _ from Classical.choose_spec idxE]
def holdsQ (now ch : Int) (y : Ls) : Bool := (y.c == ch) && decide (y.u > now)
def busyQ (now : Int) (x y : Ls) : Bool := holdsQ now x.c y && (y.h != x.h)
def newerQ (x y : Ls) : Bool := (y.c == x.c) && (decide (y.e > x.e) || decide (y.u > x.u))
def h39 : Pat := ⟨19, [(0, .asl shL), (1, .keep), (7, .keep), (8, .keep)], []⟩
def x39 : List (Ex × Pat) := [(.exit 0, ⟨19, [], []⟩), (.ret, ⟨19, [(4, .keep)], []⟩)]
def c39a (nl : Bool) (n : Nat) (f : Nat → Nat → AV) (now : Int) (ch : Int) (i : Nat) : CS :=
  ⟨[.osl nl 0 0 n n 4 true, .func (.func 40) [] [.ptr 1 0, .ptr 2 0], .int .i64 (n : Nat), .int .i64 (i : Nat)], [some (.tarr shL n f false), some (.cells [.int .u64 now] false), some (.cells [.int .u64 ch] false)]⟩
noncomputable def r39aB  (nl : Bool) (n : Nat) (f : Nat → Nat → AV) (now : Int) (ch : Int) : T (Nat × CS) :=
  chkT [Nat.ble n 1000] (.ask (Nat.blt (idx (holdsQ now ch) f n) n) (.ret (2, ⟨[.int .i64 (idx (holdsQ now ch) f n : Nat)], []⟩)) (.ret (1, ⟨[], []⟩)))
noncomputable def r39a  (c : CS) : T (Nat × CS) := match c with
  | ⟨[.osl nl 0 0 n z_1 4 true, .func (.func 40) [] [.ptr 1 0, .ptr 2 0], .int .i64 z_2, .int .i64 z_3], [some (.tarr sh_4 z_5 f false), some (.cells [.int .u64 now] false), some (.cells [.int .u64 ch] false)]⟩ => chkT [decide (n = z_1), decide ((n : Nat) = z_2), decide (0 = z_3), shBeq sh_4 shL, decide (n = z_5)] (r39aB  nl n f now ch)
  | _ => .fail
def a39a (nl : Bool) (n : Nat) (f : Nat → Nat → AV) (now : Int) (ch : Int) : CS :=
  ⟨[.osl nl 0 0 n n 4 true, .func (.func 40) [] [.ptr 1 0, .ptr 2 0]], [some (.tarr shL n f false), some (.cells [.int .u64 now] false), some (.cells [.int .u64 ch] false)]⟩
noncomputable def f39aB  (nl : Bool) (n : Nat) (f : Nat → Nat → AV) (now : Int) (ch : Int) : T (CS) :=
  chkT [Nat.ble n 1000] (.ask (Nat.blt (idx (holdsQ now ch) f n) n) (.ret ⟨[.int .i64 (idx (holdsQ now ch) f n : Nat)], []⟩) (.ret ⟨[.int .i64 (-1)], []⟩))
noncomputable def f39a  (c : CS) : T (CS) := match c with
  | ⟨[.osl nl 0 0 n z_1 4 true, .func (.func 40) [] [.ptr 1 0, .ptr 2 0]], [some (.tarr sh_2 z_3 f false), some (.cells [.int .u64 now] false), some (.cells [.int .u64 ch] false)]⟩ => chkT [decide (n = z_1), shBeq sh_2 shL, decide (n = z_3)] (f39aB  nl n f now ch)
  | _ => .fail
def c39b (nl : Bool) (n : Nat) (f : Nat → Nat → AV) (now : Int) (xc : Int) (xh : Int) (xe : Int) (xu : Int) (i : Nat) : CS :=
  ⟨[.osl nl 0 0 n n 4 true, .func (.func 48) [] [.ptr 1 0, .ptr 2 0], .int .i64 (n : Nat), .int .i64 (i : Nat)], [some (.tarr shL n f false), some (.cells [.int .u64 now] false), some (.cells [.int .u64 xc, .int .i64 xh, .int .u64 xe, .int .u64 xu] false)]⟩
noncomputable def r39bB  (nl : Bool) (n : Nat) (f : Nat → Nat → AV) (now : Int) (xc : Int) (xh : Int) (xe : Int) (xu : Int) : T (Nat × CS) :=
  chkT [Nat.ble n 1000] (.ask (Nat.blt (idx (busyQ now ⟨xc, xh, xe, xu⟩) f n) n) (.ret (2, ⟨[.int .i64 (idx (busyQ now ⟨xc, xh, xe, xu⟩) f n : Nat)], []⟩)) (.ret (1, ⟨[], []⟩)))
noncomputable def r39b  (c : CS) : T (Nat × CS) := match c with
  | ⟨[.osl nl 0 0 n z_1 4 true, .func (.func 48) [] [.ptr 1 0, .ptr 2 0], .int .i64 z_2, .int .i64 z_3], [some (.tarr sh_4 z_5 f false), some (.cells [.int .u64 now] false), some (.cells [.int .u64 xc, .int .i64 xh, .int .u64 xe, .int .u64 xu] false)]⟩ => chkT [decide (n = z_1), decide ((n : Nat) = z_2), decide (0 = z_3), shBeq sh_4 shL, decide (n = z_5)] (r39bB  nl n f now xc xh xe xu)
  | _ => .fail
def a39b (nl : Bool) (n : Nat) (f : Nat → Nat → AV) (now : Int) (xc : Int) (xh : Int) (xe : Int) (xu : Int) : CS :=
  ⟨[.osl nl 0 0 n n 4 true, .func (.func 48) [] [.ptr 1 0, .ptr 2 0]], [some (.tarr shL n f false), some (.cells [.int .u64 now] false), some (.cells [.int .u64 xc, .int .i64 xh, .int .u64 xe, .int .u64 xu] false)]⟩
noncomputable def f39bB  (nl : Bool) (n : Nat) (f : Nat → Nat → AV) (now : Int) (xc : Int) (xh : Int) (xe : Int) (xu : Int) : T (CS) :=
  chkT [Nat.ble n 1000] (.ask (Nat.blt (idx (busyQ now ⟨xc, xh, xe, xu⟩) f n) n) (.ret ⟨[.int .i64 (idx (busyQ now ⟨xc, xh, xe, xu⟩) f n : Nat)], []⟩) (.ret ⟨[.int .i64 (-1)], []⟩))
noncomputable def f39b  (c : CS) : T (CS) := match c with
  | ⟨[.osl nl 0 0 n z_1 4 true, .func (.func 48) [] [.ptr 1 0, .ptr 2 0]], [some (.tarr sh_2 z_3 f false), some (.cells [.int .u64 now] false), some (.cells [.int .u64 xc, .int .i64 xh, .int .u64 xe, .int .u64 xu] false)]⟩ => chkT [decide (n = z_1), shBeq sh_2 shL, decide (n = z_3)] (f39bB  nl n f now xc xh xe xu)
  | _ => .fail
def c39c (nl : Bool) (n : Nat) (f : Nat → Nat → AV) (xc : Int) (xh : Int) (xe : Int) (xu : Int) (i : Nat) : CS :=
  ⟨[.osl nl 0 0 n n 4 true, .func (.func 49) [] [.ptr 1 0], .int .i64 (n : Nat), .int .i64 (i : Nat)], [some (.tarr shL n f false), some (.cells [.int .u64 xc, .int .i64 xh, .int .u64 xe, .int .u64 xu] false)]⟩
noncomputable def r39cB  (nl : Bool) (n : Nat) (f : Nat → Nat → AV) (xc : Int) (xh : Int) (xe : Int) (xu : Int) : T (Nat × CS) :=
  chkT [Nat.ble n 1000] (.ask (Nat.blt (idx (newerQ ⟨xc, xh, xe, xu⟩) f n) n) (.ret (2, ⟨[.int .i64 (idx (newerQ ⟨xc, xh, xe, xu⟩) f n : Nat)], []⟩)) (.ret (1, ⟨[], []⟩)))
noncomputable def r39c  (c : CS) : T (Nat × CS) := match c with
  | ⟨[.osl nl 0 0 n z_1 4 true, .func (.func 49) [] [.ptr 1 0], .int .i64 z_2, .int .i64 z_3], [some (.tarr sh_4 z_5 f false), some (.cells [.int .u64 xc, .int .i64 xh, .int .u64 xe, .int .u64 xu] false)]⟩ => chkT [decide (n = z_1), decide ((n : Nat) = z_2), decide (0 = z_3), shBeq sh_4 shL, decide (n = z_5)] (r39cB  nl n f xc xh xe xu)
  | _ => .fail
def a39c (nl : Bool) (n : Nat) (f : Nat → Nat → AV) (xc : Int) (xh : Int) (xe : Int) (xu : Int) : CS :=
  ⟨[.osl nl 0 0 n n 4 true, .func (.func 49) [] [.ptr 1 0]], [some (.tarr shL n f false), some (.cells [.int .u64 xc, .int .i64 xh, .int .u64 xe, .int .u64 xu] false)]⟩
noncomputable def f39cB  (nl : Bool) (n : Nat) (f : Nat → Nat → AV) (xc : Int) (xh : Int) (xe : Int) (xu : Int) : T (CS) :=
  chkT [Nat.ble n 1000] (.ask (Nat.blt (idx (newerQ ⟨xc, xh, xe, xu⟩) f n) n) (.ret ⟨[.int .i64 (idx (newerQ ⟨xc, xh, xe, xu⟩) f n : Nat)], []⟩) (.ret ⟨[.int .i64 (-1)], []⟩))
noncomputable def f39c  (c : CS) : T (CS) := match c with
  | ⟨[.osl nl 0 0 n z_1 4 true, .func (.func 49) [] [.ptr 1 0]], [some (.tarr sh_2 z_3 f false), some (.cells [.int .u64 xc, .int .i64 xh, .int .u64 xe, .int .u64 xu] false)]⟩ => chkT [decide (n = z_1), shBeq sh_2 shL, decide (n = z_3)] (f39cB  nl n f xc xh xe xu)
  | _ => .fail
noncomputable def r39 (c : CS) : T (Nat × CS) := match c.ts with
  | [_, .func (.func 40) _ _, _, _] => r39a c
  | [_, .func (.func 48) _ _, _, _] => r39b c
  | [_, .func (.func 49) _ _, _, _] => r39c c
  | _ => .fail
noncomputable def f39 (c : CS) : T CS := match c.ts with
  | [_, .func (.func 40) _ _] => f39a c
  | [_, .func (.func 48) _ _] => f39b c
  | [_, .func (.func 49) _ _] => f39c c
  | _ => .fail
noncomputable def EA : Env := addL E0 39 0 1000000 h39 x39 0 r39
noncomputable def EB : Env := addF EA 39 ⟨frRun [.asl shL, .keep] [] f39⟩
def a21 (nl : Bool) (n : Nat) (f : Nat → Nat → AV) (now : Int) (ch : Int) : CS :=
  ⟨[.osl nl 0 0 n n 4 true, .int .u64 now, .int .u64 ch], [some (.tarr shL n f false)]⟩
def a38 (nl : Bool) (n : Nat) (f : Nat → Nat → AV) (now : Int) (xc : Int) (xh : Int) (xe : Int) (xu : Int) : CS :=
  ⟨[.osl nl 0 0 n n 4 true, .int .u64 now, .agg [.int .u64 xc, .int .i64 xh, .int .u64 xe, .int .u64 xu]], [some (.tarr shL n f false)]⟩
noncomputable def f21B  (nl : Bool) (n : Nat) (f : Nat → Nat → AV) (now : Int) (ch : Int) : T (CS) :=
  chkT [Nat.ble n 1000] (.ask (Nat.blt (idx (holdsQ now ch) f n) n) (.ret ⟨[.tuple [.agg [.int .u64 (lsAt f (idx (holdsQ now ch) f n)).c, .int .i64 (lsAt f (idx (holdsQ now ch) f n)).h, .int .u64 (lsAt f (idx (holdsQ now ch) f n)).e, .int .u64 (lsAt f (idx (holdsQ now ch) f n)).u], .bool true]], []⟩) (.ret ⟨[.tuple [.agg [.int .u64 0, .int .i64 0, .int .u64 0, .int .u64 0], .bool false]], []⟩))
noncomputable def f21  (c : CS) : T (CS) := match c with
  | ⟨[.osl nl 0 0 n z_1 4 true, .int .u64 now, .int .u64 ch], [some (.tarr sh_2 z_3 f false)]⟩ => chkT [decide (n = z_1), shBeq sh_2 shL, decide (n = z_3)] (f21B  nl n f now ch)
  | _ => .fail
def argB (now : Int) (x : Ls) : Bool := !(decide (x.h ≥ 0)) || !(decide (x.h < 16)) || x.c == 0 || x.e == 0 || decide (x.u ≤ now)
theorem argE : ∃ q : Int → Ls → Bool, q = argB := ⟨_, rfl⟩
/-- As argB (not unfolded by the kernel). -/
noncomputable def argV : Int → Ls → Bool := Classical.choose argE
theorem argV_eq : argV = argB := Classical.choose_spec argE
noncomputable def f38B  (nl : Bool) (n : Nat) (f : Nat → Nat → AV) (now : Int) (xc : Int) (xh : Int) (xe : Int) (xu : Int) : T (CS) :=
  chkT [Nat.ble n 1000] (.ask (argV now ⟨xc, xh, xe, xu⟩) (.ret ⟨[.int .i64 2], []⟩) (.ask (Nat.blt (idx (busyQ now ⟨xc, xh, xe, xu⟩) f n) n) (.ret ⟨[.int .i64 53], []⟩) (.ask (Nat.blt (idx (newerQ ⟨xc, xh, xe, xu⟩) f n) n) (.ret ⟨[.int .i64 52], []⟩) (.ret ⟨[.int .i64 0], []⟩))))
noncomputable def f38  (c : CS) : T (CS) := match c with
  | ⟨[.osl nl 0 0 n z_1 4 true, .int .u64 now, .agg [.int .u64 xc, .int .i64 xh, .int .u64 xe, .int .u64 xu]], [some (.tarr sh_2 z_3 f false)]⟩ => chkT [decide (n = z_1), shBeq sh_2 shL, decide (n = z_3)] (f38B  nl n f now xc xh xe xu)
  | _ => .fail
noncomputable def EC : Env := addF (addF EB 38 ⟨frRun [.asl shL, .keep, .keep] [] f38⟩) 21 ⟨frRun [.asl shL, .keep, .keep] [] f21⟩
/-- Grant's round: what is put out, and whether the new one was. -/
def gStep (now : Int) (x : Ls) (r : List Ls × Bool) (y : Ls) : List Ls × Bool :=
  cond (y.c == x.c || decide (y.u ≤ now)) r (cond (!r.2 && decide (y.c > x.c)) (r.1 ++ [x] ++ [y], true) (r.1 ++ [y], r.2))
def gLoop (now : Int) (x : Ls) (l : List Ls) : List Ls × Bool := l.foldl (gStep now x) ([], false)
def grantL (now : Int) (x : Ls) (l : List Ls) : List Ls := cond (gLoop now x l).2 (gLoop now x l).1 ((gLoop now x l).1 ++ [x])
theorem gE : ∃ q : Int → Ls → (Nat → Nat → AV) → Nat → List Ls × Bool, q = fun now x f n => gLoop now x (rdL f n) := ⟨_, rfl⟩
noncomputable def gV : Int → Ls → (Nat → Nat → AV) → Nat → List Ls × Bool := Classical.choose gE
theorem gV_eq (now : Int) (x : Ls) (f : Nat → Nat → AV) (n : Nat) : gV now x f n = gLoop now x (rdL f n) := by
  rw [show gV = _ from Classical.choose_spec gE]
theorem aE : ∃ q : Int → Ls → (Nat → Nat → AV) → Nat → List Ls, q = fun now x f n => grantL now x (rdL f n) := ⟨_, rfl⟩
noncomputable def aV : Int → Ls → (Nat → Nat → AV) → Nat → List Ls := Classical.choose aE
theorem aV_eq (now : Int) (x : Ls) (f : Nat → Nat → AV) (n : Nat) : aV now x f n = grantL now x (rdL f n) := by
  rw [show aV = _ from Classical.choose_spec aE]
def h20 : Pat := ⟨63, [(1, .keep), (5, .keep), (9, .asl shL), (10, .keep), (21, .asl shL), (22, .keep), (23, .keep)], []⟩
def x20 : List (Ex × Pat) := [(.exit 0, ⟨63, [(5, .keep), (9, .asl shL), (10, .keep)], []⟩)]
def c20 (now : Int) (xc : Int) (xh : Int) (xe : Int) (xu : Int) (ol : Bool) (m : Nat) (g : Nat → Nat → AV) (put : Bool) (nl : Bool) (n : Nat) (f : Nat → Nat → AV) (i : Nat) : CS :=
  ⟨[.int .u64 now, .ptr 0 0, .osl ol 1 0 m m 4 true, .bool put, .osl nl 2 0 n n 4 true, .int .i64 (n : Nat), .int .i64 (i : Nat)], [some (.cells [.int .u64 xc, .int .i64 xh, .int .u64 xe, .int .u64 xu] true), some (.tarr shL m g true), some (.tarr shL n f false)]⟩
def c20t (now : Int) (xc : Int) (xh : Int) (xe : Int) (xu : Int) (nl : Bool) (n : Nat) (f : Nat → Nat → AV) (i : Nat) : CS :=
  ⟨[.int .u64 now, .ptr 0 0, .nilSlice, .bool false, .osl nl 2 0 n n 4 true, .int .i64 (n : Nat), .int .i64 (i : Nat)], [some (.cells [.int .u64 xc, .int .i64 xh, .int .u64 xe, .int .u64 xu] true), none, some (.tarr shL n f false)]⟩
noncomputable def r20B  (now : Int) (xc : Int) (xh : Int) (xe : Int) (xu : Int) (g : Nat → Nat → AV) (nl : Bool) (n : Nat) (f : Nat → Nat → AV) : T (Nat × CS) :=
  chkT [Nat.ble n 1000] (.ask (Nat.beq (gV now ⟨xc, xh, xe, xu⟩ f n).1.length 0) (.ret (1, ⟨[.ptr 0 0, .osl true 1 0 0 0 4 true, .bool false], [some (.cells [.int .u64 xc, .int .i64 xh, .int .u64 xe, .int .u64 xu] true), some (.tarr shL 0 (fun _ _ => .bad) true)]⟩)) (.ret (1, ⟨[.ptr 0 0, .osl false 1 0 (gV now ⟨xc, xh, xe, xu⟩ f n).1.length (gV now ⟨xc, xh, xe, xu⟩ f n).1.length 4 true, .bool (gV now ⟨xc, xh, xe, xu⟩ f n).2], [some (.cells [.int .u64 xc, .int .i64 xh, .int .u64 xe, .int .u64 xu] true), some (.tarr shL (gV now ⟨xc, xh, xe, xu⟩ f n).1.length (finL (gV now ⟨xc, xh, xe, xu⟩ f n).1) true)]⟩)))
noncomputable def r20  (c : CS) : T (Nat × CS) := match c with
  | ⟨[.int .u64 now, .ptr 0 0, .osl z_1 1 0 z_2 z_3 4 true, .bool z_4, .osl nl 2 0 n z_5 4 true, .int .i64 z_6, .int .i64 z_7], [some (.cells [.int .u64 xc, .int .i64 xh, .int .u64 xe, .int .u64 xu] true), some (.tarr sh_8 z_9 g true), some (.tarr sh_10 z_11 f false)]⟩ => chkT [decide (true = z_1), decide (0 = z_2), decide (0 = z_3), decide (false = z_4), decide (n = z_5), decide ((n : Nat) = z_6), decide (0 = z_7), shBeq sh_8 shL, decide (0 = z_9), shBeq sh_10 shL, decide (n = z_11)] (r20B  now xc xh xe xu g nl n f)
  | _ => .fail
noncomputable def ED : Env := addL EC 20 0 1000001 h20 x20 0 r20
def a20 (nl : Bool) (n : Nat) (f : Nat → Nat → AV) (now : Int) (xc : Int) (xh : Int) (xe : Int) (xu : Int) : CS :=
  ⟨[.osl nl 0 0 n n 4 true, .int .u64 now, .agg [.int .u64 xc, .int .i64 xh, .int .u64 xe, .int .u64 xu]], [some (.tarr shL n f false)]⟩
noncomputable def f20B  (nl : Bool) (n : Nat) (f : Nat → Nat → AV) (now : Int) (xc : Int) (xh : Int) (xe : Int) (xu : Int) : T (CS) :=
  chkT [Nat.ble n 1000] (.ask (argV now ⟨xc, xh, xe, xu⟩) (.ret ⟨[.tuple [.bad, .int .i64 2]], [none]⟩) (.ask (Nat.blt (idx (busyQ now ⟨xc, xh, xe, xu⟩) f n) n) (.ret ⟨[.tuple [.bad, .int .i64 53]], [none]⟩) (.ask (Nat.blt (idx (newerQ ⟨xc, xh, xe, xu⟩) f n) n) (.ret ⟨[.tuple [.bad, .int .i64 52]], [none]⟩) (.ret ⟨[.tuple [.osl false 0 0 (aV now ⟨xc, xh, xe, xu⟩ f n).length (aV now ⟨xc, xh, xe, xu⟩ f n).length 4 true, .int .i64 0]], [some (.tarr shL (aV now ⟨xc, xh, xe, xu⟩ f n).length (finL (aV now ⟨xc, xh, xe, xu⟩ f n)) true)]⟩))))
noncomputable def f20  (c : CS) : T (CS) := match c with
  | ⟨[.osl nl 0 0 n z_1 4 true, .int .u64 now, .agg [.int .u64 xc, .int .i64 xh, .int .u64 xe, .int .u64 xu]], [some (.tarr sh_2 z_3 f false)]⟩ => chkT [decide (n = z_1), shBeq sh_2 shL, decide (n = z_3)] (f20B  nl n f now xc xh xe xu)
  | _ => .fail
noncomputable def EF : Env := addF ED 20 ⟨fnRun [.asl shL, .keep, .keep] [] f20⟩
theorem okGE : ∃ q : Int → Int → Int → (Nat → Nat → AV) → Nat → Bool, q = fun now c h g k => okFrom (fun i => !((g i 0).toI == c && ((g i 1).toI != h && decide ((g i 3).toI > now)))) 0 k := ⟨_, rfl⟩
noncomputable def okG : Int → Int → Int → (Nat → Nat → AV) → Nat → Bool := Classical.choose okGE
theorem okG_eq (now c h : Int) (g : Nat → Nat → AV) (k : Nat) : okG now c h g k = okFrom (fun i => !((g i 0).toI == c && ((g i 1).toI != h && decide ((g i 3).toI > now)))) 0 k := by
  rw [show okG = _ from Classical.choose_spec okGE]
def h42 : Pat := ⟨90, [(4, .asl shL), (5, .keep), (7, .keep), (8, .asl shL), (18, .asl shX), (19, .keep), (20, .keep), (38, .asl shL), (39, .keep), (40, .keep)], []⟩
def x42 : List (Ex × Pat) := [(.exit 2, ⟨90, [(4, .asl shL), (5, .keep), (7, .keep), (8, .asl shL), (18, .asl shX), (19, .keep), (20, .keep)], []⟩), (.ret, ⟨90, [(2, .keep)], []⟩)]
def c42 (gl : Bool) (k : Nat) (g : Nat → Nat → AV) (now : Int) (a : Int) (xc : Int) (xh : Int) (xe : Int) (xu : Int) (m : Nat) (q : Nat → Nat → AV) (nl : Bool) (n : Nat) (f : Nat → Nat → AV) (j : Nat) (i : Nat) : CS :=
  ⟨[.osl gl 0 0 k k 4 true, .int .u64 now, .ptr 1 0, .osl false 2 0 m m 4 true, .osl nl 3 0 n n 5 true, .int .i64 (n : Nat), .int .i64 (j : Nat), .osl gl 0 0 k k 4 true, .int .i64 (k : Nat), .int .i64 (i : Nat)], [some (.tarr shL k g true), some (.cells [.int .u64 a, .int .u64 xc, .int .i64 xh, .int .u64 xe, .int .u64 xu] true), some (.tarr shL m q true), some (.tarr shX n f false)]⟩
noncomputable def r42mB  (gl : Bool) (k : Nat) (g : Nat → Nat → AV) (now : Int) (a : Int) (xc : Int) (xh : Int) (xe : Int) (xu : Int) (m : Nat) (q : Nat → Nat → AV) (nl : Bool) (n : Nat) (f : Nat → Nat → AV) (j : Nat) : T (Nat × CS) :=
  chkT [Nat.ble k 1000, okG now xc xh g k] (.ret (1, ⟨[.osl gl 0 0 k k 4 true, .int .u64 now, .ptr 1 0, .osl false 2 0 m m 4 true, .osl nl 3 0 n n 5 true, .int .i64 (n : Nat), .int .i64 (j : Nat)], [some (.tarr shL k g true), some (.cells [.int .u64 a, .int .u64 xc, .int .i64 xh, .int .u64 xe, .int .u64 xu] true), some (.tarr shL m q true), some (.tarr shX n f false)]⟩))
noncomputable def r42m  (c : CS) : T (Nat × CS) := match c with
  | ⟨[.osl gl 0 0 k z_1 4 true, .int .u64 now, .ptr 1 0, .osl z_2 2 0 m z_3 4 true, .osl nl 3 0 n z_4 5 true, .int .i64 z_5, .int .i64 (.ofNat j), .osl z_6 0 0 z_7 z_8 4 true, .int .i64 z_9, .int .i64 z_10], [some (.tarr sh_11 z_12 g true), some (.cells [.int .u64 a, .int .u64 xc, .int .i64 xh, .int .u64 xe, .int .u64 xu] true), some (.tarr sh_13 z_14 q true), some (.tarr sh_15 z_16 f false)]⟩ => chkT [decide (k = z_1), decide (false = z_2), decide (m = z_3), decide (n = z_4), decide ((n : Nat) = z_5), decide (gl = z_6), decide (k = z_7), decide (k = z_8), decide ((k : Nat) = z_9), decide (0 = z_10), shBeq sh_11 shL, decide (k = z_12), shBeq sh_13 shL, decide (m = z_14), shBeq sh_15 shX, decide (n = z_16)] (r42mB  gl k g now a xc xh xe xu m q nl n f j)
  | _ => .fail
def c42n (g : Nat → Nat → AV) (g2 : Nat → Nat → AV) (now : Int) (a : Int) (xc : Int) (xh : Int) (xe : Int) (xu : Int) (m : Nat) (q : Nat → Nat → AV) (nl : Bool) (n : Nat) (f : Nat → Nat → AV) (j : Nat) : CS :=
  ⟨[.osl true 0 0 0 0 4 true, .int .u64 now, .ptr 1 0, .osl false 2 0 m m 4 true, .osl nl 3 0 n n 5 true, .int .i64 (n : Nat), .int .i64 (j : Nat), .osl true 4 0 0 0 4 true, .int .i64 0, .int .i64 0], [some (.tarr shL 0 g true), some (.cells [.int .u64 a, .int .u64 xc, .int .i64 xh, .int .u64 xe, .int .u64 xu] true), some (.tarr shL m q true), some (.tarr shX n f false), some (.tarr shL 0 g2 true)]⟩
noncomputable def r42nB  (g : Nat → Nat → AV) (g2 : Nat → Nat → AV) (now : Int) (a : Int) (xc : Int) (xh : Int) (xe : Int) (xu : Int) (m : Nat) (q : Nat → Nat → AV) (nl : Bool) (n : Nat) (f : Nat → Nat → AV) (j : Nat) : T (Nat × CS) :=
  (.ret (1, ⟨[.osl true 0 0 0 0 4 true, .int .u64 now, .ptr 1 0, .osl false 2 0 m m 4 true, .osl nl 3 0 n n 5 true, .int .i64 (n : Nat), .int .i64 (j : Nat)], [some (.tarr shL 0 g true), some (.cells [.int .u64 a, .int .u64 xc, .int .i64 xh, .int .u64 xe, .int .u64 xu] true), some (.tarr shL m q true), some (.tarr shX n f false)]⟩))
noncomputable def r42n  (c : CS) : T (Nat × CS) := match c with
  | ⟨[.osl true 0 0 0 0 4 true, .int .u64 now, .ptr 1 0, .osl z_1 2 0 m z_2 4 true, .osl nl 3 0 n z_3 5 true, .int .i64 z_4, .int .i64 (.ofNat j), .osl true 4 0 0 0 4 true, .int .i64 z_5, .int .i64 z_6], [some (.tarr sh_7 z_8 g true), some (.cells [.int .u64 a, .int .u64 xc, .int .i64 xh, .int .u64 xe, .int .u64 xu] true), some (.tarr sh_9 z_10 q true), some (.tarr sh_11 z_12 f false), some (.tarr sh_13 z_14 g2 true)]⟩ => chkT [decide (false = z_1), decide (m = z_2), decide (n = z_3), decide ((n : Nat) = z_4), decide (0 = z_5), decide (0 = z_6), shBeq sh_7 shL, decide (0 = z_8), shBeq sh_9 shL, decide (m = z_10), shBeq sh_11 shX, decide (n = z_12), shBeq sh_13 shL, decide (0 = z_14)] (r42nB  g g2 now a xc xh xe xu m q nl n f j)
  | _ => .fail
noncomputable def r42 (c : CS) : T (Nat × CS) := match c.ts with
  | [_, _, _, _, _, _, _, .osl _ 4 _ _ _ _ _, _, _] => r42n c
  | _ => r42m c
noncomputable def EG : Env := addL EF 4 2 1000002 h42 x42 0 r42
def h4 : Pat := ⟨90, [(3, .asl shL), (4, .asl shL), (5, .keep), (18, .asl shX), (19, .keep), (20, .keep)], []⟩
def x4 : List (Ex × Pat) := [(.exit 0, ⟨90, [], []⟩), (.ret, ⟨90, [(2, .keep)], []⟩)]
def c4 (al : Bool) (m : Nat) (q : Nat → Nat → AV) (gl : Bool) (k : Nat) (g : Nat → Nat → AV) (now : Int) (nl : Bool) (n : Nat) (f : Nat → Nat → AV) (j : Nat) : CS :=
  ⟨[.osl al 0 0 m m 4 true, .osl gl 1 0 k k 4 true, .int .u64 now, .osl nl 2 0 n n 5 true, .int .i64 (n : Nat), .int .i64 (j : Nat)], [some (.tarr shL m q true), some (.tarr shL k g true), some (.tarr shX n f false)]⟩
def c4t (now : Int) (nl : Bool) (n : Nat) (f : Nat → Nat → AV) (j : Nat) : CS :=
  ⟨[.nilSlice, .nilSlice, .int .u64 now, .osl nl 2 0 n n 5 true, .int .i64 (n : Nat), .int .i64 (j : Nat)], [none, none, some (.tarr shX n f false)]⟩
noncomputable def r4B  (q : Nat → Nat → AV) (g : Nat → Nat → AV) (nl : Bool) (n : Nat) (f : Nat → Nat → AV) : T (Nat × CS) :=
  chkT [Nat.ble n 100] (.ret (1, ⟨[], []⟩))
noncomputable def r4  (c : CS) : T (Nat × CS) := match c with
  | ⟨[.osl z_1 0 0 z_2 z_3 4 true, .osl z_4 1 0 z_5 z_6 4 true, .int .u64 z_7, .osl nl 2 0 n z_8 5 true, .int .i64 z_9, .int .i64 z_10], [some (.tarr sh_11 z_12 q true), some (.tarr sh_13 z_14 g true), some (.tarr sh_15 z_16 f false)]⟩ => chkT [decide (true = z_1), decide (0 = z_2), decide (0 = z_3), decide (true = z_4), decide (0 = z_5), decide (0 = z_6), decide (0 = z_7), decide (n = z_8), decide ((n : Nat) = z_9), decide (0 = z_10), shBeq sh_11 shL, decide (0 = z_12), shBeq sh_13 shL, decide (0 = z_14), shBeq sh_15 shX, decide (n = z_16)] (r4B  q g nl n f)
  | _ => .fail
noncomputable def EH : Env := addF (addL EG 4 0 1000003 h4 x4 0 r4) 19 livesI
noncomputable def s39a (nl : Bool) (n : Nat) (f : Nat → Nat → AV) (now : Int) (ch : Int) (i : Nat) (π : Plan) : Option (Nat × CS) := stepC (E0) (300) (loopC E0 39 0) (0) (h39) ((.normal, h39) :: x39) π (c39a nl n f now ch i)
def s39a_p : Plan := (.fork (.reck 1 (.must true (.fork (.fork (.must true (.must true (.must true (.must true (.fork .stop .stop))))) (.must false (.must false (.must false (.must false .stop))))) .stop))) .stop)
theorem s39a_is (nl : Bool) (n : Nat) (f : Nat → Nat → AV) (now : Int) (ch : Int) (i : Nat) : s39a nl n f now ch i s39a_p = (cond (decide ((↑i : Int) < (↑n : Int)))
  (cond (decide ((↑i : Int) < (↑n : Int))) (cond (Nat.blt (0 + Int.toNat (↑i : Int)) n)
  (cond ((AV.toI (f (0 + Int.toNat (↑i : Int)) 0) == ch) == true)
  (cond ((AV.toI (f (0 + Int.toNat (↑i : Int)) 0) == ch) == true) (cond ((AV.toI (f (0 + Int.toNat (↑i : Int)) 0) == ch) == true) (cond ((AV.toI (f (0 + Int.toNat (↑i : Int)) 0) == ch) == true) (cond (AV.toI (f (0 + Int.toNat (↑i : Int)) 0) == ch) (cond (decide (AV.toI (f (0 + Int.toNat (↑i : Int)) (3)) > now))
  (some (2, (CS.mk [(AV.int IntKind.i64 ((↑i : Int)))] [])))
  (some (0, (CS.mk [(AV.osl (nl) (0) (0) (n) (n) (4) (true)), (AV.func (Fn.func 40) [] [(AV.ptr (1) (0)), (AV.ptr (2) (0))]), (AV.int IntKind.i64 ((↑n : Int))), (AV.int IntKind.i64 (IntKind.wrap IntKind.i64 ((↑i : Int) + 1)))] [some (AObj.tarr [Sh.int IntKind.u64, Sh.int IntKind.i64, Sh.int IntKind.u64, Sh.int IntKind.u64] (n) f false), some (AObj.cells [(AV.int IntKind.u64 (now))] false), some (AObj.cells [(AV.int IntKind.u64 (ch))] false)])))) none) none) none) none)
  (cond ((AV.toI (f (0 + Int.toNat (↑i : Int)) 0) == ch) == true) none (cond ((AV.toI (f (0 + Int.toNat (↑i : Int)) 0) == ch) == true) none (cond ((AV.toI (f (0 + Int.toNat (↑i : Int)) 0) == ch) == true) none (cond (AV.toI (f (0 + Int.toNat (↑i : Int)) 0) == ch) none (some (0, (CS.mk [(AV.osl (nl) (0) (0) (n) (n) (4) (true)), (AV.func (Fn.func 40) [] [(AV.ptr (1) (0)), (AV.ptr (2) (0))]), (AV.int IntKind.i64 ((↑n : Int))), (AV.int IntKind.i64 (IntKind.wrap IntKind.i64 ((↑i : Int) + 1)))] [some (AObj.tarr [Sh.int IntKind.u64, Sh.int IntKind.i64, Sh.int IntKind.u64, Sh.int IntKind.u64] (n) f false), some (AObj.cells [(AV.int IntKind.u64 (now))] false), some (AObj.cells [(AV.int IntKind.u64 (ch))] false)]))))))))
  none) none)
  (some (1, (CS.mk [] [])))) := by kernel_rfl
theorem s39a_eq (nl : Bool) (n : Nat) (f : Nat → Nat → AV) (now : Int) (ch : Int) (i : Nat) : s39a nl n f now ch i s39a_p = (cond (decide ((↑i : Int) < (↑n : Int)))
  (cond (Nat.blt (0 + Int.toNat (↑i : Int)) n)
  (cond (AV.toI (f (0 + Int.toNat (↑i : Int)) 0) == ch)
  (cond (decide (AV.toI (f (0 + Int.toNat (↑i : Int)) (3)) > now))
  (some (2, (CS.mk [(AV.int IntKind.i64 ((↑i : Int)))] [])))
  (some (0, (CS.mk [(AV.osl (nl) (0) (0) (n) (n) (4) (true)), (AV.func (Fn.func 40) [] [(AV.ptr (1) (0)), (AV.ptr (2) (0))]), (AV.int IntKind.i64 ((↑n : Int))), (AV.int IntKind.i64 (IntKind.wrap IntKind.i64 ((↑i : Int) + 1)))] [some (AObj.tarr [Sh.int IntKind.u64, Sh.int IntKind.i64, Sh.int IntKind.u64, Sh.int IntKind.u64] (n) f false), some (AObj.cells [(AV.int IntKind.u64 (now))] false), some (AObj.cells [(AV.int IntKind.u64 (ch))] false)]))))
  (some (0, (CS.mk [(AV.osl (nl) (0) (0) (n) (n) (4) (true)), (AV.func (Fn.func 40) [] [(AV.ptr (1) (0)), (AV.ptr (2) (0))]), (AV.int IntKind.i64 ((↑n : Int))), (AV.int IntKind.i64 (IntKind.wrap IntKind.i64 ((↑i : Int) + 1)))] [some (AObj.tarr [Sh.int IntKind.u64, Sh.int IntKind.i64, Sh.int IntKind.u64, Sh.int IntKind.u64] (n) f false), some (AObj.cells [(AV.int IntKind.u64 (now))] false), some (AObj.cells [(AV.int IntKind.u64 (ch))] false)]))))
  none)
  (some (1, (CS.mk [] [])))) := by
  rw [s39a_is]
  try simp only [eq_self, decide_true, beq_self_eq_true, Nat.beq_refl, ble_self, Int.le_refl, Nat.le_refl]
  cases (decide ((↑i : Int) < (↑n : Int))) with
  | true =>
    cases (Nat.blt (0 + Int.toNat (↑i : Int)) n) with
    | true =>
      cases (AV.toI (f (0 + Int.toNat (↑i : Int)) 0) == ch) with
      | true =>
        cases (decide (AV.toI (f (0 + Int.toNat (↑i : Int)) (3)) > now)) with
        | true =>
          rfl
        | false =>
          rfl
      | false =>
        rfl
    | false =>
      rfl
  | false =>
    rfl

noncomputable def k39a (nl : Bool) (n : Nat) (f : Nat → Nat → AV) (now : Int) (ch : Int) (π : Plan) : Option CS := callC (EA) (1000) (39) (0) (.keep) ([]) π (a39a nl n f now ch)
def k39a_p : Plan := (.must true (.must true (.reck 2 (.must true (.fork (.fork .stop .stop) .stop)))))
theorem k39a_is (nl : Bool) (n : Nat) (f : Nat → Nat → AV) (now : Int) (ch : Int) : k39a nl n f now ch k39a_p = (cond (decide (n = n)) (cond (decide ((↑n : Int) = (↑n : Int))) (cond (decide (n = n)) (cond (Nat.ble n 1000)
  (cond (Nat.blt (idx (holdsQ now ch) f n) n)
  (some (CS.mk [(AV.int IntKind.i64 ((↑(idx (holdsQ now ch) f n) : Int)))] []))
  (some (CS.mk [(AV.int IntKind.i64 (-1))] [])))
  none) none) none) none) := by kernel_rfl
theorem k39a_eq (nl : Bool) (n : Nat) (f : Nat → Nat → AV) (now : Int) (ch : Int) : k39a nl n f now ch k39a_p = (cond (Nat.ble n 1000)
  (cond (Nat.blt (idx (holdsQ now ch) f n) n)
  (some (CS.mk [(AV.int IntKind.i64 ((↑(idx (holdsQ now ch) f n) : Int)))] []))
  (some (CS.mk [(AV.int IntKind.i64 (-1))] [])))
  none) := by
  rw [k39a_is]
  try simp only [eq_self, decide_true, beq_self_eq_true, Nat.beq_refl, ble_self, Int.le_refl, Nat.le_refl]
  cases (Nat.ble n 1000) with
  | true =>
    cases (Nat.blt (idx (holdsQ now ch) f n) n) with
    | true =>
      rfl
    | false =>
      rfl
  | false =>
    rfl

noncomputable def s39b (nl : Bool) (n : Nat) (f : Nat → Nat → AV) (now : Int) (xc : Int) (xh : Int) (xe : Int) (xu : Int) (i : Nat) (π : Plan) : Option (Nat × CS) := stepC (E0) (300) (loopC E0 39 0) (0) (h39) ((.normal, h39) :: x39) π (c39b nl n f now xc xh xe xu i)
def s39b_p : Plan := (.fork (.reck 1 (.must true (.fork (.fork (.must true (.must true (.must true (.must true (.fork (.must true (.must true (.must true (.must true (.must true (.fork .stop .stop)))))) (.must false (.must false (.must false (.must false (.must false .stop)))))))))) (.must false (.must false (.must false (.must false .stop))))) .stop))) .stop)
theorem s39b_is (nl : Bool) (n : Nat) (f : Nat → Nat → AV) (now : Int) (xc : Int) (xh : Int) (xe : Int) (xu : Int) (i : Nat) : s39b nl n f now xc xh xe xu i s39b_p = (cond (decide ((↑i : Int) < (↑n : Int)))
  (cond (decide ((↑i : Int) < (↑n : Int))) (cond (Nat.blt (0 + Int.toNat (↑i : Int)) n)
  (cond ((AV.toI (f (0 + Int.toNat (↑i : Int)) 0) == xc) == true)
  (cond ((AV.toI (f (0 + Int.toNat (↑i : Int)) 0) == xc) == true) (cond ((AV.toI (f (0 + Int.toNat (↑i : Int)) 0) == xc) == true) (cond ((AV.toI (f (0 + Int.toNat (↑i : Int)) 0) == xc) == true) (cond (AV.toI (f (0 + Int.toNat (↑i : Int)) 0) == xc) (cond (decide (AV.toI (f (0 + Int.toNat (↑i : Int)) (3)) > now) == true)
  (cond (decide (AV.toI (f (0 + Int.toNat (↑i : Int)) (3)) > now) == true) (cond (decide (AV.toI (f (0 + Int.toNat (↑i : Int)) (3)) > now) == true) (cond (decide (AV.toI (f (0 + Int.toNat (↑i : Int)) (3)) > now) == true) (cond (decide (AV.toI (f (0 + Int.toNat (↑i : Int)) (3)) > now) == true) (cond (decide (AV.toI (f (0 + Int.toNat (↑i : Int)) (3)) > now)) (cond (AV.toI (f (0 + Int.toNat (↑i : Int)) (1)) != xh)
  (some (2, (CS.mk [(AV.int IntKind.i64 ((↑i : Int)))] [])))
  (some (0, (CS.mk [(AV.osl (nl) (0) (0) (n) (n) (4) (true)), (AV.func (Fn.func 48) [] [(AV.ptr (1) (0)), (AV.ptr (2) (0))]), (AV.int IntKind.i64 ((↑n : Int))), (AV.int IntKind.i64 (IntKind.wrap IntKind.i64 ((↑i : Int) + 1)))] [some (AObj.tarr [Sh.int IntKind.u64, Sh.int IntKind.i64, Sh.int IntKind.u64, Sh.int IntKind.u64] (n) f false), some (AObj.cells [(AV.int IntKind.u64 (now))] false), some (AObj.cells [(AV.int IntKind.u64 (xc)), (AV.int IntKind.i64 (xh)), (AV.int IntKind.u64 (xe)), (AV.int IntKind.u64 (xu))] false)])))) none) none) none) none) none)
  (cond (decide (AV.toI (f (0 + Int.toNat (↑i : Int)) (3)) > now) == true) none (cond (decide (AV.toI (f (0 + Int.toNat (↑i : Int)) (3)) > now) == true) none (cond (decide (AV.toI (f (0 + Int.toNat (↑i : Int)) (3)) > now) == true) none (cond (decide (AV.toI (f (0 + Int.toNat (↑i : Int)) (3)) > now) == true) none (cond (decide (AV.toI (f (0 + Int.toNat (↑i : Int)) (3)) > now)) none (some (0, (CS.mk [(AV.osl (nl) (0) (0) (n) (n) (4) (true)), (AV.func (Fn.func 48) [] [(AV.ptr (1) (0)), (AV.ptr (2) (0))]), (AV.int IntKind.i64 ((↑n : Int))), (AV.int IntKind.i64 (IntKind.wrap IntKind.i64 ((↑i : Int) + 1)))] [some (AObj.tarr [Sh.int IntKind.u64, Sh.int IntKind.i64, Sh.int IntKind.u64, Sh.int IntKind.u64] (n) f false), some (AObj.cells [(AV.int IntKind.u64 (now))] false), some (AObj.cells [(AV.int IntKind.u64 (xc)), (AV.int IntKind.i64 (xh)), (AV.int IntKind.u64 (xe)), (AV.int IntKind.u64 (xu))] false)]))))))))) none) none) none) none)
  (cond ((AV.toI (f (0 + Int.toNat (↑i : Int)) 0) == xc) == true) none (cond ((AV.toI (f (0 + Int.toNat (↑i : Int)) 0) == xc) == true) none (cond ((AV.toI (f (0 + Int.toNat (↑i : Int)) 0) == xc) == true) none (cond (AV.toI (f (0 + Int.toNat (↑i : Int)) 0) == xc) none (some (0, (CS.mk [(AV.osl (nl) (0) (0) (n) (n) (4) (true)), (AV.func (Fn.func 48) [] [(AV.ptr (1) (0)), (AV.ptr (2) (0))]), (AV.int IntKind.i64 ((↑n : Int))), (AV.int IntKind.i64 (IntKind.wrap IntKind.i64 ((↑i : Int) + 1)))] [some (AObj.tarr [Sh.int IntKind.u64, Sh.int IntKind.i64, Sh.int IntKind.u64, Sh.int IntKind.u64] (n) f false), some (AObj.cells [(AV.int IntKind.u64 (now))] false), some (AObj.cells [(AV.int IntKind.u64 (xc)), (AV.int IntKind.i64 (xh)), (AV.int IntKind.u64 (xe)), (AV.int IntKind.u64 (xu))] false)]))))))))
  none) none)
  (some (1, (CS.mk [] [])))) := by kernel_rfl
theorem s39b_eq (nl : Bool) (n : Nat) (f : Nat → Nat → AV) (now : Int) (xc : Int) (xh : Int) (xe : Int) (xu : Int) (i : Nat) : s39b nl n f now xc xh xe xu i s39b_p = (cond (decide ((↑i : Int) < (↑n : Int)))
  (cond (Nat.blt (0 + Int.toNat (↑i : Int)) n)
  (cond (AV.toI (f (0 + Int.toNat (↑i : Int)) 0) == xc)
  (cond (decide (AV.toI (f (0 + Int.toNat (↑i : Int)) (3)) > now))
  (cond (AV.toI (f (0 + Int.toNat (↑i : Int)) (1)) != xh)
  (some (2, (CS.mk [(AV.int IntKind.i64 ((↑i : Int)))] [])))
  (some (0, (CS.mk [(AV.osl (nl) (0) (0) (n) (n) (4) (true)), (AV.func (Fn.func 48) [] [(AV.ptr (1) (0)), (AV.ptr (2) (0))]), (AV.int IntKind.i64 ((↑n : Int))), (AV.int IntKind.i64 (IntKind.wrap IntKind.i64 ((↑i : Int) + 1)))] [some (AObj.tarr [Sh.int IntKind.u64, Sh.int IntKind.i64, Sh.int IntKind.u64, Sh.int IntKind.u64] (n) f false), some (AObj.cells [(AV.int IntKind.u64 (now))] false), some (AObj.cells [(AV.int IntKind.u64 (xc)), (AV.int IntKind.i64 (xh)), (AV.int IntKind.u64 (xe)), (AV.int IntKind.u64 (xu))] false)]))))
  (some (0, (CS.mk [(AV.osl (nl) (0) (0) (n) (n) (4) (true)), (AV.func (Fn.func 48) [] [(AV.ptr (1) (0)), (AV.ptr (2) (0))]), (AV.int IntKind.i64 ((↑n : Int))), (AV.int IntKind.i64 (IntKind.wrap IntKind.i64 ((↑i : Int) + 1)))] [some (AObj.tarr [Sh.int IntKind.u64, Sh.int IntKind.i64, Sh.int IntKind.u64, Sh.int IntKind.u64] (n) f false), some (AObj.cells [(AV.int IntKind.u64 (now))] false), some (AObj.cells [(AV.int IntKind.u64 (xc)), (AV.int IntKind.i64 (xh)), (AV.int IntKind.u64 (xe)), (AV.int IntKind.u64 (xu))] false)]))))
  (some (0, (CS.mk [(AV.osl (nl) (0) (0) (n) (n) (4) (true)), (AV.func (Fn.func 48) [] [(AV.ptr (1) (0)), (AV.ptr (2) (0))]), (AV.int IntKind.i64 ((↑n : Int))), (AV.int IntKind.i64 (IntKind.wrap IntKind.i64 ((↑i : Int) + 1)))] [some (AObj.tarr [Sh.int IntKind.u64, Sh.int IntKind.i64, Sh.int IntKind.u64, Sh.int IntKind.u64] (n) f false), some (AObj.cells [(AV.int IntKind.u64 (now))] false), some (AObj.cells [(AV.int IntKind.u64 (xc)), (AV.int IntKind.i64 (xh)), (AV.int IntKind.u64 (xe)), (AV.int IntKind.u64 (xu))] false)]))))
  none)
  (some (1, (CS.mk [] [])))) := by
  rw [s39b_is]
  try simp only [eq_self, decide_true, beq_self_eq_true, Nat.beq_refl, ble_self, Int.le_refl, Nat.le_refl]
  cases (decide ((↑i : Int) < (↑n : Int))) with
  | true =>
    cases (Nat.blt (0 + Int.toNat (↑i : Int)) n) with
    | true =>
      cases (AV.toI (f (0 + Int.toNat (↑i : Int)) 0) == xc) with
      | true =>
        cases (decide (AV.toI (f (0 + Int.toNat (↑i : Int)) (3)) > now)) with
        | true =>
          cases (AV.toI (f (0 + Int.toNat (↑i : Int)) (1)) != xh) with
          | true =>
            rfl
          | false =>
            rfl
        | false =>
          rfl
      | false =>
        rfl
    | false =>
      rfl
  | false =>
    rfl

noncomputable def k39b (nl : Bool) (n : Nat) (f : Nat → Nat → AV) (now : Int) (xc : Int) (xh : Int) (xe : Int) (xu : Int) (π : Plan) : Option CS := callC (EA) (1000) (39) (0) (.keep) ([]) π (a39b nl n f now xc xh xe xu)
def k39b_p : Plan := (.must true (.must true (.reck 2 (.must true (.fork (.fork .stop .stop) .stop)))))
theorem k39b_is (nl : Bool) (n : Nat) (f : Nat → Nat → AV) (now : Int) (xc : Int) (xh : Int) (xe : Int) (xu : Int) : k39b nl n f now xc xh xe xu k39b_p = (cond (decide (n = n)) (cond (decide ((↑n : Int) = (↑n : Int))) (cond (decide (n = n)) (cond (Nat.ble n 1000)
  (cond (Nat.blt (idx (busyQ now { c := xc, h := xh, e := xe, u := xu }) f n) n)
  (some (CS.mk [(AV.int IntKind.i64 ((↑(idx (busyQ now { c := xc, h := xh, e := xe, u := xu }) f n) : Int)))] []))
  (some (CS.mk [(AV.int IntKind.i64 (-1))] [])))
  none) none) none) none) := by kernel_rfl
theorem k39b_eq (nl : Bool) (n : Nat) (f : Nat → Nat → AV) (now : Int) (xc : Int) (xh : Int) (xe : Int) (xu : Int) : k39b nl n f now xc xh xe xu k39b_p = (cond (Nat.ble n 1000)
  (cond (Nat.blt (idx (busyQ now { c := xc, h := xh, e := xe, u := xu }) f n) n)
  (some (CS.mk [(AV.int IntKind.i64 ((↑(idx (busyQ now { c := xc, h := xh, e := xe, u := xu }) f n) : Int)))] []))
  (some (CS.mk [(AV.int IntKind.i64 (-1))] [])))
  none) := by
  rw [k39b_is]
  try simp only [eq_self, decide_true, beq_self_eq_true, Nat.beq_refl, ble_self, Int.le_refl, Nat.le_refl]
  cases (Nat.ble n 1000) with
  | true =>
    cases (Nat.blt (idx (busyQ now { c := xc, h := xh, e := xe, u := xu }) f n) n) with
    | true =>
      rfl
    | false =>
      rfl
  | false =>
    rfl

noncomputable def s39c (nl : Bool) (n : Nat) (f : Nat → Nat → AV) (xc : Int) (xh : Int) (xe : Int) (xu : Int) (i : Nat) (π : Plan) : Option (Nat × CS) := stepC (E0) (300) (loopC E0 39 0) (0) (h39) ((.normal, h39) :: x39) π (c39c nl n f xc xh xe xu i)
def s39c_p : Plan := (.fork (.reck 1 (.must true (.fork (.fork (.must true (.must true (.must true (.must true (.must true (.fork (.must true (.must true (.must true (.must true (.must true (.must false (.must true (.fork .stop .stop)))))))) (.must false (.must false (.must false (.must false (.must true (.must true (.must true .stop))))))))))))) (.must false (.must false (.must false (.must false (.must false (.must false (.must false .stop)))))))) .stop))) .stop)
theorem s39c_is (nl : Bool) (n : Nat) (f : Nat → Nat → AV) (xc : Int) (xh : Int) (xe : Int) (xu : Int) (i : Nat) : s39c nl n f xc xh xe xu i s39c_p = (cond (decide ((↑i : Int) < (↑n : Int)))
  (cond (decide ((↑i : Int) < (↑n : Int))) (cond (Nat.blt (0 + Int.toNat (↑i : Int)) n)
  (cond ((AV.toI (f (0 + Int.toNat (↑i : Int)) 0) == xc) == true)
  (cond ((AV.toI (f (0 + Int.toNat (↑i : Int)) 0) == xc) == true) (cond ((AV.toI (f (0 + Int.toNat (↑i : Int)) 0) == xc) == true) (cond ((AV.toI (f (0 + Int.toNat (↑i : Int)) 0) == xc) == true) (cond ((AV.toI (f (0 + Int.toNat (↑i : Int)) 0) == xc) == true) (cond ((AV.toI (f (0 + Int.toNat (↑i : Int)) 0) == xc) == true) (cond (decide (AV.toI (f (0 + Int.toNat (↑i : Int)) (2)) > xe) == false)
  (cond (decide (AV.toI (f (0 + Int.toNat (↑i : Int)) (2)) > xe) == false) (cond (decide (AV.toI (f (0 + Int.toNat (↑i : Int)) (2)) > xe) == false) (cond (decide (AV.toI (f (0 + Int.toNat (↑i : Int)) (2)) > xe) == false) (cond (decide (AV.toI (f (0 + Int.toNat (↑i : Int)) (2)) > xe) == false) (cond ((AV.toI (f (0 + Int.toNat (↑i : Int)) 0) == xc) == true) (cond (decide (AV.toI (f (0 + Int.toNat (↑i : Int)) (2)) > xe)) none (cond (AV.toI (f (0 + Int.toNat (↑i : Int)) 0) == xc) (cond (decide (AV.toI (f (0 + Int.toNat (↑i : Int)) (3)) > xu))
  (some (2, (CS.mk [(AV.int IntKind.i64 ((↑i : Int)))] [])))
  (some (0, (CS.mk [(AV.osl (nl) (0) (0) (n) (n) (4) (true)), (AV.func (Fn.func 49) [] [(AV.ptr (1) (0))]), (AV.int IntKind.i64 ((↑n : Int))), (AV.int IntKind.i64 (IntKind.wrap IntKind.i64 ((↑i : Int) + 1)))] [some (AObj.tarr [Sh.int IntKind.u64, Sh.int IntKind.i64, Sh.int IntKind.u64, Sh.int IntKind.u64] (n) f false), some (AObj.cells [(AV.int IntKind.u64 (xc)), (AV.int IntKind.i64 (xh)), (AV.int IntKind.u64 (xe)), (AV.int IntKind.u64 (xu))] false)])))) none)) none) none) none) none) none)
  (cond (decide (AV.toI (f (0 + Int.toNat (↑i : Int)) (2)) > xe) == false) none (cond (decide (AV.toI (f (0 + Int.toNat (↑i : Int)) (2)) > xe) == false) none (cond (decide (AV.toI (f (0 + Int.toNat (↑i : Int)) (2)) > xe) == false) none (cond (decide (AV.toI (f (0 + Int.toNat (↑i : Int)) (2)) > xe) == false) none (cond ((AV.toI (f (0 + Int.toNat (↑i : Int)) 0) == xc) == true) (cond (decide (AV.toI (f (0 + Int.toNat (↑i : Int)) (2)) > xe)) (cond (AV.toI (f (0 + Int.toNat (↑i : Int)) 0) == xc) (some (2, (CS.mk [(AV.int IntKind.i64 ((↑i : Int)))] []))) none) none) none)))))) none) none) none) none) none)
  (cond ((AV.toI (f (0 + Int.toNat (↑i : Int)) 0) == xc) == true) none (cond ((AV.toI (f (0 + Int.toNat (↑i : Int)) 0) == xc) == true) none (cond ((AV.toI (f (0 + Int.toNat (↑i : Int)) 0) == xc) == true) none (cond ((AV.toI (f (0 + Int.toNat (↑i : Int)) 0) == xc) == true) none (cond ((AV.toI (f (0 + Int.toNat (↑i : Int)) 0) == xc) == true) none (cond ((AV.toI (f (0 + Int.toNat (↑i : Int)) 0) == xc) == true) none (cond (AV.toI (f (0 + Int.toNat (↑i : Int)) 0) == xc) none (some (0, (CS.mk [(AV.osl (nl) (0) (0) (n) (n) (4) (true)), (AV.func (Fn.func 49) [] [(AV.ptr (1) (0))]), (AV.int IntKind.i64 ((↑n : Int))), (AV.int IntKind.i64 (IntKind.wrap IntKind.i64 ((↑i : Int) + 1)))] [some (AObj.tarr [Sh.int IntKind.u64, Sh.int IntKind.i64, Sh.int IntKind.u64, Sh.int IntKind.u64] (n) f false), some (AObj.cells [(AV.int IntKind.u64 (xc)), (AV.int IntKind.i64 (xh)), (AV.int IntKind.u64 (xe)), (AV.int IntKind.u64 (xu))] false)])))))))))))
  none) none)
  (some (1, (CS.mk [] [])))) := by kernel_rfl
theorem s39c_eq (nl : Bool) (n : Nat) (f : Nat → Nat → AV) (xc : Int) (xh : Int) (xe : Int) (xu : Int) (i : Nat) : s39c nl n f xc xh xe xu i s39c_p = (cond (decide ((↑i : Int) < (↑n : Int)))
  (cond (Nat.blt (0 + Int.toNat (↑i : Int)) n)
  (cond (AV.toI (f (0 + Int.toNat (↑i : Int)) 0) == xc)
  (cond (decide (AV.toI (f (0 + Int.toNat (↑i : Int)) (2)) > xe))
  (some (2, (CS.mk [(AV.int IntKind.i64 ((↑i : Int)))] [])))
  (cond (decide (AV.toI (f (0 + Int.toNat (↑i : Int)) (3)) > xu))
  (some (2, (CS.mk [(AV.int IntKind.i64 ((↑i : Int)))] [])))
  (some (0, (CS.mk [(AV.osl (nl) (0) (0) (n) (n) (4) (true)), (AV.func (Fn.func 49) [] [(AV.ptr (1) (0))]), (AV.int IntKind.i64 ((↑n : Int))), (AV.int IntKind.i64 (IntKind.wrap IntKind.i64 ((↑i : Int) + 1)))] [some (AObj.tarr [Sh.int IntKind.u64, Sh.int IntKind.i64, Sh.int IntKind.u64, Sh.int IntKind.u64] (n) f false), some (AObj.cells [(AV.int IntKind.u64 (xc)), (AV.int IntKind.i64 (xh)), (AV.int IntKind.u64 (xe)), (AV.int IntKind.u64 (xu))] false)])))))
  (some (0, (CS.mk [(AV.osl (nl) (0) (0) (n) (n) (4) (true)), (AV.func (Fn.func 49) [] [(AV.ptr (1) (0))]), (AV.int IntKind.i64 ((↑n : Int))), (AV.int IntKind.i64 (IntKind.wrap IntKind.i64 ((↑i : Int) + 1)))] [some (AObj.tarr [Sh.int IntKind.u64, Sh.int IntKind.i64, Sh.int IntKind.u64, Sh.int IntKind.u64] (n) f false), some (AObj.cells [(AV.int IntKind.u64 (xc)), (AV.int IntKind.i64 (xh)), (AV.int IntKind.u64 (xe)), (AV.int IntKind.u64 (xu))] false)]))))
  none)
  (some (1, (CS.mk [] [])))) := by
  rw [s39c_is]
  try simp only [eq_self, decide_true, beq_self_eq_true, Nat.beq_refl, ble_self, Int.le_refl, Nat.le_refl]
  cases (decide ((↑i : Int) < (↑n : Int))) with
  | true =>
    cases (Nat.blt (0 + Int.toNat (↑i : Int)) n) with
    | true =>
      cases (AV.toI (f (0 + Int.toNat (↑i : Int)) 0) == xc) with
      | true =>
        cases (decide (AV.toI (f (0 + Int.toNat (↑i : Int)) (2)) > xe)) with
        | true =>
          rfl
        | false =>
          cases (decide (AV.toI (f (0 + Int.toNat (↑i : Int)) (3)) > xu)) with
          | true =>
            rfl
          | false =>
            rfl
      | false =>
        rfl
    | false =>
      rfl
  | false =>
    rfl

noncomputable def k39c (nl : Bool) (n : Nat) (f : Nat → Nat → AV) (xc : Int) (xh : Int) (xe : Int) (xu : Int) (π : Plan) : Option CS := callC (EA) (1000) (39) (0) (.keep) ([]) π (a39c nl n f xc xh xe xu)
def k39c_p : Plan := (.must true (.must true (.reck 2 (.must true (.fork (.fork .stop .stop) .stop)))))
theorem k39c_is (nl : Bool) (n : Nat) (f : Nat → Nat → AV) (xc : Int) (xh : Int) (xe : Int) (xu : Int) : k39c nl n f xc xh xe xu k39c_p = (cond (decide (n = n)) (cond (decide ((↑n : Int) = (↑n : Int))) (cond (decide (n = n)) (cond (Nat.ble n 1000)
  (cond (Nat.blt (idx (newerQ { c := xc, h := xh, e := xe, u := xu }) f n) n)
  (some (CS.mk [(AV.int IntKind.i64 ((↑(idx (newerQ { c := xc, h := xh, e := xe, u := xu }) f n) : Int)))] []))
  (some (CS.mk [(AV.int IntKind.i64 (-1))] [])))
  none) none) none) none) := by kernel_rfl
theorem k39c_eq (nl : Bool) (n : Nat) (f : Nat → Nat → AV) (xc : Int) (xh : Int) (xe : Int) (xu : Int) : k39c nl n f xc xh xe xu k39c_p = (cond (Nat.ble n 1000)
  (cond (Nat.blt (idx (newerQ { c := xc, h := xh, e := xe, u := xu }) f n) n)
  (some (CS.mk [(AV.int IntKind.i64 ((↑(idx (newerQ { c := xc, h := xh, e := xe, u := xu }) f n) : Int)))] []))
  (some (CS.mk [(AV.int IntKind.i64 (-1))] [])))
  none) := by
  rw [k39c_is]
  try simp only [eq_self, decide_true, beq_self_eq_true, Nat.beq_refl, ble_self, Int.le_refl, Nat.le_refl]
  cases (Nat.ble n 1000) with
  | true =>
    cases (Nat.blt (idx (newerQ { c := xc, h := xh, e := xe, u := xu }) f n) n) with
    | true =>
      rfl
    | false =>
      rfl
  | false =>
    rfl

noncomputable def k21 (nl : Bool) (n : Nat) (f : Nat → Nat → AV) (now : Int) (ch : Int) (π : Plan) : Option CS := callC (EB) (1000) (21) (0) (.keep) ([]) π (a21 nl n f now ch)
def k21_p : Plan := (.must true (.reck 1 (.must true (.fork (.fork (.reck 2 (.fork (.fork .stop .stop) .stop)) .stop) .stop))))
theorem k21_is (nl : Bool) (n : Nat) (f : Nat → Nat → AV) (now : Int) (ch : Int) : k21 nl n f now ch k21_p = (cond (decide (n = n)) (cond (decide (n = n)) (cond (Nat.ble n 1000)
  (cond (Nat.blt (idx (holdsQ now ch) f n) n)
  (cond (decide ((↑(idx (holdsQ now ch) f n) : Int) < (↑n : Int)))
  (cond (Nat.blt (0 + Int.toNat (↑(idx (holdsQ now ch) f n) : Int)) n)
  (some (CS.mk [(AV.tuple [(AV.agg [(AV.int IntKind.u64 (AV.toI (f (0 + Int.toNat (↑(idx (holdsQ now ch) f n) : Int)) 0))), (AV.int IntKind.i64 (AV.toI (f (0 + Int.toNat (↑(idx (holdsQ now ch) f n) : Int)) (1)))), (AV.int IntKind.u64 (AV.toI (f (0 + Int.toNat (↑(idx (holdsQ now ch) f n) : Int)) (2)))), (AV.int IntKind.u64 (AV.toI (f (0 + Int.toNat (↑(idx (holdsQ now ch) f n) : Int)) (3))))]), (AV.bool (true))])] []))
  none)
  none)
  (some (CS.mk [(AV.tuple [(AV.agg [(AV.int IntKind.u64 (0)), (AV.int IntKind.i64 (0)), (AV.int IntKind.u64 (0)), (AV.int IntKind.u64 (0))]), (AV.bool (false))])] [])))
  none) none) none) := by kernel_rfl
theorem k21_eq (nl : Bool) (n : Nat) (f : Nat → Nat → AV) (now : Int) (ch : Int) : k21 nl n f now ch k21_p = (cond (Nat.ble n 1000)
  (cond (Nat.blt (idx (holdsQ now ch) f n) n)
  (cond (decide ((↑(idx (holdsQ now ch) f n) : Int) < (↑n : Int)))
  (cond (Nat.blt (0 + Int.toNat (↑(idx (holdsQ now ch) f n) : Int)) n)
  (some (CS.mk [(AV.tuple [(AV.agg [(AV.int IntKind.u64 (AV.toI (f (0 + Int.toNat (↑(idx (holdsQ now ch) f n) : Int)) 0))), (AV.int IntKind.i64 (AV.toI (f (0 + Int.toNat (↑(idx (holdsQ now ch) f n) : Int)) (1)))), (AV.int IntKind.u64 (AV.toI (f (0 + Int.toNat (↑(idx (holdsQ now ch) f n) : Int)) (2)))), (AV.int IntKind.u64 (AV.toI (f (0 + Int.toNat (↑(idx (holdsQ now ch) f n) : Int)) (3))))]), (AV.bool (true))])] []))
  none)
  none)
  (some (CS.mk [(AV.tuple [(AV.agg [(AV.int IntKind.u64 (0)), (AV.int IntKind.i64 (0)), (AV.int IntKind.u64 (0)), (AV.int IntKind.u64 (0))]), (AV.bool (false))])] [])))
  none) := by
  rw [k21_is]
  try simp only [eq_self, decide_true, beq_self_eq_true, Nat.beq_refl, ble_self, Int.le_refl, Nat.le_refl]
  cases (Nat.ble n 1000) with
  | true =>
    cases (Nat.blt (idx (holdsQ now ch) f n) n) with
    | true =>
      cases (decide ((↑(idx (holdsQ now ch) f n) : Int) < (↑n : Int))) with
      | true =>
        cases (Nat.blt (0 + Int.toNat (↑(idx (holdsQ now ch) f n) : Int)) n) with
        | true =>
          rfl
        | false =>
          rfl
      | false =>
        rfl
    | false =>
      rfl
  | false =>
    rfl

noncomputable def k38 (nl : Bool) (n : Nat) (f : Nat → Nat → AV) (now : Int) (xc : Int) (xh : Int) (xe : Int) (xu : Int) (π : Plan) : Option CS := callC (EB) (1000) (38) (0) (.keep) ([]) π (a38 nl n f now xc xh xe xu)
def k38_p : Plan := (.fork (.must true (.must true (.fork (.must true (.must true (.must false (.fork (.must true (.must true (.must false (.fork (.must true (.must true (.must true (.must false (.fork .stop (.must true (.reck 1 (.must true (.fork (.fork .stop (.reck 1 (.must true (.reck 1 (.must true (.must true (.fork .stop .stop))))))) .stop))))))))) (.must false (.must false (.must false (.must true .stop)))))))) (.must false (.must false (.must true .stop))))))) (.must false (.must false (.must true .stop)))))) (.must false (.must false .stop)))
theorem k38_is (nl : Bool) (n : Nat) (f : Nat → Nat → AV) (now : Int) (xc : Int) (xh : Int) (xe : Int) (xu : Int) : k38 nl n f now xc xh xe xu k38_p = (cond (decide (xh ≥ 0) == true)
  (cond (decide (xh ≥ 0) == true) (cond (decide (xh ≥ 0)) (cond ((!decide (xh < 16)) == false)
  (cond ((!decide (xh < 16)) == false) (cond ((!decide (xh < 16)) == false) (cond (!decide (xh < 16)) none (cond ((xc == 0) == false)
  (cond ((xc == 0) == false) (cond ((xc == 0) == false) (cond (xc == 0) none (cond ((xe == 0) == false)
  (cond ((xe == 0) == false) (cond ((xe == 0) == false) (cond ((xe == 0) == false) (cond (xe == 0) none (cond (decide (xu ≤ now))
  (some (CS.mk [(AV.int IntKind.i64 (2))] []))
  (cond (decide (n = n)) (cond (decide (n = n)) (cond (Nat.ble n 1000)
  (cond (Nat.blt (idx (busyQ now { c := xc, h := xh, e := xe, u := xu }) f n) n)
  (some (CS.mk [(AV.int IntKind.i64 (53))] []))
  (cond (decide (n = n)) (cond (decide (n = n)) (cond (Nat.ble n 1000) (cond (Nat.blt (idx (newerQ { c := xc, h := xh, e := xe, u := xu }) f n) n)
  (some (CS.mk [(AV.int IntKind.i64 (52))] []))
  (some (CS.mk [(AV.int IntKind.i64 (0))] []))) none) none) none))
  none) none) none))) none) none) none)
  (cond ((xe == 0) == false) none (cond ((xe == 0) == false) none (cond ((xe == 0) == false) none (cond (xe == 0) (some (CS.mk [(AV.int IntKind.i64 (2))] [])) none)))))) none) none)
  (cond ((xc == 0) == false) none (cond ((xc == 0) == false) none (cond (xc == 0) (some (CS.mk [(AV.int IntKind.i64 (2))] [])) none))))) none) none)
  (cond ((!decide (xh < 16)) == false) none (cond ((!decide (xh < 16)) == false) none (cond (!decide (xh < 16)) (some (CS.mk [(AV.int IntKind.i64 (2))] [])) none)))) none) none)
  (cond (decide (xh ≥ 0) == true) none (cond (decide (xh ≥ 0)) none (some (CS.mk [(AV.int IntKind.i64 (2))] []))))) := by kernel_rfl
theorem k38_eq (nl : Bool) (n : Nat) (f : Nat → Nat → AV) (now : Int) (xc : Int) (xh : Int) (xe : Int) (xu : Int) : k38 nl n f now xc xh xe xu k38_p = (cond (decide (xh ≥ 0))
  (cond (decide (xh < 16))
  (cond (xc == 0)
  (some (CS.mk [(AV.int IntKind.i64 (2))] []))
  (cond (xe == 0)
  (some (CS.mk [(AV.int IntKind.i64 (2))] []))
  (cond (decide (xu ≤ now))
  (some (CS.mk [(AV.int IntKind.i64 (2))] []))
  (cond (Nat.ble n 1000)
  (cond (Nat.blt (idx (busyQ now { c := xc, h := xh, e := xe, u := xu }) f n) n)
  (some (CS.mk [(AV.int IntKind.i64 (53))] []))
  (cond (Nat.blt (idx (newerQ { c := xc, h := xh, e := xe, u := xu }) f n) n)
  (some (CS.mk [(AV.int IntKind.i64 (52))] []))
  (some (CS.mk [(AV.int IntKind.i64 (0))] []))))
  none))))
  (some (CS.mk [(AV.int IntKind.i64 (2))] [])))
  (some (CS.mk [(AV.int IntKind.i64 (2))] []))) := by
  rw [k38_is]
  try simp only [eq_self, decide_true, beq_self_eq_true, Nat.beq_refl, ble_self, Int.le_refl, Nat.le_refl]
  cases (decide (xh ≥ 0)) with
  | true =>
    cases (decide (xh < 16)) with
    | true =>
      cases (xc == 0) with
      | true =>
        rfl
      | false =>
        cases (xe == 0) with
        | true =>
          rfl
        | false =>
          cases (decide (xu ≤ now)) with
          | true =>
            rfl
          | false =>
            cases (Nat.ble n 1000) with
            | true =>
              cases (Nat.blt (idx (busyQ now { c := xc, h := xh, e := xe, u := xu }) f n) n) with
              | true =>
                rfl
              | false =>
                cases (Nat.blt (idx (newerQ { c := xc, h := xh, e := xe, u := xu }) f n) n) with
                | true =>
                  rfl
                | false =>
                  rfl
            | false =>
              rfl
    | false =>
      rfl
  | false =>
    rfl

noncomputable def s20t (now : Int) (xc : Int) (xh : Int) (xe : Int) (xu : Int) (nl : Bool) (n : Nat) (f : Nat → Nat → AV) (i : Nat) (π : Plan) : Option (Nat × CS) := stepC (EC) (300) (loopC EC 20 0) (0) (h20) ((.normal, h20) :: x20) π (c20t now xc xh xe xu nl n f i)
def s20t_p : Plan := (.fork (.reck 1 (.must true (.fork (.fork (.must true (.must true (.must true (.must false (.fork .stop (.reck 6 (.fork .stop .stop))))))) (.must false (.must false (.must false (.must true .stop))))) .stop))) .stop)
theorem s20t_is (now : Int) (xc : Int) (xh : Int) (xe : Int) (xu : Int) (nl : Bool) (n : Nat) (f : Nat → Nat → AV) (i : Nat) : s20t now xc xh xe xu nl n f i s20t_p = (cond (decide ((↑i : Int) < (↑n : Int)))
  (cond (decide ((↑i : Int) < (↑n : Int))) (cond (Nat.blt (0 + Int.toNat (↑i : Int)) n)
  (cond ((AV.toI (f (0 + Int.toNat (↑i : Int)) 0) == xc) == false)
  (cond ((AV.toI (f (0 + Int.toNat (↑i : Int)) 0) == xc) == false) (cond ((AV.toI (f (0 + Int.toNat (↑i : Int)) 0) == xc) == false) (cond ((AV.toI (f (0 + Int.toNat (↑i : Int)) 0) == xc) == false) (cond (AV.toI (f (0 + Int.toNat (↑i : Int)) 0) == xc) none (cond (decide (AV.toI (f (0 + Int.toNat (↑i : Int)) (3)) ≤ now))
  (some (0, (CS.mk [(AV.int IntKind.u64 (now)), (AV.ptr (0) (0)), (AV.osl (true) (1) (0) (0) (0) (4) (true)), (AV.bool (false)), (AV.osl (nl) (2) (0) (n) (n) (4) (true)), (AV.int IntKind.i64 ((↑n : Int))), (AV.int IntKind.i64 (IntKind.wrap IntKind.i64 ((↑i : Int) + 1)))] [some (AObj.cells [(AV.int IntKind.u64 (xc)), (AV.int IntKind.i64 (xh)), (AV.int IntKind.u64 (xe)), (AV.int IntKind.u64 (xu))] true), some (AObj.tarr [Sh.int IntKind.u64, Sh.int IntKind.i64, Sh.int IntKind.u64, Sh.int IntKind.u64] (0) (fun p_ q_ => AV.bad) true), some (AObj.tarr [Sh.int IntKind.u64, Sh.int IntKind.i64, Sh.int IntKind.u64, Sh.int IntKind.u64] (n) f false)])))
  (cond (decide (AV.toI (f (0 + Int.toNat (↑i : Int)) 0) > xc))
  (some (0, (CS.mk [(AV.int IntKind.u64 (now)), (AV.ptr (0) (0)), (AV.osl (false) (1) (0) (2) (2) (4) (true)), (AV.bool (true)), (AV.osl (nl) (2) (0) (n) (n) (4) (true)), (AV.int IntKind.i64 ((↑n : Int))), (AV.int IntKind.i64 (IntKind.wrap IntKind.i64 ((↑i : Int) + 1)))] [some (AObj.cells [(AV.int IntKind.u64 (xc)), (AV.int IntKind.i64 (xh)), (AV.int IntKind.u64 (xe)), (AV.int IntKind.u64 (xu))] true), some (AObj.tarr [Sh.int IntKind.u64, Sh.int IntKind.i64, Sh.int IntKind.u64, Sh.int IntKind.u64] (2) (rowsOf (4) [(AV.int IntKind.u64 (xc)), (AV.int IntKind.i64 (xh)), (AV.int IntKind.u64 (xe)), (AV.int IntKind.u64 (xu)), (AV.int IntKind.u64 (AV.toI (f (0 + Int.toNat (↑i : Int)) 0))), (AV.int IntKind.i64 (AV.toI (f (0 + Int.toNat (↑i : Int)) (1)))), (AV.int IntKind.u64 (AV.toI (f (0 + Int.toNat (↑i : Int)) (2)))), (AV.int IntKind.u64 (AV.toI (f (0 + Int.toNat (↑i : Int)) (3))))] (2)) true), some (AObj.tarr [Sh.int IntKind.u64, Sh.int IntKind.i64, Sh.int IntKind.u64, Sh.int IntKind.u64] (n) f false)])))
  (some (0, (CS.mk [(AV.int IntKind.u64 (now)), (AV.ptr (0) (0)), (AV.osl (false) (1) (0) (1) (1) (4) (true)), (AV.bool (false)), (AV.osl (nl) (2) (0) (n) (n) (4) (true)), (AV.int IntKind.i64 ((↑n : Int))), (AV.int IntKind.i64 (IntKind.wrap IntKind.i64 ((↑i : Int) + 1)))] [some (AObj.cells [(AV.int IntKind.u64 (xc)), (AV.int IntKind.i64 (xh)), (AV.int IntKind.u64 (xe)), (AV.int IntKind.u64 (xu))] true), some (AObj.tarr [Sh.int IntKind.u64, Sh.int IntKind.i64, Sh.int IntKind.u64, Sh.int IntKind.u64] (1) (rowsOf (4) [(AV.int IntKind.u64 (AV.toI (f (0 + Int.toNat (↑i : Int)) 0))), (AV.int IntKind.i64 (AV.toI (f (0 + Int.toNat (↑i : Int)) (1)))), (AV.int IntKind.u64 (AV.toI (f (0 + Int.toNat (↑i : Int)) (2)))), (AV.int IntKind.u64 (AV.toI (f (0 + Int.toNat (↑i : Int)) (3))))] (1)) true), some (AObj.tarr [Sh.int IntKind.u64, Sh.int IntKind.i64, Sh.int IntKind.u64, Sh.int IntKind.u64] (n) f false)])))))) none) none) none)
  (cond ((AV.toI (f (0 + Int.toNat (↑i : Int)) 0) == xc) == false) none (cond ((AV.toI (f (0 + Int.toNat (↑i : Int)) 0) == xc) == false) none (cond ((AV.toI (f (0 + Int.toNat (↑i : Int)) 0) == xc) == false) none (cond (AV.toI (f (0 + Int.toNat (↑i : Int)) 0) == xc) (some (0, (CS.mk [(AV.int IntKind.u64 (now)), (AV.ptr (0) (0)), (AV.osl (true) (1) (0) (0) (0) (4) (true)), (AV.bool (false)), (AV.osl (nl) (2) (0) (n) (n) (4) (true)), (AV.int IntKind.i64 ((↑n : Int))), (AV.int IntKind.i64 (IntKind.wrap IntKind.i64 ((↑i : Int) + 1)))] [some (AObj.cells [(AV.int IntKind.u64 (xc)), (AV.int IntKind.i64 (xh)), (AV.int IntKind.u64 (xe)), (AV.int IntKind.u64 (xu))] true), some (AObj.tarr [Sh.int IntKind.u64, Sh.int IntKind.i64, Sh.int IntKind.u64, Sh.int IntKind.u64] (0) (fun p_ q_ => AV.bad) true), some (AObj.tarr [Sh.int IntKind.u64, Sh.int IntKind.i64, Sh.int IntKind.u64, Sh.int IntKind.u64] (n) f false)]))) none)))))
  none) none)
  (some (1, (CS.mk [(AV.ptr (0) (0)), (AV.osl (true) (1) (0) (0) (0) (4) (true)), (AV.bool (false))] [some (AObj.cells [(AV.int IntKind.u64 (xc)), (AV.int IntKind.i64 (xh)), (AV.int IntKind.u64 (xe)), (AV.int IntKind.u64 (xu))] true), some (AObj.tarr [Sh.int IntKind.u64, Sh.int IntKind.i64, Sh.int IntKind.u64, Sh.int IntKind.u64] (0) (fun p_ q_ => AV.bad) true)])))) := by kernel_rfl
theorem s20t_eq (now : Int) (xc : Int) (xh : Int) (xe : Int) (xu : Int) (nl : Bool) (n : Nat) (f : Nat → Nat → AV) (i : Nat) : s20t now xc xh xe xu nl n f i s20t_p = (cond (decide ((↑i : Int) < (↑n : Int)))
  (cond (Nat.blt (0 + Int.toNat (↑i : Int)) n)
  (cond (AV.toI (f (0 + Int.toNat (↑i : Int)) 0) == xc)
  (some (0, (CS.mk [(AV.int IntKind.u64 (now)), (AV.ptr (0) (0)), (AV.osl (true) (1) (0) (0) (0) (4) (true)), (AV.bool (false)), (AV.osl (nl) (2) (0) (n) (n) (4) (true)), (AV.int IntKind.i64 ((↑n : Int))), (AV.int IntKind.i64 (IntKind.wrap IntKind.i64 ((↑i : Int) + 1)))] [some (AObj.cells [(AV.int IntKind.u64 (xc)), (AV.int IntKind.i64 (xh)), (AV.int IntKind.u64 (xe)), (AV.int IntKind.u64 (xu))] true), some (AObj.tarr [Sh.int IntKind.u64, Sh.int IntKind.i64, Sh.int IntKind.u64, Sh.int IntKind.u64] (0) (fun p_ q_ => AV.bad) true), some (AObj.tarr [Sh.int IntKind.u64, Sh.int IntKind.i64, Sh.int IntKind.u64, Sh.int IntKind.u64] (n) f false)])))
  (cond (decide (AV.toI (f (0 + Int.toNat (↑i : Int)) (3)) ≤ now))
  (some (0, (CS.mk [(AV.int IntKind.u64 (now)), (AV.ptr (0) (0)), (AV.osl (true) (1) (0) (0) (0) (4) (true)), (AV.bool (false)), (AV.osl (nl) (2) (0) (n) (n) (4) (true)), (AV.int IntKind.i64 ((↑n : Int))), (AV.int IntKind.i64 (IntKind.wrap IntKind.i64 ((↑i : Int) + 1)))] [some (AObj.cells [(AV.int IntKind.u64 (xc)), (AV.int IntKind.i64 (xh)), (AV.int IntKind.u64 (xe)), (AV.int IntKind.u64 (xu))] true), some (AObj.tarr [Sh.int IntKind.u64, Sh.int IntKind.i64, Sh.int IntKind.u64, Sh.int IntKind.u64] (0) (fun p_ q_ => AV.bad) true), some (AObj.tarr [Sh.int IntKind.u64, Sh.int IntKind.i64, Sh.int IntKind.u64, Sh.int IntKind.u64] (n) f false)])))
  (cond (decide (AV.toI (f (0 + Int.toNat (↑i : Int)) 0) > xc))
  (some (0, (CS.mk [(AV.int IntKind.u64 (now)), (AV.ptr (0) (0)), (AV.osl (false) (1) (0) (2) (2) (4) (true)), (AV.bool (true)), (AV.osl (nl) (2) (0) (n) (n) (4) (true)), (AV.int IntKind.i64 ((↑n : Int))), (AV.int IntKind.i64 (IntKind.wrap IntKind.i64 ((↑i : Int) + 1)))] [some (AObj.cells [(AV.int IntKind.u64 (xc)), (AV.int IntKind.i64 (xh)), (AV.int IntKind.u64 (xe)), (AV.int IntKind.u64 (xu))] true), some (AObj.tarr [Sh.int IntKind.u64, Sh.int IntKind.i64, Sh.int IntKind.u64, Sh.int IntKind.u64] (2) (rowsOf (4) [(AV.int IntKind.u64 (xc)), (AV.int IntKind.i64 (xh)), (AV.int IntKind.u64 (xe)), (AV.int IntKind.u64 (xu)), (AV.int IntKind.u64 (AV.toI (f (0 + Int.toNat (↑i : Int)) 0))), (AV.int IntKind.i64 (AV.toI (f (0 + Int.toNat (↑i : Int)) (1)))), (AV.int IntKind.u64 (AV.toI (f (0 + Int.toNat (↑i : Int)) (2)))), (AV.int IntKind.u64 (AV.toI (f (0 + Int.toNat (↑i : Int)) (3))))] (2)) true), some (AObj.tarr [Sh.int IntKind.u64, Sh.int IntKind.i64, Sh.int IntKind.u64, Sh.int IntKind.u64] (n) f false)])))
  (some (0, (CS.mk [(AV.int IntKind.u64 (now)), (AV.ptr (0) (0)), (AV.osl (false) (1) (0) (1) (1) (4) (true)), (AV.bool (false)), (AV.osl (nl) (2) (0) (n) (n) (4) (true)), (AV.int IntKind.i64 ((↑n : Int))), (AV.int IntKind.i64 (IntKind.wrap IntKind.i64 ((↑i : Int) + 1)))] [some (AObj.cells [(AV.int IntKind.u64 (xc)), (AV.int IntKind.i64 (xh)), (AV.int IntKind.u64 (xe)), (AV.int IntKind.u64 (xu))] true), some (AObj.tarr [Sh.int IntKind.u64, Sh.int IntKind.i64, Sh.int IntKind.u64, Sh.int IntKind.u64] (1) (rowsOf (4) [(AV.int IntKind.u64 (AV.toI (f (0 + Int.toNat (↑i : Int)) 0))), (AV.int IntKind.i64 (AV.toI (f (0 + Int.toNat (↑i : Int)) (1)))), (AV.int IntKind.u64 (AV.toI (f (0 + Int.toNat (↑i : Int)) (2)))), (AV.int IntKind.u64 (AV.toI (f (0 + Int.toNat (↑i : Int)) (3))))] (1)) true), some (AObj.tarr [Sh.int IntKind.u64, Sh.int IntKind.i64, Sh.int IntKind.u64, Sh.int IntKind.u64] (n) f false)]))))))
  none)
  (some (1, (CS.mk [(AV.ptr (0) (0)), (AV.osl (true) (1) (0) (0) (0) (4) (true)), (AV.bool (false))] [some (AObj.cells [(AV.int IntKind.u64 (xc)), (AV.int IntKind.i64 (xh)), (AV.int IntKind.u64 (xe)), (AV.int IntKind.u64 (xu))] true), some (AObj.tarr [Sh.int IntKind.u64, Sh.int IntKind.i64, Sh.int IntKind.u64, Sh.int IntKind.u64] (0) (fun p_ q_ => AV.bad) true)])))) := by
  rw [s20t_is]
  try simp only [eq_self, decide_true, beq_self_eq_true, Nat.beq_refl, ble_self, Int.le_refl, Nat.le_refl]
  cases (decide ((↑i : Int) < (↑n : Int))) with
  | true =>
    cases (Nat.blt (0 + Int.toNat (↑i : Int)) n) with
    | true =>
      cases (AV.toI (f (0 + Int.toNat (↑i : Int)) 0) == xc) with
      | true =>
        rfl
      | false =>
        cases (decide (AV.toI (f (0 + Int.toNat (↑i : Int)) (3)) ≤ now)) with
        | true =>
          rfl
        | false =>
          cases (decide (AV.toI (f (0 + Int.toNat (↑i : Int)) 0) > xc)) with
          | true =>
            rfl
          | false =>
            rfl
    | false =>
      rfl
  | false =>
    rfl

noncomputable def s20 (now : Int) (xc : Int) (xh : Int) (xe : Int) (xu : Int) (m : Nat) (g : Nat → Nat → AV) (put : Bool) (nl : Bool) (n : Nat) (f : Nat → Nat → AV) (i : Nat) (π : Plan) : Option (Nat × CS) := stepC (EC) (300) (loopC EC 20 0) (0) (h20) ((.normal, h20) :: x20) π (c20 now xc xh xe xu false m g put nl n f i)
def s20_p : Plan := (.fork (.reck 1 (.must true (.fork (.fork (.must true (.must true (.must true (.must false (.fork .stop (.fork (.must true (.must true (.must true (.must true (.must true (.fork (.reck 1 (.must false (.fork (.fork (.must false (.fork (.fork .stop .stop) .stop)) .stop) .stop))) (.reck 1 (.must false (.fork (.fork .stop .stop) .stop))))))))) (.must false (.must false (.must false (.must false (.must false (.reck 2 (.must false (.fork (.fork .stop .stop) .stop)))))))))))))) (.must false (.must false (.must false (.must true .stop))))) .stop))) .stop)
theorem s20_is (now : Int) (xc : Int) (xh : Int) (xe : Int) (xu : Int) (m : Nat) (g : Nat → Nat → AV) (put : Bool) (nl : Bool) (n : Nat) (f : Nat → Nat → AV) (i : Nat) : s20 now xc xh xe xu m g put nl n f i s20_p = (cond (decide ((↑i : Int) < (↑n : Int)))
  (cond (decide ((↑i : Int) < (↑n : Int))) (cond (Nat.blt (0 + Int.toNat (↑i : Int)) n)
  (cond ((AV.toI (f (0 + Int.toNat (↑i : Int)) 0) == xc) == false)
  (cond ((AV.toI (f (0 + Int.toNat (↑i : Int)) 0) == xc) == false) (cond ((AV.toI (f (0 + Int.toNat (↑i : Int)) 0) == xc) == false) (cond ((AV.toI (f (0 + Int.toNat (↑i : Int)) 0) == xc) == false) (cond (AV.toI (f (0 + Int.toNat (↑i : Int)) 0) == xc) none (cond (decide (AV.toI (f (0 + Int.toNat (↑i : Int)) (3)) ≤ now))
  (some (0, (CS.mk [(AV.int IntKind.u64 (now)), (AV.ptr (0) (0)), (AV.osl (false) (1) (0) (m) (m) (4) (true)), (AV.bool (put)), (AV.osl (nl) (2) (0) (n) (n) (4) (true)), (AV.int IntKind.i64 ((↑n : Int))), (AV.int IntKind.i64 (IntKind.wrap IntKind.i64 ((↑i : Int) + 1)))] [some (AObj.cells [(AV.int IntKind.u64 (xc)), (AV.int IntKind.i64 (xh)), (AV.int IntKind.u64 (xe)), (AV.int IntKind.u64 (xu))] true), some (AObj.tarr [Sh.int IntKind.u64, Sh.int IntKind.i64, Sh.int IntKind.u64, Sh.int IntKind.u64] (m) g true), some (AObj.tarr [Sh.int IntKind.u64, Sh.int IntKind.i64, Sh.int IntKind.u64, Sh.int IntKind.u64] (n) f false)])))
  (cond ((!put) == true)
  (cond ((!put) == true) (cond ((!put) == true) (cond ((!put) == true) (cond ((!put) == true) (cond (!put) (cond (decide (AV.toI (f (0 + Int.toNat (↑i : Int)) 0) > xc))
  (cond (Nat.ble ((m) + (1)) (m)) none (cond (growB (32) (m + 1))
  (cond (Nat.ble (0 + m) m)
  (cond (Nat.ble ((m + 1) + (1)) (m + 1)) none (cond (growB (32) (m + 1 + 1))
  (cond (Nat.ble (0 + (m + 1)) (m + 1))
  (some (0, (CS.mk [(AV.int IntKind.u64 (now)), (AV.ptr (0) (0)), (AV.osl (false) (1) (0) (m + 1 + 1) (m + 1 + 1) (4) (true)), (AV.bool (true)), (AV.osl (nl) (2) (0) (n) (n) (4) (true)), (AV.int IntKind.i64 ((↑n : Int))), (AV.int IntKind.i64 (IntKind.wrap IntKind.i64 ((↑i : Int) + 1)))] [some (AObj.cells [(AV.int IntKind.u64 (xc)), (AV.int IntKind.i64 (xh)), (AV.int IntKind.u64 (xe)), (AV.int IntKind.u64 (xu))] true), some (AObj.tarr [Sh.int IntKind.u64, Sh.int IntKind.i64, Sh.int IntKind.u64, Sh.int IntKind.u64] (m + 1 + 1) (fjoin (fun p_ q_ => (fjoin (fun p_ q_ => g (0 + p_) q_) (m) (rowsOf (4) [(AV.int IntKind.u64 (xc)), (AV.int IntKind.i64 (xh)), (AV.int IntKind.u64 (xe)), (AV.int IntKind.u64 (xu))] (1))) (0 + p_) q_) (m + 1) (rowsOf (4) [(AV.int IntKind.u64 (AV.toI (f (0 + Int.toNat (↑i : Int)) 0))), (AV.int IntKind.i64 (AV.toI (f (0 + Int.toNat (↑i : Int)) (1)))), (AV.int IntKind.u64 (AV.toI (f (0 + Int.toNat (↑i : Int)) (2)))), (AV.int IntKind.u64 (AV.toI (f (0 + Int.toNat (↑i : Int)) (3))))] (1))) true), some (AObj.tarr [Sh.int IntKind.u64, Sh.int IntKind.i64, Sh.int IntKind.u64, Sh.int IntKind.u64] (n) f false)])))
  none)
  none))
  none)
  none))
  (cond (Nat.ble ((m) + (1)) (m)) none (cond (growB (32) (m + 1))
  (cond (Nat.ble (0 + m) m)
  (some (0, (CS.mk [(AV.int IntKind.u64 (now)), (AV.ptr (0) (0)), (AV.osl (false) (1) (0) (m + 1) (m + 1) (4) (true)), (AV.bool (put)), (AV.osl (nl) (2) (0) (n) (n) (4) (true)), (AV.int IntKind.i64 ((↑n : Int))), (AV.int IntKind.i64 (IntKind.wrap IntKind.i64 ((↑i : Int) + 1)))] [some (AObj.cells [(AV.int IntKind.u64 (xc)), (AV.int IntKind.i64 (xh)), (AV.int IntKind.u64 (xe)), (AV.int IntKind.u64 (xu))] true), some (AObj.tarr [Sh.int IntKind.u64, Sh.int IntKind.i64, Sh.int IntKind.u64, Sh.int IntKind.u64] (m + 1) (fjoin (fun p_ q_ => g (0 + p_) q_) (m) (rowsOf (4) [(AV.int IntKind.u64 (AV.toI (f (0 + Int.toNat (↑i : Int)) 0))), (AV.int IntKind.i64 (AV.toI (f (0 + Int.toNat (↑i : Int)) (1)))), (AV.int IntKind.u64 (AV.toI (f (0 + Int.toNat (↑i : Int)) (2)))), (AV.int IntKind.u64 (AV.toI (f (0 + Int.toNat (↑i : Int)) (3))))] (1))) true), some (AObj.tarr [Sh.int IntKind.u64, Sh.int IntKind.i64, Sh.int IntKind.u64, Sh.int IntKind.u64] (n) f false)])))
  none)
  none))) none) none) none) none) none)
  (cond ((!put) == true) none (cond ((!put) == true) none (cond ((!put) == true) none (cond ((!put) == true) none (cond (!put) none (cond (Nat.ble ((m) + (1)) (m)) none (cond (growB (32) (m + 1))
  (cond (Nat.ble (0 + m) m)
  (some (0, (CS.mk [(AV.int IntKind.u64 (now)), (AV.ptr (0) (0)), (AV.osl (false) (1) (0) (m + 1) (m + 1) (4) (true)), (AV.bool (put)), (AV.osl (nl) (2) (0) (n) (n) (4) (true)), (AV.int IntKind.i64 ((↑n : Int))), (AV.int IntKind.i64 (IntKind.wrap IntKind.i64 ((↑i : Int) + 1)))] [some (AObj.cells [(AV.int IntKind.u64 (xc)), (AV.int IntKind.i64 (xh)), (AV.int IntKind.u64 (xe)), (AV.int IntKind.u64 (xu))] true), some (AObj.tarr [Sh.int IntKind.u64, Sh.int IntKind.i64, Sh.int IntKind.u64, Sh.int IntKind.u64] (m + 1) (fjoin (fun p_ q_ => g (0 + p_) q_) (m) (rowsOf (4) [(AV.int IntKind.u64 (AV.toI (f (0 + Int.toNat (↑i : Int)) 0))), (AV.int IntKind.i64 (AV.toI (f (0 + Int.toNat (↑i : Int)) (1)))), (AV.int IntKind.u64 (AV.toI (f (0 + Int.toNat (↑i : Int)) (2)))), (AV.int IntKind.u64 (AV.toI (f (0 + Int.toNat (↑i : Int)) (3))))] (1))) true), some (AObj.tarr [Sh.int IntKind.u64, Sh.int IntKind.i64, Sh.int IntKind.u64, Sh.int IntKind.u64] (n) f false)])))
  none)
  none)))))))))) none) none) none)
  (cond ((AV.toI (f (0 + Int.toNat (↑i : Int)) 0) == xc) == false) none (cond ((AV.toI (f (0 + Int.toNat (↑i : Int)) 0) == xc) == false) none (cond ((AV.toI (f (0 + Int.toNat (↑i : Int)) 0) == xc) == false) none (cond (AV.toI (f (0 + Int.toNat (↑i : Int)) 0) == xc) (some (0, (CS.mk [(AV.int IntKind.u64 (now)), (AV.ptr (0) (0)), (AV.osl (false) (1) (0) (m) (m) (4) (true)), (AV.bool (put)), (AV.osl (nl) (2) (0) (n) (n) (4) (true)), (AV.int IntKind.i64 ((↑n : Int))), (AV.int IntKind.i64 (IntKind.wrap IntKind.i64 ((↑i : Int) + 1)))] [some (AObj.cells [(AV.int IntKind.u64 (xc)), (AV.int IntKind.i64 (xh)), (AV.int IntKind.u64 (xe)), (AV.int IntKind.u64 (xu))] true), some (AObj.tarr [Sh.int IntKind.u64, Sh.int IntKind.i64, Sh.int IntKind.u64, Sh.int IntKind.u64] (m) g true), some (AObj.tarr [Sh.int IntKind.u64, Sh.int IntKind.i64, Sh.int IntKind.u64, Sh.int IntKind.u64] (n) f false)]))) none)))))
  none) none)
  (some (1, (CS.mk [(AV.ptr (0) (0)), (AV.osl (false) (1) (0) (m) (m) (4) (true)), (AV.bool (put))] [some (AObj.cells [(AV.int IntKind.u64 (xc)), (AV.int IntKind.i64 (xh)), (AV.int IntKind.u64 (xe)), (AV.int IntKind.u64 (xu))] true), some (AObj.tarr [Sh.int IntKind.u64, Sh.int IntKind.i64, Sh.int IntKind.u64, Sh.int IntKind.u64] (m) g true)])))) := by kernel_rfl
theorem s20_eq (now : Int) (xc : Int) (xh : Int) (xe : Int) (xu : Int) (m : Nat) (g : Nat → Nat → AV) (put : Bool) (nl : Bool) (n : Nat) (f : Nat → Nat → AV) (i : Nat) : s20 now xc xh xe xu m g put nl n f i s20_p = (cond (decide ((↑i : Int) < (↑n : Int)))
  (cond (Nat.blt (0 + Int.toNat (↑i : Int)) n)
  (cond (AV.toI (f (0 + Int.toNat (↑i : Int)) 0) == xc)
  (some (0, (CS.mk [(AV.int IntKind.u64 (now)), (AV.ptr (0) (0)), (AV.osl (false) (1) (0) (m) (m) (4) (true)), (AV.bool (put)), (AV.osl (nl) (2) (0) (n) (n) (4) (true)), (AV.int IntKind.i64 ((↑n : Int))), (AV.int IntKind.i64 (IntKind.wrap IntKind.i64 ((↑i : Int) + 1)))] [some (AObj.cells [(AV.int IntKind.u64 (xc)), (AV.int IntKind.i64 (xh)), (AV.int IntKind.u64 (xe)), (AV.int IntKind.u64 (xu))] true), some (AObj.tarr [Sh.int IntKind.u64, Sh.int IntKind.i64, Sh.int IntKind.u64, Sh.int IntKind.u64] (m) g true), some (AObj.tarr [Sh.int IntKind.u64, Sh.int IntKind.i64, Sh.int IntKind.u64, Sh.int IntKind.u64] (n) f false)])))
  (cond (decide (AV.toI (f (0 + Int.toNat (↑i : Int)) (3)) ≤ now))
  (some (0, (CS.mk [(AV.int IntKind.u64 (now)), (AV.ptr (0) (0)), (AV.osl (false) (1) (0) (m) (m) (4) (true)), (AV.bool (put)), (AV.osl (nl) (2) (0) (n) (n) (4) (true)), (AV.int IntKind.i64 ((↑n : Int))), (AV.int IntKind.i64 (IntKind.wrap IntKind.i64 ((↑i : Int) + 1)))] [some (AObj.cells [(AV.int IntKind.u64 (xc)), (AV.int IntKind.i64 (xh)), (AV.int IntKind.u64 (xe)), (AV.int IntKind.u64 (xu))] true), some (AObj.tarr [Sh.int IntKind.u64, Sh.int IntKind.i64, Sh.int IntKind.u64, Sh.int IntKind.u64] (m) g true), some (AObj.tarr [Sh.int IntKind.u64, Sh.int IntKind.i64, Sh.int IntKind.u64, Sh.int IntKind.u64] (n) f false)])))
  (cond (put)
  (cond (Nat.ble ((m) + (1)) (m)) none (cond (growB (32) (m + 1))
  (cond (Nat.ble (0 + m) m)
  (some (0, (CS.mk [(AV.int IntKind.u64 (now)), (AV.ptr (0) (0)), (AV.osl (false) (1) (0) (m + 1) (m + 1) (4) (true)), (AV.bool (put)), (AV.osl (nl) (2) (0) (n) (n) (4) (true)), (AV.int IntKind.i64 ((↑n : Int))), (AV.int IntKind.i64 (IntKind.wrap IntKind.i64 ((↑i : Int) + 1)))] [some (AObj.cells [(AV.int IntKind.u64 (xc)), (AV.int IntKind.i64 (xh)), (AV.int IntKind.u64 (xe)), (AV.int IntKind.u64 (xu))] true), some (AObj.tarr [Sh.int IntKind.u64, Sh.int IntKind.i64, Sh.int IntKind.u64, Sh.int IntKind.u64] (m + 1) (fjoin (fun p_ q_ => g (0 + p_) q_) (m) (rowsOf (4) [(AV.int IntKind.u64 (AV.toI (f (0 + Int.toNat (↑i : Int)) 0))), (AV.int IntKind.i64 (AV.toI (f (0 + Int.toNat (↑i : Int)) (1)))), (AV.int IntKind.u64 (AV.toI (f (0 + Int.toNat (↑i : Int)) (2)))), (AV.int IntKind.u64 (AV.toI (f (0 + Int.toNat (↑i : Int)) (3))))] (1))) true), some (AObj.tarr [Sh.int IntKind.u64, Sh.int IntKind.i64, Sh.int IntKind.u64, Sh.int IntKind.u64] (n) f false)])))
  none)
  none))
  (cond (decide (AV.toI (f (0 + Int.toNat (↑i : Int)) 0) > xc))
  (cond (Nat.ble ((m) + (1)) (m)) none (cond (growB (32) (m + 1))
  (cond (Nat.ble (0 + m) m)
  (cond (Nat.ble ((m + 1) + (1)) (m + 1)) none (cond (growB (32) (m + 1 + 1))
  (cond (Nat.ble (0 + (m + 1)) (m + 1))
  (some (0, (CS.mk [(AV.int IntKind.u64 (now)), (AV.ptr (0) (0)), (AV.osl (false) (1) (0) (m + 1 + 1) (m + 1 + 1) (4) (true)), (AV.bool (true)), (AV.osl (nl) (2) (0) (n) (n) (4) (true)), (AV.int IntKind.i64 ((↑n : Int))), (AV.int IntKind.i64 (IntKind.wrap IntKind.i64 ((↑i : Int) + 1)))] [some (AObj.cells [(AV.int IntKind.u64 (xc)), (AV.int IntKind.i64 (xh)), (AV.int IntKind.u64 (xe)), (AV.int IntKind.u64 (xu))] true), some (AObj.tarr [Sh.int IntKind.u64, Sh.int IntKind.i64, Sh.int IntKind.u64, Sh.int IntKind.u64] (m + 1 + 1) (fjoin (fun p_ q_ => (fjoin (fun p_ q_ => g (0 + p_) q_) (m) (rowsOf (4) [(AV.int IntKind.u64 (xc)), (AV.int IntKind.i64 (xh)), (AV.int IntKind.u64 (xe)), (AV.int IntKind.u64 (xu))] (1))) (0 + p_) q_) (m + 1) (rowsOf (4) [(AV.int IntKind.u64 (AV.toI (f (0 + Int.toNat (↑i : Int)) 0))), (AV.int IntKind.i64 (AV.toI (f (0 + Int.toNat (↑i : Int)) (1)))), (AV.int IntKind.u64 (AV.toI (f (0 + Int.toNat (↑i : Int)) (2)))), (AV.int IntKind.u64 (AV.toI (f (0 + Int.toNat (↑i : Int)) (3))))] (1))) true), some (AObj.tarr [Sh.int IntKind.u64, Sh.int IntKind.i64, Sh.int IntKind.u64, Sh.int IntKind.u64] (n) f false)])))
  none)
  none))
  none)
  none))
  (cond (Nat.ble ((m) + (1)) (m)) none (cond (growB (32) (m + 1))
  (cond (Nat.ble (0 + m) m)
  (some (0, (CS.mk [(AV.int IntKind.u64 (now)), (AV.ptr (0) (0)), (AV.osl (false) (1) (0) (m + 1) (m + 1) (4) (true)), (AV.bool (put)), (AV.osl (nl) (2) (0) (n) (n) (4) (true)), (AV.int IntKind.i64 ((↑n : Int))), (AV.int IntKind.i64 (IntKind.wrap IntKind.i64 ((↑i : Int) + 1)))] [some (AObj.cells [(AV.int IntKind.u64 (xc)), (AV.int IntKind.i64 (xh)), (AV.int IntKind.u64 (xe)), (AV.int IntKind.u64 (xu))] true), some (AObj.tarr [Sh.int IntKind.u64, Sh.int IntKind.i64, Sh.int IntKind.u64, Sh.int IntKind.u64] (m + 1) (fjoin (fun p_ q_ => g (0 + p_) q_) (m) (rowsOf (4) [(AV.int IntKind.u64 (AV.toI (f (0 + Int.toNat (↑i : Int)) 0))), (AV.int IntKind.i64 (AV.toI (f (0 + Int.toNat (↑i : Int)) (1)))), (AV.int IntKind.u64 (AV.toI (f (0 + Int.toNat (↑i : Int)) (2)))), (AV.int IntKind.u64 (AV.toI (f (0 + Int.toNat (↑i : Int)) (3))))] (1))) true), some (AObj.tarr [Sh.int IntKind.u64, Sh.int IntKind.i64, Sh.int IntKind.u64, Sh.int IntKind.u64] (n) f false)])))
  none)
  none))))))
  none)
  (some (1, (CS.mk [(AV.ptr (0) (0)), (AV.osl (false) (1) (0) (m) (m) (4) (true)), (AV.bool (put))] [some (AObj.cells [(AV.int IntKind.u64 (xc)), (AV.int IntKind.i64 (xh)), (AV.int IntKind.u64 (xe)), (AV.int IntKind.u64 (xu))] true), some (AObj.tarr [Sh.int IntKind.u64, Sh.int IntKind.i64, Sh.int IntKind.u64, Sh.int IntKind.u64] (m) g true)])))) := by
  rw [s20_is]
  try simp only [eq_self, decide_true, beq_self_eq_true, Nat.beq_refl, ble_self, Int.le_refl, Nat.le_refl]
  cases (decide ((↑i : Int) < (↑n : Int))) with
  | true =>
    cases (Nat.blt (0 + Int.toNat (↑i : Int)) n) with
    | true =>
      cases (AV.toI (f (0 + Int.toNat (↑i : Int)) 0) == xc) with
      | true =>
        rfl
      | false =>
        cases (decide (AV.toI (f (0 + Int.toNat (↑i : Int)) (3)) ≤ now)) with
        | true =>
          rfl
        | false =>
          cases (put) with
          | true =>
            cases (growB (32) (m + 1)) with
            | true =>
              cases (Nat.ble (0 + m) m) with
              | true =>
                rfl
              | false =>
                rfl
            | false =>
              rfl
          | false =>
            cases (decide (AV.toI (f (0 + Int.toNat (↑i : Int)) 0) > xc)) with
            | true =>
              cases (growB (32) (m + 1)) with
              | true =>
                cases (Nat.ble (0 + m) m) with
                | true =>
                  cases (growB (32) (m + 1 + 1)) with
                  | true =>
                    cases (Nat.ble (0 + (m + 1)) (m + 1)) with
                    | true =>
                      rfl
                    | false =>
                      rfl
                  | false =>
                    rfl
                | false =>
                  rfl
              | false =>
                rfl
            | false =>
              cases (growB (32) (m + 1)) with
              | true =>
                cases (Nat.ble (0 + m) m) with
                | true =>
                  rfl
                | false =>
                  rfl
              | false =>
                rfl
    | false =>
      rfl
  | false =>
    rfl

noncomputable def k20 (nl : Bool) (n : Nat) (f : Nat → Nat → AV) (now : Int) (xc : Int) (xh : Int) (xe : Int) (xu : Int) (π : Plan) : Option CS := callC (ED) (1000) (20) (0) (.agg [.asl shL, .keep]) ([]) π (a20 nl n f now xc xh xe xu)
def k20_p : Plan := (.must true (.reck 1 (.must true (.fork (.fork .stop (.fork .stop (.fork .stop (.reck 5 (.must true (.must true (.reck 4 (.must true (.must true (.fork .stop (.reck 1 (.fork (.must false (.fork (.fork .stop .stop) .stop)) .stop)))))))))))) .stop))))
theorem k20_is (nl : Bool) (n : Nat) (f : Nat → Nat → AV) (now : Int) (xc : Int) (xh : Int) (xe : Int) (xu : Int) : k20 nl n f now xc xh xe xu k20_p = (cond (decide (n = n)) (cond (decide (n = n)) (cond (Nat.ble n 1000)
  (cond (argV now { c := xc, h := xh, e := xe, u := xu })
  (some (CS.mk [(AV.tuple [(AV.osl (nl) (0) (0) (n) (n) (4) (true)), (AV.int IntKind.i64 (2))])] [some (AObj.tarr [Sh.int IntKind.u64, Sh.int IntKind.i64, Sh.int IntKind.u64, Sh.int IntKind.u64] (n) f false)]))
  (cond (Nat.blt (idx (busyQ now { c := xc, h := xh, e := xe, u := xu }) f n) n)
  (some (CS.mk [(AV.tuple [(AV.osl (nl) (0) (0) (n) (n) (4) (true)), (AV.int IntKind.i64 (53))])] [some (AObj.tarr [Sh.int IntKind.u64, Sh.int IntKind.i64, Sh.int IntKind.u64, Sh.int IntKind.u64] (n) f false)]))
  (cond (Nat.blt (idx (newerQ { c := xc, h := xh, e := xe, u := xu }) f n) n)
  (some (CS.mk [(AV.tuple [(AV.osl (nl) (0) (0) (n) (n) (4) (true)), (AV.int IntKind.i64 (52))])] [some (AObj.tarr [Sh.int IntKind.u64, Sh.int IntKind.i64, Sh.int IntKind.u64, Sh.int IntKind.u64] (n) f false)]))
  (cond (decide (n = n)) (cond (decide ((↑n : Int) = (↑n : Int))) (cond (decide (n = n)) (cond (Nat.ble n 1000) (cond (Nat.beq (List.length (Prod.fst (gV now { c := xc, h := xh, e := xe, u := xu } f n))) 0)
  (some (CS.mk [(AV.tuple [(AV.osl (false) (0) (0) (1) (1) (4) (true)), (AV.int IntKind.i64 (0))])] [some (AObj.tarr [Sh.int IntKind.u64, Sh.int IntKind.i64, Sh.int IntKind.u64, Sh.int IntKind.u64] (1) (rowsOf (4) [(AV.int IntKind.u64 (xc)), (AV.int IntKind.i64 (xh)), (AV.int IntKind.u64 (xe)), (AV.int IntKind.u64 (xu))] (1)) true)]))
  (cond (!Prod.snd (gV now { c := xc, h := xh, e := xe, u := xu } f n))
  (cond (Nat.ble ((List.length (Prod.fst (gV now { c := xc, h := xh, e := xe, u := xu } f n))) + (1)) (List.length (Prod.fst (gV now { c := xc, h := xh, e := xe, u := xu } f n)))) none (cond (growB (32) (List.length (Prod.fst (gV now { c := xc, h := xh, e := xe, u := xu } f n)) + 1))
  (cond (Nat.ble (0 + List.length (Prod.fst (gV now { c := xc, h := xh, e := xe, u := xu } f n))) (List.length (Prod.fst (gV now { c := xc, h := xh, e := xe, u := xu } f n))))
  (some (CS.mk [(AV.tuple [(AV.osl (false) (0) (0) (List.length (Prod.fst (gV now { c := xc, h := xh, e := xe, u := xu } f n)) + 1) (List.length (Prod.fst (gV now { c := xc, h := xh, e := xe, u := xu } f n)) + 1) (4) (true)), (AV.int IntKind.i64 (0))])] [some (AObj.tarr [Sh.int IntKind.u64, Sh.int IntKind.i64, Sh.int IntKind.u64, Sh.int IntKind.u64] (List.length (Prod.fst (gV now { c := xc, h := xh, e := xe, u := xu } f n)) + 1) (fjoin (fun p_ q_ => (finL (Prod.fst (gV now { c := xc, h := xh, e := xe, u := xu } f n))) (0 + p_) q_) (List.length (Prod.fst (gV now { c := xc, h := xh, e := xe, u := xu } f n))) (rowsOf (4) [(AV.int IntKind.u64 (xc)), (AV.int IntKind.i64 (xh)), (AV.int IntKind.u64 (xe)), (AV.int IntKind.u64 (xu))] (1))) true)]))
  none)
  none))
  (some (CS.mk [(AV.tuple [(AV.osl (false) (0) (0) (List.length (Prod.fst (gV now { c := xc, h := xh, e := xe, u := xu } f n))) (List.length (Prod.fst (gV now { c := xc, h := xh, e := xe, u := xu } f n))) (4) (true)), (AV.int IntKind.i64 (0))])] [some (AObj.tarr [Sh.int IntKind.u64, Sh.int IntKind.i64, Sh.int IntKind.u64, Sh.int IntKind.u64] (List.length (Prod.fst (gV now { c := xc, h := xh, e := xe, u := xu } f n))) (finL (Prod.fst (gV now { c := xc, h := xh, e := xe, u := xu } f n))) true)])))) none) none) none) none))))
  none) none) none) := by kernel_rfl
theorem k20_eq (nl : Bool) (n : Nat) (f : Nat → Nat → AV) (now : Int) (xc : Int) (xh : Int) (xe : Int) (xu : Int) : k20 nl n f now xc xh xe xu k20_p = (cond (Nat.ble n 1000)
  (cond (argV now { c := xc, h := xh, e := xe, u := xu })
  (some (CS.mk [(AV.tuple [(AV.osl (nl) (0) (0) (n) (n) (4) (true)), (AV.int IntKind.i64 (2))])] [some (AObj.tarr [Sh.int IntKind.u64, Sh.int IntKind.i64, Sh.int IntKind.u64, Sh.int IntKind.u64] (n) f false)]))
  (cond (Nat.blt (idx (busyQ now { c := xc, h := xh, e := xe, u := xu }) f n) n)
  (some (CS.mk [(AV.tuple [(AV.osl (nl) (0) (0) (n) (n) (4) (true)), (AV.int IntKind.i64 (53))])] [some (AObj.tarr [Sh.int IntKind.u64, Sh.int IntKind.i64, Sh.int IntKind.u64, Sh.int IntKind.u64] (n) f false)]))
  (cond (Nat.blt (idx (newerQ { c := xc, h := xh, e := xe, u := xu }) f n) n)
  (some (CS.mk [(AV.tuple [(AV.osl (nl) (0) (0) (n) (n) (4) (true)), (AV.int IntKind.i64 (52))])] [some (AObj.tarr [Sh.int IntKind.u64, Sh.int IntKind.i64, Sh.int IntKind.u64, Sh.int IntKind.u64] (n) f false)]))
  (cond (Nat.beq (List.length (Prod.fst (gV now { c := xc, h := xh, e := xe, u := xu } f n))) 0)
  (some (CS.mk [(AV.tuple [(AV.osl (false) (0) (0) (1) (1) (4) (true)), (AV.int IntKind.i64 (0))])] [some (AObj.tarr [Sh.int IntKind.u64, Sh.int IntKind.i64, Sh.int IntKind.u64, Sh.int IntKind.u64] (1) (rowsOf (4) [(AV.int IntKind.u64 (xc)), (AV.int IntKind.i64 (xh)), (AV.int IntKind.u64 (xe)), (AV.int IntKind.u64 (xu))] (1)) true)]))
  (cond (Prod.snd (gV now { c := xc, h := xh, e := xe, u := xu } f n))
  (some (CS.mk [(AV.tuple [(AV.osl (false) (0) (0) (List.length (Prod.fst (gV now { c := xc, h := xh, e := xe, u := xu } f n))) (List.length (Prod.fst (gV now { c := xc, h := xh, e := xe, u := xu } f n))) (4) (true)), (AV.int IntKind.i64 (0))])] [some (AObj.tarr [Sh.int IntKind.u64, Sh.int IntKind.i64, Sh.int IntKind.u64, Sh.int IntKind.u64] (List.length (Prod.fst (gV now { c := xc, h := xh, e := xe, u := xu } f n))) (finL (Prod.fst (gV now { c := xc, h := xh, e := xe, u := xu } f n))) true)]))
  (cond (Nat.ble ((List.length (Prod.fst (gV now { c := xc, h := xh, e := xe, u := xu } f n))) + (1)) (List.length (Prod.fst (gV now { c := xc, h := xh, e := xe, u := xu } f n)))) none (cond (growB (32) (List.length (Prod.fst (gV now { c := xc, h := xh, e := xe, u := xu } f n)) + 1))
  (cond (Nat.ble (0 + List.length (Prod.fst (gV now { c := xc, h := xh, e := xe, u := xu } f n))) (List.length (Prod.fst (gV now { c := xc, h := xh, e := xe, u := xu } f n))))
  (some (CS.mk [(AV.tuple [(AV.osl (false) (0) (0) (List.length (Prod.fst (gV now { c := xc, h := xh, e := xe, u := xu } f n)) + 1) (List.length (Prod.fst (gV now { c := xc, h := xh, e := xe, u := xu } f n)) + 1) (4) (true)), (AV.int IntKind.i64 (0))])] [some (AObj.tarr [Sh.int IntKind.u64, Sh.int IntKind.i64, Sh.int IntKind.u64, Sh.int IntKind.u64] (List.length (Prod.fst (gV now { c := xc, h := xh, e := xe, u := xu } f n)) + 1) (fjoin (fun p_ q_ => (finL (Prod.fst (gV now { c := xc, h := xh, e := xe, u := xu } f n))) (0 + p_) q_) (List.length (Prod.fst (gV now { c := xc, h := xh, e := xe, u := xu } f n))) (rowsOf (4) [(AV.int IntKind.u64 (xc)), (AV.int IntKind.i64 (xh)), (AV.int IntKind.u64 (xe)), (AV.int IntKind.u64 (xu))] (1))) true)]))
  none)
  none)))))))
  none) := by
  rw [k20_is]
  try simp only [eq_self, decide_true, beq_self_eq_true, Nat.beq_refl, ble_self, Int.le_refl, Nat.le_refl]
  cases (Nat.ble n 1000) with
  | true =>
    cases (argV now { c := xc, h := xh, e := xe, u := xu }) with
    | true =>
      rfl
    | false =>
      cases (Nat.blt (idx (busyQ now { c := xc, h := xh, e := xe, u := xu }) f n) n) with
      | true =>
        rfl
      | false =>
        cases (Nat.blt (idx (newerQ { c := xc, h := xh, e := xe, u := xu }) f n) n) with
        | true =>
          rfl
        | false =>
          cases (Nat.beq (List.length (Prod.fst (gV now { c := xc, h := xh, e := xe, u := xu } f n))) 0) with
          | true =>
            rfl
          | false =>
            cases (Prod.snd (gV now { c := xc, h := xh, e := xe, u := xu } f n)) with
            | true =>
              rfl
            | false =>
              cases (growB (32) (List.length (Prod.fst (gV now { c := xc, h := xh, e := xe, u := xu } f n)) + 1)) with
              | true =>
                cases (Nat.ble (0 + List.length (Prod.fst (gV now { c := xc, h := xh, e := xe, u := xu } f n))) (List.length (Prod.fst (gV now { c := xc, h := xh, e := xe, u := xu } f n)))) with
                | true =>
                  rfl
                | false =>
                  rfl
              | false =>
                rfl
  | false =>
    rfl

noncomputable def s42n (g : Nat → Nat → AV) (g2 : Nat → Nat → AV) (now : Int) (a : Int) (xc : Int) (xh : Int) (xe : Int) (xu : Int) (m : Nat) (q : Nat → Nat → AV) (nl : Bool) (n : Nat) (f : Nat → Nat → AV) (j : Nat) (π : Plan) : Option (Nat × CS) := stepC (EF) (300) (loopC EF 4 2) (0) (h42) ((.normal, h42) :: x42) π (c42n g g2 now a xc xh xe xu m q nl n f j)
def s42n_p : Plan := .stop
theorem s42n_is (g : Nat → Nat → AV) (g2 : Nat → Nat → AV) (now : Int) (a : Int) (xc : Int) (xh : Int) (xe : Int) (xu : Int) (m : Nat) (q : Nat → Nat → AV) (nl : Bool) (n : Nat) (f : Nat → Nat → AV) (j : Nat) : s42n g g2 now a xc xh xe xu m q nl n f j s42n_p = (some (1, (CS.mk [(AV.osl (true) (0) (0) (0) (0) (4) (true)), (AV.int IntKind.u64 (now)), (AV.ptr (1) (0)), (AV.osl (false) (2) (0) (m) (m) (4) (true)), (AV.osl (nl) (3) (0) (n) (n) (5) (true)), (AV.int IntKind.i64 ((↑n : Int))), (AV.int IntKind.i64 ((↑j : Int)))] [some (AObj.tarr [Sh.int IntKind.u64, Sh.int IntKind.i64, Sh.int IntKind.u64, Sh.int IntKind.u64] (0) g true), some (AObj.cells [(AV.int IntKind.u64 (a)), (AV.int IntKind.u64 (xc)), (AV.int IntKind.i64 (xh)), (AV.int IntKind.u64 (xe)), (AV.int IntKind.u64 (xu))] true), some (AObj.tarr [Sh.int IntKind.u64, Sh.int IntKind.i64, Sh.int IntKind.u64, Sh.int IntKind.u64] (m) q true), some (AObj.tarr [Sh.int IntKind.u64, Sh.int IntKind.u64, Sh.int IntKind.i64, Sh.int IntKind.u64, Sh.int IntKind.u64] (n) f false)]))) := by kernel_rfl
theorem s42n_eq (g : Nat → Nat → AV) (g2 : Nat → Nat → AV) (now : Int) (a : Int) (xc : Int) (xh : Int) (xe : Int) (xu : Int) (m : Nat) (q : Nat → Nat → AV) (nl : Bool) (n : Nat) (f : Nat → Nat → AV) (j : Nat) : s42n g g2 now a xc xh xe xu m q nl n f j s42n_p = (some (1, (CS.mk [(AV.osl (true) (0) (0) (0) (0) (4) (true)), (AV.int IntKind.u64 (now)), (AV.ptr (1) (0)), (AV.osl (false) (2) (0) (m) (m) (4) (true)), (AV.osl (nl) (3) (0) (n) (n) (5) (true)), (AV.int IntKind.i64 ((↑n : Int))), (AV.int IntKind.i64 ((↑j : Int)))] [some (AObj.tarr [Sh.int IntKind.u64, Sh.int IntKind.i64, Sh.int IntKind.u64, Sh.int IntKind.u64] (0) g true), some (AObj.cells [(AV.int IntKind.u64 (a)), (AV.int IntKind.u64 (xc)), (AV.int IntKind.i64 (xh)), (AV.int IntKind.u64 (xe)), (AV.int IntKind.u64 (xu))] true), some (AObj.tarr [Sh.int IntKind.u64, Sh.int IntKind.i64, Sh.int IntKind.u64, Sh.int IntKind.u64] (m) q true), some (AObj.tarr [Sh.int IntKind.u64, Sh.int IntKind.u64, Sh.int IntKind.i64, Sh.int IntKind.u64, Sh.int IntKind.u64] (n) f false)]))) := by
  rw [s42n_is]

noncomputable def s42 (gl : Bool) (k : Nat) (g : Nat → Nat → AV) (now : Int) (a : Int) (xc : Int) (xh : Int) (xe : Int) (xu : Int) (m : Nat) (q : Nat → Nat → AV) (nl : Bool) (n : Nat) (f : Nat → Nat → AV) (j : Nat) (i : Nat) (π : Plan) : Option (Nat × CS) := stepC (EF) (300) (loopC EF 4 2) (0) (h42) ((.normal, h42) :: x42) π (c42 gl k g now a xc xh xe xu m q nl n f j i)
def s42_p : Plan := (.fork (.reck 1 (.must true (.fork (.fork (.must true (.must true (.must true (.must true (.must true (.must true (.fork (.must true (.must true (.must true (.must true (.fork .stop .stop))))) (.must false (.must false (.must false (.must false .stop))))))))))) (.must false (.must false (.must false (.must false (.must false (.must false .stop))))))) .stop))) .stop)
theorem s42_is (gl : Bool) (k : Nat) (g : Nat → Nat → AV) (now : Int) (a : Int) (xc : Int) (xh : Int) (xe : Int) (xu : Int) (m : Nat) (q : Nat → Nat → AV) (nl : Bool) (n : Nat) (f : Nat → Nat → AV) (j : Nat) (i : Nat) : s42 gl k g now a xc xh xe xu m q nl n f j i s42_p = (cond (decide ((↑i : Int) < (↑k : Int)))
  (cond (decide ((↑i : Int) < (↑k : Int))) (cond (Nat.blt (0 + Int.toNat (↑i : Int)) k)
  (cond ((AV.toI (g (0 + Int.toNat (↑i : Int)) 0) == xc) == true)
  (cond ((AV.toI (g (0 + Int.toNat (↑i : Int)) 0) == xc) == true) (cond ((AV.toI (g (0 + Int.toNat (↑i : Int)) 0) == xc) == true) (cond ((AV.toI (g (0 + Int.toNat (↑i : Int)) 0) == xc) == true) (cond ((AV.toI (g (0 + Int.toNat (↑i : Int)) 0) == xc) == true) (cond ((AV.toI (g (0 + Int.toNat (↑i : Int)) 0) == xc) == true) (cond (AV.toI (g (0 + Int.toNat (↑i : Int)) 0) == xc) (cond ((AV.toI (g (0 + Int.toNat (↑i : Int)) (1)) != xh) == true)
  (cond ((AV.toI (g (0 + Int.toNat (↑i : Int)) (1)) != xh) == true) (cond ((AV.toI (g (0 + Int.toNat (↑i : Int)) (1)) != xh) == true) (cond ((AV.toI (g (0 + Int.toNat (↑i : Int)) (1)) != xh) == true) (cond (AV.toI (g (0 + Int.toNat (↑i : Int)) (1)) != xh) (cond (decide (AV.toI (g (0 + Int.toNat (↑i : Int)) (3)) > now))
  (some (2, (CS.mk [(AV.bool (false))] [])))
  (some (0, (CS.mk [(AV.osl (gl) (0) (0) (k) (k) (4) (true)), (AV.int IntKind.u64 (now)), (AV.ptr (1) (0)), (AV.osl (false) (2) (0) (m) (m) (4) (true)), (AV.osl (nl) (3) (0) (n) (n) (5) (true)), (AV.int IntKind.i64 ((↑n : Int))), (AV.int IntKind.i64 ((↑j : Int))), (AV.osl (gl) (0) (0) (k) (k) (4) (true)), (AV.int IntKind.i64 ((↑k : Int))), (AV.int IntKind.i64 (IntKind.wrap IntKind.i64 ((↑i : Int) + 1)))] [some (AObj.tarr [Sh.int IntKind.u64, Sh.int IntKind.i64, Sh.int IntKind.u64, Sh.int IntKind.u64] (k) g true), some (AObj.cells [(AV.int IntKind.u64 (a)), (AV.int IntKind.u64 (xc)), (AV.int IntKind.i64 (xh)), (AV.int IntKind.u64 (xe)), (AV.int IntKind.u64 (xu))] true), some (AObj.tarr [Sh.int IntKind.u64, Sh.int IntKind.i64, Sh.int IntKind.u64, Sh.int IntKind.u64] (m) q true), some (AObj.tarr [Sh.int IntKind.u64, Sh.int IntKind.u64, Sh.int IntKind.i64, Sh.int IntKind.u64, Sh.int IntKind.u64] (n) f false)])))) none) none) none) none)
  (cond ((AV.toI (g (0 + Int.toNat (↑i : Int)) (1)) != xh) == true) none (cond ((AV.toI (g (0 + Int.toNat (↑i : Int)) (1)) != xh) == true) none (cond ((AV.toI (g (0 + Int.toNat (↑i : Int)) (1)) != xh) == true) none (cond (AV.toI (g (0 + Int.toNat (↑i : Int)) (1)) != xh) none (some (0, (CS.mk [(AV.osl (gl) (0) (0) (k) (k) (4) (true)), (AV.int IntKind.u64 (now)), (AV.ptr (1) (0)), (AV.osl (false) (2) (0) (m) (m) (4) (true)), (AV.osl (nl) (3) (0) (n) (n) (5) (true)), (AV.int IntKind.i64 ((↑n : Int))), (AV.int IntKind.i64 ((↑j : Int))), (AV.osl (gl) (0) (0) (k) (k) (4) (true)), (AV.int IntKind.i64 ((↑k : Int))), (AV.int IntKind.i64 (IntKind.wrap IntKind.i64 ((↑i : Int) + 1)))] [some (AObj.tarr [Sh.int IntKind.u64, Sh.int IntKind.i64, Sh.int IntKind.u64, Sh.int IntKind.u64] (k) g true), some (AObj.cells [(AV.int IntKind.u64 (a)), (AV.int IntKind.u64 (xc)), (AV.int IntKind.i64 (xh)), (AV.int IntKind.u64 (xe)), (AV.int IntKind.u64 (xu))] true), some (AObj.tarr [Sh.int IntKind.u64, Sh.int IntKind.i64, Sh.int IntKind.u64, Sh.int IntKind.u64] (m) q true), some (AObj.tarr [Sh.int IntKind.u64, Sh.int IntKind.u64, Sh.int IntKind.i64, Sh.int IntKind.u64, Sh.int IntKind.u64] (n) f false)])))))))) none) none) none) none) none) none)
  (cond ((AV.toI (g (0 + Int.toNat (↑i : Int)) 0) == xc) == true) none (cond ((AV.toI (g (0 + Int.toNat (↑i : Int)) 0) == xc) == true) none (cond ((AV.toI (g (0 + Int.toNat (↑i : Int)) 0) == xc) == true) none (cond ((AV.toI (g (0 + Int.toNat (↑i : Int)) 0) == xc) == true) none (cond ((AV.toI (g (0 + Int.toNat (↑i : Int)) 0) == xc) == true) none (cond (AV.toI (g (0 + Int.toNat (↑i : Int)) 0) == xc) none (some (0, (CS.mk [(AV.osl (gl) (0) (0) (k) (k) (4) (true)), (AV.int IntKind.u64 (now)), (AV.ptr (1) (0)), (AV.osl (false) (2) (0) (m) (m) (4) (true)), (AV.osl (nl) (3) (0) (n) (n) (5) (true)), (AV.int IntKind.i64 ((↑n : Int))), (AV.int IntKind.i64 ((↑j : Int))), (AV.osl (gl) (0) (0) (k) (k) (4) (true)), (AV.int IntKind.i64 ((↑k : Int))), (AV.int IntKind.i64 (IntKind.wrap IntKind.i64 ((↑i : Int) + 1)))] [some (AObj.tarr [Sh.int IntKind.u64, Sh.int IntKind.i64, Sh.int IntKind.u64, Sh.int IntKind.u64] (k) g true), some (AObj.cells [(AV.int IntKind.u64 (a)), (AV.int IntKind.u64 (xc)), (AV.int IntKind.i64 (xh)), (AV.int IntKind.u64 (xe)), (AV.int IntKind.u64 (xu))] true), some (AObj.tarr [Sh.int IntKind.u64, Sh.int IntKind.i64, Sh.int IntKind.u64, Sh.int IntKind.u64] (m) q true), some (AObj.tarr [Sh.int IntKind.u64, Sh.int IntKind.u64, Sh.int IntKind.i64, Sh.int IntKind.u64, Sh.int IntKind.u64] (n) f false)]))))))))))
  none) none)
  (some (1, (CS.mk [(AV.osl (gl) (0) (0) (k) (k) (4) (true)), (AV.int IntKind.u64 (now)), (AV.ptr (1) (0)), (AV.osl (false) (2) (0) (m) (m) (4) (true)), (AV.osl (nl) (3) (0) (n) (n) (5) (true)), (AV.int IntKind.i64 ((↑n : Int))), (AV.int IntKind.i64 ((↑j : Int)))] [some (AObj.tarr [Sh.int IntKind.u64, Sh.int IntKind.i64, Sh.int IntKind.u64, Sh.int IntKind.u64] (k) g true), some (AObj.cells [(AV.int IntKind.u64 (a)), (AV.int IntKind.u64 (xc)), (AV.int IntKind.i64 (xh)), (AV.int IntKind.u64 (xe)), (AV.int IntKind.u64 (xu))] true), some (AObj.tarr [Sh.int IntKind.u64, Sh.int IntKind.i64, Sh.int IntKind.u64, Sh.int IntKind.u64] (m) q true), some (AObj.tarr [Sh.int IntKind.u64, Sh.int IntKind.u64, Sh.int IntKind.i64, Sh.int IntKind.u64, Sh.int IntKind.u64] (n) f false)])))) := by kernel_rfl
theorem s42_eq (gl : Bool) (k : Nat) (g : Nat → Nat → AV) (now : Int) (a : Int) (xc : Int) (xh : Int) (xe : Int) (xu : Int) (m : Nat) (q : Nat → Nat → AV) (nl : Bool) (n : Nat) (f : Nat → Nat → AV) (j : Nat) (i : Nat) : s42 gl k g now a xc xh xe xu m q nl n f j i s42_p = (cond (decide ((↑i : Int) < (↑k : Int)))
  (cond (Nat.blt (0 + Int.toNat (↑i : Int)) k)
  (cond (AV.toI (g (0 + Int.toNat (↑i : Int)) 0) == xc)
  (cond (AV.toI (g (0 + Int.toNat (↑i : Int)) (1)) != xh)
  (cond (decide (AV.toI (g (0 + Int.toNat (↑i : Int)) (3)) > now))
  (some (2, (CS.mk [(AV.bool (false))] [])))
  (some (0, (CS.mk [(AV.osl (gl) (0) (0) (k) (k) (4) (true)), (AV.int IntKind.u64 (now)), (AV.ptr (1) (0)), (AV.osl (false) (2) (0) (m) (m) (4) (true)), (AV.osl (nl) (3) (0) (n) (n) (5) (true)), (AV.int IntKind.i64 ((↑n : Int))), (AV.int IntKind.i64 ((↑j : Int))), (AV.osl (gl) (0) (0) (k) (k) (4) (true)), (AV.int IntKind.i64 ((↑k : Int))), (AV.int IntKind.i64 (IntKind.wrap IntKind.i64 ((↑i : Int) + 1)))] [some (AObj.tarr [Sh.int IntKind.u64, Sh.int IntKind.i64, Sh.int IntKind.u64, Sh.int IntKind.u64] (k) g true), some (AObj.cells [(AV.int IntKind.u64 (a)), (AV.int IntKind.u64 (xc)), (AV.int IntKind.i64 (xh)), (AV.int IntKind.u64 (xe)), (AV.int IntKind.u64 (xu))] true), some (AObj.tarr [Sh.int IntKind.u64, Sh.int IntKind.i64, Sh.int IntKind.u64, Sh.int IntKind.u64] (m) q true), some (AObj.tarr [Sh.int IntKind.u64, Sh.int IntKind.u64, Sh.int IntKind.i64, Sh.int IntKind.u64, Sh.int IntKind.u64] (n) f false)]))))
  (some (0, (CS.mk [(AV.osl (gl) (0) (0) (k) (k) (4) (true)), (AV.int IntKind.u64 (now)), (AV.ptr (1) (0)), (AV.osl (false) (2) (0) (m) (m) (4) (true)), (AV.osl (nl) (3) (0) (n) (n) (5) (true)), (AV.int IntKind.i64 ((↑n : Int))), (AV.int IntKind.i64 ((↑j : Int))), (AV.osl (gl) (0) (0) (k) (k) (4) (true)), (AV.int IntKind.i64 ((↑k : Int))), (AV.int IntKind.i64 (IntKind.wrap IntKind.i64 ((↑i : Int) + 1)))] [some (AObj.tarr [Sh.int IntKind.u64, Sh.int IntKind.i64, Sh.int IntKind.u64, Sh.int IntKind.u64] (k) g true), some (AObj.cells [(AV.int IntKind.u64 (a)), (AV.int IntKind.u64 (xc)), (AV.int IntKind.i64 (xh)), (AV.int IntKind.u64 (xe)), (AV.int IntKind.u64 (xu))] true), some (AObj.tarr [Sh.int IntKind.u64, Sh.int IntKind.i64, Sh.int IntKind.u64, Sh.int IntKind.u64] (m) q true), some (AObj.tarr [Sh.int IntKind.u64, Sh.int IntKind.u64, Sh.int IntKind.i64, Sh.int IntKind.u64, Sh.int IntKind.u64] (n) f false)]))))
  (some (0, (CS.mk [(AV.osl (gl) (0) (0) (k) (k) (4) (true)), (AV.int IntKind.u64 (now)), (AV.ptr (1) (0)), (AV.osl (false) (2) (0) (m) (m) (4) (true)), (AV.osl (nl) (3) (0) (n) (n) (5) (true)), (AV.int IntKind.i64 ((↑n : Int))), (AV.int IntKind.i64 ((↑j : Int))), (AV.osl (gl) (0) (0) (k) (k) (4) (true)), (AV.int IntKind.i64 ((↑k : Int))), (AV.int IntKind.i64 (IntKind.wrap IntKind.i64 ((↑i : Int) + 1)))] [some (AObj.tarr [Sh.int IntKind.u64, Sh.int IntKind.i64, Sh.int IntKind.u64, Sh.int IntKind.u64] (k) g true), some (AObj.cells [(AV.int IntKind.u64 (a)), (AV.int IntKind.u64 (xc)), (AV.int IntKind.i64 (xh)), (AV.int IntKind.u64 (xe)), (AV.int IntKind.u64 (xu))] true), some (AObj.tarr [Sh.int IntKind.u64, Sh.int IntKind.i64, Sh.int IntKind.u64, Sh.int IntKind.u64] (m) q true), some (AObj.tarr [Sh.int IntKind.u64, Sh.int IntKind.u64, Sh.int IntKind.i64, Sh.int IntKind.u64, Sh.int IntKind.u64] (n) f false)]))))
  none)
  (some (1, (CS.mk [(AV.osl (gl) (0) (0) (k) (k) (4) (true)), (AV.int IntKind.u64 (now)), (AV.ptr (1) (0)), (AV.osl (false) (2) (0) (m) (m) (4) (true)), (AV.osl (nl) (3) (0) (n) (n) (5) (true)), (AV.int IntKind.i64 ((↑n : Int))), (AV.int IntKind.i64 ((↑j : Int)))] [some (AObj.tarr [Sh.int IntKind.u64, Sh.int IntKind.i64, Sh.int IntKind.u64, Sh.int IntKind.u64] (k) g true), some (AObj.cells [(AV.int IntKind.u64 (a)), (AV.int IntKind.u64 (xc)), (AV.int IntKind.i64 (xh)), (AV.int IntKind.u64 (xe)), (AV.int IntKind.u64 (xu))] true), some (AObj.tarr [Sh.int IntKind.u64, Sh.int IntKind.i64, Sh.int IntKind.u64, Sh.int IntKind.u64] (m) q true), some (AObj.tarr [Sh.int IntKind.u64, Sh.int IntKind.u64, Sh.int IntKind.i64, Sh.int IntKind.u64, Sh.int IntKind.u64] (n) f false)])))) := by
  rw [s42_is]
  try simp only [eq_self, decide_true, beq_self_eq_true, Nat.beq_refl, ble_self, Int.le_refl, Nat.le_refl]
  cases (decide ((↑i : Int) < (↑k : Int))) with
  | true =>
    cases (Nat.blt (0 + Int.toNat (↑i : Int)) k) with
    | true =>
      cases (AV.toI (g (0 + Int.toNat (↑i : Int)) 0) == xc) with
      | true =>
        cases (AV.toI (g (0 + Int.toNat (↑i : Int)) (1)) != xh) with
        | true =>
          cases (decide (AV.toI (g (0 + Int.toNat (↑i : Int)) (3)) > now)) with
          | true =>
            rfl
          | false =>
            rfl
        | false =>
          rfl
      | false =>
        rfl
    | false =>
      rfl
  | false =>
    rfl

noncomputable def s4t (now : Int) (nl : Bool) (n : Nat) (f : Nat → Nat → AV) (j : Nat) (π : Plan) : Option (Nat × CS) := stepC (EG) (600) (loopC EG 4 0) (0) (h4) ((.normal, h4) :: x4) π (c4t now nl n f j)
def s4t_p : Plan := (.fork (.reck 1 (.must true (.fork (.reck 4 (.fork .stop (.reck 5 (.must true (.must true (.must true (.reck 5 (.must true (.reck 1 (.must true (.reck 5 (.must true (.reck 1 (.must true (.fork (.fork (.reck 5 (.fork .stop .stop)) .stop) .stop))))))))))))))) .stop))) .stop)
theorem s4t_is (now : Int) (nl : Bool) (n : Nat) (f : Nat → Nat → AV) (j : Nat) : s4t now nl n f j s4t_p = (cond (decide ((↑j : Int) < (↑n : Int)))
  (cond (decide ((↑j : Int) < (↑n : Int))) (cond (Nat.blt (0 + Int.toNat (↑j : Int)) n)
  (cond (argV (if AV.toI (f (0 + Int.toNat (↑j : Int)) 0) > now then AV.toI (f (0 + Int.toNat (↑j : Int)) 0) else now) { c := AV.toI (f (0 + Int.toNat (↑j : Int)) (1)), h := AV.toI (f (0 + Int.toNat (↑j : Int)) (2)), e := AV.toI (f (0 + Int.toNat (↑j : Int)) (3)), u := AV.toI (f (0 + Int.toNat (↑j : Int)) (4)) })
  (some (0, (CS.mk [(AV.osl (true) (0) (0) (0) (0) (4) (true)), (AV.osl (true) (1) (0) (0) (0) (4) (true)), (AV.int IntKind.u64 (if AV.toI (f (0 + Int.toNat (↑j : Int)) 0) > now then AV.toI (f (0 + Int.toNat (↑j : Int)) 0) else now)), (AV.osl (nl) (2) (0) (n) (n) (5) (true)), (AV.int IntKind.i64 ((↑n : Int))), (AV.int IntKind.i64 (IntKind.wrap IntKind.i64 ((↑j : Int) + 1)))] [some (AObj.tarr [Sh.int IntKind.u64, Sh.int IntKind.i64, Sh.int IntKind.u64, Sh.int IntKind.u64] (0) (fun p_ q_ => AV.bad) true), some (AObj.tarr [Sh.int IntKind.u64, Sh.int IntKind.i64, Sh.int IntKind.u64, Sh.int IntKind.u64] (0) (fun p_ q_ => AV.bad) true), some (AObj.tarr [Sh.int IntKind.u64, Sh.int IntKind.u64, Sh.int IntKind.i64, Sh.int IntKind.u64, Sh.int IntKind.u64] (n) f false)])))
  (cond (decide (List.length (aV (if AV.toI (f (0 + Int.toNat (↑j : Int)) 0) > now then AV.toI (f (0 + Int.toNat (↑j : Int)) 0) else now) { c := AV.toI (f (0 + Int.toNat (↑j : Int)) (1)), h := AV.toI (f (0 + Int.toNat (↑j : Int)) (2)), e := AV.toI (f (0 + Int.toNat (↑j : Int)) (3)), u := AV.toI (f (0 + Int.toNat (↑j : Int)) (4)) } (fun x x_1 => AV.bad) 0) = List.length (aV (if AV.toI (f (0 + Int.toNat (↑j : Int)) 0) > now then AV.toI (f (0 + Int.toNat (↑j : Int)) 0) else now) { c := AV.toI (f (0 + Int.toNat (↑j : Int)) (1)), h := AV.toI (f (0 + Int.toNat (↑j : Int)) (2)), e := AV.toI (f (0 + Int.toNat (↑j : Int)) (3)), u := AV.toI (f (0 + Int.toNat (↑j : Int)) (4)) } (fun x x_1 => AV.bad) 0))) (cond (decide (n = n)) (cond (decide ((↑n : Int) = (↑n : Int))) (cond (decide (List.length (aV (if AV.toI (f (0 + Int.toNat (↑j : Int)) 0) > now then AV.toI (f (0 + Int.toNat (↑j : Int)) 0) else now) { c := AV.toI (f (0 + Int.toNat (↑j : Int)) (1)), h := AV.toI (f (0 + Int.toNat (↑j : Int)) (2)), e := AV.toI (f (0 + Int.toNat (↑j : Int)) (3)), u := AV.toI (f (0 + Int.toNat (↑j : Int)) (4)) } (fun x x_1 => AV.bad) 0) = List.length (aV (if AV.toI (f (0 + Int.toNat (↑j : Int)) 0) > now then AV.toI (f (0 + Int.toNat (↑j : Int)) 0) else now) { c := AV.toI (f (0 + Int.toNat (↑j : Int)) (1)), h := AV.toI (f (0 + Int.toNat (↑j : Int)) (2)), e := AV.toI (f (0 + Int.toNat (↑j : Int)) (3)), u := AV.toI (f (0 + Int.toNat (↑j : Int)) (4)) } (fun x x_1 => AV.bad) 0))) (cond (decide (n = n)) (cond (decide (List.length (aV (if AV.toI (f (0 + Int.toNat (↑j : Int)) 0) > now then AV.toI (f (0 + Int.toNat (↑j : Int)) 0) else now) { c := AV.toI (f (0 + Int.toNat (↑j : Int)) (1)), h := AV.toI (f (0 + Int.toNat (↑j : Int)) (2)), e := AV.toI (f (0 + Int.toNat (↑j : Int)) (3)), u := AV.toI (f (0 + Int.toNat (↑j : Int)) (4)) } (fun x x_1 => AV.bad) 0) = List.length (aV (if AV.toI (f (0 + Int.toNat (↑j : Int)) 0) > now then AV.toI (f (0 + Int.toNat (↑j : Int)) 0) else now) { c := AV.toI (f (0 + Int.toNat (↑j : Int)) (1)), h := AV.toI (f (0 + Int.toNat (↑j : Int)) (2)), e := AV.toI (f (0 + Int.toNat (↑j : Int)) (3)), u := AV.toI (f (0 + Int.toNat (↑j : Int)) (4)) } (fun x x_1 => AV.bad) 0))) (cond (decide (List.length (aV (if AV.toI (f (0 + Int.toNat (↑j : Int)) 0) > now then AV.toI (f (0 + Int.toNat (↑j : Int)) 0) else now) { c := AV.toI (f (0 + Int.toNat (↑j : Int)) (1)), h := AV.toI (f (0 + Int.toNat (↑j : Int)) (2)), e := AV.toI (f (0 + Int.toNat (↑j : Int)) (3)), u := AV.toI (f (0 + Int.toNat (↑j : Int)) (4)) } (fun x x_1 => AV.bad) 0) = List.length (aV (if AV.toI (f (0 + Int.toNat (↑j : Int)) 0) > now then AV.toI (f (0 + Int.toNat (↑j : Int)) 0) else now) { c := AV.toI (f (0 + Int.toNat (↑j : Int)) (1)), h := AV.toI (f (0 + Int.toNat (↑j : Int)) (2)), e := AV.toI (f (0 + Int.toNat (↑j : Int)) (3)), u := AV.toI (f (0 + Int.toNat (↑j : Int)) (4)) } (fun x x_1 => AV.bad) 0))) (cond (Nat.ble (List.length (aV (if AV.toI (f (0 + Int.toNat (↑j : Int)) 0) > now then AV.toI (f (0 + Int.toNat (↑j : Int)) 0) else now) { c := AV.toI (f (0 + Int.toNat (↑j : Int)) (1)), h := AV.toI (f (0 + Int.toNat (↑j : Int)) (2)), e := AV.toI (f (0 + Int.toNat (↑j : Int)) (3)), u := AV.toI (f (0 + Int.toNat (↑j : Int)) (4)) } (fun x x_1 => AV.bad) 0)) 1000)
  (cond (Nat.blt (idx (holdsQ (if AV.toI (f (0 + Int.toNat (↑j : Int)) 0) > now then AV.toI (f (0 + Int.toNat (↑j : Int)) 0) else now) (AV.toI (f (0 + Int.toNat (↑j : Int)) (1)))) (finL (aV (if AV.toI (f (0 + Int.toNat (↑j : Int)) 0) > now then AV.toI (f (0 + Int.toNat (↑j : Int)) 0) else now) { c := AV.toI (f (0 + Int.toNat (↑j : Int)) (1)), h := AV.toI (f (0 + Int.toNat (↑j : Int)) (2)), e := AV.toI (f (0 + Int.toNat (↑j : Int)) (3)), u := AV.toI (f (0 + Int.toNat (↑j : Int)) (4)) } (fun x x_1 => AV.bad) 0)) (List.length (aV (if AV.toI (f (0 + Int.toNat (↑j : Int)) 0) > now then AV.toI (f (0 + Int.toNat (↑j : Int)) 0) else now) { c := AV.toI (f (0 + Int.toNat (↑j : Int)) (1)), h := AV.toI (f (0 + Int.toNat (↑j : Int)) (2)), e := AV.toI (f (0 + Int.toNat (↑j : Int)) (3)), u := AV.toI (f (0 + Int.toNat (↑j : Int)) (4)) } (fun x x_1 => AV.bad) 0))) (List.length (aV (if AV.toI (f (0 + Int.toNat (↑j : Int)) 0) > now then AV.toI (f (0 + Int.toNat (↑j : Int)) 0) else now) { c := AV.toI (f (0 + Int.toNat (↑j : Int)) (1)), h := AV.toI (f (0 + Int.toNat (↑j : Int)) (2)), e := AV.toI (f (0 + Int.toNat (↑j : Int)) (3)), u := AV.toI (f (0 + Int.toNat (↑j : Int)) (4)) } (fun x x_1 => AV.bad) 0)))
  (cond (!(Ls.c (lsAt (finL (aV (if AV.toI (f (0 + Int.toNat (↑j : Int)) 0) > now then AV.toI (f (0 + Int.toNat (↑j : Int)) 0) else now) { c := AV.toI (f (0 + Int.toNat (↑j : Int)) (1)), h := AV.toI (f (0 + Int.toNat (↑j : Int)) (2)), e := AV.toI (f (0 + Int.toNat (↑j : Int)) (3)), u := AV.toI (f (0 + Int.toNat (↑j : Int)) (4)) } (fun x x_1 => AV.bad) 0)) (idx (holdsQ (if AV.toI (f (0 + Int.toNat (↑j : Int)) 0) > now then AV.toI (f (0 + Int.toNat (↑j : Int)) 0) else now) (AV.toI (f (0 + Int.toNat (↑j : Int)) (1)))) (finL (aV (if AV.toI (f (0 + Int.toNat (↑j : Int)) 0) > now then AV.toI (f (0 + Int.toNat (↑j : Int)) 0) else now) { c := AV.toI (f (0 + Int.toNat (↑j : Int)) (1)), h := AV.toI (f (0 + Int.toNat (↑j : Int)) (2)), e := AV.toI (f (0 + Int.toNat (↑j : Int)) (3)), u := AV.toI (f (0 + Int.toNat (↑j : Int)) (4)) } (fun x x_1 => AV.bad) 0)) (List.length (aV (if AV.toI (f (0 + Int.toNat (↑j : Int)) 0) > now then AV.toI (f (0 + Int.toNat (↑j : Int)) 0) else now) { c := AV.toI (f (0 + Int.toNat (↑j : Int)) (1)), h := AV.toI (f (0 + Int.toNat (↑j : Int)) (2)), e := AV.toI (f (0 + Int.toNat (↑j : Int)) (3)), u := AV.toI (f (0 + Int.toNat (↑j : Int)) (4)) } (fun x x_1 => AV.bad) 0)))) == AV.toI (f (0 + Int.toNat (↑j : Int)) (1)) && (Ls.h (lsAt (finL (aV (if AV.toI (f (0 + Int.toNat (↑j : Int)) 0) > now then AV.toI (f (0 + Int.toNat (↑j : Int)) 0) else now) { c := AV.toI (f (0 + Int.toNat (↑j : Int)) (1)), h := AV.toI (f (0 + Int.toNat (↑j : Int)) (2)), e := AV.toI (f (0 + Int.toNat (↑j : Int)) (3)), u := AV.toI (f (0 + Int.toNat (↑j : Int)) (4)) } (fun x x_1 => AV.bad) 0)) (idx (holdsQ (if AV.toI (f (0 + Int.toNat (↑j : Int)) 0) > now then AV.toI (f (0 + Int.toNat (↑j : Int)) 0) else now) (AV.toI (f (0 + Int.toNat (↑j : Int)) (1)))) (finL (aV (if AV.toI (f (0 + Int.toNat (↑j : Int)) 0) > now then AV.toI (f (0 + Int.toNat (↑j : Int)) 0) else now) { c := AV.toI (f (0 + Int.toNat (↑j : Int)) (1)), h := AV.toI (f (0 + Int.toNat (↑j : Int)) (2)), e := AV.toI (f (0 + Int.toNat (↑j : Int)) (3)), u := AV.toI (f (0 + Int.toNat (↑j : Int)) (4)) } (fun x x_1 => AV.bad) 0)) (List.length (aV (if AV.toI (f (0 + Int.toNat (↑j : Int)) 0) > now then AV.toI (f (0 + Int.toNat (↑j : Int)) 0) else now) { c := AV.toI (f (0 + Int.toNat (↑j : Int)) (1)), h := AV.toI (f (0 + Int.toNat (↑j : Int)) (2)), e := AV.toI (f (0 + Int.toNat (↑j : Int)) (3)), u := AV.toI (f (0 + Int.toNat (↑j : Int)) (4)) } (fun x x_1 => AV.bad) 0)))) == AV.toI (f (0 + Int.toNat (↑j : Int)) (2)) && (Ls.e (lsAt (finL (aV (if AV.toI (f (0 + Int.toNat (↑j : Int)) 0) > now then AV.toI (f (0 + Int.toNat (↑j : Int)) 0) else now) { c := AV.toI (f (0 + Int.toNat (↑j : Int)) (1)), h := AV.toI (f (0 + Int.toNat (↑j : Int)) (2)), e := AV.toI (f (0 + Int.toNat (↑j : Int)) (3)), u := AV.toI (f (0 + Int.toNat (↑j : Int)) (4)) } (fun x x_1 => AV.bad) 0)) (idx (holdsQ (if AV.toI (f (0 + Int.toNat (↑j : Int)) 0) > now then AV.toI (f (0 + Int.toNat (↑j : Int)) 0) else now) (AV.toI (f (0 + Int.toNat (↑j : Int)) (1)))) (finL (aV (if AV.toI (f (0 + Int.toNat (↑j : Int)) 0) > now then AV.toI (f (0 + Int.toNat (↑j : Int)) 0) else now) { c := AV.toI (f (0 + Int.toNat (↑j : Int)) (1)), h := AV.toI (f (0 + Int.toNat (↑j : Int)) (2)), e := AV.toI (f (0 + Int.toNat (↑j : Int)) (3)), u := AV.toI (f (0 + Int.toNat (↑j : Int)) (4)) } (fun x x_1 => AV.bad) 0)) (List.length (aV (if AV.toI (f (0 + Int.toNat (↑j : Int)) 0) > now then AV.toI (f (0 + Int.toNat (↑j : Int)) 0) else now) { c := AV.toI (f (0 + Int.toNat (↑j : Int)) (1)), h := AV.toI (f (0 + Int.toNat (↑j : Int)) (2)), e := AV.toI (f (0 + Int.toNat (↑j : Int)) (3)), u := AV.toI (f (0 + Int.toNat (↑j : Int)) (4)) } (fun x x_1 => AV.bad) 0)))) == AV.toI (f (0 + Int.toNat (↑j : Int)) (3)) && (Ls.u (lsAt (finL (aV (if AV.toI (f (0 + Int.toNat (↑j : Int)) 0) > now then AV.toI (f (0 + Int.toNat (↑j : Int)) 0) else now) { c := AV.toI (f (0 + Int.toNat (↑j : Int)) (1)), h := AV.toI (f (0 + Int.toNat (↑j : Int)) (2)), e := AV.toI (f (0 + Int.toNat (↑j : Int)) (3)), u := AV.toI (f (0 + Int.toNat (↑j : Int)) (4)) } (fun x x_1 => AV.bad) 0)) (idx (holdsQ (if AV.toI (f (0 + Int.toNat (↑j : Int)) 0) > now then AV.toI (f (0 + Int.toNat (↑j : Int)) 0) else now) (AV.toI (f (0 + Int.toNat (↑j : Int)) (1)))) (finL (aV (if AV.toI (f (0 + Int.toNat (↑j : Int)) 0) > now then AV.toI (f (0 + Int.toNat (↑j : Int)) 0) else now) { c := AV.toI (f (0 + Int.toNat (↑j : Int)) (1)), h := AV.toI (f (0 + Int.toNat (↑j : Int)) (2)), e := AV.toI (f (0 + Int.toNat (↑j : Int)) (3)), u := AV.toI (f (0 + Int.toNat (↑j : Int)) (4)) } (fun x x_1 => AV.bad) 0)) (List.length (aV (if AV.toI (f (0 + Int.toNat (↑j : Int)) 0) > now then AV.toI (f (0 + Int.toNat (↑j : Int)) 0) else now) { c := AV.toI (f (0 + Int.toNat (↑j : Int)) (1)), h := AV.toI (f (0 + Int.toNat (↑j : Int)) (2)), e := AV.toI (f (0 + Int.toNat (↑j : Int)) (3)), u := AV.toI (f (0 + Int.toNat (↑j : Int)) (4)) } (fun x x_1 => AV.bad) 0)))) == AV.toI (f (0 + Int.toNat (↑j : Int)) (4)) && true)))))
  (some (2, (CS.mk [(AV.bool (false))] [])))
  (some (0, (CS.mk [(AV.osl (false) (0) (0) (List.length (aV (if AV.toI (f (0 + Int.toNat (↑j : Int)) 0) > now then AV.toI (f (0 + Int.toNat (↑j : Int)) 0) else now) { c := AV.toI (f (0 + Int.toNat (↑j : Int)) (1)), h := AV.toI (f (0 + Int.toNat (↑j : Int)) (2)), e := AV.toI (f (0 + Int.toNat (↑j : Int)) (3)), u := AV.toI (f (0 + Int.toNat (↑j : Int)) (4)) } (fun x x_1 => AV.bad) 0)) (List.length (aV (if AV.toI (f (0 + Int.toNat (↑j : Int)) 0) > now then AV.toI (f (0 + Int.toNat (↑j : Int)) 0) else now) { c := AV.toI (f (0 + Int.toNat (↑j : Int)) (1)), h := AV.toI (f (0 + Int.toNat (↑j : Int)) (2)), e := AV.toI (f (0 + Int.toNat (↑j : Int)) (3)), u := AV.toI (f (0 + Int.toNat (↑j : Int)) (4)) } (fun x x_1 => AV.bad) 0)) (4) (true)), (AV.osl (false) (1) (0) (1) (1) (4) (true)), (AV.int IntKind.u64 (if AV.toI (f (0 + Int.toNat (↑j : Int)) 0) > now then AV.toI (f (0 + Int.toNat (↑j : Int)) 0) else now)), (AV.osl (nl) (2) (0) (n) (n) (5) (true)), (AV.int IntKind.i64 ((↑n : Int))), (AV.int IntKind.i64 (IntKind.wrap IntKind.i64 ((↑j : Int) + 1)))] [some (AObj.tarr [Sh.int IntKind.u64, Sh.int IntKind.i64, Sh.int IntKind.u64, Sh.int IntKind.u64] (List.length (aV (if AV.toI (f (0 + Int.toNat (↑j : Int)) 0) > now then AV.toI (f (0 + Int.toNat (↑j : Int)) 0) else now) { c := AV.toI (f (0 + Int.toNat (↑j : Int)) (1)), h := AV.toI (f (0 + Int.toNat (↑j : Int)) (2)), e := AV.toI (f (0 + Int.toNat (↑j : Int)) (3)), u := AV.toI (f (0 + Int.toNat (↑j : Int)) (4)) } (fun x x_1 => AV.bad) 0)) (finL ((aV (if AV.toI (f (0 + Int.toNat (↑j : Int)) 0) > now then AV.toI (f (0 + Int.toNat (↑j : Int)) 0) else now) ({ c := AV.toI (f (0 + Int.toNat (↑j : Int)) (1)), h := AV.toI (f (0 + Int.toNat (↑j : Int)) (2)), e := AV.toI (f (0 + Int.toNat (↑j : Int)) (3)), u := AV.toI (f (0 + Int.toNat (↑j : Int)) (4)) }) (fun p_ q_ => AV.bad) (0)))) true), some (AObj.tarr [Sh.int IntKind.u64, Sh.int IntKind.i64, Sh.int IntKind.u64, Sh.int IntKind.u64] (1) (rowsOf (4) [(AV.int IntKind.u64 (AV.toI (f (0 + Int.toNat (↑j : Int)) (1)))), (AV.int IntKind.i64 (AV.toI (f (0 + Int.toNat (↑j : Int)) (2)))), (AV.int IntKind.u64 (AV.toI (f (0 + Int.toNat (↑j : Int)) (3)))), (AV.int IntKind.u64 (AV.toI (f (0 + Int.toNat (↑j : Int)) (4))))] (1)) true), some (AObj.tarr [Sh.int IntKind.u64, Sh.int IntKind.u64, Sh.int IntKind.i64, Sh.int IntKind.u64, Sh.int IntKind.u64] (n) f false)]))))
  (some (2, (CS.mk [(AV.bool (false))] []))))
  none) none) none) none) none) none) none) none))
  none) none)
  (some (1, (CS.mk [] [])))) := by kernel_rfl
theorem s4t_eq (now : Int) (nl : Bool) (n : Nat) (f : Nat → Nat → AV) (j : Nat) : s4t now nl n f j s4t_p = (cond (decide ((↑j : Int) < (↑n : Int)))
  (cond (Nat.blt (0 + Int.toNat (↑j : Int)) n)
  (cond (argV (if AV.toI (f (0 + Int.toNat (↑j : Int)) 0) > now then AV.toI (f (0 + Int.toNat (↑j : Int)) 0) else now) { c := AV.toI (f (0 + Int.toNat (↑j : Int)) (1)), h := AV.toI (f (0 + Int.toNat (↑j : Int)) (2)), e := AV.toI (f (0 + Int.toNat (↑j : Int)) (3)), u := AV.toI (f (0 + Int.toNat (↑j : Int)) (4)) })
  (some (0, (CS.mk [(AV.osl (true) (0) (0) (0) (0) (4) (true)), (AV.osl (true) (1) (0) (0) (0) (4) (true)), (AV.int IntKind.u64 (if AV.toI (f (0 + Int.toNat (↑j : Int)) 0) > now then AV.toI (f (0 + Int.toNat (↑j : Int)) 0) else now)), (AV.osl (nl) (2) (0) (n) (n) (5) (true)), (AV.int IntKind.i64 ((↑n : Int))), (AV.int IntKind.i64 (IntKind.wrap IntKind.i64 ((↑j : Int) + 1)))] [some (AObj.tarr [Sh.int IntKind.u64, Sh.int IntKind.i64, Sh.int IntKind.u64, Sh.int IntKind.u64] (0) (fun p_ q_ => AV.bad) true), some (AObj.tarr [Sh.int IntKind.u64, Sh.int IntKind.i64, Sh.int IntKind.u64, Sh.int IntKind.u64] (0) (fun p_ q_ => AV.bad) true), some (AObj.tarr [Sh.int IntKind.u64, Sh.int IntKind.u64, Sh.int IntKind.i64, Sh.int IntKind.u64, Sh.int IntKind.u64] (n) f false)])))
  (cond (Nat.ble (List.length (aV (if AV.toI (f (0 + Int.toNat (↑j : Int)) 0) > now then AV.toI (f (0 + Int.toNat (↑j : Int)) 0) else now) { c := AV.toI (f (0 + Int.toNat (↑j : Int)) (1)), h := AV.toI (f (0 + Int.toNat (↑j : Int)) (2)), e := AV.toI (f (0 + Int.toNat (↑j : Int)) (3)), u := AV.toI (f (0 + Int.toNat (↑j : Int)) (4)) } (fun x x_1 => AV.bad) 0)) 1000)
  (cond (Nat.blt (idx (holdsQ (if AV.toI (f (0 + Int.toNat (↑j : Int)) 0) > now then AV.toI (f (0 + Int.toNat (↑j : Int)) 0) else now) (AV.toI (f (0 + Int.toNat (↑j : Int)) (1)))) (finL (aV (if AV.toI (f (0 + Int.toNat (↑j : Int)) 0) > now then AV.toI (f (0 + Int.toNat (↑j : Int)) 0) else now) { c := AV.toI (f (0 + Int.toNat (↑j : Int)) (1)), h := AV.toI (f (0 + Int.toNat (↑j : Int)) (2)), e := AV.toI (f (0 + Int.toNat (↑j : Int)) (3)), u := AV.toI (f (0 + Int.toNat (↑j : Int)) (4)) } (fun x x_1 => AV.bad) 0)) (List.length (aV (if AV.toI (f (0 + Int.toNat (↑j : Int)) 0) > now then AV.toI (f (0 + Int.toNat (↑j : Int)) 0) else now) { c := AV.toI (f (0 + Int.toNat (↑j : Int)) (1)), h := AV.toI (f (0 + Int.toNat (↑j : Int)) (2)), e := AV.toI (f (0 + Int.toNat (↑j : Int)) (3)), u := AV.toI (f (0 + Int.toNat (↑j : Int)) (4)) } (fun x x_1 => AV.bad) 0))) (List.length (aV (if AV.toI (f (0 + Int.toNat (↑j : Int)) 0) > now then AV.toI (f (0 + Int.toNat (↑j : Int)) 0) else now) { c := AV.toI (f (0 + Int.toNat (↑j : Int)) (1)), h := AV.toI (f (0 + Int.toNat (↑j : Int)) (2)), e := AV.toI (f (0 + Int.toNat (↑j : Int)) (3)), u := AV.toI (f (0 + Int.toNat (↑j : Int)) (4)) } (fun x x_1 => AV.bad) 0)))
  (cond (Ls.c (lsAt (finL (aV (if AV.toI (f (0 + Int.toNat (↑j : Int)) 0) > now then AV.toI (f (0 + Int.toNat (↑j : Int)) 0) else now) { c := AV.toI (f (0 + Int.toNat (↑j : Int)) (1)), h := AV.toI (f (0 + Int.toNat (↑j : Int)) (2)), e := AV.toI (f (0 + Int.toNat (↑j : Int)) (3)), u := AV.toI (f (0 + Int.toNat (↑j : Int)) (4)) } (fun x x_1 => AV.bad) 0)) (idx (holdsQ (if AV.toI (f (0 + Int.toNat (↑j : Int)) 0) > now then AV.toI (f (0 + Int.toNat (↑j : Int)) 0) else now) (AV.toI (f (0 + Int.toNat (↑j : Int)) (1)))) (finL (aV (if AV.toI (f (0 + Int.toNat (↑j : Int)) 0) > now then AV.toI (f (0 + Int.toNat (↑j : Int)) 0) else now) { c := AV.toI (f (0 + Int.toNat (↑j : Int)) (1)), h := AV.toI (f (0 + Int.toNat (↑j : Int)) (2)), e := AV.toI (f (0 + Int.toNat (↑j : Int)) (3)), u := AV.toI (f (0 + Int.toNat (↑j : Int)) (4)) } (fun x x_1 => AV.bad) 0)) (List.length (aV (if AV.toI (f (0 + Int.toNat (↑j : Int)) 0) > now then AV.toI (f (0 + Int.toNat (↑j : Int)) 0) else now) { c := AV.toI (f (0 + Int.toNat (↑j : Int)) (1)), h := AV.toI (f (0 + Int.toNat (↑j : Int)) (2)), e := AV.toI (f (0 + Int.toNat (↑j : Int)) (3)), u := AV.toI (f (0 + Int.toNat (↑j : Int)) (4)) } (fun x x_1 => AV.bad) 0)))) == AV.toI (f (0 + Int.toNat (↑j : Int)) (1)) && (Ls.h (lsAt (finL (aV (if AV.toI (f (0 + Int.toNat (↑j : Int)) 0) > now then AV.toI (f (0 + Int.toNat (↑j : Int)) 0) else now) { c := AV.toI (f (0 + Int.toNat (↑j : Int)) (1)), h := AV.toI (f (0 + Int.toNat (↑j : Int)) (2)), e := AV.toI (f (0 + Int.toNat (↑j : Int)) (3)), u := AV.toI (f (0 + Int.toNat (↑j : Int)) (4)) } (fun x x_1 => AV.bad) 0)) (idx (holdsQ (if AV.toI (f (0 + Int.toNat (↑j : Int)) 0) > now then AV.toI (f (0 + Int.toNat (↑j : Int)) 0) else now) (AV.toI (f (0 + Int.toNat (↑j : Int)) (1)))) (finL (aV (if AV.toI (f (0 + Int.toNat (↑j : Int)) 0) > now then AV.toI (f (0 + Int.toNat (↑j : Int)) 0) else now) { c := AV.toI (f (0 + Int.toNat (↑j : Int)) (1)), h := AV.toI (f (0 + Int.toNat (↑j : Int)) (2)), e := AV.toI (f (0 + Int.toNat (↑j : Int)) (3)), u := AV.toI (f (0 + Int.toNat (↑j : Int)) (4)) } (fun x x_1 => AV.bad) 0)) (List.length (aV (if AV.toI (f (0 + Int.toNat (↑j : Int)) 0) > now then AV.toI (f (0 + Int.toNat (↑j : Int)) 0) else now) { c := AV.toI (f (0 + Int.toNat (↑j : Int)) (1)), h := AV.toI (f (0 + Int.toNat (↑j : Int)) (2)), e := AV.toI (f (0 + Int.toNat (↑j : Int)) (3)), u := AV.toI (f (0 + Int.toNat (↑j : Int)) (4)) } (fun x x_1 => AV.bad) 0)))) == AV.toI (f (0 + Int.toNat (↑j : Int)) (2)) && (Ls.e (lsAt (finL (aV (if AV.toI (f (0 + Int.toNat (↑j : Int)) 0) > now then AV.toI (f (0 + Int.toNat (↑j : Int)) 0) else now) { c := AV.toI (f (0 + Int.toNat (↑j : Int)) (1)), h := AV.toI (f (0 + Int.toNat (↑j : Int)) (2)), e := AV.toI (f (0 + Int.toNat (↑j : Int)) (3)), u := AV.toI (f (0 + Int.toNat (↑j : Int)) (4)) } (fun x x_1 => AV.bad) 0)) (idx (holdsQ (if AV.toI (f (0 + Int.toNat (↑j : Int)) 0) > now then AV.toI (f (0 + Int.toNat (↑j : Int)) 0) else now) (AV.toI (f (0 + Int.toNat (↑j : Int)) (1)))) (finL (aV (if AV.toI (f (0 + Int.toNat (↑j : Int)) 0) > now then AV.toI (f (0 + Int.toNat (↑j : Int)) 0) else now) { c := AV.toI (f (0 + Int.toNat (↑j : Int)) (1)), h := AV.toI (f (0 + Int.toNat (↑j : Int)) (2)), e := AV.toI (f (0 + Int.toNat (↑j : Int)) (3)), u := AV.toI (f (0 + Int.toNat (↑j : Int)) (4)) } (fun x x_1 => AV.bad) 0)) (List.length (aV (if AV.toI (f (0 + Int.toNat (↑j : Int)) 0) > now then AV.toI (f (0 + Int.toNat (↑j : Int)) 0) else now) { c := AV.toI (f (0 + Int.toNat (↑j : Int)) (1)), h := AV.toI (f (0 + Int.toNat (↑j : Int)) (2)), e := AV.toI (f (0 + Int.toNat (↑j : Int)) (3)), u := AV.toI (f (0 + Int.toNat (↑j : Int)) (4)) } (fun x x_1 => AV.bad) 0)))) == AV.toI (f (0 + Int.toNat (↑j : Int)) (3)) && (Ls.u (lsAt (finL (aV (if AV.toI (f (0 + Int.toNat (↑j : Int)) 0) > now then AV.toI (f (0 + Int.toNat (↑j : Int)) 0) else now) { c := AV.toI (f (0 + Int.toNat (↑j : Int)) (1)), h := AV.toI (f (0 + Int.toNat (↑j : Int)) (2)), e := AV.toI (f (0 + Int.toNat (↑j : Int)) (3)), u := AV.toI (f (0 + Int.toNat (↑j : Int)) (4)) } (fun x x_1 => AV.bad) 0)) (idx (holdsQ (if AV.toI (f (0 + Int.toNat (↑j : Int)) 0) > now then AV.toI (f (0 + Int.toNat (↑j : Int)) 0) else now) (AV.toI (f (0 + Int.toNat (↑j : Int)) (1)))) (finL (aV (if AV.toI (f (0 + Int.toNat (↑j : Int)) 0) > now then AV.toI (f (0 + Int.toNat (↑j : Int)) 0) else now) { c := AV.toI (f (0 + Int.toNat (↑j : Int)) (1)), h := AV.toI (f (0 + Int.toNat (↑j : Int)) (2)), e := AV.toI (f (0 + Int.toNat (↑j : Int)) (3)), u := AV.toI (f (0 + Int.toNat (↑j : Int)) (4)) } (fun x x_1 => AV.bad) 0)) (List.length (aV (if AV.toI (f (0 + Int.toNat (↑j : Int)) 0) > now then AV.toI (f (0 + Int.toNat (↑j : Int)) 0) else now) { c := AV.toI (f (0 + Int.toNat (↑j : Int)) (1)), h := AV.toI (f (0 + Int.toNat (↑j : Int)) (2)), e := AV.toI (f (0 + Int.toNat (↑j : Int)) (3)), u := AV.toI (f (0 + Int.toNat (↑j : Int)) (4)) } (fun x x_1 => AV.bad) 0)))) == AV.toI (f (0 + Int.toNat (↑j : Int)) (4)) && true))))
  (some (0, (CS.mk [(AV.osl (false) (0) (0) (List.length (aV (if AV.toI (f (0 + Int.toNat (↑j : Int)) 0) > now then AV.toI (f (0 + Int.toNat (↑j : Int)) 0) else now) { c := AV.toI (f (0 + Int.toNat (↑j : Int)) (1)), h := AV.toI (f (0 + Int.toNat (↑j : Int)) (2)), e := AV.toI (f (0 + Int.toNat (↑j : Int)) (3)), u := AV.toI (f (0 + Int.toNat (↑j : Int)) (4)) } (fun x x_1 => AV.bad) 0)) (List.length (aV (if AV.toI (f (0 + Int.toNat (↑j : Int)) 0) > now then AV.toI (f (0 + Int.toNat (↑j : Int)) 0) else now) { c := AV.toI (f (0 + Int.toNat (↑j : Int)) (1)), h := AV.toI (f (0 + Int.toNat (↑j : Int)) (2)), e := AV.toI (f (0 + Int.toNat (↑j : Int)) (3)), u := AV.toI (f (0 + Int.toNat (↑j : Int)) (4)) } (fun x x_1 => AV.bad) 0)) (4) (true)), (AV.osl (false) (1) (0) (1) (1) (4) (true)), (AV.int IntKind.u64 (if AV.toI (f (0 + Int.toNat (↑j : Int)) 0) > now then AV.toI (f (0 + Int.toNat (↑j : Int)) 0) else now)), (AV.osl (nl) (2) (0) (n) (n) (5) (true)), (AV.int IntKind.i64 ((↑n : Int))), (AV.int IntKind.i64 (IntKind.wrap IntKind.i64 ((↑j : Int) + 1)))] [some (AObj.tarr [Sh.int IntKind.u64, Sh.int IntKind.i64, Sh.int IntKind.u64, Sh.int IntKind.u64] (List.length (aV (if AV.toI (f (0 + Int.toNat (↑j : Int)) 0) > now then AV.toI (f (0 + Int.toNat (↑j : Int)) 0) else now) { c := AV.toI (f (0 + Int.toNat (↑j : Int)) (1)), h := AV.toI (f (0 + Int.toNat (↑j : Int)) (2)), e := AV.toI (f (0 + Int.toNat (↑j : Int)) (3)), u := AV.toI (f (0 + Int.toNat (↑j : Int)) (4)) } (fun x x_1 => AV.bad) 0)) (finL ((aV (if AV.toI (f (0 + Int.toNat (↑j : Int)) 0) > now then AV.toI (f (0 + Int.toNat (↑j : Int)) 0) else now) ({ c := AV.toI (f (0 + Int.toNat (↑j : Int)) (1)), h := AV.toI (f (0 + Int.toNat (↑j : Int)) (2)), e := AV.toI (f (0 + Int.toNat (↑j : Int)) (3)), u := AV.toI (f (0 + Int.toNat (↑j : Int)) (4)) }) (fun p_ q_ => AV.bad) (0)))) true), some (AObj.tarr [Sh.int IntKind.u64, Sh.int IntKind.i64, Sh.int IntKind.u64, Sh.int IntKind.u64] (1) (rowsOf (4) [(AV.int IntKind.u64 (AV.toI (f (0 + Int.toNat (↑j : Int)) (1)))), (AV.int IntKind.i64 (AV.toI (f (0 + Int.toNat (↑j : Int)) (2)))), (AV.int IntKind.u64 (AV.toI (f (0 + Int.toNat (↑j : Int)) (3)))), (AV.int IntKind.u64 (AV.toI (f (0 + Int.toNat (↑j : Int)) (4))))] (1)) true), some (AObj.tarr [Sh.int IntKind.u64, Sh.int IntKind.u64, Sh.int IntKind.i64, Sh.int IntKind.u64, Sh.int IntKind.u64] (n) f false)])))
  (some (2, (CS.mk [(AV.bool (false))] []))))
  (some (2, (CS.mk [(AV.bool (false))] []))))
  none))
  none)
  (some (1, (CS.mk [] [])))) := by
  rw [s4t_is]
  try simp only [eq_self, decide_true, beq_self_eq_true, Nat.beq_refl, ble_self, Int.le_refl, Nat.le_refl]
  cases (decide ((↑j : Int) < (↑n : Int))) with
  | true =>
    cases (Nat.blt (0 + Int.toNat (↑j : Int)) n) with
    | true =>
      cases (argV (if AV.toI (f (0 + Int.toNat (↑j : Int)) 0) > now then AV.toI (f (0 + Int.toNat (↑j : Int)) 0) else now) { c := AV.toI (f (0 + Int.toNat (↑j : Int)) (1)), h := AV.toI (f (0 + Int.toNat (↑j : Int)) (2)), e := AV.toI (f (0 + Int.toNat (↑j : Int)) (3)), u := AV.toI (f (0 + Int.toNat (↑j : Int)) (4)) }) with
      | true =>
        rfl
      | false =>
        cases (Nat.ble (List.length (aV (if AV.toI (f (0 + Int.toNat (↑j : Int)) 0) > now then AV.toI (f (0 + Int.toNat (↑j : Int)) 0) else now) { c := AV.toI (f (0 + Int.toNat (↑j : Int)) (1)), h := AV.toI (f (0 + Int.toNat (↑j : Int)) (2)), e := AV.toI (f (0 + Int.toNat (↑j : Int)) (3)), u := AV.toI (f (0 + Int.toNat (↑j : Int)) (4)) } (fun x x_1 => AV.bad) 0)) 1000) with
        | true =>
          cases (Nat.blt (idx (holdsQ (if AV.toI (f (0 + Int.toNat (↑j : Int)) 0) > now then AV.toI (f (0 + Int.toNat (↑j : Int)) 0) else now) (AV.toI (f (0 + Int.toNat (↑j : Int)) (1)))) (finL (aV (if AV.toI (f (0 + Int.toNat (↑j : Int)) 0) > now then AV.toI (f (0 + Int.toNat (↑j : Int)) 0) else now) { c := AV.toI (f (0 + Int.toNat (↑j : Int)) (1)), h := AV.toI (f (0 + Int.toNat (↑j : Int)) (2)), e := AV.toI (f (0 + Int.toNat (↑j : Int)) (3)), u := AV.toI (f (0 + Int.toNat (↑j : Int)) (4)) } (fun x x_1 => AV.bad) 0)) (List.length (aV (if AV.toI (f (0 + Int.toNat (↑j : Int)) 0) > now then AV.toI (f (0 + Int.toNat (↑j : Int)) 0) else now) { c := AV.toI (f (0 + Int.toNat (↑j : Int)) (1)), h := AV.toI (f (0 + Int.toNat (↑j : Int)) (2)), e := AV.toI (f (0 + Int.toNat (↑j : Int)) (3)), u := AV.toI (f (0 + Int.toNat (↑j : Int)) (4)) } (fun x x_1 => AV.bad) 0))) (List.length (aV (if AV.toI (f (0 + Int.toNat (↑j : Int)) 0) > now then AV.toI (f (0 + Int.toNat (↑j : Int)) 0) else now) { c := AV.toI (f (0 + Int.toNat (↑j : Int)) (1)), h := AV.toI (f (0 + Int.toNat (↑j : Int)) (2)), e := AV.toI (f (0 + Int.toNat (↑j : Int)) (3)), u := AV.toI (f (0 + Int.toNat (↑j : Int)) (4)) } (fun x x_1 => AV.bad) 0))) with
          | true =>
            cases (Ls.c (lsAt (finL (aV (if AV.toI (f (0 + Int.toNat (↑j : Int)) 0) > now then AV.toI (f (0 + Int.toNat (↑j : Int)) 0) else now) { c := AV.toI (f (0 + Int.toNat (↑j : Int)) (1)), h := AV.toI (f (0 + Int.toNat (↑j : Int)) (2)), e := AV.toI (f (0 + Int.toNat (↑j : Int)) (3)), u := AV.toI (f (0 + Int.toNat (↑j : Int)) (4)) } (fun x x_1 => AV.bad) 0)) (idx (holdsQ (if AV.toI (f (0 + Int.toNat (↑j : Int)) 0) > now then AV.toI (f (0 + Int.toNat (↑j : Int)) 0) else now) (AV.toI (f (0 + Int.toNat (↑j : Int)) (1)))) (finL (aV (if AV.toI (f (0 + Int.toNat (↑j : Int)) 0) > now then AV.toI (f (0 + Int.toNat (↑j : Int)) 0) else now) { c := AV.toI (f (0 + Int.toNat (↑j : Int)) (1)), h := AV.toI (f (0 + Int.toNat (↑j : Int)) (2)), e := AV.toI (f (0 + Int.toNat (↑j : Int)) (3)), u := AV.toI (f (0 + Int.toNat (↑j : Int)) (4)) } (fun x x_1 => AV.bad) 0)) (List.length (aV (if AV.toI (f (0 + Int.toNat (↑j : Int)) 0) > now then AV.toI (f (0 + Int.toNat (↑j : Int)) 0) else now) { c := AV.toI (f (0 + Int.toNat (↑j : Int)) (1)), h := AV.toI (f (0 + Int.toNat (↑j : Int)) (2)), e := AV.toI (f (0 + Int.toNat (↑j : Int)) (3)), u := AV.toI (f (0 + Int.toNat (↑j : Int)) (4)) } (fun x x_1 => AV.bad) 0)))) == AV.toI (f (0 + Int.toNat (↑j : Int)) (1)) && (Ls.h (lsAt (finL (aV (if AV.toI (f (0 + Int.toNat (↑j : Int)) 0) > now then AV.toI (f (0 + Int.toNat (↑j : Int)) 0) else now) { c := AV.toI (f (0 + Int.toNat (↑j : Int)) (1)), h := AV.toI (f (0 + Int.toNat (↑j : Int)) (2)), e := AV.toI (f (0 + Int.toNat (↑j : Int)) (3)), u := AV.toI (f (0 + Int.toNat (↑j : Int)) (4)) } (fun x x_1 => AV.bad) 0)) (idx (holdsQ (if AV.toI (f (0 + Int.toNat (↑j : Int)) 0) > now then AV.toI (f (0 + Int.toNat (↑j : Int)) 0) else now) (AV.toI (f (0 + Int.toNat (↑j : Int)) (1)))) (finL (aV (if AV.toI (f (0 + Int.toNat (↑j : Int)) 0) > now then AV.toI (f (0 + Int.toNat (↑j : Int)) 0) else now) { c := AV.toI (f (0 + Int.toNat (↑j : Int)) (1)), h := AV.toI (f (0 + Int.toNat (↑j : Int)) (2)), e := AV.toI (f (0 + Int.toNat (↑j : Int)) (3)), u := AV.toI (f (0 + Int.toNat (↑j : Int)) (4)) } (fun x x_1 => AV.bad) 0)) (List.length (aV (if AV.toI (f (0 + Int.toNat (↑j : Int)) 0) > now then AV.toI (f (0 + Int.toNat (↑j : Int)) 0) else now) { c := AV.toI (f (0 + Int.toNat (↑j : Int)) (1)), h := AV.toI (f (0 + Int.toNat (↑j : Int)) (2)), e := AV.toI (f (0 + Int.toNat (↑j : Int)) (3)), u := AV.toI (f (0 + Int.toNat (↑j : Int)) (4)) } (fun x x_1 => AV.bad) 0)))) == AV.toI (f (0 + Int.toNat (↑j : Int)) (2)) && (Ls.e (lsAt (finL (aV (if AV.toI (f (0 + Int.toNat (↑j : Int)) 0) > now then AV.toI (f (0 + Int.toNat (↑j : Int)) 0) else now) { c := AV.toI (f (0 + Int.toNat (↑j : Int)) (1)), h := AV.toI (f (0 + Int.toNat (↑j : Int)) (2)), e := AV.toI (f (0 + Int.toNat (↑j : Int)) (3)), u := AV.toI (f (0 + Int.toNat (↑j : Int)) (4)) } (fun x x_1 => AV.bad) 0)) (idx (holdsQ (if AV.toI (f (0 + Int.toNat (↑j : Int)) 0) > now then AV.toI (f (0 + Int.toNat (↑j : Int)) 0) else now) (AV.toI (f (0 + Int.toNat (↑j : Int)) (1)))) (finL (aV (if AV.toI (f (0 + Int.toNat (↑j : Int)) 0) > now then AV.toI (f (0 + Int.toNat (↑j : Int)) 0) else now) { c := AV.toI (f (0 + Int.toNat (↑j : Int)) (1)), h := AV.toI (f (0 + Int.toNat (↑j : Int)) (2)), e := AV.toI (f (0 + Int.toNat (↑j : Int)) (3)), u := AV.toI (f (0 + Int.toNat (↑j : Int)) (4)) } (fun x x_1 => AV.bad) 0)) (List.length (aV (if AV.toI (f (0 + Int.toNat (↑j : Int)) 0) > now then AV.toI (f (0 + Int.toNat (↑j : Int)) 0) else now) { c := AV.toI (f (0 + Int.toNat (↑j : Int)) (1)), h := AV.toI (f (0 + Int.toNat (↑j : Int)) (2)), e := AV.toI (f (0 + Int.toNat (↑j : Int)) (3)), u := AV.toI (f (0 + Int.toNat (↑j : Int)) (4)) } (fun x x_1 => AV.bad) 0)))) == AV.toI (f (0 + Int.toNat (↑j : Int)) (3)) && (Ls.u (lsAt (finL (aV (if AV.toI (f (0 + Int.toNat (↑j : Int)) 0) > now then AV.toI (f (0 + Int.toNat (↑j : Int)) 0) else now) { c := AV.toI (f (0 + Int.toNat (↑j : Int)) (1)), h := AV.toI (f (0 + Int.toNat (↑j : Int)) (2)), e := AV.toI (f (0 + Int.toNat (↑j : Int)) (3)), u := AV.toI (f (0 + Int.toNat (↑j : Int)) (4)) } (fun x x_1 => AV.bad) 0)) (idx (holdsQ (if AV.toI (f (0 + Int.toNat (↑j : Int)) 0) > now then AV.toI (f (0 + Int.toNat (↑j : Int)) 0) else now) (AV.toI (f (0 + Int.toNat (↑j : Int)) (1)))) (finL (aV (if AV.toI (f (0 + Int.toNat (↑j : Int)) 0) > now then AV.toI (f (0 + Int.toNat (↑j : Int)) 0) else now) { c := AV.toI (f (0 + Int.toNat (↑j : Int)) (1)), h := AV.toI (f (0 + Int.toNat (↑j : Int)) (2)), e := AV.toI (f (0 + Int.toNat (↑j : Int)) (3)), u := AV.toI (f (0 + Int.toNat (↑j : Int)) (4)) } (fun x x_1 => AV.bad) 0)) (List.length (aV (if AV.toI (f (0 + Int.toNat (↑j : Int)) 0) > now then AV.toI (f (0 + Int.toNat (↑j : Int)) 0) else now) { c := AV.toI (f (0 + Int.toNat (↑j : Int)) (1)), h := AV.toI (f (0 + Int.toNat (↑j : Int)) (2)), e := AV.toI (f (0 + Int.toNat (↑j : Int)) (3)), u := AV.toI (f (0 + Int.toNat (↑j : Int)) (4)) } (fun x x_1 => AV.bad) 0)))) == AV.toI (f (0 + Int.toNat (↑j : Int)) (4)) && true)))) with
            | true =>
              rfl
            | false =>
              rfl
          | false =>
            rfl
        | false =>
          rfl
    | false =>
      rfl
  | false =>
    rfl

noncomputable def s4 (m : Nat) (q : Nat → Nat → AV) (k : Nat) (g : Nat → Nat → AV) (now : Int) (nl : Bool) (n : Nat) (f : Nat → Nat → AV) (j : Nat) (π : Plan) : Option (Nat × CS) := stepC (EG) (600) (loopC EG 4 0) (0) (h4) ((.normal, h4) :: x4) π (c4 false m q false k g now nl n f j)
def s4_p : Plan := (.fork (.reck 1 (.must true (.fork (.must true (.reck 1 (.must true (.fork (.fork .stop (.fork .stop (.fork .stop (.reck 2 (.must true (.reck 1 (.must true (.must true (.must true (.reck 1 (.must true (.must true (.must true (.reck 2 (.must true (.reck 1 (.must true (.reck 1 (.must true (.fork (.fork (.reck 2 (.must false (.fork (.fork (.must true (.reck 1 (.must true (.fork (.fork (.reck 5 (.fork .stop .stop)) .stop) .stop)))) .stop) .stop))) .stop) .stop)))))))))))))))))))) .stop)))) .stop))) .stop)
theorem s4_is (m : Nat) (q : Nat → Nat → AV) (k : Nat) (g : Nat → Nat → AV) (now : Int) (nl : Bool) (n : Nat) (f : Nat → Nat → AV) (j : Nat) : s4 m q k g now nl n f j s4_p = (cond (decide ((↑j : Int) < (↑n : Int)))
  (cond (decide ((↑j : Int) < (↑n : Int))) (cond (Nat.blt (0 + Int.toNat (↑j : Int)) n)
  (cond (decide (m = m)) (cond (decide (m = m)) (cond (Nat.ble m 1000)
  (cond (argV (if AV.toI (f (0 + Int.toNat (↑j : Int)) 0) > now then AV.toI (f (0 + Int.toNat (↑j : Int)) 0) else now) { c := AV.toI (f (0 + Int.toNat (↑j : Int)) (1)), h := AV.toI (f (0 + Int.toNat (↑j : Int)) (2)), e := AV.toI (f (0 + Int.toNat (↑j : Int)) (3)), u := AV.toI (f (0 + Int.toNat (↑j : Int)) (4)) })
  (some (0, (CS.mk [(AV.osl (false) (0) (0) (m) (m) (4) (true)), (AV.osl (false) (1) (0) (k) (k) (4) (true)), (AV.int IntKind.u64 (if AV.toI (f (0 + Int.toNat (↑j : Int)) 0) > now then AV.toI (f (0 + Int.toNat (↑j : Int)) 0) else now)), (AV.osl (nl) (2) (0) (n) (n) (5) (true)), (AV.int IntKind.i64 ((↑n : Int))), (AV.int IntKind.i64 (IntKind.wrap IntKind.i64 ((↑j : Int) + 1)))] [some (AObj.tarr [Sh.int IntKind.u64, Sh.int IntKind.i64, Sh.int IntKind.u64, Sh.int IntKind.u64] (m) q true), some (AObj.tarr [Sh.int IntKind.u64, Sh.int IntKind.i64, Sh.int IntKind.u64, Sh.int IntKind.u64] (k) g true), some (AObj.tarr [Sh.int IntKind.u64, Sh.int IntKind.u64, Sh.int IntKind.i64, Sh.int IntKind.u64, Sh.int IntKind.u64] (n) f false)])))
  (cond (Nat.blt (idx (busyQ (if AV.toI (f (0 + Int.toNat (↑j : Int)) 0) > now then AV.toI (f (0 + Int.toNat (↑j : Int)) 0) else now) { c := AV.toI (f (0 + Int.toNat (↑j : Int)) (1)), h := AV.toI (f (0 + Int.toNat (↑j : Int)) (2)), e := AV.toI (f (0 + Int.toNat (↑j : Int)) (3)), u := AV.toI (f (0 + Int.toNat (↑j : Int)) (4)) }) q m) m)
  (some (0, (CS.mk [(AV.osl (false) (0) (0) (m) (m) (4) (true)), (AV.osl (false) (1) (0) (k) (k) (4) (true)), (AV.int IntKind.u64 (if AV.toI (f (0 + Int.toNat (↑j : Int)) 0) > now then AV.toI (f (0 + Int.toNat (↑j : Int)) 0) else now)), (AV.osl (nl) (2) (0) (n) (n) (5) (true)), (AV.int IntKind.i64 ((↑n : Int))), (AV.int IntKind.i64 (IntKind.wrap IntKind.i64 ((↑j : Int) + 1)))] [some (AObj.tarr [Sh.int IntKind.u64, Sh.int IntKind.i64, Sh.int IntKind.u64, Sh.int IntKind.u64] (m) q true), some (AObj.tarr [Sh.int IntKind.u64, Sh.int IntKind.i64, Sh.int IntKind.u64, Sh.int IntKind.u64] (k) g true), some (AObj.tarr [Sh.int IntKind.u64, Sh.int IntKind.u64, Sh.int IntKind.i64, Sh.int IntKind.u64, Sh.int IntKind.u64] (n) f false)])))
  (cond (Nat.blt (idx (newerQ { c := AV.toI (f (0 + Int.toNat (↑j : Int)) (1)), h := AV.toI (f (0 + Int.toNat (↑j : Int)) (2)), e := AV.toI (f (0 + Int.toNat (↑j : Int)) (3)), u := AV.toI (f (0 + Int.toNat (↑j : Int)) (4)) }) q m) m)
  (some (0, (CS.mk [(AV.osl (false) (0) (0) (m) (m) (4) (true)), (AV.osl (false) (1) (0) (k) (k) (4) (true)), (AV.int IntKind.u64 (if AV.toI (f (0 + Int.toNat (↑j : Int)) 0) > now then AV.toI (f (0 + Int.toNat (↑j : Int)) 0) else now)), (AV.osl (nl) (2) (0) (n) (n) (5) (true)), (AV.int IntKind.i64 ((↑n : Int))), (AV.int IntKind.i64 (IntKind.wrap IntKind.i64 ((↑j : Int) + 1)))] [some (AObj.tarr [Sh.int IntKind.u64, Sh.int IntKind.i64, Sh.int IntKind.u64, Sh.int IntKind.u64] (m) q true), some (AObj.tarr [Sh.int IntKind.u64, Sh.int IntKind.i64, Sh.int IntKind.u64, Sh.int IntKind.u64] (k) g true), some (AObj.tarr [Sh.int IntKind.u64, Sh.int IntKind.u64, Sh.int IntKind.i64, Sh.int IntKind.u64, Sh.int IntKind.u64] (n) f false)])))
  (cond (decide (k = k)) (cond (decide (List.length (aV (if AV.toI (f (0 + Int.toNat (↑j : Int)) 0) > now then AV.toI (f (0 + Int.toNat (↑j : Int)) 0) else now) { c := AV.toI (f (0 + Int.toNat (↑j : Int)) (1)), h := AV.toI (f (0 + Int.toNat (↑j : Int)) (2)), e := AV.toI (f (0 + Int.toNat (↑j : Int)) (3)), u := AV.toI (f (0 + Int.toNat (↑j : Int)) (4)) } q m) = List.length (aV (if AV.toI (f (0 + Int.toNat (↑j : Int)) 0) > now then AV.toI (f (0 + Int.toNat (↑j : Int)) 0) else now) { c := AV.toI (f (0 + Int.toNat (↑j : Int)) (1)), h := AV.toI (f (0 + Int.toNat (↑j : Int)) (2)), e := AV.toI (f (0 + Int.toNat (↑j : Int)) (3)), u := AV.toI (f (0 + Int.toNat (↑j : Int)) (4)) } q m))) (cond (decide (n = n)) (cond (decide ((↑n : Int) = (↑n : Int))) (cond (decide (k = k)) (cond (decide (k = k)) (cond (decide ((↑k : Int) = (↑k : Int))) (cond (decide (k = k)) (cond (decide (List.length (aV (if AV.toI (f (0 + Int.toNat (↑j : Int)) 0) > now then AV.toI (f (0 + Int.toNat (↑j : Int)) 0) else now) { c := AV.toI (f (0 + Int.toNat (↑j : Int)) (1)), h := AV.toI (f (0 + Int.toNat (↑j : Int)) (2)), e := AV.toI (f (0 + Int.toNat (↑j : Int)) (3)), u := AV.toI (f (0 + Int.toNat (↑j : Int)) (4)) } q m) = List.length (aV (if AV.toI (f (0 + Int.toNat (↑j : Int)) 0) > now then AV.toI (f (0 + Int.toNat (↑j : Int)) 0) else now) { c := AV.toI (f (0 + Int.toNat (↑j : Int)) (1)), h := AV.toI (f (0 + Int.toNat (↑j : Int)) (2)), e := AV.toI (f (0 + Int.toNat (↑j : Int)) (3)), u := AV.toI (f (0 + Int.toNat (↑j : Int)) (4)) } q m))) (cond (decide (n = n)) (cond (Nat.ble k 1000)
  (cond ((okG (if AV.toI (f (0 + Int.toNat (↑j : Int)) 0) > now then AV.toI (f (0 + Int.toNat (↑j : Int)) 0) else now) (AV.toI (f (0 + Int.toNat (↑j : Int)) (1))) (AV.toI (f (0 + Int.toNat (↑j : Int)) (2))) g (k)))
  (cond (Nat.ble ((k) + (1)) (k)) none (cond (growB (32) (k + 1))
  (cond (Nat.ble (0 + k) k)
  (cond (decide (List.length (aV (if AV.toI (f (0 + Int.toNat (↑j : Int)) 0) > now then AV.toI (f (0 + Int.toNat (↑j : Int)) 0) else now) { c := AV.toI (f (0 + Int.toNat (↑j : Int)) (1)), h := AV.toI (f (0 + Int.toNat (↑j : Int)) (2)), e := AV.toI (f (0 + Int.toNat (↑j : Int)) (3)), u := AV.toI (f (0 + Int.toNat (↑j : Int)) (4)) } q m) = List.length (aV (if AV.toI (f (0 + Int.toNat (↑j : Int)) 0) > now then AV.toI (f (0 + Int.toNat (↑j : Int)) 0) else now) { c := AV.toI (f (0 + Int.toNat (↑j : Int)) (1)), h := AV.toI (f (0 + Int.toNat (↑j : Int)) (2)), e := AV.toI (f (0 + Int.toNat (↑j : Int)) (3)), u := AV.toI (f (0 + Int.toNat (↑j : Int)) (4)) } q m))) (cond (decide (List.length (aV (if AV.toI (f (0 + Int.toNat (↑j : Int)) 0) > now then AV.toI (f (0 + Int.toNat (↑j : Int)) 0) else now) { c := AV.toI (f (0 + Int.toNat (↑j : Int)) (1)), h := AV.toI (f (0 + Int.toNat (↑j : Int)) (2)), e := AV.toI (f (0 + Int.toNat (↑j : Int)) (3)), u := AV.toI (f (0 + Int.toNat (↑j : Int)) (4)) } q m) = List.length (aV (if AV.toI (f (0 + Int.toNat (↑j : Int)) 0) > now then AV.toI (f (0 + Int.toNat (↑j : Int)) 0) else now) { c := AV.toI (f (0 + Int.toNat (↑j : Int)) (1)), h := AV.toI (f (0 + Int.toNat (↑j : Int)) (2)), e := AV.toI (f (0 + Int.toNat (↑j : Int)) (3)), u := AV.toI (f (0 + Int.toNat (↑j : Int)) (4)) } q m))) (cond (Nat.ble (List.length (aV (if AV.toI (f (0 + Int.toNat (↑j : Int)) 0) > now then AV.toI (f (0 + Int.toNat (↑j : Int)) 0) else now) { c := AV.toI (f (0 + Int.toNat (↑j : Int)) (1)), h := AV.toI (f (0 + Int.toNat (↑j : Int)) (2)), e := AV.toI (f (0 + Int.toNat (↑j : Int)) (3)), u := AV.toI (f (0 + Int.toNat (↑j : Int)) (4)) } q m)) 1000)
  (cond (Nat.blt (idx (holdsQ (if AV.toI (f (0 + Int.toNat (↑j : Int)) 0) > now then AV.toI (f (0 + Int.toNat (↑j : Int)) 0) else now) (AV.toI (f (0 + Int.toNat (↑j : Int)) (1)))) (finL (aV (if AV.toI (f (0 + Int.toNat (↑j : Int)) 0) > now then AV.toI (f (0 + Int.toNat (↑j : Int)) 0) else now) { c := AV.toI (f (0 + Int.toNat (↑j : Int)) (1)), h := AV.toI (f (0 + Int.toNat (↑j : Int)) (2)), e := AV.toI (f (0 + Int.toNat (↑j : Int)) (3)), u := AV.toI (f (0 + Int.toNat (↑j : Int)) (4)) } q m)) (List.length (aV (if AV.toI (f (0 + Int.toNat (↑j : Int)) 0) > now then AV.toI (f (0 + Int.toNat (↑j : Int)) 0) else now) { c := AV.toI (f (0 + Int.toNat (↑j : Int)) (1)), h := AV.toI (f (0 + Int.toNat (↑j : Int)) (2)), e := AV.toI (f (0 + Int.toNat (↑j : Int)) (3)), u := AV.toI (f (0 + Int.toNat (↑j : Int)) (4)) } q m))) (List.length (aV (if AV.toI (f (0 + Int.toNat (↑j : Int)) 0) > now then AV.toI (f (0 + Int.toNat (↑j : Int)) 0) else now) { c := AV.toI (f (0 + Int.toNat (↑j : Int)) (1)), h := AV.toI (f (0 + Int.toNat (↑j : Int)) (2)), e := AV.toI (f (0 + Int.toNat (↑j : Int)) (3)), u := AV.toI (f (0 + Int.toNat (↑j : Int)) (4)) } q m)))
  (cond (!(Ls.c (lsAt (finL (aV (if AV.toI (f (0 + Int.toNat (↑j : Int)) 0) > now then AV.toI (f (0 + Int.toNat (↑j : Int)) 0) else now) { c := AV.toI (f (0 + Int.toNat (↑j : Int)) (1)), h := AV.toI (f (0 + Int.toNat (↑j : Int)) (2)), e := AV.toI (f (0 + Int.toNat (↑j : Int)) (3)), u := AV.toI (f (0 + Int.toNat (↑j : Int)) (4)) } q m)) (idx (holdsQ (if AV.toI (f (0 + Int.toNat (↑j : Int)) 0) > now then AV.toI (f (0 + Int.toNat (↑j : Int)) 0) else now) (AV.toI (f (0 + Int.toNat (↑j : Int)) (1)))) (finL (aV (if AV.toI (f (0 + Int.toNat (↑j : Int)) 0) > now then AV.toI (f (0 + Int.toNat (↑j : Int)) 0) else now) { c := AV.toI (f (0 + Int.toNat (↑j : Int)) (1)), h := AV.toI (f (0 + Int.toNat (↑j : Int)) (2)), e := AV.toI (f (0 + Int.toNat (↑j : Int)) (3)), u := AV.toI (f (0 + Int.toNat (↑j : Int)) (4)) } q m)) (List.length (aV (if AV.toI (f (0 + Int.toNat (↑j : Int)) 0) > now then AV.toI (f (0 + Int.toNat (↑j : Int)) 0) else now) { c := AV.toI (f (0 + Int.toNat (↑j : Int)) (1)), h := AV.toI (f (0 + Int.toNat (↑j : Int)) (2)), e := AV.toI (f (0 + Int.toNat (↑j : Int)) (3)), u := AV.toI (f (0 + Int.toNat (↑j : Int)) (4)) } q m)))) == AV.toI (f (0 + Int.toNat (↑j : Int)) (1)) && (Ls.h (lsAt (finL (aV (if AV.toI (f (0 + Int.toNat (↑j : Int)) 0) > now then AV.toI (f (0 + Int.toNat (↑j : Int)) 0) else now) { c := AV.toI (f (0 + Int.toNat (↑j : Int)) (1)), h := AV.toI (f (0 + Int.toNat (↑j : Int)) (2)), e := AV.toI (f (0 + Int.toNat (↑j : Int)) (3)), u := AV.toI (f (0 + Int.toNat (↑j : Int)) (4)) } q m)) (idx (holdsQ (if AV.toI (f (0 + Int.toNat (↑j : Int)) 0) > now then AV.toI (f (0 + Int.toNat (↑j : Int)) 0) else now) (AV.toI (f (0 + Int.toNat (↑j : Int)) (1)))) (finL (aV (if AV.toI (f (0 + Int.toNat (↑j : Int)) 0) > now then AV.toI (f (0 + Int.toNat (↑j : Int)) 0) else now) { c := AV.toI (f (0 + Int.toNat (↑j : Int)) (1)), h := AV.toI (f (0 + Int.toNat (↑j : Int)) (2)), e := AV.toI (f (0 + Int.toNat (↑j : Int)) (3)), u := AV.toI (f (0 + Int.toNat (↑j : Int)) (4)) } q m)) (List.length (aV (if AV.toI (f (0 + Int.toNat (↑j : Int)) 0) > now then AV.toI (f (0 + Int.toNat (↑j : Int)) 0) else now) { c := AV.toI (f (0 + Int.toNat (↑j : Int)) (1)), h := AV.toI (f (0 + Int.toNat (↑j : Int)) (2)), e := AV.toI (f (0 + Int.toNat (↑j : Int)) (3)), u := AV.toI (f (0 + Int.toNat (↑j : Int)) (4)) } q m)))) == AV.toI (f (0 + Int.toNat (↑j : Int)) (2)) && (Ls.e (lsAt (finL (aV (if AV.toI (f (0 + Int.toNat (↑j : Int)) 0) > now then AV.toI (f (0 + Int.toNat (↑j : Int)) 0) else now) { c := AV.toI (f (0 + Int.toNat (↑j : Int)) (1)), h := AV.toI (f (0 + Int.toNat (↑j : Int)) (2)), e := AV.toI (f (0 + Int.toNat (↑j : Int)) (3)), u := AV.toI (f (0 + Int.toNat (↑j : Int)) (4)) } q m)) (idx (holdsQ (if AV.toI (f (0 + Int.toNat (↑j : Int)) 0) > now then AV.toI (f (0 + Int.toNat (↑j : Int)) 0) else now) (AV.toI (f (0 + Int.toNat (↑j : Int)) (1)))) (finL (aV (if AV.toI (f (0 + Int.toNat (↑j : Int)) 0) > now then AV.toI (f (0 + Int.toNat (↑j : Int)) 0) else now) { c := AV.toI (f (0 + Int.toNat (↑j : Int)) (1)), h := AV.toI (f (0 + Int.toNat (↑j : Int)) (2)), e := AV.toI (f (0 + Int.toNat (↑j : Int)) (3)), u := AV.toI (f (0 + Int.toNat (↑j : Int)) (4)) } q m)) (List.length (aV (if AV.toI (f (0 + Int.toNat (↑j : Int)) 0) > now then AV.toI (f (0 + Int.toNat (↑j : Int)) 0) else now) { c := AV.toI (f (0 + Int.toNat (↑j : Int)) (1)), h := AV.toI (f (0 + Int.toNat (↑j : Int)) (2)), e := AV.toI (f (0 + Int.toNat (↑j : Int)) (3)), u := AV.toI (f (0 + Int.toNat (↑j : Int)) (4)) } q m)))) == AV.toI (f (0 + Int.toNat (↑j : Int)) (3)) && (Ls.u (lsAt (finL (aV (if AV.toI (f (0 + Int.toNat (↑j : Int)) 0) > now then AV.toI (f (0 + Int.toNat (↑j : Int)) 0) else now) { c := AV.toI (f (0 + Int.toNat (↑j : Int)) (1)), h := AV.toI (f (0 + Int.toNat (↑j : Int)) (2)), e := AV.toI (f (0 + Int.toNat (↑j : Int)) (3)), u := AV.toI (f (0 + Int.toNat (↑j : Int)) (4)) } q m)) (idx (holdsQ (if AV.toI (f (0 + Int.toNat (↑j : Int)) 0) > now then AV.toI (f (0 + Int.toNat (↑j : Int)) 0) else now) (AV.toI (f (0 + Int.toNat (↑j : Int)) (1)))) (finL (aV (if AV.toI (f (0 + Int.toNat (↑j : Int)) 0) > now then AV.toI (f (0 + Int.toNat (↑j : Int)) 0) else now) { c := AV.toI (f (0 + Int.toNat (↑j : Int)) (1)), h := AV.toI (f (0 + Int.toNat (↑j : Int)) (2)), e := AV.toI (f (0 + Int.toNat (↑j : Int)) (3)), u := AV.toI (f (0 + Int.toNat (↑j : Int)) (4)) } q m)) (List.length (aV (if AV.toI (f (0 + Int.toNat (↑j : Int)) 0) > now then AV.toI (f (0 + Int.toNat (↑j : Int)) 0) else now) { c := AV.toI (f (0 + Int.toNat (↑j : Int)) (1)), h := AV.toI (f (0 + Int.toNat (↑j : Int)) (2)), e := AV.toI (f (0 + Int.toNat (↑j : Int)) (3)), u := AV.toI (f (0 + Int.toNat (↑j : Int)) (4)) } q m)))) == AV.toI (f (0 + Int.toNat (↑j : Int)) (4)) && true)))))
  (some (2, (CS.mk [(AV.bool (false))] [])))
  (some (0, (CS.mk [(AV.osl (false) (0) (0) (List.length (aV (if AV.toI (f (0 + Int.toNat (↑j : Int)) 0) > now then AV.toI (f (0 + Int.toNat (↑j : Int)) 0) else now) { c := AV.toI (f (0 + Int.toNat (↑j : Int)) (1)), h := AV.toI (f (0 + Int.toNat (↑j : Int)) (2)), e := AV.toI (f (0 + Int.toNat (↑j : Int)) (3)), u := AV.toI (f (0 + Int.toNat (↑j : Int)) (4)) } q m)) (List.length (aV (if AV.toI (f (0 + Int.toNat (↑j : Int)) 0) > now then AV.toI (f (0 + Int.toNat (↑j : Int)) 0) else now) { c := AV.toI (f (0 + Int.toNat (↑j : Int)) (1)), h := AV.toI (f (0 + Int.toNat (↑j : Int)) (2)), e := AV.toI (f (0 + Int.toNat (↑j : Int)) (3)), u := AV.toI (f (0 + Int.toNat (↑j : Int)) (4)) } q m)) (4) (true)), (AV.osl (false) (1) (0) (k + 1) (k + 1) (4) (true)), (AV.int IntKind.u64 (if AV.toI (f (0 + Int.toNat (↑j : Int)) 0) > now then AV.toI (f (0 + Int.toNat (↑j : Int)) 0) else now)), (AV.osl (nl) (2) (0) (n) (n) (5) (true)), (AV.int IntKind.i64 ((↑n : Int))), (AV.int IntKind.i64 (IntKind.wrap IntKind.i64 ((↑j : Int) + 1)))] [some (AObj.tarr [Sh.int IntKind.u64, Sh.int IntKind.i64, Sh.int IntKind.u64, Sh.int IntKind.u64] (List.length (aV (if AV.toI (f (0 + Int.toNat (↑j : Int)) 0) > now then AV.toI (f (0 + Int.toNat (↑j : Int)) 0) else now) { c := AV.toI (f (0 + Int.toNat (↑j : Int)) (1)), h := AV.toI (f (0 + Int.toNat (↑j : Int)) (2)), e := AV.toI (f (0 + Int.toNat (↑j : Int)) (3)), u := AV.toI (f (0 + Int.toNat (↑j : Int)) (4)) } q m)) (finL ((aV (if AV.toI (f (0 + Int.toNat (↑j : Int)) 0) > now then AV.toI (f (0 + Int.toNat (↑j : Int)) 0) else now) ({ c := AV.toI (f (0 + Int.toNat (↑j : Int)) (1)), h := AV.toI (f (0 + Int.toNat (↑j : Int)) (2)), e := AV.toI (f (0 + Int.toNat (↑j : Int)) (3)), u := AV.toI (f (0 + Int.toNat (↑j : Int)) (4)) }) q (m)))) true), some (AObj.tarr [Sh.int IntKind.u64, Sh.int IntKind.i64, Sh.int IntKind.u64, Sh.int IntKind.u64] (k + 1) (fjoin (fun p_ q_ => g (0 + p_) q_) (k) (rowsOf (4) [(AV.int IntKind.u64 (AV.toI (f (0 + Int.toNat (↑j : Int)) (1)))), (AV.int IntKind.i64 (AV.toI (f (0 + Int.toNat (↑j : Int)) (2)))), (AV.int IntKind.u64 (AV.toI (f (0 + Int.toNat (↑j : Int)) (3)))), (AV.int IntKind.u64 (AV.toI (f (0 + Int.toNat (↑j : Int)) (4))))] (1))) true), some (AObj.tarr [Sh.int IntKind.u64, Sh.int IntKind.u64, Sh.int IntKind.i64, Sh.int IntKind.u64, Sh.int IntKind.u64] (n) f false)]))))
  (some (2, (CS.mk [(AV.bool (false))] []))))
  none) none) none)
  none)
  none))
  none)
  none) none) none) none) none) none) none) none) none) none) none))))
  none) none) none)
  none) none)
  (some (1, (CS.mk [] [])))) := by kernel_rfl
theorem s4_eq (m : Nat) (q : Nat → Nat → AV) (k : Nat) (g : Nat → Nat → AV) (now : Int) (nl : Bool) (n : Nat) (f : Nat → Nat → AV) (j : Nat) : s4 m q k g now nl n f j s4_p = (cond (decide ((↑j : Int) < (↑n : Int)))
  (cond (Nat.blt (0 + Int.toNat (↑j : Int)) n)
  (cond (Nat.ble m 1000)
  (cond (argV (if AV.toI (f (0 + Int.toNat (↑j : Int)) 0) > now then AV.toI (f (0 + Int.toNat (↑j : Int)) 0) else now) { c := AV.toI (f (0 + Int.toNat (↑j : Int)) (1)), h := AV.toI (f (0 + Int.toNat (↑j : Int)) (2)), e := AV.toI (f (0 + Int.toNat (↑j : Int)) (3)), u := AV.toI (f (0 + Int.toNat (↑j : Int)) (4)) })
  (some (0, (CS.mk [(AV.osl (false) (0) (0) (m) (m) (4) (true)), (AV.osl (false) (1) (0) (k) (k) (4) (true)), (AV.int IntKind.u64 (if AV.toI (f (0 + Int.toNat (↑j : Int)) 0) > now then AV.toI (f (0 + Int.toNat (↑j : Int)) 0) else now)), (AV.osl (nl) (2) (0) (n) (n) (5) (true)), (AV.int IntKind.i64 ((↑n : Int))), (AV.int IntKind.i64 (IntKind.wrap IntKind.i64 ((↑j : Int) + 1)))] [some (AObj.tarr [Sh.int IntKind.u64, Sh.int IntKind.i64, Sh.int IntKind.u64, Sh.int IntKind.u64] (m) q true), some (AObj.tarr [Sh.int IntKind.u64, Sh.int IntKind.i64, Sh.int IntKind.u64, Sh.int IntKind.u64] (k) g true), some (AObj.tarr [Sh.int IntKind.u64, Sh.int IntKind.u64, Sh.int IntKind.i64, Sh.int IntKind.u64, Sh.int IntKind.u64] (n) f false)])))
  (cond (Nat.blt (idx (busyQ (if AV.toI (f (0 + Int.toNat (↑j : Int)) 0) > now then AV.toI (f (0 + Int.toNat (↑j : Int)) 0) else now) { c := AV.toI (f (0 + Int.toNat (↑j : Int)) (1)), h := AV.toI (f (0 + Int.toNat (↑j : Int)) (2)), e := AV.toI (f (0 + Int.toNat (↑j : Int)) (3)), u := AV.toI (f (0 + Int.toNat (↑j : Int)) (4)) }) q m) m)
  (some (0, (CS.mk [(AV.osl (false) (0) (0) (m) (m) (4) (true)), (AV.osl (false) (1) (0) (k) (k) (4) (true)), (AV.int IntKind.u64 (if AV.toI (f (0 + Int.toNat (↑j : Int)) 0) > now then AV.toI (f (0 + Int.toNat (↑j : Int)) 0) else now)), (AV.osl (nl) (2) (0) (n) (n) (5) (true)), (AV.int IntKind.i64 ((↑n : Int))), (AV.int IntKind.i64 (IntKind.wrap IntKind.i64 ((↑j : Int) + 1)))] [some (AObj.tarr [Sh.int IntKind.u64, Sh.int IntKind.i64, Sh.int IntKind.u64, Sh.int IntKind.u64] (m) q true), some (AObj.tarr [Sh.int IntKind.u64, Sh.int IntKind.i64, Sh.int IntKind.u64, Sh.int IntKind.u64] (k) g true), some (AObj.tarr [Sh.int IntKind.u64, Sh.int IntKind.u64, Sh.int IntKind.i64, Sh.int IntKind.u64, Sh.int IntKind.u64] (n) f false)])))
  (cond (Nat.blt (idx (newerQ { c := AV.toI (f (0 + Int.toNat (↑j : Int)) (1)), h := AV.toI (f (0 + Int.toNat (↑j : Int)) (2)), e := AV.toI (f (0 + Int.toNat (↑j : Int)) (3)), u := AV.toI (f (0 + Int.toNat (↑j : Int)) (4)) }) q m) m)
  (some (0, (CS.mk [(AV.osl (false) (0) (0) (m) (m) (4) (true)), (AV.osl (false) (1) (0) (k) (k) (4) (true)), (AV.int IntKind.u64 (if AV.toI (f (0 + Int.toNat (↑j : Int)) 0) > now then AV.toI (f (0 + Int.toNat (↑j : Int)) 0) else now)), (AV.osl (nl) (2) (0) (n) (n) (5) (true)), (AV.int IntKind.i64 ((↑n : Int))), (AV.int IntKind.i64 (IntKind.wrap IntKind.i64 ((↑j : Int) + 1)))] [some (AObj.tarr [Sh.int IntKind.u64, Sh.int IntKind.i64, Sh.int IntKind.u64, Sh.int IntKind.u64] (m) q true), some (AObj.tarr [Sh.int IntKind.u64, Sh.int IntKind.i64, Sh.int IntKind.u64, Sh.int IntKind.u64] (k) g true), some (AObj.tarr [Sh.int IntKind.u64, Sh.int IntKind.u64, Sh.int IntKind.i64, Sh.int IntKind.u64, Sh.int IntKind.u64] (n) f false)])))
  (cond (Nat.ble k 1000)
  (cond (okG (if AV.toI (f (0 + Int.toNat (↑j : Int)) 0) > now then AV.toI (f (0 + Int.toNat (↑j : Int)) 0) else now) (AV.toI (f (0 + Int.toNat (↑j : Int)) (1))) (AV.toI (f (0 + Int.toNat (↑j : Int)) (2))) g (k))
  (cond (Nat.ble ((k) + (1)) (k)) none (cond (growB (32) (k + 1))
  (cond (Nat.ble (0 + k) k)
  (cond (Nat.ble (List.length (aV (if AV.toI (f (0 + Int.toNat (↑j : Int)) 0) > now then AV.toI (f (0 + Int.toNat (↑j : Int)) 0) else now) { c := AV.toI (f (0 + Int.toNat (↑j : Int)) (1)), h := AV.toI (f (0 + Int.toNat (↑j : Int)) (2)), e := AV.toI (f (0 + Int.toNat (↑j : Int)) (3)), u := AV.toI (f (0 + Int.toNat (↑j : Int)) (4)) } q m)) 1000)
  (cond (Nat.blt (idx (holdsQ (if AV.toI (f (0 + Int.toNat (↑j : Int)) 0) > now then AV.toI (f (0 + Int.toNat (↑j : Int)) 0) else now) (AV.toI (f (0 + Int.toNat (↑j : Int)) (1)))) (finL (aV (if AV.toI (f (0 + Int.toNat (↑j : Int)) 0) > now then AV.toI (f (0 + Int.toNat (↑j : Int)) 0) else now) { c := AV.toI (f (0 + Int.toNat (↑j : Int)) (1)), h := AV.toI (f (0 + Int.toNat (↑j : Int)) (2)), e := AV.toI (f (0 + Int.toNat (↑j : Int)) (3)), u := AV.toI (f (0 + Int.toNat (↑j : Int)) (4)) } q m)) (List.length (aV (if AV.toI (f (0 + Int.toNat (↑j : Int)) 0) > now then AV.toI (f (0 + Int.toNat (↑j : Int)) 0) else now) { c := AV.toI (f (0 + Int.toNat (↑j : Int)) (1)), h := AV.toI (f (0 + Int.toNat (↑j : Int)) (2)), e := AV.toI (f (0 + Int.toNat (↑j : Int)) (3)), u := AV.toI (f (0 + Int.toNat (↑j : Int)) (4)) } q m))) (List.length (aV (if AV.toI (f (0 + Int.toNat (↑j : Int)) 0) > now then AV.toI (f (0 + Int.toNat (↑j : Int)) 0) else now) { c := AV.toI (f (0 + Int.toNat (↑j : Int)) (1)), h := AV.toI (f (0 + Int.toNat (↑j : Int)) (2)), e := AV.toI (f (0 + Int.toNat (↑j : Int)) (3)), u := AV.toI (f (0 + Int.toNat (↑j : Int)) (4)) } q m)))
  (cond (Ls.c (lsAt (finL (aV (if AV.toI (f (0 + Int.toNat (↑j : Int)) 0) > now then AV.toI (f (0 + Int.toNat (↑j : Int)) 0) else now) { c := AV.toI (f (0 + Int.toNat (↑j : Int)) (1)), h := AV.toI (f (0 + Int.toNat (↑j : Int)) (2)), e := AV.toI (f (0 + Int.toNat (↑j : Int)) (3)), u := AV.toI (f (0 + Int.toNat (↑j : Int)) (4)) } q m)) (idx (holdsQ (if AV.toI (f (0 + Int.toNat (↑j : Int)) 0) > now then AV.toI (f (0 + Int.toNat (↑j : Int)) 0) else now) (AV.toI (f (0 + Int.toNat (↑j : Int)) (1)))) (finL (aV (if AV.toI (f (0 + Int.toNat (↑j : Int)) 0) > now then AV.toI (f (0 + Int.toNat (↑j : Int)) 0) else now) { c := AV.toI (f (0 + Int.toNat (↑j : Int)) (1)), h := AV.toI (f (0 + Int.toNat (↑j : Int)) (2)), e := AV.toI (f (0 + Int.toNat (↑j : Int)) (3)), u := AV.toI (f (0 + Int.toNat (↑j : Int)) (4)) } q m)) (List.length (aV (if AV.toI (f (0 + Int.toNat (↑j : Int)) 0) > now then AV.toI (f (0 + Int.toNat (↑j : Int)) 0) else now) { c := AV.toI (f (0 + Int.toNat (↑j : Int)) (1)), h := AV.toI (f (0 + Int.toNat (↑j : Int)) (2)), e := AV.toI (f (0 + Int.toNat (↑j : Int)) (3)), u := AV.toI (f (0 + Int.toNat (↑j : Int)) (4)) } q m)))) == AV.toI (f (0 + Int.toNat (↑j : Int)) (1)) && (Ls.h (lsAt (finL (aV (if AV.toI (f (0 + Int.toNat (↑j : Int)) 0) > now then AV.toI (f (0 + Int.toNat (↑j : Int)) 0) else now) { c := AV.toI (f (0 + Int.toNat (↑j : Int)) (1)), h := AV.toI (f (0 + Int.toNat (↑j : Int)) (2)), e := AV.toI (f (0 + Int.toNat (↑j : Int)) (3)), u := AV.toI (f (0 + Int.toNat (↑j : Int)) (4)) } q m)) (idx (holdsQ (if AV.toI (f (0 + Int.toNat (↑j : Int)) 0) > now then AV.toI (f (0 + Int.toNat (↑j : Int)) 0) else now) (AV.toI (f (0 + Int.toNat (↑j : Int)) (1)))) (finL (aV (if AV.toI (f (0 + Int.toNat (↑j : Int)) 0) > now then AV.toI (f (0 + Int.toNat (↑j : Int)) 0) else now) { c := AV.toI (f (0 + Int.toNat (↑j : Int)) (1)), h := AV.toI (f (0 + Int.toNat (↑j : Int)) (2)), e := AV.toI (f (0 + Int.toNat (↑j : Int)) (3)), u := AV.toI (f (0 + Int.toNat (↑j : Int)) (4)) } q m)) (List.length (aV (if AV.toI (f (0 + Int.toNat (↑j : Int)) 0) > now then AV.toI (f (0 + Int.toNat (↑j : Int)) 0) else now) { c := AV.toI (f (0 + Int.toNat (↑j : Int)) (1)), h := AV.toI (f (0 + Int.toNat (↑j : Int)) (2)), e := AV.toI (f (0 + Int.toNat (↑j : Int)) (3)), u := AV.toI (f (0 + Int.toNat (↑j : Int)) (4)) } q m)))) == AV.toI (f (0 + Int.toNat (↑j : Int)) (2)) && (Ls.e (lsAt (finL (aV (if AV.toI (f (0 + Int.toNat (↑j : Int)) 0) > now then AV.toI (f (0 + Int.toNat (↑j : Int)) 0) else now) { c := AV.toI (f (0 + Int.toNat (↑j : Int)) (1)), h := AV.toI (f (0 + Int.toNat (↑j : Int)) (2)), e := AV.toI (f (0 + Int.toNat (↑j : Int)) (3)), u := AV.toI (f (0 + Int.toNat (↑j : Int)) (4)) } q m)) (idx (holdsQ (if AV.toI (f (0 + Int.toNat (↑j : Int)) 0) > now then AV.toI (f (0 + Int.toNat (↑j : Int)) 0) else now) (AV.toI (f (0 + Int.toNat (↑j : Int)) (1)))) (finL (aV (if AV.toI (f (0 + Int.toNat (↑j : Int)) 0) > now then AV.toI (f (0 + Int.toNat (↑j : Int)) 0) else now) { c := AV.toI (f (0 + Int.toNat (↑j : Int)) (1)), h := AV.toI (f (0 + Int.toNat (↑j : Int)) (2)), e := AV.toI (f (0 + Int.toNat (↑j : Int)) (3)), u := AV.toI (f (0 + Int.toNat (↑j : Int)) (4)) } q m)) (List.length (aV (if AV.toI (f (0 + Int.toNat (↑j : Int)) 0) > now then AV.toI (f (0 + Int.toNat (↑j : Int)) 0) else now) { c := AV.toI (f (0 + Int.toNat (↑j : Int)) (1)), h := AV.toI (f (0 + Int.toNat (↑j : Int)) (2)), e := AV.toI (f (0 + Int.toNat (↑j : Int)) (3)), u := AV.toI (f (0 + Int.toNat (↑j : Int)) (4)) } q m)))) == AV.toI (f (0 + Int.toNat (↑j : Int)) (3)) && (Ls.u (lsAt (finL (aV (if AV.toI (f (0 + Int.toNat (↑j : Int)) 0) > now then AV.toI (f (0 + Int.toNat (↑j : Int)) 0) else now) { c := AV.toI (f (0 + Int.toNat (↑j : Int)) (1)), h := AV.toI (f (0 + Int.toNat (↑j : Int)) (2)), e := AV.toI (f (0 + Int.toNat (↑j : Int)) (3)), u := AV.toI (f (0 + Int.toNat (↑j : Int)) (4)) } q m)) (idx (holdsQ (if AV.toI (f (0 + Int.toNat (↑j : Int)) 0) > now then AV.toI (f (0 + Int.toNat (↑j : Int)) 0) else now) (AV.toI (f (0 + Int.toNat (↑j : Int)) (1)))) (finL (aV (if AV.toI (f (0 + Int.toNat (↑j : Int)) 0) > now then AV.toI (f (0 + Int.toNat (↑j : Int)) 0) else now) { c := AV.toI (f (0 + Int.toNat (↑j : Int)) (1)), h := AV.toI (f (0 + Int.toNat (↑j : Int)) (2)), e := AV.toI (f (0 + Int.toNat (↑j : Int)) (3)), u := AV.toI (f (0 + Int.toNat (↑j : Int)) (4)) } q m)) (List.length (aV (if AV.toI (f (0 + Int.toNat (↑j : Int)) 0) > now then AV.toI (f (0 + Int.toNat (↑j : Int)) 0) else now) { c := AV.toI (f (0 + Int.toNat (↑j : Int)) (1)), h := AV.toI (f (0 + Int.toNat (↑j : Int)) (2)), e := AV.toI (f (0 + Int.toNat (↑j : Int)) (3)), u := AV.toI (f (0 + Int.toNat (↑j : Int)) (4)) } q m)))) == AV.toI (f (0 + Int.toNat (↑j : Int)) (4)) && true))))
  (some (0, (CS.mk [(AV.osl (false) (0) (0) (List.length (aV (if AV.toI (f (0 + Int.toNat (↑j : Int)) 0) > now then AV.toI (f (0 + Int.toNat (↑j : Int)) 0) else now) { c := AV.toI (f (0 + Int.toNat (↑j : Int)) (1)), h := AV.toI (f (0 + Int.toNat (↑j : Int)) (2)), e := AV.toI (f (0 + Int.toNat (↑j : Int)) (3)), u := AV.toI (f (0 + Int.toNat (↑j : Int)) (4)) } q m)) (List.length (aV (if AV.toI (f (0 + Int.toNat (↑j : Int)) 0) > now then AV.toI (f (0 + Int.toNat (↑j : Int)) 0) else now) { c := AV.toI (f (0 + Int.toNat (↑j : Int)) (1)), h := AV.toI (f (0 + Int.toNat (↑j : Int)) (2)), e := AV.toI (f (0 + Int.toNat (↑j : Int)) (3)), u := AV.toI (f (0 + Int.toNat (↑j : Int)) (4)) } q m)) (4) (true)), (AV.osl (false) (1) (0) (k + 1) (k + 1) (4) (true)), (AV.int IntKind.u64 (if AV.toI (f (0 + Int.toNat (↑j : Int)) 0) > now then AV.toI (f (0 + Int.toNat (↑j : Int)) 0) else now)), (AV.osl (nl) (2) (0) (n) (n) (5) (true)), (AV.int IntKind.i64 ((↑n : Int))), (AV.int IntKind.i64 (IntKind.wrap IntKind.i64 ((↑j : Int) + 1)))] [some (AObj.tarr [Sh.int IntKind.u64, Sh.int IntKind.i64, Sh.int IntKind.u64, Sh.int IntKind.u64] (List.length (aV (if AV.toI (f (0 + Int.toNat (↑j : Int)) 0) > now then AV.toI (f (0 + Int.toNat (↑j : Int)) 0) else now) { c := AV.toI (f (0 + Int.toNat (↑j : Int)) (1)), h := AV.toI (f (0 + Int.toNat (↑j : Int)) (2)), e := AV.toI (f (0 + Int.toNat (↑j : Int)) (3)), u := AV.toI (f (0 + Int.toNat (↑j : Int)) (4)) } q m)) (finL ((aV (if AV.toI (f (0 + Int.toNat (↑j : Int)) 0) > now then AV.toI (f (0 + Int.toNat (↑j : Int)) 0) else now) ({ c := AV.toI (f (0 + Int.toNat (↑j : Int)) (1)), h := AV.toI (f (0 + Int.toNat (↑j : Int)) (2)), e := AV.toI (f (0 + Int.toNat (↑j : Int)) (3)), u := AV.toI (f (0 + Int.toNat (↑j : Int)) (4)) }) q (m)))) true), some (AObj.tarr [Sh.int IntKind.u64, Sh.int IntKind.i64, Sh.int IntKind.u64, Sh.int IntKind.u64] (k + 1) (fjoin (fun p_ q_ => g (0 + p_) q_) (k) (rowsOf (4) [(AV.int IntKind.u64 (AV.toI (f (0 + Int.toNat (↑j : Int)) (1)))), (AV.int IntKind.i64 (AV.toI (f (0 + Int.toNat (↑j : Int)) (2)))), (AV.int IntKind.u64 (AV.toI (f (0 + Int.toNat (↑j : Int)) (3)))), (AV.int IntKind.u64 (AV.toI (f (0 + Int.toNat (↑j : Int)) (4))))] (1))) true), some (AObj.tarr [Sh.int IntKind.u64, Sh.int IntKind.u64, Sh.int IntKind.i64, Sh.int IntKind.u64, Sh.int IntKind.u64] (n) f false)])))
  (some (2, (CS.mk [(AV.bool (false))] []))))
  (some (2, (CS.mk [(AV.bool (false))] []))))
  none)
  none)
  none))
  none)
  none))))
  none)
  none)
  (some (1, (CS.mk [] [])))) := by
  rw [s4_is]
  try simp only [eq_self, decide_true, beq_self_eq_true, Nat.beq_refl, ble_self, Int.le_refl, Nat.le_refl]
  cases (decide ((↑j : Int) < (↑n : Int))) with
  | true =>
    cases (Nat.blt (0 + Int.toNat (↑j : Int)) n) with
    | true =>
      cases (Nat.ble m 1000) with
      | true =>
        cases (argV (if AV.toI (f (0 + Int.toNat (↑j : Int)) 0) > now then AV.toI (f (0 + Int.toNat (↑j : Int)) 0) else now) { c := AV.toI (f (0 + Int.toNat (↑j : Int)) (1)), h := AV.toI (f (0 + Int.toNat (↑j : Int)) (2)), e := AV.toI (f (0 + Int.toNat (↑j : Int)) (3)), u := AV.toI (f (0 + Int.toNat (↑j : Int)) (4)) }) with
        | true =>
          rfl
        | false =>
          cases (Nat.blt (idx (busyQ (if AV.toI (f (0 + Int.toNat (↑j : Int)) 0) > now then AV.toI (f (0 + Int.toNat (↑j : Int)) 0) else now) { c := AV.toI (f (0 + Int.toNat (↑j : Int)) (1)), h := AV.toI (f (0 + Int.toNat (↑j : Int)) (2)), e := AV.toI (f (0 + Int.toNat (↑j : Int)) (3)), u := AV.toI (f (0 + Int.toNat (↑j : Int)) (4)) }) q m) m) with
          | true =>
            rfl
          | false =>
            cases (Nat.blt (idx (newerQ { c := AV.toI (f (0 + Int.toNat (↑j : Int)) (1)), h := AV.toI (f (0 + Int.toNat (↑j : Int)) (2)), e := AV.toI (f (0 + Int.toNat (↑j : Int)) (3)), u := AV.toI (f (0 + Int.toNat (↑j : Int)) (4)) }) q m) m) with
            | true =>
              rfl
            | false =>
              cases (Nat.ble k 1000) with
              | true =>
                cases (okG (if AV.toI (f (0 + Int.toNat (↑j : Int)) 0) > now then AV.toI (f (0 + Int.toNat (↑j : Int)) 0) else now) (AV.toI (f (0 + Int.toNat (↑j : Int)) (1))) (AV.toI (f (0 + Int.toNat (↑j : Int)) (2))) g (k)) with
                | true =>
                  cases (growB (32) (k + 1)) with
                  | true =>
                    cases (Nat.ble (0 + k) k) with
                    | true =>
                      cases (Nat.ble (List.length (aV (if AV.toI (f (0 + Int.toNat (↑j : Int)) 0) > now then AV.toI (f (0 + Int.toNat (↑j : Int)) 0) else now) { c := AV.toI (f (0 + Int.toNat (↑j : Int)) (1)), h := AV.toI (f (0 + Int.toNat (↑j : Int)) (2)), e := AV.toI (f (0 + Int.toNat (↑j : Int)) (3)), u := AV.toI (f (0 + Int.toNat (↑j : Int)) (4)) } q m)) 1000) with
                      | true =>
                        cases (Nat.blt (idx (holdsQ (if AV.toI (f (0 + Int.toNat (↑j : Int)) 0) > now then AV.toI (f (0 + Int.toNat (↑j : Int)) 0) else now) (AV.toI (f (0 + Int.toNat (↑j : Int)) (1)))) (finL (aV (if AV.toI (f (0 + Int.toNat (↑j : Int)) 0) > now then AV.toI (f (0 + Int.toNat (↑j : Int)) 0) else now) { c := AV.toI (f (0 + Int.toNat (↑j : Int)) (1)), h := AV.toI (f (0 + Int.toNat (↑j : Int)) (2)), e := AV.toI (f (0 + Int.toNat (↑j : Int)) (3)), u := AV.toI (f (0 + Int.toNat (↑j : Int)) (4)) } q m)) (List.length (aV (if AV.toI (f (0 + Int.toNat (↑j : Int)) 0) > now then AV.toI (f (0 + Int.toNat (↑j : Int)) 0) else now) { c := AV.toI (f (0 + Int.toNat (↑j : Int)) (1)), h := AV.toI (f (0 + Int.toNat (↑j : Int)) (2)), e := AV.toI (f (0 + Int.toNat (↑j : Int)) (3)), u := AV.toI (f (0 + Int.toNat (↑j : Int)) (4)) } q m))) (List.length (aV (if AV.toI (f (0 + Int.toNat (↑j : Int)) 0) > now then AV.toI (f (0 + Int.toNat (↑j : Int)) 0) else now) { c := AV.toI (f (0 + Int.toNat (↑j : Int)) (1)), h := AV.toI (f (0 + Int.toNat (↑j : Int)) (2)), e := AV.toI (f (0 + Int.toNat (↑j : Int)) (3)), u := AV.toI (f (0 + Int.toNat (↑j : Int)) (4)) } q m))) with
                        | true =>
                          cases (Ls.c (lsAt (finL (aV (if AV.toI (f (0 + Int.toNat (↑j : Int)) 0) > now then AV.toI (f (0 + Int.toNat (↑j : Int)) 0) else now) { c := AV.toI (f (0 + Int.toNat (↑j : Int)) (1)), h := AV.toI (f (0 + Int.toNat (↑j : Int)) (2)), e := AV.toI (f (0 + Int.toNat (↑j : Int)) (3)), u := AV.toI (f (0 + Int.toNat (↑j : Int)) (4)) } q m)) (idx (holdsQ (if AV.toI (f (0 + Int.toNat (↑j : Int)) 0) > now then AV.toI (f (0 + Int.toNat (↑j : Int)) 0) else now) (AV.toI (f (0 + Int.toNat (↑j : Int)) (1)))) (finL (aV (if AV.toI (f (0 + Int.toNat (↑j : Int)) 0) > now then AV.toI (f (0 + Int.toNat (↑j : Int)) 0) else now) { c := AV.toI (f (0 + Int.toNat (↑j : Int)) (1)), h := AV.toI (f (0 + Int.toNat (↑j : Int)) (2)), e := AV.toI (f (0 + Int.toNat (↑j : Int)) (3)), u := AV.toI (f (0 + Int.toNat (↑j : Int)) (4)) } q m)) (List.length (aV (if AV.toI (f (0 + Int.toNat (↑j : Int)) 0) > now then AV.toI (f (0 + Int.toNat (↑j : Int)) 0) else now) { c := AV.toI (f (0 + Int.toNat (↑j : Int)) (1)), h := AV.toI (f (0 + Int.toNat (↑j : Int)) (2)), e := AV.toI (f (0 + Int.toNat (↑j : Int)) (3)), u := AV.toI (f (0 + Int.toNat (↑j : Int)) (4)) } q m)))) == AV.toI (f (0 + Int.toNat (↑j : Int)) (1)) && (Ls.h (lsAt (finL (aV (if AV.toI (f (0 + Int.toNat (↑j : Int)) 0) > now then AV.toI (f (0 + Int.toNat (↑j : Int)) 0) else now) { c := AV.toI (f (0 + Int.toNat (↑j : Int)) (1)), h := AV.toI (f (0 + Int.toNat (↑j : Int)) (2)), e := AV.toI (f (0 + Int.toNat (↑j : Int)) (3)), u := AV.toI (f (0 + Int.toNat (↑j : Int)) (4)) } q m)) (idx (holdsQ (if AV.toI (f (0 + Int.toNat (↑j : Int)) 0) > now then AV.toI (f (0 + Int.toNat (↑j : Int)) 0) else now) (AV.toI (f (0 + Int.toNat (↑j : Int)) (1)))) (finL (aV (if AV.toI (f (0 + Int.toNat (↑j : Int)) 0) > now then AV.toI (f (0 + Int.toNat (↑j : Int)) 0) else now) { c := AV.toI (f (0 + Int.toNat (↑j : Int)) (1)), h := AV.toI (f (0 + Int.toNat (↑j : Int)) (2)), e := AV.toI (f (0 + Int.toNat (↑j : Int)) (3)), u := AV.toI (f (0 + Int.toNat (↑j : Int)) (4)) } q m)) (List.length (aV (if AV.toI (f (0 + Int.toNat (↑j : Int)) 0) > now then AV.toI (f (0 + Int.toNat (↑j : Int)) 0) else now) { c := AV.toI (f (0 + Int.toNat (↑j : Int)) (1)), h := AV.toI (f (0 + Int.toNat (↑j : Int)) (2)), e := AV.toI (f (0 + Int.toNat (↑j : Int)) (3)), u := AV.toI (f (0 + Int.toNat (↑j : Int)) (4)) } q m)))) == AV.toI (f (0 + Int.toNat (↑j : Int)) (2)) && (Ls.e (lsAt (finL (aV (if AV.toI (f (0 + Int.toNat (↑j : Int)) 0) > now then AV.toI (f (0 + Int.toNat (↑j : Int)) 0) else now) { c := AV.toI (f (0 + Int.toNat (↑j : Int)) (1)), h := AV.toI (f (0 + Int.toNat (↑j : Int)) (2)), e := AV.toI (f (0 + Int.toNat (↑j : Int)) (3)), u := AV.toI (f (0 + Int.toNat (↑j : Int)) (4)) } q m)) (idx (holdsQ (if AV.toI (f (0 + Int.toNat (↑j : Int)) 0) > now then AV.toI (f (0 + Int.toNat (↑j : Int)) 0) else now) (AV.toI (f (0 + Int.toNat (↑j : Int)) (1)))) (finL (aV (if AV.toI (f (0 + Int.toNat (↑j : Int)) 0) > now then AV.toI (f (0 + Int.toNat (↑j : Int)) 0) else now) { c := AV.toI (f (0 + Int.toNat (↑j : Int)) (1)), h := AV.toI (f (0 + Int.toNat (↑j : Int)) (2)), e := AV.toI (f (0 + Int.toNat (↑j : Int)) (3)), u := AV.toI (f (0 + Int.toNat (↑j : Int)) (4)) } q m)) (List.length (aV (if AV.toI (f (0 + Int.toNat (↑j : Int)) 0) > now then AV.toI (f (0 + Int.toNat (↑j : Int)) 0) else now) { c := AV.toI (f (0 + Int.toNat (↑j : Int)) (1)), h := AV.toI (f (0 + Int.toNat (↑j : Int)) (2)), e := AV.toI (f (0 + Int.toNat (↑j : Int)) (3)), u := AV.toI (f (0 + Int.toNat (↑j : Int)) (4)) } q m)))) == AV.toI (f (0 + Int.toNat (↑j : Int)) (3)) && (Ls.u (lsAt (finL (aV (if AV.toI (f (0 + Int.toNat (↑j : Int)) 0) > now then AV.toI (f (0 + Int.toNat (↑j : Int)) 0) else now) { c := AV.toI (f (0 + Int.toNat (↑j : Int)) (1)), h := AV.toI (f (0 + Int.toNat (↑j : Int)) (2)), e := AV.toI (f (0 + Int.toNat (↑j : Int)) (3)), u := AV.toI (f (0 + Int.toNat (↑j : Int)) (4)) } q m)) (idx (holdsQ (if AV.toI (f (0 + Int.toNat (↑j : Int)) 0) > now then AV.toI (f (0 + Int.toNat (↑j : Int)) 0) else now) (AV.toI (f (0 + Int.toNat (↑j : Int)) (1)))) (finL (aV (if AV.toI (f (0 + Int.toNat (↑j : Int)) 0) > now then AV.toI (f (0 + Int.toNat (↑j : Int)) 0) else now) { c := AV.toI (f (0 + Int.toNat (↑j : Int)) (1)), h := AV.toI (f (0 + Int.toNat (↑j : Int)) (2)), e := AV.toI (f (0 + Int.toNat (↑j : Int)) (3)), u := AV.toI (f (0 + Int.toNat (↑j : Int)) (4)) } q m)) (List.length (aV (if AV.toI (f (0 + Int.toNat (↑j : Int)) 0) > now then AV.toI (f (0 + Int.toNat (↑j : Int)) 0) else now) { c := AV.toI (f (0 + Int.toNat (↑j : Int)) (1)), h := AV.toI (f (0 + Int.toNat (↑j : Int)) (2)), e := AV.toI (f (0 + Int.toNat (↑j : Int)) (3)), u := AV.toI (f (0 + Int.toNat (↑j : Int)) (4)) } q m)))) == AV.toI (f (0 + Int.toNat (↑j : Int)) (4)) && true)))) with
                          | true =>
                            rfl
                          | false =>
                            rfl
                        | false =>
                          rfl
                      | false =>
                        rfl
                    | false =>
                      rfl
                  | false =>
                    rfl
                | false =>
                  rfl
              | false =>
                rfl
      | false =>
        rfl
    | false =>
      rfl
  | false =>
    rfl
end Go.Proofs.Ytckpljmiodgejaa.placeOne
