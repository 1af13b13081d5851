/- Part 1 of the texts that YtgflmdjlpjjnaaaLawSure needs: an abstract machine, and what it reckons. No condition. -/
import Derived.Test.YtgflmdjlpjjnaaaRows
import Derived.Test.YtgflmdjlpjjnaaaBmVk
import Derived.KernelRfl
section
set_option linter.unusedSimpArgs false
set_option linter.unusedVariables false
set_option maxRecDepth 20000
namespace Go.Proofs.Ytgflmdjlpjjnaaa.desk
open Go Go.Proofs.Ytgflmdjlpjjnaaa.Bm
noncomputable def E0 : Env := mkEnv Try.prog 120 82
abbrev shU : List Sh := [.int .u64]
abbrev shI : List Sh := [.int .i64]
abbrev shW : List Sh := [.int .u64, .int .u64, .int .u64, .int .u32, .int .u32, .int .u64]
def swp (f : Nat → Nat → AV) (j : Nat) (a b : Nat) : AV := cond (Nat.beq a j) (.int .u64 (f (j - 1) 0).toI) (cond (Nat.beq a (j - 1)) (.int .u64 (f j 0).toI) (f a b))
def ins1 : Nat → (Nat → Nat → AV) → Nat → Nat → AV
 | 0, f => f
 | j + 1, f => cond (decide ((f (j + 1) 0).toI < (f j 0).toI)) (ins1 j (swp f (j + 1))) f
def sort1 : Nat → Nat → (Nat → Nat → AV) → Nat → Nat → AV
 | 0, _, f => f
 | k + 1, i, f => sort1 k (i + 1) (ins1 i f)
theorem insVE : ∃ q : Nat → (Nat → Nat → AV) → Nat → Nat → AV, q = ins1 := ⟨_, rfl⟩
noncomputable def insV : Nat → (Nat → Nat → AV) → Nat → Nat → AV := Classical.choose insVE
theorem insV_eq : insV = ins1 := Classical.choose_spec insVE
theorem srtVE : ∃ q : Nat → Nat → (Nat → Nat → AV) → Nat → Nat → AV, q = sort1 := ⟨_, rfl⟩
noncomputable def srtV : Nat → Nat → (Nat → Nat → AV) → Nat → Nat → AV := Classical.choose srtVE
theorem srtV_eq : srtV = sort1 := Classical.choose_spec srtVE
def h472 : Pat := ⟨49, [(0, .asl shU), (1, .keep), (2, .keep), (6, .keep), (7, .keep)], []⟩
def x472 : List (Ex × Pat) := [(.exit 2, ⟨49, [(0, .asl shU), (1, .keep), (2, .keep), (6, .keep)], []⟩)]
def h470 : Pat := ⟨49, [(0, .asl shU), (1, .keep), (2, .keep), (6, .keep)], []⟩
def x470 : List (Ex × Pat) := [(.exit 0, ⟨49, [], []⟩)]
def a63 (x : Int) : CS :=
 ⟨[.int .u64 x], []⟩
noncomputable def f63B  (x : Int) : T (CS) :=
 .ret ⟨[.bool false], []⟩
noncomputable def f63  (c : CS) : T (CS) := match c with
 | ⟨[.int .u64 x], []⟩ => chkT [] (f63B  x)
 | _ => .fail
def a53 (x : Int) (y : Int) : CS :=
 ⟨[.int .u64 x, .int .u64 y], []⟩
noncomputable def E1 : Env := addF E0 63 ⟨frRun [.keep] [] f63⟩
noncomputable def f53B  (x : Int) (y : Int) : T (CS) :=
 .ret ⟨[.bool (decide (x < y))], []⟩
noncomputable def f53  (c : CS) : T (CS) := match c with
 | ⟨[.int .u64 x, .int .u64 y], []⟩ => chkT [] (f53B  x y)
 | _ => .fail
noncomputable def E2 : Env := addF E1 53 ⟨frRun [.keep, .keep] [] f53⟩
def c472 (n : Nat) (f : Nat → Nat → AV) (i : Nat) (j : Nat) : CS :=
 ⟨[.osl false 0 0 n n 1 true, .int .i64 0, .int .i64 (n : Nat), .int .i64 (i : Nat), .int .i64 (j : Nat)], [some (.tarr shU n f true)]⟩
noncomputable def r472B  (n : Nat) (f : Nat → Nat → AV) (i : Nat) (j : Nat) : T (Nat × CS) :=
 chkT [Nat.blt j n, Nat.ble n 12] (.ret (1, ⟨[.osl false 0 0 n n 1 true, .int .i64 0, .int .i64 (n : Nat), .int .i64 (i : Nat)], [some (.tarr shU n (insV j f) true)]⟩))
noncomputable def r472  (c : CS) : T (Nat × CS) := match c with
 | ⟨[.osl z_1 0 0 n z_2 1 true, .int .i64 z_3, .int .i64 z_4, .int .i64 (.ofNat i), .int .i64 (.ofNat j)], [some (.tarr sh_5 z_6 f true)]⟩ => chkT [decide (false = z_1), decide (n = z_2), decide (0 = z_3), decide ((n : Nat) = z_4), shBeq sh_5 shU, decide (n = z_6)] (r472B  n f i j)
 | _ => .fail
noncomputable def E3 : Env := addL E2 47 2 1000000 h472 x472 1 r472
def c470 (n : Nat) (f : Nat → Nat → AV) (i : Nat) : CS :=
 ⟨[.osl false 0 0 n n 1 true, .int .i64 0, .int .i64 (n : Nat), .int .i64 (i : Nat)], [some (.tarr shU n f true)]⟩
noncomputable def r470B  (n : Nat) (f : Nat → Nat → AV) : T (Nat × CS) :=
 chkT [Nat.ble n 12] (.ret (1, ⟨[], [some (.tarr shU n (srtV (n - 1) 1 f) true)]⟩))
noncomputable def r470  (c : CS) : T (Nat × CS) := match c with
 | ⟨[.osl z_1 0 0 n z_2 1 true, .int .i64 z_3, .int .i64 z_4, .int .i64 z_5], [some (.tarr sh_6 z_7 f true)]⟩ => chkT [decide (false = z_1), decide (n = z_2), decide (0 = z_3), decide ((n : Nat) = z_4), decide (1 = z_5), shBeq sh_6 shU, decide (n = z_7)] (r470B  n f)
 | _ => .fail
noncomputable def E4 : Env := addL E3 47 0 1000001 h470 x470 1 r470
def a47 (n : Nat) (f : Nat → Nat → AV) : CS :=
 ⟨[.osl false 0 0 n n 1 true, .int .i64 0, .int .i64 (n : Nat)], [some (.tarr shU n f true)]⟩
noncomputable def f47B  (n : Nat) (f : Nat → Nat → AV) : T (CS) :=
 chkT [Nat.ble n 12] (.ret ⟨[.tuple []], [some (.tarr shU n (srtV (n - 1) 1 f) true)]⟩)
noncomputable def f47  (c : CS) : T (CS) := match c with
 | ⟨[.osl z_1 0 0 n z_2 1 true, .int .i64 z_3, .int .i64 z_4], [some (.tarr sh_5 z_6 f true)]⟩ => chkT [decide (false = z_1), decide (n = z_2), decide (0 = z_3), decide ((n : Nat) = z_4), shBeq sh_5 shU, decide (n = z_6)] (f47B  n f)
 | _ => .fail
noncomputable def E5 : Env := addF E4 47 ⟨fiRun [.asl shU, .keep, .keep] [] 1 f47⟩
def pD : List PV := [.keep, .keep, .asl shW, .keep, .keep]
def hrdF (sf rd : Int) (hs : AV → Bool) (hf : AV → Nat → AV) (k : Int) : Int := cond (decide (k = sf)) rd (AV.toI (cond (hs (.int .i64 k)) (hf (.int .i64 k) 0) (.int .u64 0)))
def hrdA (sf rd : Int) (hs : AV → Bool) (hf : AV → Nat → AV) (e : Nat → Nat → AV) (t _ : Nat) : AV := .int .u64 (hrdF sf rd hs hf (e t 0).toI)
theorem hrdVE : ∃ q : Int → Int → (AV → Bool) → (AV → Nat → AV) → (Nat → Nat → AV) → Nat → Nat → AV, q = hrdA := ⟨_, rfl⟩
noncomputable def hrdV : Int → Int → (AV → Bool) → (AV → Nat → AV) → (Nat → Nat → AV) → Nat → Nat → AV := Classical.choose hrdVE
theorem hrdV_eq : hrdV = hrdA := Classical.choose_spec hrdVE
def h26 : Pat := ⟨34, [(1, .keep), (5, .asl shU), (9, .asl shI), (10, .keep), (11, .keep)], [[], [], [], pD]⟩
def x26 : List (Ex × Pat) := [(.exit 0, ⟨34, [(5, .asl shU)], []⟩)]
def c26 (nd : Int) (sf : Int) (wl : Bool) (wn : Nat) (wf : Nat → Nat → AV) (rd : Int) (hs : AV → Bool) (hf : AV → Nat → AV) (ol : Bool) (m : Nat) (g : Nat → Nat → AV) (al : Bool) (q : Nat) (e : Nat → Nat → AV) (i : Nat) : CS :=
 ⟨[.func (.func 27) [] [.ptr 0 0], .osl ol 1 0 m m 1 true, .osl al 2 0 q q 1 true, .int .i64 (q : Nat), .int .i64 (i : Nat)], [some (.cells [.ptr 3 0] true), some (.tarr shU m g true), some (.tarr shI q e true), some (.cells [.int .i64 nd, .int .i64 sf, .osl wl 4 0 wn wn 6 true, .int .u64 rd, .map 5] false), some (.tarr shW wn wf false), some (.omap shI shU false false [.int .u64 0] hs hf false)]⟩
def c26t (nd : Int) (sf : Int) (wl : Bool) (wn : Nat) (wf : Nat → Nat → AV) (rd : Int) (hs : AV → Bool) (hf : AV → Nat → AV) (al : Bool) (q : Nat) (e : Nat → Nat → AV) (i : Nat) : CS :=
 ⟨[.func (.func 27) [] [.ptr 0 0], .nilSlice, .osl al 2 0 q q 1 true, .int .i64 (q : Nat), .int .i64 (i : Nat)], [some (.cells [.ptr 3 0] true), none, some (.tarr shI q e true), some (.cells [.int .i64 nd, .int .i64 sf, .osl wl 4 0 wn wn 6 true, .int .u64 rd, .map 5] false), some (.tarr shW wn wf false), some (.omap shI shU false false [.int .u64 0] hs hf false)]⟩
noncomputable def r26B  (nd : Int) (sf : Int) (wl : Bool) (wn : Nat) (wf : Nat → Nat → AV) (rd : Int) (hs : AV → Bool) (hf : AV → Nat → AV) (g : Nat → Nat → AV) (al : Bool) (q : Nat) (e : Nat → Nat → AV) : T (Nat × CS) :=
 chkT [Nat.ble q 12, Nat.blt 0 q] (.ret (1, ⟨[.osl false 0 0 q q 1 true], [some (.tarr shU q (hrdV sf rd hs hf e) true)]⟩))
noncomputable def r26  (c : CS) : T (Nat × CS) := match c with
 | ⟨[.func (.func 27) [] [.ptr 0 0], .osl z_1 1 0 z_2 z_3 1 true, .osl al 2 0 q z_4 1 true, .int .i64 z_5, .int .i64 z_6], [some (.cells [.ptr 3 0] true), some (.tarr sh_7 z_8 g true), some (.tarr sh_9 z_10 e true), some (.cells [.int .i64 nd, .int .i64 sf, .osl wl 4 0 wn z_11 6 true, .int .u64 rd, .map 5] false), some (.tarr sh_12 z_13 wf false), some (.omap sh_14 sh_15 false false sz_16 hs hf false)]⟩ => chkT [decide (true = z_1), decide (0 = z_2), decide (0 = z_3), decide (q = z_4), decide ((q : Nat) = z_5), decide (0 = z_6), shBeq sh_7 shU, decide (0 = z_8), shBeq sh_9 shI, decide (q = z_10), decide (wn = z_11), shBeq sh_12 shW, decide (wn = z_13), shBeq sh_14 shI, shBeq sh_15 shU, AV.beqL sz_16 [.int .u64 0]] (r26B  nd sf wl wn wf rd hs hf g al q e)
 | _ => .fail
noncomputable def E9 : Env := addL E5 26 0 1000002 h26 x26 0 r26
def a12_1 (sf : Int) (wl : Bool) (wn : Nat) (wf : Nat → Nat → AV) (rd : Int) (hs : AV → Bool) (hf : AV → Nat → AV) : CS :=
 ⟨[.ptr 0 0], [some (.cells [.int .i64 1, .int .i64 sf, .osl wl 1 0 wn wn 6 true, .int .u64 rd, .map 2] false), some (.tarr shW wn wf false), some (.omap shI shU false false [.int .u64 0] hs hf false)]⟩
def a12_2 (sf : Int) (wl : Bool) (wn : Nat) (wf : Nat → Nat → AV) (rd : Int) (hs : AV → Bool) (hf : AV → Nat → AV) : CS :=
 ⟨[.ptr 0 0], [some (.cells [.int .i64 2, .int .i64 sf, .osl wl 1 0 wn wn 6 true, .int .u64 rd, .map 2] false), some (.tarr shW wn wf false), some (.omap shI shU false false [.int .u64 0] hs hf false)]⟩
def a12_3 (sf : Int) (wl : Bool) (wn : Nat) (wf : Nat → Nat → AV) (rd : Int) (hs : AV → Bool) (hf : AV → Nat → AV) : CS :=
 ⟨[.ptr 0 0], [some (.cells [.int .i64 3, .int .i64 sf, .osl wl 1 0 wn wn 6 true, .int .u64 rd, .map 2] false), some (.tarr shW wn wf false), some (.omap shI shU false false [.int .u64 0] hs hf false)]⟩
def a12_4 (sf : Int) (wl : Bool) (wn : Nat) (wf : Nat → Nat → AV) (rd : Int) (hs : AV → Bool) (hf : AV → Nat → AV) : CS :=
 ⟨[.ptr 0 0], [some (.cells [.int .i64 4, .int .i64 sf, .osl wl 1 0 wn wn 6 true, .int .u64 rd, .map 2] false), some (.tarr shW wn wf false), some (.omap shI shU false false [.int .u64 0] hs hf false)]⟩
def a12_5 (sf : Int) (wl : Bool) (wn : Nat) (wf : Nat → Nat → AV) (rd : Int) (hs : AV → Bool) (hf : AV → Nat → AV) : CS :=
 ⟨[.ptr 0 0], [some (.cells [.int .i64 5, .int .i64 sf, .osl wl 1 0 wn wn 6 true, .int .u64 rd, .map 2] false), some (.tarr shW wn wf false), some (.omap shI shU false false [.int .u64 0] hs hf false)]⟩
def a12_6 (sf : Int) (wl : Bool) (wn : Nat) (wf : Nat → Nat → AV) (rd : Int) (hs : AV → Bool) (hf : AV → Nat → AV) : CS :=
 ⟨[.ptr 0 0], [some (.cells [.int .i64 6, .int .i64 sf, .osl wl 1 0 wn wn 6 true, .int .u64 rd, .map 2] false), some (.tarr shW wn wf false), some (.omap shI shU false false [.int .u64 0] hs hf false)]⟩
def a12_7 (sf : Int) (wl : Bool) (wn : Nat) (wf : Nat → Nat → AV) (rd : Int) (hs : AV → Bool) (hf : AV → Nat → AV) : CS :=
 ⟨[.ptr 0 0], [some (.cells [.int .i64 7, .int .i64 sf, .osl wl 1 0 wn wn 6 true, .int .u64 rd, .map 2] false), some (.tarr shW wn wf false), some (.omap shI shU false false [.int .u64 0] hs hf false)]⟩
noncomputable def k63 (x : Int) (π : Plan) : Option CS := callC (E0) (3000) (63) (0) (.keep) ([]) π (a63 x)
def k63_p : Plan := .stop
theorem k63_is (x : Int) : k63 x k63_p = (some (CS.mk [(AV.bool (x != x))] [])) := by kernel_rfl
theorem k63_eq (x : Int) : k63 x k63_p = (some (CS.mk [(AV.bool (x != x))] [])) := by
 rw [k63_is]
noncomputable def k53 (x : Int) (y : Int) (π : Plan) : Option CS := callC (E1) (3000) (53) (0) (.keep) ([]) π (a53 x y)
def k53_p : Plan := .stop
theorem k53_is (x : Int) (y : Int) : k53 x y k53_p = (some (CS.mk [(AV.bool (decide (x < y)))] [])) := by kernel_rfl
theorem k53_eq (x : Int) (y : Int) : k53 x y k53_p = (some (CS.mk [(AV.bool (decide (x < y)))] [])) := by
 rw [k53_is]
noncomputable def s472 (n : Nat) (f : Nat → Nat → AV) (i : Nat) (j : Nat) (π : Plan) : Option (Nat × CS) := stepC (E2) (300) (loopC E2 47 2) (1) (h472) ((.normal, h472) :: x472) π (c472 n f i j)
def s472_p : Plan := (.fork (.must true (.must true (.reck 1 (.fork (.must true (.fork (.must true (.must true (.must true (.must true (.fork (.fork (.must true (.fork (.must true (.must true (.must true (.must true (.must true (.must true (.fork (.must true (.must true (.must true (.reck 1 (.must true (.must true (.reck 1 (.must true (.must true (.must true (.must true (.must true (.must true (.must true (.must true (.must true .stop)))))))))))))))) .stop))))))) .stop)) .stop) .stop))))) .stop)) .stop)))) (.must false (.must false (.must false (.must false (.must false (.must false (.must false (.must false (.must false (.must false .stop)))))))))))
theorem s472_is (n : Nat) (f : Nat → Nat → AV) (i : Nat) (j : Nat) : s472 n f i j s472_p = (cond (decide ((↑j : Int) > 0) == true)
 (cond (decide ((↑j : Int) > 0) == true) (cond (decide ((↑j : Int) > 0) == true) (cond (decide ((↑j : Int) < (↑n : Int)))
 (cond (decide ((↑j : Int) > 0) == true) (cond (Nat.blt (0 + Int.toNat (↑j : Int)) n)
 (cond (decide ((↑j : Int) > 0) == true) (cond (decide ((↑j : Int) > 0) == true) (cond (decide ((↑j : Int) > 0) == true) (cond (decide ((↑j : Int) > 0) == true) (cond (decide (0 ≤ IntKind.wrap IntKind.i64 ((↑j : Int) - 1)))
 (cond (decide (IntKind.wrap IntKind.i64 ((↑j : Int) - 1) < (↑n : Int)))
 (cond (decide ((↑j : Int) > 0) == true) (cond (Nat.blt (0 + Int.toNat (IntKind.wrap IntKind.i64 ((↑j : Int) - 1))) n)
 (cond (decide ((↑j : Int) > 0) == true) (cond (decide ((↑j : Int) > 0)) (cond (Nat.blt (0 + Int.toNat (IntKind.wrap IntKind.i64 ((↑j : Int) - 1))) n) (cond (decide (AV.toI (f (0 + Int.toNat (IntKind.wrap IntKind.i64 ((↑j : Int) - 1))) 0) = AV.toI (f (0 + Int.toNat (IntKind.wrap IntKind.i64 ((↑j : Int) - 1))) 0))) (cond (Nat.blt (0 + Int.toNat (↑j : Int)) n) (cond (decide (AV.toI (f (0 + Int.toNat (↑j : Int)) 0) = AV.toI (f (0 + Int.toNat (↑j : Int)) 0))) (cond (decide (AV.toI (f (0 + Int.toNat (↑j : Int)) 0) < AV.toI (f (0 + Int.toNat (IntKind.wrap IntKind.i64 ((↑j : Int) - 1))) 0)))
 (cond (decide (0 ≤ IntKind.wrap IntKind.i64 ((↑j : Int) - 1))) (cond (decide (IntKind.wrap IntKind.i64 ((↑j : Int) - 1) < (↑n : Int))) (cond (Nat.blt (0 + Int.toNat (IntKind.wrap IntKind.i64 ((↑j : Int) - 1))) n) (cond (decide ((↑j : Int) < (↑n : Int))) (cond (Nat.blt (0 + Int.toNat (↑j : Int)) n) (cond (decide ((↑j : Int) < (↑n : Int))) (cond (Nat.blt (0 + Int.toNat (↑j : Int)) n) (cond (decide (0 ≤ IntKind.wrap IntKind.i64 ((↑j : Int) - 1))) (cond (decide (IntKind.wrap IntKind.i64 ((↑j : Int) - 1) < (↑n : Int))) (cond (Nat.blt (0 + Int.toNat (IntKind.wrap IntKind.i64 ((↑j : Int) - 1))) n) (cond (Nat.blt (0 + Int.toNat (↑j : Int)) n) (cond (decide (AV.toI (f (0 + Int.toNat (↑j : Int)) 0) = AV.toI (f (0 + Int.toNat (↑j : Int)) 0))) (cond (Nat.blt (0 + Int.toNat (IntKind.wrap IntKind.i64 ((↑j : Int) - 1))) n) (cond (decide (AV.toI (f (0 + Int.toNat (IntKind.wrap IntKind.i64 ((↑j : Int) - 1))) 0) = AV.toI (f (0 + Int.toNat (IntKind.wrap IntKind.i64 ((↑j : Int) - 1))) 0))) (some (0, (CS.mk [(.osl (false) (0) (0) (n) (n) (1) (true)), (.int .i64 (0)), (.int .i64 ((↑n : Int))), (.int .i64 ((↑i : Int))), (.int .i64 (IntKind.wrap IntKind.i64 ((↑j : Int) - 1)))] [some (.tarr [Sh.int IntKind.u64] (n) (fput (fput f (0 + Int.toNat (↑j : Int)) (0) [(.int .u64 (AV.toI (f (0 + Int.toNat (IntKind.wrap IntKind.i64 ((↑j : Int) - 1))) 0)))]) (0 + Int.toNat (IntKind.wrap IntKind.i64 ((↑j : Int) - 1))) (0) [(.int .u64 (AV.toI (f (0 + Int.toNat (↑j : Int)) 0)))]) true)]))) none) none) none) none) none) none) none) none) none) none) none) none) none) none)
 (some (1, (CS.mk [(.osl (false) (0) (0) (n) (n) (1) (true)), (.int .i64 (0)), (.int .i64 ((↑n : Int))), (.int .i64 ((↑i : Int)))] [some (.tarr [Sh.int IntKind.u64] (n) f true)])))) none) none) none) none) none) none)
 none) none)
 none)
 none) none) none) none) none)
 none) none)
 none) none) none)
 (cond (decide ((↑j : Int) > 0) == true) none (cond (decide ((↑j : Int) > 0) == true) none (cond (decide ((↑j : Int) > 0) == true) none (cond (decide ((↑j : Int) > 0) == true) none (cond (decide ((↑j : Int) > 0) == true) none (cond (decide ((↑j : Int) > 0) == true) none (cond (decide ((↑j : Int) > 0) == true) none (cond (decide ((↑j : Int) > 0) == true) none (cond (decide ((↑j : Int) > 0) == true) none (cond (decide ((↑j : Int) > 0)) none (some (1, (CS.mk [(.osl (false) (0) (0) (n) (n) (1) (true)), (.int .i64 (0)), (.int .i64 ((↑n : Int))), (.int .i64 ((↑i : Int)))] [some (.tarr [Sh.int IntKind.u64] (n) f true)])))))))))))))) := by kernel_rfl
theorem s472_eq (n : Nat) (f : Nat → Nat → AV) (i : Nat) (j : Nat) : s472 n f i j s472_p = (cond (decide ((↑j : Int) > 0))
 (cond (decide ((↑j : Int) < (↑n : Int)))
 (cond (Nat.blt (0 + Int.toNat (↑j : Int)) n)
 (cond (decide (0 ≤ IntKind.wrap IntKind.i64 ((↑j : Int) - 1)))
 (cond (decide (IntKind.wrap IntKind.i64 ((↑j : Int) - 1) < (↑n : Int)))
 (cond (Nat.blt (0 + Int.toNat (IntKind.wrap IntKind.i64 ((↑j : Int) - 1))) n)
 (cond (decide (AV.toI (f (0 + Int.toNat (↑j : Int)) 0) < AV.toI (f (0 + Int.toNat (IntKind.wrap IntKind.i64 ((↑j : Int) - 1))) 0)))
 (some (0, (CS.mk [(.osl (false) (0) (0) (n) (n) (1) (true)), (.int .i64 (0)), (.int .i64 ((↑n : Int))), (.int .i64 ((↑i : Int))), (.int .i64 (IntKind.wrap IntKind.i64 ((↑j : Int) - 1)))] [some (.tarr [Sh.int IntKind.u64] (n) (fput (fput f (0 + Int.toNat (↑j : Int)) (0) [(.int .u64 (AV.toI (f (0 + Int.toNat (IntKind.wrap IntKind.i64 ((↑j : Int) - 1))) 0)))]) (0 + Int.toNat (IntKind.wrap IntKind.i64 ((↑j : Int) - 1))) (0) [(.int .u64 (AV.toI (f (0 + Int.toNat (↑j : Int)) 0)))]) true)])))
 (some (1, (CS.mk [(.osl (false) (0) (0) (n) (n) (1) (true)), (.int .i64 (0)), (.int .i64 ((↑n : Int))), (.int .i64 ((↑i : Int)))] [some (.tarr [Sh.int IntKind.u64] (n) f true)]))))
 none)
 none)
 none)
 none)
 none)
 (some (1, (CS.mk [(.osl (false) (0) (0) (n) (n) (1) (true)), (.int .i64 (0)), (.int .i64 ((↑n : Int))), (.int .i64 ((↑i : Int)))] [some (.tarr [Sh.int IntKind.u64] (n) f true)])))) := by
 rw [s472_is]
 try simp only [eq_self, decide_true, beq_self_eq_true, Nat.beq_refl, ble_self, Int.le_refl, Nat.le_refl]
 cases (decide ((↑j : Int) > 0)) with
 | true =>
   cases (decide ((↑j : Int) < (↑n : Int))) with
   | true =>
     cases (Nat.blt (0 + Int.toNat (↑j : Int)) n) with
     | true =>
       cases (decide (0 ≤ IntKind.wrap IntKind.i64 ((↑j : Int) - 1))) with
       | true =>
         cases (decide (IntKind.wrap IntKind.i64 ((↑j : Int) - 1) < (↑n : Int))) with
         | true =>
           cases (Nat.blt (0 + Int.toNat (IntKind.wrap IntKind.i64 ((↑j : Int) - 1))) n) with
           | true =>
             cases (decide (AV.toI (f (0 + Int.toNat (↑j : Int)) 0) < AV.toI (f (0 + Int.toNat (IntKind.wrap IntKind.i64 ((↑j : Int) - 1))) 0))) with
             | true =>
               rfl
             | false =>
               rfl
           | false =>
             rfl
         | false =>
           rfl
       | false =>
         rfl
     | false =>
       rfl
   | false =>
     rfl
 | false =>
   rfl
noncomputable def s470 (n : Nat) (f : Nat → Nat → AV) (i : Nat) (π : Plan) : Option (Nat × CS) := stepC (E3) (300) (loopC E3 47 0) (1) (h470) ((.normal, h470) :: x470) π (c470 n f i)
def s470_p : Plan := (.fork (.reck 1 (.must true (.reck 1 (.must true (.reck 1 (.must true (.fork (.fork .stop .stop) .stop))))))) .stop)
theorem s470_is (n : Nat) (f : Nat → Nat → AV) (i : Nat) : s470 n f i s470_p = (cond (decide ((↑i : Int) < (↑n : Int)))
 (cond (decide (n = n)) (cond (decide ((↑n : Int) = (↑n : Int))) (cond (decide (n = n)) (cond (Nat.blt i n)
 (cond (Nat.ble n 12)
 (some (0, (CS.mk [(.osl (false) (0) (0) (n) (n) (1) (true)), (.int .i64 (0)), (.int .i64 ((↑n : Int))), (.int .i64 (IntKind.wrap IntKind.i64 ((↑i : Int) + 1)))] [some (.tarr [Sh.int IntKind.u64] (n) (insV (i) f) true)])))
 none)
 none) none) none) none)
 (some (1, (CS.mk [] [some (.tarr [Sh.int IntKind.u64] (n) f true)])))) := by kernel_rfl
theorem s470_eq (n : Nat) (f : Nat → Nat → AV) (i : Nat) : s470 n f i s470_p = (cond (decide ((↑i : Int) < (↑n : Int)))
 (cond (Nat.blt i n)
 (cond (Nat.ble n 12)
 (some (0, (CS.mk [(.osl (false) (0) (0) (n) (n) (1) (true)), (.int .i64 (0)), (.int .i64 ((↑n : Int))), (.int .i64 (IntKind.wrap IntKind.i64 ((↑i : Int) + 1)))] [some (.tarr [Sh.int IntKind.u64] (n) (insV (i) f) true)])))
 none)
 none)
 (some (1, (CS.mk [] [some (.tarr [Sh.int IntKind.u64] (n) f true)])))) := by
 rw [s470_is]
 try simp only [eq_self, decide_true, beq_self_eq_true, Nat.beq_refl, ble_self, Int.le_refl, Nat.le_refl]
 cases (decide ((↑i : Int) < (↑n : Int))) with
 | true =>
   cases (Nat.blt i n) with
   | true =>
     cases (Nat.ble n 12) with
     | true =>
       rfl
     | false =>
       rfl
   | false =>
     rfl
 | false =>
   rfl
noncomputable def k47 (n : Nat) (f : Nat → Nat → AV) (π : Plan) : Option CS := callC (E4) (3000) (47) (1) (.keep) ([]) π (a47 n f)
def k47_p : Plan := (.reck 1 (.must true (.reck 1 (.must true (.reck 2 (.must true (.fork .stop .stop)))))))
theorem k47_is (n : Nat) (f : Nat → Nat → AV) : k47 n f k47_p = (cond (decide (n = n)) (cond (decide ((↑n : Int) = (↑n : Int))) (cond (decide (n = n)) (cond (Nat.ble n 12)
 (some (CS.mk [(AV.tuple [])] [some (.tarr [Sh.int IntKind.u64] (n) (srtV (n - 1) (1) f) true)]))
 none) none) none) none) := by kernel_rfl
theorem k47_eq (n : Nat) (f : Nat → Nat → AV) : k47 n f k47_p = (cond (Nat.ble n 12)
 (some (CS.mk [(AV.tuple [])] [some (.tarr [Sh.int IntKind.u64] (n) (srtV (n - 1) (1) f) true)]))
 none) := by
 rw [k47_is]
 try simp only [eq_self, decide_true, beq_self_eq_true, Nat.beq_refl, ble_self, Int.le_refl, Nat.le_refl]
 cases (Nat.ble n 12) with
 | true =>
   rfl
 | false =>
   rfl
noncomputable def s26t (nd : Int) (sf : Int) (wl : Bool) (wn : Nat) (wf : Nat → Nat → AV) (rd : Int) (hs : AV → Bool) (hf : AV → Nat → AV) (al : Bool) (q : Nat) (e : Nat → Nat → AV) (i : Nat) (π : Plan) : Option (Nat × CS) := stepC (E5) (300) (loopC E5 26 0) (0) (h26) ((.normal, h26) :: x26) π (c26t nd sf wl wn wf rd hs hf al q e i)
def s26t_p : Plan := (.fork (.reck 1 (.must true (.fork (.fork .stop .stop) .stop))) .stop)
theorem s26t_is (nd : Int) (sf : Int) (wl : Bool) (wn : Nat) (wf : Nat → Nat → AV) (rd : Int) (hs : AV → Bool) (hf : AV → Nat → AV) (al : Bool) (q : Nat) (e : Nat → Nat → AV) (i : Nat) : s26t nd sf wl wn wf rd hs hf al q e i s26t_p = (cond (decide ((↑i : Int) < (↑q : Int)))
 (cond (decide ((↑i : Int) < (↑q : Int))) (cond (Nat.blt (0 + Int.toNat (↑i : Int)) q)
 (cond (AV.toI (e (0 + Int.toNat (↑i : Int)) 0) == sf)
 (some (0, (CS.mk [(AV.func (Fn.func 27) [] [(.ptr 0 0)]), (.osl (false) (1) (0) (1) (1) (1) (true)), (.osl (al) (2) (0) (q) (q) (1) (true)), (.int .i64 ((↑q : Int))), (.int .i64 (IntKind.wrap IntKind.i64 ((↑i : Int) + 1)))] [some (.cells [(.ptr (3) (0))] true), some (.tarr [Sh.int IntKind.u64] (1) (rowsOf (1) [(.int .u64 rd)] (1)) true), some (.tarr [Sh.int IntKind.i64] (q) e true), some (.cells [(.int .i64 nd), (.int .i64 sf), (.osl (wl) (4) (0) (wn) (wn) 6 true), (.int .u64 rd), (.map (5))] false), some (.tarr [Sh.int IntKind.u64, Sh.int IntKind.u64, Sh.int IntKind.u64, Sh.int IntKind.u32, Sh.int IntKind.u32, Sh.int IntKind.u64] (wn) wf false), some (.omap [Sh.int IntKind.i64] [Sh.int IntKind.u64] false false [(.int .u64 0)] hs hf false)])))
 (some (0, (CS.mk [(AV.func (Fn.func 27) [] [(.ptr 0 0)]), (.osl (false) (1) (0) (1) (1) (1) (true)), (.osl (al) (2) (0) (q) (q) (1) (true)), (.int .i64 ((↑q : Int))), (.int .i64 (IntKind.wrap IntKind.i64 ((↑i : Int) + 1)))] [some (.cells [(.ptr (3) (0))] true), some (.tarr [Sh.int IntKind.u64] (1) (rowsOf (1) [(.int .u64 ((AV.toI (cond (hs (.int .i64 (AV.toI (e (0 + Int.toNat (↑i : Int)) 0)))) (hf (.int .i64 (AV.toI (e (0 + Int.toNat (↑i : Int)) 0))) (0)) (.int .u64 0)))))] (1)) true), some (.tarr [Sh.int IntKind.i64] (q) e true), some (.cells [(.int .i64 nd), (.int .i64 sf), (.osl (wl) (4) (0) (wn) (wn) 6 true), (.int .u64 rd), (.map (5))] false), some (.tarr [Sh.int IntKind.u64, Sh.int IntKind.u64, Sh.int IntKind.u64, Sh.int IntKind.u32, Sh.int IntKind.u32, Sh.int IntKind.u64] (wn) wf false), some (.omap [Sh.int IntKind.i64] [Sh.int IntKind.u64] false false [(.int .u64 0)] hs hf false)]))))
 none) none)
 (some (1, (CS.mk [(.osl (true) (0) (0) (0) (0) (1) (true))] [some (.tarr [Sh.int IntKind.u64] (0) (fun p_ q_ => AV.bad) true)])))) := by kernel_rfl
theorem s26t_eq (nd : Int) (sf : Int) (wl : Bool) (wn : Nat) (wf : Nat → Nat → AV) (rd : Int) (hs : AV → Bool) (hf : AV → Nat → AV) (al : Bool) (q : Nat) (e : Nat → Nat → AV) (i : Nat) : s26t nd sf wl wn wf rd hs hf al q e i s26t_p = (cond (decide ((↑i : Int) < (↑q : Int)))
 (cond (Nat.blt (0 + Int.toNat (↑i : Int)) q)
 (cond (AV.toI (e (0 + Int.toNat (↑i : Int)) 0) == sf)
 (some (0, (CS.mk [(AV.func (Fn.func 27) [] [(.ptr 0 0)]), (.osl (false) (1) (0) (1) (1) (1) (true)), (.osl (al) (2) (0) (q) (q) (1) (true)), (.int .i64 ((↑q : Int))), (.int .i64 (IntKind.wrap IntKind.i64 ((↑i : Int) + 1)))] [some (.cells [(.ptr (3) (0))] true), some (.tarr [Sh.int IntKind.u64] (1) (rowsOf (1) [(.int .u64 rd)] (1)) true), some (.tarr [Sh.int IntKind.i64] (q) e true), some (.cells [(.int .i64 nd), (.int .i64 sf), (.osl (wl) (4) (0) (wn) (wn) 6 true), (.int .u64 rd), (.map (5))] false), some (.tarr [Sh.int IntKind.u64, Sh.int IntKind.u64, Sh.int IntKind.u64, Sh.int IntKind.u32, Sh.int IntKind.u32, Sh.int IntKind.u64] (wn) wf false), some (.omap [Sh.int IntKind.i64] [Sh.int IntKind.u64] false false [(.int .u64 0)] hs hf false)])))
 (some (0, (CS.mk [(AV.func (Fn.func 27) [] [(.ptr 0 0)]), (.osl (false) (1) (0) (1) (1) (1) (true)), (.osl (al) (2) (0) (q) (q) (1) (true)), (.int .i64 ((↑q : Int))), (.int .i64 (IntKind.wrap IntKind.i64 ((↑i : Int) + 1)))] [some (.cells [(.ptr (3) (0))] true), some (.tarr [Sh.int IntKind.u64] (1) (rowsOf (1) [(.int .u64 ((AV.toI (cond (hs (.int .i64 (AV.toI (e (0 + Int.toNat (↑i : Int)) 0)))) (hf (.int .i64 (AV.toI (e (0 + Int.toNat (↑i : Int)) 0))) (0)) (.int .u64 0)))))] (1)) true), some (.tarr [Sh.int IntKind.i64] (q) e true), some (.cells [(.int .i64 nd), (.int .i64 sf), (.osl (wl) (4) (0) (wn) (wn) 6 true), (.int .u64 rd), (.map (5))] false), some (.tarr [Sh.int IntKind.u64, Sh.int IntKind.u64, Sh.int IntKind.u64, Sh.int IntKind.u32, Sh.int IntKind.u32, Sh.int IntKind.u64] (wn) wf false), some (.omap [Sh.int IntKind.i64] [Sh.int IntKind.u64] false false [(.int .u64 0)] hs hf false)]))))
 none)
 (some (1, (CS.mk [(.osl (true) (0) (0) (0) (0) (1) (true))] [some (.tarr [Sh.int IntKind.u64] (0) (fun p_ q_ => AV.bad) true)])))) := by
 rw [s26t_is]
 try simp only [eq_self, decide_true, beq_self_eq_true, Nat.beq_refl, ble_self, Int.le_refl, Nat.le_refl]
 cases (decide ((↑i : Int) < (↑q : Int))) with
 | true =>
   cases (Nat.blt (0 + Int.toNat (↑i : Int)) q) with
   | true =>
     cases (AV.toI (e (0 + Int.toNat (↑i : Int)) 0) == sf) with
     | true =>
       rfl
     | false =>
       rfl
   | false =>
     rfl
 | false =>
   rfl
noncomputable def s26 (nd : Int) (sf : Int) (wl : Bool) (wn : Nat) (wf : Nat → Nat → AV) (rd : Int) (hs : AV → Bool) (hf : AV → Nat → AV) (m : Nat) (g : Nat → Nat → AV) (al : Bool) (q : Nat) (e : Nat → Nat → AV) (i : Nat) (π : Plan) : Option (Nat × CS) := stepC (E5) (300) (loopC E5 26 0) (0) (h26) ((.normal, h26) :: x26) π (c26 nd sf wl wn wf rd hs hf false m g al q e i)
def s26_p : Plan := (.fork (.reck 1 (.must true (.fork (.fork (.reck 1 (.must false (.fork (.fork .stop .stop) .stop))) (.reck 1 (.must false (.fork (.fork .stop .stop) .stop)))) .stop))) .stop)
theorem s26_is (nd : Int) (sf : Int) (wl : Bool) (wn : Nat) (wf : Nat → Nat → AV) (rd : Int) (hs : AV → Bool) (hf : AV → Nat → AV) (m : Nat) (g : Nat → Nat → AV) (al : Bool) (q : Nat) (e : Nat → Nat → AV) (i : Nat) : s26 nd sf wl wn wf rd hs hf m g al q e i s26_p = (cond (decide ((↑i : Int) < (↑q : Int)))
 (cond (decide ((↑i : Int) < (↑q : Int))) (cond (Nat.blt (0 + Int.toNat (↑i : Int)) q)
 (cond (AV.toI (e (0 + Int.toNat (↑i : Int)) 0) == sf)
 (cond (Nat.ble ((m) + (1)) (m)) none (cond (growB (8) (m + 1))
 (cond (Nat.ble (0 + m) m)
 (some (0, (CS.mk [(AV.func (Fn.func 27) [] [(.ptr 0 0)]), (.osl (false) (1) (0) (m + 1) (m + 1) (1) (true)), (.osl (al) (2) (0) (q) (q) (1) (true)), (.int .i64 ((↑q : Int))), (.int .i64 (IntKind.wrap IntKind.i64 ((↑i : Int) + 1)))] [some (.cells [(.ptr (3) (0))] true), some (.tarr [Sh.int IntKind.u64] (m + 1) (fjoin (fun p_ q_ => g (0 + p_) q_) (m) (rowsOf (1) [(.int .u64 rd)] (1))) true), some (.tarr [Sh.int IntKind.i64] (q) e true), some (.cells [(.int .i64 nd), (.int .i64 sf), (.osl (wl) (4) (0) (wn) (wn) 6 true), (.int .u64 rd), (.map (5))] false), some (.tarr [Sh.int IntKind.u64, Sh.int IntKind.u64, Sh.int IntKind.u64, Sh.int IntKind.u32, Sh.int IntKind.u32, Sh.int IntKind.u64] (wn) wf false), some (.omap [Sh.int IntKind.i64] [Sh.int IntKind.u64] false false [(.int .u64 0)] hs hf false)])))
 none)
 none))
 (cond (Nat.ble ((m) + (1)) (m)) none (cond (growB (8) (m + 1))
 (cond (Nat.ble (0 + m) m)
 (some (0, (CS.mk [(AV.func (Fn.func 27) [] [(.ptr 0 0)]), (.osl (false) (1) (0) (m + 1) (m + 1) (1) (true)), (.osl (al) (2) (0) (q) (q) (1) (true)), (.int .i64 ((↑q : Int))), (.int .i64 (IntKind.wrap IntKind.i64 ((↑i : Int) + 1)))] [some (.cells [(.ptr (3) (0))] true), some (.tarr [Sh.int IntKind.u64] (m + 1) (fjoin (fun p_ q_ => g (0 + p_) q_) (m) (rowsOf (1) [(.int .u64 ((AV.toI (cond (hs (.int .i64 (AV.toI (e (0 + Int.toNat (↑i : Int)) 0)))) (hf (.int .i64 (AV.toI (e (0 + Int.toNat (↑i : Int)) 0))) (0)) (.int .u64 0)))))] (1))) true), some (.tarr [Sh.int IntKind.i64] (q) e true), some (.cells [(.int .i64 nd), (.int .i64 sf), (.osl (wl) (4) (0) (wn) (wn) 6 true), (.int .u64 rd), (.map (5))] false), some (.tarr [Sh.int IntKind.u64, Sh.int IntKind.u64, Sh.int IntKind.u64, Sh.int IntKind.u32, Sh.int IntKind.u32, Sh.int IntKind.u64] (wn) wf false), some (.omap [Sh.int IntKind.i64] [Sh.int IntKind.u64] false false [(.int .u64 0)] hs hf false)])))
 none)
 none)))
 none) none)
 (some (1, (CS.mk [(.osl (false) (0) (0) (m) (m) (1) (true))] [some (.tarr [Sh.int IntKind.u64] (m) g true)])))) := by kernel_rfl
theorem s26_eq (nd : Int) (sf : Int) (wl : Bool) (wn : Nat) (wf : Nat → Nat → AV) (rd : Int) (hs : AV → Bool) (hf : AV → Nat → AV) (m : Nat) (g : Nat → Nat → AV) (al : Bool) (q : Nat) (e : Nat → Nat → AV) (i : Nat) : s26 nd sf wl wn wf rd hs hf m g al q e i s26_p = (cond (decide ((↑i : Int) < (↑q : Int)))
 (cond (Nat.blt (0 + Int.toNat (↑i : Int)) q)
 (cond (AV.toI (e (0 + Int.toNat (↑i : Int)) 0) == sf)
 (cond (Nat.ble ((m) + (1)) (m)) none (cond (growB (8) (m + 1))
 (cond (Nat.ble (0 + m) m)
 (some (0, (CS.mk [(AV.func (Fn.func 27) [] [(.ptr 0 0)]), (.osl (false) (1) (0) (m + 1) (m + 1) (1) (true)), (.osl (al) (2) (0) (q) (q) (1) (true)), (.int .i64 ((↑q : Int))), (.int .i64 (IntKind.wrap IntKind.i64 ((↑i : Int) + 1)))] [some (.cells [(.ptr (3) (0))] true), some (.tarr [Sh.int IntKind.u64] (m + 1) (fjoin (fun p_ q_ => g (0 + p_) q_) (m) (rowsOf (1) [(.int .u64 rd)] (1))) true), some (.tarr [Sh.int IntKind.i64] (q) e true), some (.cells [(.int .i64 nd), (.int .i64 sf), (.osl (wl) (4) (0) (wn) (wn) 6 true), (.int .u64 rd), (.map (5))] false), some (.tarr [Sh.int IntKind.u64, Sh.int IntKind.u64, Sh.int IntKind.u64, Sh.int IntKind.u32, Sh.int IntKind.u32, Sh.int IntKind.u64] (wn) wf false), some (.omap [Sh.int IntKind.i64] [Sh.int IntKind.u64] false false [(.int .u64 0)] hs hf false)])))
 none)
 none))
 (cond (Nat.ble ((m) + (1)) (m)) none (cond (growB (8) (m + 1))
 (cond (Nat.ble (0 + m) m)
 (some (0, (CS.mk [(AV.func (Fn.func 27) [] [(.ptr 0 0)]), (.osl (false) (1) (0) (m + 1) (m + 1) (1) (true)), (.osl (al) (2) (0) (q) (q) (1) (true)), (.int .i64 ((↑q : Int))), (.int .i64 (IntKind.wrap IntKind.i64 ((↑i : Int) + 1)))] [some (.cells [(.ptr (3) (0))] true), some (.tarr [Sh.int IntKind.u64] (m + 1) (fjoin (fun p_ q_ => g (0 + p_) q_) (m) (rowsOf (1) [(.int .u64 ((AV.toI (cond (hs (.int .i64 (AV.toI (e (0 + Int.toNat (↑i : Int)) 0)))) (hf (.int .i64 (AV.toI (e (0 + Int.toNat (↑i : Int)) 0))) (0)) (.int .u64 0)))))] (1))) true), some (.tarr [Sh.int IntKind.i64] (q) e true), some (.cells [(.int .i64 nd), (.int .i64 sf), (.osl (wl) (4) (0) (wn) (wn) 6 true), (.int .u64 rd), (.map (5))] false), some (.tarr [Sh.int IntKind.u64, Sh.int IntKind.u64, Sh.int IntKind.u64, Sh.int IntKind.u32, Sh.int IntKind.u32, Sh.int IntKind.u64] (wn) wf false), some (.omap [Sh.int IntKind.i64] [Sh.int IntKind.u64] false false [(.int .u64 0)] hs hf false)])))
 none)
 none)))
 none)
 (some (1, (CS.mk [(.osl (false) (0) (0) (m) (m) (1) (true))] [some (.tarr [Sh.int IntKind.u64] (m) g true)])))) := by
 rw [s26_is]
 try simp only [eq_self, decide_true, beq_self_eq_true, Nat.beq_refl, ble_self, Int.le_refl, Nat.le_refl]
 cases (decide ((↑i : Int) < (↑q : Int))) with
 | true =>
   cases (Nat.blt (0 + Int.toNat (↑i : Int)) q) with
   | true =>
     cases (AV.toI (e (0 + Int.toNat (↑i : Int)) 0) == sf) with
     | true =>
       cases (growB (8) (m + 1)) with
       | true =>
         cases (Nat.ble (0 + m) m) with
         | true =>
           rfl
         | false =>
           rfl
       | false =>
         rfl
     | false =>
       cases (growB (8) (m + 1)) with
       | true =>
         cases (Nat.ble (0 + m) m) with
         | true =>
           rfl
         | false =>
           rfl
       | false =>
         rfl
   | false =>
     rfl
 | false =>
   rfl
end Go.Proofs.Ytgflmdjlpjjnaaa.desk
end
section
set_option linter.unusedSimpArgs false
set_option linter.unusedVariables false
set_option maxRecDepth 20000
namespace Go.Proofs.Ytgflmdjlpjjnaaa.desk
open Go Go.RowKit Go.Proofs.Ytgflmdjlpjjnaaa.Bm
theorem f63_inv  {c : CS} {r : CS} (h : (f63  c).run = some r) : ∃ x, c = a63 x ∧ (f63B  x).run = some r := by
 unfold f63 at h
 split at h
 ·rename_i x
  obtain ⟨hc, hb⟩ := chkT_run h
  exact ⟨x, rfl, hb⟩
 ·cases h
theorem f53_inv  {c : CS} {r : CS} (h : (f53  c).run = some r) : ∃ x y, c = a53 x y ∧ (f53B  x y).run = some r := by
 unfold f53 at h
 split at h
 ·rename_i x y
  obtain ⟨hc, hb⟩ := chkT_run h
  exact ⟨x, y, rfl, hb⟩
 ·cases h
theorem r472_inv  {c : CS} {r : Nat × CS} (h : (r472  c).run = some r) : ∃ n f i j, c = c472 n f i j ∧ (r472B  n f i j).run = some r := by
 unfold r472 at h
 split at h
 ·rename_i z_1 n z_2 z_3 z_4 i j sh_5 z_6 f
  obtain ⟨hc, hb⟩ := chkT_run h
  have h0 := hc 0 _ rfl
  have h0 := of_decide_eq_true h0; subst h0
  have h1 := hc 1 _ rfl
  have h1 := of_decide_eq_true h1; subst h1
  have h2 := hc 2 _ rfl
  have h2 := of_decide_eq_true h2; subst h2
  have h3 := hc 3 _ rfl
  have h3 := of_decide_eq_true h3; subst h3
  have h4 := hc 4 _ rfl
  have h4 := (shBeq_eq h4).symm; subst h4
  have h5 := hc 5 _ rfl
  have h5 := of_decide_eq_true h5; subst h5
  exact ⟨n, f, i, j, rfl, hb⟩
 ·cases h
theorem r470_inv  {c : CS} {r : Nat × CS} (h : (r470  c).run = some r) : ∃ n f, c = c470 n f 1 ∧ (r470B  n f).run = some r := by
 unfold r470 at h
 split at h
 ·rename_i z_1 n z_2 z_3 z_4 z_5 sh_6 z_7 f
  obtain ⟨hc, hb⟩ := chkT_run h
  have h0 := hc 0 _ rfl
  have h0 := of_decide_eq_true h0; subst h0
  have h1 := hc 1 _ rfl
  have h1 := of_decide_eq_true h1; subst h1
  have h2 := hc 2 _ rfl
  have h2 := of_decide_eq_true h2; subst h2
  have h3 := hc 3 _ rfl
  have h3 := of_decide_eq_true h3; subst h3
  have h4 := hc 4 _ rfl
  have h4 := of_decide_eq_true h4; subst h4
  have h5 := hc 5 _ rfl
  have h5 := (shBeq_eq h5).symm; subst h5
  have h6 := hc 6 _ rfl
  have h6 := of_decide_eq_true h6; subst h6
  exact ⟨n, f, rfl, hb⟩
 ·cases h
theorem f47_inv  {c : CS} {r : CS} (h : (f47  c).run = some r) : ∃ n f, c = a47 n f ∧ (f47B  n f).run = some r := by
 unfold f47 at h
 split at h
 ·rename_i z_1 n z_2 z_3 z_4 sh_5 z_6 f
  obtain ⟨hc, hb⟩ := chkT_run h
  have h0 := hc 0 _ rfl
  have h0 := of_decide_eq_true h0; subst h0
  have h1 := hc 1 _ rfl
  have h1 := of_decide_eq_true h1; subst h1
  have h2 := hc 2 _ rfl
  have h2 := of_decide_eq_true h2; subst h2
  have h3 := hc 3 _ rfl
  have h3 := of_decide_eq_true h3; subst h3
  have h4 := hc 4 _ rfl
  have h4 := (shBeq_eq h4).symm; subst h4
  have h5 := hc 5 _ rfl
  have h5 := of_decide_eq_true h5; subst h5
  exact ⟨n, f, rfl, hb⟩
 ·cases h
theorem r26_inv  {c : CS} {r : Nat × CS} (h : (r26  c).run = some r) : ∃ nd sf wl wn wf rd hs hf g al q e, c = c26 nd sf wl wn wf rd hs hf true 0 g al q e 0 ∧ (r26B  nd sf wl wn wf rd hs hf g al q e).run = some r := by
 unfold r26 at h
 split at h
 ·rename_i z_1 z_2 z_3 al q z_4 z_5 z_6 sh_7 z_8 g sh_9 z_10 e nd sf wl wn z_11 rd sh_12 z_13 wf sh_14 sh_15 sz_16 hs hf
  obtain ⟨hc, hb⟩ := chkT_run h
  have h0 := hc 0 _ rfl
  have h0 := of_decide_eq_true h0; subst h0
  have h1 := hc 1 _ rfl
  have h1 := of_decide_eq_true h1; subst h1
  have h2 := hc 2 _ rfl
  have h2 := of_decide_eq_true h2; subst h2
  have h3 := hc 3 _ rfl
  have h3 := of_decide_eq_true h3; subst h3
  have h4 := hc 4 _ rfl
  have h4 := of_decide_eq_true h4; subst h4
  have h5 := hc 5 _ rfl
  have h5 := of_decide_eq_true h5; subst h5
  have h6 := hc 6 _ rfl
  have h6 := (shBeq_eq h6).symm; subst h6
  have h7 := hc 7 _ rfl
  have h7 := of_decide_eq_true h7; subst h7
  have h8 := hc 8 _ rfl
  have h8 := (shBeq_eq h8).symm; subst h8
  have h9 := hc 9 _ rfl
  have h9 := of_decide_eq_true h9; subst h9
  have h10 := hc 10 _ rfl
  have h10 := of_decide_eq_true h10; subst h10
  have h11 := hc 11 _ rfl
  have h11 := (shBeq_eq h11).symm; subst h11
  have h12 := hc 12 _ rfl
  have h12 := of_decide_eq_true h12; subst h12
  have h13 := hc 13 _ rfl
  have h13 := (shBeq_eq h13).symm; subst h13
  have h14 := hc 14 _ rfl
  have h14 := (shBeq_eq h14).symm; subst h14
  have h15 := hc 15 _ rfl
  have h15 := AV.eq_of_beqL _ _ h15; subst h15
  exact ⟨nd, sf, wl, wn, wf, rd, hs, hf, g, al, q, e, rfl, hb⟩
 ·cases h
theorem blt_t {a b : Nat} (h : a < b) : Nat.blt a b = true := by rw [blt_iff]; exact decide_eq_true h
theorem blt_f {a b : Nat} (h : ¬ a < b) : Nat.blt a b = false := by rw [blt_iff]; exact decide_eq_false h
theorem blt_of {a b : Nat} (h : Nat.blt a b = true) : a < b := by rw [blt_iff] at h; exact of_decide_eq_true h
theorem ble_t {a b : Nat} (h : a ≤ b) : Nat.ble a b = true := by rw [ble_iff]; exact decide_eq_true h
theorem ble_f {a b : Nat} (h : ¬ a ≤ b) : Nat.ble a b = false := by rw [ble_iff]; exact decide_eq_false h
theorem le_of {a b : Nat} (h : Nat.ble a b = true) : a ≤ b := by rw [ble_iff] at h; exact of_decide_eq_true h
theorem q0 : Bm.Good Try.prog E0 := good0 (by kernel_rfl) (by kernel_rfl) (by kernel_rfl)
theorem j63 (c c' : CS) (h : (f63 c).run = some c') : ∃ m pr ros π, callC E0 m 63 0 pr ros π c = some c' := by
 obtain ⟨x, rfl, hb⟩ := f63_inv h
 have hb2 := hb
 simp only [f63B, T.run, Option.some.injEq] at hb2; subst hb2
 have e := k63_eq x
 rw [bne_self_eq_false] at e
 exact ⟨3000, .keep, [], k63_p, e⟩
theorem q1 : Bm.Good Try.prog E1 := q0.addR q0 (by kernel_rfl) j63
theorem j53 (c c' : CS) (h : (f53 c).run = some c') : ∃ m pr ros π, callC E1 m 53 0 pr ros π c = some c' := by
 obtain ⟨x, y, rfl, hb⟩ := f53_inv h
 have hb2 := hb
 simp only [f53B, T.run, Option.some.injEq] at hb2; subst hb2
 exact ⟨3000, .keep, [], k53_p, k53_eq x y⟩
theorem q2 : Bm.Good Try.prog E2 := q1.addR q1 (by kernel_rfl) j53
theorem swp_fput (f : Nat → Nat → AV) (j a : Nat) :
  (fput (fput f (j + 1) 0 [.int .u64 (f j 0).toI]) j 0 [.int .u64 (f (j + 1) 0).toI] a 0).toI = (swp f (j + 1) a 0).toI := by
 have e1 : Nat.beq j (j + 1) = false := by rw [beq_iff]; exact decide_eq_false (by omega)
 have e2 : Nat.beq (j + 1) j = false := by rw [beq_iff]; exact decide_eq_false (by omega)
 unfold swp fput
 simp only [Nat.add_sub_cancel]
 by_cases h1 : a = j + 1
 ·subst h1
  simp only [e2, Nat.beq_refl, cond_true, cond_false]
  rfl
 ·by_cases h2 : a = j
  ·subst h2
   simp only [e1, Nat.beq_refl, cond_true, cond_false]
   rfl
  ·have e3 : Nat.beq a (j + 1) = false := by rw [beq_iff]; exact decide_eq_false h1
   have e4 : Nat.beq a j = false := by rw [beq_iff]; exact decide_eq_false h2
   simp only [e3, e4, cond_false]
   rfl
theorem l472 (n i : Nat) (hn : n ≤ 12) : ∀ (j : Nat) (f : Nat → Nat → AV), j < n →
  Loops (stepC E2 300 (loopC E2 47 2) 1 h472 ((.normal, h472) :: x472) s472_p) (c472 n f i j) 1 ⟨[.osl false 0 0 n n 1 true, .int .i64 0, .int .i64 (n : Nat), .int .i64 (i : Nat)], [some (.tarr shU n (ins1 j f) true)]⟩
 | 0, f, hj => .out (s472_eq n f i 0) (Seen.refl _)
 | j + 1, f, hj => by
   have e := s472_eq n f i (j + 1)
   have w : IntKind.wrap .i64 (((j + 1 : Nat) : Int) - 1) = (j : Int) := by
    rw [show ((j + 1 : Nat) : Int) - 1 = (j : Int) by omega]; exact wrap_i64 (by omega)
   rw [w, decide_eq_true (show ((j + 1 : Nat) : Int) > 0 by omega), decide_eq_true (show ((j + 1 : Nat) : Int) < (n : Int) by omega), Int.toNat_natCast, Int.toNat_natCast, Nat.zero_add, Nat.zero_add, blt_t hj, blt_t (show j < n by omega),
    decide_eq_true (show (0 : Int) ≤ (j : Int) by omega), decide_eq_true (show (j : Int) < (n : Int) by omega)] at e
   simp only [cond_true] at e
   by_cases hlt : (f (j + 1) 0).toI < (f j 0).toI
   ·rw [decide_eq_true hlt] at e
    simp only [cond_true] at e
    have hi : ins1 (j + 1) f = ins1 j (swp f (j + 1)) := by simp only [ins1, decide_eq_true hlt, cond_true]
    rw [hi]
    refine .go e ?_ (l472 n i hn j (swp f (j + 1)) (by omega))
    exact Seen.mk' (SeenVs.refl _) (.cons (SeenO.one rfl fun a _ => swp_fput f j a) .nil)
   ·rw [decide_eq_false hlt] at e
    simp only [cond_false] at e
    have hi : ins1 (j + 1) f = f := by simp only [ins1, decide_eq_false hlt, cond_false]
    rw [hi]
    exact .out e (Seen.refl _)
theorem i472 (c : CS) (r : Nat × CS) (h : (r472 c).run = some r) : Loops (stepC E2 300 (loopC E2 47 2) 1 h472 ((.normal, h472) :: x472) s472_p) c r.1 r.2 := by
 obtain ⟨n, f, i, j, rfl, hb⟩ := r472_inv h
 obtain ⟨hn, hb2⟩ := chkT_run hb
 have h1 := blt_of (hn 0 _ rfl)
 have h2 := le_of (hn 1 _ rfl)
 simp only [T.run, Option.some.injEq] at hb2; subst hb2
 rw [insV_eq]
 exact l472 n i h2 j f h1
theorem q3 : Bm.Good Try.prog E3 := q2.addS (by kernel_rfl) rfl (by decide) (by decide) rfl i472
theorem l470 (n : Nat) (hn : n ≤ 12) : ∀ (k i : Nat) (f : Nat → Nat → AV), (i + k = n ∨ (k = 0 ∧ n ≤ i)) → i ≤ 12 →
  Loops (stepC E3 300 (loopC E3 47 0) 1 h470 ((.normal, h470) :: x470) s470_p) (c470 n f i) 1 ⟨[], [some (.tarr shU n (sort1 k i f) true)]⟩
 | 0, i, f, h, hi => by
   have e := s470_eq n f i
   rw [decide_eq_false (show ¬ (i : Int) < (n : Int) by omega)] at e
   exact .out e (Seen.refl _)
 | k + 1, i, f, h, hi => by
   have e := s470_eq n f i
   rw [decide_eq_true (show (i : Int) < (n : Int) by omega), blt_t (show i < n by omega), ble_t hn, insV_eq, wrap_i64s (by omega)] at e
   exact .go e (Seen.refl _) (l470 n hn k (i + 1) (ins1 i f) (.inl (by omega)) (by omega))
theorem i470 (c : CS) (r : Nat × CS) (h : (r470 c).run = some r) : Loops (stepC E3 300 (loopC E3 47 0) 1 h470 ((.normal, h470) :: x470) s470_p) c r.1 r.2 := by
 obtain ⟨n, f, rfl, hb⟩ := r470_inv h
 obtain ⟨hn, hb2⟩ := chkT_run hb
 have h2 := le_of (hn 0 _ rfl)
 simp only [T.run, Option.some.injEq] at hb2; subst hb2
 rw [srtV_eq]
 exact l470 n h2 (n - 1) 1 f (by omega) (by omega)
theorem q4 : Bm.Good Try.prog E4 := q3.addS (by kernel_rfl) rfl (by decide) (by decide) rfl i470
theorem j47 (c c' : CS) (h : (f47 c).run = some c') : ∃ m pr ros π c0 c1, Seen c c0 ∧ callC E4 m 47 1 pr ros π c0 = some c1 ∧ Seen c1 c' := by
 obtain ⟨n, f, rfl, hb⟩ := f47_inv h
 obtain ⟨hn, hb2⟩ := chkT_run hb
 have h2 := hn 0 _ rfl
 simp only [T.run, Option.some.injEq] at hb2; subst hb2
 have e := k47_eq n f
 rw [h2] at e
 exact ⟨3000, .keep, [], k47_p, _, _, Seen.refl _, e, Seen.refl _⟩
theorem q5 : Bm.Good Try.prog E5 := q4.addI q4 (by kernel_rfl) j47
theorem grow8 {n : Nat} (h : n ≤ 2000000) : growB 8 n = true := by
 unfold growB
 rw [ble_t (show n ≤ 281474976710656 by omega), ble_t (show n * 8 ≤ 17179869184 by omega)]; rfl
theorem hrd_t {sf rd x : Int} {hs : AV → Bool} {hf : AV → Nat → AV} (h : x = sf) : hrdF sf rd hs hf x = rd := by
 unfold hrdF; rw [decide_eq_true h]; rfl
theorem hrd_f {sf rd x : Int} {hs : AV → Bool} {hf : AV → Nat → AV} (h : x ≠ sf) : hrdF sf rd hs hf x = AV.toI (cond (hs (.int .i64 x)) (hf (.int .i64 x) 0) (.int .u64 0)) := by
 unfold hrdF; rw [decide_eq_false h]; rfl
section
variable (nd sf : Int) (wl : Bool) (wn : Nat) (wf : Nat → Nat → AV) (rd : Int) (hs : AV → Bool) (hf : AV → Nat → AV) (al : Bool) (q : Nat) (e : Nat → Nat → AV)
def st26 : Nat → CS
 | 0 => c26t nd sf wl wn wf rd hs hf al q e 0
 | i + 1 => c26 nd sf wl wn wf rd hs hf false (i + 1) (hrdA sf rd hs hf e) al q e (i + 1)
end
def pi26 (c : CS) : Plan := match c.ts with
 | [_, .nilSlice, _, _, _] => s26t_p
 | _ => s26_p
theorem hrd_join {sf rd y : Int} {hs : AV → Bool} {hf : AV → Nat → AV} {e : Nat → Nat → AV} {m : Nat} (hy : hrdF sf rd hs hf (e m 0).toI = y) :
  ∀ t, t < m + 1 → (fjoin (fun p_ q_ => hrdA sf rd hs hf e (0 + p_) q_) m (rowsOf 1 [.int .u64 y] 1) t 0).toI = (hrdA sf rd hs hf e t 0).toI := by
 intro t ht
 unfold fjoin
 by_cases h : t < m
 ·rw [blt_t h]; show (hrdA sf rd hs hf e (0 + t) 0).toI = _; rw [Nat.zero_add]
 ·have : t = m := by omega
  subst this
  rw [blt_f h, Nat.sub_self]
  show y = hrdF sf rd hs hf (e t 0).toI
  exact hy.symm
theorem i26 (c : CS) (r : Nat × CS) (h : (r26 c).run = some r) : Loops (fun c => stepC E5 300 (loopC E5 26 0) 0 h26 ((.normal, h26) :: x26) (pi26 c) c) c r.1 r.2 := by
 obtain ⟨nd, sf, wl, wn, wf, rd, hs, hf, g, al, q, e, rfl, hb⟩ := r26_inv h
 obtain ⟨hn, hb2⟩ := chkT_run hb
 have hq := le_of (hn 0 _ rfl)
 have hq0 := blt_of (hn 1 _ rfl)
 simp only [T.run, Option.some.injEq] at hb2; subst hb2
 rw [hrdV_eq]
 refine .see (c1 := st26 nd sf wl wn wf rd hs hf al q e 0) (Seen.mk' (.cons (SeenV.refl _) (.cons SeenV.nil (SeenVs.refl _))) (.cons (SeenO.refl _) (.skip (SeenOs.refl _)))) ?_
 refine Loops.for (C := st26 nd sf wl wn wf rd hs hf al q e) (n := q) (fun i hi => ?_) ?_
 ·cases i with
  | zero =>
    have x := s26t_eq nd sf wl wn wf rd hs hf al q e 0
    rw [decide_eq_true (show ((0 : Nat) : Int) < (q : Int) by omega), Int.toNat_natCast, Nat.zero_add, blt_t hq0, wrap_i64s (by omega)] at x
    by_cases hx : (e 0 0).toI = sf
    ·rw [show ((e 0 0).toI == sf) = true by simp [hx]] at x
     refine ⟨_, x, ?_⟩
     exact Seen.mk' (SeenVs.refl _) (.cons (SeenO.refl _) (.cons (SeenO.one rfl fun t ht => by
      have : t = 0 := Nat.lt_one_iff.1 ht
      subst this
      exact (hrd_t hx).symm) (SeenOs.refl _)))
    ·rw [show ((e 0 0).toI == sf) = false by simp [hx]] at x
     refine ⟨_, x, ?_⟩
     exact Seen.mk' (SeenVs.refl _) (.cons (SeenO.refl _) (.cons (SeenO.one rfl fun t ht => by
      have : t = 0 := Nat.lt_one_iff.1 ht
      subst this
      exact (hrd_f hx).symm) (SeenOs.refl _)))
  | succ i =>
    have x := s26_eq nd sf wl wn wf rd hs hf (i + 1) (hrdA sf rd hs hf e) al q e (i + 1)
    rw [decide_eq_true (show ((i + 1 : Nat) : Int) < (q : Int) by omega), Int.toNat_natCast, Nat.zero_add, blt_t hi, wrap_i64s (by omega), ble_f (show ¬ i + 1 + 1 ≤ i + 1 by omega), grow8 (by omega), ble_t (Nat.le_refl _)] at x
    by_cases hx : (e (i + 1) 0).toI = sf
    ·rw [show ((e (i + 1) 0).toI == sf) = true by simp [hx]] at x
     exact ⟨_, x, Seen.mk' (SeenVs.refl _) (.cons (SeenO.refl _) (.cons (SeenO.one rfl (hrd_join (hrd_t hx))) (SeenOs.refl _)))⟩
    ·rw [show ((e (i + 1) 0).toI == sf) = false by simp [hx]] at x
     exact ⟨_, x, Seen.mk' (SeenVs.refl _) (.cons (SeenO.refl _) (.cons (SeenO.one rfl (hrd_join (hrd_f hx))) (SeenOs.refl _)))⟩
 ·cases q with
  | zero => omega
  | succ q =>
    have x := s26_eq nd sf wl wn wf rd hs hf (q + 1) (hrdA sf rd hs hf e) al (q + 1) e (q + 1)
    rw [decide_eq_false (show ¬ ((q + 1 : Nat) : Int) < ((q + 1 : Nat) : Int) by omega)] at x
    exact ⟨_, x, Seen.refl _⟩
theorem q9 : Bm.Good Try.prog E9 := q5.addS (by kernel_rfl) rfl (by decide) (by decide) rfl i26
end Go.Proofs.Ytgflmdjlpjjnaaa.desk
end
section
set_option linter.unusedSimpArgs false
set_option linter.unusedVariables false
set_option maxRecDepth 20000
namespace Go.Proofs.Ytgflmdjlpjjnaaa.desk
open Go Go.RowKit Go.Proofs.Ytgflmdjlpjjnaaa.Bm
def idA (t _ : Nat) : AV := .int .i64 (t : Nat)
def leastF (nd sf rd : Int) (hs : AV → Bool) (hf : AV → Nat → AV) : Int := (sort1 (nd.toNat - 1) 1 (hrdA sf rd hs hf idA) ((nd.toNat - 1) / 2) 0).toI
theorem leastVE : ∃ q : Int → Int → Int → (AV → Bool) → (AV → Nat → AV) → Int, q = leastF := ⟨_, rfl⟩
noncomputable def leastV : Int → Int → Int → (AV → Bool) → (AV → Nat → AV) → Int := Classical.choose leastVE
theorem leastV_eq : leastV = leastF := Classical.choose_spec leastVE
def a12 (nd : Int) (sf : Int) (wl : Bool) (wn : Nat) (wf : Nat → Nat → AV) (rd : Int) (hs : AV → Bool) (hf : AV → Nat → AV) : CS :=
 ⟨[.ptr 0 0], [some (.cells [.int .i64 nd, .int .i64 sf, .osl wl 1 0 wn wn 6 true, .int .u64 rd, .map 2] false), some (.tarr shW wn wf false), some (.omap shI shU false false [.int .u64 0] hs hf false)]⟩
noncomputable def f12B  (nd : Int) (sf : Int) (wl : Bool) (wn : Nat) (wf : Nat → Nat → AV) (rd : Int) (hs : AV → Bool) (hf : AV → Nat → AV) : T (CS) :=
 chkT [decide (1 ≤ nd), decide (nd ≤ 7)] (.ret ⟨[.int .u64 (leastV nd sf rd hs hf)], []⟩)
noncomputable def f12  (c : CS) : T (CS) := match c with
 | ⟨[.ptr 0 0], [some (.cells [.int .i64 nd, .int .i64 sf, .osl wl 1 0 wn z_1 6 true, .int .u64 rd, .map 2] false), some (.tarr sh_2 z_3 wf false), some (.omap sh_4 sh_5 false false sz_6 hs hf false)]⟩ => chkT [decide (wn = z_1), shBeq sh_2 shW, decide (wn = z_3), shBeq sh_4 shI, shBeq sh_5 shU, AV.beqL sz_6 [.int .u64 0]] (f12B  nd sf wl wn wf rd hs hf)
 | _ => .fail
noncomputable def EA : Env := addF E9 12 ⟨frRun [.keep] [pD] f12⟩
noncomputable def k12_1 (sf : Int) (wl : Bool) (wn : Nat) (wf : Nat → Nat → AV) (rd : Int) (hs : AV → Bool) (hf : AV → Nat → AV) (π : Plan) : Option CS := callC (E9) (3000) (12) (0) (.keep) ([pD]) π (a12_1 sf wl wn wf rd hs hf)
def k12_1_p : Plan := (.reck 788 (.must true (.reck 1 (.must true .stop))))
theorem k12_1_v (sf : Int) (wl : Bool) (wn : Nat) (wf : Nat → Nat → AV) (rd : Int) (hs : AV → Bool) (hf : AV → Nat → AV) : k12_1 sf wl wn wf rd hs hf k12_1_p = (cond (decide (wn = wn)) (cond (decide (wn = wn)) (some ⟨[.int .u64 (AV.toI (srtV (1 - 1) 1 (hrdV sf rd hs hf (rowsOf 1 [.int .i64 0] 1)) 0 0))], []⟩) none) none) := by kernel_rfl
noncomputable def k12_2 (sf : Int) (wl : Bool) (wn : Nat) (wf : Nat → Nat → AV) (rd : Int) (hs : AV → Bool) (hf : AV → Nat → AV) (π : Plan) : Option CS := callC (E9) (3000) (12) (0) (.keep) ([pD]) π (a12_2 sf wl wn wf rd hs hf)
def k12_2_p : Plan := (.reck 789 (.must true (.reck 1 (.must true .stop))))
theorem k12_2_v (sf : Int) (wl : Bool) (wn : Nat) (wf : Nat → Nat → AV) (rd : Int) (hs : AV → Bool) (hf : AV → Nat → AV) : k12_2 sf wl wn wf rd hs hf k12_2_p = (cond (decide (wn = wn)) (cond (decide (wn = wn)) (some ⟨[.int .u64 (AV.toI (srtV (2 - 1) 1 (hrdV sf rd hs hf (rowsOf 1 [.int .i64 0, .int .i64 1] 2)) 0 0))], []⟩) none) none) := by kernel_rfl
noncomputable def k12_3 (sf : Int) (wl : Bool) (wn : Nat) (wf : Nat → Nat → AV) (rd : Int) (hs : AV → Bool) (hf : AV → Nat → AV) (π : Plan) : Option CS := callC (E9) (3000) (12) (0) (.keep) ([pD]) π (a12_3 sf wl wn wf rd hs hf)
def k12_3_p : Plan := (.reck 790 (.must true (.reck 1 (.must true .stop))))
theorem k12_3_v (sf : Int) (wl : Bool) (wn : Nat) (wf : Nat → Nat → AV) (rd : Int) (hs : AV → Bool) (hf : AV → Nat → AV) : k12_3 sf wl wn wf rd hs hf k12_3_p = (cond (decide (wn = wn)) (cond (decide (wn = wn)) (some ⟨[.int .u64 (AV.toI (srtV (3 - 1) 1 (hrdV sf rd hs hf (rowsOf 1 [.int .i64 0, .int .i64 1, .int .i64 2] 3)) 1 0))], []⟩) none) none) := by kernel_rfl
noncomputable def k12_4 (sf : Int) (wl : Bool) (wn : Nat) (wf : Nat → Nat → AV) (rd : Int) (hs : AV → Bool) (hf : AV → Nat → AV) (π : Plan) : Option CS := callC (E9) (3000) (12) (0) (.keep) ([pD]) π (a12_4 sf wl wn wf rd hs hf)
def k12_4_p : Plan := (.reck 791 (.must true (.reck 1 (.must true .stop))))
theorem k12_4_v (sf : Int) (wl : Bool) (wn : Nat) (wf : Nat → Nat → AV) (rd : Int) (hs : AV → Bool) (hf : AV → Nat → AV) : k12_4 sf wl wn wf rd hs hf k12_4_p = (cond (decide (wn = wn)) (cond (decide (wn = wn)) (some ⟨[.int .u64 (AV.toI (srtV (4 - 1) 1 (hrdV sf rd hs hf (rowsOf 1 [.int .i64 0, .int .i64 1, .int .i64 2, .int .i64 3] 4)) 1 0))], []⟩) none) none) := by kernel_rfl
noncomputable def k12_5 (sf : Int) (wl : Bool) (wn : Nat) (wf : Nat → Nat → AV) (rd : Int) (hs : AV → Bool) (hf : AV → Nat → AV) (π : Plan) : Option CS := callC (E9) (3000) (12) (0) (.keep) ([pD]) π (a12_5 sf wl wn wf rd hs hf)
def k12_5_p : Plan := (.reck 792 (.must true (.reck 1 (.must true .stop))))
theorem k12_5_v (sf : Int) (wl : Bool) (wn : Nat) (wf : Nat → Nat → AV) (rd : Int) (hs : AV → Bool) (hf : AV → Nat → AV) : k12_5 sf wl wn wf rd hs hf k12_5_p = (cond (decide (wn = wn)) (cond (decide (wn = wn)) (some ⟨[.int .u64 (AV.toI (srtV (5 - 1) 1 (hrdV sf rd hs hf (rowsOf 1 [.int .i64 0, .int .i64 1, .int .i64 2, .int .i64 3, .int .i64 4] 5)) 2 0))], []⟩) none) none) := by kernel_rfl
noncomputable def k12_6 (sf : Int) (wl : Bool) (wn : Nat) (wf : Nat → Nat → AV) (rd : Int) (hs : AV → Bool) (hf : AV → Nat → AV) (π : Plan) : Option CS := callC (E9) (3000) (12) (0) (.keep) ([pD]) π (a12_6 sf wl wn wf rd hs hf)
def k12_6_p : Plan := (.reck 793 (.must true (.reck 1 (.must true .stop))))
theorem k12_6_v (sf : Int) (wl : Bool) (wn : Nat) (wf : Nat → Nat → AV) (rd : Int) (hs : AV → Bool) (hf : AV → Nat → AV) : k12_6 sf wl wn wf rd hs hf k12_6_p = (cond (decide (wn = wn)) (cond (decide (wn = wn)) (some ⟨[.int .u64 (AV.toI (srtV (6 - 1) 1 (hrdV sf rd hs hf (rowsOf 1 [.int .i64 0, .int .i64 1, .int .i64 2, .int .i64 3, .int .i64 4, .int .i64 5] 6)) 2 0))], []⟩) none) none) := by kernel_rfl
noncomputable def k12_7 (sf : Int) (wl : Bool) (wn : Nat) (wf : Nat → Nat → AV) (rd : Int) (hs : AV → Bool) (hf : AV → Nat → AV) (π : Plan) : Option CS := callC (E9) (3000) (12) (0) (.keep) ([pD]) π (a12_7 sf wl wn wf rd hs hf)
def k12_7_p : Plan := (.reck 794 (.must true (.reck 1 (.must true .stop))))
theorem k12_7_v (sf : Int) (wl : Bool) (wn : Nat) (wf : Nat → Nat → AV) (rd : Int) (hs : AV → Bool) (hf : AV → Nat → AV) : k12_7 sf wl wn wf rd hs hf k12_7_p = (cond (decide (wn = wn)) (cond (decide (wn = wn)) (some ⟨[.int .u64 (AV.toI (srtV (7 - 1) 1 (hrdV sf rd hs hf (rowsOf 1 [.int .i64 0, .int .i64 1, .int .i64 2, .int .i64 3, .int .i64 4, .int .i64 5, .int .i64 6] 7)) 3 0))], []⟩) none) none) := by kernel_rfl
theorem f12_inv  {c : CS} {r : CS} (h : (f12  c).run = some r) : ∃ nd sf wl wn wf rd hs hf, c = a12 nd sf wl wn wf rd hs hf ∧ (f12B  nd sf wl wn wf rd hs hf).run = some r := by
 unfold f12 at h
 split at h
 ·rename_i nd sf wl wn z_1 rd sh_2 z_3 wf sh_4 sh_5 sz_6 hs hf
  obtain ⟨hc, hb⟩ := chkT_run h
  have h0 := hc 0 _ rfl
  have h0 := of_decide_eq_true h0; subst h0
  have h1 := hc 1 _ rfl
  have h1 := (shBeq_eq h1).symm; subst h1
  have h2 := hc 2 _ rfl
  have h2 := of_decide_eq_true h2; subst h2
  have h3 := hc 3 _ rfl
  have h3 := (shBeq_eq h3).symm; subst h3
  have h4 := hc 4 _ rfl
  have h4 := (shBeq_eq h4).symm; subst h4
  have h5 := hc 5 _ rfl
  have h5 := AV.eq_of_beqL _ _ h5; subst h5
  exact ⟨nd, sf, wl, wn, wf, rd, hs, hf, rfl, hb⟩
 ·cases h
theorem swp_congr {n j : Nat} {f g : Nat → Nat → AV} (hj : j < n) (h : ∀ t, t < n → (f t 0).toI = (g t 0).toI) : ∀ t, t < n → (swp f j t 0).toI = (swp g j t 0).toI := by
 intro t ht
 unfold swp
 rw [h (j - 1) (by omega), h j hj]
 cases Nat.beq t j with
 | true => rfl
 | false =>
   cases Nat.beq t (j - 1) with
   | true => rfl
   | false => exact h t ht
theorem ins1_congr {n : Nat} : ∀ (j : Nat) (f g : Nat → Nat → AV), j < n → (∀ t, t < n → (f t 0).toI = (g t 0).toI) → ∀ t, t < n → (ins1 j f t 0).toI = (ins1 j g t 0).toI
 | 0, f, g, hj, h => h
 | j + 1, f, g, hj, h => by
   intro t ht
   simp only [ins1]
   rw [h (j + 1) hj, h j (by omega)]
   cases decide ((g (j + 1) 0).toI < (g j 0).toI) with
   | true => exact ins1_congr j _ _ (by omega) (swp_congr hj h) t ht
   | false => exact h t ht
theorem sort1_congr {n : Nat} : ∀ (k i : Nat) (f g : Nat → Nat → AV), i + k ≤ n → (∀ t, t < n → (f t 0).toI = (g t 0).toI) → ∀ t, t < n → (sort1 k i f t 0).toI = (sort1 k i g t 0).toI
 | 0, i, f, g, hj, h => h
 | k + 1, i, f, g, hj, h => sort1_congr k (i + 1) _ _ (by omega) (ins1_congr i f g (by omega) h)
theorem least_of {sf rd : Int} {hs : AV → Bool} {hf : AV → Nat → AV} {k m : Nat} {e : Nat → Nat → AV} (hk : 1 ≤ k) (hm : m = (k - 1) / 2) (he : ∀ t, t < k → (e t 0).toI = (t : Int)) :
  AV.toI (srtV (k - 1) 1 (hrdV sf rd hs hf e) m 0) = leastV (k : Int) sf rd hs hf := by
 rw [srtV_eq, hrdV_eq, leastV_eq]
 unfold leastF
 subst hm
 rw [Int.toNat_natCast]
 refine sort1_congr (n := k) (k - 1) 1 _ _ (by omega) (fun t ht => ?_) _ (by omega)
 show hrdF sf rd hs hf (e t 0).toI = hrdF sf rd hs hf (idA t 0).toI
 rw [he t ht]; rfl
theorem j12 (c c' : CS) (h : (f12 c).run = some c') : ∃ m pr ros π, callC E9 m 12 0 pr ros π c = some c' := by
 obtain ⟨nd, sf, wl, wn, wf, rd, hs, hf, rfl, hb⟩ := f12_inv h
 obtain ⟨hn, hb2⟩ := chkT_run hb
 have h1 := of_decide_eq_true (hn 0 _ rfl)
 have h7 := of_decide_eq_true (hn 1 _ rfl)
 simp only [T.run, Option.some.injEq] at hb2; subst hb2
 have hc : nd = 1 ∨ nd = 2 ∨ nd = 3 ∨ nd = 4 ∨ nd = 5 ∨ nd = 6 ∨ nd = 7 := by omega
 rcases hc with rfl | rfl | rfl | rfl | rfl | rfl | rfl
 ·have e := k12_1_v sf wl wn wf rd hs hf
  simp only [decide_true, cond_true] at e
  rw [least_of (k := 1) (m := 0) (by omega) rfl (fun t ht => by
   have : t = 0 := by omega
   rcases this with rfl <;> rfl)] at e
  exact ⟨3000, .keep, [pD], k12_1_p, e⟩
 ·have e := k12_2_v sf wl wn wf rd hs hf
  simp only [decide_true, cond_true] at e
  rw [least_of (k := 2) (m := 0) (by omega) rfl (fun t ht => by
   have : t = 0 ∨ t = 1 := by omega
   rcases this with rfl | rfl <;> rfl)] at e
  exact ⟨3000, .keep, [pD], k12_2_p, e⟩
 ·have e := k12_3_v sf wl wn wf rd hs hf
  simp only [decide_true, cond_true] at e
  rw [least_of (k := 3) (m := 1) (by omega) rfl (fun t ht => by
   have : t = 0 ∨ t = 1 ∨ t = 2 := by omega
   rcases this with rfl | rfl | rfl <;> rfl)] at e
  exact ⟨3000, .keep, [pD], k12_3_p, e⟩
 ·have e := k12_4_v sf wl wn wf rd hs hf
  simp only [decide_true, cond_true] at e
  rw [least_of (k := 4) (m := 1) (by omega) rfl (fun t ht => by
   have : t = 0 ∨ t = 1 ∨ t = 2 ∨ t = 3 := by omega
   rcases this with rfl | rfl | rfl | rfl <;> rfl)] at e
  exact ⟨3000, .keep, [pD], k12_4_p, e⟩
 ·have e := k12_5_v sf wl wn wf rd hs hf
  simp only [decide_true, cond_true] at e
  rw [least_of (k := 5) (m := 2) (by omega) rfl (fun t ht => by
   have : t = 0 ∨ t = 1 ∨ t = 2 ∨ t = 3 ∨ t = 4 := by omega
   rcases this with rfl | rfl | rfl | rfl | rfl <;> rfl)] at e
  exact ⟨3000, .keep, [pD], k12_5_p, e⟩
 ·have e := k12_6_v sf wl wn wf rd hs hf
  simp only [decide_true, cond_true] at e
  rw [least_of (k := 6) (m := 2) (by omega) rfl (fun t ht => by
   have : t = 0 ∨ t = 1 ∨ t = 2 ∨ t = 3 ∨ t = 4 ∨ t = 5 := by omega
   rcases this with rfl | rfl | rfl | rfl | rfl | rfl <;> rfl)] at e
  exact ⟨3000, .keep, [pD], k12_6_p, e⟩
 ·have e := k12_7_v sf wl wn wf rd hs hf
  simp only [decide_true, cond_true] at e
  rw [least_of (k := 7) (m := 3) (by omega) rfl (fun t ht => by
   have : t = 0 ∨ t = 1 ∨ t = 2 ∨ t = 3 ∨ t = 4 ∨ t = 5 ∨ t = 6 := by omega
   rcases this with rfl | rfl | rfl | rfl | rfl | rfl | rfl <;> rfl)] at e
  exact ⟨3000, .keep, [pD], k12_7_p, e⟩
theorem qA : Bm.Good Try.prog EA := q9.addR q9 (by kernel_rfl) j12
end Go.Proofs.Ytgflmdjlpjjnaaa.desk
end
section
set_option linter.unusedSimpArgs false
set_option linter.unusedVariables false
set_option maxRecDepth 20000
namespace Go.Proofs.Ytgflmdjlpjjnaaa.desk
open Go Go.RowKit Go.Proofs.Ytgflmdjlpjjnaaa.Bm
structure Wt where
 cl : Int
 rq : Int
 ix : Int
 fr : Int
 ct : Int
 rd : Int
def Wt.cell (x : Wt) : Nat → AV
 | 0 => .int .u64 x.cl
 | 1 => .int .u64 x.rq
 | 2 => .int .u64 x.ix
 | 3 => .int .u32 x.fr
 | 4 => .int .u32 x.ct
 | _ => .int .u64 x.rd
def nilW : Wt := ⟨0, 0, 0, 0, 0, 0⟩
def finW (L : List Wt) (i j : Nat) : AV := (L.getD i nilW).cell j
def wtAt (f : Nat → Nat → AV) (i : Nat) : Wt := ⟨(f i 0).toI, (f i 1).toI, (f i 2).toI, (f i 3).toI, (f i 4).toI, (f i 5).toI⟩
def rdW (f : Nat → Nat → AV) (n : Nat) : List Wt := (List.range n).map (wtAt f)
def hasF (lo bi ix : Int) : Bool := cond (decide (ix ≤ lo)) true (cond (decide (IntKind.wrap .u64 (ix - lo) ≤ 64)) (bitsR .and .u64 (Int.fdiv bi (2 ^ min (Int.toNat (IntKind.wrap .u64 (IntKind.wrap .u64 (ix - lo) - 1))) (IntKind.bits .u64))) 1 == 1) false)
def qaF (a b : Int) (x : Wt) : Bool := x.cl == a && (x.rq == b && !(decide (x.ix > 0)))
def qbF (s : Int) (x : Wt) : Bool := x.ix == 0 && decide (x.rd ≤ s)
def qcF (lo bi : Int) (x : Wt) : Bool := decide (x.ix > 0) && hasF lo bi x.ix
def qdF (a b : Int) (x : Wt) : Bool := x.cl == a && (x.rq == b && decide (x.ix > 0))
theorem qaVE : ∃ q : Int → Int → Wt → Bool, q = qaF := ⟨_, rfl⟩
noncomputable def qaV : Int → Int → Wt → Bool := Classical.choose qaVE
theorem qaV_eq : qaV = qaF := Classical.choose_spec qaVE
theorem qbVE : ∃ q : Int → Wt → Bool, q = qbF := ⟨_, rfl⟩
noncomputable def qbV : Int → Wt → Bool := Classical.choose qbVE
theorem qbV_eq : qbV = qbF := Classical.choose_spec qbVE
theorem qcVE : ∃ q : Int → Int → Wt → Bool, q = qcF := ⟨_, rfl⟩
noncomputable def qcV : Int → Int → Wt → Bool := Classical.choose qcVE
theorem qcV_eq : qcV = qcF := Classical.choose_spec qcVE
theorem qdVE : ∃ q : Int → Int → Wt → Bool, q = qdF := ⟨_, rfl⟩
noncomputable def qdV : Int → Int → Wt → Bool := Classical.choose qdVE
theorem qdV_eq : qdV = qdF := Classical.choose_spec qdVE
noncomputable def F0 : Env := EA
def a23 (xa : Int) (xb : Int) (xi : Int) (xf : Int) (xt : Int) (xd : Int) (a : Int) (b : Int) : CS :=
 ⟨[.agg [.int .u64 xa, .int .u64 xb, .int .u64 xi, .int .u32 xf, .int .u32 xt, .int .u64 xd], .ptr 0 0, .ptr 1 0], [some (.cells [.int .u64 a] false), some (.cells [.int .u64 b] false)]⟩
noncomputable def f23B  (xa : Int) (xb : Int) (xi : Int) (xf : Int) (xt : Int) (xd : Int) (a : Int) (b : Int) : T (CS) :=
 .ret ⟨[.bool (qaV a b ⟨xa, xb, xi, xf, xt, xd⟩)], []⟩
noncomputable def f23  (c : CS) : T (CS) := match c with
 | ⟨[.agg [.int .u64 xa, .int .u64 xb, .int .u64 xi, .int .u32 xf, .int .u32 xt, .int .u64 xd], .ptr 0 0, .ptr 1 0], [some (.cells [.int .u64 a] false), some (.cells [.int .u64 b] false)]⟩ => chkT [] (f23B  xa xb xi xf xt xd a b)
 | _ => .fail
noncomputable def f28B  (xa : Int) (xb : Int) (xi : Int) (xf : Int) (xt : Int) (xd : Int) (a : Int) (b : Int) : T (CS) :=
 .ret ⟨[.bool (qdV a b ⟨xa, xb, xi, xf, xt, xd⟩)], []⟩
noncomputable def f28  (c : CS) : T (CS) := match c with
 | ⟨[.agg [.int .u64 xa, .int .u64 xb, .int .u64 xi, .int .u32 xf, .int .u32 xt, .int .u64 xd], .ptr 0 0, .ptr 1 0], [some (.cells [.int .u64 a] false), some (.cells [.int .u64 b] false)]⟩ => chkT [] (f28B  xa xb xi xf xt xd a b)
 | _ => .fail
def a25 (xa : Int) (xb : Int) (xi : Int) (xf : Int) (xt : Int) (xd : Int) (s : Int) : CS :=
 ⟨[.agg [.int .u64 xa, .int .u64 xb, .int .u64 xi, .int .u32 xf, .int .u32 xt, .int .u64 xd], .ptr 0 0], [some (.cells [.int .u64 s] false)]⟩
noncomputable def f25B  (xa : Int) (xb : Int) (xi : Int) (xf : Int) (xt : Int) (xd : Int) (s : Int) : T (CS) :=
 .ret ⟨[.bool (qbV s ⟨xa, xb, xi, xf, xt, xd⟩)], []⟩
noncomputable def f25  (c : CS) : T (CS) := match c with
 | ⟨[.agg [.int .u64 xa, .int .u64 xb, .int .u64 xi, .int .u32 xf, .int .u32 xt, .int .u64 xd], .ptr 0 0], [some (.cells [.int .u64 s] false)]⟩ => chkT [] (f25B  xa xb xi xf xt xd s)
 | _ => .fail
def a30 (xa : Int) (xb : Int) (xi : Int) (xf : Int) (xt : Int) (xd : Int) (lo : Int) (bi : Int) : CS :=
 ⟨[.agg [.int .u64 xa, .int .u64 xb, .int .u64 xi, .int .u32 xf, .int .u32 xt, .int .u64 xd], .ptr 0 0], [some (.cells [.int .u64 lo, .int .u64 bi] false)]⟩
noncomputable def f30B  (xa : Int) (xb : Int) (xi : Int) (xf : Int) (xt : Int) (xd : Int) (lo : Int) (bi : Int) : T (CS) :=
 .ret ⟨[.bool (qcV lo bi ⟨xa, xb, xi, xf, xt, xd⟩)], []⟩
noncomputable def f30  (c : CS) : T (CS) := match c with
 | ⟨[.agg [.int .u64 xa, .int .u64 xb, .int .u64 xi, .int .u32 xf, .int .u32 xt, .int .u64 xd], .ptr 0 0], [some (.cells [.int .u64 lo, .int .u64 bi] false)]⟩ => chkT [] (f30B  xa xb xi xf xt xd lo bi)
 | _ => .fail
noncomputable def F1 : Env := addF (addF (addF (addF F0 23 ⟨frRun [.keep, .keep, .keep] [] f23⟩) 28 ⟨frRun [.keep, .keep, .keep] [] f28⟩) 25 ⟨frRun [.keep, .keep] [] f25⟩) 30 ⟨frRun [.keep, .keep] [] f30⟩
def h22 : Pat := ⟨28, [(1, .keep), (4, .asl shW), (5, .asl shW), (8, .asl shW), (9, .keep), (10, .keep)], []⟩
def x22 : List (Ex × Pat) := [(.exit 0, ⟨28, [(4, .asl shW), (5, .asl shW)], []⟩)]
def c22a00 (a : Int) (b : Int) (wl : Bool) (n : Nat) (f : Nat → Nat → AV) (i : Nat) : CS :=
 ⟨[.func (.func 23) [] [.ptr 0 0, .ptr 1 0], .nilSlice, .nilSlice, .osl wl 4 0 n n 6 true, .int .i64 (n : Nat), .int .i64 (i : Nat)], [some (.cells [.int .u64 a] false), some (.cells [.int .u64 b] false), none, none, some (.tarr shW n f false)]⟩
def c22a01 (a : Int) (b : Int) (p : Nat) (e : Nat → Nat → AV) (wl : Bool) (n : Nat) (f : Nat → Nat → AV) (i : Nat) : CS :=
 ⟨[.func (.func 23) [] [.ptr 0 0, .ptr 1 0], .nilSlice, .osl false 3 0 p p 6 true, .osl wl 4 0 n n 6 true, .int .i64 (n : Nat), .int .i64 (i : Nat)], [some (.cells [.int .u64 a] false), some (.cells [.int .u64 b] false), none, some (.tarr shW p e true), some (.tarr shW n f false)]⟩
def c22a10 (a : Int) (b : Int) (m : Nat) (g : Nat → Nat → AV) (wl : Bool) (n : Nat) (f : Nat → Nat → AV) (i : Nat) : CS :=
 ⟨[.func (.func 23) [] [.ptr 0 0, .ptr 1 0], .osl false 2 0 m m 6 true, .nilSlice, .osl wl 4 0 n n 6 true, .int .i64 (n : Nat), .int .i64 (i : Nat)], [some (.cells [.int .u64 a] false), some (.cells [.int .u64 b] false), some (.tarr shW m g true), none, some (.tarr shW n f false)]⟩
def c22a11 (a : Int) (b : Int) (m : Nat) (g : Nat → Nat → AV) (p : Nat) (e : Nat → Nat → AV) (wl : Bool) (n : Nat) (f : Nat → Nat → AV) (i : Nat) : CS :=
 ⟨[.func (.func 23) [] [.ptr 0 0, .ptr 1 0], .osl false 2 0 m m 6 true, .osl false 3 0 p p 6 true, .osl wl 4 0 n n 6 true, .int .i64 (n : Nat), .int .i64 (i : Nat)], [some (.cells [.int .u64 a] false), some (.cells [.int .u64 b] false), some (.tarr shW m g true), some (.tarr shW p e true), some (.tarr shW n f false)]⟩
def c22b00 (s : Int) (wl : Bool) (n : Nat) (f : Nat → Nat → AV) (i : Nat) : CS :=
 ⟨[.func (.func 25) [] [.ptr 0 0], .nilSlice, .nilSlice, .osl wl 3 0 n n 6 true, .int .i64 (n : Nat), .int .i64 (i : Nat)], [some (.cells [.int .u64 s] false), none, none, some (.tarr shW n f false)]⟩
def c22b01 (s : Int) (p : Nat) (e : Nat → Nat → AV) (wl : Bool) (n : Nat) (f : Nat → Nat → AV) (i : Nat) : CS :=
 ⟨[.func (.func 25) [] [.ptr 0 0], .nilSlice, .osl false 2 0 p p 6 true, .osl wl 3 0 n n 6 true, .int .i64 (n : Nat), .int .i64 (i : Nat)], [some (.cells [.int .u64 s] false), none, some (.tarr shW p e true), some (.tarr shW n f false)]⟩
def c22b10 (s : Int) (m : Nat) (g : Nat → Nat → AV) (wl : Bool) (n : Nat) (f : Nat → Nat → AV) (i : Nat) : CS :=
 ⟨[.func (.func 25) [] [.ptr 0 0], .osl false 1 0 m m 6 true, .nilSlice, .osl wl 3 0 n n 6 true, .int .i64 (n : Nat), .int .i64 (i : Nat)], [some (.cells [.int .u64 s] false), some (.tarr shW m g true), none, some (.tarr shW n f false)]⟩
def c22b11 (s : Int) (m : Nat) (g : Nat → Nat → AV) (p : Nat) (e : Nat → Nat → AV) (wl : Bool) (n : Nat) (f : Nat → Nat → AV) (i : Nat) : CS :=
 ⟨[.func (.func 25) [] [.ptr 0 0], .osl false 1 0 m m 6 true, .osl false 2 0 p p 6 true, .osl wl 3 0 n n 6 true, .int .i64 (n : Nat), .int .i64 (i : Nat)], [some (.cells [.int .u64 s] false), some (.tarr shW m g true), some (.tarr shW p e true), some (.tarr shW n f false)]⟩
def c22c00 (lo : Int) (bi : Int) (wl : Bool) (n : Nat) (f : Nat → Nat → AV) (i : Nat) : CS :=
 ⟨[.func (.func 30) [] [.ptr 0 0], .nilSlice, .nilSlice, .osl wl 3 0 n n 6 true, .int .i64 (n : Nat), .int .i64 (i : Nat)], [some (.cells [.int .u64 lo, .int .u64 bi] false), none, none, some (.tarr shW n f false)]⟩
def c22c01 (lo : Int) (bi : Int) (p : Nat) (e : Nat → Nat → AV) (wl : Bool) (n : Nat) (f : Nat → Nat → AV) (i : Nat) : CS :=
 ⟨[.func (.func 30) [] [.ptr 0 0], .nilSlice, .osl false 2 0 p p 6 true, .osl wl 3 0 n n 6 true, .int .i64 (n : Nat), .int .i64 (i : Nat)], [some (.cells [.int .u64 lo, .int .u64 bi] false), none, some (.tarr shW p e true), some (.tarr shW n f false)]⟩
def c22c10 (lo : Int) (bi : Int) (m : Nat) (g : Nat → Nat → AV) (wl : Bool) (n : Nat) (f : Nat → Nat → AV) (i : Nat) : CS :=
 ⟨[.func (.func 30) [] [.ptr 0 0], .osl false 1 0 m m 6 true, .nilSlice, .osl wl 3 0 n n 6 true, .int .i64 (n : Nat), .int .i64 (i : Nat)], [some (.cells [.int .u64 lo, .int .u64 bi] false), some (.tarr shW m g true), none, some (.tarr shW n f false)]⟩
def c22c11 (lo : Int) (bi : Int) (m : Nat) (g : Nat → Nat → AV) (p : Nat) (e : Nat → Nat → AV) (wl : Bool) (n : Nat) (f : Nat → Nat → AV) (i : Nat) : CS :=
 ⟨[.func (.func 30) [] [.ptr 0 0], .osl false 1 0 m m 6 true, .osl false 2 0 p p 6 true, .osl wl 3 0 n n 6 true, .int .i64 (n : Nat), .int .i64 (i : Nat)], [some (.cells [.int .u64 lo, .int .u64 bi] false), some (.tarr shW m g true), some (.tarr shW p e true), some (.tarr shW n f false)]⟩
noncomputable def k23 (xa : Int) (xb : Int) (xi : Int) (xf : Int) (xt : Int) (xd : Int) (a : Int) (b : Int) (π : Plan) : Option CS := callC (F0) (3000) (23) (0) (.keep) ([]) π (a23 xa xb xi xf xt xd a b)
def k23_p : Plan := (.fork (.must true (.must true (.must true (.must true (.fork (.must true (.must true (.must true (.must true (.must true .stop))))) (.must false (.must false (.must false (.must false (.must false .stop)))))))))) (.must false (.must false (.must false (.must false .stop)))))
theorem k23_is (xa : Int) (xb : Int) (xi : Int) (xf : Int) (xt : Int) (xd : Int) (a : Int) (b : Int) : k23 xa xb xi xf xt xd a b k23_p = (cond ((xa == a) == true)
 (cond ((xa == a) == true) (cond ((xa == a) == true) (cond ((xa == a) == true) (cond (xa == a) (cond ((xb == b) == true)
 (cond ((xb == b) == true) (cond ((xb == b) == true) (cond ((xb == b) == true) (cond ((xb == b) == true) (cond (xb == b) (some (CS.mk [(AV.bool (decide (xi > 0) == false))] [])) none) none) none) none) none)
 (cond ((xb == b) == true) none (cond ((xb == b) == true) none (cond ((xb == b) == true) none (cond ((xb == b) == true) none (cond (xb == b) none (some (CS.mk [(AV.bool (false))] [])))))))) none) none) none) none)
 (cond ((xa == a) == true) none (cond ((xa == a) == true) none (cond ((xa == a) == true) none (cond (xa == a) none (some (CS.mk [(AV.bool (false))] []))))))) := by kernel_rfl
theorem k23_eq (xa : Int) (xb : Int) (xi : Int) (xf : Int) (xt : Int) (xd : Int) (a : Int) (b : Int) : k23 xa xb xi xf xt xd a b k23_p = (cond (xa == a)
 (cond (xb == b)
 (some (CS.mk [(AV.bool (decide (xi > 0) == false))] []))
 (some (CS.mk [(AV.bool (false))] [])))
 (some (CS.mk [(AV.bool (false))] []))) := by
 rw [k23_is]
 try simp only [eq_self, decide_true, beq_self_eq_true, Nat.beq_refl, ble_self, Int.le_refl, Nat.le_refl]
 cases (xa == a) with
 | true =>
   cases (xb == b) with
   | true =>
     rfl
   | false =>
     rfl
 | false =>
   rfl
noncomputable def k28 (xa : Int) (xb : Int) (xi : Int) (xf : Int) (xt : Int) (xd : Int) (a : Int) (b : Int) (π : Plan) : Option CS := callC (F0) (3000) (28) (0) (.keep) ([]) π (a23 xa xb xi xf xt xd a b)
def k28_p : Plan := (.fork (.must true (.must true (.must true (.must true (.fork (.must true (.must true (.must true (.must true (.must true .stop))))) (.must false (.must false (.must false (.must false (.must false .stop)))))))))) (.must false (.must false (.must false (.must false .stop)))))
theorem k28_is (xa : Int) (xb : Int) (xi : Int) (xf : Int) (xt : Int) (xd : Int) (a : Int) (b : Int) : k28 xa xb xi xf xt xd a b k28_p = (cond ((xa == a) == true)
 (cond ((xa == a) == true) (cond ((xa == a) == true) (cond ((xa == a) == true) (cond (xa == a) (cond ((xb == b) == true)
 (cond ((xb == b) == true) (cond ((xb == b) == true) (cond ((xb == b) == true) (cond ((xb == b) == true) (cond (xb == b) (some (CS.mk [(AV.bool (decide (xi > 0) == true))] [])) none) none) none) none) none)
 (cond ((xb == b) == true) none (cond ((xb == b) == true) none (cond ((xb == b) == true) none (cond ((xb == b) == true) none (cond (xb == b) none (some (CS.mk [(AV.bool (false))] [])))))))) none) none) none) none)
 (cond ((xa == a) == true) none (cond ((xa == a) == true) none (cond ((xa == a) == true) none (cond (xa == a) none (some (CS.mk [(AV.bool (false))] []))))))) := by kernel_rfl
theorem k28_eq (xa : Int) (xb : Int) (xi : Int) (xf : Int) (xt : Int) (xd : Int) (a : Int) (b : Int) : k28 xa xb xi xf xt xd a b k28_p = (cond (xa == a)
 (cond (xb == b)
 (some (CS.mk [(AV.bool (decide (xi > 0) == true))] []))
 (some (CS.mk [(AV.bool (false))] [])))
 (some (CS.mk [(AV.bool (false))] []))) := by
 rw [k28_is]
 try simp only [eq_self, decide_true, beq_self_eq_true, Nat.beq_refl, ble_self, Int.le_refl, Nat.le_refl]
 cases (xa == a) with
 | true =>
   cases (xb == b) with
   | true =>
     rfl
   | false =>
     rfl
 | false =>
   rfl
noncomputable def k25 (xa : Int) (xb : Int) (xi : Int) (xf : Int) (xt : Int) (xd : Int) (s : Int) (π : Plan) : Option CS := callC (F0) (3000) (25) (0) (.keep) ([]) π (a25 xa xb xi xf xt xd s)
def k25_p : Plan := (.fork (.must true (.must true (.must true (.must true .stop)))) (.must false (.must false (.must false (.must false .stop)))))
theorem k25_is (xa : Int) (xb : Int) (xi : Int) (xf : Int) (xt : Int) (xd : Int) (s : Int) : k25 xa xb xi xf xt xd s k25_p = (cond ((xi == 0) == true)
 (cond ((xi == 0) == true) (cond ((xi == 0) == true) (cond ((xi == 0) == true) (cond (xi == 0) (some (CS.mk [(AV.bool (decide (xd ≤ s)))] [])) none) none) none) none)
 (cond ((xi == 0) == true) none (cond ((xi == 0) == true) none (cond ((xi == 0) == true) none (cond (xi == 0) none (some (CS.mk [(AV.bool (false))] []))))))) := by kernel_rfl
theorem k25_eq (xa : Int) (xb : Int) (xi : Int) (xf : Int) (xt : Int) (xd : Int) (s : Int) : k25 xa xb xi xf xt xd s k25_p = (cond (xi == 0)
 (some (CS.mk [(AV.bool (decide (xd ≤ s)))] []))
 (some (CS.mk [(AV.bool (false))] []))) := by
 rw [k25_is]
 try simp only [eq_self, decide_true, beq_self_eq_true, Nat.beq_refl, ble_self, Int.le_refl, Nat.le_refl]
 cases (xi == 0) with
 | true =>
   rfl
 | false =>
   rfl
noncomputable def k30 (xa : Int) (xb : Int) (xi : Int) (xf : Int) (xt : Int) (xd : Int) (lo : Int) (bi : Int) (π : Plan) : Option CS := callC (F0) (3000) (30) (0) (.keep) ([]) π (a30 xa xb xi xf xt xd lo bi)
def k30_p : Plan := (.fork (.must true (.must true (.must true (.fork (.must true .stop) (.fork (.must true (.must true (.must true (.must true (.must true (.must true (.must true (.fork (.must true (.must true (.must true (.must true .stop)))) .stop)))))))) (.must false (.must false (.must false (.must false (.must false (.must false (.must false (.must false (.must false (.must false (.must true .stop)))))))))))))))) (.must false (.must false (.must false (.must false .stop)))))
theorem k30_is (xa : Int) (xb : Int) (xi : Int) (xf : Int) (xt : Int) (xd : Int) (lo : Int) (bi : Int) : k30 xa xb xi xf xt xd lo bi k30_p = (cond (decide (xi > 0) == true)
 (cond (decide (xi > 0) == true) (cond (decide (xi > 0) == true) (cond (decide (xi > 0) == true) (cond (decide (xi ≤ lo))
 (cond (decide (xi > 0)) (some (CS.mk [(AV.bool (true))] [])) none)
 (cond (decide (IntKind.wrap IntKind.u64 (xi - lo) ≤ 64) == true)
 (cond (decide (IntKind.wrap IntKind.u64 (xi - lo) ≤ 64) == true) (cond (decide (IntKind.wrap IntKind.u64 (xi - lo) ≤ 64) == true) (cond (decide (IntKind.wrap IntKind.u64 (xi - lo) ≤ 64) == true) (cond (decide (IntKind.wrap IntKind.u64 (xi - lo) ≤ 64) == true) (cond (decide (IntKind.wrap IntKind.u64 (xi - lo) ≤ 64) == true) (cond (decide (IntKind.wrap IntKind.u64 (xi - lo) ≤ 64) == true) (cond (decide (IntKind.wrap IntKind.u64 (xi - lo) ≤ 64) == true) (cond (!decide (IntKind.wrap IntKind.u64 (IntKind.wrap IntKind.u64 (xi - lo) - 1) < 0))
 (cond (decide (IntKind.wrap IntKind.u64 (xi - lo) ≤ 64) == true) (cond (decide (IntKind.wrap IntKind.u64 (xi - lo) ≤ 64) == true) (cond (decide (IntKind.wrap IntKind.u64 (xi - lo) ≤ 64)) (cond (decide (xi > 0)) (some (CS.mk [(AV.bool (Env.bits F0 BinOp.and IntKind.u64 (Int.fdiv bi (2 ^ min (Int.toNat (IntKind.wrap IntKind.u64 (IntKind.wrap IntKind.u64 (xi - lo) - 1))) (IntKind.bits IntKind.u64))) 1 == 1))] [])) none) none) none) none)
 none) none) none) none) none) none) none) none)
 (cond (decide (IntKind.wrap IntKind.u64 (xi - lo) ≤ 64) == true) none (cond (decide (IntKind.wrap IntKind.u64 (xi - lo) ≤ 64) == true) none (cond (decide (IntKind.wrap IntKind.u64 (xi - lo) ≤ 64) == true) none (cond (decide (IntKind.wrap IntKind.u64 (xi - lo) ≤ 64) == true) none (cond (decide (IntKind.wrap IntKind.u64 (xi - lo) ≤ 64) == true) none (cond (decide (IntKind.wrap IntKind.u64 (xi - lo) ≤ 64) == true) none (cond (decide (IntKind.wrap IntKind.u64 (xi - lo) ≤ 64) == true) none (cond (decide (IntKind.wrap IntKind.u64 (xi - lo) ≤ 64) == true) none (cond (decide (IntKind.wrap IntKind.u64 (xi - lo) ≤ 64) == true) none (cond (decide (IntKind.wrap IntKind.u64 (xi - lo) ≤ 64)) none (cond (decide (xi > 0)) (some (CS.mk [(AV.bool (false))] [])) none))))))))))))) none) none) none)
 (cond (decide (xi > 0) == true) none (cond (decide (xi > 0) == true) none (cond (decide (xi > 0) == true) none (cond (decide (xi > 0)) none (some (CS.mk [(AV.bool (false))] []))))))) := by kernel_rfl
theorem k30_eq (xa : Int) (xb : Int) (xi : Int) (xf : Int) (xt : Int) (xd : Int) (lo : Int) (bi : Int) : k30 xa xb xi xf xt xd lo bi k30_p = (cond (decide (xi > 0))
 (cond (decide (xi ≤ lo))
 (some (CS.mk [(AV.bool (true))] []))
 (cond (decide (IntKind.wrap IntKind.u64 (xi - lo) ≤ 64))
 (cond (decide (IntKind.wrap IntKind.u64 (IntKind.wrap IntKind.u64 (xi - lo) - 1) < 0))
 none
 (some (CS.mk [(AV.bool (Env.bits F0 BinOp.and IntKind.u64 (Int.fdiv bi (2 ^ min (Int.toNat (IntKind.wrap IntKind.u64 (IntKind.wrap IntKind.u64 (xi - lo) - 1))) (IntKind.bits IntKind.u64))) 1 == 1))] [])))
 (some (CS.mk [(AV.bool (false))] []))))
 (some (CS.mk [(AV.bool (false))] []))) := by
 rw [k30_is]
 try simp only [eq_self, decide_true, beq_self_eq_true, Nat.beq_refl, ble_self, Int.le_refl, Nat.le_refl]
 cases (decide (xi > 0)) with
 | true =>
   cases (decide (xi ≤ lo)) with
   | true =>
     rfl
   | false =>
     cases (decide (IntKind.wrap IntKind.u64 (xi - lo) ≤ 64)) with
     | true =>
       cases (decide (IntKind.wrap IntKind.u64 (IntKind.wrap IntKind.u64 (xi - lo) - 1) < 0)) with
       | true =>
         rfl
       | false =>
         rfl
     | false =>
       rfl
 | false =>
   rfl
noncomputable def s22a00 (a : Int) (b : Int) (wl : Bool) (n : Nat) (f : Nat → Nat → AV) (i : Nat) (π : Plan) : Option (Nat × CS) := stepC (F1) (300) (loopC F1 22 0) (0) (h22) ((.normal, h22) :: x22) π (c22a00 a b wl n f i)
def s22a00_p : Plan := (.fork (.reck 1 (.must true (.fork (.fork .stop .stop) .stop))) .stop)
theorem s22a00_is (a : Int) (b : Int) (wl : Bool) (n : Nat) (f : Nat → Nat → AV) (i : Nat) : s22a00 a b wl n f i s22a00_p = (cond (decide ((↑i : Int) < (↑n : Int)))
 (cond (decide ((↑i : Int) < (↑n : Int))) (cond (Nat.blt (0 + Int.toNat (↑i : Int)) n)
 (cond (qaV a b { cl := AV.toI (f (0 + Int.toNat (↑i : Int)) 0), rq := AV.toI (f (0 + Int.toNat (↑i : Int)) (1)), ix := AV.toI (f (0 + Int.toNat (↑i : Int)) (2)), fr := AV.toI (f (0 + Int.toNat (↑i : Int)) (3)), ct := AV.toI (f (0 + Int.toNat (↑i : Int)) (4)), rd := AV.toI (f (0 + Int.toNat (↑i : Int)) (5)) })
 (some (0, (CS.mk [(AV.func (Fn.func 23) [] [(.ptr 0 0), (.ptr (1) (0))]), (.osl (false) (2) (0) (1) (1) 6 true), (.osl (true) (3) (0) (0) (0) 6 true), (.osl (wl) (4) (0) (n) (n) 6 true), (.int .i64 ((↑n : Int))), (.int .i64 (IntKind.wrap IntKind.i64 ((↑i : Int) + 1)))] [some (.cells [(.int .u64 (a))] false), some (.cells [(.int .u64 (b))] false), some (.tarr shW (1) (rowsOf (6) [(.int .u64 (AV.toI (f (0 + Int.toNat (↑i : Int)) 0))), (.int .u64 (AV.toI (f (0 + Int.toNat (↑i : Int)) (1)))), (.int .u64 (AV.toI (f (0 + Int.toNat (↑i : Int)) (2)))), (.int .u32 (AV.toI (f (0 + Int.toNat (↑i : Int)) (3)))), (.int .u32 (AV.toI (f (0 + Int.toNat (↑i : Int)) (4)))), (.int .u64 (AV.toI (f (0 + Int.toNat (↑i : Int)) (5))))] (1)) true), some (.tarr shW (0) (fun p_ q_ => AV.bad) true), some (.tarr shW (n) f false)])))
 (some (0, (CS.mk [(AV.func (Fn.func 23) [] [(.ptr 0 0), (.ptr (1) (0))]), (.osl (true) (2) (0) (0) (0) 6 true), (.osl (false) (3) (0) (1) (1) 6 true), (.osl (wl) (4) (0) (n) (n) 6 true), (.int .i64 ((↑n : Int))), (.int .i64 (IntKind.wrap IntKind.i64 ((↑i : Int) + 1)))] [some (.cells [(.int .u64 (a))] false), some (.cells [(.int .u64 (b))] false), some (.tarr shW (0) (fun p_ q_ => AV.bad) true), some (.tarr shW (1) (rowsOf (6) [(.int .u64 (AV.toI (f (0 + Int.toNat (↑i : Int)) 0))), (.int .u64 (AV.toI (f (0 + Int.toNat (↑i : Int)) (1)))), (.int .u64 (AV.toI (f (0 + Int.toNat (↑i : Int)) (2)))), (.int .u32 (AV.toI (f (0 + Int.toNat (↑i : Int)) (3)))), (.int .u32 (AV.toI (f (0 + Int.toNat (↑i : Int)) (4)))), (.int .u64 (AV.toI (f (0 + Int.toNat (↑i : Int)) (5))))] (1)) true), some (.tarr shW (n) f false)]))))
 none) none)
 (some (1, (CS.mk [(.osl (true) (0) (0) (0) (0) 6 true), (.osl (true) (1) (0) (0) (0) 6 true)] [some (.tarr shW (0) (fun p_ q_ => AV.bad) true), some (.tarr shW (0) (fun p_ q_ => AV.bad) true)])))) := by kernel_rfl
theorem s22a00_eq (a : Int) (b : Int) (wl : Bool) (n : Nat) (f : Nat → Nat → AV) (i : Nat) : s22a00 a b wl n f i s22a00_p = (cond (decide ((↑i : Int) < (↑n : Int)))
 (cond (Nat.blt (0 + Int.toNat (↑i : Int)) n)
 (cond (qaV a b { cl := AV.toI (f (0 + Int.toNat (↑i : Int)) 0), rq := AV.toI (f (0 + Int.toNat (↑i : Int)) (1)), ix := AV.toI (f (0 + Int.toNat (↑i : Int)) (2)), fr := AV.toI (f (0 + Int.toNat (↑i : Int)) (3)), ct := AV.toI (f (0 + Int.toNat (↑i : Int)) (4)), rd := AV.toI (f (0 + Int.toNat (↑i : Int)) (5)) })
 (some (0, (CS.mk [(AV.func (Fn.func 23) [] [(.ptr 0 0), (.ptr (1) (0))]), (.osl (false) (2) (0) (1) (1) 6 true), (.osl (true) (3) (0) (0) (0) 6 true), (.osl (wl) (4) (0) (n) (n) 6 true), (.int .i64 ((↑n : Int))), (.int .i64 (IntKind.wrap IntKind.i64 ((↑i : Int) + 1)))] [some (.cells [(.int .u64 (a))] false), some (.cells [(.int .u64 (b))] false), some (.tarr shW (1) (rowsOf (6) [(.int .u64 (AV.toI (f (0 + Int.toNat (↑i : Int)) 0))), (.int .u64 (AV.toI (f (0 + Int.toNat (↑i : Int)) (1)))), (.int .u64 (AV.toI (f (0 + Int.toNat (↑i : Int)) (2)))), (.int .u32 (AV.toI (f (0 + Int.toNat (↑i : Int)) (3)))), (.int .u32 (AV.toI (f (0 + Int.toNat (↑i : Int)) (4)))), (.int .u64 (AV.toI (f (0 + Int.toNat (↑i : Int)) (5))))] (1)) true), some (.tarr shW (0) (fun p_ q_ => AV.bad) true), some (.tarr shW (n) f false)])))
 (some (0, (CS.mk [(AV.func (Fn.func 23) [] [(.ptr 0 0), (.ptr (1) (0))]), (.osl (true) (2) (0) (0) (0) 6 true), (.osl (false) (3) (0) (1) (1) 6 true), (.osl (wl) (4) (0) (n) (n) 6 true), (.int .i64 ((↑n : Int))), (.int .i64 (IntKind.wrap IntKind.i64 ((↑i : Int) + 1)))] [some (.cells [(.int .u64 (a))] false), some (.cells [(.int .u64 (b))] false), some (.tarr shW (0) (fun p_ q_ => AV.bad) true), some (.tarr shW (1) (rowsOf (6) [(.int .u64 (AV.toI (f (0 + Int.toNat (↑i : Int)) 0))), (.int .u64 (AV.toI (f (0 + Int.toNat (↑i : Int)) (1)))), (.int .u64 (AV.toI (f (0 + Int.toNat (↑i : Int)) (2)))), (.int .u32 (AV.toI (f (0 + Int.toNat (↑i : Int)) (3)))), (.int .u32 (AV.toI (f (0 + Int.toNat (↑i : Int)) (4)))), (.int .u64 (AV.toI (f (0 + Int.toNat (↑i : Int)) (5))))] (1)) true), some (.tarr shW (n) f false)]))))
 none)
 (some (1, (CS.mk [(.osl (true) (0) (0) (0) (0) 6 true), (.osl (true) (1) (0) (0) (0) 6 true)] [some (.tarr shW (0) (fun p_ q_ => AV.bad) true), some (.tarr shW (0) (fun p_ q_ => AV.bad) true)])))) := by
 rw [s22a00_is]
 try simp only [eq_self, decide_true, beq_self_eq_true, Nat.beq_refl, ble_self, Int.le_refl, Nat.le_refl]
 cases (decide ((↑i : Int) < (↑n : Int))) with
 | true =>
   cases (Nat.blt (0 + Int.toNat (↑i : Int)) n) with
   | true =>
     cases (qaV a b { cl := AV.toI (f (0 + Int.toNat (↑i : Int)) 0), rq := AV.toI (f (0 + Int.toNat (↑i : Int)) (1)), ix := AV.toI (f (0 + Int.toNat (↑i : Int)) (2)), fr := AV.toI (f (0 + Int.toNat (↑i : Int)) (3)), ct := AV.toI (f (0 + Int.toNat (↑i : Int)) (4)), rd := AV.toI (f (0 + Int.toNat (↑i : Int)) (5)) }) with
     | true =>
       rfl
     | false =>
       rfl
   | false =>
     rfl
 | false =>
   rfl
noncomputable def s22a01 (a : Int) (b : Int) (p : Nat) (e : Nat → Nat → AV) (wl : Bool) (n : Nat) (f : Nat → Nat → AV) (i : Nat) (π : Plan) : Option (Nat × CS) := stepC (F1) (300) (loopC F1 22 0) (0) (h22) ((.normal, h22) :: x22) π (c22a01 a b p e wl n f i)
def s22a01_p : Plan := (.fork (.reck 1 (.must true (.fork (.fork .stop (.reck 1 (.must false (.fork (.fork .stop .stop) .stop)))) .stop))) .stop)
theorem s22a01_is (a : Int) (b : Int) (p : Nat) (e : Nat → Nat → AV) (wl : Bool) (n : Nat) (f : Nat → Nat → AV) (i : Nat) : s22a01 a b p e wl n f i s22a01_p = (cond (decide ((↑i : Int) < (↑n : Int)))
 (cond (decide ((↑i : Int) < (↑n : Int))) (cond (Nat.blt (0 + Int.toNat (↑i : Int)) n)
 (cond (qaV a b { cl := AV.toI (f (0 + Int.toNat (↑i : Int)) 0), rq := AV.toI (f (0 + Int.toNat (↑i : Int)) (1)), ix := AV.toI (f (0 + Int.toNat (↑i : Int)) (2)), fr := AV.toI (f (0 + Int.toNat (↑i : Int)) (3)), ct := AV.toI (f (0 + Int.toNat (↑i : Int)) (4)), rd := AV.toI (f (0 + Int.toNat (↑i : Int)) (5)) })
 (some (0, (CS.mk [(AV.func (Fn.func 23) [] [(.ptr 0 0), (.ptr (1) (0))]), (.osl (false) (2) (0) (1) (1) 6 true), (.osl (false) (3) (0) (p) (p) 6 true), (.osl (wl) (4) (0) (n) (n) 6 true), (.int .i64 ((↑n : Int))), (.int .i64 (IntKind.wrap IntKind.i64 ((↑i : Int) + 1)))] [some (.cells [(.int .u64 (a))] false), some (.cells [(.int .u64 (b))] false), some (.tarr shW (1) (rowsOf (6) [(.int .u64 (AV.toI (f (0 + Int.toNat (↑i : Int)) 0))), (.int .u64 (AV.toI (f (0 + Int.toNat (↑i : Int)) (1)))), (.int .u64 (AV.toI (f (0 + Int.toNat (↑i : Int)) (2)))), (.int .u32 (AV.toI (f (0 + Int.toNat (↑i : Int)) (3)))), (.int .u32 (AV.toI (f (0 + Int.toNat (↑i : Int)) (4)))), (.int .u64 (AV.toI (f (0 + Int.toNat (↑i : Int)) (5))))] (1)) true), some (.tarr shW (p) e true), some (.tarr shW (n) f false)])))
 (cond (Nat.ble ((p) + (1)) (p)) none (cond (growB (40) (p + 1))
 (cond (Nat.ble (0 + p) p)
 (some (0, (CS.mk [(AV.func (Fn.func 23) [] [(.ptr 0 0), (.ptr (1) (0))]), (.osl (true) (2) (0) (0) (0) 6 true), (.osl (false) (3) (0) (p + 1) (p + 1) 6 true), (.osl (wl) (4) (0) (n) (n) 6 true), (.int .i64 ((↑n : Int))), (.int .i64 (IntKind.wrap IntKind.i64 ((↑i : Int) + 1)))] [some (.cells [(.int .u64 (a))] false), some (.cells [(.int .u64 (b))] false), some (.tarr shW (0) (fun p_ q_ => AV.bad) true), some (.tarr shW (p + 1) (fjoin (fun p_ q_ => e (0 + p_) q_) (p) (rowsOf (6) [(.int .u64 (AV.toI (f (0 + Int.toNat (↑i : Int)) 0))), (.int .u64 (AV.toI (f (0 + Int.toNat (↑i : Int)) (1)))), (.int .u64 (AV.toI (f (0 + Int.toNat (↑i : Int)) (2)))), (.int .u32 (AV.toI (f (0 + Int.toNat (↑i : Int)) (3)))), (.int .u32 (AV.toI (f (0 + Int.toNat (↑i : Int)) (4)))), (.int .u64 (AV.toI (f (0 + Int.toNat (↑i : Int)) (5))))] (1))) true), some (.tarr shW (n) f false)])))
 none)
 none)))
 none) none)
 (some (1, (CS.mk [(.osl (true) (0) (0) (0) (0) 6 true), (.osl (false) (1) (0) (p) (p) 6 true)] [some (.tarr shW (0) (fun p_ q_ => AV.bad) true), some (.tarr shW (p) e true)])))) := by kernel_rfl
theorem s22a01_eq (a : Int) (b : Int) (p : Nat) (e : Nat → Nat → AV) (wl : Bool) (n : Nat) (f : Nat → Nat → AV) (i : Nat) : s22a01 a b p e wl n f i s22a01_p = (cond (decide ((↑i : Int) < (↑n : Int)))
 (cond (Nat.blt (0 + Int.toNat (↑i : Int)) n)
 (cond (qaV a b { cl := AV.toI (f (0 + Int.toNat (↑i : Int)) 0), rq := AV.toI (f (0 + Int.toNat (↑i : Int)) (1)), ix := AV.toI (f (0 + Int.toNat (↑i : Int)) (2)), fr := AV.toI (f (0 + Int.toNat (↑i : Int)) (3)), ct := AV.toI (f (0 + Int.toNat (↑i : Int)) (4)), rd := AV.toI (f (0 + Int.toNat (↑i : Int)) (5)) })
 (some (0, (CS.mk [(AV.func (Fn.func 23) [] [(.ptr 0 0), (.ptr (1) (0))]), (.osl (false) (2) (0) (1) (1) 6 true), (.osl (false) (3) (0) (p) (p) 6 true), (.osl (wl) (4) (0) (n) (n) 6 true), (.int .i64 ((↑n : Int))), (.int .i64 (IntKind.wrap IntKind.i64 ((↑i : Int) + 1)))] [some (.cells [(.int .u64 (a))] false), some (.cells [(.int .u64 (b))] false), some (.tarr shW (1) (rowsOf (6) [(.int .u64 (AV.toI (f (0 + Int.toNat (↑i : Int)) 0))), (.int .u64 (AV.toI (f (0 + Int.toNat (↑i : Int)) (1)))), (.int .u64 (AV.toI (f (0 + Int.toNat (↑i : Int)) (2)))), (.int .u32 (AV.toI (f (0 + Int.toNat (↑i : Int)) (3)))), (.int .u32 (AV.toI (f (0 + Int.toNat (↑i : Int)) (4)))), (.int .u64 (AV.toI (f (0 + Int.toNat (↑i : Int)) (5))))] (1)) true), some (.tarr shW (p) e true), some (.tarr shW (n) f false)])))
 (cond (Nat.ble ((p) + (1)) (p)) none (cond (growB (40) (p + 1))
 (cond (Nat.ble (0 + p) p)
 (some (0, (CS.mk [(AV.func (Fn.func 23) [] [(.ptr 0 0), (.ptr (1) (0))]), (.osl (true) (2) (0) (0) (0) 6 true), (.osl (false) (3) (0) (p + 1) (p + 1) 6 true), (.osl (wl) (4) (0) (n) (n) 6 true), (.int .i64 ((↑n : Int))), (.int .i64 (IntKind.wrap IntKind.i64 ((↑i : Int) + 1)))] [some (.cells [(.int .u64 (a))] false), some (.cells [(.int .u64 (b))] false), some (.tarr shW (0) (fun p_ q_ => AV.bad) true), some (.tarr shW (p + 1) (fjoin (fun p_ q_ => e (0 + p_) q_) (p) (rowsOf (6) [(.int .u64 (AV.toI (f (0 + Int.toNat (↑i : Int)) 0))), (.int .u64 (AV.toI (f (0 + Int.toNat (↑i : Int)) (1)))), (.int .u64 (AV.toI (f (0 + Int.toNat (↑i : Int)) (2)))), (.int .u32 (AV.toI (f (0 + Int.toNat (↑i : Int)) (3)))), (.int .u32 (AV.toI (f (0 + Int.toNat (↑i : Int)) (4)))), (.int .u64 (AV.toI (f (0 + Int.toNat (↑i : Int)) (5))))] (1))) true), some (.tarr shW (n) f false)])))
 none)
 none)))
 none)
 (some (1, (CS.mk [(.osl (true) (0) (0) (0) (0) 6 true), (.osl (false) (1) (0) (p) (p) 6 true)] [some (.tarr shW (0) (fun p_ q_ => AV.bad) true), some (.tarr shW (p) e true)])))) := by
 rw [s22a01_is]
 try simp only [eq_self, decide_true, beq_self_eq_true, Nat.beq_refl, ble_self, Int.le_refl, Nat.le_refl]
 cases (decide ((↑i : Int) < (↑n : Int))) with
 | true =>
   cases (Nat.blt (0 + Int.toNat (↑i : Int)) n) with
   | true =>
     cases (qaV a b { cl := AV.toI (f (0 + Int.toNat (↑i : Int)) 0), rq := AV.toI (f (0 + Int.toNat (↑i : Int)) (1)), ix := AV.toI (f (0 + Int.toNat (↑i : Int)) (2)), fr := AV.toI (f (0 + Int.toNat (↑i : Int)) (3)), ct := AV.toI (f (0 + Int.toNat (↑i : Int)) (4)), rd := AV.toI (f (0 + Int.toNat (↑i : Int)) (5)) }) with
     | true =>
       rfl
     | false =>
       cases (growB (40) (p + 1)) with
       | true =>
         cases (Nat.ble (0 + p) p) with
         | true =>
           rfl
         | false =>
           rfl
       | false =>
         rfl
   | false =>
     rfl
 | false =>
   rfl
noncomputable def s22a10 (a : Int) (b : Int) (m : Nat) (g : Nat → Nat → AV) (wl : Bool) (n : Nat) (f : Nat → Nat → AV) (i : Nat) (π : Plan) : Option (Nat × CS) := stepC (F1) (300) (loopC F1 22 0) (0) (h22) ((.normal, h22) :: x22) π (c22a10 a b m g wl n f i)
def s22a10_p : Plan := (.fork (.reck 1 (.must true (.fork (.fork (.reck 1 (.must false (.fork (.fork .stop .stop) .stop))) .stop) .stop))) .stop)
theorem s22a10_is (a : Int) (b : Int) (m : Nat) (g : Nat → Nat → AV) (wl : Bool) (n : Nat) (f : Nat → Nat → AV) (i : Nat) : s22a10 a b m g wl n f i s22a10_p = (cond (decide ((↑i : Int) < (↑n : Int)))
 (cond (decide ((↑i : Int) < (↑n : Int))) (cond (Nat.blt (0 + Int.toNat (↑i : Int)) n)
 (cond (qaV a b { cl := AV.toI (f (0 + Int.toNat (↑i : Int)) 0), rq := AV.toI (f (0 + Int.toNat (↑i : Int)) (1)), ix := AV.toI (f (0 + Int.toNat (↑i : Int)) (2)), fr := AV.toI (f (0 + Int.toNat (↑i : Int)) (3)), ct := AV.toI (f (0 + Int.toNat (↑i : Int)) (4)), rd := AV.toI (f (0 + Int.toNat (↑i : Int)) (5)) })
 (cond (Nat.ble ((m) + (1)) (m)) none (cond (growB (40) (m + 1))
 (cond (Nat.ble (0 + m) m)
 (some (0, (CS.mk [(AV.func (Fn.func 23) [] [(.ptr 0 0), (.ptr (1) (0))]), (.osl (false) (2) (0) (m + 1) (m + 1) 6 true), (.osl (true) (3) (0) (0) (0) 6 true), (.osl (wl) (4) (0) (n) (n) 6 true), (.int .i64 ((↑n : Int))), (.int .i64 (IntKind.wrap IntKind.i64 ((↑i : Int) + 1)))] [some (.cells [(.int .u64 (a))] false), some (.cells [(.int .u64 (b))] false), some (.tarr shW (m + 1) (fjoin (fun p_ q_ => g (0 + p_) q_) (m) (rowsOf (6) [(.int .u64 (AV.toI (f (0 + Int.toNat (↑i : Int)) 0))), (.int .u64 (AV.toI (f (0 + Int.toNat (↑i : Int)) (1)))), (.int .u64 (AV.toI (f (0 + Int.toNat (↑i : Int)) (2)))), (.int .u32 (AV.toI (f (0 + Int.toNat (↑i : Int)) (3)))), (.int .u32 (AV.toI (f (0 + Int.toNat (↑i : Int)) (4)))), (.int .u64 (AV.toI (f (0 + Int.toNat (↑i : Int)) (5))))] (1))) true), some (.tarr shW (0) (fun p_ q_ => AV.bad) true), some (.tarr shW (n) f false)])))
 none)
 none))
 (some (0, (CS.mk [(AV.func (Fn.func 23) [] [(.ptr 0 0), (.ptr (1) (0))]), (.osl (false) (2) (0) (m) (m) 6 true), (.osl (false) (3) (0) (1) (1) 6 true), (.osl (wl) (4) (0) (n) (n) 6 true), (.int .i64 ((↑n : Int))), (.int .i64 (IntKind.wrap IntKind.i64 ((↑i : Int) + 1)))] [some (.cells [(.int .u64 (a))] false), some (.cells [(.int .u64 (b))] false), some (.tarr shW (m) g true), some (.tarr shW (1) (rowsOf (6) [(.int .u64 (AV.toI (f (0 + Int.toNat (↑i : Int)) 0))), (.int .u64 (AV.toI (f (0 + Int.toNat (↑i : Int)) (1)))), (.int .u64 (AV.toI (f (0 + Int.toNat (↑i : Int)) (2)))), (.int .u32 (AV.toI (f (0 + Int.toNat (↑i : Int)) (3)))), (.int .u32 (AV.toI (f (0 + Int.toNat (↑i : Int)) (4)))), (.int .u64 (AV.toI (f (0 + Int.toNat (↑i : Int)) (5))))] (1)) true), some (.tarr shW (n) f false)]))))
 none) none)
 (some (1, (CS.mk [(.osl (false) (0) (0) (m) (m) 6 true), (.osl (true) (1) (0) (0) (0) 6 true)] [some (.tarr shW (m) g true), some (.tarr shW (0) (fun p_ q_ => AV.bad) true)])))) := by kernel_rfl
theorem s22a10_eq (a : Int) (b : Int) (m : Nat) (g : Nat → Nat → AV) (wl : Bool) (n : Nat) (f : Nat → Nat → AV) (i : Nat) : s22a10 a b m g wl n f i s22a10_p = (cond (decide ((↑i : Int) < (↑n : Int)))
 (cond (Nat.blt (0 + Int.toNat (↑i : Int)) n)
 (cond (qaV a b { cl := AV.toI (f (0 + Int.toNat (↑i : Int)) 0), rq := AV.toI (f (0 + Int.toNat (↑i : Int)) (1)), ix := AV.toI (f (0 + Int.toNat (↑i : Int)) (2)), fr := AV.toI (f (0 + Int.toNat (↑i : Int)) (3)), ct := AV.toI (f (0 + Int.toNat (↑i : Int)) (4)), rd := AV.toI (f (0 + Int.toNat (↑i : Int)) (5)) })
 (cond (Nat.ble ((m) + (1)) (m)) none (cond (growB (40) (m + 1))
 (cond (Nat.ble (0 + m) m)
 (some (0, (CS.mk [(AV.func (Fn.func 23) [] [(.ptr 0 0), (.ptr (1) (0))]), (.osl (false) (2) (0) (m + 1) (m + 1) 6 true), (.osl (true) (3) (0) (0) (0) 6 true), (.osl (wl) (4) (0) (n) (n) 6 true), (.int .i64 ((↑n : Int))), (.int .i64 (IntKind.wrap IntKind.i64 ((↑i : Int) + 1)))] [some (.cells [(.int .u64 (a))] false), some (.cells [(.int .u64 (b))] false), some (.tarr shW (m + 1) (fjoin (fun p_ q_ => g (0 + p_) q_) (m) (rowsOf (6) [(.int .u64 (AV.toI (f (0 + Int.toNat (↑i : Int)) 0))), (.int .u64 (AV.toI (f (0 + Int.toNat (↑i : Int)) (1)))), (.int .u64 (AV.toI (f (0 + Int.toNat (↑i : Int)) (2)))), (.int .u32 (AV.toI (f (0 + Int.toNat (↑i : Int)) (3)))), (.int .u32 (AV.toI (f (0 + Int.toNat (↑i : Int)) (4)))), (.int .u64 (AV.toI (f (0 + Int.toNat (↑i : Int)) (5))))] (1))) true), some (.tarr shW (0) (fun p_ q_ => AV.bad) true), some (.tarr shW (n) f false)])))
 none)
 none))
 (some (0, (CS.mk [(AV.func (Fn.func 23) [] [(.ptr 0 0), (.ptr (1) (0))]), (.osl (false) (2) (0) (m) (m) 6 true), (.osl (false) (3) (0) (1) (1) 6 true), (.osl (wl) (4) (0) (n) (n) 6 true), (.int .i64 ((↑n : Int))), (.int .i64 (IntKind.wrap IntKind.i64 ((↑i : Int) + 1)))] [some (.cells [(.int .u64 (a))] false), some (.cells [(.int .u64 (b))] false), some (.tarr shW (m) g true), some (.tarr shW (1) (rowsOf (6) [(.int .u64 (AV.toI (f (0 + Int.toNat (↑i : Int)) 0))), (.int .u64 (AV.toI (f (0 + Int.toNat (↑i : Int)) (1)))), (.int .u64 (AV.toI (f (0 + Int.toNat (↑i : Int)) (2)))), (.int .u32 (AV.toI (f (0 + Int.toNat (↑i : Int)) (3)))), (.int .u32 (AV.toI (f (0 + Int.toNat (↑i : Int)) (4)))), (.int .u64 (AV.toI (f (0 + Int.toNat (↑i : Int)) (5))))] (1)) true), some (.tarr shW (n) f false)]))))
 none)
 (some (1, (CS.mk [(.osl (false) (0) (0) (m) (m) 6 true), (.osl (true) (1) (0) (0) (0) 6 true)] [some (.tarr shW (m) g true), some (.tarr shW (0) (fun p_ q_ => AV.bad) true)])))) := by
 rw [s22a10_is]
 try simp only [eq_self, decide_true, beq_self_eq_true, Nat.beq_refl, ble_self, Int.le_refl, Nat.le_refl]
 cases (decide ((↑i : Int) < (↑n : Int))) with
 | true =>
   cases (Nat.blt (0 + Int.toNat (↑i : Int)) n) with
   | true =>
     cases (qaV a b { cl := AV.toI (f (0 + Int.toNat (↑i : Int)) 0), rq := AV.toI (f (0 + Int.toNat (↑i : Int)) (1)), ix := AV.toI (f (0 + Int.toNat (↑i : Int)) (2)), fr := AV.toI (f (0 + Int.toNat (↑i : Int)) (3)), ct := AV.toI (f (0 + Int.toNat (↑i : Int)) (4)), rd := AV.toI (f (0 + Int.toNat (↑i : Int)) (5)) }) with
     | true =>
       cases (growB (40) (m + 1)) with
       | true =>
         cases (Nat.ble (0 + m) m) with
         | true =>
           rfl
         | false =>
           rfl
       | false =>
         rfl
     | false =>
       rfl
   | false =>
     rfl
 | false =>
   rfl
noncomputable def s22a11 (a : Int) (b : Int) (m : Nat) (g : Nat → Nat → AV) (p : Nat) (e : Nat → Nat → AV) (wl : Bool) (n : Nat) (f : Nat → Nat → AV) (i : Nat) (π : Plan) : Option (Nat × CS) := stepC (F1) (300) (loopC F1 22 0) (0) (h22) ((.normal, h22) :: x22) π (c22a11 a b m g p e wl n f i)
def s22a11_p : Plan := (.fork (.reck 1 (.must true (.fork (.fork (.reck 1 (.must false (.fork (.fork .stop .stop) .stop))) (.reck 1 (.must false (.fork (.fork .stop .stop) .stop)))) .stop))) .stop)
theorem s22a11_is (a : Int) (b : Int) (m : Nat) (g : Nat → Nat → AV) (p : Nat) (e : Nat → Nat → AV) (wl : Bool) (n : Nat) (f : Nat → Nat → AV) (i : Nat) : s22a11 a b m g p e wl n f i s22a11_p = (cond (decide ((↑i : Int) < (↑n : Int)))
 (cond (decide ((↑i : Int) < (↑n : Int))) (cond (Nat.blt (0 + Int.toNat (↑i : Int)) n)
 (cond (qaV a b { cl := AV.toI (f (0 + Int.toNat (↑i : Int)) 0), rq := AV.toI (f (0 + Int.toNat (↑i : Int)) (1)), ix := AV.toI (f (0 + Int.toNat (↑i : Int)) (2)), fr := AV.toI (f (0 + Int.toNat (↑i : Int)) (3)), ct := AV.toI (f (0 + Int.toNat (↑i : Int)) (4)), rd := AV.toI (f (0 + Int.toNat (↑i : Int)) (5)) })
 (cond (Nat.ble ((m) + (1)) (m)) none (cond (growB (40) (m + 1))
 (cond (Nat.ble (0 + m) m)
 (some (0, (CS.mk [(AV.func (Fn.func 23) [] [(.ptr 0 0), (.ptr (1) (0))]), (.osl (false) (2) (0) (m + 1) (m + 1) 6 true), (.osl (false) (3) (0) (p) (p) 6 true), (.osl (wl) (4) (0) (n) (n) 6 true), (.int .i64 ((↑n : Int))), (.int .i64 (IntKind.wrap IntKind.i64 ((↑i : Int) + 1)))] [some (.cells [(.int .u64 (a))] false), some (.cells [(.int .u64 (b))] false), some (.tarr shW (m + 1) (fjoin (fun p_ q_ => g (0 + p_) q_) (m) (rowsOf (6) [(.int .u64 (AV.toI (f (0 + Int.toNat (↑i : Int)) 0))), (.int .u64 (AV.toI (f (0 + Int.toNat (↑i : Int)) (1)))), (.int .u64 (AV.toI (f (0 + Int.toNat (↑i : Int)) (2)))), (.int .u32 (AV.toI (f (0 + Int.toNat (↑i : Int)) (3)))), (.int .u32 (AV.toI (f (0 + Int.toNat (↑i : Int)) (4)))), (.int .u64 (AV.toI (f (0 + Int.toNat (↑i : Int)) (5))))] (1))) true), some (.tarr shW (p) e true), some (.tarr shW (n) f false)])))
 none)
 none))
 (cond (Nat.ble ((p) + (1)) (p)) none (cond (growB (40) (p + 1))
 (cond (Nat.ble (0 + p) p)
 (some (0, (CS.mk [(AV.func (Fn.func 23) [] [(.ptr 0 0), (.ptr (1) (0))]), (.osl (false) (2) (0) (m) (m) 6 true), (.osl (false) (3) (0) (p + 1) (p + 1) 6 true), (.osl (wl) (4) (0) (n) (n) 6 true), (.int .i64 ((↑n : Int))), (.int .i64 (IntKind.wrap IntKind.i64 ((↑i : Int) + 1)))] [some (.cells [(.int .u64 (a))] false), some (.cells [(.int .u64 (b))] false), some (.tarr shW (m) g true), some (.tarr shW (p + 1) (fjoin (fun p_ q_ => e (0 + p_) q_) (p) (rowsOf (6) [(.int .u64 (AV.toI (f (0 + Int.toNat (↑i : Int)) 0))), (.int .u64 (AV.toI (f (0 + Int.toNat (↑i : Int)) (1)))), (.int .u64 (AV.toI (f (0 + Int.toNat (↑i : Int)) (2)))), (.int .u32 (AV.toI (f (0 + Int.toNat (↑i : Int)) (3)))), (.int .u32 (AV.toI (f (0 + Int.toNat (↑i : Int)) (4)))), (.int .u64 (AV.toI (f (0 + Int.toNat (↑i : Int)) (5))))] (1))) true), some (.tarr shW (n) f false)])))
 none)
 none)))
 none) none)
 (some (1, (CS.mk [(.osl (false) (0) (0) (m) (m) 6 true), (.osl (false) (1) (0) (p) (p) 6 true)] [some (.tarr shW (m) g true), some (.tarr shW (p) e true)])))) := by kernel_rfl
theorem s22a11_eq (a : Int) (b : Int) (m : Nat) (g : Nat → Nat → AV) (p : Nat) (e : Nat → Nat → AV) (wl : Bool) (n : Nat) (f : Nat → Nat → AV) (i : Nat) : s22a11 a b m g p e wl n f i s22a11_p = (cond (decide ((↑i : Int) < (↑n : Int)))
 (cond (Nat.blt (0 + Int.toNat (↑i : Int)) n)
 (cond (qaV a b { cl := AV.toI (f (0 + Int.toNat (↑i : Int)) 0), rq := AV.toI (f (0 + Int.toNat (↑i : Int)) (1)), ix := AV.toI (f (0 + Int.toNat (↑i : Int)) (2)), fr := AV.toI (f (0 + Int.toNat (↑i : Int)) (3)), ct := AV.toI (f (0 + Int.toNat (↑i : Int)) (4)), rd := AV.toI (f (0 + Int.toNat (↑i : Int)) (5)) })
 (cond (Nat.ble ((m) + (1)) (m)) none (cond (growB (40) (m + 1))
 (cond (Nat.ble (0 + m) m)
 (some (0, (CS.mk [(AV.func (Fn.func 23) [] [(.ptr 0 0), (.ptr (1) (0))]), (.osl (false) (2) (0) (m + 1) (m + 1) 6 true), (.osl (false) (3) (0) (p) (p) 6 true), (.osl (wl) (4) (0) (n) (n) 6 true), (.int .i64 ((↑n : Int))), (.int .i64 (IntKind.wrap IntKind.i64 ((↑i : Int) + 1)))] [some (.cells [(.int .u64 (a))] false), some (.cells [(.int .u64 (b))] false), some (.tarr shW (m + 1) (fjoin (fun p_ q_ => g (0 + p_) q_) (m) (rowsOf (6) [(.int .u64 (AV.toI (f (0 + Int.toNat (↑i : Int)) 0))), (.int .u64 (AV.toI (f (0 + Int.toNat (↑i : Int)) (1)))), (.int .u64 (AV.toI (f (0 + Int.toNat (↑i : Int)) (2)))), (.int .u32 (AV.toI (f (0 + Int.toNat (↑i : Int)) (3)))), (.int .u32 (AV.toI (f (0 + Int.toNat (↑i : Int)) (4)))), (.int .u64 (AV.toI (f (0 + Int.toNat (↑i : Int)) (5))))] (1))) true), some (.tarr shW (p) e true), some (.tarr shW (n) f false)])))
 none)
 none))
 (cond (Nat.ble ((p) + (1)) (p)) none (cond (growB (40) (p + 1))
 (cond (Nat.ble (0 + p) p)
 (some (0, (CS.mk [(AV.func (Fn.func 23) [] [(.ptr 0 0), (.ptr (1) (0))]), (.osl (false) (2) (0) (m) (m) 6 true), (.osl (false) (3) (0) (p + 1) (p + 1) 6 true), (.osl (wl) (4) (0) (n) (n) 6 true), (.int .i64 ((↑n : Int))), (.int .i64 (IntKind.wrap IntKind.i64 ((↑i : Int) + 1)))] [some (.cells [(.int .u64 (a))] false), some (.cells [(.int .u64 (b))] false), some (.tarr shW (m) g true), some (.tarr shW (p + 1) (fjoin (fun p_ q_ => e (0 + p_) q_) (p) (rowsOf (6) [(.int .u64 (AV.toI (f (0 + Int.toNat (↑i : Int)) 0))), (.int .u64 (AV.toI (f (0 + Int.toNat (↑i : Int)) (1)))), (.int .u64 (AV.toI (f (0 + Int.toNat (↑i : Int)) (2)))), (.int .u32 (AV.toI (f (0 + Int.toNat (↑i : Int)) (3)))), (.int .u32 (AV.toI (f (0 + Int.toNat (↑i : Int)) (4)))), (.int .u64 (AV.toI (f (0 + Int.toNat (↑i : Int)) (5))))] (1))) true), some (.tarr shW (n) f false)])))
 none)
 none)))
 none)
 (some (1, (CS.mk [(.osl (false) (0) (0) (m) (m) 6 true), (.osl (false) (1) (0) (p) (p) 6 true)] [some (.tarr shW (m) g true), some (.tarr shW (p) e true)])))) := by
 rw [s22a11_is]
 try simp only [eq_self, decide_true, beq_self_eq_true, Nat.beq_refl, ble_self, Int.le_refl, Nat.le_refl]
 cases (decide ((↑i : Int) < (↑n : Int))) with
 | true =>
   cases (Nat.blt (0 + Int.toNat (↑i : Int)) n) with
   | true =>
     cases (qaV a b { cl := AV.toI (f (0 + Int.toNat (↑i : Int)) 0), rq := AV.toI (f (0 + Int.toNat (↑i : Int)) (1)), ix := AV.toI (f (0 + Int.toNat (↑i : Int)) (2)), fr := AV.toI (f (0 + Int.toNat (↑i : Int)) (3)), ct := AV.toI (f (0 + Int.toNat (↑i : Int)) (4)), rd := AV.toI (f (0 + Int.toNat (↑i : Int)) (5)) }) with
     | true =>
       cases (growB (40) (m + 1)) with
       | true =>
         cases (Nat.ble (0 + m) m) with
         | true =>
           rfl
         | false =>
           rfl
       | false =>
         rfl
     | false =>
       cases (growB (40) (p + 1)) with
       | true =>
         cases (Nat.ble (0 + p) p) with
         | true =>
           rfl
         | false =>
           rfl
       | false =>
         rfl
   | false =>
     rfl
 | false =>
   rfl
noncomputable def s22b00 (s : Int) (wl : Bool) (n : Nat) (f : Nat → Nat → AV) (i : Nat) (π : Plan) : Option (Nat × CS) := stepC (F1) (300) (loopC F1 22 0) (0) (h22) ((.normal, h22) :: x22) π (c22b00 s wl n f i)
def s22b00_p : Plan := (.fork (.reck 1 (.must true (.fork (.fork .stop .stop) .stop))) .stop)
theorem s22b00_is (s : Int) (wl : Bool) (n : Nat) (f : Nat → Nat → AV) (i : Nat) : s22b00 s wl n f i s22b00_p = (cond (decide ((↑i : Int) < (↑n : Int)))
 (cond (decide ((↑i : Int) < (↑n : Int))) (cond (Nat.blt (0 + Int.toNat (↑i : Int)) n)
 (cond (qbV s { cl := AV.toI (f (0 + Int.toNat (↑i : Int)) 0), rq := AV.toI (f (0 + Int.toNat (↑i : Int)) (1)), ix := AV.toI (f (0 + Int.toNat (↑i : Int)) (2)), fr := AV.toI (f (0 + Int.toNat (↑i : Int)) (3)), ct := AV.toI (f (0 + Int.toNat (↑i : Int)) (4)), rd := AV.toI (f (0 + Int.toNat (↑i : Int)) (5)) })
 (some (0, (CS.mk [(AV.func (Fn.func 25) [] [(.ptr 0 0)]), (.osl (false) (1) (0) (1) (1) 6 true), (.osl (true) (2) (0) (0) (0) 6 true), (.osl (wl) (3) (0) (n) (n) 6 true), (.int .i64 ((↑n : Int))), (.int .i64 (IntKind.wrap IntKind.i64 ((↑i : Int) + 1)))] [some (.cells [(.int .u64 (s))] false), some (.tarr shW (1) (rowsOf (6) [(.int .u64 (AV.toI (f (0 + Int.toNat (↑i : Int)) 0))), (.int .u64 (AV.toI (f (0 + Int.toNat (↑i : Int)) (1)))), (.int .u64 (AV.toI (f (0 + Int.toNat (↑i : Int)) (2)))), (.int .u32 (AV.toI (f (0 + Int.toNat (↑i : Int)) (3)))), (.int .u32 (AV.toI (f (0 + Int.toNat (↑i : Int)) (4)))), (.int .u64 (AV.toI (f (0 + Int.toNat (↑i : Int)) (5))))] (1)) true), some (.tarr shW (0) (fun p_ q_ => AV.bad) true), some (.tarr shW (n) f false)])))
 (some (0, (CS.mk [(AV.func (Fn.func 25) [] [(.ptr 0 0)]), (.osl (true) (1) (0) (0) (0) 6 true), (.osl (false) (2) (0) (1) (1) 6 true), (.osl (wl) (3) (0) (n) (n) 6 true), (.int .i64 ((↑n : Int))), (.int .i64 (IntKind.wrap IntKind.i64 ((↑i : Int) + 1)))] [some (.cells [(.int .u64 (s))] false), some (.tarr shW (0) (fun p_ q_ => AV.bad) true), some (.tarr shW (1) (rowsOf (6) [(.int .u64 (AV.toI (f (0 + Int.toNat (↑i : Int)) 0))), (.int .u64 (AV.toI (f (0 + Int.toNat (↑i : Int)) (1)))), (.int .u64 (AV.toI (f (0 + Int.toNat (↑i : Int)) (2)))), (.int .u32 (AV.toI (f (0 + Int.toNat (↑i : Int)) (3)))), (.int .u32 (AV.toI (f (0 + Int.toNat (↑i : Int)) (4)))), (.int .u64 (AV.toI (f (0 + Int.toNat (↑i : Int)) (5))))] (1)) true), some (.tarr shW (n) f false)]))))
 none) none)
 (some (1, (CS.mk [(.osl (true) (0) (0) (0) (0) 6 true), (.osl (true) (1) (0) (0) (0) 6 true)] [some (.tarr shW (0) (fun p_ q_ => AV.bad) true), some (.tarr shW (0) (fun p_ q_ => AV.bad) true)])))) := by kernel_rfl
theorem s22b00_eq (s : Int) (wl : Bool) (n : Nat) (f : Nat → Nat → AV) (i : Nat) : s22b00 s wl n f i s22b00_p = (cond (decide ((↑i : Int) < (↑n : Int)))
 (cond (Nat.blt (0 + Int.toNat (↑i : Int)) n)
 (cond (qbV s { cl := AV.toI (f (0 + Int.toNat (↑i : Int)) 0), rq := AV.toI (f (0 + Int.toNat (↑i : Int)) (1)), ix := AV.toI (f (0 + Int.toNat (↑i : Int)) (2)), fr := AV.toI (f (0 + Int.toNat (↑i : Int)) (3)), ct := AV.toI (f (0 + Int.toNat (↑i : Int)) (4)), rd := AV.toI (f (0 + Int.toNat (↑i : Int)) (5)) })
 (some (0, (CS.mk [(AV.func (Fn.func 25) [] [(.ptr 0 0)]), (.osl (false) (1) (0) (1) (1) 6 true), (.osl (true) (2) (0) (0) (0) 6 true), (.osl (wl) (3) (0) (n) (n) 6 true), (.int .i64 ((↑n : Int))), (.int .i64 (IntKind.wrap IntKind.i64 ((↑i : Int) + 1)))] [some (.cells [(.int .u64 (s))] false), some (.tarr shW (1) (rowsOf (6) [(.int .u64 (AV.toI (f (0 + Int.toNat (↑i : Int)) 0))), (.int .u64 (AV.toI (f (0 + Int.toNat (↑i : Int)) (1)))), (.int .u64 (AV.toI (f (0 + Int.toNat (↑i : Int)) (2)))), (.int .u32 (AV.toI (f (0 + Int.toNat (↑i : Int)) (3)))), (.int .u32 (AV.toI (f (0 + Int.toNat (↑i : Int)) (4)))), (.int .u64 (AV.toI (f (0 + Int.toNat (↑i : Int)) (5))))] (1)) true), some (.tarr shW (0) (fun p_ q_ => AV.bad) true), some (.tarr shW (n) f false)])))
 (some (0, (CS.mk [(AV.func (Fn.func 25) [] [(.ptr 0 0)]), (.osl (true) (1) (0) (0) (0) 6 true), (.osl (false) (2) (0) (1) (1) 6 true), (.osl (wl) (3) (0) (n) (n) 6 true), (.int .i64 ((↑n : Int))), (.int .i64 (IntKind.wrap IntKind.i64 ((↑i : Int) + 1)))] [some (.cells [(.int .u64 (s))] false), some (.tarr shW (0) (fun p_ q_ => AV.bad) true), some (.tarr shW (1) (rowsOf (6) [(.int .u64 (AV.toI (f (0 + Int.toNat (↑i : Int)) 0))), (.int .u64 (AV.toI (f (0 + Int.toNat (↑i : Int)) (1)))), (.int .u64 (AV.toI (f (0 + Int.toNat (↑i : Int)) (2)))), (.int .u32 (AV.toI (f (0 + Int.toNat (↑i : Int)) (3)))), (.int .u32 (AV.toI (f (0 + Int.toNat (↑i : Int)) (4)))), (.int .u64 (AV.toI (f (0 + Int.toNat (↑i : Int)) (5))))] (1)) true), some (.tarr shW (n) f false)]))))
 none)
 (some (1, (CS.mk [(.osl (true) (0) (0) (0) (0) 6 true), (.osl (true) (1) (0) (0) (0) 6 true)] [some (.tarr shW (0) (fun p_ q_ => AV.bad) true), some (.tarr shW (0) (fun p_ q_ => AV.bad) true)])))) := by
 rw [s22b00_is]
 try simp only [eq_self, decide_true, beq_self_eq_true, Nat.beq_refl, ble_self, Int.le_refl, Nat.le_refl]
 cases (decide ((↑i : Int) < (↑n : Int))) with
 | true =>
   cases (Nat.blt (0 + Int.toNat (↑i : Int)) n) with
   | true =>
     cases (qbV s { cl := AV.toI (f (0 + Int.toNat (↑i : Int)) 0), rq := AV.toI (f (0 + Int.toNat (↑i : Int)) (1)), ix := AV.toI (f (0 + Int.toNat (↑i : Int)) (2)), fr := AV.toI (f (0 + Int.toNat (↑i : Int)) (3)), ct := AV.toI (f (0 + Int.toNat (↑i : Int)) (4)), rd := AV.toI (f (0 + Int.toNat (↑i : Int)) (5)) }) with
     | true =>
       rfl
     | false =>
       rfl
   | false =>
     rfl
 | false =>
   rfl
noncomputable def s22b01 (s : Int) (p : Nat) (e : Nat → Nat → AV) (wl : Bool) (n : Nat) (f : Nat → Nat → AV) (i : Nat) (π : Plan) : Option (Nat × CS) := stepC (F1) (300) (loopC F1 22 0) (0) (h22) ((.normal, h22) :: x22) π (c22b01 s p e wl n f i)
def s22b01_p : Plan := (.fork (.reck 1 (.must true (.fork (.fork .stop (.reck 1 (.must false (.fork (.fork .stop .stop) .stop)))) .stop))) .stop)
theorem s22b01_is (s : Int) (p : Nat) (e : Nat → Nat → AV) (wl : Bool) (n : Nat) (f : Nat → Nat → AV) (i : Nat) : s22b01 s p e wl n f i s22b01_p = (cond (decide ((↑i : Int) < (↑n : Int)))
 (cond (decide ((↑i : Int) < (↑n : Int))) (cond (Nat.blt (0 + Int.toNat (↑i : Int)) n)
 (cond (qbV s { cl := AV.toI (f (0 + Int.toNat (↑i : Int)) 0), rq := AV.toI (f (0 + Int.toNat (↑i : Int)) (1)), ix := AV.toI (f (0 + Int.toNat (↑i : Int)) (2)), fr := AV.toI (f (0 + Int.toNat (↑i : Int)) (3)), ct := AV.toI (f (0 + Int.toNat (↑i : Int)) (4)), rd := AV.toI (f (0 + Int.toNat (↑i : Int)) (5)) })
 (some (0, (CS.mk [(AV.func (Fn.func 25) [] [(.ptr 0 0)]), (.osl (false) (1) (0) (1) (1) 6 true), (.osl (false) (2) (0) (p) (p) 6 true), (.osl (wl) (3) (0) (n) (n) 6 true), (.int .i64 ((↑n : Int))), (.int .i64 (IntKind.wrap IntKind.i64 ((↑i : Int) + 1)))] [some (.cells [(.int .u64 (s))] false), some (.tarr shW (1) (rowsOf (6) [(.int .u64 (AV.toI (f (0 + Int.toNat (↑i : Int)) 0))), (.int .u64 (AV.toI (f (0 + Int.toNat (↑i : Int)) (1)))), (.int .u64 (AV.toI (f (0 + Int.toNat (↑i : Int)) (2)))), (.int .u32 (AV.toI (f (0 + Int.toNat (↑i : Int)) (3)))), (.int .u32 (AV.toI (f (0 + Int.toNat (↑i : Int)) (4)))), (.int .u64 (AV.toI (f (0 + Int.toNat (↑i : Int)) (5))))] (1)) true), some (.tarr shW (p) e true), some (.tarr shW (n) f false)])))
 (cond (Nat.ble ((p) + (1)) (p)) none (cond (growB (40) (p + 1))
 (cond (Nat.ble (0 + p) p)
 (some (0, (CS.mk [(AV.func (Fn.func 25) [] [(.ptr 0 0)]), (.osl (true) (1) (0) (0) (0) 6 true), (.osl (false) (2) (0) (p + 1) (p + 1) 6 true), (.osl (wl) (3) (0) (n) (n) 6 true), (.int .i64 ((↑n : Int))), (.int .i64 (IntKind.wrap IntKind.i64 ((↑i : Int) + 1)))] [some (.cells [(.int .u64 (s))] false), some (.tarr shW (0) (fun p_ q_ => AV.bad) true), some (.tarr shW (p + 1) (fjoin (fun p_ q_ => e (0 + p_) q_) (p) (rowsOf (6) [(.int .u64 (AV.toI (f (0 + Int.toNat (↑i : Int)) 0))), (.int .u64 (AV.toI (f (0 + Int.toNat (↑i : Int)) (1)))), (.int .u64 (AV.toI (f (0 + Int.toNat (↑i : Int)) (2)))), (.int .u32 (AV.toI (f (0 + Int.toNat (↑i : Int)) (3)))), (.int .u32 (AV.toI (f (0 + Int.toNat (↑i : Int)) (4)))), (.int .u64 (AV.toI (f (0 + Int.toNat (↑i : Int)) (5))))] (1))) true), some (.tarr shW (n) f false)])))
 none)
 none)))
 none) none)
 (some (1, (CS.mk [(.osl (true) (0) (0) (0) (0) 6 true), (.osl (false) (1) (0) (p) (p) 6 true)] [some (.tarr shW (0) (fun p_ q_ => AV.bad) true), some (.tarr shW (p) e true)])))) := by kernel_rfl
theorem s22b01_eq (s : Int) (p : Nat) (e : Nat → Nat → AV) (wl : Bool) (n : Nat) (f : Nat → Nat → AV) (i : Nat) : s22b01 s p e wl n f i s22b01_p = (cond (decide ((↑i : Int) < (↑n : Int)))
 (cond (Nat.blt (0 + Int.toNat (↑i : Int)) n)
 (cond (qbV s { cl := AV.toI (f (0 + Int.toNat (↑i : Int)) 0), rq := AV.toI (f (0 + Int.toNat (↑i : Int)) (1)), ix := AV.toI (f (0 + Int.toNat (↑i : Int)) (2)), fr := AV.toI (f (0 + Int.toNat (↑i : Int)) (3)), ct := AV.toI (f (0 + Int.toNat (↑i : Int)) (4)), rd := AV.toI (f (0 + Int.toNat (↑i : Int)) (5)) })
 (some (0, (CS.mk [(AV.func (Fn.func 25) [] [(.ptr 0 0)]), (.osl (false) (1) (0) (1) (1) 6 true), (.osl (false) (2) (0) (p) (p) 6 true), (.osl (wl) (3) (0) (n) (n) 6 true), (.int .i64 ((↑n : Int))), (.int .i64 (IntKind.wrap IntKind.i64 ((↑i : Int) + 1)))] [some (.cells [(.int .u64 (s))] false), some (.tarr shW (1) (rowsOf (6) [(.int .u64 (AV.toI (f (0 + Int.toNat (↑i : Int)) 0))), (.int .u64 (AV.toI (f (0 + Int.toNat (↑i : Int)) (1)))), (.int .u64 (AV.toI (f (0 + Int.toNat (↑i : Int)) (2)))), (.int .u32 (AV.toI (f (0 + Int.toNat (↑i : Int)) (3)))), (.int .u32 (AV.toI (f (0 + Int.toNat (↑i : Int)) (4)))), (.int .u64 (AV.toI (f (0 + Int.toNat (↑i : Int)) (5))))] (1)) true), some (.tarr shW (p) e true), some (.tarr shW (n) f false)])))
 (cond (Nat.ble ((p) + (1)) (p)) none (cond (growB (40) (p + 1))
 (cond (Nat.ble (0 + p) p)
 (some (0, (CS.mk [(AV.func (Fn.func 25) [] [(.ptr 0 0)]), (.osl (true) (1) (0) (0) (0) 6 true), (.osl (false) (2) (0) (p + 1) (p + 1) 6 true), (.osl (wl) (3) (0) (n) (n) 6 true), (.int .i64 ((↑n : Int))), (.int .i64 (IntKind.wrap IntKind.i64 ((↑i : Int) + 1)))] [some (.cells [(.int .u64 (s))] false), some (.tarr shW (0) (fun p_ q_ => AV.bad) true), some (.tarr shW (p + 1) (fjoin (fun p_ q_ => e (0 + p_) q_) (p) (rowsOf (6) [(.int .u64 (AV.toI (f (0 + Int.toNat (↑i : Int)) 0))), (.int .u64 (AV.toI (f (0 + Int.toNat (↑i : Int)) (1)))), (.int .u64 (AV.toI (f (0 + Int.toNat (↑i : Int)) (2)))), (.int .u32 (AV.toI (f (0 + Int.toNat (↑i : Int)) (3)))), (.int .u32 (AV.toI (f (0 + Int.toNat (↑i : Int)) (4)))), (.int .u64 (AV.toI (f (0 + Int.toNat (↑i : Int)) (5))))] (1))) true), some (.tarr shW (n) f false)])))
 none)
 none)))
 none)
 (some (1, (CS.mk [(.osl (true) (0) (0) (0) (0) 6 true), (.osl (false) (1) (0) (p) (p) 6 true)] [some (.tarr shW (0) (fun p_ q_ => AV.bad) true), some (.tarr shW (p) e true)])))) := by
 rw [s22b01_is]
 try simp only [eq_self, decide_true, beq_self_eq_true, Nat.beq_refl, ble_self, Int.le_refl, Nat.le_refl]
 cases (decide ((↑i : Int) < (↑n : Int))) with
 | true =>
   cases (Nat.blt (0 + Int.toNat (↑i : Int)) n) with
   | true =>
     cases (qbV s { cl := AV.toI (f (0 + Int.toNat (↑i : Int)) 0), rq := AV.toI (f (0 + Int.toNat (↑i : Int)) (1)), ix := AV.toI (f (0 + Int.toNat (↑i : Int)) (2)), fr := AV.toI (f (0 + Int.toNat (↑i : Int)) (3)), ct := AV.toI (f (0 + Int.toNat (↑i : Int)) (4)), rd := AV.toI (f (0 + Int.toNat (↑i : Int)) (5)) }) with
     | true =>
       rfl
     | false =>
       cases (growB (40) (p + 1)) with
       | true =>
         cases (Nat.ble (0 + p) p) with
         | true =>
           rfl
         | false =>
           rfl
       | false =>
         rfl
   | false =>
     rfl
 | false =>
   rfl
noncomputable def s22b10 (s : Int) (m : Nat) (g : Nat → Nat → AV) (wl : Bool) (n : Nat) (f : Nat → Nat → AV) (i : Nat) (π : Plan) : Option (Nat × CS) := stepC (F1) (300) (loopC F1 22 0) (0) (h22) ((.normal, h22) :: x22) π (c22b10 s m g wl n f i)
def s22b10_p : Plan := (.fork (.reck 1 (.must true (.fork (.fork (.reck 1 (.must false (.fork (.fork .stop .stop) .stop))) .stop) .stop))) .stop)
theorem s22b10_is (s : Int) (m : Nat) (g : Nat → Nat → AV) (wl : Bool) (n : Nat) (f : Nat → Nat → AV) (i : Nat) : s22b10 s m g wl n f i s22b10_p = (cond (decide ((↑i : Int) < (↑n : Int)))
 (cond (decide ((↑i : Int) < (↑n : Int))) (cond (Nat.blt (0 + Int.toNat (↑i : Int)) n)
 (cond (qbV s { cl := AV.toI (f (0 + Int.toNat (↑i : Int)) 0), rq := AV.toI (f (0 + Int.toNat (↑i : Int)) (1)), ix := AV.toI (f (0 + Int.toNat (↑i : Int)) (2)), fr := AV.toI (f (0 + Int.toNat (↑i : Int)) (3)), ct := AV.toI (f (0 + Int.toNat (↑i : Int)) (4)), rd := AV.toI (f (0 + Int.toNat (↑i : Int)) (5)) })
 (cond (Nat.ble ((m) + (1)) (m)) none (cond (growB (40) (m + 1))
 (cond (Nat.ble (0 + m) m)
 (some (0, (CS.mk [(AV.func (Fn.func 25) [] [(.ptr 0 0)]), (.osl (false) (1) (0) (m + 1) (m + 1) 6 true), (.osl (true) (2) (0) (0) (0) 6 true), (.osl (wl) (3) (0) (n) (n) 6 true), (.int .i64 ((↑n : Int))), (.int .i64 (IntKind.wrap IntKind.i64 ((↑i : Int) + 1)))] [some (.cells [(.int .u64 (s))] false), some (.tarr shW (m + 1) (fjoin (fun p_ q_ => g (0 + p_) q_) (m) (rowsOf (6) [(.int .u64 (AV.toI (f (0 + Int.toNat (↑i : Int)) 0))), (.int .u64 (AV.toI (f (0 + Int.toNat (↑i : Int)) (1)))), (.int .u64 (AV.toI (f (0 + Int.toNat (↑i : Int)) (2)))), (.int .u32 (AV.toI (f (0 + Int.toNat (↑i : Int)) (3)))), (.int .u32 (AV.toI (f (0 + Int.toNat (↑i : Int)) (4)))), (.int .u64 (AV.toI (f (0 + Int.toNat (↑i : Int)) (5))))] (1))) true), some (.tarr shW (0) (fun p_ q_ => AV.bad) true), some (.tarr shW (n) f false)])))
 none)
 none))
 (some (0, (CS.mk [(AV.func (Fn.func 25) [] [(.ptr 0 0)]), (.osl (false) (1) (0) (m) (m) 6 true), (.osl (false) (2) (0) (1) (1) 6 true), (.osl (wl) (3) (0) (n) (n) 6 true), (.int .i64 ((↑n : Int))), (.int .i64 (IntKind.wrap IntKind.i64 ((↑i : Int) + 1)))] [some (.cells [(.int .u64 (s))] false), some (.tarr shW (m) g true), some (.tarr shW (1) (rowsOf (6) [(.int .u64 (AV.toI (f (0 + Int.toNat (↑i : Int)) 0))), (.int .u64 (AV.toI (f (0 + Int.toNat (↑i : Int)) (1)))), (.int .u64 (AV.toI (f (0 + Int.toNat (↑i : Int)) (2)))), (.int .u32 (AV.toI (f (0 + Int.toNat (↑i : Int)) (3)))), (.int .u32 (AV.toI (f (0 + Int.toNat (↑i : Int)) (4)))), (.int .u64 (AV.toI (f (0 + Int.toNat (↑i : Int)) (5))))] (1)) true), some (.tarr shW (n) f false)]))))
 none) none)
 (some (1, (CS.mk [(.osl (false) (0) (0) (m) (m) 6 true), (.osl (true) (1) (0) (0) (0) 6 true)] [some (.tarr shW (m) g true), some (.tarr shW (0) (fun p_ q_ => AV.bad) true)])))) := by kernel_rfl
theorem s22b10_eq (s : Int) (m : Nat) (g : Nat → Nat → AV) (wl : Bool) (n : Nat) (f : Nat → Nat → AV) (i : Nat) : s22b10 s m g wl n f i s22b10_p = (cond (decide ((↑i : Int) < (↑n : Int)))
 (cond (Nat.blt (0 + Int.toNat (↑i : Int)) n)
 (cond (qbV s { cl := AV.toI (f (0 + Int.toNat (↑i : Int)) 0), rq := AV.toI (f (0 + Int.toNat (↑i : Int)) (1)), ix := AV.toI (f (0 + Int.toNat (↑i : Int)) (2)), fr := AV.toI (f (0 + Int.toNat (↑i : Int)) (3)), ct := AV.toI (f (0 + Int.toNat (↑i : Int)) (4)), rd := AV.toI (f (0 + Int.toNat (↑i : Int)) (5)) })
 (cond (Nat.ble ((m) + (1)) (m)) none (cond (growB (40) (m + 1))
 (cond (Nat.ble (0 + m) m)
 (some (0, (CS.mk [(AV.func (Fn.func 25) [] [(.ptr 0 0)]), (.osl (false) (1) (0) (m + 1) (m + 1) 6 true), (.osl (true) (2) (0) (0) (0) 6 true), (.osl (wl) (3) (0) (n) (n) 6 true), (.int .i64 ((↑n : Int))), (.int .i64 (IntKind.wrap IntKind.i64 ((↑i : Int) + 1)))] [some (.cells [(.int .u64 (s))] false), some (.tarr shW (m + 1) (fjoin (fun p_ q_ => g (0 + p_) q_) (m) (rowsOf (6) [(.int .u64 (AV.toI (f (0 + Int.toNat (↑i : Int)) 0))), (.int .u64 (AV.toI (f (0 + Int.toNat (↑i : Int)) (1)))), (.int .u64 (AV.toI (f (0 + Int.toNat (↑i : Int)) (2)))), (.int .u32 (AV.toI (f (0 + Int.toNat (↑i : Int)) (3)))), (.int .u32 (AV.toI (f (0 + Int.toNat (↑i : Int)) (4)))), (.int .u64 (AV.toI (f (0 + Int.toNat (↑i : Int)) (5))))] (1))) true), some (.tarr shW (0) (fun p_ q_ => AV.bad) true), some (.tarr shW (n) f false)])))
 none)
 none))
 (some (0, (CS.mk [(AV.func (Fn.func 25) [] [(.ptr 0 0)]), (.osl (false) (1) (0) (m) (m) 6 true), (.osl (false) (2) (0) (1) (1) 6 true), (.osl (wl) (3) (0) (n) (n) 6 true), (.int .i64 ((↑n : Int))), (.int .i64 (IntKind.wrap IntKind.i64 ((↑i : Int) + 1)))] [some (.cells [(.int .u64 (s))] false), some (.tarr shW (m) g true), some (.tarr shW (1) (rowsOf (6) [(.int .u64 (AV.toI (f (0 + Int.toNat (↑i : Int)) 0))), (.int .u64 (AV.toI (f (0 + Int.toNat (↑i : Int)) (1)))), (.int .u64 (AV.toI (f (0 + Int.toNat (↑i : Int)) (2)))), (.int .u32 (AV.toI (f (0 + Int.toNat (↑i : Int)) (3)))), (.int .u32 (AV.toI (f (0 + Int.toNat (↑i : Int)) (4)))), (.int .u64 (AV.toI (f (0 + Int.toNat (↑i : Int)) (5))))] (1)) true), some (.tarr shW (n) f false)]))))
 none)
 (some (1, (CS.mk [(.osl (false) (0) (0) (m) (m) 6 true), (.osl (true) (1) (0) (0) (0) 6 true)] [some (.tarr shW (m) g true), some (.tarr shW (0) (fun p_ q_ => AV.bad) true)])))) := by
 rw [s22b10_is]
 try simp only [eq_self, decide_true, beq_self_eq_true, Nat.beq_refl, ble_self, Int.le_refl, Nat.le_refl]
 cases (decide ((↑i : Int) < (↑n : Int))) with
 | true =>
   cases (Nat.blt (0 + Int.toNat (↑i : Int)) n) with
   | true =>
     cases (qbV s { cl := AV.toI (f (0 + Int.toNat (↑i : Int)) 0), rq := AV.toI (f (0 + Int.toNat (↑i : Int)) (1)), ix := AV.toI (f (0 + Int.toNat (↑i : Int)) (2)), fr := AV.toI (f (0 + Int.toNat (↑i : Int)) (3)), ct := AV.toI (f (0 + Int.toNat (↑i : Int)) (4)), rd := AV.toI (f (0 + Int.toNat (↑i : Int)) (5)) }) with
     | true =>
       cases (growB (40) (m + 1)) with
       | true =>
         cases (Nat.ble (0 + m) m) with
         | true =>
           rfl
         | false =>
           rfl
       | false =>
         rfl
     | false =>
       rfl
   | false =>
     rfl
 | false =>
   rfl
noncomputable def s22b11 (s : Int) (m : Nat) (g : Nat → Nat → AV) (p : Nat) (e : Nat → Nat → AV) (wl : Bool) (n : Nat) (f : Nat → Nat → AV) (i : Nat) (π : Plan) : Option (Nat × CS) := stepC (F1) (300) (loopC F1 22 0) (0) (h22) ((.normal, h22) :: x22) π (c22b11 s m g p e wl n f i)
def s22b11_p : Plan := (.fork (.reck 1 (.must true (.fork (.fork (.reck 1 (.must false (.fork (.fork .stop .stop) .stop))) (.reck 1 (.must false (.fork (.fork .stop .stop) .stop)))) .stop))) .stop)
theorem s22b11_is (s : Int) (m : Nat) (g : Nat → Nat → AV) (p : Nat) (e : Nat → Nat → AV) (wl : Bool) (n : Nat) (f : Nat → Nat → AV) (i : Nat) : s22b11 s m g p e wl n f i s22b11_p = (cond (decide ((↑i : Int) < (↑n : Int)))
 (cond (decide ((↑i : Int) < (↑n : Int))) (cond (Nat.blt (0 + Int.toNat (↑i : Int)) n)
 (cond (qbV s { cl := AV.toI (f (0 + Int.toNat (↑i : Int)) 0), rq := AV.toI (f (0 + Int.toNat (↑i : Int)) (1)), ix := AV.toI (f (0 + Int.toNat (↑i : Int)) (2)), fr := AV.toI (f (0 + Int.toNat (↑i : Int)) (3)), ct := AV.toI (f (0 + Int.toNat (↑i : Int)) (4)), rd := AV.toI (f (0 + Int.toNat (↑i : Int)) (5)) })
 (cond (Nat.ble ((m) + (1)) (m)) none (cond (growB (40) (m + 1))
 (cond (Nat.ble (0 + m) m)
 (some (0, (CS.mk [(AV.func (Fn.func 25) [] [(.ptr 0 0)]), (.osl (false) (1) (0) (m + 1) (m + 1) 6 true), (.osl (false) (2) (0) (p) (p) 6 true), (.osl (wl) (3) (0) (n) (n) 6 true), (.int .i64 ((↑n : Int))), (.int .i64 (IntKind.wrap IntKind.i64 ((↑i : Int) + 1)))] [some (.cells [(.int .u64 (s))] false), some (.tarr shW (m + 1) (fjoin (fun p_ q_ => g (0 + p_) q_) (m) (rowsOf (6) [(.int .u64 (AV.toI (f (0 + Int.toNat (↑i : Int)) 0))), (.int .u64 (AV.toI (f (0 + Int.toNat (↑i : Int)) (1)))), (.int .u64 (AV.toI (f (0 + Int.toNat (↑i : Int)) (2)))), (.int .u32 (AV.toI (f (0 + Int.toNat (↑i : Int)) (3)))), (.int .u32 (AV.toI (f (0 + Int.toNat (↑i : Int)) (4)))), (.int .u64 (AV.toI (f (0 + Int.toNat (↑i : Int)) (5))))] (1))) true), some (.tarr shW (p) e true), some (.tarr shW (n) f false)])))
 none)
 none))
 (cond (Nat.ble ((p) + (1)) (p)) none (cond (growB (40) (p + 1))
 (cond (Nat.ble (0 + p) p)
 (some (0, (CS.mk [(AV.func (Fn.func 25) [] [(.ptr 0 0)]), (.osl (false) (1) (0) (m) (m) 6 true), (.osl (false) (2) (0) (p + 1) (p + 1) 6 true), (.osl (wl) (3) (0) (n) (n) 6 true), (.int .i64 ((↑n : Int))), (.int .i64 (IntKind.wrap IntKind.i64 ((↑i : Int) + 1)))] [some (.cells [(.int .u64 (s))] false), some (.tarr shW (m) g true), some (.tarr shW (p + 1) (fjoin (fun p_ q_ => e (0 + p_) q_) (p) (rowsOf (6) [(.int .u64 (AV.toI (f (0 + Int.toNat (↑i : Int)) 0))), (.int .u64 (AV.toI (f (0 + Int.toNat (↑i : Int)) (1)))), (.int .u64 (AV.toI (f (0 + Int.toNat (↑i : Int)) (2)))), (.int .u32 (AV.toI (f (0 + Int.toNat (↑i : Int)) (3)))), (.int .u32 (AV.toI (f (0 + Int.toNat (↑i : Int)) (4)))), (.int .u64 (AV.toI (f (0 + Int.toNat (↑i : Int)) (5))))] (1))) true), some (.tarr shW (n) f false)])))
 none)
 none)))
 none) none)
 (some (1, (CS.mk [(.osl (false) (0) (0) (m) (m) 6 true), (.osl (false) (1) (0) (p) (p) 6 true)] [some (.tarr shW (m) g true), some (.tarr shW (p) e true)])))) := by kernel_rfl
theorem s22b11_eq (s : Int) (m : Nat) (g : Nat → Nat → AV) (p : Nat) (e : Nat → Nat → AV) (wl : Bool) (n : Nat) (f : Nat → Nat → AV) (i : Nat) : s22b11 s m g p e wl n f i s22b11_p = (cond (decide ((↑i : Int) < (↑n : Int)))
 (cond (Nat.blt (0 + Int.toNat (↑i : Int)) n)
 (cond (qbV s { cl := AV.toI (f (0 + Int.toNat (↑i : Int)) 0), rq := AV.toI (f (0 + Int.toNat (↑i : Int)) (1)), ix := AV.toI (f (0 + Int.toNat (↑i : Int)) (2)), fr := AV.toI (f (0 + Int.toNat (↑i : Int)) (3)), ct := AV.toI (f (0 + Int.toNat (↑i : Int)) (4)), rd := AV.toI (f (0 + Int.toNat (↑i : Int)) (5)) })
 (cond (Nat.ble ((m) + (1)) (m)) none (cond (growB (40) (m + 1))
 (cond (Nat.ble (0 + m) m)
 (some (0, (CS.mk [(AV.func (Fn.func 25) [] [(.ptr 0 0)]), (.osl (false) (1) (0) (m + 1) (m + 1) 6 true), (.osl (false) (2) (0) (p) (p) 6 true), (.osl (wl) (3) (0) (n) (n) 6 true), (.int .i64 ((↑n : Int))), (.int .i64 (IntKind.wrap IntKind.i64 ((↑i : Int) + 1)))] [some (.cells [(.int .u64 (s))] false), some (.tarr shW (m + 1) (fjoin (fun p_ q_ => g (0 + p_) q_) (m) (rowsOf (6) [(.int .u64 (AV.toI (f (0 + Int.toNat (↑i : Int)) 0))), (.int .u64 (AV.toI (f (0 + Int.toNat (↑i : Int)) (1)))), (.int .u64 (AV.toI (f (0 + Int.toNat (↑i : Int)) (2)))), (.int .u32 (AV.toI (f (0 + Int.toNat (↑i : Int)) (3)))), (.int .u32 (AV.toI (f (0 + Int.toNat (↑i : Int)) (4)))), (.int .u64 (AV.toI (f (0 + Int.toNat (↑i : Int)) (5))))] (1))) true), some (.tarr shW (p) e true), some (.tarr shW (n) f false)])))
 none)
 none))
 (cond (Nat.ble ((p) + (1)) (p)) none (cond (growB (40) (p + 1))
 (cond (Nat.ble (0 + p) p)
 (some (0, (CS.mk [(AV.func (Fn.func 25) [] [(.ptr 0 0)]), (.osl (false) (1) (0) (m) (m) 6 true), (.osl (false) (2) (0) (p + 1) (p + 1) 6 true), (.osl (wl) (3) (0) (n) (n) 6 true), (.int .i64 ((↑n : Int))), (.int .i64 (IntKind.wrap IntKind.i64 ((↑i : Int) + 1)))] [some (.cells [(.int .u64 (s))] false), some (.tarr shW (m) g true), some (.tarr shW (p + 1) (fjoin (fun p_ q_ => e (0 + p_) q_) (p) (rowsOf (6) [(.int .u64 (AV.toI (f (0 + Int.toNat (↑i : Int)) 0))), (.int .u64 (AV.toI (f (0 + Int.toNat (↑i : Int)) (1)))), (.int .u64 (AV.toI (f (0 + Int.toNat (↑i : Int)) (2)))), (.int .u32 (AV.toI (f (0 + Int.toNat (↑i : Int)) (3)))), (.int .u32 (AV.toI (f (0 + Int.toNat (↑i : Int)) (4)))), (.int .u64 (AV.toI (f (0 + Int.toNat (↑i : Int)) (5))))] (1))) true), some (.tarr shW (n) f false)])))
 none)
 none)))
 none)
 (some (1, (CS.mk [(.osl (false) (0) (0) (m) (m) 6 true), (.osl (false) (1) (0) (p) (p) 6 true)] [some (.tarr shW (m) g true), some (.tarr shW (p) e true)])))) := by
 rw [s22b11_is]
 try simp only [eq_self, decide_true, beq_self_eq_true, Nat.beq_refl, ble_self, Int.le_refl, Nat.le_refl]
 cases (decide ((↑i : Int) < (↑n : Int))) with
 | true =>
   cases (Nat.blt (0 + Int.toNat (↑i : Int)) n) with
   | true =>
     cases (qbV s { cl := AV.toI (f (0 + Int.toNat (↑i : Int)) 0), rq := AV.toI (f (0 + Int.toNat (↑i : Int)) (1)), ix := AV.toI (f (0 + Int.toNat (↑i : Int)) (2)), fr := AV.toI (f (0 + Int.toNat (↑i : Int)) (3)), ct := AV.toI (f (0 + Int.toNat (↑i : Int)) (4)), rd := AV.toI (f (0 + Int.toNat (↑i : Int)) (5)) }) with
     | true =>
       cases (growB (40) (m + 1)) with
       | true =>
         cases (Nat.ble (0 + m) m) with
         | true =>
           rfl
         | false =>
           rfl
       | false =>
         rfl
     | false =>
       cases (growB (40) (p + 1)) with
       | true =>
         cases (Nat.ble (0 + p) p) with
         | true =>
           rfl
         | false =>
           rfl
       | false =>
         rfl
   | false =>
     rfl
 | false =>
   rfl
noncomputable def s22c00 (lo : Int) (bi : Int) (wl : Bool) (n : Nat) (f : Nat → Nat → AV) (i : Nat) (π : Plan) : Option (Nat × CS) := stepC (F1) (300) (loopC F1 22 0) (0) (h22) ((.normal, h22) :: x22) π (c22c00 lo bi wl n f i)
def s22c00_p : Plan := (.fork (.reck 1 (.must true (.fork (.fork .stop .stop) .stop))) .stop)
theorem s22c00_is (lo : Int) (bi : Int) (wl : Bool) (n : Nat) (f : Nat → Nat → AV) (i : Nat) : s22c00 lo bi wl n f i s22c00_p = (cond (decide ((↑i : Int) < (↑n : Int)))
 (cond (decide ((↑i : Int) < (↑n : Int))) (cond (Nat.blt (0 + Int.toNat (↑i : Int)) n)
 (cond (qcV lo bi { cl := AV.toI (f (0 + Int.toNat (↑i : Int)) 0), rq := AV.toI (f (0 + Int.toNat (↑i : Int)) (1)), ix := AV.toI (f (0 + Int.toNat (↑i : Int)) (2)), fr := AV.toI (f (0 + Int.toNat (↑i : Int)) (3)), ct := AV.toI (f (0 + Int.toNat (↑i : Int)) (4)), rd := AV.toI (f (0 + Int.toNat (↑i : Int)) (5)) })
 (some (0, (CS.mk [(AV.func (Fn.func 30) [] [(.ptr 0 0)]), (.osl (false) (1) (0) (1) (1) 6 true), (.osl (true) (2) (0) (0) (0) 6 true), (.osl (wl) (3) (0) (n) (n) 6 true), (.int .i64 ((↑n : Int))), (.int .i64 (IntKind.wrap IntKind.i64 ((↑i : Int) + 1)))] [some (.cells [(.int .u64 (lo)), (.int .u64 (bi))] false), some (.tarr shW (1) (rowsOf (6) [(.int .u64 (AV.toI (f (0 + Int.toNat (↑i : Int)) 0))), (.int .u64 (AV.toI (f (0 + Int.toNat (↑i : Int)) (1)))), (.int .u64 (AV.toI (f (0 + Int.toNat (↑i : Int)) (2)))), (.int .u32 (AV.toI (f (0 + Int.toNat (↑i : Int)) (3)))), (.int .u32 (AV.toI (f (0 + Int.toNat (↑i : Int)) (4)))), (.int .u64 (AV.toI (f (0 + Int.toNat (↑i : Int)) (5))))] (1)) true), some (.tarr shW (0) (fun p_ q_ => AV.bad) true), some (.tarr shW (n) f false)])))
 (some (0, (CS.mk [(AV.func (Fn.func 30) [] [(.ptr 0 0)]), (.osl (true) (1) (0) (0) (0) 6 true), (.osl (false) (2) (0) (1) (1) 6 true), (.osl (wl) (3) (0) (n) (n) 6 true), (.int .i64 ((↑n : Int))), (.int .i64 (IntKind.wrap IntKind.i64 ((↑i : Int) + 1)))] [some (.cells [(.int .u64 (lo)), (.int .u64 (bi))] false), some (.tarr shW (0) (fun p_ q_ => AV.bad) true), some (.tarr shW (1) (rowsOf (6) [(.int .u64 (AV.toI (f (0 + Int.toNat (↑i : Int)) 0))), (.int .u64 (AV.toI (f (0 + Int.toNat (↑i : Int)) (1)))), (.int .u64 (AV.toI (f (0 + Int.toNat (↑i : Int)) (2)))), (.int .u32 (AV.toI (f (0 + Int.toNat (↑i : Int)) (3)))), (.int .u32 (AV.toI (f (0 + Int.toNat (↑i : Int)) (4)))), (.int .u64 (AV.toI (f (0 + Int.toNat (↑i : Int)) (5))))] (1)) true), some (.tarr shW (n) f false)]))))
 none) none)
 (some (1, (CS.mk [(.osl (true) (0) (0) (0) (0) 6 true), (.osl (true) (1) (0) (0) (0) 6 true)] [some (.tarr shW (0) (fun p_ q_ => AV.bad) true), some (.tarr shW (0) (fun p_ q_ => AV.bad) true)])))) := by kernel_rfl
theorem s22c00_eq (lo : Int) (bi : Int) (wl : Bool) (n : Nat) (f : Nat → Nat → AV) (i : Nat) : s22c00 lo bi wl n f i s22c00_p = (cond (decide ((↑i : Int) < (↑n : Int)))
 (cond (Nat.blt (0 + Int.toNat (↑i : Int)) n)
 (cond (qcV lo bi { cl := AV.toI (f (0 + Int.toNat (↑i : Int)) 0), rq := AV.toI (f (0 + Int.toNat (↑i : Int)) (1)), ix := AV.toI (f (0 + Int.toNat (↑i : Int)) (2)), fr := AV.toI (f (0 + Int.toNat (↑i : Int)) (3)), ct := AV.toI (f (0 + Int.toNat (↑i : Int)) (4)), rd := AV.toI (f (0 + Int.toNat (↑i : Int)) (5)) })
 (some (0, (CS.mk [(AV.func (Fn.func 30) [] [(.ptr 0 0)]), (.osl (false) (1) (0) (1) (1) 6 true), (.osl (true) (2) (0) (0) (0) 6 true), (.osl (wl) (3) (0) (n) (n) 6 true), (.int .i64 ((↑n : Int))), (.int .i64 (IntKind.wrap IntKind.i64 ((↑i : Int) + 1)))] [some (.cells [(.int .u64 (lo)), (.int .u64 (bi))] false), some (.tarr shW (1) (rowsOf (6) [(.int .u64 (AV.toI (f (0 + Int.toNat (↑i : Int)) 0))), (.int .u64 (AV.toI (f (0 + Int.toNat (↑i : Int)) (1)))), (.int .u64 (AV.toI (f (0 + Int.toNat (↑i : Int)) (2)))), (.int .u32 (AV.toI (f (0 + Int.toNat (↑i : Int)) (3)))), (.int .u32 (AV.toI (f (0 + Int.toNat (↑i : Int)) (4)))), (.int .u64 (AV.toI (f (0 + Int.toNat (↑i : Int)) (5))))] (1)) true), some (.tarr shW (0) (fun p_ q_ => AV.bad) true), some (.tarr shW (n) f false)])))
 (some (0, (CS.mk [(AV.func (Fn.func 30) [] [(.ptr 0 0)]), (.osl (true) (1) (0) (0) (0) 6 true), (.osl (false) (2) (0) (1) (1) 6 true), (.osl (wl) (3) (0) (n) (n) 6 true), (.int .i64 ((↑n : Int))), (.int .i64 (IntKind.wrap IntKind.i64 ((↑i : Int) + 1)))] [some (.cells [(.int .u64 (lo)), (.int .u64 (bi))] false), some (.tarr shW (0) (fun p_ q_ => AV.bad) true), some (.tarr shW (1) (rowsOf (6) [(.int .u64 (AV.toI (f (0 + Int.toNat (↑i : Int)) 0))), (.int .u64 (AV.toI (f (0 + Int.toNat (↑i : Int)) (1)))), (.int .u64 (AV.toI (f (0 + Int.toNat (↑i : Int)) (2)))), (.int .u32 (AV.toI (f (0 + Int.toNat (↑i : Int)) (3)))), (.int .u32 (AV.toI (f (0 + Int.toNat (↑i : Int)) (4)))), (.int .u64 (AV.toI (f (0 + Int.toNat (↑i : Int)) (5))))] (1)) true), some (.tarr shW (n) f false)]))))
 none)
 (some (1, (CS.mk [(.osl (true) (0) (0) (0) (0) 6 true), (.osl (true) (1) (0) (0) (0) 6 true)] [some (.tarr shW (0) (fun p_ q_ => AV.bad) true), some (.tarr shW (0) (fun p_ q_ => AV.bad) true)])))) := by
 rw [s22c00_is]
 try simp only [eq_self, decide_true, beq_self_eq_true, Nat.beq_refl, ble_self, Int.le_refl, Nat.le_refl]
 cases (decide ((↑i : Int) < (↑n : Int))) with
 | true =>
   cases (Nat.blt (0 + Int.toNat (↑i : Int)) n) with
   | true =>
     cases (qcV lo bi { cl := AV.toI (f (0 + Int.toNat (↑i : Int)) 0), rq := AV.toI (f (0 + Int.toNat (↑i : Int)) (1)), ix := AV.toI (f (0 + Int.toNat (↑i : Int)) (2)), fr := AV.toI (f (0 + Int.toNat (↑i : Int)) (3)), ct := AV.toI (f (0 + Int.toNat (↑i : Int)) (4)), rd := AV.toI (f (0 + Int.toNat (↑i : Int)) (5)) }) with
     | true =>
       rfl
     | false =>
       rfl
   | false =>
     rfl
 | false =>
   rfl
noncomputable def s22c01 (lo : Int) (bi : Int) (p : Nat) (e : Nat → Nat → AV) (wl : Bool) (n : Nat) (f : Nat → Nat → AV) (i : Nat) (π : Plan) : Option (Nat × CS) := stepC (F1) (300) (loopC F1 22 0) (0) (h22) ((.normal, h22) :: x22) π (c22c01 lo bi p e wl n f i)
def s22c01_p : Plan := (.fork (.reck 1 (.must true (.fork (.fork .stop (.reck 1 (.must false (.fork (.fork .stop .stop) .stop)))) .stop))) .stop)
theorem s22c01_is (lo : Int) (bi : Int) (p : Nat) (e : Nat → Nat → AV) (wl : Bool) (n : Nat) (f : Nat → Nat → AV) (i : Nat) : s22c01 lo bi p e wl n f i s22c01_p = (cond (decide ((↑i : Int) < (↑n : Int)))
 (cond (decide ((↑i : Int) < (↑n : Int))) (cond (Nat.blt (0 + Int.toNat (↑i : Int)) n)
 (cond (qcV lo bi { cl := AV.toI (f (0 + Int.toNat (↑i : Int)) 0), rq := AV.toI (f (0 + Int.toNat (↑i : Int)) (1)), ix := AV.toI (f (0 + Int.toNat (↑i : Int)) (2)), fr := AV.toI (f (0 + Int.toNat (↑i : Int)) (3)), ct := AV.toI (f (0 + Int.toNat (↑i : Int)) (4)), rd := AV.toI (f (0 + Int.toNat (↑i : Int)) (5)) })
 (some (0, (CS.mk [(AV.func (Fn.func 30) [] [(.ptr 0 0)]), (.osl (false) (1) (0) (1) (1) 6 true), (.osl (false) (2) (0) (p) (p) 6 true), (.osl (wl) (3) (0) (n) (n) 6 true), (.int .i64 ((↑n : Int))), (.int .i64 (IntKind.wrap IntKind.i64 ((↑i : Int) + 1)))] [some (.cells [(.int .u64 (lo)), (.int .u64 (bi))] false), some (.tarr shW (1) (rowsOf (6) [(.int .u64 (AV.toI (f (0 + Int.toNat (↑i : Int)) 0))), (.int .u64 (AV.toI (f (0 + Int.toNat (↑i : Int)) (1)))), (.int .u64 (AV.toI (f (0 + Int.toNat (↑i : Int)) (2)))), (.int .u32 (AV.toI (f (0 + Int.toNat (↑i : Int)) (3)))), (.int .u32 (AV.toI (f (0 + Int.toNat (↑i : Int)) (4)))), (.int .u64 (AV.toI (f (0 + Int.toNat (↑i : Int)) (5))))] (1)) true), some (.tarr shW (p) e true), some (.tarr shW (n) f false)])))
 (cond (Nat.ble ((p) + (1)) (p)) none (cond (growB (40) (p + 1))
 (cond (Nat.ble (0 + p) p)
 (some (0, (CS.mk [(AV.func (Fn.func 30) [] [(.ptr 0 0)]), (.osl (true) (1) (0) (0) (0) 6 true), (.osl (false) (2) (0) (p + 1) (p + 1) 6 true), (.osl (wl) (3) (0) (n) (n) 6 true), (.int .i64 ((↑n : Int))), (.int .i64 (IntKind.wrap IntKind.i64 ((↑i : Int) + 1)))] [some (.cells [(.int .u64 (lo)), (.int .u64 (bi))] false), some (.tarr shW (0) (fun p_ q_ => AV.bad) true), some (.tarr shW (p + 1) (fjoin (fun p_ q_ => e (0 + p_) q_) (p) (rowsOf (6) [(.int .u64 (AV.toI (f (0 + Int.toNat (↑i : Int)) 0))), (.int .u64 (AV.toI (f (0 + Int.toNat (↑i : Int)) (1)))), (.int .u64 (AV.toI (f (0 + Int.toNat (↑i : Int)) (2)))), (.int .u32 (AV.toI (f (0 + Int.toNat (↑i : Int)) (3)))), (.int .u32 (AV.toI (f (0 + Int.toNat (↑i : Int)) (4)))), (.int .u64 (AV.toI (f (0 + Int.toNat (↑i : Int)) (5))))] (1))) true), some (.tarr shW (n) f false)])))
 none)
 none)))
 none) none)
 (some (1, (CS.mk [(.osl (true) (0) (0) (0) (0) 6 true), (.osl (false) (1) (0) (p) (p) 6 true)] [some (.tarr shW (0) (fun p_ q_ => AV.bad) true), some (.tarr shW (p) e true)])))) := by kernel_rfl
theorem s22c01_eq (lo : Int) (bi : Int) (p : Nat) (e : Nat → Nat → AV) (wl : Bool) (n : Nat) (f : Nat → Nat → AV) (i : Nat) : s22c01 lo bi p e wl n f i s22c01_p = (cond (decide ((↑i : Int) < (↑n : Int)))
 (cond (Nat.blt (0 + Int.toNat (↑i : Int)) n)
 (cond (qcV lo bi { cl := AV.toI (f (0 + Int.toNat (↑i : Int)) 0), rq := AV.toI (f (0 + Int.toNat (↑i : Int)) (1)), ix := AV.toI (f (0 + Int.toNat (↑i : Int)) (2)), fr := AV.toI (f (0 + Int.toNat (↑i : Int)) (3)), ct := AV.toI (f (0 + Int.toNat (↑i : Int)) (4)), rd := AV.toI (f (0 + Int.toNat (↑i : Int)) (5)) })
 (some (0, (CS.mk [(AV.func (Fn.func 30) [] [(.ptr 0 0)]), (.osl (false) (1) (0) (1) (1) 6 true), (.osl (false) (2) (0) (p) (p) 6 true), (.osl (wl) (3) (0) (n) (n) 6 true), (.int .i64 ((↑n : Int))), (.int .i64 (IntKind.wrap IntKind.i64 ((↑i : Int) + 1)))] [some (.cells [(.int .u64 (lo)), (.int .u64 (bi))] false), some (.tarr shW (1) (rowsOf (6) [(.int .u64 (AV.toI (f (0 + Int.toNat (↑i : Int)) 0))), (.int .u64 (AV.toI (f (0 + Int.toNat (↑i : Int)) (1)))), (.int .u64 (AV.toI (f (0 + Int.toNat (↑i : Int)) (2)))), (.int .u32 (AV.toI (f (0 + Int.toNat (↑i : Int)) (3)))), (.int .u32 (AV.toI (f (0 + Int.toNat (↑i : Int)) (4)))), (.int .u64 (AV.toI (f (0 + Int.toNat (↑i : Int)) (5))))] (1)) true), some (.tarr shW (p) e true), some (.tarr shW (n) f false)])))
 (cond (Nat.ble ((p) + (1)) (p)) none (cond (growB (40) (p + 1))
 (cond (Nat.ble (0 + p) p)
 (some (0, (CS.mk [(AV.func (Fn.func 30) [] [(.ptr 0 0)]), (.osl (true) (1) (0) (0) (0) 6 true), (.osl (false) (2) (0) (p + 1) (p + 1) 6 true), (.osl (wl) (3) (0) (n) (n) 6 true), (.int .i64 ((↑n : Int))), (.int .i64 (IntKind.wrap IntKind.i64 ((↑i : Int) + 1)))] [some (.cells [(.int .u64 (lo)), (.int .u64 (bi))] false), some (.tarr shW (0) (fun p_ q_ => AV.bad) true), some (.tarr shW (p + 1) (fjoin (fun p_ q_ => e (0 + p_) q_) (p) (rowsOf (6) [(.int .u64 (AV.toI (f (0 + Int.toNat (↑i : Int)) 0))), (.int .u64 (AV.toI (f (0 + Int.toNat (↑i : Int)) (1)))), (.int .u64 (AV.toI (f (0 + Int.toNat (↑i : Int)) (2)))), (.int .u32 (AV.toI (f (0 + Int.toNat (↑i : Int)) (3)))), (.int .u32 (AV.toI (f (0 + Int.toNat (↑i : Int)) (4)))), (.int .u64 (AV.toI (f (0 + Int.toNat (↑i : Int)) (5))))] (1))) true), some (.tarr shW (n) f false)])))
 none)
 none)))
 none)
 (some (1, (CS.mk [(.osl (true) (0) (0) (0) (0) 6 true), (.osl (false) (1) (0) (p) (p) 6 true)] [some (.tarr shW (0) (fun p_ q_ => AV.bad) true), some (.tarr shW (p) e true)])))) := by
 rw [s22c01_is]
 try simp only [eq_self, decide_true, beq_self_eq_true, Nat.beq_refl, ble_self, Int.le_refl, Nat.le_refl]
 cases (decide ((↑i : Int) < (↑n : Int))) with
 | true =>
   cases (Nat.blt (0 + Int.toNat (↑i : Int)) n) with
   | true =>
     cases (qcV lo bi { cl := AV.toI (f (0 + Int.toNat (↑i : Int)) 0), rq := AV.toI (f (0 + Int.toNat (↑i : Int)) (1)), ix := AV.toI (f (0 + Int.toNat (↑i : Int)) (2)), fr := AV.toI (f (0 + Int.toNat (↑i : Int)) (3)), ct := AV.toI (f (0 + Int.toNat (↑i : Int)) (4)), rd := AV.toI (f (0 + Int.toNat (↑i : Int)) (5)) }) with
     | true =>
       rfl
     | false =>
       cases (growB (40) (p + 1)) with
       | true =>
         cases (Nat.ble (0 + p) p) with
         | true =>
           rfl
         | false =>
           rfl
       | false =>
         rfl
   | false =>
     rfl
 | false =>
   rfl
noncomputable def s22c10 (lo : Int) (bi : Int) (m : Nat) (g : Nat → Nat → AV) (wl : Bool) (n : Nat) (f : Nat → Nat → AV) (i : Nat) (π : Plan) : Option (Nat × CS) := stepC (F1) (300) (loopC F1 22 0) (0) (h22) ((.normal, h22) :: x22) π (c22c10 lo bi m g wl n f i)
def s22c10_p : Plan := (.fork (.reck 1 (.must true (.fork (.fork (.reck 1 (.must false (.fork (.fork .stop .stop) .stop))) .stop) .stop))) .stop)
theorem s22c10_is (lo : Int) (bi : Int) (m : Nat) (g : Nat → Nat → AV) (wl : Bool) (n : Nat) (f : Nat → Nat → AV) (i : Nat) : s22c10 lo bi m g wl n f i s22c10_p = (cond (decide ((↑i : Int) < (↑n : Int)))
 (cond (decide ((↑i : Int) < (↑n : Int))) (cond (Nat.blt (0 + Int.toNat (↑i : Int)) n)
 (cond (qcV lo bi { cl := AV.toI (f (0 + Int.toNat (↑i : Int)) 0), rq := AV.toI (f (0 + Int.toNat (↑i : Int)) (1)), ix := AV.toI (f (0 + Int.toNat (↑i : Int)) (2)), fr := AV.toI (f (0 + Int.toNat (↑i : Int)) (3)), ct := AV.toI (f (0 + Int.toNat (↑i : Int)) (4)), rd := AV.toI (f (0 + Int.toNat (↑i : Int)) (5)) })
 (cond (Nat.ble ((m) + (1)) (m)) none (cond (growB (40) (m + 1))
 (cond (Nat.ble (0 + m) m)
 (some (0, (CS.mk [(AV.func (Fn.func 30) [] [(.ptr 0 0)]), (.osl (false) (1) (0) (m + 1) (m + 1) 6 true), (.osl (true) (2) (0) (0) (0) 6 true), (.osl (wl) (3) (0) (n) (n) 6 true), (.int .i64 ((↑n : Int))), (.int .i64 (IntKind.wrap IntKind.i64 ((↑i : Int) + 1)))] [some (.cells [(.int .u64 (lo)), (.int .u64 (bi))] false), some (.tarr shW (m + 1) (fjoin (fun p_ q_ => g (0 + p_) q_) (m) (rowsOf (6) [(.int .u64 (AV.toI (f (0 + Int.toNat (↑i : Int)) 0))), (.int .u64 (AV.toI (f (0 + Int.toNat (↑i : Int)) (1)))), (.int .u64 (AV.toI (f (0 + Int.toNat (↑i : Int)) (2)))), (.int .u32 (AV.toI (f (0 + Int.toNat (↑i : Int)) (3)))), (.int .u32 (AV.toI (f (0 + Int.toNat (↑i : Int)) (4)))), (.int .u64 (AV.toI (f (0 + Int.toNat (↑i : Int)) (5))))] (1))) true), some (.tarr shW (0) (fun p_ q_ => AV.bad) true), some (.tarr shW (n) f false)])))
 none)
 none))
 (some (0, (CS.mk [(AV.func (Fn.func 30) [] [(.ptr 0 0)]), (.osl (false) (1) (0) (m) (m) 6 true), (.osl (false) (2) (0) (1) (1) 6 true), (.osl (wl) (3) (0) (n) (n) 6 true), (.int .i64 ((↑n : Int))), (.int .i64 (IntKind.wrap IntKind.i64 ((↑i : Int) + 1)))] [some (.cells [(.int .u64 (lo)), (.int .u64 (bi))] false), some (.tarr shW (m) g true), some (.tarr shW (1) (rowsOf (6) [(.int .u64 (AV.toI (f (0 + Int.toNat (↑i : Int)) 0))), (.int .u64 (AV.toI (f (0 + Int.toNat (↑i : Int)) (1)))), (.int .u64 (AV.toI (f (0 + Int.toNat (↑i : Int)) (2)))), (.int .u32 (AV.toI (f (0 + Int.toNat (↑i : Int)) (3)))), (.int .u32 (AV.toI (f (0 + Int.toNat (↑i : Int)) (4)))), (.int .u64 (AV.toI (f (0 + Int.toNat (↑i : Int)) (5))))] (1)) true), some (.tarr shW (n) f false)]))))
 none) none)
 (some (1, (CS.mk [(.osl (false) (0) (0) (m) (m) 6 true), (.osl (true) (1) (0) (0) (0) 6 true)] [some (.tarr shW (m) g true), some (.tarr shW (0) (fun p_ q_ => AV.bad) true)])))) := by kernel_rfl
theorem s22c10_eq (lo : Int) (bi : Int) (m : Nat) (g : Nat → Nat → AV) (wl : Bool) (n : Nat) (f : Nat → Nat → AV) (i : Nat) : s22c10 lo bi m g wl n f i s22c10_p = (cond (decide ((↑i : Int) < (↑n : Int)))
 (cond (Nat.blt (0 + Int.toNat (↑i : Int)) n)
 (cond (qcV lo bi { cl := AV.toI (f (0 + Int.toNat (↑i : Int)) 0), rq := AV.toI (f (0 + Int.toNat (↑i : Int)) (1)), ix := AV.toI (f (0 + Int.toNat (↑i : Int)) (2)), fr := AV.toI (f (0 + Int.toNat (↑i : Int)) (3)), ct := AV.toI (f (0 + Int.toNat (↑i : Int)) (4)), rd := AV.toI (f (0 + Int.toNat (↑i : Int)) (5)) })
 (cond (Nat.ble ((m) + (1)) (m)) none (cond (growB (40) (m + 1))
 (cond (Nat.ble (0 + m) m)
 (some (0, (CS.mk [(AV.func (Fn.func 30) [] [(.ptr 0 0)]), (.osl (false) (1) (0) (m + 1) (m + 1) 6 true), (.osl (true) (2) (0) (0) (0) 6 true), (.osl (wl) (3) (0) (n) (n) 6 true), (.int .i64 ((↑n : Int))), (.int .i64 (IntKind.wrap IntKind.i64 ((↑i : Int) + 1)))] [some (.cells [(.int .u64 (lo)), (.int .u64 (bi))] false), some (.tarr shW (m + 1) (fjoin (fun p_ q_ => g (0 + p_) q_) (m) (rowsOf (6) [(.int .u64 (AV.toI (f (0 + Int.toNat (↑i : Int)) 0))), (.int .u64 (AV.toI (f (0 + Int.toNat (↑i : Int)) (1)))), (.int .u64 (AV.toI (f (0 + Int.toNat (↑i : Int)) (2)))), (.int .u32 (AV.toI (f (0 + Int.toNat (↑i : Int)) (3)))), (.int .u32 (AV.toI (f (0 + Int.toNat (↑i : Int)) (4)))), (.int .u64 (AV.toI (f (0 + Int.toNat (↑i : Int)) (5))))] (1))) true), some (.tarr shW (0) (fun p_ q_ => AV.bad) true), some (.tarr shW (n) f false)])))
 none)
 none))
 (some (0, (CS.mk [(AV.func (Fn.func 30) [] [(.ptr 0 0)]), (.osl (false) (1) (0) (m) (m) 6 true), (.osl (false) (2) (0) (1) (1) 6 true), (.osl (wl) (3) (0) (n) (n) 6 true), (.int .i64 ((↑n : Int))), (.int .i64 (IntKind.wrap IntKind.i64 ((↑i : Int) + 1)))] [some (.cells [(.int .u64 (lo)), (.int .u64 (bi))] false), some (.tarr shW (m) g true), some (.tarr shW (1) (rowsOf (6) [(.int .u64 (AV.toI (f (0 + Int.toNat (↑i : Int)) 0))), (.int .u64 (AV.toI (f (0 + Int.toNat (↑i : Int)) (1)))), (.int .u64 (AV.toI (f (0 + Int.toNat (↑i : Int)) (2)))), (.int .u32 (AV.toI (f (0 + Int.toNat (↑i : Int)) (3)))), (.int .u32 (AV.toI (f (0 + Int.toNat (↑i : Int)) (4)))), (.int .u64 (AV.toI (f (0 + Int.toNat (↑i : Int)) (5))))] (1)) true), some (.tarr shW (n) f false)]))))
 none)
 (some (1, (CS.mk [(.osl (false) (0) (0) (m) (m) 6 true), (.osl (true) (1) (0) (0) (0) 6 true)] [some (.tarr shW (m) g true), some (.tarr shW (0) (fun p_ q_ => AV.bad) true)])))) := by
 rw [s22c10_is]
 try simp only [eq_self, decide_true, beq_self_eq_true, Nat.beq_refl, ble_self, Int.le_refl, Nat.le_refl]
 cases (decide ((↑i : Int) < (↑n : Int))) with
 | true =>
   cases (Nat.blt (0 + Int.toNat (↑i : Int)) n) with
   | true =>
     cases (qcV lo bi { cl := AV.toI (f (0 + Int.toNat (↑i : Int)) 0), rq := AV.toI (f (0 + Int.toNat (↑i : Int)) (1)), ix := AV.toI (f (0 + Int.toNat (↑i : Int)) (2)), fr := AV.toI (f (0 + Int.toNat (↑i : Int)) (3)), ct := AV.toI (f (0 + Int.toNat (↑i : Int)) (4)), rd := AV.toI (f (0 + Int.toNat (↑i : Int)) (5)) }) with
     | true =>
       cases (growB (40) (m + 1)) with
       | true =>
         cases (Nat.ble (0 + m) m) with
         | true =>
           rfl
         | false =>
           rfl
       | false =>
         rfl
     | false =>
       rfl
   | false =>
     rfl
 | false =>
   rfl
noncomputable def s22c11 (lo : Int) (bi : Int) (m : Nat) (g : Nat → Nat → AV) (p : Nat) (e : Nat → Nat → AV) (wl : Bool) (n : Nat) (f : Nat → Nat → AV) (i : Nat) (π : Plan) : Option (Nat × CS) := stepC (F1) (300) (loopC F1 22 0) (0) (h22) ((.normal, h22) :: x22) π (c22c11 lo bi m g p e wl n f i)
def s22c11_p : Plan := (.fork (.reck 1 (.must true (.fork (.fork (.reck 1 (.must false (.fork (.fork .stop .stop) .stop))) (.reck 1 (.must false (.fork (.fork .stop .stop) .stop)))) .stop))) .stop)
theorem s22c11_is (lo : Int) (bi : Int) (m : Nat) (g : Nat → Nat → AV) (p : Nat) (e : Nat → Nat → AV) (wl : Bool) (n : Nat) (f : Nat → Nat → AV) (i : Nat) : s22c11 lo bi m g p e wl n f i s22c11_p = (cond (decide ((↑i : Int) < (↑n : Int)))
 (cond (decide ((↑i : Int) < (↑n : Int))) (cond (Nat.blt (0 + Int.toNat (↑i : Int)) n)
 (cond (qcV lo bi { cl := AV.toI (f (0 + Int.toNat (↑i : Int)) 0), rq := AV.toI (f (0 + Int.toNat (↑i : Int)) (1)), ix := AV.toI (f (0 + Int.toNat (↑i : Int)) (2)), fr := AV.toI (f (0 + Int.toNat (↑i : Int)) (3)), ct := AV.toI (f (0 + Int.toNat (↑i : Int)) (4)), rd := AV.toI (f (0 + Int.toNat (↑i : Int)) (5)) })
 (cond (Nat.ble ((m) + (1)) (m)) none (cond (growB (40) (m + 1))
 (cond (Nat.ble (0 + m) m)
 (some (0, (CS.mk [(AV.func (Fn.func 30) [] [(.ptr 0 0)]), (.osl (false) (1) (0) (m + 1) (m + 1) 6 true), (.osl (false) (2) (0) (p) (p) 6 true), (.osl (wl) (3) (0) (n) (n) 6 true), (.int .i64 ((↑n : Int))), (.int .i64 (IntKind.wrap IntKind.i64 ((↑i : Int) + 1)))] [some (.cells [(.int .u64 (lo)), (.int .u64 (bi))] false), some (.tarr shW (m + 1) (fjoin (fun p_ q_ => g (0 + p_) q_) (m) (rowsOf (6) [(.int .u64 (AV.toI (f (0 + Int.toNat (↑i : Int)) 0))), (.int .u64 (AV.toI (f (0 + Int.toNat (↑i : Int)) (1)))), (.int .u64 (AV.toI (f (0 + Int.toNat (↑i : Int)) (2)))), (.int .u32 (AV.toI (f (0 + Int.toNat (↑i : Int)) (3)))), (.int .u32 (AV.toI (f (0 + Int.toNat (↑i : Int)) (4)))), (.int .u64 (AV.toI (f (0 + Int.toNat (↑i : Int)) (5))))] (1))) true), some (.tarr shW (p) e true), some (.tarr shW (n) f false)])))
 none)
 none))
 (cond (Nat.ble ((p) + (1)) (p)) none (cond (growB (40) (p + 1))
 (cond (Nat.ble (0 + p) p)
 (some (0, (CS.mk [(AV.func (Fn.func 30) [] [(.ptr 0 0)]), (.osl (false) (1) (0) (m) (m) 6 true), (.osl (false) (2) (0) (p + 1) (p + 1) 6 true), (.osl (wl) (3) (0) (n) (n) 6 true), (.int .i64 ((↑n : Int))), (.int .i64 (IntKind.wrap IntKind.i64 ((↑i : Int) + 1)))] [some (.cells [(.int .u64 (lo)), (.int .u64 (bi))] false), some (.tarr shW (m) g true), some (.tarr shW (p + 1) (fjoin (fun p_ q_ => e (0 + p_) q_) (p) (rowsOf (6) [(.int .u64 (AV.toI (f (0 + Int.toNat (↑i : Int)) 0))), (.int .u64 (AV.toI (f (0 + Int.toNat (↑i : Int)) (1)))), (.int .u64 (AV.toI (f (0 + Int.toNat (↑i : Int)) (2)))), (.int .u32 (AV.toI (f (0 + Int.toNat (↑i : Int)) (3)))), (.int .u32 (AV.toI (f (0 + Int.toNat (↑i : Int)) (4)))), (.int .u64 (AV.toI (f (0 + Int.toNat (↑i : Int)) (5))))] (1))) true), some (.tarr shW (n) f false)])))
 none)
 none)))
 none) none)
 (some (1, (CS.mk [(.osl (false) (0) (0) (m) (m) 6 true), (.osl (false) (1) (0) (p) (p) 6 true)] [some (.tarr shW (m) g true), some (.tarr shW (p) e true)])))) := by kernel_rfl
theorem s22c11_eq (lo : Int) (bi : Int) (m : Nat) (g : Nat → Nat → AV) (p : Nat) (e : Nat → Nat → AV) (wl : Bool) (n : Nat) (f : Nat → Nat → AV) (i : Nat) : s22c11 lo bi m g p e wl n f i s22c11_p = (cond (decide ((↑i : Int) < (↑n : Int)))
 (cond (Nat.blt (0 + Int.toNat (↑i : Int)) n)
 (cond (qcV lo bi { cl := AV.toI (f (0 + Int.toNat (↑i : Int)) 0), rq := AV.toI (f (0 + Int.toNat (↑i : Int)) (1)), ix := AV.toI (f (0 + Int.toNat (↑i : Int)) (2)), fr := AV.toI (f (0 + Int.toNat (↑i : Int)) (3)), ct := AV.toI (f (0 + Int.toNat (↑i : Int)) (4)), rd := AV.toI (f (0 + Int.toNat (↑i : Int)) (5)) })
 (cond (Nat.ble ((m) + (1)) (m)) none (cond (growB (40) (m + 1))
 (cond (Nat.ble (0 + m) m)
 (some (0, (CS.mk [(AV.func (Fn.func 30) [] [(.ptr 0 0)]), (.osl (false) (1) (0) (m + 1) (m + 1) 6 true), (.osl (false) (2) (0) (p) (p) 6 true), (.osl (wl) (3) (0) (n) (n) 6 true), (.int .i64 ((↑n : Int))), (.int .i64 (IntKind.wrap IntKind.i64 ((↑i : Int) + 1)))] [some (.cells [(.int .u64 (lo)), (.int .u64 (bi))] false), some (.tarr shW (m + 1) (fjoin (fun p_ q_ => g (0 + p_) q_) (m) (rowsOf (6) [(.int .u64 (AV.toI (f (0 + Int.toNat (↑i : Int)) 0))), (.int .u64 (AV.toI (f (0 + Int.toNat (↑i : Int)) (1)))), (.int .u64 (AV.toI (f (0 + Int.toNat (↑i : Int)) (2)))), (.int .u32 (AV.toI (f (0 + Int.toNat (↑i : Int)) (3)))), (.int .u32 (AV.toI (f (0 + Int.toNat (↑i : Int)) (4)))), (.int .u64 (AV.toI (f (0 + Int.toNat (↑i : Int)) (5))))] (1))) true), some (.tarr shW (p) e true), some (.tarr shW (n) f false)])))
 none)
 none))
 (cond (Nat.ble ((p) + (1)) (p)) none (cond (growB (40) (p + 1))
 (cond (Nat.ble (0 + p) p)
 (some (0, (CS.mk [(AV.func (Fn.func 30) [] [(.ptr 0 0)]), (.osl (false) (1) (0) (m) (m) 6 true), (.osl (false) (2) (0) (p + 1) (p + 1) 6 true), (.osl (wl) (3) (0) (n) (n) 6 true), (.int .i64 ((↑n : Int))), (.int .i64 (IntKind.wrap IntKind.i64 ((↑i : Int) + 1)))] [some (.cells [(.int .u64 (lo)), (.int .u64 (bi))] false), some (.tarr shW (m) g true), some (.tarr shW (p + 1) (fjoin (fun p_ q_ => e (0 + p_) q_) (p) (rowsOf (6) [(.int .u64 (AV.toI (f (0 + Int.toNat (↑i : Int)) 0))), (.int .u64 (AV.toI (f (0 + Int.toNat (↑i : Int)) (1)))), (.int .u64 (AV.toI (f (0 + Int.toNat (↑i : Int)) (2)))), (.int .u32 (AV.toI (f (0 + Int.toNat (↑i : Int)) (3)))), (.int .u32 (AV.toI (f (0 + Int.toNat (↑i : Int)) (4)))), (.int .u64 (AV.toI (f (0 + Int.toNat (↑i : Int)) (5))))] (1))) true), some (.tarr shW (n) f false)])))
 none)
 none)))
 none)
 (some (1, (CS.mk [(.osl (false) (0) (0) (m) (m) 6 true), (.osl (false) (1) (0) (p) (p) 6 true)] [some (.tarr shW (m) g true), some (.tarr shW (p) e true)])))) := by
 rw [s22c11_is]
 try simp only [eq_self, decide_true, beq_self_eq_true, Nat.beq_refl, ble_self, Int.le_refl, Nat.le_refl]
 cases (decide ((↑i : Int) < (↑n : Int))) with
 | true =>
   cases (Nat.blt (0 + Int.toNat (↑i : Int)) n) with
   | true =>
     cases (qcV lo bi { cl := AV.toI (f (0 + Int.toNat (↑i : Int)) 0), rq := AV.toI (f (0 + Int.toNat (↑i : Int)) (1)), ix := AV.toI (f (0 + Int.toNat (↑i : Int)) (2)), fr := AV.toI (f (0 + Int.toNat (↑i : Int)) (3)), ct := AV.toI (f (0 + Int.toNat (↑i : Int)) (4)), rd := AV.toI (f (0 + Int.toNat (↑i : Int)) (5)) }) with
     | true =>
       cases (growB (40) (m + 1)) with
       | true =>
         cases (Nat.ble (0 + m) m) with
         | true =>
           rfl
         | false =>
           rfl
       | false =>
         rfl
     | false =>
       cases (growB (40) (p + 1)) with
       | true =>
         cases (Nat.ble (0 + p) p) with
         | true =>
           rfl
         | false =>
           rfl
       | false =>
         rfl
   | false =>
     rfl
 | false =>
   rfl
theorem f23_inv  {c : CS} {r : CS} (h : (f23  c).run = some r) : ∃ xa xb xi xf xt xd a b, c = a23 xa xb xi xf xt xd a b ∧ (f23B  xa xb xi xf xt xd a b).run = some r := by
 unfold f23 at h
 split at h
 ·rename_i xa xb xi xf xt xd a b
  obtain ⟨hc, hb⟩ := chkT_run h
  exact ⟨xa, xb, xi, xf, xt, xd, a, b, rfl, hb⟩
 ·cases h
theorem f28_inv  {c : CS} {r : CS} (h : (f28  c).run = some r) : ∃ xa xb xi xf xt xd a b, c = a23 xa xb xi xf xt xd a b ∧ (f28B  xa xb xi xf xt xd a b).run = some r := by
 unfold f28 at h
 split at h
 ·rename_i xa xb xi xf xt xd a b
  obtain ⟨hc, hb⟩ := chkT_run h
  exact ⟨xa, xb, xi, xf, xt, xd, a, b, rfl, hb⟩
 ·cases h
theorem f25_inv  {c : CS} {r : CS} (h : (f25  c).run = some r) : ∃ xa xb xi xf xt xd s, c = a25 xa xb xi xf xt xd s ∧ (f25B  xa xb xi xf xt xd s).run = some r := by
 unfold f25 at h
 split at h
 ·rename_i xa xb xi xf xt xd s
  obtain ⟨hc, hb⟩ := chkT_run h
  exact ⟨xa, xb, xi, xf, xt, xd, s, rfl, hb⟩
 ·cases h
theorem f30_inv  {c : CS} {r : CS} (h : (f30  c).run = some r) : ∃ xa xb xi xf xt xd lo bi, c = a30 xa xb xi xf xt xd lo bi ∧ (f30B  xa xb xi xf xt xd lo bi).run = some r := by
 unfold f30 at h
 split at h
 ·rename_i xa xb xi xf xt xd lo bi
  obtain ⟨hc, hb⟩ := chkT_run h
  exact ⟨xa, xb, xi, xf, xt, xd, lo, bi, rfl, hb⟩
 ·cases h
theorem j23 (c c' : CS) (h : (f23 c).run = some c') : ∃ m pr ros π, callC F0 m 23 0 pr ros π c = some c' := by
 obtain ⟨xa, xb, xi, xf, xt, xd, a, b, rfl, hb⟩ := f23_inv h
 have hb2 := hb
 simp only [f23B, T.run, Option.some.injEq] at hb2; subst hb2
 refine ⟨3000, .keep, [], k23_p, (k23_eq xa xb xi xf xt xd a b).trans ?_⟩
 rw [qaV_eq]
 unfold qaF
 cases xa == a <;> cases xb == b <;> cases decide (xi > 0) <;> rfl
theorem j28 (c c' : CS) (h : (f28 c).run = some c') : ∃ m pr ros π, callC F0 m 28 0 pr ros π c = some c' := by
 obtain ⟨xa, xb, xi, xf, xt, xd, a, b, rfl, hb⟩ := f28_inv h
 have hb2 := hb
 simp only [f28B, T.run, Option.some.injEq] at hb2; subst hb2
 refine ⟨3000, .keep, [], k28_p, (k28_eq xa xb xi xf xt xd a b).trans ?_⟩
 rw [qdV_eq]
 unfold qdF
 cases xa == a <;> cases xb == b <;> cases decide (xi > 0) <;> rfl
theorem j25 (c c' : CS) (h : (f25 c).run = some c') : ∃ m pr ros π, callC F0 m 25 0 pr ros π c = some c' := by
 obtain ⟨xa, xb, xi, xf, xt, xd, s, rfl, hb⟩ := f25_inv h
 have hb2 := hb
 simp only [f25B, T.run, Option.some.injEq] at hb2; subst hb2
 refine ⟨3000, .keep, [], k25_p, (k25_eq xa xb xi xf xt xd s).trans ?_⟩
 rw [qbV_eq]
 unfold qbF
 cases xi == 0 <;> rfl
theorem wrap_pos (x : Int) : 0 ≤ IntKind.wrap .u64 x := by
 have h : IntKind.wrap .u64 x = x % 18446744073709551616 := rfl
 rw [h]; exact Int.emod_nonneg _ (by decide)
theorem j30 (c c' : CS) (h : (f30 c).run = some c') : ∃ m pr ros π, callC F0 m 30 0 pr ros π c = some c' := by
 obtain ⟨xa, xb, xi, xf, xt, xd, lo, bi, rfl, hb⟩ := f30_inv h
 have hb2 := hb
 simp only [f30B, T.run, Option.some.injEq] at hb2; subst hb2
 refine ⟨3000, .keep, [], k30_p, (k30_eq xa xb xi xf xt xd lo bi).trans ?_⟩
 rw [qcV_eq]
 unfold qcF hasF
 have hbits : Env.bits F0 = bitsR := qA.env.bits
 rw [hbits, decide_eq_false (show ¬ IntKind.wrap .u64 (IntKind.wrap .u64 (xi - lo) - 1) < 0 from by have := wrap_pos (IntKind.wrap .u64 (xi - lo) - 1); omega)]
 cases decide (xi > 0) <;> cases decide (xi ≤ lo) <;> cases decide (IntKind.wrap .u64 (xi - lo) ≤ 64) <;> rfl
theorem qF1 : Bm.Good Try.prog F1 := (((qA.addR qA (by kernel_rfl) j23).addR qA (by kernel_rfl) j28).addR qA (by kernel_rfl) j25).addR qA (by kernel_rfl) j30
end Go.Proofs.Ytgflmdjlpjjnaaa.desk
end
section
set_option linter.unusedSimpArgs false
set_option linter.unusedVariables false
set_option maxRecDepth 20000
namespace Go.Proofs.Ytgflmdjlpjjnaaa.desk
open Go Go.RowKit Go.Proofs.Ytgflmdjlpjjnaaa.Bm
theorem grow40 {n : Nat} (h : n ≤ 2000000) : growB 40 n = true := by
 unfold growB
 rw [ble_t (show n ≤ 281474976710656 by omega), ble_t (show n * 40 ≤ 17179869184 by omega)]; rfl
theorem lt1 {i n : Nat} (h : i < n) : decide ((i : Int) < (n : Int)) = true := decide_eq_true (by omega)
theorem lt0 (n : Nat) : decide ((n : Int) < (n : Int)) = false := decide_eq_false (by omega)
theorem rdW_len (f : Nat → Nat → AV) (n : Nat) : (rdW f n).length = n := by simp [rdW]
theorem rdW_at {f : Nat → Nat → AV} {n i : Nat} (h : i < n) : (rdW f n).getD i nilW = wtAt f i := by
 simp [rdW, List.getD_eq_getElem?_getD, h]
theorem rdW_succ (f : Nat → Nat → AV) (n : Nat) : rdW f (n + 1) = rdW f n ++ [wtAt f n] := by simp [rdW, List.range_succ]
theorem wtAt_fin (L : List Wt) (i : Nat) : wtAt (finW L) i = L.getD i nilW := by
 cases h : L.getD i nilW
 simp only [wtAt, finW, h, Wt.cell, AV.toI]
theorem rdW_fin (L : List Wt) : rdW (finW L) L.length = L := by
 refine List.ext_getElem (rdW_len _ _) fun i h1 h2 => ?_
 simp [rdW, wtAt_fin, List.getD_eq_getElem?_getD, h2]
def IsW (f : Nat → Nat → AV) (L : List Wt) : Prop := ∀ i, i < L.length → wtAt f i = L.getD i nilW
theorem isW_fin (L : List Wt) : IsW (finW L) L := fun i _ => wtAt_fin L i
theorem isW_zero {f : Nat → Nat → AV} {L : List Wt} (h : IsW f L) : IsW (fun p q => f (0 + p) q) L := fun i hi => by
 show wtAt (fun p q => f (0 + p) q) i = _
 rw [← h i hi]
 simp only [wtAt, Nat.zero_add]
theorem isW_join {f g : Nat → Nat → AV} {L M : List Wt} {n : Nat} (hn : n = L.length) (hf : IsW f L) (hg : IsW g M) : IsW (fjoin f n g) (L ++ M) := by
 subst hn
 intro i hi
 by_cases h : i < L.length
 ·have e : wtAt (fjoin f L.length g) i = wtAt f i := by
   simp only [wtAt, fjoin, blt_t h, cond_true]
  rw [e, hf i h, List.getD_eq_getElem?_getD, List.getD_eq_getElem?_getD, List.getElem?_append_left h]
 ·rw [List.length_append] at hi
  have e : wtAt (fjoin f L.length g) i = wtAt g (i - L.length) := by
   simp only [wtAt, fjoin, blt_f h, cond_false]
  rw [e, hg (i - L.length) (by omega), List.getD_eq_getElem?_getD, List.getD_eq_getElem?_getD, List.getElem?_append_right (by omega)]
theorem isW_one (x : Wt) : IsW (rowsOf 6 [.int .u64 x.cl, .int .u64 x.rq, .int .u64 x.ix, .int .u32 x.fr, .int .u32 x.ct, .int .u64 x.rd] 1) [x] := fun i hi => by
 simp at hi; subst hi; rfl
theorem SeenO.wt {f : Nat → Nat → AV} {n : Nat} {L : List Wt} {b : Bool} (hn : n = L.length) (h : IsW f L) : SeenO (.tarr shW n f b) (.tarr shW L.length (finW L) b) := by
 subst hn
 refine SeenO.arr fun i hi j s hs => ?_
 have e := h i hi
 have h0 : (f i 0).toI = (L.getD i nilW).cl := congrArg Wt.cl e
 have h1 : (f i 1).toI = (L.getD i nilW).rq := congrArg Wt.rq e
 have h2 : (f i 2).toI = (L.getD i nilW).ix := congrArg Wt.ix e
 have h3 : (f i 3).toI = (L.getD i nilW).fr := congrArg Wt.fr e
 have h4 : (f i 4).toI = (L.getD i nilW).ct := congrArg Wt.ct e
 have h5 : (f i 5).toI = (L.getD i nilW).rd := congrArg Wt.rd e
 match j, hs with
 | 0, hs => simp at hs; subst hs; show AV.int .u64 (f i 0).toI = _; rw [h0]; rfl
 | 1, hs => simp at hs; subst hs; show AV.int .u64 (f i 1).toI = _; rw [h1]; rfl
 | 2, hs => simp at hs; subst hs; show AV.int .u64 (f i 2).toI = _; rw [h2]; rfl
 | 3, hs => simp at hs; subst hs; show AV.int .u32 (f i 3).toI = _; rw [h3]; rfl
 | 4, hs => simp at hs; subst hs; show AV.int .u32 (f i 4).toI = _; rw [h4]; rfl
 | 5, hs => simp at hs; subst hs; show AV.int .u64 (f i 5).toI = _; rw [h5]; rfl
 | j + 6, hs => simp at hs
def outN (q : Wt → Bool) (f : Nat → Nat → AV) (i : Nat) : List Wt := (rdW f i).filter q
theorem outN_t {q : Wt → Bool} {f : Nat → Nat → AV} {i : Nat} (h : q (wtAt f i) = true) : outN q f (i + 1) = outN q f i ++ [wtAt f i] := by
 simp [outN, rdW_succ, h]
theorem outN_f {q : Wt → Bool} {f : Nat → Nat → AV} {i : Nat} (h : q (wtAt f i) = false) : outN q f (i + 1) = outN q f i := by
 simp [outN, rdW_succ, h]
theorem outN_le (q : Wt → Bool) (f : Nat → Nat → AV) (i : Nat) : (outN q f i).length ≤ i := by
 have := List.length_filter_le q (rdW f i)
 rw [rdW_len] at this
 exact this
end Go.Proofs.Ytgflmdjlpjjnaaa.desk
end
section
set_option linter.unusedSimpArgs false
set_option linter.unusedVariables false
set_option maxRecDepth 20000
namespace Go.Proofs.Ytgflmdjlpjjnaaa.desk
open Go Go.RowKit Go.Proofs.Ytgflmdjlpjjnaaa.Bm
theorem ix_ (i : Nat) : 0 + Int.toNat (i : Int) = i := by rw [Int.toNat_natCast, Nat.zero_add]
def pi22 (c : CS) : Plan := match c.ts with
 | [.func (.func 23) _ _, .nilSlice, .nilSlice, _, _, _] => s22a00_p
 | [.func (.func 23) _ _, _, .nilSlice, _, _, _] => s22a10_p
 | [.func (.func 23) _ _, .nilSlice, _, _, _, _] => s22a01_p
 | [.func (.func 23) _ _, _, _, _, _, _] => s22a11_p
 | [.func (.func 25) _ _, .nilSlice, .nilSlice, _, _, _] => s22b00_p
 | [.func (.func 25) _ _, _, .nilSlice, _, _, _] => s22b10_p
 | [.func (.func 25) _ _, .nilSlice, _, _, _, _] => s22b01_p
 | [.func (.func 25) _ _, _, _, _, _, _] => s22b11_p
 | [.func (.func 30) _ _, .nilSlice, .nilSlice, _, _, _] => s22c00_p
 | [.func (.func 30) _ _, _, .nilSlice, _, _, _] => s22c10_p
 | [.func (.func 30) _ _, .nilSlice, _, _, _, _] => s22c01_p
 | [.func (.func 30) _ _, _, _, _, _, _] => s22c11_p
 | _ => .stop
def st22a (a b : Int) (wl : Bool) (n : Nat) (f : Nat → Nat → AV) (O R : List Wt) (i : Nat) : CS := match O, R with
 | [], [] => c22a00 a b wl n f i
 | x :: l, [] => c22a10 a b (x :: l).length (finW (x :: l)) wl n f i
 | [], y :: r => c22a01 a b (y :: r).length (finW (y :: r)) wl n f i
 | x :: l, y :: r => c22a11 a b (x :: l).length (finW (x :: l)) (y :: r).length (finW (y :: r)) wl n f i
theorem st22a_10 {a b : Int} {wl : Bool} {n : Nat} {f : Nat → Nat → AV} {O : List Wt} {i : Nat} (h : O ≠ []) : st22a a b wl n f O [] i = c22a10 a b O.length (finW O) wl n f i := by
 cases O with
 | nil => exact absurd rfl h
 | cons x l => rfl
theorem st22a_01 {a b : Int} {wl : Bool} {n : Nat} {f : Nat → Nat → AV} {R : List Wt} {i : Nat} (h : R ≠ []) : st22a a b wl n f [] R i = c22a01 a b R.length (finW R) wl n f i := by
 cases R with
 | nil => exact absurd rfl h
 | cons x l => rfl
theorem st22a_11 {a b : Int} {wl : Bool} {n : Nat} {f : Nat → Nat → AV} {O R : List Wt} {i : Nat} (h : O ≠ []) (h' : R ≠ []) : st22a a b wl n f O R i = c22a11 a b O.length (finW O) R.length (finW R) wl n f i := by
 cases O with
 | nil => exact absurd rfl h
 | cons x l =>
   cases R with
   | nil => exact absurd rfl h'
   | cons y r => rfl
theorem seen22a10 {a b : Int} {wl : Bool} {n : Nat} {f : Nat → Nat → AV} {O : List Wt} {i m : Nat} {g X : Nat → Nat → AV} {w : Int} (hO : O ≠ []) (hm : m = O.length) (hg : IsW g O) (hw : w = (i : Nat)) : Seen ⟨[.func (.func 23) [] [.ptr 0 0, .ptr 1 0], .osl false 2 0 m m 6 true, .osl true 3 0 0 0 6 true, .osl wl 4 0 n n 6 true, .int .i64 (n : Nat), .int .i64 w], [some (.cells [.int .u64 a] false), some (.cells [.int .u64 b] false), some (.tarr shW m g true), some (.tarr shW 0 X true), some (.tarr shW n f false)]⟩ (st22a a b wl n f O [] i) := by
 subst hm; subst hw
 rw [st22a_10 hO]
 exact Seen.mk' (.cons (SeenV.refl _) (.cons (SeenV.refl _) (.cons SeenV.nil (SeenVs.refl _)))) (.cons (SeenO.refl _) (.cons (SeenO.refl _) (.cons (SeenO.wt rfl hg) (.skip (SeenOs.refl _)))))
theorem seen22a01 {a b : Int} {wl : Bool} {n : Nat} {f : Nat → Nat → AV} {R : List Wt} {i p : Nat} {e X : Nat → Nat → AV} {w : Int} (hR : R ≠ []) (hp : p = R.length) (he : IsW e R) (hw : w = (i : Nat)) : Seen ⟨[.func (.func 23) [] [.ptr 0 0, .ptr 1 0], .osl true 2 0 0 0 6 true, .osl false 3 0 p p 6 true, .osl wl 4 0 n n 6 true, .int .i64 (n : Nat), .int .i64 w], [some (.cells [.int .u64 a] false), some (.cells [.int .u64 b] false), some (.tarr shW 0 X true), some (.tarr shW p e true), some (.tarr shW n f false)]⟩ (st22a a b wl n f [] R i) := by
 subst hp; subst hw
 rw [st22a_01 hR]
 exact Seen.mk' (.cons (SeenV.refl _) (.cons SeenV.nil (SeenVs.refl _))) (.cons (SeenO.refl _) (.cons (SeenO.refl _) (.skip (.cons (SeenO.wt rfl he) (SeenOs.refl _)))))
theorem seen22a11 {a b : Int} {wl : Bool} {n : Nat} {f : Nat → Nat → AV} {O R : List Wt} {i m p : Nat} {g e : Nat → Nat → AV} {w : Int} (hO : O ≠ []) (hR : R ≠ []) (hm : m = O.length) (hg : IsW g O) (hp : p = R.length) (he : IsW e R) (hw : w = (i : Nat)) : Seen ⟨[.func (.func 23) [] [.ptr 0 0, .ptr 1 0], .osl false 2 0 m m 6 true, .osl false 3 0 p p 6 true, .osl wl 4 0 n n 6 true, .int .i64 (n : Nat), .int .i64 w], [some (.cells [.int .u64 a] false), some (.cells [.int .u64 b] false), some (.tarr shW m g true), some (.tarr shW p e true), some (.tarr shW n f false)]⟩ (st22a a b wl n f O R i) := by
 subst hm; subst hp; subst hw
 rw [st22a_11 hO hR]
 exact Seen.mk' (SeenVs.refl _) (.cons (SeenO.refl _) (.cons (SeenO.refl _) (.cons (SeenO.wt rfl hg) (.cons (SeenO.wt rfl he) (SeenOs.refl _)))))
theorem i22a_step (a b : Int) (wl : Bool) (n : Nat) (f : Nat → Nat → AV) (O R : List Wt) (i : Nat) (hn : n ≤ 1000) (hO : O.length ≤ 2000) (hR : R.length ≤ 2000) (hi : i < n) :
  ∃ c1, stepC F1 300 (loopC F1 22 0) 0 h22 ((.normal, h22) :: x22) (pi22 (st22a a b wl n f O R i)) (st22a a b wl n f O R i) = some (0, c1) ∧
   Seen c1 (st22a a b wl n f (cond (qaV a b (wtAt f i)) (O ++ [wtAt f i]) O) (cond (qaV a b (wtAt f i)) R (R ++ [wtAt f i])) (i + 1)) := by
 have hw := wrap_i64s (i := i) (by omega)
 have nrO : Nat.ble (O.length + 1) O.length = false := ble_f (by omega)
 have grO : growB 40 (O.length + 1) = true := grow40 (by omega)
 have okO : Nat.ble (0 + O.length) O.length = true := ble_t (by omega)
 have nrR : Nat.ble (R.length + 1) R.length = false := ble_f (by omega)
 have grR : growB 40 (R.length + 1) = true := grow40 (by omega)
 have okR : Nat.ble (0 + R.length) R.length = true := ble_t (by omega)
 have hx : qaV a b { cl := (f i 0).toI, rq := (f i 1).toI, ix := (f i 2).toI, fr := (f i 3).toI, ct := (f i 4).toI, rd := (f i 5).toI } = qaV a b (wtAt f i) := rfl
 by_cases hO0 : O = []
 ·subst hO0
  by_cases hR0 : R = []
  ·subst hR0
   have e := s22a00_eq a b wl n f i
   simp only [lt1 hi, ix_, blt_t hi, cond_true] at e
   rw [hx] at e
   cases hb : qaV a b (wtAt f i) with
   | true => rw [hb] at e; exact ⟨_, e, seen22a10 (by simp) rfl (isW_one _) hw⟩
   | false => rw [hb] at e; exact ⟨_, e, seen22a01 (by simp) rfl (isW_one _) hw⟩
  ·rw [st22a_01 hR0]
   have e := s22a01_eq a b R.length (finW R) wl n f i
   simp only [lt1 hi, ix_, blt_t hi, nrR, grR, okR, cond_true, cond_false] at e
   rw [hx] at e
   cases hb : qaV a b (wtAt f i) with
   | true => rw [hb] at e; exact ⟨_, e, seen22a11 (by simp) hR0 rfl (isW_one _) rfl (isW_fin _) hw⟩
   | false => rw [hb] at e; exact ⟨_, e, seen22a01 (by simp) (by simp) (isW_join rfl (isW_zero (isW_fin R)) (isW_one _)) hw⟩
 ·by_cases hR0 : R = []
  ·subst hR0
   rw [st22a_10 hO0]
   have e := s22a10_eq a b O.length (finW O) wl n f i
   simp only [lt1 hi, ix_, blt_t hi, nrO, grO, okO, cond_true, cond_false] at e
   rw [hx] at e
   cases hb : qaV a b (wtAt f i) with
   | true => rw [hb] at e; exact ⟨_, e, seen22a10 (by simp) (by simp) (isW_join rfl (isW_zero (isW_fin O)) (isW_one _)) hw⟩
   | false => rw [hb] at e; exact ⟨_, e, seen22a11 hO0 (by simp) rfl (isW_fin _) rfl (isW_one _) hw⟩
  ·rw [st22a_11 hO0 hR0]
   have e := s22a11_eq a b O.length (finW O) R.length (finW R) wl n f i
   simp only [lt1 hi, ix_, blt_t hi, nrO, grO, okO, nrR, grR, okR, cond_true, cond_false] at e
   rw [hx] at e
   cases hb : qaV a b (wtAt f i) with
   | true => rw [hb] at e; exact ⟨_, e, seen22a11 (by simp) hR0 (by simp) (isW_join rfl (isW_zero (isW_fin O)) (isW_one _)) rfl (isW_fin _) hw⟩
   | false => rw [hb] at e; exact ⟨_, e, seen22a11 hO0 (by simp) rfl (isW_fin _) (by simp) (isW_join rfl (isW_zero (isW_fin R)) (isW_one _)) hw⟩
def st22b (s : Int) (wl : Bool) (n : Nat) (f : Nat → Nat → AV) (O R : List Wt) (i : Nat) : CS := match O, R with
 | [], [] => c22b00 s wl n f i
 | x :: l, [] => c22b10 s (x :: l).length (finW (x :: l)) wl n f i
 | [], y :: r => c22b01 s (y :: r).length (finW (y :: r)) wl n f i
 | x :: l, y :: r => c22b11 s (x :: l).length (finW (x :: l)) (y :: r).length (finW (y :: r)) wl n f i
theorem st22b_10 {s : Int} {wl : Bool} {n : Nat} {f : Nat → Nat → AV} {O : List Wt} {i : Nat} (h : O ≠ []) : st22b s wl n f O [] i = c22b10 s O.length (finW O) wl n f i := by
 cases O with
 | nil => exact absurd rfl h
 | cons x l => rfl
theorem st22b_01 {s : Int} {wl : Bool} {n : Nat} {f : Nat → Nat → AV} {R : List Wt} {i : Nat} (h : R ≠ []) : st22b s wl n f [] R i = c22b01 s R.length (finW R) wl n f i := by
 cases R with
 | nil => exact absurd rfl h
 | cons x l => rfl
theorem st22b_11 {s : Int} {wl : Bool} {n : Nat} {f : Nat → Nat → AV} {O R : List Wt} {i : Nat} (h : O ≠ []) (h' : R ≠ []) : st22b s wl n f O R i = c22b11 s O.length (finW O) R.length (finW R) wl n f i := by
 cases O with
 | nil => exact absurd rfl h
 | cons x l =>
   cases R with
   | nil => exact absurd rfl h'
   | cons y r => rfl
theorem seen22b10 {s : Int} {wl : Bool} {n : Nat} {f : Nat → Nat → AV} {O : List Wt} {i m : Nat} {g X : Nat → Nat → AV} {w : Int} (hO : O ≠ []) (hm : m = O.length) (hg : IsW g O) (hw : w = (i : Nat)) : Seen ⟨[.func (.func 25) [] [.ptr 0 0], .osl false 1 0 m m 6 true, .osl true 2 0 0 0 6 true, .osl wl 3 0 n n 6 true, .int .i64 (n : Nat), .int .i64 w], [some (.cells [.int .u64 s] false), some (.tarr shW m g true), some (.tarr shW 0 X true), some (.tarr shW n f false)]⟩ (st22b s wl n f O [] i) := by
 subst hm; subst hw
 rw [st22b_10 hO]
 exact Seen.mk' (.cons (SeenV.refl _) (.cons (SeenV.refl _) (.cons SeenV.nil (SeenVs.refl _)))) (.cons (SeenO.refl _) (.cons (SeenO.wt rfl hg) (.skip (SeenOs.refl _))))
theorem seen22b01 {s : Int} {wl : Bool} {n : Nat} {f : Nat → Nat → AV} {R : List Wt} {i p : Nat} {e X : Nat → Nat → AV} {w : Int} (hR : R ≠ []) (hp : p = R.length) (he : IsW e R) (hw : w = (i : Nat)) : Seen ⟨[.func (.func 25) [] [.ptr 0 0], .osl true 1 0 0 0 6 true, .osl false 2 0 p p 6 true, .osl wl 3 0 n n 6 true, .int .i64 (n : Nat), .int .i64 w], [some (.cells [.int .u64 s] false), some (.tarr shW 0 X true), some (.tarr shW p e true), some (.tarr shW n f false)]⟩ (st22b s wl n f [] R i) := by
 subst hp; subst hw
 rw [st22b_01 hR]
 exact Seen.mk' (.cons (SeenV.refl _) (.cons SeenV.nil (SeenVs.refl _))) (.cons (SeenO.refl _) (.skip (.cons (SeenO.wt rfl he) (SeenOs.refl _))))
theorem seen22b11 {s : Int} {wl : Bool} {n : Nat} {f : Nat → Nat → AV} {O R : List Wt} {i m p : Nat} {g e : Nat → Nat → AV} {w : Int} (hO : O ≠ []) (hR : R ≠ []) (hm : m = O.length) (hg : IsW g O) (hp : p = R.length) (he : IsW e R) (hw : w = (i : Nat)) : Seen ⟨[.func (.func 25) [] [.ptr 0 0], .osl false 1 0 m m 6 true, .osl false 2 0 p p 6 true, .osl wl 3 0 n n 6 true, .int .i64 (n : Nat), .int .i64 w], [some (.cells [.int .u64 s] false), some (.tarr shW m g true), some (.tarr shW p e true), some (.tarr shW n f false)]⟩ (st22b s wl n f O R i) := by
 subst hm; subst hp; subst hw
 rw [st22b_11 hO hR]
 exact Seen.mk' (SeenVs.refl _) (.cons (SeenO.refl _) (.cons (SeenO.wt rfl hg) (.cons (SeenO.wt rfl he) (SeenOs.refl _))))
theorem i22b_step (s : Int) (wl : Bool) (n : Nat) (f : Nat → Nat → AV) (O R : List Wt) (i : Nat) (hn : n ≤ 1000) (hO : O.length ≤ 2000) (hR : R.length ≤ 2000) (hi : i < n) :
  ∃ c1, stepC F1 300 (loopC F1 22 0) 0 h22 ((.normal, h22) :: x22) (pi22 (st22b s wl n f O R i)) (st22b s wl n f O R i) = some (0, c1) ∧
   Seen c1 (st22b s wl n f (cond (qbV s (wtAt f i)) (O ++ [wtAt f i]) O) (cond (qbV s (wtAt f i)) R (R ++ [wtAt f i])) (i + 1)) := by
 have hw := wrap_i64s (i := i) (by omega)
 have nrO : Nat.ble (O.length + 1) O.length = false := ble_f (by omega)
 have grO : growB 40 (O.length + 1) = true := grow40 (by omega)
 have okO : Nat.ble (0 + O.length) O.length = true := ble_t (by omega)
 have nrR : Nat.ble (R.length + 1) R.length = false := ble_f (by omega)
 have grR : growB 40 (R.length + 1) = true := grow40 (by omega)
 have okR : Nat.ble (0 + R.length) R.length = true := ble_t (by omega)
 have hx : qbV s { cl := (f i 0).toI, rq := (f i 1).toI, ix := (f i 2).toI, fr := (f i 3).toI, ct := (f i 4).toI, rd := (f i 5).toI } = qbV s (wtAt f i) := rfl
 by_cases hO0 : O = []
 ·subst hO0
  by_cases hR0 : R = []
  ·subst hR0
   have e := s22b00_eq s wl n f i
   simp only [lt1 hi, ix_, blt_t hi, cond_true] at e
   rw [hx] at e
   cases hb : qbV s (wtAt f i) with
   | true => rw [hb] at e; exact ⟨_, e, seen22b10 (by simp) rfl (isW_one _) hw⟩
   | false => rw [hb] at e; exact ⟨_, e, seen22b01 (by simp) rfl (isW_one _) hw⟩
  ·rw [st22b_01 hR0]
   have e := s22b01_eq s R.length (finW R) wl n f i
   simp only [lt1 hi, ix_, blt_t hi, nrR, grR, okR, cond_true, cond_false] at e
   rw [hx] at e
   cases hb : qbV s (wtAt f i) with
   | true => rw [hb] at e; exact ⟨_, e, seen22b11 (by simp) hR0 rfl (isW_one _) rfl (isW_fin _) hw⟩
   | false => rw [hb] at e; exact ⟨_, e, seen22b01 (by simp) (by simp) (isW_join rfl (isW_zero (isW_fin R)) (isW_one _)) hw⟩
 ·by_cases hR0 : R = []
  ·subst hR0
   rw [st22b_10 hO0]
   have e := s22b10_eq s O.length (finW O) wl n f i
   simp only [lt1 hi, ix_, blt_t hi, nrO, grO, okO, cond_true, cond_false] at e
   rw [hx] at e
   cases hb : qbV s (wtAt f i) with
   | true => rw [hb] at e; exact ⟨_, e, seen22b10 (by simp) (by simp) (isW_join rfl (isW_zero (isW_fin O)) (isW_one _)) hw⟩
   | false => rw [hb] at e; exact ⟨_, e, seen22b11 hO0 (by simp) rfl (isW_fin _) rfl (isW_one _) hw⟩
  ·rw [st22b_11 hO0 hR0]
   have e := s22b11_eq s O.length (finW O) R.length (finW R) wl n f i
   simp only [lt1 hi, ix_, blt_t hi, nrO, grO, okO, nrR, grR, okR, cond_true, cond_false] at e
   rw [hx] at e
   cases hb : qbV s (wtAt f i) with
   | true => rw [hb] at e; exact ⟨_, e, seen22b11 (by simp) hR0 (by simp) (isW_join rfl (isW_zero (isW_fin O)) (isW_one _)) rfl (isW_fin _) hw⟩
   | false => rw [hb] at e; exact ⟨_, e, seen22b11 hO0 (by simp) rfl (isW_fin _) (by simp) (isW_join rfl (isW_zero (isW_fin R)) (isW_one _)) hw⟩
def st22c (lo bi : Int) (wl : Bool) (n : Nat) (f : Nat → Nat → AV) (O R : List Wt) (i : Nat) : CS := match O, R with
 | [], [] => c22c00 lo bi wl n f i
 | x :: l, [] => c22c10 lo bi (x :: l).length (finW (x :: l)) wl n f i
 | [], y :: r => c22c01 lo bi (y :: r).length (finW (y :: r)) wl n f i
 | x :: l, y :: r => c22c11 lo bi (x :: l).length (finW (x :: l)) (y :: r).length (finW (y :: r)) wl n f i
theorem st22c_10 {lo bi : Int} {wl : Bool} {n : Nat} {f : Nat → Nat → AV} {O : List Wt} {i : Nat} (h : O ≠ []) : st22c lo bi wl n f O [] i = c22c10 lo bi O.length (finW O) wl n f i := by
 cases O with
 | nil => exact absurd rfl h
 | cons x l => rfl
theorem st22c_01 {lo bi : Int} {wl : Bool} {n : Nat} {f : Nat → Nat → AV} {R : List Wt} {i : Nat} (h : R ≠ []) : st22c lo bi wl n f [] R i = c22c01 lo bi R.length (finW R) wl n f i := by
 cases R with
 | nil => exact absurd rfl h
 | cons x l => rfl
theorem st22c_11 {lo bi : Int} {wl : Bool} {n : Nat} {f : Nat → Nat → AV} {O R : List Wt} {i : Nat} (h : O ≠ []) (h' : R ≠ []) : st22c lo bi wl n f O R i = c22c11 lo bi O.length (finW O) R.length (finW R) wl n f i := by
 cases O with
 | nil => exact absurd rfl h
 | cons x l =>
   cases R with
   | nil => exact absurd rfl h'
   | cons y r => rfl
theorem seen22c10 {lo bi : Int} {wl : Bool} {n : Nat} {f : Nat → Nat → AV} {O : List Wt} {i m : Nat} {g X : Nat → Nat → AV} {w : Int} (hO : O ≠ []) (hm : m = O.length) (hg : IsW g O) (hw : w = (i : Nat)) : Seen ⟨[.func (.func 30) [] [.ptr 0 0], .osl false 1 0 m m 6 true, .osl true 2 0 0 0 6 true, .osl wl 3 0 n n 6 true, .int .i64 (n : Nat), .int .i64 w], [some (.cells [.int .u64 lo, .int .u64 bi] false), some (.tarr shW m g true), some (.tarr shW 0 X true), some (.tarr shW n f false)]⟩ (st22c lo bi wl n f O [] i) := by
 subst hm; subst hw
 rw [st22c_10 hO]
 exact Seen.mk' (.cons (SeenV.refl _) (.cons (SeenV.refl _) (.cons SeenV.nil (SeenVs.refl _)))) (.cons (SeenO.refl _) (.cons (SeenO.wt rfl hg) (.skip (SeenOs.refl _))))
theorem seen22c01 {lo bi : Int} {wl : Bool} {n : Nat} {f : Nat → Nat → AV} {R : List Wt} {i p : Nat} {e X : Nat → Nat → AV} {w : Int} (hR : R ≠ []) (hp : p = R.length) (he : IsW e R) (hw : w = (i : Nat)) : Seen ⟨[.func (.func 30) [] [.ptr 0 0], .osl true 1 0 0 0 6 true, .osl false 2 0 p p 6 true, .osl wl 3 0 n n 6 true, .int .i64 (n : Nat), .int .i64 w], [some (.cells [.int .u64 lo, .int .u64 bi] false), some (.tarr shW 0 X true), some (.tarr shW p e true), some (.tarr shW n f false)]⟩ (st22c lo bi wl n f [] R i) := by
 subst hp; subst hw
 rw [st22c_01 hR]
 exact Seen.mk' (.cons (SeenV.refl _) (.cons SeenV.nil (SeenVs.refl _))) (.cons (SeenO.refl _) (.skip (.cons (SeenO.wt rfl he) (SeenOs.refl _))))
theorem seen22c11 {lo bi : Int} {wl : Bool} {n : Nat} {f : Nat → Nat → AV} {O R : List Wt} {i m p : Nat} {g e : Nat → Nat → AV} {w : Int} (hO : O ≠ []) (hR : R ≠ []) (hm : m = O.length) (hg : IsW g O) (hp : p = R.length) (he : IsW e R) (hw : w = (i : Nat)) : Seen ⟨[.func (.func 30) [] [.ptr 0 0], .osl false 1 0 m m 6 true, .osl false 2 0 p p 6 true, .osl wl 3 0 n n 6 true, .int .i64 (n : Nat), .int .i64 w], [some (.cells [.int .u64 lo, .int .u64 bi] false), some (.tarr shW m g true), some (.tarr shW p e true), some (.tarr shW n f false)]⟩ (st22c lo bi wl n f O R i) := by
 subst hm; subst hp; subst hw
 rw [st22c_11 hO hR]
 exact Seen.mk' (SeenVs.refl _) (.cons (SeenO.refl _) (.cons (SeenO.wt rfl hg) (.cons (SeenO.wt rfl he) (SeenOs.refl _))))
theorem i22c_step (lo bi : Int) (wl : Bool) (n : Nat) (f : Nat → Nat → AV) (O R : List Wt) (i : Nat) (hn : n ≤ 1000) (hO : O.length ≤ 2000) (hR : R.length ≤ 2000) (hi : i < n) :
  ∃ c1, stepC F1 300 (loopC F1 22 0) 0 h22 ((.normal, h22) :: x22) (pi22 (st22c lo bi wl n f O R i)) (st22c lo bi wl n f O R i) = some (0, c1) ∧
   Seen c1 (st22c lo bi wl n f (cond (qcV lo bi (wtAt f i)) (O ++ [wtAt f i]) O) (cond (qcV lo bi (wtAt f i)) R (R ++ [wtAt f i])) (i + 1)) := by
 have hw := wrap_i64s (i := i) (by omega)
 have nrO : Nat.ble (O.length + 1) O.length = false := ble_f (by omega)
 have grO : growB 40 (O.length + 1) = true := grow40 (by omega)
 have okO : Nat.ble (0 + O.length) O.length = true := ble_t (by omega)
 have nrR : Nat.ble (R.length + 1) R.length = false := ble_f (by omega)
 have grR : growB 40 (R.length + 1) = true := grow40 (by omega)
 have okR : Nat.ble (0 + R.length) R.length = true := ble_t (by omega)
 have hx : qcV lo bi { cl := (f i 0).toI, rq := (f i 1).toI, ix := (f i 2).toI, fr := (f i 3).toI, ct := (f i 4).toI, rd := (f i 5).toI } = qcV lo bi (wtAt f i) := rfl
 by_cases hO0 : O = []
 ·subst hO0
  by_cases hR0 : R = []
  ·subst hR0
   have e := s22c00_eq lo bi wl n f i
   simp only [lt1 hi, ix_, blt_t hi, cond_true] at e
   rw [hx] at e
   cases hb : qcV lo bi (wtAt f i) with
   | true => rw [hb] at e; exact ⟨_, e, seen22c10 (by simp) rfl (isW_one _) hw⟩
   | false => rw [hb] at e; exact ⟨_, e, seen22c01 (by simp) rfl (isW_one _) hw⟩
  ·rw [st22c_01 hR0]
   have e := s22c01_eq lo bi R.length (finW R) wl n f i
   simp only [lt1 hi, ix_, blt_t hi, nrR, grR, okR, cond_true, cond_false] at e
   rw [hx] at e
   cases hb : qcV lo bi (wtAt f i) with
   | true => rw [hb] at e; exact ⟨_, e, seen22c11 (by simp) hR0 rfl (isW_one _) rfl (isW_fin _) hw⟩
   | false => rw [hb] at e; exact ⟨_, e, seen22c01 (by simp) (by simp) (isW_join rfl (isW_zero (isW_fin R)) (isW_one _)) hw⟩
 ·by_cases hR0 : R = []
  ·subst hR0
   rw [st22c_10 hO0]
   have e := s22c10_eq lo bi O.length (finW O) wl n f i
   simp only [lt1 hi, ix_, blt_t hi, nrO, grO, okO, cond_true, cond_false] at e
   rw [hx] at e
   cases hb : qcV lo bi (wtAt f i) with
   | true => rw [hb] at e; exact ⟨_, e, seen22c10 (by simp) (by simp) (isW_join rfl (isW_zero (isW_fin O)) (isW_one _)) hw⟩
   | false => rw [hb] at e; exact ⟨_, e, seen22c11 hO0 (by simp) rfl (isW_fin _) rfl (isW_one _) hw⟩
  ·rw [st22c_11 hO0 hR0]
   have e := s22c11_eq lo bi O.length (finW O) R.length (finW R) wl n f i
   simp only [lt1 hi, ix_, blt_t hi, nrO, grO, okO, nrR, grR, okR, cond_true, cond_false] at e
   rw [hx] at e
   cases hb : qcV lo bi (wtAt f i) with
   | true => rw [hb] at e; exact ⟨_, e, seen22c11 (by simp) hR0 (by simp) (isW_join rfl (isW_zero (isW_fin O)) (isW_one _)) rfl (isW_fin _) hw⟩
   | false => rw [hb] at e; exact ⟨_, e, seen22c11 hO0 (by simp) rfl (isW_fin _) (by simp) (isW_join rfl (isW_zero (isW_fin R)) (isW_one _)) hw⟩
end Go.Proofs.Ytgflmdjlpjjnaaa.desk
end
section
set_option linter.unusedSimpArgs false
set_option linter.unusedVariables false
set_option maxRecDepth 20000
namespace Go.Proofs.Ytgflmdjlpjjnaaa.desk
open Go Go.RowKit Go.Proofs.Ytgflmdjlpjjnaaa.Bm
def outX (q : Wt → Bool) (f : Nat → Nat → AV) (n : Nat) : List Wt := (rdW f n).filter q
theorem outVE : ∃ q : (Wt → Bool) → (Nat → Nat → AV) → Nat → List Wt, q = outX := ⟨_, rfl⟩
noncomputable def outV : (Wt → Bool) → (Nat → Nat → AV) → Nat → List Wt := Classical.choose outVE
theorem outV_eq : outV = outX := Classical.choose_spec outVE
def e22a (a : Int) (b : Int) (ol : Bool) (m : Nat) (g : Nat → Nat → AV) (pl : Bool) (p : Nat) (e : Nat → Nat → AV) (wl : Bool) (n : Nat) (f : Nat → Nat → AV) (i : Nat) : CS :=
 ⟨[.func (.func 23) [] [.ptr 0 0, .ptr 1 0], .osl ol 2 0 m m 6 true, .osl pl 3 0 p p 6 true, .osl wl 4 0 n n 6 true, .int .i64 (n : Nat), .int .i64 (i : Nat)], [some (.cells [.int .u64 a] false), some (.cells [.int .u64 b] false), some (.tarr shW m g true), some (.tarr shW p e true), some (.tarr shW n f false)]⟩
noncomputable def r22aB  (a : Int) (b : Int) (g : Nat → Nat → AV) (e : Nat → Nat → AV) (wl : Bool) (n : Nat) (f : Nat → Nat → AV) : T (Nat × CS) :=
 chkT [Nat.ble n 1000] (.ask (Nat.beq (outV (qaV a b) f n).length 0) (.ask (Nat.beq (outV (fun x => !(qaV a b x)) f n).length 0) (.ret (1, ⟨[.osl true 0 0 0 0 6 true, .osl true 1 0 0 0 6 true], [some (.tarr shW 0 (fun _ _ => .bad) true), some (.tarr shW 0 (fun _ _ => .bad) true)]⟩)) (.ret (1, ⟨[.osl true 0 0 0 0 6 true, .osl false 1 0 (outV (fun x => !(qaV a b x)) f n).length (outV (fun x => !(qaV a b x)) f n).length 6 true], [some (.tarr shW 0 (fun _ _ => .bad) true), some (.tarr shW (outV (fun x => !(qaV a b x)) f n).length (finW (outV (fun x => !(qaV a b x)) f n)) true)]⟩))) (.ask (Nat.beq (outV (fun x => !(qaV a b x)) f n).length 0) (.ret (1, ⟨[.osl false 0 0 (outV (qaV a b) f n).length (outV (qaV a b) f n).length 6 true, .osl true 1 0 0 0 6 true], [some (.tarr shW (outV (qaV a b) f n).length (finW (outV (qaV a b) f n)) true), some (.tarr shW 0 (fun _ _ => .bad) true)]⟩)) (.ret (1, ⟨[.osl false 0 0 (outV (qaV a b) f n).length (outV (qaV a b) f n).length 6 true, .osl false 1 0 (outV (fun x => !(qaV a b x)) f n).length (outV (fun x => !(qaV a b x)) f n).length 6 true], [some (.tarr shW (outV (qaV a b) f n).length (finW (outV (qaV a b) f n)) true), some (.tarr shW (outV (fun x => !(qaV a b x)) f n).length (finW (outV (fun x => !(qaV a b x)) f n)) true)]⟩))))
noncomputable def r22a  (c : CS) : T (Nat × CS) := match c with
 | ⟨[.func (.func 23) [] [.ptr 0 0, .ptr 1 0], .osl z_1 2 0 z_2 z_3 6 true, .osl z_4 3 0 z_5 z_6 6 true, .osl wl 4 0 n z_7 6 true, .int .i64 z_8, .int .i64 z_9], [some (.cells [.int .u64 a] false), some (.cells [.int .u64 b] false), some (.tarr sh_10 z_11 g true), some (.tarr sh_12 z_13 e true), some (.tarr sh_14 z_15 f false)]⟩ => chkT [decide (true = z_1), decide (0 = z_2), decide (0 = z_3), decide (true = z_4), decide (0 = z_5), decide (0 = z_6), decide (n = z_7), decide ((n : Nat) = z_8), decide (0 = z_9), shBeq sh_10 shW, decide (0 = z_11), shBeq sh_12 shW, decide (0 = z_13), shBeq sh_14 shW, decide (n = z_15)] (r22aB  a b g e wl n f)
 | _ => .fail
def e22b (s : Int) (ol : Bool) (m : Nat) (g : Nat → Nat → AV) (pl : Bool) (p : Nat) (e : Nat → Nat → AV) (wl : Bool) (n : Nat) (f : Nat → Nat → AV) (i : Nat) : CS :=
 ⟨[.func (.func 25) [] [.ptr 0 0], .osl ol 1 0 m m 6 true, .osl pl 2 0 p p 6 true, .osl wl 3 0 n n 6 true, .int .i64 (n : Nat), .int .i64 (i : Nat)], [some (.cells [.int .u64 s] false), some (.tarr shW m g true), some (.tarr shW p e true), some (.tarr shW n f false)]⟩
noncomputable def r22bB  (s : Int) (g : Nat → Nat → AV) (e : Nat → Nat → AV) (wl : Bool) (n : Nat) (f : Nat → Nat → AV) : T (Nat × CS) :=
 chkT [Nat.ble n 1000] (.ask (Nat.beq (outV (qbV s) f n).length 0) (.ask (Nat.beq (outV (fun x => !(qbV s x)) f n).length 0) (.ret (1, ⟨[.osl true 0 0 0 0 6 true, .osl true 1 0 0 0 6 true], [some (.tarr shW 0 (fun _ _ => .bad) true), some (.tarr shW 0 (fun _ _ => .bad) true)]⟩)) (.ret (1, ⟨[.osl true 0 0 0 0 6 true, .osl false 1 0 (outV (fun x => !(qbV s x)) f n).length (outV (fun x => !(qbV s x)) f n).length 6 true], [some (.tarr shW 0 (fun _ _ => .bad) true), some (.tarr shW (outV (fun x => !(qbV s x)) f n).length (finW (outV (fun x => !(qbV s x)) f n)) true)]⟩))) (.ask (Nat.beq (outV (fun x => !(qbV s x)) f n).length 0) (.ret (1, ⟨[.osl false 0 0 (outV (qbV s) f n).length (outV (qbV s) f n).length 6 true, .osl true 1 0 0 0 6 true], [some (.tarr shW (outV (qbV s) f n).length (finW (outV (qbV s) f n)) true), some (.tarr shW 0 (fun _ _ => .bad) true)]⟩)) (.ret (1, ⟨[.osl false 0 0 (outV (qbV s) f n).length (outV (qbV s) f n).length 6 true, .osl false 1 0 (outV (fun x => !(qbV s x)) f n).length (outV (fun x => !(qbV s x)) f n).length 6 true], [some (.tarr shW (outV (qbV s) f n).length (finW (outV (qbV s) f n)) true), some (.tarr shW (outV (fun x => !(qbV s x)) f n).length (finW (outV (fun x => !(qbV s x)) f n)) true)]⟩))))
noncomputable def r22b  (c : CS) : T (Nat × CS) := match c with
 | ⟨[.func (.func 25) [] [.ptr 0 0], .osl z_1 1 0 z_2 z_3 6 true, .osl z_4 2 0 z_5 z_6 6 true, .osl wl 3 0 n z_7 6 true, .int .i64 z_8, .int .i64 z_9], [some (.cells [.int .u64 s] false), some (.tarr sh_10 z_11 g true), some (.tarr sh_12 z_13 e true), some (.tarr sh_14 z_15 f false)]⟩ => chkT [decide (true = z_1), decide (0 = z_2), decide (0 = z_3), decide (true = z_4), decide (0 = z_5), decide (0 = z_6), decide (n = z_7), decide ((n : Nat) = z_8), decide (0 = z_9), shBeq sh_10 shW, decide (0 = z_11), shBeq sh_12 shW, decide (0 = z_13), shBeq sh_14 shW, decide (n = z_15)] (r22bB  s g e wl n f)
 | _ => .fail
def e22c (lo : Int) (bi : Int) (ol : Bool) (m : Nat) (g : Nat → Nat → AV) (pl : Bool) (p : Nat) (e : Nat → Nat → AV) (wl : Bool) (n : Nat) (f : Nat → Nat → AV) (i : Nat) : CS :=
 ⟨[.func (.func 30) [] [.ptr 0 0], .osl ol 1 0 m m 6 true, .osl pl 2 0 p p 6 true, .osl wl 3 0 n n 6 true, .int .i64 (n : Nat), .int .i64 (i : Nat)], [some (.cells [.int .u64 lo, .int .u64 bi] false), some (.tarr shW m g true), some (.tarr shW p e true), some (.tarr shW n f false)]⟩
noncomputable def r22cB  (lo : Int) (bi : Int) (g : Nat → Nat → AV) (e : Nat → Nat → AV) (wl : Bool) (n : Nat) (f : Nat → Nat → AV) : T (Nat × CS) :=
 chkT [Nat.ble n 1000] (.ask (Nat.beq (outV (qcV lo bi) f n).length 0) (.ask (Nat.beq (outV (fun x => !(qcV lo bi x)) f n).length 0) (.ret (1, ⟨[.osl true 0 0 0 0 6 true, .osl true 1 0 0 0 6 true], [some (.tarr shW 0 (fun _ _ => .bad) true), some (.tarr shW 0 (fun _ _ => .bad) true)]⟩)) (.ret (1, ⟨[.osl true 0 0 0 0 6 true, .osl false 1 0 (outV (fun x => !(qcV lo bi x)) f n).length (outV (fun x => !(qcV lo bi x)) f n).length 6 true], [some (.tarr shW 0 (fun _ _ => .bad) true), some (.tarr shW (outV (fun x => !(qcV lo bi x)) f n).length (finW (outV (fun x => !(qcV lo bi x)) f n)) true)]⟩))) (.ask (Nat.beq (outV (fun x => !(qcV lo bi x)) f n).length 0) (.ret (1, ⟨[.osl false 0 0 (outV (qcV lo bi) f n).length (outV (qcV lo bi) f n).length 6 true, .osl true 1 0 0 0 6 true], [some (.tarr shW (outV (qcV lo bi) f n).length (finW (outV (qcV lo bi) f n)) true), some (.tarr shW 0 (fun _ _ => .bad) true)]⟩)) (.ret (1, ⟨[.osl false 0 0 (outV (qcV lo bi) f n).length (outV (qcV lo bi) f n).length 6 true, .osl false 1 0 (outV (fun x => !(qcV lo bi x)) f n).length (outV (fun x => !(qcV lo bi x)) f n).length 6 true], [some (.tarr shW (outV (qcV lo bi) f n).length (finW (outV (qcV lo bi) f n)) true), some (.tarr shW (outV (fun x => !(qcV lo bi x)) f n).length (finW (outV (fun x => !(qcV lo bi x)) f n)) true)]⟩))))
noncomputable def r22c  (c : CS) : T (Nat × CS) := match c with
 | ⟨[.func (.func 30) [] [.ptr 0 0], .osl z_1 1 0 z_2 z_3 6 true, .osl z_4 2 0 z_5 z_6 6 true, .osl wl 3 0 n z_7 6 true, .int .i64 z_8, .int .i64 z_9], [some (.cells [.int .u64 lo, .int .u64 bi] false), some (.tarr sh_10 z_11 g true), some (.tarr sh_12 z_13 e true), some (.tarr sh_14 z_15 f false)]⟩ => chkT [decide (true = z_1), decide (0 = z_2), decide (0 = z_3), decide (true = z_4), decide (0 = z_5), decide (0 = z_6), decide (n = z_7), decide ((n : Nat) = z_8), decide (0 = z_9), shBeq sh_10 shW, decide (0 = z_11), shBeq sh_12 shW, decide (0 = z_13), shBeq sh_14 shW, decide (n = z_15)] (r22cB  lo bi g e wl n f)
 | _ => .fail
noncomputable def r22 (c : CS) : T (Nat × CS) := match c.ts with
 | [.func (.func 23) _ _, _, _, _, _, _] => r22a c
 | [.func (.func 25) _ _, _, _, _, _, _] => r22b c
 | [.func (.func 30) _ _, _, _, _, _, _] => r22c c
 | _ => .fail
noncomputable def F2 : Env := addL F1 22 0 1000003 h22 x22 0 r22
def a22a (a : Int) (b : Int) (wl : Bool) (n : Nat) (f : Nat → Nat → AV) : CS :=
 ⟨[.osl wl 0 0 n n 6 true, .func (.func 23) [] [.ptr 1 0, .ptr 2 0]], [some (.tarr shW n f false), some (.cells [.int .u64 a] false), some (.cells [.int .u64 b] false)]⟩
def a22b (s : Int) (wl : Bool) (n : Nat) (f : Nat → Nat → AV) : CS :=
 ⟨[.osl wl 0 0 n n 6 true, .func (.func 25) [] [.ptr 1 0]], [some (.tarr shW n f false), some (.cells [.int .u64 s] false)]⟩
def a22c (lo : Int) (bi : Int) (wl : Bool) (n : Nat) (f : Nat → Nat → AV) : CS :=
 ⟨[.osl wl 0 0 n n 6 true, .func (.func 30) [] [.ptr 1 0]], [some (.tarr shW n f false), some (.cells [.int .u64 lo, .int .u64 bi] false)]⟩
noncomputable def k22a (a : Int) (b : Int) (wl : Bool) (n : Nat) (f : Nat → Nat → AV) (π : Plan) : Option CS := callC (F2) (3000) (22) (0) (.agg [.asl shW, .asl shW]) ([]) π (a22a a b wl n f)
def k22a_p : Plan := (.reck 6 (.must true (.must true (.reck 6 (.must true (.fork (.fork (.fork .stop .stop) (.fork .stop .stop)) .stop))))))
theorem k22a_is (a : Int) (b : Int) (wl : Bool) (n : Nat) (f : Nat → Nat → AV) : k22a a b wl n f k22a_p = (cond (decide (n = n)) (cond (decide ((↑n : Int) = (↑n : Int))) (cond (decide (n = n)) (cond (Nat.ble n 1000)
 (cond (Nat.beq (List.length (outV (qaV a b) f n)) 0)
 (cond (Nat.beq (List.length (outV (fun x => !qaV a b x) f n)) 0)
 (some (CS.mk [(AV.tuple [(.osl (true) (0) (0) (0) (0) 6 true), (.osl (true) (1) (0) (0) (0) 6 true)])] [some (.tarr shW (0) (fun p_ q_ => AV.bad) true), some (.tarr shW (0) (fun p_ q_ => AV.bad) true)]))
 (some (CS.mk [(AV.tuple [(.osl (true) (0) (0) (0) (0) 6 true), (.osl (false) (1) (0) (List.length (outV (fun x => !qaV a b x) f n)) (List.length (outV (fun x => !qaV a b x) f n)) 6 true)])] [some (.tarr shW (0) (fun p_ q_ => AV.bad) true), some (.tarr shW (List.length (outV (fun x => !qaV a b x) f n)) (finW ((outV (fun x => !qaV a b x) f (n)))) true)])))
 (cond (Nat.beq (List.length (outV (fun x => !qaV a b x) f n)) 0)
 (some (CS.mk [(AV.tuple [(.osl (false) (0) (0) (List.length (outV (qaV a b) f n)) (List.length (outV (qaV a b) f n)) 6 true), (.osl (true) (1) (0) (0) (0) 6 true)])] [some (.tarr shW (List.length (outV (qaV a b) f n)) (finW ((outV (qaV a b) f (n)))) true), some (.tarr shW (0) (fun p_ q_ => AV.bad) true)]))
 (some (CS.mk [(AV.tuple [(.osl (false) (0) (0) (List.length (outV (qaV a b) f n)) (List.length (outV (qaV a b) f n)) 6 true), (.osl (false) (1) (0) (List.length (outV (fun x => !qaV a b x) f n)) (List.length (outV (fun x => !qaV a b x) f n)) 6 true)])] [some (.tarr shW (List.length (outV (qaV a b) f n)) (finW ((outV (qaV a b) f (n)))) true), some (.tarr shW (List.length (outV (fun x => !qaV a b x) f n)) (finW ((outV (fun x => !qaV a b x) f (n)))) true)]))))
 none) none) none) none) := by kernel_rfl
theorem k22a_eq (a : Int) (b : Int) (wl : Bool) (n : Nat) (f : Nat → Nat → AV) : k22a a b wl n f k22a_p = (cond (Nat.ble n 1000)
 (cond (Nat.beq (List.length (outV (qaV a b) f n)) 0)
 (cond (Nat.beq (List.length (outV (fun x => !qaV a b x) f n)) 0)
 (some (CS.mk [(AV.tuple [(.osl (true) (0) (0) (0) (0) 6 true), (.osl (true) (1) (0) (0) (0) 6 true)])] [some (.tarr shW (0) (fun p_ q_ => AV.bad) true), some (.tarr shW (0) (fun p_ q_ => AV.bad) true)]))
 (some (CS.mk [(AV.tuple [(.osl (true) (0) (0) (0) (0) 6 true), (.osl (false) (1) (0) (List.length (outV (fun x => !qaV a b x) f n)) (List.length (outV (fun x => !qaV a b x) f n)) 6 true)])] [some (.tarr shW (0) (fun p_ q_ => AV.bad) true), some (.tarr shW (List.length (outV (fun x => !qaV a b x) f n)) (finW ((outV (fun x => !qaV a b x) f (n)))) true)])))
 (cond (Nat.beq (List.length (outV (fun x => !qaV a b x) f n)) 0)
 (some (CS.mk [(AV.tuple [(.osl (false) (0) (0) (List.length (outV (qaV a b) f n)) (List.length (outV (qaV a b) f n)) 6 true), (.osl (true) (1) (0) (0) (0) 6 true)])] [some (.tarr shW (List.length (outV (qaV a b) f n)) (finW ((outV (qaV a b) f (n)))) true), some (.tarr shW (0) (fun p_ q_ => AV.bad) true)]))
 (some (CS.mk [(AV.tuple [(.osl (false) (0) (0) (List.length (outV (qaV a b) f n)) (List.length (outV (qaV a b) f n)) 6 true), (.osl (false) (1) (0) (List.length (outV (fun x => !qaV a b x) f n)) (List.length (outV (fun x => !qaV a b x) f n)) 6 true)])] [some (.tarr shW (List.length (outV (qaV a b) f n)) (finW ((outV (qaV a b) f (n)))) true), some (.tarr shW (List.length (outV (fun x => !qaV a b x) f n)) (finW ((outV (fun x => !qaV a b x) f (n)))) true)]))))
 none) := by
 rw [k22a_is]
 try simp only [eq_self, decide_true, beq_self_eq_true, Nat.beq_refl, ble_self, Int.le_refl, Nat.le_refl]
 cases (Nat.ble n 1000) with
 | true =>
   cases (Nat.beq (List.length (outV (qaV a b) f n)) 0) with
   | true =>
     cases (Nat.beq (List.length (outV (fun x => !qaV a b x) f n)) 0) with
     | true =>
       rfl
     | false =>
       rfl
   | false =>
     cases (Nat.beq (List.length (outV (fun x => !qaV a b x) f n)) 0) with
     | true =>
       rfl
     | false =>
       rfl
 | false =>
   rfl
noncomputable def k22b (s : Int) (wl : Bool) (n : Nat) (f : Nat → Nat → AV) (π : Plan) : Option CS := callC (F2) (3000) (22) (0) (.agg [.asl shW, .asl shW]) ([]) π (a22b s wl n f)
def k22b_p : Plan := (.reck 6 (.must true (.must true (.reck 6 (.must true (.fork (.fork (.fork .stop .stop) (.fork .stop .stop)) .stop))))))
theorem k22b_is (s : Int) (wl : Bool) (n : Nat) (f : Nat → Nat → AV) : k22b s wl n f k22b_p = (cond (decide (n = n)) (cond (decide ((↑n : Int) = (↑n : Int))) (cond (decide (n = n)) (cond (Nat.ble n 1000)
 (cond (Nat.beq (List.length (outV (qbV s) f n)) 0)
 (cond (Nat.beq (List.length (outV (fun x => !qbV s x) f n)) 0)
 (some (CS.mk [(AV.tuple [(.osl (true) (0) (0) (0) (0) 6 true), (.osl (true) (1) (0) (0) (0) 6 true)])] [some (.tarr shW (0) (fun p_ q_ => AV.bad) true), some (.tarr shW (0) (fun p_ q_ => AV.bad) true)]))
 (some (CS.mk [(AV.tuple [(.osl (true) (0) (0) (0) (0) 6 true), (.osl (false) (1) (0) (List.length (outV (fun x => !qbV s x) f n)) (List.length (outV (fun x => !qbV s x) f n)) 6 true)])] [some (.tarr shW (0) (fun p_ q_ => AV.bad) true), some (.tarr shW (List.length (outV (fun x => !qbV s x) f n)) (finW ((outV (fun x => !qbV s x) f (n)))) true)])))
 (cond (Nat.beq (List.length (outV (fun x => !qbV s x) f n)) 0)
 (some (CS.mk [(AV.tuple [(.osl (false) (0) (0) (List.length (outV (qbV s) f n)) (List.length (outV (qbV s) f n)) 6 true), (.osl (true) (1) (0) (0) (0) 6 true)])] [some (.tarr shW (List.length (outV (qbV s) f n)) (finW ((outV (qbV s) f (n)))) true), some (.tarr shW (0) (fun p_ q_ => AV.bad) true)]))
 (some (CS.mk [(AV.tuple [(.osl (false) (0) (0) (List.length (outV (qbV s) f n)) (List.length (outV (qbV s) f n)) 6 true), (.osl (false) (1) (0) (List.length (outV (fun x => !qbV s x) f n)) (List.length (outV (fun x => !qbV s x) f n)) 6 true)])] [some (.tarr shW (List.length (outV (qbV s) f n)) (finW ((outV (qbV s) f (n)))) true), some (.tarr shW (List.length (outV (fun x => !qbV s x) f n)) (finW ((outV (fun x => !qbV s x) f (n)))) true)]))))
 none) none) none) none) := by kernel_rfl
theorem k22b_eq (s : Int) (wl : Bool) (n : Nat) (f : Nat → Nat → AV) : k22b s wl n f k22b_p = (cond (Nat.ble n 1000)
 (cond (Nat.beq (List.length (outV (qbV s) f n)) 0)
 (cond (Nat.beq (List.length (outV (fun x => !qbV s x) f n)) 0)
 (some (CS.mk [(AV.tuple [(.osl (true) (0) (0) (0) (0) 6 true), (.osl (true) (1) (0) (0) (0) 6 true)])] [some (.tarr shW (0) (fun p_ q_ => AV.bad) true), some (.tarr shW (0) (fun p_ q_ => AV.bad) true)]))
 (some (CS.mk [(AV.tuple [(.osl (true) (0) (0) (0) (0) 6 true), (.osl (false) (1) (0) (List.length (outV (fun x => !qbV s x) f n)) (List.length (outV (fun x => !qbV s x) f n)) 6 true)])] [some (.tarr shW (0) (fun p_ q_ => AV.bad) true), some (.tarr shW (List.length (outV (fun x => !qbV s x) f n)) (finW ((outV (fun x => !qbV s x) f (n)))) true)])))
 (cond (Nat.beq (List.length (outV (fun x => !qbV s x) f n)) 0)
 (some (CS.mk [(AV.tuple [(.osl (false) (0) (0) (List.length (outV (qbV s) f n)) (List.length (outV (qbV s) f n)) 6 true), (.osl (true) (1) (0) (0) (0) 6 true)])] [some (.tarr shW (List.length (outV (qbV s) f n)) (finW ((outV (qbV s) f (n)))) true), some (.tarr shW (0) (fun p_ q_ => AV.bad) true)]))
 (some (CS.mk [(AV.tuple [(.osl (false) (0) (0) (List.length (outV (qbV s) f n)) (List.length (outV (qbV s) f n)) 6 true), (.osl (false) (1) (0) (List.length (outV (fun x => !qbV s x) f n)) (List.length (outV (fun x => !qbV s x) f n)) 6 true)])] [some (.tarr shW (List.length (outV (qbV s) f n)) (finW ((outV (qbV s) f (n)))) true), some (.tarr shW (List.length (outV (fun x => !qbV s x) f n)) (finW ((outV (fun x => !qbV s x) f (n)))) true)]))))
 none) := by
 rw [k22b_is]
 try simp only [eq_self, decide_true, beq_self_eq_true, Nat.beq_refl, ble_self, Int.le_refl, Nat.le_refl]
 cases (Nat.ble n 1000) with
 | true =>
   cases (Nat.beq (List.length (outV (qbV s) f n)) 0) with
   | true =>
     cases (Nat.beq (List.length (outV (fun x => !qbV s x) f n)) 0) with
     | true =>
       rfl
     | false =>
       rfl
   | false =>
     cases (Nat.beq (List.length (outV (fun x => !qbV s x) f n)) 0) with
     | true =>
       rfl
     | false =>
       rfl
 | false =>
   rfl
noncomputable def k22c (lo : Int) (bi : Int) (wl : Bool) (n : Nat) (f : Nat → Nat → AV) (π : Plan) : Option CS := callC (F2) (3000) (22) (0) (.agg [.asl shW, .asl shW]) ([]) π (a22c lo bi wl n f)
def k22c_p : Plan := (.reck 6 (.must true (.must true (.reck 6 (.must true (.fork (.fork (.fork .stop .stop) (.fork .stop .stop)) .stop))))))
theorem k22c_is (lo : Int) (bi : Int) (wl : Bool) (n : Nat) (f : Nat → Nat → AV) : k22c lo bi wl n f k22c_p = (cond (decide (n = n)) (cond (decide ((↑n : Int) = (↑n : Int))) (cond (decide (n = n)) (cond (Nat.ble n 1000)
 (cond (Nat.beq (List.length (outV (qcV lo bi) f n)) 0)
 (cond (Nat.beq (List.length (outV (fun x => !qcV lo bi x) f n)) 0)
 (some (CS.mk [(AV.tuple [(.osl (true) (0) (0) (0) (0) 6 true), (.osl (true) (1) (0) (0) (0) 6 true)])] [some (.tarr shW (0) (fun p_ q_ => AV.bad) true), some (.tarr shW (0) (fun p_ q_ => AV.bad) true)]))
 (some (CS.mk [(AV.tuple [(.osl (true) (0) (0) (0) (0) 6 true), (.osl (false) (1) (0) (List.length (outV (fun x => !qcV lo bi x) f n)) (List.length (outV (fun x => !qcV lo bi x) f n)) 6 true)])] [some (.tarr shW (0) (fun p_ q_ => AV.bad) true), some (.tarr shW (List.length (outV (fun x => !qcV lo bi x) f n)) (finW ((outV (fun x => !qcV lo bi x) f (n)))) true)])))
 (cond (Nat.beq (List.length (outV (fun x => !qcV lo bi x) f n)) 0)
 (some (CS.mk [(AV.tuple [(.osl (false) (0) (0) (List.length (outV (qcV lo bi) f n)) (List.length (outV (qcV lo bi) f n)) 6 true), (.osl (true) (1) (0) (0) (0) 6 true)])] [some (.tarr shW (List.length (outV (qcV lo bi) f n)) (finW ((outV (qcV lo bi) f (n)))) true), some (.tarr shW (0) (fun p_ q_ => AV.bad) true)]))
 (some (CS.mk [(AV.tuple [(.osl (false) (0) (0) (List.length (outV (qcV lo bi) f n)) (List.length (outV (qcV lo bi) f n)) 6 true), (.osl (false) (1) (0) (List.length (outV (fun x => !qcV lo bi x) f n)) (List.length (outV (fun x => !qcV lo bi x) f n)) 6 true)])] [some (.tarr shW (List.length (outV (qcV lo bi) f n)) (finW ((outV (qcV lo bi) f (n)))) true), some (.tarr shW (List.length (outV (fun x => !qcV lo bi x) f n)) (finW ((outV (fun x => !qcV lo bi x) f (n)))) true)]))))
 none) none) none) none) := by kernel_rfl
theorem k22c_eq (lo : Int) (bi : Int) (wl : Bool) (n : Nat) (f : Nat → Nat → AV) : k22c lo bi wl n f k22c_p = (cond (Nat.ble n 1000)
 (cond (Nat.beq (List.length (outV (qcV lo bi) f n)) 0)
 (cond (Nat.beq (List.length (outV (fun x => !qcV lo bi x) f n)) 0)
 (some (CS.mk [(AV.tuple [(.osl (true) (0) (0) (0) (0) 6 true), (.osl (true) (1) (0) (0) (0) 6 true)])] [some (.tarr shW (0) (fun p_ q_ => AV.bad) true), some (.tarr shW (0) (fun p_ q_ => AV.bad) true)]))
 (some (CS.mk [(AV.tuple [(.osl (true) (0) (0) (0) (0) 6 true), (.osl (false) (1) (0) (List.length (outV (fun x => !qcV lo bi x) f n)) (List.length (outV (fun x => !qcV lo bi x) f n)) 6 true)])] [some (.tarr shW (0) (fun p_ q_ => AV.bad) true), some (.tarr shW (List.length (outV (fun x => !qcV lo bi x) f n)) (finW ((outV (fun x => !qcV lo bi x) f (n)))) true)])))
 (cond (Nat.beq (List.length (outV (fun x => !qcV lo bi x) f n)) 0)
 (some (CS.mk [(AV.tuple [(.osl (false) (0) (0) (List.length (outV (qcV lo bi) f n)) (List.length (outV (qcV lo bi) f n)) 6 true), (.osl (true) (1) (0) (0) (0) 6 true)])] [some (.tarr shW (List.length (outV (qcV lo bi) f n)) (finW ((outV (qcV lo bi) f (n)))) true), some (.tarr shW (0) (fun p_ q_ => AV.bad) true)]))
 (some (CS.mk [(AV.tuple [(.osl (false) (0) (0) (List.length (outV (qcV lo bi) f n)) (List.length (outV (qcV lo bi) f n)) 6 true), (.osl (false) (1) (0) (List.length (outV (fun x => !qcV lo bi x) f n)) (List.length (outV (fun x => !qcV lo bi x) f n)) 6 true)])] [some (.tarr shW (List.length (outV (qcV lo bi) f n)) (finW ((outV (qcV lo bi) f (n)))) true), some (.tarr shW (List.length (outV (fun x => !qcV lo bi x) f n)) (finW ((outV (fun x => !qcV lo bi x) f (n)))) true)]))))
 none) := by
 rw [k22c_is]
 try simp only [eq_self, decide_true, beq_self_eq_true, Nat.beq_refl, ble_self, Int.le_refl, Nat.le_refl]
 cases (Nat.ble n 1000) with
 | true =>
   cases (Nat.beq (List.length (outV (qcV lo bi) f n)) 0) with
   | true =>
     cases (Nat.beq (List.length (outV (fun x => !qcV lo bi x) f n)) 0) with
     | true =>
       rfl
     | false =>
       rfl
   | false =>
     cases (Nat.beq (List.length (outV (fun x => !qcV lo bi x) f n)) 0) with
     | true =>
       rfl
     | false =>
       rfl
 | false =>
   rfl
theorem r22a_inv  {c : CS} {r : Nat × CS} (h : (r22a  c).run = some r) : ∃ a b g e wl n f, c = e22a a b true 0 g true 0 e wl n f 0 ∧ (r22aB  a b g e wl n f).run = some r := by
 unfold r22a at h
 split at h
 ·rename_i z_1 z_2 z_3 z_4 z_5 z_6 wl n z_7 z_8 z_9 a b sh_10 z_11 g sh_12 z_13 e sh_14 z_15 f
  obtain ⟨hc, hb⟩ := chkT_run h
  have h0 := hc 0 _ rfl
  have h0 := of_decide_eq_true h0; subst h0
  have h1 := hc 1 _ rfl
  have h1 := of_decide_eq_true h1; subst h1
  have h2 := hc 2 _ rfl
  have h2 := of_decide_eq_true h2; subst h2
  have h3 := hc 3 _ rfl
  have h3 := of_decide_eq_true h3; subst h3
  have h4 := hc 4 _ rfl
  have h4 := of_decide_eq_true h4; subst h4
  have h5 := hc 5 _ rfl
  have h5 := of_decide_eq_true h5; subst h5
  have h6 := hc 6 _ rfl
  have h6 := of_decide_eq_true h6; subst h6
  have h7 := hc 7 _ rfl
  have h7 := of_decide_eq_true h7; subst h7
  have h8 := hc 8 _ rfl
  have h8 := of_decide_eq_true h8; subst h8
  have h9 := hc 9 _ rfl
  have h9 := (shBeq_eq h9).symm; subst h9
  have h10 := hc 10 _ rfl
  have h10 := of_decide_eq_true h10; subst h10
  have h11 := hc 11 _ rfl
  have h11 := (shBeq_eq h11).symm; subst h11
  have h12 := hc 12 _ rfl
  have h12 := of_decide_eq_true h12; subst h12
  have h13 := hc 13 _ rfl
  have h13 := (shBeq_eq h13).symm; subst h13
  have h14 := hc 14 _ rfl
  have h14 := of_decide_eq_true h14; subst h14
  exact ⟨a, b, g, e, wl, n, f, rfl, hb⟩
 ·cases h
theorem r22b_inv  {c : CS} {r : Nat × CS} (h : (r22b  c).run = some r) : ∃ s g e wl n f, c = e22b s true 0 g true 0 e wl n f 0 ∧ (r22bB  s g e wl n f).run = some r := by
 unfold r22b at h
 split at h
 ·rename_i z_1 z_2 z_3 z_4 z_5 z_6 wl n z_7 z_8 z_9 s sh_10 z_11 g sh_12 z_13 e sh_14 z_15 f
  obtain ⟨hc, hb⟩ := chkT_run h
  have h0 := hc 0 _ rfl
  have h0 := of_decide_eq_true h0; subst h0
  have h1 := hc 1 _ rfl
  have h1 := of_decide_eq_true h1; subst h1
  have h2 := hc 2 _ rfl
  have h2 := of_decide_eq_true h2; subst h2
  have h3 := hc 3 _ rfl
  have h3 := of_decide_eq_true h3; subst h3
  have h4 := hc 4 _ rfl
  have h4 := of_decide_eq_true h4; subst h4
  have h5 := hc 5 _ rfl
  have h5 := of_decide_eq_true h5; subst h5
  have h6 := hc 6 _ rfl
  have h6 := of_decide_eq_true h6; subst h6
  have h7 := hc 7 _ rfl
  have h7 := of_decide_eq_true h7; subst h7
  have h8 := hc 8 _ rfl
  have h8 := of_decide_eq_true h8; subst h8
  have h9 := hc 9 _ rfl
  have h9 := (shBeq_eq h9).symm; subst h9
  have h10 := hc 10 _ rfl
  have h10 := of_decide_eq_true h10; subst h10
  have h11 := hc 11 _ rfl
  have h11 := (shBeq_eq h11).symm; subst h11
  have h12 := hc 12 _ rfl
  have h12 := of_decide_eq_true h12; subst h12
  have h13 := hc 13 _ rfl
  have h13 := (shBeq_eq h13).symm; subst h13
  have h14 := hc 14 _ rfl
  have h14 := of_decide_eq_true h14; subst h14
  exact ⟨s, g, e, wl, n, f, rfl, hb⟩
 ·cases h
theorem r22c_inv  {c : CS} {r : Nat × CS} (h : (r22c  c).run = some r) : ∃ lo bi g e wl n f, c = e22c lo bi true 0 g true 0 e wl n f 0 ∧ (r22cB  lo bi g e wl n f).run = some r := by
 unfold r22c at h
 split at h
 ·rename_i z_1 z_2 z_3 z_4 z_5 z_6 wl n z_7 z_8 z_9 lo bi sh_10 z_11 g sh_12 z_13 e sh_14 z_15 f
  obtain ⟨hc, hb⟩ := chkT_run h
  have h0 := hc 0 _ rfl
  have h0 := of_decide_eq_true h0; subst h0
  have h1 := hc 1 _ rfl
  have h1 := of_decide_eq_true h1; subst h1
  have h2 := hc 2 _ rfl
  have h2 := of_decide_eq_true h2; subst h2
  have h3 := hc 3 _ rfl
  have h3 := of_decide_eq_true h3; subst h3
  have h4 := hc 4 _ rfl
  have h4 := of_decide_eq_true h4; subst h4
  have h5 := hc 5 _ rfl
  have h5 := of_decide_eq_true h5; subst h5
  have h6 := hc 6 _ rfl
  have h6 := of_decide_eq_true h6; subst h6
  have h7 := hc 7 _ rfl
  have h7 := of_decide_eq_true h7; subst h7
  have h8 := hc 8 _ rfl
  have h8 := of_decide_eq_true h8; subst h8
  have h9 := hc 9 _ rfl
  have h9 := (shBeq_eq h9).symm; subst h9
  have h10 := hc 10 _ rfl
  have h10 := of_decide_eq_true h10; subst h10
  have h11 := hc 11 _ rfl
  have h11 := (shBeq_eq h11).symm; subst h11
  have h12 := hc 12 _ rfl
  have h12 := of_decide_eq_true h12; subst h12
  have h13 := hc 13 _ rfl
  have h13 := (shBeq_eq h13).symm; subst h13
  have h14 := hc 14 _ rfl
  have h14 := of_decide_eq_true h14; subst h14
  exact ⟨lo, bi, g, e, wl, n, f, rfl, hb⟩
 ·cases h
theorem outX_N (q : Wt → Bool) (f : Nat → Nat → AV) (n : Nat) : outX q f n = outN q f n := rfl
theorem beq0 {L : List Wt} (h : L ≠ []) : Nat.beq L.length 0 = false := by
 cases L with
 | nil => exact absurd rfl h
 | cons x l => rfl
theorem i22a (c : CS) (r : Nat × CS) (h : (r22a c).run = some r) : Loops (fun c => stepC F1 300 (loopC F1 22 0) 0 h22 ((.normal, h22) :: x22) (pi22 c) c) c r.1 r.2 := by
 obtain ⟨a, b, g, e, wl, n, f, rfl, hb⟩ := r22a_inv h
 obtain ⟨hn, hb2⟩ := chkT_run hb
 have hn := le_of (hn 0 _ rfl)
 rw [outV_eq, outX_N, outX_N] at hb2
 clear h hb
 have key : ∀ c', (∃ c1, (fun c => stepC F1 300 (loopC F1 22 0) 0 h22 ((.normal, h22) :: x22) (pi22 c) c) (st22a a b wl n f (outN (qaV a b) f n) (outN (fun x => !(qaV a b x)) f n) n) = some (1, c1) ∧ Seen c1 c') → Loops (fun c => stepC F1 300 (loopC F1 22 0) 0 h22 ((.normal, h22) :: x22) (pi22 c) c) (e22a a b true 0 g true 0 e wl n f 0) 1 c' := fun c' he => by
  refine .see (c1 := st22a a b wl n f [] [] 0) (Seen.mk' (.cons (SeenV.refl _) (.cons SeenV.nil (.cons SeenV.nil (SeenVs.refl _)))) (.cons (SeenO.refl _) (.cons (SeenO.refl _) (.skip (.skip (SeenOs.refl _)))))) ?_
  refine Loops.for (C := fun i => st22a a b wl n f (outN (qaV a b) f i) (outN (fun x => !(qaV a b x)) f i) i) (n := n) (k := 0) (fun i hi => ?_) he
  have h1 := outN_le (qaV a b) f i
  have h2 := outN_le (fun x => !(qaV a b x)) f i
  obtain ⟨c1, e1, e2⟩ := i22a_step a b wl n f (outN (qaV a b) f i) (outN (fun x => !(qaV a b x)) f i) i hn (by omega) (by omega) hi
  refine ⟨c1, e1, ?_⟩
  cases hb : qaV a b (wtAt f i) with
  | true =>
    rw [hb] at e2
    show Seen c1 (st22a a b wl n f (outN (qaV a b) f (i + 1)) (outN (fun x => !(qaV a b x)) f (i + 1)) (i + 1))
    rw [outN_t hb, outN_f (q := (fun x => !(qaV a b x))) (by simp [hb])]; exact e2
  | false =>
    rw [hb] at e2
    show Seen c1 (st22a a b wl n f (outN (qaV a b) f (i + 1)) (outN (fun x => !(qaV a b x)) f (i + 1)) (i + 1))
    rw [outN_f hb, outN_t (q := (fun x => !(qaV a b x))) (by simp [hb])]; exact e2
 generalize outN (qaV a b) f n = O at hb2 key
 generalize outN (fun x => !(qaV a b x)) f n = R at hb2 key
 by_cases hO : O = []
 ·subst hO
  by_cases hR : R = []
  ·subst hR
   simp only [List.length_nil, Nat.beq_refl, T.run, cond_true, Option.some.injEq] at hb2; subst hb2
   have x := s22a00_eq a b wl n f n
   rw [lt0] at x
   exact key _ ⟨_, x, Seen.refl _⟩
  ·rw [beq0 hR] at hb2
   simp only [List.length_nil, Nat.beq_refl, T.run, cond_true, cond_false, Option.some.injEq] at hb2; subst hb2
   rw [st22a_01 hR] at key
   have x := s22a01_eq a b R.length (finW R) wl n f n
   rw [lt0] at x
   exact key _ ⟨_, x, Seen.refl _⟩
 ·rw [beq0 hO] at hb2
  by_cases hR : R = []
  ·subst hR
   simp only [List.length_nil, Nat.beq_refl, T.run, cond_true, cond_false, Option.some.injEq] at hb2; subst hb2
   rw [st22a_10 hO] at key
   have x := s22a10_eq a b O.length (finW O) wl n f n
   rw [lt0] at x
   exact key _ ⟨_, x, Seen.refl _⟩
  ·rw [beq0 hR] at hb2
   simp only [T.run, cond_false, Option.some.injEq] at hb2; subst hb2
   rw [st22a_11 hO hR] at key
   have x := s22a11_eq a b O.length (finW O) R.length (finW R) wl n f n
   rw [lt0] at x
   exact key _ ⟨_, x, Seen.refl _⟩
theorem i22b (c : CS) (r : Nat × CS) (h : (r22b c).run = some r) : Loops (fun c => stepC F1 300 (loopC F1 22 0) 0 h22 ((.normal, h22) :: x22) (pi22 c) c) c r.1 r.2 := by
 obtain ⟨s, g, e, wl, n, f, rfl, hb⟩ := r22b_inv h
 obtain ⟨hn, hb2⟩ := chkT_run hb
 have hn := le_of (hn 0 _ rfl)
 rw [outV_eq, outX_N, outX_N] at hb2
 clear h hb
 have key : ∀ c', (∃ c1, (fun c => stepC F1 300 (loopC F1 22 0) 0 h22 ((.normal, h22) :: x22) (pi22 c) c) (st22b s wl n f (outN (qbV s) f n) (outN (fun x => !(qbV s x)) f n) n) = some (1, c1) ∧ Seen c1 c') → Loops (fun c => stepC F1 300 (loopC F1 22 0) 0 h22 ((.normal, h22) :: x22) (pi22 c) c) (e22b s true 0 g true 0 e wl n f 0) 1 c' := fun c' he => by
  refine .see (c1 := st22b s wl n f [] [] 0) (Seen.mk' (.cons (SeenV.refl _) (.cons SeenV.nil (.cons SeenV.nil (SeenVs.refl _)))) (.cons (SeenO.refl _) (.skip (.skip (SeenOs.refl _))))) ?_
  refine Loops.for (C := fun i => st22b s wl n f (outN (qbV s) f i) (outN (fun x => !(qbV s x)) f i) i) (n := n) (k := 0) (fun i hi => ?_) he
  have h1 := outN_le (qbV s) f i
  have h2 := outN_le (fun x => !(qbV s x)) f i
  obtain ⟨c1, e1, e2⟩ := i22b_step s wl n f (outN (qbV s) f i) (outN (fun x => !(qbV s x)) f i) i hn (by omega) (by omega) hi
  refine ⟨c1, e1, ?_⟩
  cases hb : qbV s (wtAt f i) with
  | true =>
    rw [hb] at e2
    show Seen c1 (st22b s wl n f (outN (qbV s) f (i + 1)) (outN (fun x => !(qbV s x)) f (i + 1)) (i + 1))
    rw [outN_t hb, outN_f (q := (fun x => !(qbV s x))) (by simp [hb])]; exact e2
  | false =>
    rw [hb] at e2
    show Seen c1 (st22b s wl n f (outN (qbV s) f (i + 1)) (outN (fun x => !(qbV s x)) f (i + 1)) (i + 1))
    rw [outN_f hb, outN_t (q := (fun x => !(qbV s x))) (by simp [hb])]; exact e2
 generalize outN (qbV s) f n = O at hb2 key
 generalize outN (fun x => !(qbV s x)) f n = R at hb2 key
 by_cases hO : O = []
 ·subst hO
  by_cases hR : R = []
  ·subst hR
   simp only [List.length_nil, Nat.beq_refl, T.run, cond_true, Option.some.injEq] at hb2; subst hb2
   have x := s22b00_eq s wl n f n
   rw [lt0] at x
   exact key _ ⟨_, x, Seen.refl _⟩
  ·rw [beq0 hR] at hb2
   simp only [List.length_nil, Nat.beq_refl, T.run, cond_true, cond_false, Option.some.injEq] at hb2; subst hb2
   rw [st22b_01 hR] at key
   have x := s22b01_eq s R.length (finW R) wl n f n
   rw [lt0] at x
   exact key _ ⟨_, x, Seen.refl _⟩
 ·rw [beq0 hO] at hb2
  by_cases hR : R = []
  ·subst hR
   simp only [List.length_nil, Nat.beq_refl, T.run, cond_true, cond_false, Option.some.injEq] at hb2; subst hb2
   rw [st22b_10 hO] at key
   have x := s22b10_eq s O.length (finW O) wl n f n
   rw [lt0] at x
   exact key _ ⟨_, x, Seen.refl _⟩
  ·rw [beq0 hR] at hb2
   simp only [T.run, cond_false, Option.some.injEq] at hb2; subst hb2
   rw [st22b_11 hO hR] at key
   have x := s22b11_eq s O.length (finW O) R.length (finW R) wl n f n
   rw [lt0] at x
   exact key _ ⟨_, x, Seen.refl _⟩
theorem i22c (c : CS) (r : Nat × CS) (h : (r22c c).run = some r) : Loops (fun c => stepC F1 300 (loopC F1 22 0) 0 h22 ((.normal, h22) :: x22) (pi22 c) c) c r.1 r.2 := by
 obtain ⟨lo, bi, g, e, wl, n, f, rfl, hb⟩ := r22c_inv h
 obtain ⟨hn, hb2⟩ := chkT_run hb
 have hn := le_of (hn 0 _ rfl)
 rw [outV_eq, outX_N, outX_N] at hb2
 clear h hb
 have key : ∀ c', (∃ c1, (fun c => stepC F1 300 (loopC F1 22 0) 0 h22 ((.normal, h22) :: x22) (pi22 c) c) (st22c lo bi wl n f (outN (qcV lo bi) f n) (outN (fun x => !(qcV lo bi x)) f n) n) = some (1, c1) ∧ Seen c1 c') → Loops (fun c => stepC F1 300 (loopC F1 22 0) 0 h22 ((.normal, h22) :: x22) (pi22 c) c) (e22c lo bi true 0 g true 0 e wl n f 0) 1 c' := fun c' he => by
  refine .see (c1 := st22c lo bi wl n f [] [] 0) (Seen.mk' (.cons (SeenV.refl _) (.cons SeenV.nil (.cons SeenV.nil (SeenVs.refl _)))) (.cons (SeenO.refl _) (.skip (.skip (SeenOs.refl _))))) ?_
  refine Loops.for (C := fun i => st22c lo bi wl n f (outN (qcV lo bi) f i) (outN (fun x => !(qcV lo bi x)) f i) i) (n := n) (k := 0) (fun i hi => ?_) he
  have h1 := outN_le (qcV lo bi) f i
  have h2 := outN_le (fun x => !(qcV lo bi x)) f i
  obtain ⟨c1, e1, e2⟩ := i22c_step lo bi wl n f (outN (qcV lo bi) f i) (outN (fun x => !(qcV lo bi x)) f i) i hn (by omega) (by omega) hi
  refine ⟨c1, e1, ?_⟩
  cases hb : qcV lo bi (wtAt f i) with
  | true =>
    rw [hb] at e2
    show Seen c1 (st22c lo bi wl n f (outN (qcV lo bi) f (i + 1)) (outN (fun x => !(qcV lo bi x)) f (i + 1)) (i + 1))
    rw [outN_t hb, outN_f (q := (fun x => !(qcV lo bi x))) (by simp [hb])]; exact e2
  | false =>
    rw [hb] at e2
    show Seen c1 (st22c lo bi wl n f (outN (qcV lo bi) f (i + 1)) (outN (fun x => !(qcV lo bi x)) f (i + 1)) (i + 1))
    rw [outN_f hb, outN_t (q := (fun x => !(qcV lo bi x))) (by simp [hb])]; exact e2
 generalize outN (qcV lo bi) f n = O at hb2 key
 generalize outN (fun x => !(qcV lo bi x)) f n = R at hb2 key
 by_cases hO : O = []
 ·subst hO
  by_cases hR : R = []
  ·subst hR
   simp only [List.length_nil, Nat.beq_refl, T.run, cond_true, Option.some.injEq] at hb2; subst hb2
   have x := s22c00_eq lo bi wl n f n
   rw [lt0] at x
   exact key _ ⟨_, x, Seen.refl _⟩
  ·rw [beq0 hR] at hb2
   simp only [List.length_nil, Nat.beq_refl, T.run, cond_true, cond_false, Option.some.injEq] at hb2; subst hb2
   rw [st22c_01 hR] at key
   have x := s22c01_eq lo bi R.length (finW R) wl n f n
   rw [lt0] at x
   exact key _ ⟨_, x, Seen.refl _⟩
 ·rw [beq0 hO] at hb2
  by_cases hR : R = []
  ·subst hR
   simp only [List.length_nil, Nat.beq_refl, T.run, cond_true, cond_false, Option.some.injEq] at hb2; subst hb2
   rw [st22c_10 hO] at key
   have x := s22c10_eq lo bi O.length (finW O) wl n f n
   rw [lt0] at x
   exact key _ ⟨_, x, Seen.refl _⟩
  ·rw [beq0 hR] at hb2
   simp only [T.run, cond_false, Option.some.injEq] at hb2; subst hb2
   rw [st22c_11 hO hR] at key
   have x := s22c11_eq lo bi O.length (finW O) R.length (finW R) wl n f n
   rw [lt0] at x
   exact key _ ⟨_, x, Seen.refl _⟩
theorem i22 (c : CS) (r : Nat × CS) (h : (r22 c).run = some r) : Loops (fun c => stepC F1 300 (loopC F1 22 0) 0 h22 ((.normal, h22) :: x22) (pi22 c) c) c r.1 r.2 := by
 unfold r22 at h
 split at h
 ·exact i22a c r h
 ·exact i22b c r h
 ·exact i22c c r h
 ·cases h
theorem qF2 : Bm.Good Try.prog F2 := qF1.addS (by kernel_rfl) rfl (by decide) (by decide) rfl i22
end Go.Proofs.Ytgflmdjlpjjnaaa.desk
end
section
set_option linter.unusedSimpArgs false
set_option linter.unusedVariables false
set_option maxRecDepth 20000
namespace Go.Proofs.Ytgflmdjlpjjnaaa.desk
open Go Go.RowKit Go.Proofs.Ytgflmdjlpjjnaaa.Bm
noncomputable def f22aB  (a : Int) (b : Int) (wl : Bool) (n : Nat) (f : Nat → Nat → AV) : T (CS) :=
 chkT [Nat.ble n 1000] (.ask (Nat.beq (outV (qaV a b) f n).length 0) (.ask (Nat.beq (outV (fun x => !(qaV a b x)) f n).length 0) (.ret ⟨[.tuple [.osl true 0 0 0 0 6 true, .osl true 1 0 0 0 6 true]], [some (.tarr shW 0 (fun _ _ => .bad) true), some (.tarr shW 0 (fun _ _ => .bad) true)]⟩) (.ret ⟨[.tuple [.osl true 0 0 0 0 6 true, .osl false 1 0 (outV (fun x => !(qaV a b x)) f n).length (outV (fun x => !(qaV a b x)) f n).length 6 true]], [some (.tarr shW 0 (fun _ _ => .bad) true), some (.tarr shW (outV (fun x => !(qaV a b x)) f n).length (finW (outV (fun x => !(qaV a b x)) f n)) true)]⟩)) (.ask (Nat.beq (outV (fun x => !(qaV a b x)) f n).length 0) (.ret ⟨[.tuple [.osl false 0 0 (outV (qaV a b) f n).length (outV (qaV a b) f n).length 6 true, .osl true 1 0 0 0 6 true]], [some (.tarr shW (outV (qaV a b) f n).length (finW (outV (qaV a b) f n)) true), some (.tarr shW 0 (fun _ _ => .bad) true)]⟩) (.ret ⟨[.tuple [.osl false 0 0 (outV (qaV a b) f n).length (outV (qaV a b) f n).length 6 true, .osl false 1 0 (outV (fun x => !(qaV a b x)) f n).length (outV (fun x => !(qaV a b x)) f n).length 6 true]], [some (.tarr shW (outV (qaV a b) f n).length (finW (outV (qaV a b) f n)) true), some (.tarr shW (outV (fun x => !(qaV a b x)) f n).length (finW (outV (fun x => !(qaV a b x)) f n)) true)]⟩)))
noncomputable def f22a  (c : CS) : T (CS) := match c with
 | ⟨[.osl wl 0 0 n z_1 6 true, .func (.func 23) [] [.ptr 1 0, .ptr 2 0]], [some (.tarr sh_2 z_3 f false), some (.cells [.int .u64 a] false), some (.cells [.int .u64 b] false)]⟩ => chkT [decide (n = z_1), shBeq sh_2 shW, decide (n = z_3)] (f22aB  a b wl n f)
 | _ => .fail
noncomputable def f22bB  (s : Int) (wl : Bool) (n : Nat) (f : Nat → Nat → AV) : T (CS) :=
 chkT [Nat.ble n 1000] (.ask (Nat.beq (outV (qbV s) f n).length 0) (.ask (Nat.beq (outV (fun x => !(qbV s x)) f n).length 0) (.ret ⟨[.tuple [.osl true 0 0 0 0 6 true, .osl true 1 0 0 0 6 true]], [some (.tarr shW 0 (fun _ _ => .bad) true), some (.tarr shW 0 (fun _ _ => .bad) true)]⟩) (.ret ⟨[.tuple [.osl true 0 0 0 0 6 true, .osl false 1 0 (outV (fun x => !(qbV s x)) f n).length (outV (fun x => !(qbV s x)) f n).length 6 true]], [some (.tarr shW 0 (fun _ _ => .bad) true), some (.tarr shW (outV (fun x => !(qbV s x)) f n).length (finW (outV (fun x => !(qbV s x)) f n)) true)]⟩)) (.ask (Nat.beq (outV (fun x => !(qbV s x)) f n).length 0) (.ret ⟨[.tuple [.osl false 0 0 (outV (qbV s) f n).length (outV (qbV s) f n).length 6 true, .osl true 1 0 0 0 6 true]], [some (.tarr shW (outV (qbV s) f n).length (finW (outV (qbV s) f n)) true), some (.tarr shW 0 (fun _ _ => .bad) true)]⟩) (.ret ⟨[.tuple [.osl false 0 0 (outV (qbV s) f n).length (outV (qbV s) f n).length 6 true, .osl false 1 0 (outV (fun x => !(qbV s x)) f n).length (outV (fun x => !(qbV s x)) f n).length 6 true]], [some (.tarr shW (outV (qbV s) f n).length (finW (outV (qbV s) f n)) true), some (.tarr shW (outV (fun x => !(qbV s x)) f n).length (finW (outV (fun x => !(qbV s x)) f n)) true)]⟩)))
noncomputable def f22b  (c : CS) : T (CS) := match c with
 | ⟨[.osl wl 0 0 n z_1 6 true, .func (.func 25) [] [.ptr 1 0]], [some (.tarr sh_2 z_3 f false), some (.cells [.int .u64 s] false)]⟩ => chkT [decide (n = z_1), shBeq sh_2 shW, decide (n = z_3)] (f22bB  s wl n f)
 | _ => .fail
noncomputable def f22cB  (lo : Int) (bi : Int) (wl : Bool) (n : Nat) (f : Nat → Nat → AV) : T (CS) :=
 chkT [Nat.ble n 1000] (.ask (Nat.beq (outV (qcV lo bi) f n).length 0) (.ask (Nat.beq (outV (fun x => !(qcV lo bi x)) f n).length 0) (.ret ⟨[.tuple [.osl true 0 0 0 0 6 true, .osl true 1 0 0 0 6 true]], [some (.tarr shW 0 (fun _ _ => .bad) true), some (.tarr shW 0 (fun _ _ => .bad) true)]⟩) (.ret ⟨[.tuple [.osl true 0 0 0 0 6 true, .osl false 1 0 (outV (fun x => !(qcV lo bi x)) f n).length (outV (fun x => !(qcV lo bi x)) f n).length 6 true]], [some (.tarr shW 0 (fun _ _ => .bad) true), some (.tarr shW (outV (fun x => !(qcV lo bi x)) f n).length (finW (outV (fun x => !(qcV lo bi x)) f n)) true)]⟩)) (.ask (Nat.beq (outV (fun x => !(qcV lo bi x)) f n).length 0) (.ret ⟨[.tuple [.osl false 0 0 (outV (qcV lo bi) f n).length (outV (qcV lo bi) f n).length 6 true, .osl true 1 0 0 0 6 true]], [some (.tarr shW (outV (qcV lo bi) f n).length (finW (outV (qcV lo bi) f n)) true), some (.tarr shW 0 (fun _ _ => .bad) true)]⟩) (.ret ⟨[.tuple [.osl false 0 0 (outV (qcV lo bi) f n).length (outV (qcV lo bi) f n).length 6 true, .osl false 1 0 (outV (fun x => !(qcV lo bi x)) f n).length (outV (fun x => !(qcV lo bi x)) f n).length 6 true]], [some (.tarr shW (outV (qcV lo bi) f n).length (finW (outV (qcV lo bi) f n)) true), some (.tarr shW (outV (fun x => !(qcV lo bi x)) f n).length (finW (outV (fun x => !(qcV lo bi x)) f n)) true)]⟩)))
noncomputable def f22c  (c : CS) : T (CS) := match c with
 | ⟨[.osl wl 0 0 n z_1 6 true, .func (.func 30) [] [.ptr 1 0]], [some (.tarr sh_2 z_3 f false), some (.cells [.int .u64 lo, .int .u64 bi] false)]⟩ => chkT [decide (n = z_1), shBeq sh_2 shW, decide (n = z_3)] (f22cB  lo bi wl n f)
 | _ => .fail
noncomputable def f22 (c : CS) : T CS := match c.ts with
 | [_, .func (.func 23) _ _] => f22a c
 | [_, .func (.func 25) _ _] => f22b c
 | [_, .func (.func 30) _ _] => f22c c
 | _ => .fail
noncomputable def F3 : Env := addF F2 22 ⟨fnRun [.asl shW, .keep] [] f22⟩
theorem f22a_inv  {c : CS} {r : CS} (h : (f22a  c).run = some r) : ∃ a b wl n f, c = a22a a b wl n f ∧ (f22aB  a b wl n f).run = some r := by
 unfold f22a at h
 split at h
 ·rename_i wl n z_1 sh_2 z_3 f a b
  obtain ⟨hc, hb⟩ := chkT_run h
  have h0 := hc 0 _ rfl
  have h0 := of_decide_eq_true h0; subst h0
  have h1 := hc 1 _ rfl
  have h1 := (shBeq_eq h1).symm; subst h1
  have h2 := hc 2 _ rfl
  have h2 := of_decide_eq_true h2; subst h2
  exact ⟨a, b, wl, n, f, rfl, hb⟩
 ·cases h
theorem f22b_inv  {c : CS} {r : CS} (h : (f22b  c).run = some r) : ∃ s wl n f, c = a22b s wl n f ∧ (f22bB  s wl n f).run = some r := by
 unfold f22b at h
 split at h
 ·rename_i wl n z_1 sh_2 z_3 f s
  obtain ⟨hc, hb⟩ := chkT_run h
  have h0 := hc 0 _ rfl
  have h0 := of_decide_eq_true h0; subst h0
  have h1 := hc 1 _ rfl
  have h1 := (shBeq_eq h1).symm; subst h1
  have h2 := hc 2 _ rfl
  have h2 := of_decide_eq_true h2; subst h2
  exact ⟨s, wl, n, f, rfl, hb⟩
 ·cases h
theorem f22c_inv  {c : CS} {r : CS} (h : (f22c  c).run = some r) : ∃ lo bi wl n f, c = a22c lo bi wl n f ∧ (f22cB  lo bi wl n f).run = some r := by
 unfold f22c at h
 split at h
 ·rename_i wl n z_1 sh_2 z_3 f lo bi
  obtain ⟨hc, hb⟩ := chkT_run h
  have h0 := hc 0 _ rfl
  have h0 := of_decide_eq_true h0; subst h0
  have h1 := hc 1 _ rfl
  have h1 := (shBeq_eq h1).symm; subst h1
  have h2 := hc 2 _ rfl
  have h2 := of_decide_eq_true h2; subst h2
  exact ⟨lo, bi, wl, n, f, rfl, hb⟩
 ·cases h
theorem j22a (c c' : CS) (h : (f22a c).run = some c') : CallC Try.prog 22 0 c c' := by
 obtain ⟨a, b, wl, n, f, rfl, hb⟩ := f22a_inv h
 obtain ⟨hn, hb2⟩ := chkT_run hb
 have hn := hn 0 _ rfl
 clear h hb
 have e := k22a_eq a b wl n f
 rw [hn] at e
 cases h1 : Nat.beq (outV (qaV a b) f n).length 0 <;> cases h2 : Nat.beq (outV (fun x => !(qaV a b x)) f n).length 0 <;> rw [h1, h2] at hb2 e <;> simp only [T.run, cond_true, cond_false, Option.some.injEq] at hb2 e <;> subst hb2 <;> exact qF2.callC (Seen.refl _) e (Seen.refl _)
theorem j22b (c c' : CS) (h : (f22b c).run = some c') : CallC Try.prog 22 0 c c' := by
 obtain ⟨s, wl, n, f, rfl, hb⟩ := f22b_inv h
 obtain ⟨hn, hb2⟩ := chkT_run hb
 have hn := hn 0 _ rfl
 clear h hb
 have e := k22b_eq s wl n f
 rw [hn] at e
 cases h1 : Nat.beq (outV (qbV s) f n).length 0 <;> cases h2 : Nat.beq (outV (fun x => !(qbV s x)) f n).length 0 <;> rw [h1, h2] at hb2 e <;> simp only [T.run, cond_true, cond_false, Option.some.injEq] at hb2 e <;> subst hb2 <;> exact qF2.callC (Seen.refl _) e (Seen.refl _)
theorem j22c (c c' : CS) (h : (f22c c).run = some c') : CallC Try.prog 22 0 c c' := by
 obtain ⟨lo, bi, wl, n, f, rfl, hb⟩ := f22c_inv h
 obtain ⟨hn, hb2⟩ := chkT_run hb
 have hn := hn 0 _ rfl
 clear h hb
 have e := k22c_eq lo bi wl n f
 rw [hn] at e
 cases h1 : Nat.beq (outV (qcV lo bi) f n).length 0 <;> cases h2 : Nat.beq (outV (fun x => !(qcV lo bi x)) f n).length 0 <;> rw [h1, h2] at hb2 e <;> simp only [T.run, cond_true, cond_false, Option.some.injEq] at hb2 e <;> subst hb2 <;> exact qF2.callC (Seen.refl _) e (Seen.refl _)
theorem j22 (c c' : CS) (h : (f22 c).run = some c') : CallC Try.prog 22 0 c c' := by
 unfold f22 at h
 split at h
 ·exact j22a c c' h
 ·exact j22b c c' h
 ·exact j22c c c' h
 ·cases h
theorem qF3 : Bm.Good Try.prog F3 := qF2.addN (by kernel_rfl) j22
end Go.Proofs.Ytgflmdjlpjjnaaa.desk
end
section
set_option linter.unusedSimpArgs false
set_option linter.unusedVariables false
set_option maxRecDepth 20000
namespace Go.Proofs.Ytgflmdjlpjjnaaa.desk
open Go Go.RowKit Go.Proofs.Ytgflmdjlpjjnaaa.Bm
def firstW (q : Wt → Bool) : List Wt → Nat
 | [] => 0
 | x :: l => cond (q x) 0 (firstW q l + 1)
def idxF (q : Wt → Bool) (f : Nat → Nat → AV) (n : Nat) : Nat := firstW q (rdW f n)
theorem idxVE : ∃ q : (Wt → Bool) → (Nat → Nat → AV) → Nat → Nat, q = idxF := ⟨_, rfl⟩
noncomputable def idxV : (Wt → Bool) → (Nat → Nat → AV) → Nat → Nat := Classical.choose idxVE
theorem idxV_eq : idxV = idxF := Classical.choose_spec idxVE
def h40 : Pat := ⟨19, [(0, .asl shW), (1, .keep), (7, .keep), (8, .keep)], []⟩
def x40 : List (Ex × Pat) := [(.exit 0, ⟨19, [], []⟩), (.ret, ⟨19, [(4, .keep)], []⟩)]
def c40 (a : Int) (b : Int) (wl : Bool) (n : Nat) (f : Nat → Nat → AV) (i : Nat) : CS :=
 ⟨[.osl wl 0 0 n n 6 true, .func (.func 28) [] [.ptr 1 0, .ptr 2 0], .int .i64 (n : Nat), .int .i64 (i : Nat)], [some (.tarr shW n f false), some (.cells [.int .u64 a] false), some (.cells [.int .u64 b] false)]⟩
noncomputable def r40B  (a : Int) (b : Int) (wl : Bool) (n : Nat) (f : Nat → Nat → AV) : T (Nat × CS) :=
 chkT [Nat.ble n 1000] (.ask (Nat.blt (idxV (qdV a b) f n) n) (.ret (2, ⟨[.int .i64 ((idxV (qdV a b) f n) : Nat)], []⟩)) (.ret (1, ⟨[], []⟩)))
noncomputable def r40  (c : CS) : T (Nat × CS) := match c with
 | ⟨[.osl wl 0 0 n z_1 6 true, .func (.func 28) [] [.ptr 1 0, .ptr 2 0], .int .i64 z_2, .int .i64 z_3], [some (.tarr sh_4 z_5 f false), some (.cells [.int .u64 a] false), some (.cells [.int .u64 b] false)]⟩ => chkT [decide (n = z_1), decide ((n : Nat) = z_2), decide (0 = z_3), shBeq sh_4 shW, decide (n = z_5)] (r40B  a b wl n f)
 | _ => .fail
noncomputable def F4 : Env := addL F3 40 0 1000004 h40 x40 0 r40
def a29 (a : Int) (b : Int) (wl : Bool) (n : Nat) (f : Nat → Nat → AV) : CS :=
 ⟨[.osl wl 0 0 n n 6 true, .func (.func 28) [] [.ptr 1 0, .ptr 2 0]], [some (.tarr shW n f false), some (.cells [.int .u64 a] false), some (.cells [.int .u64 b] false)]⟩
noncomputable def f29B  (a : Int) (b : Int) (wl : Bool) (n : Nat) (f : Nat → Nat → AV) : T (CS) :=
 chkT [Nat.ble n 1000] (.ret ⟨[.bool (Nat.blt (idxV (qdV a b) f n) n)], []⟩)
noncomputable def f29  (c : CS) : T (CS) := match c with
 | ⟨[.osl wl 0 0 n z_1 6 true, .func (.func 28) [] [.ptr 1 0, .ptr 2 0]], [some (.tarr sh_2 z_3 f false), some (.cells [.int .u64 a] false), some (.cells [.int .u64 b] false)]⟩ => chkT [decide (n = z_1), shBeq sh_2 shW, decide (n = z_3)] (f29B  a b wl n f)
 | _ => .fail
noncomputable def F5 : Env := addF F4 29 ⟨frRun [.asl shW, .keep] [] f29⟩
def a13 (nd : Int) (sf : Int) (wl : Bool) (wn : Nat) (wf : Nat → Nat → AV) (rd : Int) (hs : AV → Bool) (hf : AV → Nat → AV) : CS :=
 ⟨[.ptr 0 0], [some (.cells [.int .i64 nd, .int .i64 sf, .osl wl 1 0 wn wn 6 true, .int .u64 rd, .map 2] false), some (.tarr shW wn wf false), some (.omap shI shU false false [.int .u64 0] hs hf false)]⟩
noncomputable def f13B  (nd : Int) (sf : Int) (wl : Bool) (wn : Nat) (wf : Nat → Nat → AV) (rd : Int) (hs : AV → Bool) (hf : AV → Nat → AV) : T (CS) :=
 chkT [Nat.ble wn 1000, (!wl || Nat.beq wn 0)] (.ret ⟨[.int .i64 (wn : Nat)], []⟩)
noncomputable def f13  (c : CS) : T (CS) := match c with
 | ⟨[.ptr 0 0], [some (.cells [.int .i64 nd, .int .i64 sf, .osl wl 1 0 wn z_1 6 true, .int .u64 rd, .map 2] false), some (.tarr sh_2 z_3 wf false), some (.omap sh_4 sh_5 false false sz_6 hs hf false)]⟩ => chkT [decide (wn = z_1), shBeq sh_2 shW, decide (wn = z_3), shBeq sh_4 shI, shBeq sh_5 shU, AV.beqL sz_6 [.int .u64 0]] (f13B  nd sf wl wn wf rd hs hf)
 | _ => .fail
noncomputable def F6 : Env := addF F5 13 ⟨frRun [.keep] [pD] f13⟩
noncomputable def s40 (a : Int) (b : Int) (wl : Bool) (n : Nat) (f : Nat → Nat → AV) (i : Nat) (π : Plan) : Option (Nat × CS) := stepC (F3) (300) (loopC F3 40 0) (0) (h40) ((.normal, h40) :: x40) π (c40 a b wl n f i)
def s40_p : Plan := (.fork (.reck 1 (.must true (.fork (.fork .stop .stop) .stop))) .stop)
theorem s40_is (a : Int) (b : Int) (wl : Bool) (n : Nat) (f : Nat → Nat → AV) (i : Nat) : s40 a b wl n f i s40_p = (cond (decide ((↑i : Int) < (↑n : Int)))
 (cond (decide ((↑i : Int) < (↑n : Int))) (cond (Nat.blt (0 + Int.toNat (↑i : Int)) n)
 (cond (qdV a b { cl := AV.toI (f (0 + Int.toNat (↑i : Int)) 0), rq := AV.toI (f (0 + Int.toNat (↑i : Int)) (1)), ix := AV.toI (f (0 + Int.toNat (↑i : Int)) (2)), fr := AV.toI (f (0 + Int.toNat (↑i : Int)) (3)), ct := AV.toI (f (0 + Int.toNat (↑i : Int)) (4)), rd := AV.toI (f (0 + Int.toNat (↑i : Int)) (5)) })
 (some (2, (CS.mk [(.int .i64 ((↑i : Int)))] [])))
 (some (0, (CS.mk [(.osl (wl) (0) (0) (n) (n) 6 true), (AV.func (Fn.func 28) [] [(.ptr (1) (0)), (.ptr (2) (0))]), (.int .i64 ((↑n : Int))), (.int .i64 (IntKind.wrap IntKind.i64 ((↑i : Int) + 1)))] [some (.tarr shW (n) f false), some (.cells [(.int .u64 (a))] false), some (.cells [(.int .u64 (b))] false)]))))
 none) none)
 (some (1, (CS.mk [] [])))) := by kernel_rfl
theorem s40_eq (a : Int) (b : Int) (wl : Bool) (n : Nat) (f : Nat → Nat → AV) (i : Nat) : s40 a b wl n f i s40_p = (cond (decide ((↑i : Int) < (↑n : Int)))
 (cond (Nat.blt (0 + Int.toNat (↑i : Int)) n)
 (cond (qdV a b { cl := AV.toI (f (0 + Int.toNat (↑i : Int)) 0), rq := AV.toI (f (0 + Int.toNat (↑i : Int)) (1)), ix := AV.toI (f (0 + Int.toNat (↑i : Int)) (2)), fr := AV.toI (f (0 + Int.toNat (↑i : Int)) (3)), ct := AV.toI (f (0 + Int.toNat (↑i : Int)) (4)), rd := AV.toI (f (0 + Int.toNat (↑i : Int)) (5)) })
 (some (2, (CS.mk [(.int .i64 ((↑i : Int)))] [])))
 (some (0, (CS.mk [(.osl (wl) (0) (0) (n) (n) 6 true), (AV.func (Fn.func 28) [] [(.ptr (1) (0)), (.ptr (2) (0))]), (.int .i64 ((↑n : Int))), (.int .i64 (IntKind.wrap IntKind.i64 ((↑i : Int) + 1)))] [some (.tarr shW (n) f false), some (.cells [(.int .u64 (a))] false), some (.cells [(.int .u64 (b))] false)]))))
 none)
 (some (1, (CS.mk [] [])))) := by
 rw [s40_is]
 try simp only [eq_self, decide_true, beq_self_eq_true, Nat.beq_refl, ble_self, Int.le_refl, Nat.le_refl]
 cases (decide ((↑i : Int) < (↑n : Int))) with
 | true =>
   cases (Nat.blt (0 + Int.toNat (↑i : Int)) n) with
   | true =>
     cases (qdV a b { cl := AV.toI (f (0 + Int.toNat (↑i : Int)) 0), rq := AV.toI (f (0 + Int.toNat (↑i : Int)) (1)), ix := AV.toI (f (0 + Int.toNat (↑i : Int)) (2)), fr := AV.toI (f (0 + Int.toNat (↑i : Int)) (3)), ct := AV.toI (f (0 + Int.toNat (↑i : Int)) (4)), rd := AV.toI (f (0 + Int.toNat (↑i : Int)) (5)) }) with
     | true =>
       rfl
     | false =>
       rfl
   | false =>
     rfl
 | false =>
   rfl
noncomputable def k29 (a : Int) (b : Int) (wl : Bool) (n : Nat) (f : Nat → Nat → AV) (π : Plan) : Option CS := callC (F4) (3000) (29) (0) (.keep) ([]) π (a29 a b wl n f)
def k29_p : Plan := (.must true (.must true (.reck 2 (.must true (.fork (.fork .stop .stop) .stop)))))
theorem k29_is (a : Int) (b : Int) (wl : Bool) (n : Nat) (f : Nat → Nat → AV) : k29 a b wl n f k29_p = (cond (decide (n = n)) (cond (decide ((↑n : Int) = (↑n : Int))) (cond (decide (n = n)) (cond (Nat.ble n 1000)
 (cond (Nat.blt (idxV (qdV a b) f n) n)
 (some (CS.mk [(AV.bool (true))] []))
 (some (CS.mk [(AV.bool (false))] [])))
 none) none) none) none) := by kernel_rfl
theorem k29_eq (a : Int) (b : Int) (wl : Bool) (n : Nat) (f : Nat → Nat → AV) : k29 a b wl n f k29_p = (cond (Nat.ble n 1000)
 (cond (Nat.blt (idxV (qdV a b) f n) n)
 (some (CS.mk [(AV.bool (true))] []))
 (some (CS.mk [(AV.bool (false))] [])))
 none) := by
 rw [k29_is]
 try simp only [eq_self, decide_true, beq_self_eq_true, Nat.beq_refl, ble_self, Int.le_refl, Nat.le_refl]
 cases (Nat.ble n 1000) with
 | true =>
   cases (Nat.blt (idxV (qdV a b) f n) n) with
   | true =>
     rfl
   | false =>
     rfl
 | false =>
   rfl
noncomputable def k13 (nd : Int) (sf : Int) (wl : Bool) (wn : Nat) (wf : Nat → Nat → AV) (rd : Int) (hs : AV → Bool) (hf : AV → Nat → AV) (π : Plan) : Option CS := callC (F5) (3000) (13) (0) (.keep) ([pD]) π (a13 nd sf wl wn wf rd hs hf)
def k13_p : Plan := (.reck 1 (.fork .stop (.must false (.fork (.fork .stop .stop) (.fork (.fork .stop .stop) .stop)))))
theorem k13_is (nd : Int) (sf : Int) (wl : Bool) (wn : Nat) (wf : Nat → Nat → AV) (rd : Int) (hs : AV → Bool) (hf : AV → Nat → AV) : k13 nd sf wl wn wf rd hs hf k13_p = (cond (wl)
 (some (CS.mk [(.int .i64 (0))] []))
 (cond (wl) none (cond (Nat.ble ((0) + (wn)) (0))
 (cond (Nat.ble (0 + wn) wn)
 (some (CS.mk [(.int .i64 (0))] []))
 none)
 (cond (growB (40) (0 + wn))
 (cond (Nat.ble (0 + wn) wn)
 (some (CS.mk [(.int .i64 ((↑(0 + wn) : Int)))] []))
 none)
 none)))) := by kernel_rfl
theorem k13_eq (nd : Int) (sf : Int) (wl : Bool) (wn : Nat) (wf : Nat → Nat → AV) (rd : Int) (hs : AV → Bool) (hf : AV → Nat → AV) : k13 nd sf wl wn wf rd hs hf k13_p = (cond (wl)
 (some (CS.mk [(.int .i64 (0))] []))
 (cond (Nat.ble ((0) + (wn)) (0))
 (cond (Nat.ble (0 + wn) wn)
 (some (CS.mk [(.int .i64 (0))] []))
 none)
 (cond (growB (40) (0 + wn))
 (cond (Nat.ble (0 + wn) wn)
 (some (CS.mk [(.int .i64 ((↑(0 + wn) : Int)))] []))
 none)
 none))) := by
 rw [k13_is]
 try simp only [eq_self, decide_true, beq_self_eq_true, Nat.beq_refl, ble_self, Int.le_refl, Nat.le_refl]
 cases (wl) with
 | true =>
   rfl
 | false =>
   cases (Nat.ble ((0) + (wn)) (0)) with
   | true =>
     cases (Nat.ble (0 + wn) wn) with
     | true =>
       rfl
     | false =>
       rfl
   | false =>
     cases (growB (40) (0 + wn)) with
     | true =>
       cases (Nat.ble (0 + wn) wn) with
       | true =>
         rfl
       | false =>
         rfl
     | false =>
       rfl
theorem r40_inv  {c : CS} {r : Nat × CS} (h : (r40  c).run = some r) : ∃ a b wl n f, c = c40 a b wl n f 0 ∧ (r40B  a b wl n f).run = some r := by
 unfold r40 at h
 split at h
 ·rename_i wl n z_1 z_2 z_3 sh_4 z_5 f a b
  obtain ⟨hc, hb⟩ := chkT_run h
  have h0 := hc 0 _ rfl
  have h0 := of_decide_eq_true h0; subst h0
  have h1 := hc 1 _ rfl
  have h1 := of_decide_eq_true h1; subst h1
  have h2 := hc 2 _ rfl
  have h2 := of_decide_eq_true h2; subst h2
  have h3 := hc 3 _ rfl
  have h3 := (shBeq_eq h3).symm; subst h3
  have h4 := hc 4 _ rfl
  have h4 := of_decide_eq_true h4; subst h4
  exact ⟨a, b, wl, n, f, rfl, hb⟩
 ·cases h
theorem f29_inv  {c : CS} {r : CS} (h : (f29  c).run = some r) : ∃ a b wl n f, c = a29 a b wl n f ∧ (f29B  a b wl n f).run = some r := by
 unfold f29 at h
 split at h
 ·rename_i wl n z_1 sh_2 z_3 f a b
  obtain ⟨hc, hb⟩ := chkT_run h
  have h0 := hc 0 _ rfl
  have h0 := of_decide_eq_true h0; subst h0
  have h1 := hc 1 _ rfl
  have h1 := (shBeq_eq h1).symm; subst h1
  have h2 := hc 2 _ rfl
  have h2 := of_decide_eq_true h2; subst h2
  exact ⟨a, b, wl, n, f, rfl, hb⟩
 ·cases h
theorem f13_inv  {c : CS} {r : CS} (h : (f13  c).run = some r) : ∃ nd sf wl wn wf rd hs hf, c = a13 nd sf wl wn wf rd hs hf ∧ (f13B  nd sf wl wn wf rd hs hf).run = some r := by
 unfold f13 at h
 split at h
 ·rename_i nd sf wl wn z_1 rd sh_2 z_3 wf sh_4 sh_5 sz_6 hs hf
  obtain ⟨hc, hb⟩ := chkT_run h
  have h0 := hc 0 _ rfl
  have h0 := of_decide_eq_true h0; subst h0
  have h1 := hc 1 _ rfl
  have h1 := (shBeq_eq h1).symm; subst h1
  have h2 := hc 2 _ rfl
  have h2 := of_decide_eq_true h2; subst h2
  have h3 := hc 3 _ rfl
  have h3 := (shBeq_eq h3).symm; subst h3
  have h4 := hc 4 _ rfl
  have h4 := (shBeq_eq h4).symm; subst h4
  have h5 := hc 5 _ rfl
  have h5 := AV.eq_of_beqL _ _ h5; subst h5
  exact ⟨nd, sf, wl, wn, wf, rd, hs, hf, rfl, hb⟩
 ·cases h
theorem firstW_spec (q : Wt → Bool) : ∀ l : List Wt, firstW q l ≤ l.length ∧ (∀ j, j < firstW q l → q (l.getD j nilW) = false) ∧ (firstW q l < l.length → q (l.getD (firstW q l) nilW) = true)
 | [] => ⟨Nat.le_refl _, fun j hj => by simp [firstW] at hj, fun h => by simp [firstW] at h⟩
 | x :: l => by
   obtain ⟨h1, h2, h3⟩ := firstW_spec q l
   cases hq : q x with
   | true => simp only [firstW, hq, cond_true]; exact ⟨Nat.zero_le _, fun j hj => absurd hj (Nat.not_lt_zero _), fun _ => hq⟩
   | false =>
     simp only [firstW, hq, cond_false, List.length_cons]
     refine ⟨by omega, fun j hj => ?_, fun h => ?_⟩
     ·cases j with
      | zero => exact hq
      | succ j => simpa using h2 j (by omega)
     ·simpa using h3 (by omega)
theorem idx_spec (p : Wt → Bool) (f : Nat → Nat → AV) (n : Nat) : idxV p f n ≤ n ∧ (∀ j, j < idxV p f n → p (wtAt f j) = false) ∧ (idxV p f n < n → p (wtAt f (idxV p f n)) = true) := by
 rw [idxV_eq]
 unfold idxF
 obtain ⟨h1, h2, h3⟩ := firstW_spec p (rdW f n)
 rw [rdW_len] at h1 h3
 refine ⟨h1, fun j hj => ?_, fun h => ?_⟩
 ·rw [← rdW_at (show j < n by omega)]; exact h2 j hj
 ·have := h3 h
  rw [rdW_at h] at this; exact this
theorem i40 (c : CS) (r : Nat × CS) (h : (r40 c).run = some r) : Loops (stepC F3 300 (loopC F3 40 0) 0 h40 ((.normal, h40) :: x40) s40_p) c r.1 r.2 := by
 obtain ⟨a, b, wl, n, f, rfl, hb⟩ := r40_inv h
 obtain ⟨hn, hb2⟩ := chkT_run hb
 have hn := le_of (hn 0 _ rfl)
 clear h hb
 obtain ⟨h1, h2, h3⟩ := idx_spec (qdV a b) f n
 have go : ∀ i, i < idxV (qdV a b) f n → ∃ c1, stepC F3 300 (loopC F3 40 0) 0 h40 ((.normal, h40) :: x40) s40_p (c40 a b wl n f i) = some (0, c1) ∧ Seen c1 (c40 a b wl n f (i + 1)) := fun i hi => by
  have e := s40_eq a b wl n f i
  simp only [lt1 (show i < n by omega), ix_, blt_t (show i < n by omega), cond_true] at e
  have hq : qdV a b { cl := (f i 0).toI, rq := (f i 1).toI, ix := (f i 2).toI, fr := (f i 3).toI, ct := (f i 4).toI, rd := (f i 5).toI } = false := h2 i hi
  rw [hq, wrap_i64s (by omega)] at e
  exact ⟨_, e, Seen.refl _⟩
 by_cases hlt : idxV (qdV a b) f n < n
 ·rw [blt_t hlt] at hb2
  simp only [T.run, cond_true, Option.some.injEq] at hb2; subst hb2
  have e := s40_eq a b wl n f (idxV (qdV a b) f n)
  simp only [lt1 hlt, ix_, blt_t hlt, cond_true] at e
  have hq : qdV a b { cl := (f (idxV (qdV a b) f n) 0).toI, rq := (f (idxV (qdV a b) f n) 1).toI, ix := (f (idxV (qdV a b) f n) 2).toI, fr := (f (idxV (qdV a b) f n) 3).toI, ct := (f (idxV (qdV a b) f n) 4).toI, rd := (f (idxV (qdV a b) f n) 5).toI } = true := h3 hlt
  rw [hq] at e
  exact Loops.for (C := fun i => c40 a b wl n f i) (n := idxV (qdV a b) f n) (k := 1) go ⟨_, e, Seen.refl _⟩
 ·rw [blt_f hlt] at hb2
  simp only [T.run, cond_false, Option.some.injEq] at hb2; subst hb2
  have he : idxV (qdV a b) f n = n := by omega
  rw [he] at go
  have e := s40_eq a b wl n f n
  rw [lt0] at e
  exact Loops.for (C := fun i => c40 a b wl n f i) (n := n) (k := 0) go ⟨_, e, Seen.refl _⟩
theorem qF4 : Bm.Good Try.prog F4 := qF3.addS (by kernel_rfl) rfl (by decide) (by decide) rfl i40
theorem j29 (c c' : CS) (h : (f29 c).run = some c') : ∃ m pr ros π, callC F4 m 29 0 pr ros π c = some c' := by
 obtain ⟨a, b, wl, n, f, rfl, hb⟩ := f29_inv h
 obtain ⟨hn, hb2⟩ := chkT_run hb
 have hn := hn 0 _ rfl
 simp only [T.run, Option.some.injEq] at hb2; subst hb2
 refine ⟨3000, .keep, [], k29_p, (k29_eq a b wl n f).trans ?_⟩
 rw [hn]
 cases Nat.blt (idxV (qdV a b) f n) n <;> rfl
theorem qF5 : Bm.Good Try.prog F5 := qF4.addR qF4 (by kernel_rfl) j29
theorem j13 (c c' : CS) (h : (f13 c).run = some c') : ∃ m pr ros π, callC F5 m 13 0 pr ros π c = some c' := by
 obtain ⟨nd, sf, wl, wn, wf, rd, hs, hf, rfl, hb⟩ := f13_inv h
 obtain ⟨hn, hb2⟩ := chkT_run hb
 have h1 := le_of (hn 0 _ rfl)
 have h2 := hn 1 _ rfl
 simp only [T.run, Option.some.injEq] at hb2; subst hb2
 refine ⟨3000, .keep, [pD], k13_p, (k13_eq nd sf wl wn wf rd hs hf).trans ?_⟩
 cases wl with
 | true =>
   have : wn = 0 := by simpa using h2
   subst this; rfl
 | false =>
   simp only [Nat.zero_add, grow40 (show wn ≤ 2000000 by omega), ble_t (Nat.le_refl wn), cond_true, cond_false]
   by_cases h0 : wn = 0
   ·subst h0; rfl
   ·rw [ble_f (show ¬ wn ≤ 0 by omega)]; rfl
theorem qF6 : Bm.Good Try.prog F6 := qF5.addR qF5 (by kernel_rfl) j13
end Go.Proofs.Ytgflmdjlpjjnaaa.desk
end
