/- Part 2 of the texts that YtgflmdjlpjjnaaaLawSure needs: an abstract machine, and what it reckons. No condition. -/
import Derived.Test.YtgflmdjlpjjnaaaRows
import Derived.Test.YtgflmdjlpjjnaaaBmVk
import Derived.KernelRfl
import Derived.Test.YtgflmdjlpjjnaaaSsA
section
set_option linter.unusedSimpArgs false
set_option linter.unusedVariables false
set_option maxRecDepth 20000
namespace Go.Proofs.Ytgflmdjlpjjnaaa.desk
open Go Go.RowKit Go.Proofs.Ytgflmdjlpjjnaaa.Bm
def a141 (nd : Int) (sf : Int) (wn : Nat) (wf : Nat → Nat → AV) (rd : Int) (hs : AV → Bool) (hf : AV → Nat → AV) (a : Int) (b : Int) (x : Int) : CS :=
 ⟨[.ptr 0 0, .int .u64 a, .int .u64 b, .int .u64 x], [some (.cells [.int .i64 nd, .int .i64 sf, .osl false 1 0 wn wn 6 true, .int .u64 rd, .map 2] true), some (.tarr shW wn wf true), some (.omap shI shU false false [.int .u64 0] hs hf true)]⟩
def a151 (nd : Int) (sf : Int) (wn : Nat) (wf : Nat → Nat → AV) (rd : Int) (hs : AV → Bool) (hf : AV → Nat → AV) (lo : Int) (bi : Int) : CS :=
 ⟨[.ptr 0 0, .agg [.int .u64 lo, .int .u64 bi]], [some (.cells [.int .i64 nd, .int .i64 sf, .osl false 1 0 wn wn 6 true, .int .u64 rd, .map 2] true), some (.tarr shW wn wf true), some (.omap shI shU false false [.int .u64 0] hs hf true)]⟩
def a140 (nd : Int) (sf : Int) (rd : Int) (hs : AV → Bool) (hf : AV → Nat → AV) (a : Int) (b : Int) (x : Int) : CS :=
 ⟨[.ptr 0 0, .int .u64 a, .int .u64 b, .int .u64 x], [some (.cells [.int .i64 nd, .int .i64 sf, .nilSlice, .int .u64 rd, .map 2] true), none, some (.omap shI shU false false [.int .u64 0] hs hf true)]⟩
def a150 (nd : Int) (sf : Int) (rd : Int) (hs : AV → Bool) (hf : AV → Nat → AV) (lo : Int) (bi : Int) : CS :=
 ⟨[.ptr 0 0, .agg [.int .u64 lo, .int .u64 bi]], [some (.cells [.int .i64 nd, .int .i64 sf, .nilSlice, .int .u64 rd, .map 2] true), none, some (.omap shI shU false false [.int .u64 0] hs hf true)]⟩
def a81 (nd : Int) (sf : Int) (wn : Nat) (wf : Nat → Nat → AV) (rd : Int) (hs : AV → Bool) (hf : AV → Nat → AV) (a : Int) (b : Int) (x : Int) (y : Int) : CS :=
 ⟨[.ptr 0 0, .int .u64 a, .int .u64 b, .agg [.int .u32 x, .int .u32 y]], [some (.cells [.int .i64 nd, .int .i64 sf, .osl false 1 0 wn wn 6 true, .int .u64 rd, .map 2] true), some (.tarr shW wn wf true), some (.omap shI shU false false [.int .u64 0] hs hf true)]⟩
def a111 (nd : Int) (sf : Int) (wn : Nat) (wf : Nat → Nat → AV) (rd : Int) (hs : AV → Bool) (hf : AV → Nat → AV) (k : Int) (r : Int) : CS :=
 ⟨[.ptr 0 0, .int .i64 k, .int .u64 r], [some (.cells [.int .i64 nd, .int .i64 sf, .osl false 1 0 wn wn 6 true, .int .u64 rd, .map 2] true), some (.tarr shW wn wf true), some (.omap shI shU false false [.int .u64 0] hs hf true)]⟩
def a80 (nd : Int) (sf : Int) (rd : Int) (hs : AV → Bool) (hf : AV → Nat → AV) (a : Int) (b : Int) (x : Int) (y : Int) : CS :=
 ⟨[.ptr 0 0, .int .u64 a, .int .u64 b, .agg [.int .u32 x, .int .u32 y]], [some (.cells [.int .i64 nd, .int .i64 sf, .nilSlice, .int .u64 rd, .map 2] true), none, some (.omap shI shU false false [.int .u64 0] hs hf true)]⟩
def a110 (nd : Int) (sf : Int) (rd : Int) (hs : AV → Bool) (hf : AV → Nat → AV) (k : Int) (r : Int) : CS :=
 ⟨[.ptr 0 0, .int .i64 k, .int .u64 r], [some (.cells [.int .i64 nd, .int .i64 sf, .nilSlice, .int .u64 rd, .map 2] true), none, some (.omap shI shU false false [.int .u64 0] hs hf true)]⟩
def apdF (L : List Wt) (x : Wt) : List Wt := L ++ [x]
def heU (nd sf rd k r : Int) : Bool := decide (k ≥ 0) && (decide (k < nd) && (k != sf && decide (r ≤ rd)))
def heS (u : Bool) (k : Int) (hs : AV → Bool) : AV → Bool := cond u (fun x => cond (AV.beq x (.int .i64 k)) true (hs x)) hs
def heF (u : Bool) (k r : Int) (hs : AV → Bool) (hf : AV → Nat → AV) : AV → Nat → AV := cond u (fun x j => cond (AV.beq x (.int .i64 k)) (getAt [.int .u64 (if r > AV.toI (cond (hs (.int .i64 k)) (hf (.int .i64 k) 0) (.int .u64 0)) then r else AV.toI (cond (hs (.int .i64 k)) (hf (.int .i64 k) 0) (.int .u64 0)))] j) (hf x j)) hf
theorem apdVE : ∃ q : List Wt → Wt → List Wt, q = apdF := ⟨_, rfl⟩
noncomputable def apdV : List Wt → Wt → List Wt := Classical.choose apdVE
theorem apdV_eq : apdV = apdF := Classical.choose_spec apdVE
theorem heUVE : ∃ q : Int → Int → Int → Int → Int → Bool, q = heU := ⟨_, rfl⟩
noncomputable def heUV : Int → Int → Int → Int → Int → Bool := Classical.choose heUVE
theorem heUV_eq : heUV = heU := Classical.choose_spec heUVE
theorem heSVE : ∃ q : Bool → Int → (AV → Bool) → AV → Bool, q = heS := ⟨_, rfl⟩
noncomputable def heSV : Bool → Int → (AV → Bool) → AV → Bool := Classical.choose heSVE
theorem heSV_eq : heSV = heS := Classical.choose_spec heSVE
theorem heFVE : ∃ q : Bool → Int → Int → (AV → Bool) → (AV → Nat → AV) → AV → Nat → AV, q = heF := ⟨_, rfl⟩
noncomputable def heFV : Bool → Int → Int → (AV → Bool) → (AV → Nat → AV) → AV → Nat → AV := Classical.choose heFVE
theorem heFV_eq : heFV = heF := Classical.choose_spec heFVE
def g14 (nd : Int) (sf : Int) (wl : Bool) (wn : Nat) (wf : Nat → Nat → AV) (rd : Int) (hs : AV → Bool) (hf : AV → Nat → AV) (a : Int) (b : Int) (x : Int) : CS :=
 ⟨[.ptr 0 0, .int .u64 a, .int .u64 b, .int .u64 x], [some (.cells [.int .i64 nd, .int .i64 sf, .osl wl 1 0 wn wn 6 true, .int .u64 rd, .map 2] true), some (.tarr shW wn wf true), some (.omap shI shU false false [.int .u64 0] hs hf true)]⟩
noncomputable def f14B  (nd : Int) (sf : Int) (wl : Bool) (wn : Nat) (wf : Nat → Nat → AV) (rd : Int) (hs : AV → Bool) (hf : AV → Nat → AV) (a : Int) (b : Int) (x : Int) : T (CS) :=
 chkT [decide (1 ≤ nd), decide (nd ≤ 7), Nat.ble wn 1000, (!wl || Nat.beq wn 0)] (.ask (x == 0) (.ask wl (.ret ⟨[.int .i64 2], [some (.cells [.int .i64 nd, .int .i64 sf, .osl true 1 0 0 0 6 true, .int .u64 rd, .map 2] true), some (.tarr shW 0 (fun _ _ => .bad) true), some (.omap shI shU false false [.int .u64 0] hs hf true)]⟩) (.ret ⟨[.int .i64 2], [some (.cells [.int .i64 nd, .int .i64 sf, .osl false 1 0 wn wn 6 true, .int .u64 rd, .map 2] true), some (.tarr shW wn wf true), some (.omap shI shU false false [.int .u64 0] hs hf true)]⟩)) (.ask (Nat.blt (idxV (qdV a b) wf wn) wn) (.ask wl (.ret ⟨[.int .i64 0], [some (.cells [.int .i64 nd, .int .i64 sf, .osl true 1 0 0 0 6 true, .int .u64 rd, .map 2] true), some (.tarr shW 0 (fun _ _ => .bad) true), some (.omap shI shU false false [.int .u64 0] hs hf true)]⟩) (.ret ⟨[.int .i64 0], [some (.cells [.int .i64 nd, .int .i64 sf, .osl false 1 0 wn wn 6 true, .int .u64 rd, .map 2] true), some (.tarr shW wn wf true), some (.omap shI shU false false [.int .u64 0] hs hf true)]⟩)) (.ask (Nat.ble 64 wn) (.ask wl (.ret ⟨[.int .i64 53], [some (.cells [.int .i64 nd, .int .i64 sf, .osl true 1 0 0 0 6 true, .int .u64 rd, .map 2] true), some (.tarr shW 0 (fun _ _ => .bad) true), some (.omap shI shU false false [.int .u64 0] hs hf true)]⟩) (.ret ⟨[.int .i64 53], [some (.cells [.int .i64 nd, .int .i64 sf, .osl false 1 0 wn wn 6 true, .int .u64 rd, .map 2] true), some (.tarr shW wn wf true), some (.omap shI shU false false [.int .u64 0] hs hf true)]⟩)) (.ret ⟨[.int .i64 0], [some (.cells [.int .i64 nd, .int .i64 sf, .osl false 1 0 (apdV (rdW wf wn) ⟨a, b, x, 0, 0, 0⟩).length (apdV (rdW wf wn) ⟨a, b, x, 0, 0, 0⟩).length 6 true, .int .u64 rd, .map 2] true), some (.tarr shW (apdV (rdW wf wn) ⟨a, b, x, 0, 0, 0⟩).length (finW (apdV (rdW wf wn) ⟨a, b, x, 0, 0, 0⟩)) true), some (.omap shI shU false false [.int .u64 0] hs hf true)]⟩))))
noncomputable def f14  (c : CS) : T (CS) := match c with
 | ⟨[.ptr 0 0, .int .u64 a, .int .u64 b, .int .u64 x], [some (.cells [.int .i64 nd, .int .i64 sf, .osl wl 1 0 wn z_1 6 true, .int .u64 rd, .map 2] true), some (.tarr sh_2 z_3 wf true), some (.omap sh_4 sh_5 false false sz_6 hs hf true)]⟩ => chkT [decide (wn = z_1), shBeq sh_2 shW, decide (wn = z_3), shBeq sh_4 shI, shBeq sh_5 shU, AV.beqL sz_6 [.int .u64 0]] (f14B  nd sf wl wn wf rd hs hf a b x)
 | _ => .fail
def g8 (nd : Int) (sf : Int) (wl : Bool) (wn : Nat) (wf : Nat → Nat → AV) (rd : Int) (hs : AV → Bool) (hf : AV → Nat → AV) (a : Int) (b : Int) (x : Int) (y : Int) : CS :=
 ⟨[.ptr 0 0, .int .u64 a, .int .u64 b, .agg [.int .u32 x, .int .u32 y]], [some (.cells [.int .i64 nd, .int .i64 sf, .osl wl 1 0 wn wn 6 true, .int .u64 rd, .map 2] true), some (.tarr shW wn wf true), some (.omap shI shU false false [.int .u64 0] hs hf true)]⟩
noncomputable def f8B  (nd : Int) (sf : Int) (wl : Bool) (wn : Nat) (wf : Nat → Nat → AV) (rd : Int) (hs : AV → Bool) (hf : AV → Nat → AV) (a : Int) (b : Int) (x : Int) (y : Int) : T (CS) :=
 chkT [decide (1 ≤ nd), decide (nd ≤ 7), Nat.ble wn 1000, (!wl || Nat.beq wn 0)] (.ask (Nat.ble 64 (outV (fun x => !(qaV a b x)) wf wn).length) (.ret ⟨[.tuple [.int .u64 0, .int .i64 53]], [some (.cells [.int .i64 nd, .int .i64 sf, .osl false 1 0 (outV (fun x => !(qaV a b x)) wf wn).length (outV (fun x => !(qaV a b x)) wf wn).length 6 true, .int .u64 rd, .map 2] true), some (.tarr shW (outV (fun x => !(qaV a b x)) wf wn).length (finW (outV (fun x => !(qaV a b x)) wf wn)) true), some (.omap shI shU false false [.int .u64 0] hs hf true)]⟩) (.ret ⟨[.tuple [.int .u64 (IntKind.wrap .u64 (rd + 1)), .int .i64 0]], [some (.cells [.int .i64 nd, .int .i64 sf, .osl false 1 0 (apdV (outV (fun x => !(qaV a b x)) wf wn) ⟨a, b, 0, x, y, IntKind.wrap .u64 (rd + 1)⟩).length (apdV (outV (fun x => !(qaV a b x)) wf wn) ⟨a, b, 0, x, y, IntKind.wrap .u64 (rd + 1)⟩).length 6 true, .int .u64 (IntKind.wrap .u64 (rd + 1)), .map 2] true), some (.tarr shW (apdV (outV (fun x => !(qaV a b x)) wf wn) ⟨a, b, 0, x, y, IntKind.wrap .u64 (rd + 1)⟩).length (finW (apdV (outV (fun x => !(qaV a b x)) wf wn) ⟨a, b, 0, x, y, IntKind.wrap .u64 (rd + 1)⟩)) true), some (.omap shI shU false false [.int .u64 0] hs hf true)]⟩))
noncomputable def f8  (c : CS) : T (CS) := match c with
 | ⟨[.ptr 0 0, .int .u64 a, .int .u64 b, .agg [.int .u32 x, .int .u32 y]], [some (.cells [.int .i64 nd, .int .i64 sf, .osl wl 1 0 wn z_1 6 true, .int .u64 rd, .map 2] true), some (.tarr sh_2 z_3 wf true), some (.omap sh_4 sh_5 false false sz_6 hs hf true)]⟩ => chkT [decide (wn = z_1), shBeq sh_2 shW, decide (wn = z_3), shBeq sh_4 shI, shBeq sh_5 shU, AV.beqL sz_6 [.int .u64 0]] (f8B  nd sf wl wn wf rd hs hf a b x y)
 | _ => .fail
def g15 (nd : Int) (sf : Int) (wl : Bool) (wn : Nat) (wf : Nat → Nat → AV) (rd : Int) (hs : AV → Bool) (hf : AV → Nat → AV) (lo : Int) (bi : Int) : CS :=
 ⟨[.ptr 0 0, .agg [.int .u64 lo, .int .u64 bi]], [some (.cells [.int .i64 nd, .int .i64 sf, .osl wl 1 0 wn wn 6 true, .int .u64 rd, .map 2] true), some (.tarr shW wn wf true), some (.omap shI shU false false [.int .u64 0] hs hf true)]⟩
noncomputable def f15B  (nd : Int) (sf : Int) (wl : Bool) (wn : Nat) (wf : Nat → Nat → AV) (rd : Int) (hs : AV → Bool) (hf : AV → Nat → AV) (lo : Int) (bi : Int) : T (CS) :=
 chkT [decide (1 ≤ nd), decide (nd ≤ 7), Nat.ble wn 1000, (!wl || Nat.beq wn 0)] (.ask (Nat.beq (outV (qcV lo bi) wf wn).length 0) (.ask (Nat.beq (outV (fun x => !(qcV lo bi x)) wf wn).length 0) (.ret ⟨[.osl true 1 0 0 0 6 true], [some (.cells [.int .i64 nd, .int .i64 sf, .osl true 2 0 0 0 6 true, .int .u64 rd, .map 3] true), some (.tarr shW 0 (fun _ _ => .bad) true), some (.tarr shW 0 (fun _ _ => .bad) true), some (.omap shI shU false false [.int .u64 0] hs hf true)]⟩) (.ret ⟨[.osl true 1 0 0 0 6 true], [some (.cells [.int .i64 nd, .int .i64 sf, .osl false 2 0 (outV (fun x => !(qcV lo bi x)) wf wn).length (outV (fun x => !(qcV lo bi x)) wf wn).length 6 true, .int .u64 rd, .map 3] true), some (.tarr shW 0 (fun _ _ => .bad) true), some (.tarr shW (outV (fun x => !(qcV lo bi x)) wf wn).length (finW (outV (fun x => !(qcV lo bi x)) wf wn)) true), some (.omap shI shU false false [.int .u64 0] hs hf true)]⟩)) (.ask (Nat.beq (outV (fun x => !(qcV lo bi x)) wf wn).length 0) (.ret ⟨[.osl false 1 0 (outV (qcV lo bi) wf wn).length (outV (qcV lo bi) wf wn).length 6 true], [some (.cells [.int .i64 nd, .int .i64 sf, .osl true 2 0 0 0 6 true, .int .u64 rd, .map 3] true), some (.tarr shW (outV (qcV lo bi) wf wn).length (finW (outV (qcV lo bi) wf wn)) true), some (.tarr shW 0 (fun _ _ => .bad) true), some (.omap shI shU false false [.int .u64 0] hs hf true)]⟩) (.ret ⟨[.osl false 1 0 (outV (qcV lo bi) wf wn).length (outV (qcV lo bi) wf wn).length 6 true], [some (.cells [.int .i64 nd, .int .i64 sf, .osl false 2 0 (outV (fun x => !(qcV lo bi x)) wf wn).length (outV (fun x => !(qcV lo bi x)) wf wn).length 6 true, .int .u64 rd, .map 3] true), some (.tarr shW (outV (qcV lo bi) wf wn).length (finW (outV (qcV lo bi) wf wn)) true), some (.tarr shW (outV (fun x => !(qcV lo bi x)) wf wn).length (finW (outV (fun x => !(qcV lo bi x)) wf wn)) true), some (.omap shI shU false false [.int .u64 0] hs hf true)]⟩)))
noncomputable def f15  (c : CS) : T (CS) := match c with
 | ⟨[.ptr 0 0, .agg [.int .u64 lo, .int .u64 bi]], [some (.cells [.int .i64 nd, .int .i64 sf, .osl wl 1 0 wn z_1 6 true, .int .u64 rd, .map 2] true), some (.tarr sh_2 z_3 wf true), some (.omap sh_4 sh_5 false false sz_6 hs hf true)]⟩ => chkT [decide (wn = z_1), shBeq sh_2 shW, decide (wn = z_3), shBeq sh_4 shI, shBeq sh_5 shU, AV.beqL sz_6 [.int .u64 0]] (f15B  nd sf wl wn wf rd hs hf lo bi)
 | _ => .fail
def g11 (nd : Int) (sf : Int) (wl : Bool) (wn : Nat) (wf : Nat → Nat → AV) (rd : Int) (hs : AV → Bool) (hf : AV → Nat → AV) (k : Int) (r : Int) : CS :=
 ⟨[.ptr 0 0, .int .i64 k, .int .u64 r], [some (.cells [.int .i64 nd, .int .i64 sf, .osl wl 1 0 wn wn 6 true, .int .u64 rd, .map 2] true), some (.tarr shW wn wf true), some (.omap shI shU false false [.int .u64 0] hs hf true)]⟩
noncomputable def f11B  (nd : Int) (sf : Int) (wl : Bool) (wn : Nat) (wf : Nat → Nat → AV) (rd : Int) (hs : AV → Bool) (hf : AV → Nat → AV) (k : Int) (r : Int) : T (CS) :=
 chkT [decide (1 ≤ nd), decide (nd ≤ 7), Nat.ble wn 1000, (!wl || Nat.beq wn 0)] (.ask (Nat.beq (outV (qbV (leastV nd sf rd (heSV (heUV nd sf rd k r) k hs) (heFV (heUV nd sf rd k r) k r hs hf))) wf wn).length 0) (.ask (Nat.beq (outV (fun x => !(qbV (leastV nd sf rd (heSV (heUV nd sf rd k r) k hs) (heFV (heUV nd sf rd k r) k r hs hf)) x)) wf wn).length 0) (.ret ⟨[.osl true 1 0 0 0 6 true], [some (.cells [.int .i64 nd, .int .i64 sf, .osl true 2 0 0 0 6 true, .int .u64 rd, .map 3] true), some (.tarr shW 0 (fun _ _ => .bad) true), some (.tarr shW 0 (fun _ _ => .bad) true), some (.omap shI shU false false [.int .u64 0] (heSV (heUV nd sf rd k r) k hs) (heFV (heUV nd sf rd k r) k r hs hf) true)]⟩) (.ret ⟨[.osl true 1 0 0 0 6 true], [some (.cells [.int .i64 nd, .int .i64 sf, .osl false 2 0 (outV (fun x => !(qbV (leastV nd sf rd (heSV (heUV nd sf rd k r) k hs) (heFV (heUV nd sf rd k r) k r hs hf)) x)) wf wn).length (outV (fun x => !(qbV (leastV nd sf rd (heSV (heUV nd sf rd k r) k hs) (heFV (heUV nd sf rd k r) k r hs hf)) x)) wf wn).length 6 true, .int .u64 rd, .map 3] true), some (.tarr shW 0 (fun _ _ => .bad) true), some (.tarr shW (outV (fun x => !(qbV (leastV nd sf rd (heSV (heUV nd sf rd k r) k hs) (heFV (heUV nd sf rd k r) k r hs hf)) x)) wf wn).length (finW (outV (fun x => !(qbV (leastV nd sf rd (heSV (heUV nd sf rd k r) k hs) (heFV (heUV nd sf rd k r) k r hs hf)) x)) wf wn)) true), some (.omap shI shU false false [.int .u64 0] (heSV (heUV nd sf rd k r) k hs) (heFV (heUV nd sf rd k r) k r hs hf) true)]⟩)) (.ask (Nat.beq (outV (fun x => !(qbV (leastV nd sf rd (heSV (heUV nd sf rd k r) k hs) (heFV (heUV nd sf rd k r) k r hs hf)) x)) wf wn).length 0) (.ret ⟨[.osl false 1 0 (outV (qbV (leastV nd sf rd (heSV (heUV nd sf rd k r) k hs) (heFV (heUV nd sf rd k r) k r hs hf))) wf wn).length (outV (qbV (leastV nd sf rd (heSV (heUV nd sf rd k r) k hs) (heFV (heUV nd sf rd k r) k r hs hf))) wf wn).length 6 true], [some (.cells [.int .i64 nd, .int .i64 sf, .osl true 2 0 0 0 6 true, .int .u64 rd, .map 3] true), some (.tarr shW (outV (qbV (leastV nd sf rd (heSV (heUV nd sf rd k r) k hs) (heFV (heUV nd sf rd k r) k r hs hf))) wf wn).length (finW (outV (qbV (leastV nd sf rd (heSV (heUV nd sf rd k r) k hs) (heFV (heUV nd sf rd k r) k r hs hf))) wf wn)) true), some (.tarr shW 0 (fun _ _ => .bad) true), some (.omap shI shU false false [.int .u64 0] (heSV (heUV nd sf rd k r) k hs) (heFV (heUV nd sf rd k r) k r hs hf) true)]⟩) (.ret ⟨[.osl false 1 0 (outV (qbV (leastV nd sf rd (heSV (heUV nd sf rd k r) k hs) (heFV (heUV nd sf rd k r) k r hs hf))) wf wn).length (outV (qbV (leastV nd sf rd (heSV (heUV nd sf rd k r) k hs) (heFV (heUV nd sf rd k r) k r hs hf))) wf wn).length 6 true], [some (.cells [.int .i64 nd, .int .i64 sf, .osl false 2 0 (outV (fun x => !(qbV (leastV nd sf rd (heSV (heUV nd sf rd k r) k hs) (heFV (heUV nd sf rd k r) k r hs hf)) x)) wf wn).length (outV (fun x => !(qbV (leastV nd sf rd (heSV (heUV nd sf rd k r) k hs) (heFV (heUV nd sf rd k r) k r hs hf)) x)) wf wn).length 6 true, .int .u64 rd, .map 3] true), some (.tarr shW (outV (qbV (leastV nd sf rd (heSV (heUV nd sf rd k r) k hs) (heFV (heUV nd sf rd k r) k r hs hf))) wf wn).length (finW (outV (qbV (leastV nd sf rd (heSV (heUV nd sf rd k r) k hs) (heFV (heUV nd sf rd k r) k r hs hf))) wf wn)) true), some (.tarr shW (outV (fun x => !(qbV (leastV nd sf rd (heSV (heUV nd sf rd k r) k hs) (heFV (heUV nd sf rd k r) k r hs hf)) x)) wf wn).length (finW (outV (fun x => !(qbV (leastV nd sf rd (heSV (heUV nd sf rd k r) k hs) (heFV (heUV nd sf rd k r) k r hs hf)) x)) wf wn)) true), some (.omap shI shU false false [.int .u64 0] (heSV (heUV nd sf rd k r) k hs) (heFV (heUV nd sf rd k r) k r hs hf) true)]⟩)))
noncomputable def f11  (c : CS) : T (CS) := match c with
 | ⟨[.ptr 0 0, .int .i64 k, .int .u64 r], [some (.cells [.int .i64 nd, .int .i64 sf, .osl wl 1 0 wn z_1 6 true, .int .u64 rd, .map 2] true), some (.tarr sh_2 z_3 wf true), some (.omap sh_4 sh_5 false false sz_6 hs hf true)]⟩ => chkT [decide (wn = z_1), shBeq sh_2 shW, decide (wn = z_3), shBeq sh_4 shI, shBeq sh_5 shU, AV.beqL sz_6 [.int .u64 0]] (f11B  nd sf wl wn wf rd hs hf k r)
 | _ => .fail
noncomputable def F7 : Env := addF F6 14 ⟨fiRun [.keep, .keep, .keep, .keep] [pD] 1 f14⟩
noncomputable def F8 : Env := addF F7 8 ⟨fiRun [.keep, .keep, .keep, .keep] [pD] 1 f8⟩
noncomputable def F9 : Env := addF F8 15 ⟨fiRun [.keep, .keep] [pD] 1 f15⟩
noncomputable def FA : Env := addF F9 11 ⟨fiRun [.keep, .keep, .keep] [pD] 1 f11⟩
noncomputable def k141 (nd : Int) (sf : Int) (wn : Nat) (wf : Nat → Nat → AV) (rd : Int) (hs : AV → Bool) (hf : AV → Nat → AV) (a : Int) (b : Int) (x : Int) (π : Plan) : Option CS := callC (F6) (3000) (14) (1) (.keep) ([pD]) π (a141 nd sf wn wf rd hs hf a b x)
def k141_p : Plan := (.reck 6 (.fork .stop (.fork .stop (.must true (.reck 1 (.must true (.fork (.fork .stop (.fork .stop (.reck 1 (.must false (.fork (.fork (.must true (.must true (.reck 2 (.must true (.must true .stop))))) .stop) .stop))))) .stop)))))))
theorem k141_is (nd : Int) (sf : Int) (wn : Nat) (wf : Nat → Nat → AV) (rd : Int) (hs : AV → Bool) (hf : AV → Nat → AV) (a : Int) (b : Int) (x : Int) : k141 nd sf wn wf rd hs hf a b x k141_p = (cond (nd == 0)
 (some (CS.mk [(.int .i64 (1))] [some (.cells [(.int .i64 nd), (.int .i64 sf), (.osl (false) (1) (0) (wn) (wn) 6 true), (.int .u64 rd), (.map (2))] true), some (.tarr shW (wn) wf true), some (.omap shI shU false false [(.int .u64 0)] hs hf true)]))
 (cond (x == 0)
 (some (CS.mk [(.int .i64 (2))] [some (.cells [(.int .i64 nd), (.int .i64 sf), (.osl (false) (1) (0) (wn) (wn) 6 true), (.int .u64 rd), (.map (2))] true), some (.tarr shW (wn) wf true), some (.omap shI shU false false [(.int .u64 0)] hs hf true)]))
 (cond (decide (wn = wn)) (cond (decide (wn = wn)) (cond (Nat.ble wn 1000)
 (cond (Nat.blt (idxV (qdV a b) wf wn) wn)
 (some (CS.mk [(.int .i64 (0))] [some (.cells [(.int .i64 nd), (.int .i64 sf), (.osl (false) (1) (0) (wn) (wn) 6 true), (.int .u64 rd), (.map (2))] true), some (.tarr shW (wn) wf true), some (.omap shI shU false false [(.int .u64 0)] hs hf true)]))
 (cond (decide ((↑wn : Int) ≥ 64))
 (some (CS.mk [(.int .i64 (53))] [some (.cells [(.int .i64 nd), (.int .i64 sf), (.osl (false) (1) (0) (wn) (wn) 6 true), (.int .u64 rd), (.map (2))] true), some (.tarr shW (wn) wf true), some (.omap shI shU false false [(.int .u64 0)] hs hf true)]))
 (cond (Nat.ble ((wn) + (1)) (wn)) none (cond (growB (40) (wn + 1))
 (cond (Nat.ble (0 + wn) wn)
 (cond (decide (b = b)) (cond (decide (a = a)) (cond (Nat.beq wn wn) (cond (Nat.beq wn wn) (some (CS.mk [(.int .i64 (0))] [some (.cells [(.int .i64 nd), (.int .i64 sf), (.osl (false) (1) (0) (wn + 1) (wn + 1) 6 true), (.int .u64 rd), (.map (2))] true), some (.tarr shW (wn + 1) (fjoin (fun p_ q_ => wf (0 + p_) q_) (wn) (rowsOf (6) [(.int .u64 (a)), (.int .u64 (b)), (.int .u64 (x)), (.int .u32 (0)), (.int .u32 (0)), (.int .u64 0)] (1))) true), some (.omap shI shU false false [(.int .u64 0)] hs hf true)])) none) none) none) none)
 none)
 none))))
 none) none) none))) := by kernel_rfl
theorem k141_eq (nd : Int) (sf : Int) (wn : Nat) (wf : Nat → Nat → AV) (rd : Int) (hs : AV → Bool) (hf : AV → Nat → AV) (a : Int) (b : Int) (x : Int) : k141 nd sf wn wf rd hs hf a b x k141_p = (cond (nd == 0)
 (some (CS.mk [(.int .i64 (1))] [some (.cells [(.int .i64 nd), (.int .i64 sf), (.osl (false) (1) (0) (wn) (wn) 6 true), (.int .u64 rd), (.map (2))] true), some (.tarr shW (wn) wf true), some (.omap shI shU false false [(.int .u64 0)] hs hf true)]))
 (cond (x == 0)
 (some (CS.mk [(.int .i64 (2))] [some (.cells [(.int .i64 nd), (.int .i64 sf), (.osl (false) (1) (0) (wn) (wn) 6 true), (.int .u64 rd), (.map (2))] true), some (.tarr shW (wn) wf true), some (.omap shI shU false false [(.int .u64 0)] hs hf true)]))
 (cond (Nat.ble wn 1000)
 (cond (Nat.blt (idxV (qdV a b) wf wn) wn)
 (some (CS.mk [(.int .i64 (0))] [some (.cells [(.int .i64 nd), (.int .i64 sf), (.osl (false) (1) (0) (wn) (wn) 6 true), (.int .u64 rd), (.map (2))] true), some (.tarr shW (wn) wf true), some (.omap shI shU false false [(.int .u64 0)] hs hf true)]))
 (cond (decide ((↑wn : Int) ≥ 64))
 (some (CS.mk [(.int .i64 (53))] [some (.cells [(.int .i64 nd), (.int .i64 sf), (.osl (false) (1) (0) (wn) (wn) 6 true), (.int .u64 rd), (.map (2))] true), some (.tarr shW (wn) wf true), some (.omap shI shU false false [(.int .u64 0)] hs hf true)]))
 (cond (Nat.ble ((wn) + (1)) (wn)) none (cond (growB (40) (wn + 1))
 (cond (Nat.ble (0 + wn) wn)
 (some (CS.mk [(.int .i64 (0))] [some (.cells [(.int .i64 nd), (.int .i64 sf), (.osl (false) (1) (0) (wn + 1) (wn + 1) 6 true), (.int .u64 rd), (.map (2))] true), some (.tarr shW (wn + 1) (fjoin (fun p_ q_ => wf (0 + p_) q_) (wn) (rowsOf (6) [(.int .u64 (a)), (.int .u64 (b)), (.int .u64 (x)), (.int .u32 (0)), (.int .u32 (0)), (.int .u64 0)] (1))) true), some (.omap shI shU false false [(.int .u64 0)] hs hf true)]))
 none)
 none))))
 none))) := by
 rw [k141_is]
 try simp only [eq_self, decide_true, beq_self_eq_true, Nat.beq_refl, ble_self, Int.le_refl, Nat.le_refl]
 cases (nd == 0) with
 | true =>
   rfl
 | false =>
   cases (x == 0) with
   | true =>
     rfl
   | false =>
     cases (Nat.ble wn 1000) with
     | true =>
       cases (Nat.blt (idxV (qdV a b) wf wn) wn) with
       | true =>
         rfl
       | false =>
         cases (decide ((↑wn : Int) ≥ 64)) with
         | true =>
           rfl
         | false =>
           cases (growB (40) (wn + 1)) with
           | true =>
             cases (Nat.ble (0 + wn) wn) with
             | true =>
               rfl
             | false =>
               rfl
           | false =>
             rfl
     | false =>
       rfl
noncomputable def k151 (nd : Int) (sf : Int) (wn : Nat) (wf : Nat → Nat → AV) (rd : Int) (hs : AV → Bool) (hf : AV → Nat → AV) (lo : Int) (bi : Int) (π : Plan) : Option CS := callC (F6) (3000) (15) (1) (.asl shW) ([pD]) π (a151 nd sf wn wf rd hs hf lo bi)
def k151_p : Plan := (.reck 6 (.fork .stop (.must true (.reck 1 (.must true (.fork (.fork (.fork .stop .stop) (.fork .stop .stop)) .stop))))))
theorem k151_is (nd : Int) (sf : Int) (wn : Nat) (wf : Nat → Nat → AV) (rd : Int) (hs : AV → Bool) (hf : AV → Nat → AV) (lo : Int) (bi : Int) : k151 nd sf wn wf rd hs hf lo bi k151_p = (cond (nd == 0)
 (some (CS.mk [(.osl (true) (1) (0) (0) (0) 6 true)] [some (.cells [(.int .i64 nd), (.int .i64 sf), (.osl (false) (2) (0) (wn) (wn) 6 true), (.int .u64 rd), (.map (3))] true), some (.tarr shW (0) (fun p_ q_ => AV.bad) true), some (.tarr shW (wn) wf true), some (.omap shI shU false false [(.int .u64 0)] hs hf true)]))
 (cond (decide (wn = wn)) (cond (decide (wn = wn)) (cond (Nat.ble wn 1000)
 (cond (Nat.beq (List.length (outV (qcV lo bi) wf wn)) 0)
 (cond (Nat.beq (List.length (outV (fun x => !qcV lo bi x) wf wn)) 0)
 (some (CS.mk [(.osl (true) (1) (0) (0) (0) 6 true)] [some (.cells [(.int .i64 nd), (.int .i64 sf), (.osl (true) (2) (0) (0) (0) 6 true), (.int .u64 rd), (.map (3))] true), some (.tarr shW (0) (fun p_ q_ => AV.bad) true), some (.tarr shW (0) (fun p_ q_ => AV.bad) true), some (.omap shI shU false false [(.int .u64 0)] hs hf true)]))
 (some (CS.mk [(.osl (true) (1) (0) (0) (0) 6 true)] [some (.cells [(.int .i64 nd), (.int .i64 sf), (.osl (false) (2) (0) (List.length (outV (fun x => !qcV lo bi x) wf wn)) (List.length (outV (fun x => !qcV lo bi x) wf wn)) 6 true), (.int .u64 rd), (.map (3))] true), some (.tarr shW (0) (fun p_ q_ => AV.bad) true), some (.tarr shW (List.length (outV (fun x => !qcV lo bi x) wf wn)) (finW ((outV (fun x => !qcV lo bi x) wf (wn)))) true), some (.omap shI shU false false [(.int .u64 0)] hs hf true)])))
 (cond (Nat.beq (List.length (outV (fun x => !qcV lo bi x) wf wn)) 0)
 (some (CS.mk [(.osl (false) (1) (0) (List.length (outV (qcV lo bi) wf wn)) (List.length (outV (qcV lo bi) wf wn)) 6 true)] [some (.cells [(.int .i64 nd), (.int .i64 sf), (.osl (true) (2) (0) (0) (0) 6 true), (.int .u64 rd), (.map (3))] true), some (.tarr shW (List.length (outV (qcV lo bi) wf wn)) (finW ((outV (qcV lo bi) wf (wn)))) true), some (.tarr shW (0) (fun p_ q_ => AV.bad) true), some (.omap shI shU false false [(.int .u64 0)] hs hf true)]))
 (some (CS.mk [(.osl (false) (1) (0) (List.length (outV (qcV lo bi) wf wn)) (List.length (outV (qcV lo bi) wf wn)) 6 true)] [some (.cells [(.int .i64 nd), (.int .i64 sf), (.osl (false) (2) (0) (List.length (outV (fun x => !qcV lo bi x) wf wn)) (List.length (outV (fun x => !qcV lo bi x) wf wn)) 6 true), (.int .u64 rd), (.map (3))] true), some (.tarr shW (List.length (outV (qcV lo bi) wf wn)) (finW ((outV (qcV lo bi) wf (wn)))) true), some (.tarr shW (List.length (outV (fun x => !qcV lo bi x) wf wn)) (finW ((outV (fun x => !qcV lo bi x) wf (wn)))) true), some (.omap shI shU false false [(.int .u64 0)] hs hf true)]))))
 none) none) none)) := by kernel_rfl
theorem k151_eq (nd : Int) (sf : Int) (wn : Nat) (wf : Nat → Nat → AV) (rd : Int) (hs : AV → Bool) (hf : AV → Nat → AV) (lo : Int) (bi : Int) : k151 nd sf wn wf rd hs hf lo bi k151_p = (cond (nd == 0)
 (some (CS.mk [(.osl (true) (1) (0) (0) (0) 6 true)] [some (.cells [(.int .i64 nd), (.int .i64 sf), (.osl (false) (2) (0) (wn) (wn) 6 true), (.int .u64 rd), (.map (3))] true), some (.tarr shW (0) (fun p_ q_ => AV.bad) true), some (.tarr shW (wn) wf true), some (.omap shI shU false false [(.int .u64 0)] hs hf true)]))
 (cond (Nat.ble wn 1000)
 (cond (Nat.beq (List.length (outV (qcV lo bi) wf wn)) 0)
 (cond (Nat.beq (List.length (outV (fun x => !qcV lo bi x) wf wn)) 0)
 (some (CS.mk [(.osl (true) (1) (0) (0) (0) 6 true)] [some (.cells [(.int .i64 nd), (.int .i64 sf), (.osl (true) (2) (0) (0) (0) 6 true), (.int .u64 rd), (.map (3))] true), some (.tarr shW (0) (fun p_ q_ => AV.bad) true), some (.tarr shW (0) (fun p_ q_ => AV.bad) true), some (.omap shI shU false false [(.int .u64 0)] hs hf true)]))
 (some (CS.mk [(.osl (true) (1) (0) (0) (0) 6 true)] [some (.cells [(.int .i64 nd), (.int .i64 sf), (.osl (false) (2) (0) (List.length (outV (fun x => !qcV lo bi x) wf wn)) (List.length (outV (fun x => !qcV lo bi x) wf wn)) 6 true), (.int .u64 rd), (.map (3))] true), some (.tarr shW (0) (fun p_ q_ => AV.bad) true), some (.tarr shW (List.length (outV (fun x => !qcV lo bi x) wf wn)) (finW ((outV (fun x => !qcV lo bi x) wf (wn)))) true), some (.omap shI shU false false [(.int .u64 0)] hs hf true)])))
 (cond (Nat.beq (List.length (outV (fun x => !qcV lo bi x) wf wn)) 0)
 (some (CS.mk [(.osl (false) (1) (0) (List.length (outV (qcV lo bi) wf wn)) (List.length (outV (qcV lo bi) wf wn)) 6 true)] [some (.cells [(.int .i64 nd), (.int .i64 sf), (.osl (true) (2) (0) (0) (0) 6 true), (.int .u64 rd), (.map (3))] true), some (.tarr shW (List.length (outV (qcV lo bi) wf wn)) (finW ((outV (qcV lo bi) wf (wn)))) true), some (.tarr shW (0) (fun p_ q_ => AV.bad) true), some (.omap shI shU false false [(.int .u64 0)] hs hf true)]))
 (some (CS.mk [(.osl (false) (1) (0) (List.length (outV (qcV lo bi) wf wn)) (List.length (outV (qcV lo bi) wf wn)) 6 true)] [some (.cells [(.int .i64 nd), (.int .i64 sf), (.osl (false) (2) (0) (List.length (outV (fun x => !qcV lo bi x) wf wn)) (List.length (outV (fun x => !qcV lo bi x) wf wn)) 6 true), (.int .u64 rd), (.map (3))] true), some (.tarr shW (List.length (outV (qcV lo bi) wf wn)) (finW ((outV (qcV lo bi) wf (wn)))) true), some (.tarr shW (List.length (outV (fun x => !qcV lo bi x) wf wn)) (finW ((outV (fun x => !qcV lo bi x) wf (wn)))) true), some (.omap shI shU false false [(.int .u64 0)] hs hf true)]))))
 none)) := by
 rw [k151_is]
 try simp only [eq_self, decide_true, beq_self_eq_true, Nat.beq_refl, ble_self, Int.le_refl, Nat.le_refl]
 cases (nd == 0) with
 | true =>
   rfl
 | false =>
   cases (Nat.ble wn 1000) with
   | true =>
     cases (Nat.beq (List.length (outV (qcV lo bi) wf wn)) 0) with
     | true =>
       cases (Nat.beq (List.length (outV (fun x => !qcV lo bi x) wf wn)) 0) with
       | true =>
         rfl
       | false =>
         rfl
     | false =>
       cases (Nat.beq (List.length (outV (fun x => !qcV lo bi x) wf wn)) 0) with
       | true =>
         rfl
       | false =>
         rfl
   | false =>
     rfl
noncomputable def k140 (nd : Int) (sf : Int) (rd : Int) (hs : AV → Bool) (hf : AV → Nat → AV) (a : Int) (b : Int) (x : Int) (π : Plan) : Option CS := callC (F6) (3000) (14) (1) (.keep) ([pD]) π (a140 nd sf rd hs hf a b x)
def k140_p : Plan := (.reck 6 (.fork .stop (.fork .stop (.reck 7 (.must true (.must true .stop))))))
theorem k140_is (nd : Int) (sf : Int) (rd : Int) (hs : AV → Bool) (hf : AV → Nat → AV) (a : Int) (b : Int) (x : Int) : k140 nd sf rd hs hf a b x k140_p = (cond (nd == 0)
 (some (CS.mk [(.int .i64 (1))] [some (.cells [(.int .i64 nd), (.int .i64 sf), (.osl (true) (1) (0) (0) (0) 6 true), (.int .u64 rd), (.map (2))] true), some (.tarr shW (0) (fun p_ q_ => AV.bad) true), some (.omap shI shU false false [(.int .u64 0)] hs hf true)]))
 (cond (x == 0)
 (some (CS.mk [(.int .i64 (2))] [some (.cells [(.int .i64 nd), (.int .i64 sf), (.osl (true) (1) (0) (0) (0) 6 true), (.int .u64 rd), (.map (2))] true), some (.tarr shW (0) (fun p_ q_ => AV.bad) true), some (.omap shI shU false false [(.int .u64 0)] hs hf true)]))
 (cond (decide (b = b)) (cond (decide (a = a)) (some (CS.mk [(.int .i64 (0))] [some (.cells [(.int .i64 nd), (.int .i64 sf), (.osl (false) (1) (0) (1) (1) 6 true), (.int .u64 rd), (.map (2))] true), some (.tarr shW (1) (rowsOf (6) [(.int .u64 (a)), (.int .u64 (b)), (.int .u64 (x)), (.int .u32 (0)), (.int .u32 (0)), (.int .u64 0)] (1)) true), some (.omap shI shU false false [(.int .u64 0)] hs hf true)])) none) none))) := by kernel_rfl
theorem k140_eq (nd : Int) (sf : Int) (rd : Int) (hs : AV → Bool) (hf : AV → Nat → AV) (a : Int) (b : Int) (x : Int) : k140 nd sf rd hs hf a b x k140_p = (cond (nd == 0)
 (some (CS.mk [(.int .i64 (1))] [some (.cells [(.int .i64 nd), (.int .i64 sf), (.osl (true) (1) (0) (0) (0) 6 true), (.int .u64 rd), (.map (2))] true), some (.tarr shW (0) (fun p_ q_ => AV.bad) true), some (.omap shI shU false false [(.int .u64 0)] hs hf true)]))
 (cond (x == 0)
 (some (CS.mk [(.int .i64 (2))] [some (.cells [(.int .i64 nd), (.int .i64 sf), (.osl (true) (1) (0) (0) (0) 6 true), (.int .u64 rd), (.map (2))] true), some (.tarr shW (0) (fun p_ q_ => AV.bad) true), some (.omap shI shU false false [(.int .u64 0)] hs hf true)]))
 (some (CS.mk [(.int .i64 (0))] [some (.cells [(.int .i64 nd), (.int .i64 sf), (.osl (false) (1) (0) (1) (1) 6 true), (.int .u64 rd), (.map (2))] true), some (.tarr shW (1) (rowsOf (6) [(.int .u64 (a)), (.int .u64 (b)), (.int .u64 (x)), (.int .u32 (0)), (.int .u32 (0)), (.int .u64 0)] (1)) true), some (.omap shI shU false false [(.int .u64 0)] hs hf true)])))) := by
 rw [k140_is]
 try simp only [eq_self, decide_true, beq_self_eq_true, Nat.beq_refl, ble_self, Int.le_refl, Nat.le_refl]
 cases (nd == 0) with
 | true =>
   rfl
 | false =>
   cases (x == 0) with
   | true =>
     rfl
   | false =>
     rfl
noncomputable def k150 (nd : Int) (sf : Int) (rd : Int) (hs : AV → Bool) (hf : AV → Nat → AV) (lo : Int) (bi : Int) (π : Plan) : Option CS := callC (F6) (3000) (15) (1) (.asl shW) ([pD]) π (a150 nd sf rd hs hf lo bi)
def k150_p : Plan := (.reck 6 (.fork .stop (.reck 4 (.fork (.fork .stop .stop) (.fork .stop .stop)))))
theorem k150_is (nd : Int) (sf : Int) (rd : Int) (hs : AV → Bool) (hf : AV → Nat → AV) (lo : Int) (bi : Int) : k150 nd sf rd hs hf lo bi k150_p = (cond (nd == 0)
 (some (CS.mk [(.osl (true) (1) (0) (0) (0) 6 true)] [some (.cells [(.int .i64 nd), (.int .i64 sf), (.osl (true) (2) (0) (0) (0) 6 true), (.int .u64 rd), (.map (3))] true), some (.tarr shW (0) (fun p_ q_ => AV.bad) true), some (.tarr shW (0) (fun p_ q_ => AV.bad) true), some (.omap shI shU false false [(.int .u64 0)] hs hf true)]))
 (cond (Nat.beq (List.length (outV (qcV lo bi) (fun x x_1 => AV.bad) 0)) 0)
 (cond (Nat.beq (List.length (outV (fun x => !qcV lo bi x) (fun x x_1 => AV.bad) 0)) 0)
 (some (CS.mk [(.osl (true) (1) (0) (0) (0) 6 true)] [some (.cells [(.int .i64 nd), (.int .i64 sf), (.osl (true) (2) (0) (0) (0) 6 true), (.int .u64 rd), (.map (3))] true), some (.tarr shW (0) (fun p_ q_ => AV.bad) true), some (.tarr shW (0) (fun p_ q_ => AV.bad) true), some (.omap shI shU false false [(.int .u64 0)] hs hf true)]))
 (some (CS.mk [(.osl (true) (1) (0) (0) (0) 6 true)] [some (.cells [(.int .i64 nd), (.int .i64 sf), (.osl (false) (2) (0) (List.length (outV (fun x => !qcV lo bi x) (fun x x_1 => AV.bad) 0)) (List.length (outV (fun x => !qcV lo bi x) (fun x x_1 => AV.bad) 0)) 6 true), (.int .u64 rd), (.map (3))] true), some (.tarr shW (0) (fun p_ q_ => AV.bad) true), some (.tarr shW (List.length (outV (fun x => !qcV lo bi x) (fun x x_1 => AV.bad) 0)) (finW ((outV (fun x => !qcV lo bi x) (fun p_ q_ => AV.bad) (0)))) true), some (.omap shI shU false false [(.int .u64 0)] hs hf true)])))
 (cond (Nat.beq (List.length (outV (fun x => !qcV lo bi x) (fun x x_1 => AV.bad) 0)) 0)
 (some (CS.mk [(.osl (false) (1) (0) (List.length (outV (qcV lo bi) (fun x x_1 => AV.bad) 0)) (List.length (outV (qcV lo bi) (fun x x_1 => AV.bad) 0)) 6 true)] [some (.cells [(.int .i64 nd), (.int .i64 sf), (.osl (true) (2) (0) (0) (0) 6 true), (.int .u64 rd), (.map (3))] true), some (.tarr shW (List.length (outV (qcV lo bi) (fun x x_1 => AV.bad) 0)) (finW ((outV (qcV lo bi) (fun p_ q_ => AV.bad) (0)))) true), some (.tarr shW (0) (fun p_ q_ => AV.bad) true), some (.omap shI shU false false [(.int .u64 0)] hs hf true)]))
 (some (CS.mk [(.osl (false) (1) (0) (List.length (outV (qcV lo bi) (fun x x_1 => AV.bad) 0)) (List.length (outV (qcV lo bi) (fun x x_1 => AV.bad) 0)) 6 true)] [some (.cells [(.int .i64 nd), (.int .i64 sf), (.osl (false) (2) (0) (List.length (outV (fun x => !qcV lo bi x) (fun x x_1 => AV.bad) 0)) (List.length (outV (fun x => !qcV lo bi x) (fun x x_1 => AV.bad) 0)) 6 true), (.int .u64 rd), (.map (3))] true), some (.tarr shW (List.length (outV (qcV lo bi) (fun x x_1 => AV.bad) 0)) (finW ((outV (qcV lo bi) (fun p_ q_ => AV.bad) (0)))) true), some (.tarr shW (List.length (outV (fun x => !qcV lo bi x) (fun x x_1 => AV.bad) 0)) (finW ((outV (fun x => !qcV lo bi x) (fun p_ q_ => AV.bad) (0)))) true), some (.omap shI shU false false [(.int .u64 0)] hs hf true)]))))) := by kernel_rfl
theorem k150_eq (nd : Int) (sf : Int) (rd : Int) (hs : AV → Bool) (hf : AV → Nat → AV) (lo : Int) (bi : Int) : k150 nd sf rd hs hf lo bi k150_p = (cond (nd == 0)
 (some (CS.mk [(.osl (true) (1) (0) (0) (0) 6 true)] [some (.cells [(.int .i64 nd), (.int .i64 sf), (.osl (true) (2) (0) (0) (0) 6 true), (.int .u64 rd), (.map (3))] true), some (.tarr shW (0) (fun p_ q_ => AV.bad) true), some (.tarr shW (0) (fun p_ q_ => AV.bad) true), some (.omap shI shU false false [(.int .u64 0)] hs hf true)]))
 (cond (Nat.beq (List.length (outV (qcV lo bi) (fun x x_1 => AV.bad) 0)) 0)
 (cond (Nat.beq (List.length (outV (fun x => !qcV lo bi x) (fun x x_1 => AV.bad) 0)) 0)
 (some (CS.mk [(.osl (true) (1) (0) (0) (0) 6 true)] [some (.cells [(.int .i64 nd), (.int .i64 sf), (.osl (true) (2) (0) (0) (0) 6 true), (.int .u64 rd), (.map (3))] true), some (.tarr shW (0) (fun p_ q_ => AV.bad) true), some (.tarr shW (0) (fun p_ q_ => AV.bad) true), some (.omap shI shU false false [(.int .u64 0)] hs hf true)]))
 (some (CS.mk [(.osl (true) (1) (0) (0) (0) 6 true)] [some (.cells [(.int .i64 nd), (.int .i64 sf), (.osl (false) (2) (0) (List.length (outV (fun x => !qcV lo bi x) (fun x x_1 => AV.bad) 0)) (List.length (outV (fun x => !qcV lo bi x) (fun x x_1 => AV.bad) 0)) 6 true), (.int .u64 rd), (.map (3))] true), some (.tarr shW (0) (fun p_ q_ => AV.bad) true), some (.tarr shW (List.length (outV (fun x => !qcV lo bi x) (fun x x_1 => AV.bad) 0)) (finW ((outV (fun x => !qcV lo bi x) (fun p_ q_ => AV.bad) (0)))) true), some (.omap shI shU false false [(.int .u64 0)] hs hf true)])))
 (cond (Nat.beq (List.length (outV (fun x => !qcV lo bi x) (fun x x_1 => AV.bad) 0)) 0)
 (some (CS.mk [(.osl (false) (1) (0) (List.length (outV (qcV lo bi) (fun x x_1 => AV.bad) 0)) (List.length (outV (qcV lo bi) (fun x x_1 => AV.bad) 0)) 6 true)] [some (.cells [(.int .i64 nd), (.int .i64 sf), (.osl (true) (2) (0) (0) (0) 6 true), (.int .u64 rd), (.map (3))] true), some (.tarr shW (List.length (outV (qcV lo bi) (fun x x_1 => AV.bad) 0)) (finW ((outV (qcV lo bi) (fun p_ q_ => AV.bad) (0)))) true), some (.tarr shW (0) (fun p_ q_ => AV.bad) true), some (.omap shI shU false false [(.int .u64 0)] hs hf true)]))
 (some (CS.mk [(.osl (false) (1) (0) (List.length (outV (qcV lo bi) (fun x x_1 => AV.bad) 0)) (List.length (outV (qcV lo bi) (fun x x_1 => AV.bad) 0)) 6 true)] [some (.cells [(.int .i64 nd), (.int .i64 sf), (.osl (false) (2) (0) (List.length (outV (fun x => !qcV lo bi x) (fun x x_1 => AV.bad) 0)) (List.length (outV (fun x => !qcV lo bi x) (fun x x_1 => AV.bad) 0)) 6 true), (.int .u64 rd), (.map (3))] true), some (.tarr shW (List.length (outV (qcV lo bi) (fun x x_1 => AV.bad) 0)) (finW ((outV (qcV lo bi) (fun p_ q_ => AV.bad) (0)))) true), some (.tarr shW (List.length (outV (fun x => !qcV lo bi x) (fun x x_1 => AV.bad) 0)) (finW ((outV (fun x => !qcV lo bi x) (fun p_ q_ => AV.bad) (0)))) true), some (.omap shI shU false false [(.int .u64 0)] hs hf true)]))))) := by
 rw [k150_is]
noncomputable def k81 (nd : Int) (sf : Int) (wn : Nat) (wf : Nat → Nat → AV) (rd : Int) (hs : AV → Bool) (hf : AV → Nat → AV) (a : Int) (b : Int) (x : Int) (y : Int) (π : Plan) : Option CS := callC (F6) (3000) (8) (1) (.keep) ([pD]) π (a81 nd sf wn wf rd hs hf a b x y)
def k81_p : Plan := (.reck 6 (.fork .stop (.must true (.reck 1 (.must true (.fork (.fork (.fork (.reck 9 (.must false (.must true (.must true (.must true (.must true (.must true (.must true (.must true (.must true (.reck 1 (.must true (.must true (.reck 1 (.must true (.must true (.must true .stop))))))))))))))))) (.reck 2 (.fork .stop (.reck 6 (.must false (.must true (.must true (.must true (.must true (.must true (.must true (.must true (.must true (.must false (.fork (.fork (.must true (.must true (.reck 1 (.must true (.must true (.must true (.reck 1 (.must true (.must true .stop))))))))) .stop) .stop))))))))))))))) (.fork (.reck 9 (.must false (.must true (.must true (.must true (.must true (.must true (.must true (.must true (.must true (.reck 1 (.must true (.must true (.reck 1 (.must true (.must true (.must true .stop))))))))))))))))) (.reck 2 (.fork .stop (.reck 6 (.must false (.must true (.must true (.must true (.must true (.must true (.must true (.must true (.must true (.must false (.fork (.fork (.must true (.must true (.reck 1 (.must true (.must true (.must true (.reck 1 (.must true (.must true .stop))))))))) .stop) .stop)))))))))))))))) .stop))))))
theorem k81_is (nd : Int) (sf : Int) (wn : Nat) (wf : Nat → Nat → AV) (rd : Int) (hs : AV → Bool) (hf : AV → Nat → AV) (a : Int) (b : Int) (x : Int) (y : Int) : k81 nd sf wn wf rd hs hf a b x y k81_p = (cond (nd == 0)
 (some (CS.mk [(AV.tuple [(.int .u64 0), (.int .i64 (1))])] [some (.cells [(.int .i64 nd), (.int .i64 sf), (.osl (false) (1) (0) (wn) (wn) 6 true), (.int .u64 rd), (.map (2))] true), some (.tarr shW (wn) wf true), some (.omap shI shU false false [(.int .u64 0)] hs hf true)]))
 (cond (decide (wn = wn)) (cond (decide (wn = wn)) (cond (Nat.ble wn 1000)
 (cond (Nat.beq (List.length (outV (qaV a b) wf wn)) 0)
 (cond (Nat.beq (List.length (outV (fun x => !qaV a b x) wf wn)) 0)
 (cond (nd == 0) none (cond (decide (x = x)) (cond (decide (y = y)) (cond (decide (x = x)) (cond (decide (y = y)) (cond (decide (b = b)) (cond (decide (b = b)) (cond (decide (a = a)) (cond (decide (a = a)) (cond (decide (a = a)) (cond (decide (b = b)) (cond (decide (x = x)) (cond (decide (y = y)) (cond (decide (IntKind.wrap IntKind.u64 (rd + 1) = IntKind.wrap IntKind.u64 (rd + 1))) (some (CS.mk [(AV.tuple [(.int .u64 (IntKind.wrap IntKind.u64 (rd + 1))), (.int .i64 (0))])] [some (.cells [(.int .i64 nd), (.int .i64 sf), (.osl (false) (1) (0) (1) (1) 6 true), (.int .u64 (IntKind.wrap IntKind.u64 (rd + 1))), (.map (2))] true), some (.tarr shW (1) (rowsOf (6) [(.int .u64 (a)), (.int .u64 (b)), (.int .u64 0), (.int .u32 (x)), (.int .u32 (y)), (.int .u64 (IntKind.wrap IntKind.u64 (rd + 1)))] (1)) true), some (.omap shI shU false false [(.int .u64 0)] hs hf true)])) none) none) none) none) none) none) none) none) none) none) none) none) none))
 (cond (decide ((↑(List.length (outV (fun x => !qaV a b x) wf wn)) : Int) ≥ 64))
 (some (CS.mk [(AV.tuple [(.int .u64 0), (.int .i64 (53))])] [some (.cells [(.int .i64 nd), (.int .i64 sf), (.osl (false) (1) (0) (List.length (outV (fun x => !qaV a b x) wf wn)) (List.length (outV (fun x => !qaV a b x) wf wn)) 6 true), (.int .u64 rd), (.map (2))] true), some (.tarr shW (List.length (outV (fun x => !qaV a b x) wf wn)) (finW ((outV (fun x => !qaV a b x) wf (wn)))) true), some (.omap shI shU false false [(.int .u64 0)] hs hf true)]))
 (cond (nd == 0) none (cond (decide (x = x)) (cond (decide (y = y)) (cond (decide (x = x)) (cond (decide (y = y)) (cond (decide (b = b)) (cond (decide (b = b)) (cond (decide (a = a)) (cond (decide (a = a)) (cond (Nat.ble ((List.length (outV (fun x => !qaV a b x) wf wn)) + (1)) (List.length (outV (fun x => !qaV a b x) wf wn))) none (cond (growB (40) (List.length (outV (fun x => !qaV a b x) wf wn) + 1))
 (cond (Nat.ble (0 + List.length (outV (fun x => !qaV a b x) wf wn)) (List.length (outV (fun x => !qaV a b x) wf wn)))
 (cond (decide (a = a)) (cond (decide (b = b)) (cond (decide (x = x)) (cond (decide (y = y)) (cond (decide (IntKind.wrap IntKind.u64 (rd + 1) = IntKind.wrap IntKind.u64 (rd + 1))) (cond (Nat.beq (List.length (outV (fun x => !qaV a b x) wf wn)) (List.length (outV (fun x => !qaV a b x) wf wn))) (cond (Nat.beq (List.length (outV (fun x => !qaV a b x) wf wn)) (List.length (outV (fun x => !qaV a b x) wf wn))) (some (CS.mk [(AV.tuple [(.int .u64 (IntKind.wrap IntKind.u64 (rd + 1))), (.int .i64 (0))])] [some (.cells [(.int .i64 nd), (.int .i64 sf), (.osl (false) (1) (0) (List.length (outV (fun x => !qaV a b x) wf wn) + 1) (List.length (outV (fun x => !qaV a b x) wf wn) + 1) 6 true), (.int .u64 (IntKind.wrap IntKind.u64 (rd + 1))), (.map (2))] true), some (.tarr shW (List.length (outV (fun x => !qaV a b x) wf wn) + 1) (fjoin (fun p_ q_ => (finW ((outV (fun x => !qaV a b x) wf (wn)))) (0 + p_) q_) (List.length (outV (fun x => !qaV a b x) wf wn)) (rowsOf (6) [(.int .u64 (a)), (.int .u64 (b)), (.int .u64 0), (.int .u32 (x)), (.int .u32 (y)), (.int .u64 (IntKind.wrap IntKind.u64 (rd + 1)))] (1))) true), some (.omap shI shU false false [(.int .u64 0)] hs hf true)])) none) none) none) none) none) none) none)
 none)
 none)) none) none) none) none) none) none) none) none))))
 (cond (Nat.beq (List.length (outV (fun x => !qaV a b x) wf wn)) 0)
 (cond (nd == 0) none (cond (decide (x = x)) (cond (decide (y = y)) (cond (decide (x = x)) (cond (decide (y = y)) (cond (decide (b = b)) (cond (decide (b = b)) (cond (decide (a = a)) (cond (decide (a = a)) (cond (decide (a = a)) (cond (decide (b = b)) (cond (decide (x = x)) (cond (decide (y = y)) (cond (decide (IntKind.wrap IntKind.u64 (rd + 1) = IntKind.wrap IntKind.u64 (rd + 1))) (some (CS.mk [(AV.tuple [(.int .u64 (IntKind.wrap IntKind.u64 (rd + 1))), (.int .i64 (0))])] [some (.cells [(.int .i64 nd), (.int .i64 sf), (.osl (false) (1) (0) (1) (1) 6 true), (.int .u64 (IntKind.wrap IntKind.u64 (rd + 1))), (.map (2))] true), some (.tarr shW (1) (rowsOf (6) [(.int .u64 (a)), (.int .u64 (b)), (.int .u64 0), (.int .u32 (x)), (.int .u32 (y)), (.int .u64 (IntKind.wrap IntKind.u64 (rd + 1)))] (1)) true), some (.omap shI shU false false [(.int .u64 0)] hs hf true)])) none) none) none) none) none) none) none) none) none) none) none) none) none))
 (cond (decide ((↑(List.length (outV (fun x => !qaV a b x) wf wn)) : Int) ≥ 64))
 (some (CS.mk [(AV.tuple [(.int .u64 0), (.int .i64 (53))])] [some (.cells [(.int .i64 nd), (.int .i64 sf), (.osl (false) (1) (0) (List.length (outV (fun x => !qaV a b x) wf wn)) (List.length (outV (fun x => !qaV a b x) wf wn)) 6 true), (.int .u64 rd), (.map (2))] true), some (.tarr shW (List.length (outV (fun x => !qaV a b x) wf wn)) (finW ((outV (fun x => !qaV a b x) wf (wn)))) true), some (.omap shI shU false false [(.int .u64 0)] hs hf true)]))
 (cond (nd == 0) none (cond (decide (x = x)) (cond (decide (y = y)) (cond (decide (x = x)) (cond (decide (y = y)) (cond (decide (b = b)) (cond (decide (b = b)) (cond (decide (a = a)) (cond (decide (a = a)) (cond (Nat.ble ((List.length (outV (fun x => !qaV a b x) wf wn)) + (1)) (List.length (outV (fun x => !qaV a b x) wf wn))) none (cond (growB (40) (List.length (outV (fun x => !qaV a b x) wf wn) + 1))
 (cond (Nat.ble (0 + List.length (outV (fun x => !qaV a b x) wf wn)) (List.length (outV (fun x => !qaV a b x) wf wn)))
 (cond (decide (a = a)) (cond (decide (b = b)) (cond (decide (x = x)) (cond (decide (y = y)) (cond (decide (IntKind.wrap IntKind.u64 (rd + 1) = IntKind.wrap IntKind.u64 (rd + 1))) (cond (Nat.beq (List.length (outV (fun x => !qaV a b x) wf wn)) (List.length (outV (fun x => !qaV a b x) wf wn))) (cond (Nat.beq (List.length (outV (fun x => !qaV a b x) wf wn)) (List.length (outV (fun x => !qaV a b x) wf wn))) (some (CS.mk [(AV.tuple [(.int .u64 (IntKind.wrap IntKind.u64 (rd + 1))), (.int .i64 (0))])] [some (.cells [(.int .i64 nd), (.int .i64 sf), (.osl (false) (1) (0) (List.length (outV (fun x => !qaV a b x) wf wn) + 1) (List.length (outV (fun x => !qaV a b x) wf wn) + 1) 6 true), (.int .u64 (IntKind.wrap IntKind.u64 (rd + 1))), (.map (2))] true), some (.tarr shW (List.length (outV (fun x => !qaV a b x) wf wn) + 1) (fjoin (fun p_ q_ => (finW ((outV (fun x => !qaV a b x) wf (wn)))) (0 + p_) q_) (List.length (outV (fun x => !qaV a b x) wf wn)) (rowsOf (6) [(.int .u64 (a)), (.int .u64 (b)), (.int .u64 0), (.int .u32 (x)), (.int .u32 (y)), (.int .u64 (IntKind.wrap IntKind.u64 (rd + 1)))] (1))) true), some (.omap shI shU false false [(.int .u64 0)] hs hf true)])) none) none) none) none) none) none) none)
 none)
 none)) none) none) none) none) none) none) none) none)))))
 none) none) none)) := by kernel_rfl
theorem k81_eq (nd : Int) (sf : Int) (wn : Nat) (wf : Nat → Nat → AV) (rd : Int) (hs : AV → Bool) (hf : AV → Nat → AV) (a : Int) (b : Int) (x : Int) (y : Int) : k81 nd sf wn wf rd hs hf a b x y k81_p = (cond (nd == 0)
 (some (CS.mk [(AV.tuple [(.int .u64 0), (.int .i64 (1))])] [some (.cells [(.int .i64 nd), (.int .i64 sf), (.osl (false) (1) (0) (wn) (wn) 6 true), (.int .u64 rd), (.map (2))] true), some (.tarr shW (wn) wf true), some (.omap shI shU false false [(.int .u64 0)] hs hf true)]))
 (cond (Nat.ble wn 1000)
 (cond (Nat.beq (List.length (outV (qaV a b) wf wn)) 0)
 (cond (Nat.beq (List.length (outV (fun x => !qaV a b x) wf wn)) 0)
 (some (CS.mk [(AV.tuple [(.int .u64 (IntKind.wrap IntKind.u64 (rd + 1))), (.int .i64 (0))])] [some (.cells [(.int .i64 nd), (.int .i64 sf), (.osl (false) (1) (0) (1) (1) 6 true), (.int .u64 (IntKind.wrap IntKind.u64 (rd + 1))), (.map (2))] true), some (.tarr shW (1) (rowsOf (6) [(.int .u64 (a)), (.int .u64 (b)), (.int .u64 0), (.int .u32 (x)), (.int .u32 (y)), (.int .u64 (IntKind.wrap IntKind.u64 (rd + 1)))] (1)) true), some (.omap shI shU false false [(.int .u64 0)] hs hf true)]))
 (cond (decide ((↑(List.length (outV (fun x => !qaV a b x) wf wn)) : Int) ≥ 64))
 (some (CS.mk [(AV.tuple [(.int .u64 0), (.int .i64 (53))])] [some (.cells [(.int .i64 nd), (.int .i64 sf), (.osl (false) (1) (0) (List.length (outV (fun x => !qaV a b x) wf wn)) (List.length (outV (fun x => !qaV a b x) wf wn)) 6 true), (.int .u64 rd), (.map (2))] true), some (.tarr shW (List.length (outV (fun x => !qaV a b x) wf wn)) (finW ((outV (fun x => !qaV a b x) wf (wn)))) true), some (.omap shI shU false false [(.int .u64 0)] hs hf true)]))
 (cond (Nat.ble ((List.length (outV (fun x => !qaV a b x) wf wn)) + (1)) (List.length (outV (fun x => !qaV a b x) wf wn))) none (cond (growB (40) (List.length (outV (fun x => !qaV a b x) wf wn) + 1))
 (cond (Nat.ble (0 + List.length (outV (fun x => !qaV a b x) wf wn)) (List.length (outV (fun x => !qaV a b x) wf wn)))
 (some (CS.mk [(AV.tuple [(.int .u64 (IntKind.wrap IntKind.u64 (rd + 1))), (.int .i64 (0))])] [some (.cells [(.int .i64 nd), (.int .i64 sf), (.osl (false) (1) (0) (List.length (outV (fun x => !qaV a b x) wf wn) + 1) (List.length (outV (fun x => !qaV a b x) wf wn) + 1) 6 true), (.int .u64 (IntKind.wrap IntKind.u64 (rd + 1))), (.map (2))] true), some (.tarr shW (List.length (outV (fun x => !qaV a b x) wf wn) + 1) (fjoin (fun p_ q_ => (finW ((outV (fun x => !qaV a b x) wf (wn)))) (0 + p_) q_) (List.length (outV (fun x => !qaV a b x) wf wn)) (rowsOf (6) [(.int .u64 (a)), (.int .u64 (b)), (.int .u64 0), (.int .u32 (x)), (.int .u32 (y)), (.int .u64 (IntKind.wrap IntKind.u64 (rd + 1)))] (1))) true), some (.omap shI shU false false [(.int .u64 0)] hs hf true)]))
 none)
 none))))
 (cond (Nat.beq (List.length (outV (fun x => !qaV a b x) wf wn)) 0)
 (some (CS.mk [(AV.tuple [(.int .u64 (IntKind.wrap IntKind.u64 (rd + 1))), (.int .i64 (0))])] [some (.cells [(.int .i64 nd), (.int .i64 sf), (.osl (false) (1) (0) (1) (1) 6 true), (.int .u64 (IntKind.wrap IntKind.u64 (rd + 1))), (.map (2))] true), some (.tarr shW (1) (rowsOf (6) [(.int .u64 (a)), (.int .u64 (b)), (.int .u64 0), (.int .u32 (x)), (.int .u32 (y)), (.int .u64 (IntKind.wrap IntKind.u64 (rd + 1)))] (1)) true), some (.omap shI shU false false [(.int .u64 0)] hs hf true)]))
 (cond (decide ((↑(List.length (outV (fun x => !qaV a b x) wf wn)) : Int) ≥ 64))
 (some (CS.mk [(AV.tuple [(.int .u64 0), (.int .i64 (53))])] [some (.cells [(.int .i64 nd), (.int .i64 sf), (.osl (false) (1) (0) (List.length (outV (fun x => !qaV a b x) wf wn)) (List.length (outV (fun x => !qaV a b x) wf wn)) 6 true), (.int .u64 rd), (.map (2))] true), some (.tarr shW (List.length (outV (fun x => !qaV a b x) wf wn)) (finW ((outV (fun x => !qaV a b x) wf (wn)))) true), some (.omap shI shU false false [(.int .u64 0)] hs hf true)]))
 (cond (Nat.ble ((List.length (outV (fun x => !qaV a b x) wf wn)) + (1)) (List.length (outV (fun x => !qaV a b x) wf wn))) none (cond (growB (40) (List.length (outV (fun x => !qaV a b x) wf wn) + 1))
 (cond (Nat.ble (0 + List.length (outV (fun x => !qaV a b x) wf wn)) (List.length (outV (fun x => !qaV a b x) wf wn)))
 (some (CS.mk [(AV.tuple [(.int .u64 (IntKind.wrap IntKind.u64 (rd + 1))), (.int .i64 (0))])] [some (.cells [(.int .i64 nd), (.int .i64 sf), (.osl (false) (1) (0) (List.length (outV (fun x => !qaV a b x) wf wn) + 1) (List.length (outV (fun x => !qaV a b x) wf wn) + 1) 6 true), (.int .u64 (IntKind.wrap IntKind.u64 (rd + 1))), (.map (2))] true), some (.tarr shW (List.length (outV (fun x => !qaV a b x) wf wn) + 1) (fjoin (fun p_ q_ => (finW ((outV (fun x => !qaV a b x) wf (wn)))) (0 + p_) q_) (List.length (outV (fun x => !qaV a b x) wf wn)) (rowsOf (6) [(.int .u64 (a)), (.int .u64 (b)), (.int .u64 0), (.int .u32 (x)), (.int .u32 (y)), (.int .u64 (IntKind.wrap IntKind.u64 (rd + 1)))] (1))) true), some (.omap shI shU false false [(.int .u64 0)] hs hf true)]))
 none)
 none)))))
 none)) := by
 rw [k81_is]
 try simp only [eq_self, decide_true, beq_self_eq_true, Nat.beq_refl, ble_self, Int.le_refl, Nat.le_refl]
 cases (nd == 0) with
 | true =>
   rfl
 | false =>
   cases (Nat.ble wn 1000) with
   | true =>
     cases (Nat.beq (List.length (outV (qaV a b) wf wn)) 0) with
     | true =>
       cases (Nat.beq (List.length (outV (fun x => !qaV a b x) wf wn)) 0) with
       | true =>
         rfl
       | false =>
         cases (decide ((↑(List.length (outV (fun x => !qaV a b x) wf wn)) : Int) ≥ 64)) with
         | true =>
           rfl
         | false =>
           cases (growB (40) (List.length (outV (fun x => !qaV a b x) wf wn) + 1)) with
           | true =>
             cases (Nat.ble (0 + List.length (outV (fun x => !qaV a b x) wf wn)) (List.length (outV (fun x => !qaV a b x) wf wn))) with
             | true =>
               rfl
             | false =>
               rfl
           | false =>
             rfl
     | false =>
       cases (Nat.beq (List.length (outV (fun x => !qaV a b x) wf wn)) 0) with
       | true =>
         rfl
       | false =>
         cases (decide ((↑(List.length (outV (fun x => !qaV a b x) wf wn)) : Int) ≥ 64)) with
         | true =>
           rfl
         | false =>
           cases (growB (40) (List.length (outV (fun x => !qaV a b x) wf wn) + 1)) with
           | true =>
             cases (Nat.ble (0 + List.length (outV (fun x => !qaV a b x) wf wn)) (List.length (outV (fun x => !qaV a b x) wf wn))) with
             | true =>
               rfl
             | false =>
               rfl
           | false =>
             rfl
   | false =>
     rfl
noncomputable def k111 (nd : Int) (sf : Int) (wn : Nat) (wf : Nat → Nat → AV) (rd : Int) (hs : AV → Bool) (hf : AV → Nat → AV) (k : Int) (r : Int) (π : Plan) : Option CS := callC (F6) (3000) (11) (1) (.asl shW) ([pD]) π (a111 nd sf wn wf rd hs hf k r)
def k111_p : Plan := (.reck 6 (.fork .stop (.fork (.must true (.must true (.must true (.must true (.must true (.must true (.fork (.must true (.must true (.must true (.must true (.must true (.must true (.fork (.must true (.must true (.must true (.must true (.must true (.must true (.fork (.fork (.must true (.must true (.reck 1 (.must true (.reck 3 (.fork (.fork (.must true (.reck 1 (.must true (.fork (.fork (.fork .stop .stop) (.fork .stop .stop)) .stop)))) .stop) .stop)))))) .stop) (.must true (.reck 1 (.must true (.reck 3 (.fork (.fork (.must true (.reck 1 (.must true (.fork (.fork (.fork .stop .stop) (.fork .stop .stop)) .stop)))) .stop) .stop)))))))))))) (.must false (.must false (.must false (.must false (.must false (.must false (.reck 1 (.must true (.reck 1 (.must true (.reck 3 (.fork (.fork (.must true (.reck 1 (.must true (.fork (.fork (.fork .stop .stop) (.fork .stop .stop)) .stop)))) .stop) .stop))))))))))))))))))) (.must false (.must false (.must false (.must false (.must false (.must false (.reck 8 (.must true (.reck 1 (.must true (.reck 3 (.fork (.fork (.must true (.reck 1 (.must true (.fork (.fork (.fork .stop .stop) (.fork .stop .stop)) .stop)))) .stop) .stop))))))))))))))))))) (.must false (.must false (.must false (.must false (.must false (.must false (.reck 15 (.must true (.reck 1 (.must true (.reck 3 (.fork (.fork (.must true (.reck 1 (.must true (.fork (.fork (.fork .stop .stop) (.fork .stop .stop)) .stop)))) .stop) .stop)))))))))))))))
theorem k111_is (nd : Int) (sf : Int) (wn : Nat) (wf : Nat → Nat → AV) (rd : Int) (hs : AV → Bool) (hf : AV → Nat → AV) (k : Int) (r : Int) : k111 nd sf wn wf rd hs hf k r k111_p = (cond (nd == 0)
 (some (CS.mk [(.osl (true) (1) (0) (0) (0) 6 true)] [some (.cells [(.int .i64 nd), (.int .i64 sf), (.osl (false) (2) (0) (wn) (wn) 6 true), (.int .u64 rd), (.map (3))] true), some (.tarr shW (0) (fun p_ q_ => AV.bad) true), some (.tarr shW (wn) wf true), some (.omap shI shU false false [(.int .u64 0)] hs hf true)]))
 (cond (decide (k ≥ 0) == true)
 (cond (decide (k ≥ 0) == true) (cond (decide (k ≥ 0) == true) (cond (decide (k ≥ 0) == true) (cond (decide (k ≥ 0) == true) (cond (decide (k ≥ 0) == true) (cond (decide (k ≥ 0)) (cond (decide (k < nd) == true)
 (cond (decide (k < nd) == true) (cond (decide (k < nd) == true) (cond (decide (k < nd) == true) (cond (decide (k < nd) == true) (cond (decide (k < nd) == true) (cond (decide (k < nd)) (cond ((k != sf) == true)
 (cond ((k != sf) == true) (cond ((k != sf) == true) (cond ((k != sf) == true) (cond ((k != sf) == true) (cond ((k != sf) == true) (cond (k != sf) (cond (decide (r ≤ rd))
 (cond (decide ((if r > AV.toI (bif hs (.int .i64 k) then hf (.int .i64 k) 0 else .int .u64 0) then r else AV.toI (bif hs (.int .i64 k) then hf (.int .i64 k) 0 else .int .u64 0)) = if r > AV.toI (bif hs (.int .i64 k) then hf (.int .i64 k) 0 else .int .u64 0) then r else AV.toI (bif hs (.int .i64 k) then hf (.int .i64 k) 0 else .int .u64 0)))
 (cond (decide (AV.toI (bif hs (.int .i64 k) then hf (.int .i64 k) 0 else .int .u64 0) = AV.toI (bif hs (.int .i64 k) then hf (.int .i64 k) 0 else .int .u64 0))) (cond (decide (wn = wn)) (cond (decide (wn = wn)) (cond (decide (1 ≤ nd))
 (cond (decide (nd ≤ 7))
 (cond (decide (wn = wn)) (cond (decide (wn = wn)) (cond (Nat.ble wn 1000)
 (cond (Nat.beq (List.length (outV (qbV (leastV nd sf rd (heS true k hs) (heF true k r hs hf))) wf wn)) 0)
 (cond (Nat.beq (List.length (outV (fun x => !qbV (leastV nd sf rd (heS true k hs) (heF true k r hs hf)) x) wf wn)) 0)
 (some (CS.mk [(.osl (true) (1) (0) (0) (0) 6 true)] [some (.cells [(.int .i64 nd), (.int .i64 sf), (.osl (true) (2) (0) (0) (0) 6 true), (.int .u64 rd), (.map (3))] true), some (.tarr shW (0) (fun p_ q_ => AV.bad) true), some (.tarr shW (0) (fun p_ q_ => AV.bad) true), some (.omap shI shU false false [(.int .u64 0)] (heS true k hs) (heF true k r hs hf) true)]))
 (some (CS.mk [(.osl (true) (1) (0) (0) (0) 6 true)] [some (.cells [(.int .i64 nd), (.int .i64 sf), (.osl (false) (2) (0) (List.length (outV (fun x => !qbV (leastV nd sf rd (heS true k hs) (heF true k r hs hf)) x) wf wn)) (List.length (outV (fun x => !qbV (leastV nd sf rd (heS true k hs) (heF true k r hs hf)) x) wf wn)) 6 true), (.int .u64 rd), (.map (3))] true), some (.tarr shW (0) (fun p_ q_ => AV.bad) true), some (.tarr shW (List.length (outV (fun x => !qbV (leastV nd sf rd (heS true k hs) (heF true k r hs hf)) x) wf wn)) (finW ((outV (fun x => !qbV (leastV nd sf rd (heS true k hs) (heF true k r hs hf)) x) wf (wn)))) true), some (.omap shI shU false false [(.int .u64 0)] (heS true k hs) (heF true k r hs hf) true)])))
 (cond (Nat.beq (List.length (outV (fun x => !qbV (leastV nd sf rd (heS true k hs) (heF true k r hs hf)) x) wf wn)) 0)
 (some (CS.mk [(.osl (false) (1) (0) (List.length (outV (qbV (leastV nd sf rd (heS true k hs) (heF true k r hs hf))) wf wn)) (List.length (outV (qbV (leastV nd sf rd (heS true k hs) (heF true k r hs hf))) wf wn)) 6 true)] [some (.cells [(.int .i64 nd), (.int .i64 sf), (.osl (true) (2) (0) (0) (0) 6 true), (.int .u64 rd), (.map (3))] true), some (.tarr shW (List.length (outV (qbV (leastV nd sf rd (heS true k hs) (heF true k r hs hf))) wf wn)) (finW ((outV (qbV (leastV nd sf rd (heS true k hs) (heF true k r hs hf))) wf (wn)))) true), some (.tarr shW (0) (fun p_ q_ => AV.bad) true), some (.omap shI shU false false [(.int .u64 0)] (heS true k hs) (heF true k r hs hf) true)]))
 (some (CS.mk [(.osl (false) (1) (0) (List.length (outV (qbV (leastV nd sf rd (heS true k hs) (heF true k r hs hf))) wf wn)) (List.length (outV (qbV (leastV nd sf rd (heS true k hs) (heF true k r hs hf))) wf wn)) 6 true)] [some (.cells [(.int .i64 nd), (.int .i64 sf), (.osl (false) (2) (0) (List.length (outV (fun x => !qbV (leastV nd sf rd (heS true k hs) (heF true k r hs hf)) x) wf wn)) (List.length (outV (fun x => !qbV (leastV nd sf rd (heS true k hs) (heF true k r hs hf)) x) wf wn)) 6 true), (.int .u64 rd), (.map (3))] true), some (.tarr shW (List.length (outV (qbV (leastV nd sf rd (heS true k hs) (heF true k r hs hf))) wf wn)) (finW ((outV (qbV (leastV nd sf rd (heS true k hs) (heF true k r hs hf))) wf (wn)))) true), some (.tarr shW (List.length (outV (fun x => !qbV (leastV nd sf rd (heS true k hs) (heF true k r hs hf)) x) wf wn)) (finW ((outV (fun x => !qbV (leastV nd sf rd (heS true k hs) (heF true k r hs hf)) x) wf (wn)))) true), some (.omap shI shU false false [(.int .u64 0)] (heS true k hs) (heF true k r hs hf) true)]))))
 none) none) none)
 none)
 none) none) none) none)
 none)
 (cond (decide (wn = wn)) (cond (decide (wn = wn)) (cond (decide (1 ≤ nd))
 (cond (decide (nd ≤ 7))
 (cond (decide (wn = wn)) (cond (decide (wn = wn)) (cond (Nat.ble wn 1000)
 (cond (Nat.beq (List.length (outV (qbV (leastV nd sf rd hs hf)) wf wn)) 0)
 (cond (Nat.beq (List.length (outV (fun x => !qbV (leastV nd sf rd hs hf) x) wf wn)) 0)
 (some (CS.mk [(.osl (true) (1) (0) (0) (0) 6 true)] [some (.cells [(.int .i64 nd), (.int .i64 sf), (.osl (true) (2) (0) (0) (0) 6 true), (.int .u64 rd), (.map (3))] true), some (.tarr shW (0) (fun p_ q_ => AV.bad) true), some (.tarr shW (0) (fun p_ q_ => AV.bad) true), some (.omap shI shU false false [(.int .u64 0)] hs hf true)]))
 (some (CS.mk [(.osl (true) (1) (0) (0) (0) 6 true)] [some (.cells [(.int .i64 nd), (.int .i64 sf), (.osl (false) (2) (0) (List.length (outV (fun x => !qbV (leastV nd sf rd hs hf) x) wf wn)) (List.length (outV (fun x => !qbV (leastV nd sf rd hs hf) x) wf wn)) 6 true), (.int .u64 rd), (.map (3))] true), some (.tarr shW (0) (fun p_ q_ => AV.bad) true), some (.tarr shW (List.length (outV (fun x => !qbV (leastV nd sf rd hs hf) x) wf wn)) (finW ((outV (fun x => !qbV (leastV nd sf rd hs hf) x) wf (wn)))) true), some (.omap shI shU false false [(.int .u64 0)] hs hf true)])))
 (cond (Nat.beq (List.length (outV (fun x => !qbV (leastV nd sf rd hs hf) x) wf wn)) 0)
 (some (CS.mk [(.osl (false) (1) (0) (List.length (outV (qbV (leastV nd sf rd hs hf)) wf wn)) (List.length (outV (qbV (leastV nd sf rd hs hf)) wf wn)) 6 true)] [some (.cells [(.int .i64 nd), (.int .i64 sf), (.osl (true) (2) (0) (0) (0) 6 true), (.int .u64 rd), (.map (3))] true), some (.tarr shW (List.length (outV (qbV (leastV nd sf rd hs hf)) wf wn)) (finW ((outV (qbV (leastV nd sf rd hs hf)) wf (wn)))) true), some (.tarr shW (0) (fun p_ q_ => AV.bad) true), some (.omap shI shU false false [(.int .u64 0)] hs hf true)]))
 (some (CS.mk [(.osl (false) (1) (0) (List.length (outV (qbV (leastV nd sf rd hs hf)) wf wn)) (List.length (outV (qbV (leastV nd sf rd hs hf)) wf wn)) 6 true)] [some (.cells [(.int .i64 nd), (.int .i64 sf), (.osl (false) (2) (0) (List.length (outV (fun x => !qbV (leastV nd sf rd hs hf) x) wf wn)) (List.length (outV (fun x => !qbV (leastV nd sf rd hs hf) x) wf wn)) 6 true), (.int .u64 rd), (.map (3))] true), some (.tarr shW (List.length (outV (qbV (leastV nd sf rd hs hf)) wf wn)) (finW ((outV (qbV (leastV nd sf rd hs hf)) wf (wn)))) true), some (.tarr shW (List.length (outV (fun x => !qbV (leastV nd sf rd hs hf) x) wf wn)) (finW ((outV (fun x => !qbV (leastV nd sf rd hs hf) x) wf (wn)))) true), some (.omap shI shU false false [(.int .u64 0)] hs hf true)]))))
 none) none) none)
 none)
 none) none) none)) none) none) none) none) none) none)
 (cond ((k != sf) == true) none (cond ((k != sf) == true) none (cond ((k != sf) == true) none (cond ((k != sf) == true) none (cond ((k != sf) == true) none (cond (k != sf) none (cond (decide (wn = wn)) (cond (decide (wn = wn)) (cond (decide (1 ≤ nd))
 (cond (decide (nd ≤ 7))
 (cond (decide (wn = wn)) (cond (decide (wn = wn)) (cond (Nat.ble wn 1000)
 (cond (Nat.beq (List.length (outV (qbV (leastV nd sf rd hs hf)) wf wn)) 0)
 (cond (Nat.beq (List.length (outV (fun x => !qbV (leastV nd sf rd hs hf) x) wf wn)) 0)
 (some (CS.mk [(.osl (true) (1) (0) (0) (0) 6 true)] [some (.cells [(.int .i64 nd), (.int .i64 sf), (.osl (true) (2) (0) (0) (0) 6 true), (.int .u64 rd), (.map (3))] true), some (.tarr shW (0) (fun p_ q_ => AV.bad) true), some (.tarr shW (0) (fun p_ q_ => AV.bad) true), some (.omap shI shU false false [(.int .u64 0)] hs hf true)]))
 (some (CS.mk [(.osl (true) (1) (0) (0) (0) 6 true)] [some (.cells [(.int .i64 nd), (.int .i64 sf), (.osl (false) (2) (0) (List.length (outV (fun x => !qbV (leastV nd sf rd hs hf) x) wf wn)) (List.length (outV (fun x => !qbV (leastV nd sf rd hs hf) x) wf wn)) 6 true), (.int .u64 rd), (.map (3))] true), some (.tarr shW (0) (fun p_ q_ => AV.bad) true), some (.tarr shW (List.length (outV (fun x => !qbV (leastV nd sf rd hs hf) x) wf wn)) (finW ((outV (fun x => !qbV (leastV nd sf rd hs hf) x) wf (wn)))) true), some (.omap shI shU false false [(.int .u64 0)] hs hf true)])))
 (cond (Nat.beq (List.length (outV (fun x => !qbV (leastV nd sf rd hs hf) x) wf wn)) 0)
 (some (CS.mk [(.osl (false) (1) (0) (List.length (outV (qbV (leastV nd sf rd hs hf)) wf wn)) (List.length (outV (qbV (leastV nd sf rd hs hf)) wf wn)) 6 true)] [some (.cells [(.int .i64 nd), (.int .i64 sf), (.osl (true) (2) (0) (0) (0) 6 true), (.int .u64 rd), (.map (3))] true), some (.tarr shW (List.length (outV (qbV (leastV nd sf rd hs hf)) wf wn)) (finW ((outV (qbV (leastV nd sf rd hs hf)) wf (wn)))) true), some (.tarr shW (0) (fun p_ q_ => AV.bad) true), some (.omap shI shU false false [(.int .u64 0)] hs hf true)]))
 (some (CS.mk [(.osl (false) (1) (0) (List.length (outV (qbV (leastV nd sf rd hs hf)) wf wn)) (List.length (outV (qbV (leastV nd sf rd hs hf)) wf wn)) 6 true)] [some (.cells [(.int .i64 nd), (.int .i64 sf), (.osl (false) (2) (0) (List.length (outV (fun x => !qbV (leastV nd sf rd hs hf) x) wf wn)) (List.length (outV (fun x => !qbV (leastV nd sf rd hs hf) x) wf wn)) 6 true), (.int .u64 rd), (.map (3))] true), some (.tarr shW (List.length (outV (qbV (leastV nd sf rd hs hf)) wf wn)) (finW ((outV (qbV (leastV nd sf rd hs hf)) wf (wn)))) true), some (.tarr shW (List.length (outV (fun x => !qbV (leastV nd sf rd hs hf) x) wf wn)) (finW ((outV (fun x => !qbV (leastV nd sf rd hs hf) x) wf (wn)))) true), some (.omap shI shU false false [(.int .u64 0)] hs hf true)]))))
 none) none) none)
 none)
 none) none) none)))))))) none) none) none) none) none) none)
 (cond (decide (k < nd) == true) none (cond (decide (k < nd) == true) none (cond (decide (k < nd) == true) none (cond (decide (k < nd) == true) none (cond (decide (k < nd) == true) none (cond (decide (k < nd)) none (cond (decide (wn = wn)) (cond (decide (wn = wn)) (cond (decide (1 ≤ nd))
 (cond (decide (nd ≤ 7))
 (cond (decide (wn = wn)) (cond (decide (wn = wn)) (cond (Nat.ble wn 1000)
 (cond (Nat.beq (List.length (outV (qbV (leastV nd sf rd hs hf)) wf wn)) 0)
 (cond (Nat.beq (List.length (outV (fun x => !qbV (leastV nd sf rd hs hf) x) wf wn)) 0)
 (some (CS.mk [(.osl (true) (1) (0) (0) (0) 6 true)] [some (.cells [(.int .i64 nd), (.int .i64 sf), (.osl (true) (2) (0) (0) (0) 6 true), (.int .u64 rd), (.map (3))] true), some (.tarr shW (0) (fun p_ q_ => AV.bad) true), some (.tarr shW (0) (fun p_ q_ => AV.bad) true), some (.omap shI shU false false [(.int .u64 0)] hs hf true)]))
 (some (CS.mk [(.osl (true) (1) (0) (0) (0) 6 true)] [some (.cells [(.int .i64 nd), (.int .i64 sf), (.osl (false) (2) (0) (List.length (outV (fun x => !qbV (leastV nd sf rd hs hf) x) wf wn)) (List.length (outV (fun x => !qbV (leastV nd sf rd hs hf) x) wf wn)) 6 true), (.int .u64 rd), (.map (3))] true), some (.tarr shW (0) (fun p_ q_ => AV.bad) true), some (.tarr shW (List.length (outV (fun x => !qbV (leastV nd sf rd hs hf) x) wf wn)) (finW ((outV (fun x => !qbV (leastV nd sf rd hs hf) x) wf (wn)))) true), some (.omap shI shU false false [(.int .u64 0)] hs hf true)])))
 (cond (Nat.beq (List.length (outV (fun x => !qbV (leastV nd sf rd hs hf) x) wf wn)) 0)
 (some (CS.mk [(.osl (false) (1) (0) (List.length (outV (qbV (leastV nd sf rd hs hf)) wf wn)) (List.length (outV (qbV (leastV nd sf rd hs hf)) wf wn)) 6 true)] [some (.cells [(.int .i64 nd), (.int .i64 sf), (.osl (true) (2) (0) (0) (0) 6 true), (.int .u64 rd), (.map (3))] true), some (.tarr shW (List.length (outV (qbV (leastV nd sf rd hs hf)) wf wn)) (finW ((outV (qbV (leastV nd sf rd hs hf)) wf (wn)))) true), some (.tarr shW (0) (fun p_ q_ => AV.bad) true), some (.omap shI shU false false [(.int .u64 0)] hs hf true)]))
 (some (CS.mk [(.osl (false) (1) (0) (List.length (outV (qbV (leastV nd sf rd hs hf)) wf wn)) (List.length (outV (qbV (leastV nd sf rd hs hf)) wf wn)) 6 true)] [some (.cells [(.int .i64 nd), (.int .i64 sf), (.osl (false) (2) (0) (List.length (outV (fun x => !qbV (leastV nd sf rd hs hf) x) wf wn)) (List.length (outV (fun x => !qbV (leastV nd sf rd hs hf) x) wf wn)) 6 true), (.int .u64 rd), (.map (3))] true), some (.tarr shW (List.length (outV (qbV (leastV nd sf rd hs hf)) wf wn)) (finW ((outV (qbV (leastV nd sf rd hs hf)) wf (wn)))) true), some (.tarr shW (List.length (outV (fun x => !qbV (leastV nd sf rd hs hf) x) wf wn)) (finW ((outV (fun x => !qbV (leastV nd sf rd hs hf) x) wf (wn)))) true), some (.omap shI shU false false [(.int .u64 0)] hs hf true)]))))
 none) none) none)
 none)
 none) none) none)))))))) none) none) none) none) none) none)
 (cond (decide (k ≥ 0) == true) none (cond (decide (k ≥ 0) == true) none (cond (decide (k ≥ 0) == true) none (cond (decide (k ≥ 0) == true) none (cond (decide (k ≥ 0) == true) none (cond (decide (k ≥ 0)) none (cond (decide (wn = wn)) (cond (decide (wn = wn)) (cond (decide (1 ≤ nd))
 (cond (decide (nd ≤ 7))
 (cond (decide (wn = wn)) (cond (decide (wn = wn)) (cond (Nat.ble wn 1000)
 (cond (Nat.beq (List.length (outV (qbV (leastV nd sf rd hs hf)) wf wn)) 0)
 (cond (Nat.beq (List.length (outV (fun x => !qbV (leastV nd sf rd hs hf) x) wf wn)) 0)
 (some (CS.mk [(.osl (true) (1) (0) (0) (0) 6 true)] [some (.cells [(.int .i64 nd), (.int .i64 sf), (.osl (true) (2) (0) (0) (0) 6 true), (.int .u64 rd), (.map (3))] true), some (.tarr shW (0) (fun p_ q_ => AV.bad) true), some (.tarr shW (0) (fun p_ q_ => AV.bad) true), some (.omap shI shU false false [(.int .u64 0)] hs hf true)]))
 (some (CS.mk [(.osl (true) (1) (0) (0) (0) 6 true)] [some (.cells [(.int .i64 nd), (.int .i64 sf), (.osl (false) (2) (0) (List.length (outV (fun x => !qbV (leastV nd sf rd hs hf) x) wf wn)) (List.length (outV (fun x => !qbV (leastV nd sf rd hs hf) x) wf wn)) 6 true), (.int .u64 rd), (.map (3))] true), some (.tarr shW (0) (fun p_ q_ => AV.bad) true), some (.tarr shW (List.length (outV (fun x => !qbV (leastV nd sf rd hs hf) x) wf wn)) (finW ((outV (fun x => !qbV (leastV nd sf rd hs hf) x) wf (wn)))) true), some (.omap shI shU false false [(.int .u64 0)] hs hf true)])))
 (cond (Nat.beq (List.length (outV (fun x => !qbV (leastV nd sf rd hs hf) x) wf wn)) 0)
 (some (CS.mk [(.osl (false) (1) (0) (List.length (outV (qbV (leastV nd sf rd hs hf)) wf wn)) (List.length (outV (qbV (leastV nd sf rd hs hf)) wf wn)) 6 true)] [some (.cells [(.int .i64 nd), (.int .i64 sf), (.osl (true) (2) (0) (0) (0) 6 true), (.int .u64 rd), (.map (3))] true), some (.tarr shW (List.length (outV (qbV (leastV nd sf rd hs hf)) wf wn)) (finW ((outV (qbV (leastV nd sf rd hs hf)) wf (wn)))) true), some (.tarr shW (0) (fun p_ q_ => AV.bad) true), some (.omap shI shU false false [(.int .u64 0)] hs hf true)]))
 (some (CS.mk [(.osl (false) (1) (0) (List.length (outV (qbV (leastV nd sf rd hs hf)) wf wn)) (List.length (outV (qbV (leastV nd sf rd hs hf)) wf wn)) 6 true)] [some (.cells [(.int .i64 nd), (.int .i64 sf), (.osl (false) (2) (0) (List.length (outV (fun x => !qbV (leastV nd sf rd hs hf) x) wf wn)) (List.length (outV (fun x => !qbV (leastV nd sf rd hs hf) x) wf wn)) 6 true), (.int .u64 rd), (.map (3))] true), some (.tarr shW (List.length (outV (qbV (leastV nd sf rd hs hf)) wf wn)) (finW ((outV (qbV (leastV nd sf rd hs hf)) wf (wn)))) true), some (.tarr shW (List.length (outV (fun x => !qbV (leastV nd sf rd hs hf) x) wf wn)) (finW ((outV (fun x => !qbV (leastV nd sf rd hs hf) x) wf (wn)))) true), some (.omap shI shU false false [(.int .u64 0)] hs hf true)]))))
 none) none) none)
 none)
 none) none) none))))))))) := by kernel_rfl
theorem k111_c (nd : Int) (sf : Int) (wn : Nat) (wf : Nat → Nat → AV) (rd : Int) (hs : AV → Bool) (hf : AV → Nat → AV) (k : Int) (r : Int) : k111 nd sf wn wf rd hs hf k r k111_p = (cond (nd == 0) (some ⟨[.osl true 1 0 0 0 6 true], [some (.cells [.int .i64 nd, .int .i64 sf, .osl false 2 0 wn wn 6 true, .int .u64 rd, .map 3] true), some (.tarr shW 0 (fun _ _ => .bad) true), some (.tarr shW wn wf true), some (.omap shI shU false false [.int .u64 0] hs hf true)]⟩) (cond (decide (1 ≤ nd)) (cond (decide (nd ≤ 7)) (cond (Nat.ble wn 1000) (cond (Nat.beq (outV (qbV (leastV nd sf rd (heS (heU nd sf rd k r) k hs) (heF (heU nd sf rd k r) k r hs hf))) wf wn).length 0) (cond (Nat.beq (outV (fun x => !(qbV (leastV nd sf rd (heS (heU nd sf rd k r) k hs) (heF (heU nd sf rd k r) k r hs hf)) x)) wf wn).length 0) (some ⟨[.osl true 1 0 0 0 6 true], [some (.cells [.int .i64 nd, .int .i64 sf, .osl true 2 0 0 0 6 true, .int .u64 rd, .map 3] true), some (.tarr shW 0 (fun _ _ => .bad) true), some (.tarr shW 0 (fun _ _ => .bad) true), some (.omap shI shU false false [.int .u64 0] (heS (heU nd sf rd k r) k hs) (heF (heU nd sf rd k r) k r hs hf) true)]⟩) (some ⟨[.osl true 1 0 0 0 6 true], [some (.cells [.int .i64 nd, .int .i64 sf, .osl false 2 0 (outV (fun x => !(qbV (leastV nd sf rd (heS (heU nd sf rd k r) k hs) (heF (heU nd sf rd k r) k r hs hf)) x)) wf wn).length (outV (fun x => !(qbV (leastV nd sf rd (heS (heU nd sf rd k r) k hs) (heF (heU nd sf rd k r) k r hs hf)) x)) wf wn).length 6 true, .int .u64 rd, .map 3] true), some (.tarr shW 0 (fun _ _ => .bad) true), some (.tarr shW (outV (fun x => !(qbV (leastV nd sf rd (heS (heU nd sf rd k r) k hs) (heF (heU nd sf rd k r) k r hs hf)) x)) wf wn).length (finW (outV (fun x => !(qbV (leastV nd sf rd (heS (heU nd sf rd k r) k hs) (heF (heU nd sf rd k r) k r hs hf)) x)) wf wn)) true), some (.omap shI shU false false [.int .u64 0] (heS (heU nd sf rd k r) k hs) (heF (heU nd sf rd k r) k r hs hf) true)]⟩)) (cond (Nat.beq (outV (fun x => !(qbV (leastV nd sf rd (heS (heU nd sf rd k r) k hs) (heF (heU nd sf rd k r) k r hs hf)) x)) wf wn).length 0) (some ⟨[.osl false 1 0 (outV (qbV (leastV nd sf rd (heS (heU nd sf rd k r) k hs) (heF (heU nd sf rd k r) k r hs hf))) wf wn).length (outV (qbV (leastV nd sf rd (heS (heU nd sf rd k r) k hs) (heF (heU nd sf rd k r) k r hs hf))) wf wn).length 6 true], [some (.cells [.int .i64 nd, .int .i64 sf, .osl true 2 0 0 0 6 true, .int .u64 rd, .map 3] true), some (.tarr shW (outV (qbV (leastV nd sf rd (heS (heU nd sf rd k r) k hs) (heF (heU nd sf rd k r) k r hs hf))) wf wn).length (finW (outV (qbV (leastV nd sf rd (heS (heU nd sf rd k r) k hs) (heF (heU nd sf rd k r) k r hs hf))) wf wn)) true), some (.tarr shW 0 (fun _ _ => .bad) true), some (.omap shI shU false false [.int .u64 0] (heS (heU nd sf rd k r) k hs) (heF (heU nd sf rd k r) k r hs hf) true)]⟩) (some ⟨[.osl false 1 0 (outV (qbV (leastV nd sf rd (heS (heU nd sf rd k r) k hs) (heF (heU nd sf rd k r) k r hs hf))) wf wn).length (outV (qbV (leastV nd sf rd (heS (heU nd sf rd k r) k hs) (heF (heU nd sf rd k r) k r hs hf))) wf wn).length 6 true], [some (.cells [.int .i64 nd, .int .i64 sf, .osl false 2 0 (outV (fun x => !(qbV (leastV nd sf rd (heS (heU nd sf rd k r) k hs) (heF (heU nd sf rd k r) k r hs hf)) x)) wf wn).length (outV (fun x => !(qbV (leastV nd sf rd (heS (heU nd sf rd k r) k hs) (heF (heU nd sf rd k r) k r hs hf)) x)) wf wn).length 6 true, .int .u64 rd, .map 3] true), some (.tarr shW (outV (qbV (leastV nd sf rd (heS (heU nd sf rd k r) k hs) (heF (heU nd sf rd k r) k r hs hf))) wf wn).length (finW (outV (qbV (leastV nd sf rd (heS (heU nd sf rd k r) k hs) (heF (heU nd sf rd k r) k r hs hf))) wf wn)) true), some (.tarr shW (outV (fun x => !(qbV (leastV nd sf rd (heS (heU nd sf rd k r) k hs) (heF (heU nd sf rd k r) k r hs hf)) x)) wf wn).length (finW (outV (fun x => !(qbV (leastV nd sf rd (heS (heU nd sf rd k r) k hs) (heF (heU nd sf rd k r) k r hs hf)) x)) wf wn)) true), some (.omap shI shU false false [.int .u64 0] (heS (heU nd sf rd k r) k hs) (heF (heU nd sf rd k r) k r hs hf) true)]⟩))) none) none) none)) := by
 rw [k111_is]
 try simp only [eq_self, decide_true, beq_self_eq_true, Nat.beq_refl, ble_self, Int.le_refl, Nat.le_refl, beq_true]
 unfold heU
 cases (nd == 0) <;> cases (decide (1 ≤ nd)) <;> cases (decide (nd ≤ 7)) <;> cases (decide (k ≥ 0)) <;> cases (decide (k < nd)) <;> cases (k != sf) <;> cases (decide (r ≤ rd)) <;> cases (Nat.ble wn 1000) <;> rfl
noncomputable def k80 (nd : Int) (sf : Int) (rd : Int) (hs : AV → Bool) (hf : AV → Nat → AV) (a : Int) (b : Int) (x : Int) (y : Int) (π : Plan) : Option CS := callC (F6) (3000) (8) (1) (.keep) ([pD]) π (a80 nd sf rd hs hf a b x y)
def k80_p : Plan := (.reck 6 (.fork .stop (.reck 4 (.fork (.fork (.reck 9 (.must false (.must true (.must true (.must true (.must true (.must true (.must true (.must true (.must true (.reck 1 (.must true (.must true (.reck 1 (.must true (.must true (.must true .stop))))))))))))))))) (.reck 2 (.fork .stop (.reck 6 (.must false (.must true (.must true (.must true (.must true (.must true (.must true (.must true (.must true (.must false (.fork (.fork (.must true (.must true (.reck 1 (.must true (.must true (.must true (.reck 1 (.must true (.must true .stop))))))))) .stop) .stop))))))))))))))) (.fork (.reck 9 (.must false (.must true (.must true (.must true (.must true (.must true (.must true (.must true (.must true (.reck 1 (.must true (.must true (.reck 1 (.must true (.must true (.must true .stop))))))))))))))))) (.reck 2 (.fork .stop (.reck 6 (.must false (.must true (.must true (.must true (.must true (.must true (.must true (.must true (.must true (.must false (.fork (.fork (.must true (.must true (.reck 1 (.must true (.must true (.must true (.reck 1 (.must true (.must true .stop))))))))) .stop) .stop)))))))))))))))))))
theorem k80_is (nd : Int) (sf : Int) (rd : Int) (hs : AV → Bool) (hf : AV → Nat → AV) (a : Int) (b : Int) (x : Int) (y : Int) : k80 nd sf rd hs hf a b x y k80_p = (cond (nd == 0)
 (some (CS.mk [(AV.tuple [(.int .u64 0), (.int .i64 (1))])] [some (.cells [(.int .i64 nd), (.int .i64 sf), (.osl (true) (1) (0) (0) (0) 6 true), (.int .u64 rd), (.map (2))] true), some (.tarr shW (0) (fun p_ q_ => AV.bad) true), some (.omap shI shU false false [(.int .u64 0)] hs hf true)]))
 (cond (Nat.beq (List.length (outV (qaV a b) (fun x x_1 => AV.bad) 0)) 0)
 (cond (Nat.beq (List.length (outV (fun x => !qaV a b x) (fun x x_1 => AV.bad) 0)) 0)
 (cond (nd == 0) none (cond (decide (x = x)) (cond (decide (y = y)) (cond (decide (x = x)) (cond (decide (y = y)) (cond (decide (b = b)) (cond (decide (b = b)) (cond (decide (a = a)) (cond (decide (a = a)) (cond (decide (a = a)) (cond (decide (b = b)) (cond (decide (x = x)) (cond (decide (y = y)) (cond (decide (IntKind.wrap IntKind.u64 (rd + 1) = IntKind.wrap IntKind.u64 (rd + 1))) (some (CS.mk [(AV.tuple [(.int .u64 (IntKind.wrap IntKind.u64 (rd + 1))), (.int .i64 (0))])] [some (.cells [(.int .i64 nd), (.int .i64 sf), (.osl (false) (1) (0) (1) (1) 6 true), (.int .u64 (IntKind.wrap IntKind.u64 (rd + 1))), (.map (2))] true), some (.tarr shW (1) (rowsOf (6) [(.int .u64 (a)), (.int .u64 (b)), (.int .u64 0), (.int .u32 (x)), (.int .u32 (y)), (.int .u64 (IntKind.wrap IntKind.u64 (rd + 1)))] (1)) true), some (.omap shI shU false false [(.int .u64 0)] hs hf true)])) none) none) none) none) none) none) none) none) none) none) none) none) none))
 (cond (decide ((↑(List.length (outV (fun x => !qaV a b x) (fun x x_1 => AV.bad) 0)) : Int) ≥ 64))
 (some (CS.mk [(AV.tuple [(.int .u64 0), (.int .i64 (53))])] [some (.cells [(.int .i64 nd), (.int .i64 sf), (.osl (false) (1) (0) (List.length (outV (fun x => !qaV a b x) (fun x x_1 => AV.bad) 0)) (List.length (outV (fun x => !qaV a b x) (fun x x_1 => AV.bad) 0)) 6 true), (.int .u64 rd), (.map (2))] true), some (.tarr shW (List.length (outV (fun x => !qaV a b x) (fun x x_1 => AV.bad) 0)) (finW ((outV (fun x => !qaV a b x) (fun p_ q_ => AV.bad) (0)))) true), some (.omap shI shU false false [(.int .u64 0)] hs hf true)]))
 (cond (nd == 0) none (cond (decide (x = x)) (cond (decide (y = y)) (cond (decide (x = x)) (cond (decide (y = y)) (cond (decide (b = b)) (cond (decide (b = b)) (cond (decide (a = a)) (cond (decide (a = a)) (cond (Nat.ble ((List.length (outV (fun x => !qaV a b x) (fun x x_1 => AV.bad) 0)) + (1)) (List.length (outV (fun x => !qaV a b x) (fun x x_1 => AV.bad) 0))) none (cond (growB (40) (List.length (outV (fun x => !qaV a b x) (fun x x_1 => AV.bad) 0) + 1))
 (cond (Nat.ble (0 + List.length (outV (fun x => !qaV a b x) (fun x x_1 => AV.bad) 0)) (List.length (outV (fun x => !qaV a b x) (fun x x_1 => AV.bad) 0)))
 (cond (decide (a = a)) (cond (decide (b = b)) (cond (decide (x = x)) (cond (decide (y = y)) (cond (decide (IntKind.wrap IntKind.u64 (rd + 1) = IntKind.wrap IntKind.u64 (rd + 1))) (cond (Nat.beq (List.length (outV (fun x => !qaV a b x) (fun x x_1 => AV.bad) 0)) (List.length (outV (fun x => !qaV a b x) (fun x x_1 => AV.bad) 0))) (cond (Nat.beq (List.length (outV (fun x => !qaV a b x) (fun x x_1 => AV.bad) 0)) (List.length (outV (fun x => !qaV a b x) (fun x x_1 => AV.bad) 0))) (some (CS.mk [(AV.tuple [(.int .u64 (IntKind.wrap IntKind.u64 (rd + 1))), (.int .i64 (0))])] [some (.cells [(.int .i64 nd), (.int .i64 sf), (.osl (false) (1) (0) (List.length (outV (fun x => !qaV a b x) (fun x x_1 => AV.bad) 0) + 1) (List.length (outV (fun x => !qaV a b x) (fun x x_1 => AV.bad) 0) + 1) 6 true), (.int .u64 (IntKind.wrap IntKind.u64 (rd + 1))), (.map (2))] true), some (.tarr shW (List.length (outV (fun x => !qaV a b x) (fun x x_1 => AV.bad) 0) + 1) (fjoin (fun p_ q_ => (finW ((outV (fun x => !qaV a b x) (fun p_ q_ => AV.bad) (0)))) (0 + p_) q_) (List.length (outV (fun x => !qaV a b x) (fun x x_1 => AV.bad) 0)) (rowsOf (6) [(.int .u64 (a)), (.int .u64 (b)), (.int .u64 0), (.int .u32 (x)), (.int .u32 (y)), (.int .u64 (IntKind.wrap IntKind.u64 (rd + 1)))] (1))) true), some (.omap shI shU false false [(.int .u64 0)] hs hf true)])) none) none) none) none) none) none) none)
 none)
 none)) none) none) none) none) none) none) none) none))))
 (cond (Nat.beq (List.length (outV (fun x => !qaV a b x) (fun x x_1 => AV.bad) 0)) 0)
 (cond (nd == 0) none (cond (decide (x = x)) (cond (decide (y = y)) (cond (decide (x = x)) (cond (decide (y = y)) (cond (decide (b = b)) (cond (decide (b = b)) (cond (decide (a = a)) (cond (decide (a = a)) (cond (decide (a = a)) (cond (decide (b = b)) (cond (decide (x = x)) (cond (decide (y = y)) (cond (decide (IntKind.wrap IntKind.u64 (rd + 1) = IntKind.wrap IntKind.u64 (rd + 1))) (some (CS.mk [(AV.tuple [(.int .u64 (IntKind.wrap IntKind.u64 (rd + 1))), (.int .i64 (0))])] [some (.cells [(.int .i64 nd), (.int .i64 sf), (.osl (false) (1) (0) (1) (1) 6 true), (.int .u64 (IntKind.wrap IntKind.u64 (rd + 1))), (.map (2))] true), some (.tarr shW (1) (rowsOf (6) [(.int .u64 (a)), (.int .u64 (b)), (.int .u64 0), (.int .u32 (x)), (.int .u32 (y)), (.int .u64 (IntKind.wrap IntKind.u64 (rd + 1)))] (1)) true), some (.omap shI shU false false [(.int .u64 0)] hs hf true)])) none) none) none) none) none) none) none) none) none) none) none) none) none))
 (cond (decide ((↑(List.length (outV (fun x => !qaV a b x) (fun x x_1 => AV.bad) 0)) : Int) ≥ 64))
 (some (CS.mk [(AV.tuple [(.int .u64 0), (.int .i64 (53))])] [some (.cells [(.int .i64 nd), (.int .i64 sf), (.osl (false) (1) (0) (List.length (outV (fun x => !qaV a b x) (fun x x_1 => AV.bad) 0)) (List.length (outV (fun x => !qaV a b x) (fun x x_1 => AV.bad) 0)) 6 true), (.int .u64 rd), (.map (2))] true), some (.tarr shW (List.length (outV (fun x => !qaV a b x) (fun x x_1 => AV.bad) 0)) (finW ((outV (fun x => !qaV a b x) (fun p_ q_ => AV.bad) (0)))) true), some (.omap shI shU false false [(.int .u64 0)] hs hf true)]))
 (cond (nd == 0) none (cond (decide (x = x)) (cond (decide (y = y)) (cond (decide (x = x)) (cond (decide (y = y)) (cond (decide (b = b)) (cond (decide (b = b)) (cond (decide (a = a)) (cond (decide (a = a)) (cond (Nat.ble ((List.length (outV (fun x => !qaV a b x) (fun x x_1 => AV.bad) 0)) + (1)) (List.length (outV (fun x => !qaV a b x) (fun x x_1 => AV.bad) 0))) none (cond (growB (40) (List.length (outV (fun x => !qaV a b x) (fun x x_1 => AV.bad) 0) + 1))
 (cond (Nat.ble (0 + List.length (outV (fun x => !qaV a b x) (fun x x_1 => AV.bad) 0)) (List.length (outV (fun x => !qaV a b x) (fun x x_1 => AV.bad) 0)))
 (cond (decide (a = a)) (cond (decide (b = b)) (cond (decide (x = x)) (cond (decide (y = y)) (cond (decide (IntKind.wrap IntKind.u64 (rd + 1) = IntKind.wrap IntKind.u64 (rd + 1))) (cond (Nat.beq (List.length (outV (fun x => !qaV a b x) (fun x x_1 => AV.bad) 0)) (List.length (outV (fun x => !qaV a b x) (fun x x_1 => AV.bad) 0))) (cond (Nat.beq (List.length (outV (fun x => !qaV a b x) (fun x x_1 => AV.bad) 0)) (List.length (outV (fun x => !qaV a b x) (fun x x_1 => AV.bad) 0))) (some (CS.mk [(AV.tuple [(.int .u64 (IntKind.wrap IntKind.u64 (rd + 1))), (.int .i64 (0))])] [some (.cells [(.int .i64 nd), (.int .i64 sf), (.osl (false) (1) (0) (List.length (outV (fun x => !qaV a b x) (fun x x_1 => AV.bad) 0) + 1) (List.length (outV (fun x => !qaV a b x) (fun x x_1 => AV.bad) 0) + 1) 6 true), (.int .u64 (IntKind.wrap IntKind.u64 (rd + 1))), (.map (2))] true), some (.tarr shW (List.length (outV (fun x => !qaV a b x) (fun x x_1 => AV.bad) 0) + 1) (fjoin (fun p_ q_ => (finW ((outV (fun x => !qaV a b x) (fun p_ q_ => AV.bad) (0)))) (0 + p_) q_) (List.length (outV (fun x => !qaV a b x) (fun x x_1 => AV.bad) 0)) (rowsOf (6) [(.int .u64 (a)), (.int .u64 (b)), (.int .u64 0), (.int .u32 (x)), (.int .u32 (y)), (.int .u64 (IntKind.wrap IntKind.u64 (rd + 1)))] (1))) true), some (.omap shI shU false false [(.int .u64 0)] hs hf true)])) none) none) none) none) none) none) none)
 none)
 none)) none) none) none) none) none) none) none) none)))))) := by kernel_rfl
theorem k80_eq (nd : Int) (sf : Int) (rd : Int) (hs : AV → Bool) (hf : AV → Nat → AV) (a : Int) (b : Int) (x : Int) (y : Int) : k80 nd sf rd hs hf a b x y k80_p = (cond (nd == 0)
 (some (CS.mk [(AV.tuple [(.int .u64 0), (.int .i64 (1))])] [some (.cells [(.int .i64 nd), (.int .i64 sf), (.osl (true) (1) (0) (0) (0) 6 true), (.int .u64 rd), (.map (2))] true), some (.tarr shW (0) (fun p_ q_ => AV.bad) true), some (.omap shI shU false false [(.int .u64 0)] hs hf true)]))
 (cond (Nat.beq (List.length (outV (qaV a b) (fun x x_1 => AV.bad) 0)) 0)
 (cond (Nat.beq (List.length (outV (fun x => !qaV a b x) (fun x x_1 => AV.bad) 0)) 0)
 (some (CS.mk [(AV.tuple [(.int .u64 (IntKind.wrap IntKind.u64 (rd + 1))), (.int .i64 (0))])] [some (.cells [(.int .i64 nd), (.int .i64 sf), (.osl (false) (1) (0) (1) (1) 6 true), (.int .u64 (IntKind.wrap IntKind.u64 (rd + 1))), (.map (2))] true), some (.tarr shW (1) (rowsOf (6) [(.int .u64 (a)), (.int .u64 (b)), (.int .u64 0), (.int .u32 (x)), (.int .u32 (y)), (.int .u64 (IntKind.wrap IntKind.u64 (rd + 1)))] (1)) true), some (.omap shI shU false false [(.int .u64 0)] hs hf true)]))
 (cond (decide ((↑(List.length (outV (fun x => !qaV a b x) (fun x x_1 => AV.bad) 0)) : Int) ≥ 64))
 (some (CS.mk [(AV.tuple [(.int .u64 0), (.int .i64 (53))])] [some (.cells [(.int .i64 nd), (.int .i64 sf), (.osl (false) (1) (0) (List.length (outV (fun x => !qaV a b x) (fun x x_1 => AV.bad) 0)) (List.length (outV (fun x => !qaV a b x) (fun x x_1 => AV.bad) 0)) 6 true), (.int .u64 rd), (.map (2))] true), some (.tarr shW (List.length (outV (fun x => !qaV a b x) (fun x x_1 => AV.bad) 0)) (finW ((outV (fun x => !qaV a b x) (fun p_ q_ => AV.bad) (0)))) true), some (.omap shI shU false false [(.int .u64 0)] hs hf true)]))
 (cond (Nat.ble ((List.length (outV (fun x => !qaV a b x) (fun x x_1 => AV.bad) 0)) + (1)) (List.length (outV (fun x => !qaV a b x) (fun x x_1 => AV.bad) 0))) none (cond (growB (40) (List.length (outV (fun x => !qaV a b x) (fun x x_1 => AV.bad) 0) + 1))
 (cond (Nat.ble (0 + List.length (outV (fun x => !qaV a b x) (fun x x_1 => AV.bad) 0)) (List.length (outV (fun x => !qaV a b x) (fun x x_1 => AV.bad) 0)))
 (some (CS.mk [(AV.tuple [(.int .u64 (IntKind.wrap IntKind.u64 (rd + 1))), (.int .i64 (0))])] [some (.cells [(.int .i64 nd), (.int .i64 sf), (.osl (false) (1) (0) (List.length (outV (fun x => !qaV a b x) (fun x x_1 => AV.bad) 0) + 1) (List.length (outV (fun x => !qaV a b x) (fun x x_1 => AV.bad) 0) + 1) 6 true), (.int .u64 (IntKind.wrap IntKind.u64 (rd + 1))), (.map (2))] true), some (.tarr shW (List.length (outV (fun x => !qaV a b x) (fun x x_1 => AV.bad) 0) + 1) (fjoin (fun p_ q_ => (finW ((outV (fun x => !qaV a b x) (fun p_ q_ => AV.bad) (0)))) (0 + p_) q_) (List.length (outV (fun x => !qaV a b x) (fun x x_1 => AV.bad) 0)) (rowsOf (6) [(.int .u64 (a)), (.int .u64 (b)), (.int .u64 0), (.int .u32 (x)), (.int .u32 (y)), (.int .u64 (IntKind.wrap IntKind.u64 (rd + 1)))] (1))) true), some (.omap shI shU false false [(.int .u64 0)] hs hf true)]))
 none)
 none))))
 (cond (Nat.beq (List.length (outV (fun x => !qaV a b x) (fun x x_1 => AV.bad) 0)) 0)
 (some (CS.mk [(AV.tuple [(.int .u64 (IntKind.wrap IntKind.u64 (rd + 1))), (.int .i64 (0))])] [some (.cells [(.int .i64 nd), (.int .i64 sf), (.osl (false) (1) (0) (1) (1) 6 true), (.int .u64 (IntKind.wrap IntKind.u64 (rd + 1))), (.map (2))] true), some (.tarr shW (1) (rowsOf (6) [(.int .u64 (a)), (.int .u64 (b)), (.int .u64 0), (.int .u32 (x)), (.int .u32 (y)), (.int .u64 (IntKind.wrap IntKind.u64 (rd + 1)))] (1)) true), some (.omap shI shU false false [(.int .u64 0)] hs hf true)]))
 (cond (decide ((↑(List.length (outV (fun x => !qaV a b x) (fun x x_1 => AV.bad) 0)) : Int) ≥ 64))
 (some (CS.mk [(AV.tuple [(.int .u64 0), (.int .i64 (53))])] [some (.cells [(.int .i64 nd), (.int .i64 sf), (.osl (false) (1) (0) (List.length (outV (fun x => !qaV a b x) (fun x x_1 => AV.bad) 0)) (List.length (outV (fun x => !qaV a b x) (fun x x_1 => AV.bad) 0)) 6 true), (.int .u64 rd), (.map (2))] true), some (.tarr shW (List.length (outV (fun x => !qaV a b x) (fun x x_1 => AV.bad) 0)) (finW ((outV (fun x => !qaV a b x) (fun p_ q_ => AV.bad) (0)))) true), some (.omap shI shU false false [(.int .u64 0)] hs hf true)]))
 (cond (Nat.ble ((List.length (outV (fun x => !qaV a b x) (fun x x_1 => AV.bad) 0)) + (1)) (List.length (outV (fun x => !qaV a b x) (fun x x_1 => AV.bad) 0))) none (cond (growB (40) (List.length (outV (fun x => !qaV a b x) (fun x x_1 => AV.bad) 0) + 1))
 (cond (Nat.ble (0 + List.length (outV (fun x => !qaV a b x) (fun x x_1 => AV.bad) 0)) (List.length (outV (fun x => !qaV a b x) (fun x x_1 => AV.bad) 0)))
 (some (CS.mk [(AV.tuple [(.int .u64 (IntKind.wrap IntKind.u64 (rd + 1))), (.int .i64 (0))])] [some (.cells [(.int .i64 nd), (.int .i64 sf), (.osl (false) (1) (0) (List.length (outV (fun x => !qaV a b x) (fun x x_1 => AV.bad) 0) + 1) (List.length (outV (fun x => !qaV a b x) (fun x x_1 => AV.bad) 0) + 1) 6 true), (.int .u64 (IntKind.wrap IntKind.u64 (rd + 1))), (.map (2))] true), some (.tarr shW (List.length (outV (fun x => !qaV a b x) (fun x x_1 => AV.bad) 0) + 1) (fjoin (fun p_ q_ => (finW ((outV (fun x => !qaV a b x) (fun p_ q_ => AV.bad) (0)))) (0 + p_) q_) (List.length (outV (fun x => !qaV a b x) (fun x x_1 => AV.bad) 0)) (rowsOf (6) [(.int .u64 (a)), (.int .u64 (b)), (.int .u64 0), (.int .u32 (x)), (.int .u32 (y)), (.int .u64 (IntKind.wrap IntKind.u64 (rd + 1)))] (1))) true), some (.omap shI shU false false [(.int .u64 0)] hs hf true)]))
 none)
 none)))))) := by
 rw [k80_is]
 try simp only [eq_self, decide_true, beq_self_eq_true, Nat.beq_refl, ble_self, Int.le_refl, Nat.le_refl]
 cases (nd == 0) with
 | true =>
   rfl
 | false =>
   cases (Nat.beq (List.length (outV (qaV a b) (fun x x_1 => AV.bad) 0)) 0) with
   | true =>
     cases (Nat.beq (List.length (outV (fun x => !qaV a b x) (fun x x_1 => AV.bad) 0)) 0) with
     | true =>
       rfl
     | false =>
       cases (decide ((↑(List.length (outV (fun x => !qaV a b x) (fun x x_1 => AV.bad) 0)) : Int) ≥ 64)) with
       | true =>
         rfl
       | false =>
         cases (growB (40) (List.length (outV (fun x => !qaV a b x) (fun x x_1 => AV.bad) 0) + 1)) with
         | true =>
           cases (Nat.ble (0 + List.length (outV (fun x => !qaV a b x) (fun x x_1 => AV.bad) 0)) (List.length (outV (fun x => !qaV a b x) (fun x x_1 => AV.bad) 0))) with
           | true =>
             rfl
           | false =>
             rfl
         | false =>
           rfl
   | false =>
     cases (Nat.beq (List.length (outV (fun x => !qaV a b x) (fun x x_1 => AV.bad) 0)) 0) with
     | true =>
       rfl
     | false =>
       cases (decide ((↑(List.length (outV (fun x => !qaV a b x) (fun x x_1 => AV.bad) 0)) : Int) ≥ 64)) with
       | true =>
         rfl
       | false =>
         cases (growB (40) (List.length (outV (fun x => !qaV a b x) (fun x x_1 => AV.bad) 0) + 1)) with
         | true =>
           cases (Nat.ble (0 + List.length (outV (fun x => !qaV a b x) (fun x x_1 => AV.bad) 0)) (List.length (outV (fun x => !qaV a b x) (fun x x_1 => AV.bad) 0))) with
           | true =>
             rfl
           | false =>
             rfl
         | false =>
           rfl
noncomputable def k110 (nd : Int) (sf : Int) (rd : Int) (hs : AV → Bool) (hf : AV → Nat → AV) (k : Int) (r : Int) (π : Plan) : Option CS := callC (F6) (3000) (11) (1) (.asl shW) ([pD]) π (a110 nd sf rd hs hf k r)
def k110_p : Plan := (.reck 6 (.fork .stop (.fork (.must true (.must true (.must true (.must true (.must true (.must true (.fork (.must true (.must true (.must true (.must true (.must true (.must true (.fork (.must true (.must true (.must true (.must true (.must true (.must true (.fork (.fork (.must true (.reck 6 (.fork (.fork (.reck 4 (.fork (.fork .stop .stop) (.fork .stop .stop))) .stop) .stop))) .stop) (.reck 6 (.fork (.fork (.reck 4 (.fork (.fork .stop .stop) (.fork .stop .stop))) .stop) .stop))))))))) (.must false (.must false (.must false (.must false (.must false (.must false (.reck 7 (.fork (.fork (.reck 4 (.fork (.fork .stop .stop) (.fork .stop .stop))) .stop) .stop))))))))))))))) (.must false (.must false (.must false (.must false (.must false (.must false (.reck 14 (.fork (.fork (.reck 4 (.fork (.fork .stop .stop) (.fork .stop .stop))) .stop) .stop))))))))))))))) (.must false (.must false (.must false (.must false (.must false (.must false (.reck 21 (.fork (.fork (.reck 4 (.fork (.fork .stop .stop) (.fork .stop .stop))) .stop) .stop)))))))))))
theorem k110_is (nd : Int) (sf : Int) (rd : Int) (hs : AV → Bool) (hf : AV → Nat → AV) (k : Int) (r : Int) : k110 nd sf rd hs hf k r k110_p = (cond (nd == 0)
 (some (CS.mk [(.osl (true) (1) (0) (0) (0) 6 true)] [some (.cells [(.int .i64 nd), (.int .i64 sf), (.osl (true) (2) (0) (0) (0) 6 true), (.int .u64 rd), (.map (3))] true), some (.tarr shW (0) (fun p_ q_ => AV.bad) true), some (.tarr shW (0) (fun p_ q_ => AV.bad) true), some (.omap shI shU false false [(.int .u64 0)] hs hf true)]))
 (cond (decide (k ≥ 0) == true)
 (cond (decide (k ≥ 0) == true) (cond (decide (k ≥ 0) == true) (cond (decide (k ≥ 0) == true) (cond (decide (k ≥ 0) == true) (cond (decide (k ≥ 0) == true) (cond (decide (k ≥ 0)) (cond (decide (k < nd) == true)
 (cond (decide (k < nd) == true) (cond (decide (k < nd) == true) (cond (decide (k < nd) == true) (cond (decide (k < nd) == true) (cond (decide (k < nd) == true) (cond (decide (k < nd)) (cond ((k != sf) == true)
 (cond ((k != sf) == true) (cond ((k != sf) == true) (cond ((k != sf) == true) (cond ((k != sf) == true) (cond ((k != sf) == true) (cond (k != sf) (cond (decide (r ≤ rd))
 (cond (decide ((if r > AV.toI (bif hs (.int .i64 k) then hf (.int .i64 k) 0 else .int .u64 0) then r else AV.toI (bif hs (.int .i64 k) then hf (.int .i64 k) 0 else .int .u64 0)) = if r > AV.toI (bif hs (.int .i64 k) then hf (.int .i64 k) 0 else .int .u64 0) then r else AV.toI (bif hs (.int .i64 k) then hf (.int .i64 k) 0 else .int .u64 0)))
 (cond (decide (AV.toI (bif hs (.int .i64 k) then hf (.int .i64 k) 0 else .int .u64 0) = AV.toI (bif hs (.int .i64 k) then hf (.int .i64 k) 0 else .int .u64 0))) (cond (decide (1 ≤ nd))
 (cond (decide (nd ≤ 7))
 (cond (Nat.beq (List.length (outV (qbV (leastV nd sf rd (heS true k hs) (heF true k r hs hf))) (fun x x_1 => AV.bad) 0)) 0)
 (cond (Nat.beq (List.length (outV (fun x => !qbV (leastV nd sf rd (heS true k hs) (heF true k r hs hf)) x) (fun x x_1 => AV.bad) 0)) 0)
 (some (CS.mk [(.osl (true) (1) (0) (0) (0) 6 true)] [some (.cells [(.int .i64 nd), (.int .i64 sf), (.osl (true) (2) (0) (0) (0) 6 true), (.int .u64 rd), (.map (3))] true), some (.tarr shW (0) (fun p_ q_ => AV.bad) true), some (.tarr shW (0) (fun p_ q_ => AV.bad) true), some (.omap shI shU false false [(.int .u64 0)] (heS true k hs) (heF true k r hs hf) true)]))
 (some (CS.mk [(.osl (true) (1) (0) (0) (0) 6 true)] [some (.cells [(.int .i64 nd), (.int .i64 sf), (.osl (false) (2) (0) (List.length (outV (fun x => !qbV (leastV nd sf rd (heS true k hs) (heF true k r hs hf)) x) (fun x x_1 => AV.bad) 0)) (List.length (outV (fun x => !qbV (leastV nd sf rd (heS true k hs) (heF true k r hs hf)) x) (fun x x_1 => AV.bad) 0)) 6 true), (.int .u64 rd), (.map (3))] true), some (.tarr shW (0) (fun p_ q_ => AV.bad) true), some (.tarr shW (List.length (outV (fun x => !qbV (leastV nd sf rd (heS true k hs) (heF true k r hs hf)) x) (fun x x_1 => AV.bad) 0)) (finW ((outV (fun x => !qbV (leastV nd sf rd (heS true k hs) (heF true k r hs hf)) x) (fun p_ q_ => AV.bad) (0)))) true), some (.omap shI shU false false [(.int .u64 0)] (heS true k hs) (heF true k r hs hf) true)])))
 (cond (Nat.beq (List.length (outV (fun x => !qbV (leastV nd sf rd (heS true k hs) (heF true k r hs hf)) x) (fun x x_1 => AV.bad) 0)) 0)
 (some (CS.mk [(.osl (false) (1) (0) (List.length (outV (qbV (leastV nd sf rd (heS true k hs) (heF true k r hs hf))) (fun x x_1 => AV.bad) 0)) (List.length (outV (qbV (leastV nd sf rd (heS true k hs) (heF true k r hs hf))) (fun x x_1 => AV.bad) 0)) 6 true)] [some (.cells [(.int .i64 nd), (.int .i64 sf), (.osl (true) (2) (0) (0) (0) 6 true), (.int .u64 rd), (.map (3))] true), some (.tarr shW (List.length (outV (qbV (leastV nd sf rd (heS true k hs) (heF true k r hs hf))) (fun x x_1 => AV.bad) 0)) (finW ((outV (qbV (leastV nd sf rd (heS true k hs) (heF true k r hs hf))) (fun p_ q_ => AV.bad) (0)))) true), some (.tarr shW (0) (fun p_ q_ => AV.bad) true), some (.omap shI shU false false [(.int .u64 0)] (heS true k hs) (heF true k r hs hf) true)]))
 (some (CS.mk [(.osl (false) (1) (0) (List.length (outV (qbV (leastV nd sf rd (heS true k hs) (heF true k r hs hf))) (fun x x_1 => AV.bad) 0)) (List.length (outV (qbV (leastV nd sf rd (heS true k hs) (heF true k r hs hf))) (fun x x_1 => AV.bad) 0)) 6 true)] [some (.cells [(.int .i64 nd), (.int .i64 sf), (.osl (false) (2) (0) (List.length (outV (fun x => !qbV (leastV nd sf rd (heS true k hs) (heF true k r hs hf)) x) (fun x x_1 => AV.bad) 0)) (List.length (outV (fun x => !qbV (leastV nd sf rd (heS true k hs) (heF true k r hs hf)) x) (fun x x_1 => AV.bad) 0)) 6 true), (.int .u64 rd), (.map (3))] true), some (.tarr shW (List.length (outV (qbV (leastV nd sf rd (heS true k hs) (heF true k r hs hf))) (fun x x_1 => AV.bad) 0)) (finW ((outV (qbV (leastV nd sf rd (heS true k hs) (heF true k r hs hf))) (fun p_ q_ => AV.bad) (0)))) true), some (.tarr shW (List.length (outV (fun x => !qbV (leastV nd sf rd (heS true k hs) (heF true k r hs hf)) x) (fun x x_1 => AV.bad) 0)) (finW ((outV (fun x => !qbV (leastV nd sf rd (heS true k hs) (heF true k r hs hf)) x) (fun p_ q_ => AV.bad) (0)))) true), some (.omap shI shU false false [(.int .u64 0)] (heS true k hs) (heF true k r hs hf) true)]))))
 none)
 none) none)
 none)
 (cond (decide (1 ≤ nd))
 (cond (decide (nd ≤ 7))
 (cond (Nat.beq (List.length (outV (qbV (leastV nd sf rd hs hf)) (fun x x_1 => AV.bad) 0)) 0)
 (cond (Nat.beq (List.length (outV (fun x => !qbV (leastV nd sf rd hs hf) x) (fun x x_1 => AV.bad) 0)) 0)
 (some (CS.mk [(.osl (true) (1) (0) (0) (0) 6 true)] [some (.cells [(.int .i64 nd), (.int .i64 sf), (.osl (true) (2) (0) (0) (0) 6 true), (.int .u64 rd), (.map (3))] true), some (.tarr shW (0) (fun p_ q_ => AV.bad) true), some (.tarr shW (0) (fun p_ q_ => AV.bad) true), some (.omap shI shU false false [(.int .u64 0)] hs hf true)]))
 (some (CS.mk [(.osl (true) (1) (0) (0) (0) 6 true)] [some (.cells [(.int .i64 nd), (.int .i64 sf), (.osl (false) (2) (0) (List.length (outV (fun x => !qbV (leastV nd sf rd hs hf) x) (fun x x_1 => AV.bad) 0)) (List.length (outV (fun x => !qbV (leastV nd sf rd hs hf) x) (fun x x_1 => AV.bad) 0)) 6 true), (.int .u64 rd), (.map (3))] true), some (.tarr shW (0) (fun p_ q_ => AV.bad) true), some (.tarr shW (List.length (outV (fun x => !qbV (leastV nd sf rd hs hf) x) (fun x x_1 => AV.bad) 0)) (finW ((outV (fun x => !qbV (leastV nd sf rd hs hf) x) (fun p_ q_ => AV.bad) (0)))) true), some (.omap shI shU false false [(.int .u64 0)] hs hf true)])))
 (cond (Nat.beq (List.length (outV (fun x => !qbV (leastV nd sf rd hs hf) x) (fun x x_1 => AV.bad) 0)) 0)
 (some (CS.mk [(.osl (false) (1) (0) (List.length (outV (qbV (leastV nd sf rd hs hf)) (fun x x_1 => AV.bad) 0)) (List.length (outV (qbV (leastV nd sf rd hs hf)) (fun x x_1 => AV.bad) 0)) 6 true)] [some (.cells [(.int .i64 nd), (.int .i64 sf), (.osl (true) (2) (0) (0) (0) 6 true), (.int .u64 rd), (.map (3))] true), some (.tarr shW (List.length (outV (qbV (leastV nd sf rd hs hf)) (fun x x_1 => AV.bad) 0)) (finW ((outV (qbV (leastV nd sf rd hs hf)) (fun p_ q_ => AV.bad) (0)))) true), some (.tarr shW (0) (fun p_ q_ => AV.bad) true), some (.omap shI shU false false [(.int .u64 0)] hs hf true)]))
 (some (CS.mk [(.osl (false) (1) (0) (List.length (outV (qbV (leastV nd sf rd hs hf)) (fun x x_1 => AV.bad) 0)) (List.length (outV (qbV (leastV nd sf rd hs hf)) (fun x x_1 => AV.bad) 0)) 6 true)] [some (.cells [(.int .i64 nd), (.int .i64 sf), (.osl (false) (2) (0) (List.length (outV (fun x => !qbV (leastV nd sf rd hs hf) x) (fun x x_1 => AV.bad) 0)) (List.length (outV (fun x => !qbV (leastV nd sf rd hs hf) x) (fun x x_1 => AV.bad) 0)) 6 true), (.int .u64 rd), (.map (3))] true), some (.tarr shW (List.length (outV (qbV (leastV nd sf rd hs hf)) (fun x x_1 => AV.bad) 0)) (finW ((outV (qbV (leastV nd sf rd hs hf)) (fun p_ q_ => AV.bad) (0)))) true), some (.tarr shW (List.length (outV (fun x => !qbV (leastV nd sf rd hs hf) x) (fun x x_1 => AV.bad) 0)) (finW ((outV (fun x => !qbV (leastV nd sf rd hs hf) x) (fun p_ q_ => AV.bad) (0)))) true), some (.omap shI shU false false [(.int .u64 0)] hs hf true)]))))
 none)
 none)) none) none) none) none) none) none)
 (cond ((k != sf) == true) none (cond ((k != sf) == true) none (cond ((k != sf) == true) none (cond ((k != sf) == true) none (cond ((k != sf) == true) none (cond (k != sf) none (cond (decide (1 ≤ nd))
 (cond (decide (nd ≤ 7))
 (cond (Nat.beq (List.length (outV (qbV (leastV nd sf rd hs hf)) (fun x x_1 => AV.bad) 0)) 0)
 (cond (Nat.beq (List.length (outV (fun x => !qbV (leastV nd sf rd hs hf) x) (fun x x_1 => AV.bad) 0)) 0)
 (some (CS.mk [(.osl (true) (1) (0) (0) (0) 6 true)] [some (.cells [(.int .i64 nd), (.int .i64 sf), (.osl (true) (2) (0) (0) (0) 6 true), (.int .u64 rd), (.map (3))] true), some (.tarr shW (0) (fun p_ q_ => AV.bad) true), some (.tarr shW (0) (fun p_ q_ => AV.bad) true), some (.omap shI shU false false [(.int .u64 0)] hs hf true)]))
 (some (CS.mk [(.osl (true) (1) (0) (0) (0) 6 true)] [some (.cells [(.int .i64 nd), (.int .i64 sf), (.osl (false) (2) (0) (List.length (outV (fun x => !qbV (leastV nd sf rd hs hf) x) (fun x x_1 => AV.bad) 0)) (List.length (outV (fun x => !qbV (leastV nd sf rd hs hf) x) (fun x x_1 => AV.bad) 0)) 6 true), (.int .u64 rd), (.map (3))] true), some (.tarr shW (0) (fun p_ q_ => AV.bad) true), some (.tarr shW (List.length (outV (fun x => !qbV (leastV nd sf rd hs hf) x) (fun x x_1 => AV.bad) 0)) (finW ((outV (fun x => !qbV (leastV nd sf rd hs hf) x) (fun p_ q_ => AV.bad) (0)))) true), some (.omap shI shU false false [(.int .u64 0)] hs hf true)])))
 (cond (Nat.beq (List.length (outV (fun x => !qbV (leastV nd sf rd hs hf) x) (fun x x_1 => AV.bad) 0)) 0)
 (some (CS.mk [(.osl (false) (1) (0) (List.length (outV (qbV (leastV nd sf rd hs hf)) (fun x x_1 => AV.bad) 0)) (List.length (outV (qbV (leastV nd sf rd hs hf)) (fun x x_1 => AV.bad) 0)) 6 true)] [some (.cells [(.int .i64 nd), (.int .i64 sf), (.osl (true) (2) (0) (0) (0) 6 true), (.int .u64 rd), (.map (3))] true), some (.tarr shW (List.length (outV (qbV (leastV nd sf rd hs hf)) (fun x x_1 => AV.bad) 0)) (finW ((outV (qbV (leastV nd sf rd hs hf)) (fun p_ q_ => AV.bad) (0)))) true), some (.tarr shW (0) (fun p_ q_ => AV.bad) true), some (.omap shI shU false false [(.int .u64 0)] hs hf true)]))
 (some (CS.mk [(.osl (false) (1) (0) (List.length (outV (qbV (leastV nd sf rd hs hf)) (fun x x_1 => AV.bad) 0)) (List.length (outV (qbV (leastV nd sf rd hs hf)) (fun x x_1 => AV.bad) 0)) 6 true)] [some (.cells [(.int .i64 nd), (.int .i64 sf), (.osl (false) (2) (0) (List.length (outV (fun x => !qbV (leastV nd sf rd hs hf) x) (fun x x_1 => AV.bad) 0)) (List.length (outV (fun x => !qbV (leastV nd sf rd hs hf) x) (fun x x_1 => AV.bad) 0)) 6 true), (.int .u64 rd), (.map (3))] true), some (.tarr shW (List.length (outV (qbV (leastV nd sf rd hs hf)) (fun x x_1 => AV.bad) 0)) (finW ((outV (qbV (leastV nd sf rd hs hf)) (fun p_ q_ => AV.bad) (0)))) true), some (.tarr shW (List.length (outV (fun x => !qbV (leastV nd sf rd hs hf) x) (fun x x_1 => AV.bad) 0)) (finW ((outV (fun x => !qbV (leastV nd sf rd hs hf) x) (fun p_ q_ => AV.bad) (0)))) true), some (.omap shI shU false false [(.int .u64 0)] hs hf true)]))))
 none)
 none)))))))) none) none) none) none) none) none)
 (cond (decide (k < nd) == true) none (cond (decide (k < nd) == true) none (cond (decide (k < nd) == true) none (cond (decide (k < nd) == true) none (cond (decide (k < nd) == true) none (cond (decide (k < nd)) none (cond (decide (1 ≤ nd))
 (cond (decide (nd ≤ 7))
 (cond (Nat.beq (List.length (outV (qbV (leastV nd sf rd hs hf)) (fun x x_1 => AV.bad) 0)) 0)
 (cond (Nat.beq (List.length (outV (fun x => !qbV (leastV nd sf rd hs hf) x) (fun x x_1 => AV.bad) 0)) 0)
 (some (CS.mk [(.osl (true) (1) (0) (0) (0) 6 true)] [some (.cells [(.int .i64 nd), (.int .i64 sf), (.osl (true) (2) (0) (0) (0) 6 true), (.int .u64 rd), (.map (3))] true), some (.tarr shW (0) (fun p_ q_ => AV.bad) true), some (.tarr shW (0) (fun p_ q_ => AV.bad) true), some (.omap shI shU false false [(.int .u64 0)] hs hf true)]))
 (some (CS.mk [(.osl (true) (1) (0) (0) (0) 6 true)] [some (.cells [(.int .i64 nd), (.int .i64 sf), (.osl (false) (2) (0) (List.length (outV (fun x => !qbV (leastV nd sf rd hs hf) x) (fun x x_1 => AV.bad) 0)) (List.length (outV (fun x => !qbV (leastV nd sf rd hs hf) x) (fun x x_1 => AV.bad) 0)) 6 true), (.int .u64 rd), (.map (3))] true), some (.tarr shW (0) (fun p_ q_ => AV.bad) true), some (.tarr shW (List.length (outV (fun x => !qbV (leastV nd sf rd hs hf) x) (fun x x_1 => AV.bad) 0)) (finW ((outV (fun x => !qbV (leastV nd sf rd hs hf) x) (fun p_ q_ => AV.bad) (0)))) true), some (.omap shI shU false false [(.int .u64 0)] hs hf true)])))
 (cond (Nat.beq (List.length (outV (fun x => !qbV (leastV nd sf rd hs hf) x) (fun x x_1 => AV.bad) 0)) 0)
 (some (CS.mk [(.osl (false) (1) (0) (List.length (outV (qbV (leastV nd sf rd hs hf)) (fun x x_1 => AV.bad) 0)) (List.length (outV (qbV (leastV nd sf rd hs hf)) (fun x x_1 => AV.bad) 0)) 6 true)] [some (.cells [(.int .i64 nd), (.int .i64 sf), (.osl (true) (2) (0) (0) (0) 6 true), (.int .u64 rd), (.map (3))] true), some (.tarr shW (List.length (outV (qbV (leastV nd sf rd hs hf)) (fun x x_1 => AV.bad) 0)) (finW ((outV (qbV (leastV nd sf rd hs hf)) (fun p_ q_ => AV.bad) (0)))) true), some (.tarr shW (0) (fun p_ q_ => AV.bad) true), some (.omap shI shU false false [(.int .u64 0)] hs hf true)]))
 (some (CS.mk [(.osl (false) (1) (0) (List.length (outV (qbV (leastV nd sf rd hs hf)) (fun x x_1 => AV.bad) 0)) (List.length (outV (qbV (leastV nd sf rd hs hf)) (fun x x_1 => AV.bad) 0)) 6 true)] [some (.cells [(.int .i64 nd), (.int .i64 sf), (.osl (false) (2) (0) (List.length (outV (fun x => !qbV (leastV nd sf rd hs hf) x) (fun x x_1 => AV.bad) 0)) (List.length (outV (fun x => !qbV (leastV nd sf rd hs hf) x) (fun x x_1 => AV.bad) 0)) 6 true), (.int .u64 rd), (.map (3))] true), some (.tarr shW (List.length (outV (qbV (leastV nd sf rd hs hf)) (fun x x_1 => AV.bad) 0)) (finW ((outV (qbV (leastV nd sf rd hs hf)) (fun p_ q_ => AV.bad) (0)))) true), some (.tarr shW (List.length (outV (fun x => !qbV (leastV nd sf rd hs hf) x) (fun x x_1 => AV.bad) 0)) (finW ((outV (fun x => !qbV (leastV nd sf rd hs hf) x) (fun p_ q_ => AV.bad) (0)))) true), some (.omap shI shU false false [(.int .u64 0)] hs hf true)]))))
 none)
 none)))))))) none) none) none) none) none) none)
 (cond (decide (k ≥ 0) == true) none (cond (decide (k ≥ 0) == true) none (cond (decide (k ≥ 0) == true) none (cond (decide (k ≥ 0) == true) none (cond (decide (k ≥ 0) == true) none (cond (decide (k ≥ 0)) none (cond (decide (1 ≤ nd))
 (cond (decide (nd ≤ 7))
 (cond (Nat.beq (List.length (outV (qbV (leastV nd sf rd hs hf)) (fun x x_1 => AV.bad) 0)) 0)
 (cond (Nat.beq (List.length (outV (fun x => !qbV (leastV nd sf rd hs hf) x) (fun x x_1 => AV.bad) 0)) 0)
 (some (CS.mk [(.osl (true) (1) (0) (0) (0) 6 true)] [some (.cells [(.int .i64 nd), (.int .i64 sf), (.osl (true) (2) (0) (0) (0) 6 true), (.int .u64 rd), (.map (3))] true), some (.tarr shW (0) (fun p_ q_ => AV.bad) true), some (.tarr shW (0) (fun p_ q_ => AV.bad) true), some (.omap shI shU false false [(.int .u64 0)] hs hf true)]))
 (some (CS.mk [(.osl (true) (1) (0) (0) (0) 6 true)] [some (.cells [(.int .i64 nd), (.int .i64 sf), (.osl (false) (2) (0) (List.length (outV (fun x => !qbV (leastV nd sf rd hs hf) x) (fun x x_1 => AV.bad) 0)) (List.length (outV (fun x => !qbV (leastV nd sf rd hs hf) x) (fun x x_1 => AV.bad) 0)) 6 true), (.int .u64 rd), (.map (3))] true), some (.tarr shW (0) (fun p_ q_ => AV.bad) true), some (.tarr shW (List.length (outV (fun x => !qbV (leastV nd sf rd hs hf) x) (fun x x_1 => AV.bad) 0)) (finW ((outV (fun x => !qbV (leastV nd sf rd hs hf) x) (fun p_ q_ => AV.bad) (0)))) true), some (.omap shI shU false false [(.int .u64 0)] hs hf true)])))
 (cond (Nat.beq (List.length (outV (fun x => !qbV (leastV nd sf rd hs hf) x) (fun x x_1 => AV.bad) 0)) 0)
 (some (CS.mk [(.osl (false) (1) (0) (List.length (outV (qbV (leastV nd sf rd hs hf)) (fun x x_1 => AV.bad) 0)) (List.length (outV (qbV (leastV nd sf rd hs hf)) (fun x x_1 => AV.bad) 0)) 6 true)] [some (.cells [(.int .i64 nd), (.int .i64 sf), (.osl (true) (2) (0) (0) (0) 6 true), (.int .u64 rd), (.map (3))] true), some (.tarr shW (List.length (outV (qbV (leastV nd sf rd hs hf)) (fun x x_1 => AV.bad) 0)) (finW ((outV (qbV (leastV nd sf rd hs hf)) (fun p_ q_ => AV.bad) (0)))) true), some (.tarr shW (0) (fun p_ q_ => AV.bad) true), some (.omap shI shU false false [(.int .u64 0)] hs hf true)]))
 (some (CS.mk [(.osl (false) (1) (0) (List.length (outV (qbV (leastV nd sf rd hs hf)) (fun x x_1 => AV.bad) 0)) (List.length (outV (qbV (leastV nd sf rd hs hf)) (fun x x_1 => AV.bad) 0)) 6 true)] [some (.cells [(.int .i64 nd), (.int .i64 sf), (.osl (false) (2) (0) (List.length (outV (fun x => !qbV (leastV nd sf rd hs hf) x) (fun x x_1 => AV.bad) 0)) (List.length (outV (fun x => !qbV (leastV nd sf rd hs hf) x) (fun x x_1 => AV.bad) 0)) 6 true), (.int .u64 rd), (.map (3))] true), some (.tarr shW (List.length (outV (qbV (leastV nd sf rd hs hf)) (fun x x_1 => AV.bad) 0)) (finW ((outV (qbV (leastV nd sf rd hs hf)) (fun p_ q_ => AV.bad) (0)))) true), some (.tarr shW (List.length (outV (fun x => !qbV (leastV nd sf rd hs hf) x) (fun x x_1 => AV.bad) 0)) (finW ((outV (fun x => !qbV (leastV nd sf rd hs hf) x) (fun p_ q_ => AV.bad) (0)))) true), some (.omap shI shU false false [(.int .u64 0)] hs hf true)]))))
 none)
 none))))))))) := by kernel_rfl
theorem k110_c (nd : Int) (sf : Int) (rd : Int) (hs : AV → Bool) (hf : AV → Nat → AV) (k : Int) (r : Int) : k110 nd sf rd hs hf k r k110_p = (cond (nd == 0) (some ⟨[.osl true 1 0 0 0 6 true], [some (.cells [.int .i64 nd, .int .i64 sf, .osl true 2 0 0 0 6 true, .int .u64 rd, .map 3] true), some (.tarr shW 0 (fun _ _ => .bad) true), some (.tarr shW 0 (fun _ _ => .bad) true), some (.omap shI shU false false [.int .u64 0] hs hf true)]⟩) (cond (decide (1 ≤ nd)) (cond (decide (nd ≤ 7)) (cond (Nat.beq (outV (qbV (leastV nd sf rd (heS (heU nd sf rd k r) k hs) (heF (heU nd sf rd k r) k r hs hf))) (fun _ _ => AV.bad) 0).length 0) (cond (Nat.beq (outV (fun x => !(qbV (leastV nd sf rd (heS (heU nd sf rd k r) k hs) (heF (heU nd sf rd k r) k r hs hf)) x)) (fun _ _ => AV.bad) 0).length 0) (some ⟨[.osl true 1 0 0 0 6 true], [some (.cells [.int .i64 nd, .int .i64 sf, .osl true 2 0 0 0 6 true, .int .u64 rd, .map 3] true), some (.tarr shW 0 (fun _ _ => .bad) true), some (.tarr shW 0 (fun _ _ => .bad) true), some (.omap shI shU false false [.int .u64 0] (heS (heU nd sf rd k r) k hs) (heF (heU nd sf rd k r) k r hs hf) true)]⟩) (some ⟨[.osl true 1 0 0 0 6 true], [some (.cells [.int .i64 nd, .int .i64 sf, .osl false 2 0 (outV (fun x => !(qbV (leastV nd sf rd (heS (heU nd sf rd k r) k hs) (heF (heU nd sf rd k r) k r hs hf)) x)) (fun _ _ => AV.bad) 0).length (outV (fun x => !(qbV (leastV nd sf rd (heS (heU nd sf rd k r) k hs) (heF (heU nd sf rd k r) k r hs hf)) x)) (fun _ _ => AV.bad) 0).length 6 true, .int .u64 rd, .map 3] true), some (.tarr shW 0 (fun _ _ => .bad) true), some (.tarr shW (outV (fun x => !(qbV (leastV nd sf rd (heS (heU nd sf rd k r) k hs) (heF (heU nd sf rd k r) k r hs hf)) x)) (fun _ _ => AV.bad) 0).length (finW (outV (fun x => !(qbV (leastV nd sf rd (heS (heU nd sf rd k r) k hs) (heF (heU nd sf rd k r) k r hs hf)) x)) (fun _ _ => AV.bad) 0)) true), some (.omap shI shU false false [.int .u64 0] (heS (heU nd sf rd k r) k hs) (heF (heU nd sf rd k r) k r hs hf) true)]⟩)) (cond (Nat.beq (outV (fun x => !(qbV (leastV nd sf rd (heS (heU nd sf rd k r) k hs) (heF (heU nd sf rd k r) k r hs hf)) x)) (fun _ _ => AV.bad) 0).length 0) (some ⟨[.osl false 1 0 (outV (qbV (leastV nd sf rd (heS (heU nd sf rd k r) k hs) (heF (heU nd sf rd k r) k r hs hf))) (fun _ _ => AV.bad) 0).length (outV (qbV (leastV nd sf rd (heS (heU nd sf rd k r) k hs) (heF (heU nd sf rd k r) k r hs hf))) (fun _ _ => AV.bad) 0).length 6 true], [some (.cells [.int .i64 nd, .int .i64 sf, .osl true 2 0 0 0 6 true, .int .u64 rd, .map 3] true), some (.tarr shW (outV (qbV (leastV nd sf rd (heS (heU nd sf rd k r) k hs) (heF (heU nd sf rd k r) k r hs hf))) (fun _ _ => AV.bad) 0).length (finW (outV (qbV (leastV nd sf rd (heS (heU nd sf rd k r) k hs) (heF (heU nd sf rd k r) k r hs hf))) (fun _ _ => AV.bad) 0)) true), some (.tarr shW 0 (fun _ _ => .bad) true), some (.omap shI shU false false [.int .u64 0] (heS (heU nd sf rd k r) k hs) (heF (heU nd sf rd k r) k r hs hf) true)]⟩) (some ⟨[.osl false 1 0 (outV (qbV (leastV nd sf rd (heS (heU nd sf rd k r) k hs) (heF (heU nd sf rd k r) k r hs hf))) (fun _ _ => AV.bad) 0).length (outV (qbV (leastV nd sf rd (heS (heU nd sf rd k r) k hs) (heF (heU nd sf rd k r) k r hs hf))) (fun _ _ => AV.bad) 0).length 6 true], [some (.cells [.int .i64 nd, .int .i64 sf, .osl false 2 0 (outV (fun x => !(qbV (leastV nd sf rd (heS (heU nd sf rd k r) k hs) (heF (heU nd sf rd k r) k r hs hf)) x)) (fun _ _ => AV.bad) 0).length (outV (fun x => !(qbV (leastV nd sf rd (heS (heU nd sf rd k r) k hs) (heF (heU nd sf rd k r) k r hs hf)) x)) (fun _ _ => AV.bad) 0).length 6 true, .int .u64 rd, .map 3] true), some (.tarr shW (outV (qbV (leastV nd sf rd (heS (heU nd sf rd k r) k hs) (heF (heU nd sf rd k r) k r hs hf))) (fun _ _ => AV.bad) 0).length (finW (outV (qbV (leastV nd sf rd (heS (heU nd sf rd k r) k hs) (heF (heU nd sf rd k r) k r hs hf))) (fun _ _ => AV.bad) 0)) true), some (.tarr shW (outV (fun x => !(qbV (leastV nd sf rd (heS (heU nd sf rd k r) k hs) (heF (heU nd sf rd k r) k r hs hf)) x)) (fun _ _ => AV.bad) 0).length (finW (outV (fun x => !(qbV (leastV nd sf rd (heS (heU nd sf rd k r) k hs) (heF (heU nd sf rd k r) k r hs hf)) x)) (fun _ _ => AV.bad) 0)) true), some (.omap shI shU false false [.int .u64 0] (heS (heU nd sf rd k r) k hs) (heF (heU nd sf rd k r) k r hs hf) true)]⟩))) none) none)) := by
 rw [k110_is]
 try simp only [eq_self, decide_true, beq_self_eq_true, Nat.beq_refl, ble_self, Int.le_refl, Nat.le_refl, beq_true]
 unfold heU
 cases (nd == 0) <;> cases (decide (1 ≤ nd)) <;> cases (decide (nd ≤ 7)) <;> cases (decide (k ≥ 0)) <;> cases (decide (k < nd)) <;> cases (k != sf) <;> cases (decide (r ≤ rd)) <;> rfl
end Go.Proofs.Ytgflmdjlpjjnaaa.desk
end
section
set_option linter.unusedSimpArgs false
set_option linter.unusedVariables false
set_option maxRecDepth 20000
namespace Go.Proofs.Ytgflmdjlpjjnaaa.desk
open Go Go.RowKit Go.Proofs.Ytgflmdjlpjjnaaa.Bm
theorem f14_inv  {c : CS} {r : CS} (h : (f14  c).run = some r) : ∃ nd sf wl wn wf rd hs hf a b x, c = g14 nd sf wl wn wf rd hs hf a b x ∧ (f14B  nd sf wl wn wf rd hs hf a b x).run = some r := by
 unfold f14 at h
 split at h
 ·rename_i a b x nd sf wl wn z_1 rd sh_2 z_3 wf sh_4 sh_5 sz_6 hs hf
  obtain ⟨hc, hb⟩ := chkT_run h
  have h0 := hc 0 _ rfl
  have h0 := of_decide_eq_true h0; subst h0
  have h1 := hc 1 _ rfl
  have h1 := (shBeq_eq h1).symm; subst h1
  have h2 := hc 2 _ rfl
  have h2 := of_decide_eq_true h2; subst h2
  have h3 := hc 3 _ rfl
  have h3 := (shBeq_eq h3).symm; subst h3
  have h4 := hc 4 _ rfl
  have h4 := (shBeq_eq h4).symm; subst h4
  have h5 := hc 5 _ rfl
  have h5 := AV.eq_of_beqL _ _ h5; subst h5
  exact ⟨nd, sf, wl, wn, wf, rd, hs, hf, a, b, x, rfl, hb⟩
 ·cases h
theorem f8_inv  {c : CS} {r : CS} (h : (f8  c).run = some r) : ∃ nd sf wl wn wf rd hs hf a b x y, c = g8 nd sf wl wn wf rd hs hf a b x y ∧ (f8B  nd sf wl wn wf rd hs hf a b x y).run = some r := by
 unfold f8 at h
 split at h
 ·rename_i a b x y nd sf wl wn z_1 rd sh_2 z_3 wf sh_4 sh_5 sz_6 hs hf
  obtain ⟨hc, hb⟩ := chkT_run h
  have h0 := hc 0 _ rfl
  have h0 := of_decide_eq_true h0; subst h0
  have h1 := hc 1 _ rfl
  have h1 := (shBeq_eq h1).symm; subst h1
  have h2 := hc 2 _ rfl
  have h2 := of_decide_eq_true h2; subst h2
  have h3 := hc 3 _ rfl
  have h3 := (shBeq_eq h3).symm; subst h3
  have h4 := hc 4 _ rfl
  have h4 := (shBeq_eq h4).symm; subst h4
  have h5 := hc 5 _ rfl
  have h5 := AV.eq_of_beqL _ _ h5; subst h5
  exact ⟨nd, sf, wl, wn, wf, rd, hs, hf, a, b, x, y, rfl, hb⟩
 ·cases h
theorem f15_inv  {c : CS} {r : CS} (h : (f15  c).run = some r) : ∃ nd sf wl wn wf rd hs hf lo bi, c = g15 nd sf wl wn wf rd hs hf lo bi ∧ (f15B  nd sf wl wn wf rd hs hf lo bi).run = some r := by
 unfold f15 at h
 split at h
 ·rename_i lo bi nd sf wl wn z_1 rd sh_2 z_3 wf sh_4 sh_5 sz_6 hs hf
  obtain ⟨hc, hb⟩ := chkT_run h
  have h0 := hc 0 _ rfl
  have h0 := of_decide_eq_true h0; subst h0
  have h1 := hc 1 _ rfl
  have h1 := (shBeq_eq h1).symm; subst h1
  have h2 := hc 2 _ rfl
  have h2 := of_decide_eq_true h2; subst h2
  have h3 := hc 3 _ rfl
  have h3 := (shBeq_eq h3).symm; subst h3
  have h4 := hc 4 _ rfl
  have h4 := (shBeq_eq h4).symm; subst h4
  have h5 := hc 5 _ rfl
  have h5 := AV.eq_of_beqL _ _ h5; subst h5
  exact ⟨nd, sf, wl, wn, wf, rd, hs, hf, lo, bi, rfl, hb⟩
 ·cases h
theorem f11_inv  {c : CS} {r : CS} (h : (f11  c).run = some r) : ∃ nd sf wl wn wf rd hs hf k rn, c = g11 nd sf wl wn wf rd hs hf k rn ∧ (f11B  nd sf wl wn wf rd hs hf k rn).run = some r := by
 unfold f11 at h
 split at h
 ·rename_i k rn nd sf wl wn z_1 rd sh_2 z_3 wf sh_4 sh_5 sz_6 hs hf
  obtain ⟨hc, hb⟩ := chkT_run h
  have h0 := hc 0 _ rfl
  have h0 := of_decide_eq_true h0; subst h0
  have h1 := hc 1 _ rfl
  have h1 := (shBeq_eq h1).symm; subst h1
  have h2 := hc 2 _ rfl
  have h2 := of_decide_eq_true h2; subst h2
  have h3 := hc 3 _ rfl
  have h3 := (shBeq_eq h3).symm; subst h3
  have h4 := hc 4 _ rfl
  have h4 := (shBeq_eq h4).symm; subst h4
  have h5 := hc 5 _ rfl
  have h5 := AV.eq_of_beqL _ _ h5; subst h5
  exact ⟨nd, sf, wl, wn, wf, rd, hs, hf, k, rn, rfl, hb⟩
 ·cases h
theorem outV_zero (q : Wt → Bool) (f : Nat → Nat → AV) : outV q f 0 = [] := by
 rw [outV_eq]; rfl
theorem blt_zero (n : Nat) : Nat.blt n 0 = false := by rw [blt_iff]; exact decide_eq_false (by omega)
theorem seen_nil {vs : List AV} {nd sf rd : Int} {wf : Nat → Nat → AV} {m : AObj} : Seen ⟨vs, [some (.cells [.int .i64 nd, .int .i64 sf, .osl true 1 0 0 0 6 true, .int .u64 rd, .map 2] true), some (.tarr shW 0 wf true), some m]⟩ ⟨vs, [some (.cells [.int .i64 nd, .int .i64 sf, .nilSlice, .int .u64 rd, .map 2] true), none, some m]⟩ :=
 Seen.mk' (SeenVs.refl _) (.cons (SeenO.cells (.cons (SeenV.refl _) (.cons (SeenV.refl _) (.cons SeenV.nil (SeenVs.refl _))))) (.skip (SeenOs.refl _)))
theorem seen_wt {vs : List AV} {nd sf rd : Int} {n : Nat} {f : Nat → Nat → AV} {L : List Wt} {m : AObj} (hn : n = L.length) (hf : IsW f L) : Seen ⟨vs, [some (.cells [.int .i64 nd, .int .i64 sf, .osl false 1 0 n n 6 true, .int .u64 rd, .map 2] true), some (.tarr shW n f true), some m]⟩ ⟨vs, [some (.cells [.int .i64 nd, .int .i64 sf, .osl false 1 0 L.length L.length 6 true, .int .u64 rd, .map 2] true), some (.tarr shW L.length (finW L) true), some m]⟩ :=
 Seen.mk' (SeenVs.refl _) (.cons (SeenO.cells (.cons (SeenV.refl _) (.cons (SeenV.refl _) (.cons (SeenV.osl hn) (SeenVs.refl _))))) (.cons (SeenO.wt hn hf) (SeenOs.refl _)))
theorem isW_rd (f : Nat → Nat → AV) (n : Nat) : IsW f (rdW f n) := fun i hi => by
 rw [rdW_len] at hi
 exact (rdW_at hi).symm
theorem ble64 {n : Nat} : decide ((n : Int) ≥ 64) = Nat.ble 64 n := by
 rw [ble_iff]
 exact decide_eq_decide.2 (by omega)
theorem nd0 {nd : Int} (h : 1 ≤ nd) : (nd == 0) = false := by
 rw [beq_eq_false_iff_ne]; omega
theorem room_ {n : Nat} : Nat.ble (n + 1) n = false := ble_f (by omega)
theorem beq_len {L : List Wt} (h : Nat.beq L.length 0 = true) : L = [] := by
 cases L with
 | nil => rfl
 | cons x l => simp at h
theorem j14 (c c' : CS) (h : (f14 c).run = some c') : ∃ m pr ros π c0 c1, Seen c c0 ∧ callC F6 m 14 1 pr ros π c0 = some c1 ∧ Seen c1 c' := by
 obtain ⟨nd, sf, wl, wn, wf, rd, hs, hf, a, b, x, rfl, hb⟩ := f14_inv h
 obtain ⟨hn, hb2⟩ := chkT_run hb
 have h1 := nd0 (of_decide_eq_true (hn 0 _ rfl))
 have hw := le_of (hn 2 _ rfl)
 have hl := hn 3 _ rfl
 clear h hb hn
 cases wl with
 | true =>
   have hz : wn = 0 := by simpa using hl
   subst hz
   have e := k140_eq nd sf rd hs hf a b x
   rw [h1, cond_false] at e
   rw [blt_zero, ble_f (show ¬ 64 ≤ 0 by omega)] at hb2
   cases hx : (x == 0) <;> rw [hx] at e hb2 <;> simp only [T.run, cond_true, cond_false, Option.some.injEq] at e hb2 <;> subst hb2
   ·refine ⟨3000, .keep, [pD], k140_p, _, _, seen_nil, e, seen_wt (by rw [apdV_eq]; simp [apdF, rdW]) (by rw [apdV_eq]; exact isW_one ⟨a, b, x, 0, 0, 0⟩)⟩
   ·exact ⟨3000, .keep, [pD], k140_p, _, _, seen_nil, e, Seen.refl _⟩
 | false =>
   have e := k141_eq nd sf wn wf rd hs hf a b x
   rw [h1, cond_false, ble_t hw, cond_true, ble64, room_, grow40 (show wn + 1 ≤ 2000000 by omega), ble_t (show 0 + wn ≤ wn by omega)] at e
   cases hx : (x == 0) <;> rw [hx] at e hb2 <;> simp only [T.run, cond_true, cond_false, Option.some.injEq] at e hb2
   ·cases hi : Nat.blt (idxV (qdV a b) wf wn) wn <;> rw [hi] at e hb2 <;> simp only [T.run, cond_true, cond_false, Option.some.injEq] at e hb2
    ·cases hq : Nat.ble 64 wn <;> rw [hq] at e hb2 <;> simp only [T.run, cond_true, cond_false, Option.some.injEq] at e hb2 <;> subst hb2
     ·refine ⟨3000, .keep, [pD], k141_p, _, _, Seen.refl _, e, seen_wt (by rw [apdV_eq]; simp [apdF, rdW]) (by rw [apdV_eq]; exact isW_join (rdW_len _ _).symm (isW_zero (isW_rd wf wn)) (isW_one ⟨a, b, x, 0, 0, 0⟩))⟩
     ·exact ⟨3000, .keep, [pD], k141_p, _, _, Seen.refl _, e, Seen.refl _⟩
    ·subst hb2
     exact ⟨3000, .keep, [pD], k141_p, _, _, Seen.refl _, e, Seen.refl _⟩
   ·subst hb2
    exact ⟨3000, .keep, [pD], k141_p, _, _, Seen.refl _, e, Seen.refl _⟩
theorem qF7 : Bm.Good Try.prog F7 := qF6.addI qF6 (by kernel_rfl) j14
theorem j8 (c c' : CS) (h : (f8 c).run = some c') : ∃ m pr ros π c0 c1, Seen c c0 ∧ callC F6 m 8 1 pr ros π c0 = some c1 ∧ Seen c1 c' := by
 obtain ⟨nd, sf, wl, wn, wf, rd, hs, hf, a, b, x, y, rfl, hb⟩ := f8_inv h
 obtain ⟨hn, hb2⟩ := chkT_run hb
 have h1 := nd0 (of_decide_eq_true (hn 0 _ rfl))
 have hw := le_of (hn 2 _ rfl)
 have hl := hn 3 _ rfl
 clear h hb hn
 cases wl with
 | true =>
   have hz : wn = 0 := by simpa using hl
   subst hz
   have e := k80_eq nd sf rd hs hf a b x y
   simp only [h1, outV_zero, List.length_nil, cond_false, cond_true, Nat.beq_refl] at e
   rw [outV_zero, List.length_nil, ble_f (show ¬ 64 ≤ 0 by omega)] at hb2
   simp only [T.run, cond_true, cond_false, Option.some.injEq] at hb2; subst hb2
   exact ⟨3000, .keep, [pD], k80_p, _, _, seen_nil, e, seen_wt (by rw [apdV_eq]; rfl) (by rw [apdV_eq]; exact isW_one ⟨a, b, 0, x, y, IntKind.wrap .u64 (rd + 1)⟩)⟩
 | false =>
   have hlen : (outV (fun x => !(qaV a b x)) wf wn).length ≤ 1000 := by
    rw [outV_eq]; exact Nat.le_trans (List.length_filter_le _ _) (by rw [rdW_len]; exact hw)
   have e := k81_eq nd sf wn wf rd hs hf a b x y
   simp only [h1, ble_t hw, ble64, room_, grow40 (show (outV (fun x => !(qaV a b x)) wf wn).length + 1 ≤ 2000000 by omega), ble_t (show 0 + (outV (fun x => !(qaV a b x)) wf wn).length ≤ (outV (fun x => !(qaV a b x)) wf wn).length by omega), cond_true, cond_false] at e
   cases hr : Nat.beq (outV (fun x => !(qaV a b x)) wf wn).length 0 with
   | true =>
     have hz := beq_len hr
     rw [hz, List.length_nil, ble_f (show ¬ 64 ≤ 0 by omega)] at hb2
     simp only [T.run, cond_true, cond_false, Option.some.injEq] at hb2; subst hb2
     refine ⟨3000, .keep, [pD], k81_p, _, _, Seen.refl _, e.trans ?_, seen_wt (n := 1) (f := rowsOf 6 [.int .u64 a, .int .u64 b, .int .u64 0, .int .u32 x, .int .u32 y, .int .u64 (IntKind.wrap .u64 (rd + 1))] 1) (by rw [apdV_eq]; rfl) (by rw [apdV_eq]; exact isW_one ⟨a, b, 0, x, y, IntKind.wrap .u64 (rd + 1)⟩)⟩
     rw [hr]
     cases Nat.beq (outV (qaV a b) wf wn).length 0 <;> rfl
   | false =>
     cases hq : Nat.ble 64 (outV (fun x => !(qaV a b x)) wf wn).length <;> rw [hq] at hb2 <;> simp only [T.run, cond_true, cond_false, Option.some.injEq] at hb2 <;> subst hb2
     ·refine ⟨3000, .keep, [pD], k81_p, _, _, Seen.refl _, e.trans ?_, seen_wt (n := (outV (fun x => !(qaV a b x)) wf wn).length + 1) (f := fjoin (fun p q => finW (outV (fun x => !(qaV a b x)) wf wn) (0 + p) q) (outV (fun x => !(qaV a b x)) wf wn).length (rowsOf 6 [.int .u64 a, .int .u64 b, .int .u64 0, .int .u32 x, .int .u32 y, .int .u64 (IntKind.wrap .u64 (rd + 1))] 1)) (by rw [apdV_eq]; simp [apdF]) (by rw [apdV_eq]; exact isW_join rfl (isW_zero (isW_fin _)) (isW_one ⟨a, b, 0, x, y, IntKind.wrap .u64 (rd + 1)⟩))⟩
      rw [hr, hq]
      cases Nat.beq (outV (qaV a b) wf wn).length 0 <;> rfl
     ·refine ⟨3000, .keep, [pD], k81_p, _, _, Seen.refl _, e.trans ?_, Seen.refl _⟩
      rw [hr, hq]
      cases Nat.beq (outV (qaV a b) wf wn).length 0 <;> rfl
theorem qF8 : Bm.Good Try.prog F8 := qF7.addI qF6 (by kernel_rfl) j8
theorem j15 (c c' : CS) (h : (f15 c).run = some c') : ∃ m pr ros π c0 c1, Seen c c0 ∧ callC F6 m 15 1 pr ros π c0 = some c1 ∧ Seen c1 c' := by
 obtain ⟨nd, sf, wl, wn, wf, rd, hs, hf, lo, bi, rfl, hb⟩ := f15_inv h
 obtain ⟨hn, hb2⟩ := chkT_run hb
 have h1 := nd0 (of_decide_eq_true (hn 0 _ rfl))
 have hw := le_of (hn 2 _ rfl)
 have hl := hn 3 _ rfl
 clear h hb hn
 cases wl with
 | true =>
   have hz : wn = 0 := by simpa using hl
   subst hz
   have e := k150_eq nd sf rd hs hf lo bi
   simp only [h1, outV_zero, List.length_nil, cond_false, cond_true, Nat.beq_refl] at e
   simp only [outV_zero, List.length_nil, Nat.beq_refl, T.run, cond_true, cond_false, Option.some.injEq] at hb2; subst hb2
   exact ⟨3000, .asl shW, [pD], k150_p, _, _, seen_nil, e, Seen.refl _⟩
 | false =>
   have e := k151_eq nd sf wn wf rd hs hf lo bi
   rw [h1, cond_false, ble_t hw, cond_true] at e
   refine ⟨3000, .asl shW, [pD], k151_p, _, _, Seen.refl _, e.trans (Eq.trans ?_ hb2), Seen.refl _⟩
   cases Nat.beq (outV (qcV lo bi) wf wn).length 0 <;> cases Nat.beq (outV (fun x => !(qcV lo bi x)) wf wn).length 0 <;> rfl
theorem qF9 : Bm.Good Try.prog F9 := qF8.addI qF6 (by kernel_rfl) j15
theorem j11 (c c' : CS) (h : (f11 c).run = some c') : ∃ m pr ros π c0 c1, Seen c c0 ∧ callC F6 m 11 1 pr ros π c0 = some c1 ∧ Seen c1 c' := by
 obtain ⟨nd, sf, wl, wn, wf, rd, hs, hf, k, r, rfl, hb⟩ := f11_inv h
 obtain ⟨hn, hb2⟩ := chkT_run hb
 have h1 := nd0 (of_decide_eq_true (hn 0 _ rfl))
 have h2 := hn 0 _ rfl
 have h3 := hn 1 _ rfl
 have hw := le_of (hn 2 _ rfl)
 have hl := hn 3 _ rfl
 clear h hb hn
 rw [heUV_eq, heSV_eq, heFV_eq] at hb2
 cases wl with
 | true =>
   have hz : wn = 0 := by simpa using hl
   subst hz
   have e := k110_c nd sf rd hs hf k r
   rw [h1, cond_false, h2, cond_true, h3, cond_true] at e
   simp only [outV_zero, List.length_nil, Nat.beq_refl, T.run, cond_true, cond_false, Option.some.injEq] at hb2 e; subst hb2
   exact ⟨3000, .asl shW, [pD], k110_p, _, _, seen_nil, e, Seen.refl _⟩
 | false =>
   have e := k111_c nd sf wn wf rd hs hf k r
   rw [h1, cond_false, h2, cond_true, h3, cond_true, ble_t hw, cond_true] at e
   refine ⟨3000, .asl shW, [pD], k111_p, _, _, Seen.refl _, e.trans (Eq.trans ?_ hb2), Seen.refl _⟩
   generalize heS (heU nd sf rd k r) k hs = hs2
   generalize heF (heU nd sf rd k r) k r hs hf = hf2
   cases Nat.beq (outV (qbV (leastV nd sf rd hs2 hf2)) wf wn).length 0 <;> cases Nat.beq (outV (fun x => !(qbV (leastV nd sf rd hs2 hf2) x)) wf wn).length 0 <;> rfl
theorem qFA : Bm.Good Try.prog FA := qF9.addI qF6 (by kernel_rfl) j11
end Go.Proofs.Ytgflmdjlpjjnaaa.desk
end
