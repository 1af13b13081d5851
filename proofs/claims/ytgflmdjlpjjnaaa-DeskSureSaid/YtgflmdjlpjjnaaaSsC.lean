/- Part 3 of the texts that YtgflmdjlpjjnaaaLawSure needs: an abstract machine, and what it reckons. No condition. -/
import Derived.Test.YtgflmdjlpjjnaaaRows
import Derived.Test.YtgflmdjlpjjnaaaBmVk
import Derived.KernelRfl
import Derived.Test.YtgflmdjlpjjnaaaSsB
section
set_option linter.unusedSimpArgs false
set_option linter.unusedVariables false
set_option maxRecDepth 20000
namespace Go.Proofs.Ytgflmdjlpjjnaaa.desk
open Go Go.RowKit Go.Proofs.Ytgflmdjlpjjnaaa.Bm
abbrev shO : List Sh := [.int .i64, .int .u64, .int .u64, .int .u64, .int .u32, .int .u32, .int .i64, .int .u64, .int .u64]
def fo (f : Nat → Nat → AV) (i j : Nat) : Int := AV.toI (f (0 + Int.toNat (i : Int)) j)
def bd : Nat → Nat → AV := fun _ _ => .bad
def cntF (s : Int) (g : Nat → Nat → AV) : Nat → Nat
 | 0 => 0
 | k + 1 => cntF s g k + cond (decide ((g k 0).toI ≥ s)) 1 0
def okTF (s : Int) (t : Nat → Nat → AV) (m : Nat) : Bool := okFrom (fun j => decide ((t j 5).toI ≤ s)) 0 m
theorem cntVE : ∃ q : Int → (Nat → Nat → AV) → Nat → Nat, q = cntF := ⟨_, rfl⟩
noncomputable def cntV : Int → (Nat → Nat → AV) → Nat → Nat := Classical.choose cntVE
theorem cntV_eq : cntV = cntF := Classical.choose_spec cntVE
theorem okTVE : ∃ q : Int → (Nat → Nat → AV) → Nat → Bool, q = okTF := ⟨_, rfl⟩
noncomputable def okTV : Int → (Nat → Nat → AV) → Nat → Bool := Classical.choose okTVE
theorem okTV_eq : okTV = okTF := Classical.choose_spec okTVE
def h33 : Pat := ⟨144, [(0, .keep), (1, .keep), (7, .keep), (8, .asl shU), (43, .asl shO), (44, .keep), (45, .keep), (100, .asl shW), (101, .keep), (102, .keep)], [pD]⟩
def x33 : List (Ex × Pat) := [(.exit 3, ⟨144, [(0, .keep), (1, .keep), (7, .keep), (8, .asl shU), (43, .asl shO), (44, .keep), (45, .keep)], [pD]⟩)]
def h35 : Pat := ⟨144, [(0, .keep), (1, .keep), (7, .keep), (8, .asl shU), (13, .keep), (43, .asl shO), (44, .keep), (45, .keep), (117, .keep), (118, .keep)], [pD]⟩
def x35 : List (Ex × Pat) := [(.exit 5, ⟨144, [(0, .keep), (1, .keep), (7, .keep), (8, .asl shU), (13, .keep), (43, .asl shO), (44, .keep), (45, .keep)], [pD]⟩)]
def h3 : Pat := ⟨144, [(0, .keep), (1, .keep), (7, .keep), (8, .asl shU), (43, .asl shO), (44, .keep), (45, .keep)], [pD]⟩
def x3 : List (Ex × Pat) := [(.exit 0, ⟨144, [], []⟩), (.ret, ⟨144, [(6, .keep)], []⟩)]
def c33 (nd : Int) (sf : Int) (wl : Bool) (wn : Nat) (wf : Nat → Nat → AV) (tl : Bool) (m : Nat) (t : Nat → Nat → AV) (rd : Int) (hs : AV → Bool) (hf : AV → Nat → AV) (g : Nat → Nat → AV) (nl : Bool) (n : Nat) (f : Nat → Nat → AV) (i : Nat) (j : Nat) : CS :=
 ⟨[.int .i64 nd, .int .i64 sf, .ptr 0 0, .osl false 1 0 7 7 1 true, .osl nl 2 0 n n 9 true, .int .i64 (n : Nat), .int .i64 (i : Nat), .osl tl 3 0 m m 6 true, .int .i64 (m : Nat), .int .i64 (j : Nat)], [some (.cells [.int .i64 nd, .int .i64 sf, .osl wl 4 0 wn wn 6 true, .int .u64 rd, .map 5] true), some (.tarr shU 7 g true), some (.tarr shO n f false), some (.tarr shW m t true), some (.tarr shW wn wf true), some (.omap shI shU false false [.int .u64 0] hs hf true)]⟩
noncomputable def r33B  (nd : Int) (sf : Int) (wl : Bool) (wn : Nat) (wf : Nat → Nat → AV) (tl : Bool) (m : Nat) (t : Nat → Nat → AV) (rd : Int) (hs : AV → Bool) (hf : AV → Nat → AV) (g : Nat → Nat → AV) (nl : Bool) (n : Nat) (f : Nat → Nat → AV) (i : Nat) : T (Nat × CS) :=
 chkT [decide (1 ≤ nd), decide (nd ≤ 7), Nat.ble wn 1000, (!wl || Nat.beq wn 0), Nat.ble m 1000, (!tl || Nat.beq m 0), okTV (leastV nd sf rd hs hf) t m] (.ask wl (.ret (1, ⟨[.int .i64 nd, .int .i64 sf, .ptr 0 0, .osl false 1 0 7 7 1 true, .osl nl 2 0 n n 9 true, .int .i64 (n : Nat), .int .i64 (i : Nat)], [some (.cells [.int .i64 nd, .int .i64 sf, .osl true 3 0 0 0 6 true, .int .u64 rd, .map 4] true), some (.tarr shU 7 g true), some (.tarr shO n f false), some (.tarr shW 0 (fun _ _ => .bad) true), some (.omap shI shU false false [.int .u64 0] hs hf true)]⟩)) (.ret (1, ⟨[.int .i64 nd, .int .i64 sf, .ptr 0 0, .osl false 1 0 7 7 1 true, .osl nl 2 0 n n 9 true, .int .i64 (n : Nat), .int .i64 (i : Nat)], [some (.cells [.int .i64 nd, .int .i64 sf, .osl false 3 0 wn wn 6 true, .int .u64 rd, .map 4] true), some (.tarr shU 7 g true), some (.tarr shO n f false), some (.tarr shW wn wf true), some (.omap shI shU false false [.int .u64 0] hs hf true)]⟩)))
noncomputable def r33  (c : CS) : T (Nat × CS) := match c with
 | ⟨[.int .i64 nd, .int .i64 sf, .ptr 0 0, .osl z_1 1 0 z_2 z_3 1 true, .osl nl 2 0 n z_4 9 true, .int .i64 z_5, .int .i64 (.ofNat i), .osl tl 3 0 m z_6 6 true, .int .i64 z_7, .int .i64 z_8], [some (.cells [.int .i64 z_9, .int .i64 z_10, .osl wl 4 0 wn z_11 6 true, .int .u64 rd, .map 5] true), some (.tarr sh_12 z_13 g true), some (.tarr sh_14 z_15 f false), some (.tarr sh_16 z_17 t true), some (.tarr sh_18 z_19 wf true), some (.omap sh_20 sh_21 false false sz_22 hs hf true)]⟩ => chkT [decide (false = z_1), decide (7 = z_2), decide (7 = z_3), decide (n = z_4), decide ((n : Nat) = z_5), decide (m = z_6), decide ((m : Nat) = z_7), decide (0 = z_8), decide (nd = z_9), decide (sf = z_10), decide (wn = z_11), shBeq sh_12 shU, decide (7 = z_13), shBeq sh_14 shO, decide (n = z_15), shBeq sh_16 shW, decide (m = z_17), shBeq sh_18 shW, decide (wn = z_19), shBeq sh_20 shI, shBeq sh_21 shU, AV.beqL sz_22 [.int .u64 0]] (r33B  nd sf wl wn wf tl m t rd hs hf g nl n f i)
 | _ => .fail
def c3300 (nd : Int) (sf : Int) (wn : Nat) (wf : Nat → Nat → AV) (m : Nat) (t : Nat → Nat → AV) (rd : Int) (hs : AV → Bool) (hf : AV → Nat → AV) (g : Nat → Nat → AV) (nl : Bool) (n : Nat) (f : Nat → Nat → AV) (i : Nat) (j : Nat) : CS :=
 ⟨[.int .i64 nd, .int .i64 sf, .ptr 0 0, .osl false 1 0 7 7 1 true, .osl nl 2 0 n n 9 true, .int .i64 (n : Nat), .int .i64 (i : Nat), .osl false 3 0 m m 6 true, .int .i64 (m : Nat), .int .i64 (j : Nat)], [some (.cells [.int .i64 nd, .int .i64 sf, .osl false 4 0 wn wn 6 true, .int .u64 rd, .map 5] true), some (.tarr shU 7 g true), some (.tarr shO n f false), some (.tarr shW m t true), some (.tarr shW wn wf true), some (.omap shI shU false false [.int .u64 0] hs hf true)]⟩
def c3301 (nd : Int) (sf : Int) (m : Nat) (t : Nat → Nat → AV) (rd : Int) (hs : AV → Bool) (hf : AV → Nat → AV) (g : Nat → Nat → AV) (nl : Bool) (n : Nat) (f : Nat → Nat → AV) (i : Nat) (j : Nat) : CS :=
 ⟨[.int .i64 nd, .int .i64 sf, .ptr 0 0, .osl false 1 0 7 7 1 true, .osl nl 2 0 n n 9 true, .int .i64 (n : Nat), .int .i64 (i : Nat), .osl false 3 0 m m 6 true, .int .i64 (m : Nat), .int .i64 (j : Nat)], [some (.cells [.int .i64 nd, .int .i64 sf, .nilSlice, .int .u64 rd, .map 5] true), some (.tarr shU 7 g true), some (.tarr shO n f false), some (.tarr shW m t true), none, some (.omap shI shU false false [.int .u64 0] hs hf true)]⟩
def c3310 (nd : Int) (sf : Int) (wn : Nat) (wf : Nat → Nat → AV) (rd : Int) (hs : AV → Bool) (hf : AV → Nat → AV) (g : Nat → Nat → AV) (nl : Bool) (n : Nat) (f : Nat → Nat → AV) (i : Nat) : CS :=
 ⟨[.int .i64 nd, .int .i64 sf, .ptr 0 0, .osl false 1 0 7 7 1 true, .osl nl 2 0 n n 9 true, .int .i64 (n : Nat), .int .i64 (i : Nat), .nilSlice, .int .i64 0, .int .i64 0], [some (.cells [.int .i64 nd, .int .i64 sf, .osl false 4 0 wn wn 6 true, .int .u64 rd, .map 5] true), some (.tarr shU 7 g true), some (.tarr shO n f false), none, some (.tarr shW wn wf true), some (.omap shI shU false false [.int .u64 0] hs hf true)]⟩
def c3311 (nd : Int) (sf : Int) (rd : Int) (hs : AV → Bool) (hf : AV → Nat → AV) (g : Nat → Nat → AV) (nl : Bool) (n : Nat) (f : Nat → Nat → AV) (i : Nat) : CS :=
 ⟨[.int .i64 nd, .int .i64 sf, .ptr 0 0, .osl false 1 0 7 7 1 true, .osl nl 2 0 n n 9 true, .int .i64 (n : Nat), .int .i64 (i : Nat), .nilSlice, .int .i64 0, .int .i64 0], [some (.cells [.int .i64 nd, .int .i64 sf, .nilSlice, .int .u64 rd, .map 5] true), some (.tarr shU 7 g true), some (.tarr shO n f false), none, none, some (.omap shI shU false false [.int .u64 0] hs hf true)]⟩
noncomputable def G1 : Env := addL FA 3 3 1000011 h33 x33 0 r33
def c35 (nd : Int) (sf : Int) (wl : Bool) (wn : Nat) (wf : Nat → Nat → AV) (rd : Int) (hs : AV → Bool) (hf : AV → Nat → AV) (g : Nat → Nat → AV) (nl : Bool) (n : Nat) (f : Nat → Nat → AV) (i : Nat) (cn : Nat) (k : Nat) : CS :=
 ⟨[.int .i64 nd, .int .i64 sf, .ptr 0 0, .osl false 1 0 7 7 1 true, .int .i64 (cn : Nat), .osl nl 2 0 n n 9 true, .int .i64 (n : Nat), .int .i64 (i : Nat), .int .i64 nd, .int .i64 (k : Nat)], [some (.cells [.int .i64 nd, .int .i64 sf, .osl wl 3 0 wn wn 6 true, .int .u64 rd, .map 4] true), some (.tarr shU 7 g true), some (.tarr shO n f false), some (.tarr shW wn wf true), some (.omap shI shU false false [.int .u64 0] hs hf true)]⟩
noncomputable def r35B  (nd : Int) (sf : Int) (wl : Bool) (wn : Nat) (wf : Nat → Nat → AV) (rd : Int) (hs : AV → Bool) (hf : AV → Nat → AV) (g : Nat → Nat → AV) (nl : Bool) (n : Nat) (f : Nat → Nat → AV) (i : Nat) : T (Nat × CS) :=
 chkT [decide (1 ≤ nd), decide (nd ≤ 7), Nat.ble wn 1000, (!wl || Nat.beq wn 0)] (.ask wl (.ret (1, ⟨[.int .i64 nd, .int .i64 sf, .ptr 0 0, .osl false 1 0 7 7 1 true, .int .i64 (cntV (leastV nd sf rd hs hf) g nd.toNat : Nat), .osl nl 2 0 n n 9 true, .int .i64 (n : Nat), .int .i64 (i : Nat)], [some (.cells [.int .i64 nd, .int .i64 sf, .osl true 3 0 0 0 6 true, .int .u64 rd, .map 4] true), some (.tarr shU 7 g true), some (.tarr shO n f false), some (.tarr shW 0 (fun _ _ => .bad) true), some (.omap shI shU false false [.int .u64 0] hs hf true)]⟩)) (.ret (1, ⟨[.int .i64 nd, .int .i64 sf, .ptr 0 0, .osl false 1 0 7 7 1 true, .int .i64 (cntV (leastV nd sf rd hs hf) g nd.toNat : Nat), .osl nl 2 0 n n 9 true, .int .i64 (n : Nat), .int .i64 (i : Nat)], [some (.cells [.int .i64 nd, .int .i64 sf, .osl false 3 0 wn wn 6 true, .int .u64 rd, .map 4] true), some (.tarr shU 7 g true), some (.tarr shO n f false), some (.tarr shW wn wf true), some (.omap shI shU false false [.int .u64 0] hs hf true)]⟩)))
noncomputable def r35  (c : CS) : T (Nat × CS) := match c with
 | ⟨[.int .i64 nd, .int .i64 sf, .ptr 0 0, .osl z_1 1 0 z_2 z_3 1 true, .int .i64 z_4, .osl nl 2 0 n z_5 9 true, .int .i64 z_6, .int .i64 (.ofNat i), .int .i64 z_7, .int .i64 z_8], [some (.cells [.int .i64 z_9, .int .i64 z_10, .osl wl 3 0 wn z_11 6 true, .int .u64 rd, .map 4] true), some (.tarr sh_12 z_13 g true), some (.tarr sh_14 z_15 f false), some (.tarr sh_16 z_17 wf true), some (.omap sh_18 sh_19 false false sz_20 hs hf true)]⟩ => chkT [decide (false = z_1), decide (7 = z_2), decide (7 = z_3), decide (0 = z_4), decide (n = z_5), decide ((n : Nat) = z_6), decide (nd = z_7), decide (0 = z_8), decide (nd = z_9), decide (sf = z_10), decide (wn = z_11), shBeq sh_12 shU, decide (7 = z_13), shBeq sh_14 shO, decide (n = z_15), shBeq sh_16 shW, decide (wn = z_17), shBeq sh_18 shI, shBeq sh_19 shU, AV.beqL sz_20 [.int .u64 0]] (r35B  nd sf wl wn wf rd hs hf g nl n f i)
 | _ => .fail
def c350 (nd : Int) (sf : Int) (wn : Nat) (wf : Nat → Nat → AV) (rd : Int) (hs : AV → Bool) (hf : AV → Nat → AV) (g : Nat → Nat → AV) (nl : Bool) (n : Nat) (f : Nat → Nat → AV) (i : Nat) (cn : Nat) (k : Nat) : CS :=
 ⟨[.int .i64 nd, .int .i64 sf, .ptr 0 0, .osl false 1 0 7 7 1 true, .int .i64 (cn : Nat), .osl nl 2 0 n n 9 true, .int .i64 (n : Nat), .int .i64 (i : Nat), .int .i64 nd, .int .i64 (k : Nat)], [some (.cells [.int .i64 nd, .int .i64 sf, .osl false 3 0 wn wn 6 true, .int .u64 rd, .map 4] true), some (.tarr shU 7 g true), some (.tarr shO n f false), some (.tarr shW wn wf true), some (.omap shI shU false false [.int .u64 0] hs hf true)]⟩
def c351 (nd : Int) (sf : Int) (rd : Int) (hs : AV → Bool) (hf : AV → Nat → AV) (g : Nat → Nat → AV) (nl : Bool) (n : Nat) (f : Nat → Nat → AV) (i : Nat) (cn : Nat) (k : Nat) : CS :=
 ⟨[.int .i64 nd, .int .i64 sf, .ptr 0 0, .osl false 1 0 7 7 1 true, .int .i64 (cn : Nat), .osl nl 2 0 n n 9 true, .int .i64 (n : Nat), .int .i64 (i : Nat), .int .i64 nd, .int .i64 (k : Nat)], [some (.cells [.int .i64 nd, .int .i64 sf, .nilSlice, .int .u64 rd, .map 4] true), some (.tarr shU 7 g true), some (.tarr shO n f false), none, some (.omap shI shU false false [.int .u64 0] hs hf true)]⟩
noncomputable def G2 : Env := addL G1 3 5 1000012 h35 x35 0 r35
def pT : List Bool := [true, true, true, true, true, false, true, false, false, true, true, false, false, true, true]
def xT : List (Ex × Pat) := [(.normal, h3)]
def setF (g : Nat → Nat → AV) (sf rd : Int) : Nat → Nat → AV := fput g sf.toNat 0 [.int .u64 rd]
def okHF (nd sf rd s : Int) (g : Nat → Nat → AV) : Bool := decide (nd < 2 * (cntF s (setF g sf rd) nd.toNat : Nat)) && decide (s ≤ rd)
theorem setVE : ∃ q : (Nat → Nat → AV) → Int → Int → Nat → Nat → AV, q = setF := ⟨_, rfl⟩
noncomputable def setV : (Nat → Nat → AV) → Int → Int → Nat → Nat → AV := Classical.choose setVE
theorem setV_eq : setV = setF := Classical.choose_spec setVE
theorem okHVE : ∃ q : Int → Int → Int → Int → (Nat → Nat → AV) → Bool, q = okHF := ⟨_, rfl⟩
noncomputable def okHV : Int → Int → Int → Int → (Nat → Nat → AV) → Bool := Classical.choose okHVE
theorem okHV_eq : okHV = okHF := Classical.choose_spec okHVE
def cT (nd : Int) (sf : Int) (wl : Bool) (wn : Nat) (wf : Nat → Nat → AV) (rd : Int) (hs : AV → Bool) (hf : AV → Nat → AV) (g : Nat → Nat → AV) (nl : Bool) (n : Nat) (f : Nat → Nat → AV) (i : Nat) : CS :=
 ⟨[.int .i64 nd, .int .i64 sf, .ptr 0 0, .osl false 1 0 7 7 1 true, .osl nl 2 0 n n 9 true, .int .i64 (n : Nat), .int .i64 (i : Nat)], [some (.cells [.int .i64 nd, .int .i64 sf, .osl wl 3 0 wn wn 6 true, .int .u64 rd, .map 4] true), some (.tarr shU 7 g true), some (.tarr shO n f false), some (.tarr shW wn wf true), some (.omap shI shU false false [.int .u64 0] hs hf true)]⟩
noncomputable def rTB  (nd : Int) (sf : Int) (wl : Bool) (wn : Nat) (wf : Nat → Nat → AV) (rd : Int) (hs : AV → Bool) (hf : AV → Nat → AV) (g : Nat → Nat → AV) (nl : Bool) (n : Nat) (f : Nat → Nat → AV) (i : Nat) : T (Nat × CS) :=
 chkT [decide (1 ≤ nd), decide (nd ≤ 7), Nat.ble wn 1000, (!wl || Nat.beq wn 0), decide (0 ≤ sf), decide (sf < nd), okHV nd sf rd (leastV nd sf rd hs hf) g] (.ask wl (.ret (0, ⟨[.int .i64 nd, .int .i64 sf, .ptr 0 0, .osl false 1 0 7 7 1 true, .osl nl 2 0 n n 9 true, .int .i64 (n : Nat), .int .i64 (i : Nat)], [some (.cells [.int .i64 nd, .int .i64 sf, .osl true 3 0 0 0 6 true, .int .u64 rd, .map 4] true), some (.tarr shU 7 (setV g sf rd) true), some (.tarr shO n f false), some (.tarr shW 0 (fun _ _ => .bad) true), some (.omap shI shU false false [.int .u64 0] hs hf true)]⟩)) (.ret (0, ⟨[.int .i64 nd, .int .i64 sf, .ptr 0 0, .osl false 1 0 7 7 1 true, .osl nl 2 0 n n 9 true, .int .i64 (n : Nat), .int .i64 (i : Nat)], [some (.cells [.int .i64 nd, .int .i64 sf, .osl false 3 0 wn wn 6 true, .int .u64 rd, .map 4] true), some (.tarr shU 7 (setV g sf rd) true), some (.tarr shO n f false), some (.tarr shW wn wf true), some (.omap shI shU false false [.int .u64 0] hs hf true)]⟩)))
noncomputable def rT  (c : CS) : T (Nat × CS) := match c with
 | ⟨[.int .i64 nd, .int .i64 sf, .ptr 0 0, .osl z_1 1 0 z_2 z_3 1 true, .osl nl 2 0 n z_4 9 true, .int .i64 z_5, .int .i64 (.ofNat i)], [some (.cells [.int .i64 z_6, .int .i64 z_7, .osl wl 3 0 wn z_8 6 true, .int .u64 rd, .map 4] true), some (.tarr sh_9 z_10 g true), some (.tarr sh_11 z_12 f false), some (.tarr sh_13 z_14 wf true), some (.omap sh_15 sh_16 false false sz_17 hs hf true)]⟩ => chkT [decide (false = z_1), decide (7 = z_2), decide (7 = z_3), decide (n = z_4), decide ((n : Nat) = z_5), decide (nd = z_6), decide (sf = z_7), decide (wn = z_8), shBeq sh_9 shU, decide (7 = z_10), shBeq sh_11 shO, decide (n = z_12), shBeq sh_13 shW, decide (wn = z_14), shBeq sh_15 shI, shBeq sh_16 shU, AV.beqL sz_17 [.int .u64 0]] (rTB  nd sf wl wn wf rd hs hf g nl n f i)
 | _ => .fail
def cT0 (nd : Int) (sf : Int) (wn : Nat) (wf : Nat → Nat → AV) (rd : Int) (hs : AV → Bool) (hf : AV → Nat → AV) (g : Nat → Nat → AV) (nl : Bool) (n : Nat) (f : Nat → Nat → AV) (i : Nat) : CS :=
 ⟨[.int .i64 nd, .int .i64 sf, .ptr 0 0, .osl false 1 0 7 7 1 true, .osl nl 2 0 n n 9 true, .int .i64 (n : Nat), .int .i64 (i : Nat)], [some (.cells [.int .i64 nd, .int .i64 sf, .osl false 3 0 wn wn 6 true, .int .u64 rd, .map 4] true), some (.tarr shU 7 g true), some (.tarr shO n f false), some (.tarr shW wn wf true), some (.omap shI shU false false [.int .u64 0] hs hf true)]⟩
def cT1 (nd : Int) (sf : Int) (rd : Int) (hs : AV → Bool) (hf : AV → Nat → AV) (g : Nat → Nat → AV) (nl : Bool) (n : Nat) (f : Nat → Nat → AV) (i : Nat) : CS :=
 ⟨[.int .i64 nd, .int .i64 sf, .ptr 0 0, .osl false 1 0 7 7 1 true, .osl nl 2 0 n n 9 true, .int .i64 (n : Nat), .int .i64 (i : Nat)], [some (.cells [.int .i64 nd, .int .i64 sf, .nilSlice, .int .u64 rd, .map 4] true), some (.tarr shU 7 g true), some (.tarr shO n f false), none, some (.omap shI shU false false [.int .u64 0] hs hf true)]⟩
noncomputable def G3 : Env := addB G2 3 pT 1000013 h3 xT 0 rT
def c30 (nd : Int) (sf : Int) (wn : Nat) (wf : Nat → Nat → AV) (rd : Int) (hs : AV → Bool) (hf : AV → Nat → AV) (g : Nat → Nat → AV) (nl : Bool) (n : Nat) (f : Nat → Nat → AV) (i : Nat) : CS :=
 ⟨[.int .i64 nd, .int .i64 sf, .ptr 0 0, .osl false 1 0 7 7 1 true, .osl nl 2 0 n n 9 true, .int .i64 (n : Nat), .int .i64 (i : Nat)], [some (.cells [.int .i64 nd, .int .i64 sf, .osl false 3 0 wn wn 6 true, .int .u64 rd, .map 4] true), some (.tarr shU 7 g true), some (.tarr shO n f false), some (.tarr shW wn wf true), some (.omap shI shU false false [.int .u64 0] hs hf true)]⟩
def c31 (nd : Int) (sf : Int) (rd : Int) (hs : AV → Bool) (hf : AV → Nat → AV) (g : Nat → Nat → AV) (nl : Bool) (n : Nat) (f : Nat → Nat → AV) (i : Nat) : CS :=
 ⟨[.int .i64 nd, .int .i64 sf, .ptr 0 0, .osl false 1 0 7 7 1 true, .osl nl 2 0 n n 9 true, .int .i64 (n : Nat), .int .i64 (i : Nat)], [some (.cells [.int .i64 nd, .int .i64 sf, .nilSlice, .int .u64 rd, .map 4] true), some (.tarr shU 7 g true), some (.tarr shO n f false), none, some (.omap shI shU false false [.int .u64 0] hs hf true)]⟩
def uN (nd sf : Int) (N : Nat) (co : Nat → Nat → AV) (rd : Int) (hs : AV → Bool) (hf : AV → Nat → AV) (g : Nat → Nat → AV) (nl : Bool) (n : Nat) (f : Nat → Nat → AV) (j : Int) : CS :=
 ⟨[.int .i64 nd, .int .i64 sf, .ptr 0 0, .osl false 1 0 7 7 1 true, .osl nl 2 0 n n 9 true, .int .i64 n, .int .i64 j], [some (.cells [.int .i64 nd, .int .i64 sf, .osl false 3 0 N N 6 true, .int .u64 rd, .map 4] true), some (.tarr shU 7 g true), some (.tarr shO n f false), some (.tarr shW N co true), some (.omap shI shU false false [.int .u64 0] hs hf true)]⟩
def u0 (nd sf : Int) (rd : Int) (hs : AV → Bool) (hf : AV → Nat → AV) (g : Nat → Nat → AV) (nl : Bool) (n : Nat) (f : Nat → Nat → AV) (j : Int) : CS :=
 ⟨[.int .i64 nd, .int .i64 sf, .ptr 0 0, .osl false 1 0 7 7 1 true, .osl nl 2 0 n n 9 true, .int .i64 n, .int .i64 j], [some (.cells [.int .i64 nd, .int .i64 sf, .osl true 3 0 0 0 6 true, .int .u64 rd, .map 4] true), some (.tarr shU 7 g true), some (.tarr shO n f false), some (.tarr shW 0 (fun _ _ => .bad) true), some (.omap shI shU false false [.int .u64 0] hs hf true)]⟩
noncomputable def s3300 (nd : Int) (sf : Int) (wn : Nat) (wf : Nat → Nat → AV) (m : Nat) (t : Nat → Nat → AV) (rd : Int) (hs : AV → Bool) (hf : AV → Nat → AV) (g : Nat → Nat → AV) (nl : Bool) (n : Nat) (f : Nat → Nat → AV) (i : Nat) (j : Nat) (π : Plan) : Option (Nat × CS) := stepC (FA) (400) (loopC FA 3 3) (0) (h33) ((.normal, h33) :: x33) π (c3300 nd sf wn wf m t rd hs hf g nl n f i j)
def s3300_p : Plan := (.fork (.reck 1 (.must true (.fork (.must true (.reck 1 (.must true (.reck 3 (.fork (.fork (.must true (.must true (.fork .stop .stop))) .stop) .stop))))) .stop))) .stop)
theorem s3300_is (nd : Int) (sf : Int) (wn : Nat) (wf : Nat → Nat → AV) (m : Nat) (t : Nat → Nat → AV) (rd : Int) (hs : AV → Bool) (hf : AV → Nat → AV) (g : Nat → Nat → AV) (nl : Bool) (n : Nat) (f : Nat → Nat → AV) (i : Nat) (j : Nat) : s3300 nd sf wn wf m t rd hs hf g nl n f i j s3300_p = (cond (decide ((↑j : Int) < (↑m : Int)))
 (cond (decide ((↑j : Int) < (↑m : Int))) (cond (Nat.blt (0 + Int.toNat (↑j : Int)) m)
 (cond (decide (wn = wn)) (cond (decide (wn = wn)) (cond (decide (1 ≤ nd))
 (cond (decide (nd ≤ 7))
 (cond (decide (AV.toI (t (0 + Int.toNat (↑j : Int)) (5)) = AV.toI (t (0 + Int.toNat (↑j : Int)) (5)))) (cond (decide (AV.toI (t (0 + Int.toNat (↑j : Int)) (5)) = AV.toI (t (0 + Int.toNat (↑j : Int)) (5)))) (cond (decide (AV.toI (t (0 + Int.toNat (↑j : Int)) (5)) > leastV nd sf rd hs hf))
 none
 (some (0, (CS.mk [(.int .i64 nd), (.int .i64 sf), (.ptr 0 0), (.osl (false) (1) (0) (7) (7) (1) (true)), (.osl (nl) (2) (0) (n) (n) 9 true), (.int .i64 ((↑n : Int))), (.int .i64 ((↑i : Int))), (.osl (false) (3) (0) (m) (m) 6 true), (.int .i64 ((↑m : Int))), (.int .i64 (IntKind.wrap .i64 ((↑j : Int) + 1)))] [some (.cells [(.int .i64 nd), (.int .i64 sf), (.osl (false) (4) (0) (wn) (wn) 6 true), (.int .u64 rd), (.map (5))] true), some (.tarr shU (7) g true), some (.tarr shO (n) f false), some (.tarr shW (m) t true), some (.tarr shW (wn) wf true), some (.omap shI shU false false [(.int .u64 0)] hs hf true)])))) none) none)
 none)
 none) none) none)
 none) none)
 (some (1, (uN nd sf wn wf rd hs hf g nl n f (↑i : Int))))) := by kernel_rfl
theorem s3300_eq (nd : Int) (sf : Int) (wn : Nat) (wf : Nat → Nat → AV) (m : Nat) (t : Nat → Nat → AV) (rd : Int) (hs : AV → Bool) (hf : AV → Nat → AV) (g : Nat → Nat → AV) (nl : Bool) (n : Nat) (f : Nat → Nat → AV) (i : Nat) (j : Nat) : s3300 nd sf wn wf m t rd hs hf g nl n f i j s3300_p = (cond (decide ((↑j : Int) < (↑m : Int)))
 (cond (Nat.blt (0 + Int.toNat (↑j : Int)) m)
 (cond (decide (1 ≤ nd))
 (cond (decide (nd ≤ 7))
 (cond (decide (AV.toI (t (0 + Int.toNat (↑j : Int)) (5)) > leastV nd sf rd hs hf))
 none
 (some (0, (CS.mk [(.int .i64 nd), (.int .i64 sf), (.ptr 0 0), (.osl (false) (1) (0) (7) (7) (1) (true)), (.osl (nl) (2) (0) (n) (n) 9 true), (.int .i64 ((↑n : Int))), (.int .i64 ((↑i : Int))), (.osl (false) (3) (0) (m) (m) 6 true), (.int .i64 ((↑m : Int))), (.int .i64 (IntKind.wrap .i64 ((↑j : Int) + 1)))] [some (.cells [(.int .i64 nd), (.int .i64 sf), (.osl (false) (4) (0) (wn) (wn) 6 true), (.int .u64 rd), (.map (5))] true), some (.tarr shU (7) g true), some (.tarr shO (n) f false), some (.tarr shW (m) t true), some (.tarr shW (wn) wf true), some (.omap shI shU false false [(.int .u64 0)] hs hf true)]))))
 none)
 none)
 none)
 (some (1, (uN nd sf wn wf rd hs hf g nl n f (↑i : Int))))) := by
 rw [s3300_is]
 try simp only [eq_self, decide_true, beq_self_eq_true, Nat.beq_refl, ble_self, Int.le_refl, Nat.le_refl]
 cases (decide ((↑j : Int) < (↑m : Int))) with
 | true =>
   cases (Nat.blt (0 + Int.toNat (↑j : Int)) m) with
   | true =>
     cases (decide (1 ≤ nd)) with
     | true =>
       cases (decide (nd ≤ 7)) with
       | true =>
         cases (decide (AV.toI (t (0 + Int.toNat (↑j : Int)) (5)) > leastV nd sf rd hs hf)) with
         | true =>
           rfl
         | false =>
           rfl
       | false =>
         rfl
     | false =>
       rfl
   | false =>
     rfl
 | false =>
   rfl
noncomputable def s3301 (nd : Int) (sf : Int) (m : Nat) (t : Nat → Nat → AV) (rd : Int) (hs : AV → Bool) (hf : AV → Nat → AV) (g : Nat → Nat → AV) (nl : Bool) (n : Nat) (f : Nat → Nat → AV) (i : Nat) (j : Nat) (π : Plan) : Option (Nat × CS) := stepC (FA) (400) (loopC FA 3 3) (0) (h33) ((.normal, h33) :: x33) π (c3301 nd sf m t rd hs hf g nl n f i j)
def s3301_p : Plan := (.fork (.reck 1 (.must true (.fork (.reck 6 (.fork (.fork (.must true (.must true (.fork .stop .stop))) .stop) .stop)) .stop))) .stop)
theorem s3301_is (nd : Int) (sf : Int) (m : Nat) (t : Nat → Nat → AV) (rd : Int) (hs : AV → Bool) (hf : AV → Nat → AV) (g : Nat → Nat → AV) (nl : Bool) (n : Nat) (f : Nat → Nat → AV) (i : Nat) (j : Nat) : s3301 nd sf m t rd hs hf g nl n f i j s3301_p = (cond (decide ((↑j : Int) < (↑m : Int)))
 (cond (decide ((↑j : Int) < (↑m : Int))) (cond (Nat.blt (0 + Int.toNat (↑j : Int)) m)
 (cond (decide (1 ≤ nd))
 (cond (decide (nd ≤ 7))
 (cond (decide (AV.toI (t (0 + Int.toNat (↑j : Int)) (5)) = AV.toI (t (0 + Int.toNat (↑j : Int)) (5)))) (cond (decide (AV.toI (t (0 + Int.toNat (↑j : Int)) (5)) = AV.toI (t (0 + Int.toNat (↑j : Int)) (5)))) (cond (decide (AV.toI (t (0 + Int.toNat (↑j : Int)) (5)) > leastV nd sf rd hs hf))
 none
 (some (0, (CS.mk [(.int .i64 nd), (.int .i64 sf), (.ptr 0 0), (.osl (false) (1) (0) (7) (7) (1) (true)), (.osl (nl) (2) (0) (n) (n) 9 true), (.int .i64 ((↑n : Int))), (.int .i64 ((↑i : Int))), (.osl (false) (3) (0) (m) (m) 6 true), (.int .i64 ((↑m : Int))), (.int .i64 (IntKind.wrap .i64 ((↑j : Int) + 1)))] [some (.cells [(.int .i64 nd), (.int .i64 sf), (.osl (true) (4) (0) (0) (0) 6 true), (.int .u64 rd), (.map (5))] true), some (.tarr shU (7) g true), some (.tarr shO (n) f false), some (.tarr shW (m) t true), some (.tarr shW (0) (fun p_ q_ => AV.bad) true), some (.omap shI shU false false [(.int .u64 0)] hs hf true)])))) none) none)
 none)
 none)
 none) none)
 (some (1, (u0 nd sf rd hs hf g nl n f (↑i : Int))))) := by kernel_rfl
theorem s3301_eq (nd : Int) (sf : Int) (m : Nat) (t : Nat → Nat → AV) (rd : Int) (hs : AV → Bool) (hf : AV → Nat → AV) (g : Nat → Nat → AV) (nl : Bool) (n : Nat) (f : Nat → Nat → AV) (i : Nat) (j : Nat) : s3301 nd sf m t rd hs hf g nl n f i j s3301_p = (cond (decide ((↑j : Int) < (↑m : Int)))
 (cond (Nat.blt (0 + Int.toNat (↑j : Int)) m)
 (cond (decide (1 ≤ nd))
 (cond (decide (nd ≤ 7))
 (cond (decide (AV.toI (t (0 + Int.toNat (↑j : Int)) (5)) > leastV nd sf rd hs hf))
 none
 (some (0, (CS.mk [(.int .i64 nd), (.int .i64 sf), (.ptr 0 0), (.osl (false) (1) (0) (7) (7) (1) (true)), (.osl (nl) (2) (0) (n) (n) 9 true), (.int .i64 ((↑n : Int))), (.int .i64 ((↑i : Int))), (.osl (false) (3) (0) (m) (m) 6 true), (.int .i64 ((↑m : Int))), (.int .i64 (IntKind.wrap .i64 ((↑j : Int) + 1)))] [some (.cells [(.int .i64 nd), (.int .i64 sf), (.osl (true) (4) (0) (0) (0) 6 true), (.int .u64 rd), (.map (5))] true), some (.tarr shU (7) g true), some (.tarr shO (n) f false), some (.tarr shW (m) t true), some (.tarr shW (0) (fun p_ q_ => AV.bad) true), some (.omap shI shU false false [(.int .u64 0)] hs hf true)]))))
 none)
 none)
 none)
 (some (1, (u0 nd sf rd hs hf g nl n f (↑i : Int))))) := by
 rw [s3301_is]
 try simp only [eq_self, decide_true, beq_self_eq_true, Nat.beq_refl, ble_self, Int.le_refl, Nat.le_refl]
 cases (decide ((↑j : Int) < (↑m : Int))) with
 | true =>
   cases (Nat.blt (0 + Int.toNat (↑j : Int)) m) with
   | true =>
     cases (decide (1 ≤ nd)) with
     | true =>
       cases (decide (nd ≤ 7)) with
       | true =>
         cases (decide (AV.toI (t (0 + Int.toNat (↑j : Int)) (5)) > leastV nd sf rd hs hf)) with
         | true =>
           rfl
         | false =>
           rfl
       | false =>
         rfl
     | false =>
       rfl
   | false =>
     rfl
 | false =>
   rfl
noncomputable def s3310 (nd : Int) (sf : Int) (wn : Nat) (wf : Nat → Nat → AV) (rd : Int) (hs : AV → Bool) (hf : AV → Nat → AV) (g : Nat → Nat → AV) (nl : Bool) (n : Nat) (f : Nat → Nat → AV) (i : Nat) (π : Plan) : Option (Nat × CS) := stepC (FA) (400) (loopC FA 3 3) (0) (h33) ((.normal, h33) :: x33) π (c3310 nd sf wn wf rd hs hf g nl n f i)
def s3310_p : Plan := .stop
theorem s3310_is (nd : Int) (sf : Int) (wn : Nat) (wf : Nat → Nat → AV) (rd : Int) (hs : AV → Bool) (hf : AV → Nat → AV) (g : Nat → Nat → AV) (nl : Bool) (n : Nat) (f : Nat → Nat → AV) (i : Nat) : s3310 nd sf wn wf rd hs hf g nl n f i s3310_p = (some (1, (uN nd sf wn wf rd hs hf g nl n f (↑i : Int)))) := by kernel_rfl
theorem s3310_eq (nd : Int) (sf : Int) (wn : Nat) (wf : Nat → Nat → AV) (rd : Int) (hs : AV → Bool) (hf : AV → Nat → AV) (g : Nat → Nat → AV) (nl : Bool) (n : Nat) (f : Nat → Nat → AV) (i : Nat) : s3310 nd sf wn wf rd hs hf g nl n f i s3310_p = (some (1, (uN nd sf wn wf rd hs hf g nl n f (↑i : Int)))) := by
 rw [s3310_is]
noncomputable def s3311 (nd : Int) (sf : Int) (rd : Int) (hs : AV → Bool) (hf : AV → Nat → AV) (g : Nat → Nat → AV) (nl : Bool) (n : Nat) (f : Nat → Nat → AV) (i : Nat) (π : Plan) : Option (Nat × CS) := stepC (FA) (400) (loopC FA 3 3) (0) (h33) ((.normal, h33) :: x33) π (c3311 nd sf rd hs hf g nl n f i)
def s3311_p : Plan := .stop
theorem s3311_is (nd : Int) (sf : Int) (rd : Int) (hs : AV → Bool) (hf : AV → Nat → AV) (g : Nat → Nat → AV) (nl : Bool) (n : Nat) (f : Nat → Nat → AV) (i : Nat) : s3311 nd sf rd hs hf g nl n f i s3311_p = (some (1, (u0 nd sf rd hs hf g nl n f (↑i : Int)))) := by kernel_rfl
theorem s3311_eq (nd : Int) (sf : Int) (rd : Int) (hs : AV → Bool) (hf : AV → Nat → AV) (g : Nat → Nat → AV) (nl : Bool) (n : Nat) (f : Nat → Nat → AV) (i : Nat) : s3311 nd sf rd hs hf g nl n f i s3311_p = (some (1, (u0 nd sf rd hs hf g nl n f (↑i : Int)))) := by
 rw [s3311_is]
noncomputable def s350 (nd : Int) (sf : Int) (wn : Nat) (wf : Nat → Nat → AV) (rd : Int) (hs : AV → Bool) (hf : AV → Nat → AV) (g : Nat → Nat → AV) (nl : Bool) (n : Nat) (f : Nat → Nat → AV) (i : Nat) (cn : Nat) (k : Nat) (π : Plan) : Option (Nat × CS) := stepC (G1) (400) (loopC G1 3 5) (0) (h35) ((.normal, h35) :: x35) π (c350 nd sf wn wf rd hs hf g nl n f i cn k)
def s350_p : Plan := (.fork (.reck 1 (.fork (.fork (.must true (.reck 1 (.must true (.reck 3 (.fork (.fork (.must true (.must true (.must true (.must true (.fork .stop .stop))))) .stop) .stop))))) .stop) .stop)) .stop)
theorem s350_is (nd : Int) (sf : Int) (wn : Nat) (wf : Nat → Nat → AV) (rd : Int) (hs : AV → Bool) (hf : AV → Nat → AV) (g : Nat → Nat → AV) (nl : Bool) (n : Nat) (f : Nat → Nat → AV) (i : Nat) (cn : Nat) (k : Nat) : s350 nd sf wn wf rd hs hf g nl n f i cn k s350_p = (cond (decide ((↑k : Int) < nd))
 (cond (decide ((↑k : Int) < (↑7 : Int)))
 (cond (Nat.blt (0 + Int.toNat (↑k : Int)) 7)
 (cond (decide (wn = wn)) (cond (decide (wn = wn)) (cond (decide (1 ≤ nd))
 (cond (decide (nd ≤ 7))
 (cond (Nat.blt (0 + Int.toNat (↑k : Int)) 7) (cond (decide (AV.toI (g (0 + Int.toNat (↑k : Int)) 0) = AV.toI (g (0 + Int.toNat (↑k : Int)) 0))) (cond (Nat.blt (0 + Int.toNat (↑k : Int)) 7) (cond (decide (AV.toI (g (0 + Int.toNat (↑k : Int)) 0) = AV.toI (g (0 + Int.toNat (↑k : Int)) 0))) (cond (decide (AV.toI (g (0 + Int.toNat (↑k : Int)) 0) ≥ leastV nd sf rd hs hf))
 (some (0, (CS.mk [(.int .i64 nd), (.int .i64 sf), (.ptr 0 0), (.osl (false) (1) (0) (7) (7) (1) (true)), (.int .i64 (IntKind.wrap .i64 ((↑cn : Int) + 1))), (.osl (nl) (2) (0) (n) (n) 9 true), (.int .i64 ((↑n : Int))), (.int .i64 ((↑i : Int))), (.int .i64 nd), (.int .i64 (IntKind.wrap .i64 ((↑k : Int) + 1)))] [some (.cells [(.int .i64 nd), (.int .i64 sf), (.osl (false) (3) (0) (wn) (wn) 6 true), (.int .u64 rd), (.map (4))] true), some (.tarr shU (7) g true), some (.tarr shO (n) f false), some (.tarr shW (wn) wf true), some (.omap shI shU false false [(.int .u64 0)] hs hf true)])))
 (some (0, (CS.mk [(.int .i64 nd), (.int .i64 sf), (.ptr 0 0), (.osl (false) (1) (0) (7) (7) (1) (true)), (.int .i64 ((↑cn : Int))), (.osl (nl) (2) (0) (n) (n) 9 true), (.int .i64 ((↑n : Int))), (.int .i64 ((↑i : Int))), (.int .i64 nd), (.int .i64 (IntKind.wrap .i64 ((↑k : Int) + 1)))] [some (.cells [(.int .i64 nd), (.int .i64 sf), (.osl (false) (3) (0) (wn) (wn) 6 true), (.int .u64 rd), (.map (4))] true), some (.tarr shU (7) g true), some (.tarr shO (n) f false), some (.tarr shW (wn) wf true), some (.omap shI shU false false [(.int .u64 0)] hs hf true)])))) none) none) none) none)
 none)
 none) none) none)
 none)
 none)
 (some (1, (CS.mk [(.int .i64 nd), (.int .i64 sf), (.ptr 0 0), (.osl (false) (1) (0) (7) (7) (1) (true)), (.int .i64 ((↑cn : Int))), (.osl (nl) (2) (0) (n) (n) 9 true), (.int .i64 ((↑n : Int))), (.int .i64 ((↑i : Int)))] [some (.cells [(.int .i64 nd), (.int .i64 sf), (.osl (false) (3) (0) (wn) (wn) 6 true), (.int .u64 rd), (.map (4))] true), some (.tarr shU (7) g true), some (.tarr shO (n) f false), some (.tarr shW (wn) wf true), some (.omap shI shU false false [(.int .u64 0)] hs hf true)])))) := by kernel_rfl
theorem s350_eq (nd : Int) (sf : Int) (wn : Nat) (wf : Nat → Nat → AV) (rd : Int) (hs : AV → Bool) (hf : AV → Nat → AV) (g : Nat → Nat → AV) (nl : Bool) (n : Nat) (f : Nat → Nat → AV) (i : Nat) (cn : Nat) (k : Nat) : s350 nd sf wn wf rd hs hf g nl n f i cn k s350_p = (cond (decide ((↑k : Int) < nd))
 (cond (decide ((↑k : Int) < (↑7 : Int)))
 (cond (Nat.blt (0 + Int.toNat (↑k : Int)) 7)
 (cond (decide (1 ≤ nd))
 (cond (decide (nd ≤ 7))
 (cond (decide (AV.toI (g (0 + Int.toNat (↑k : Int)) 0) ≥ leastV nd sf rd hs hf))
 (some (0, (CS.mk [(.int .i64 nd), (.int .i64 sf), (.ptr 0 0), (.osl (false) (1) (0) (7) (7) (1) (true)), (.int .i64 (IntKind.wrap .i64 ((↑cn : Int) + 1))), (.osl (nl) (2) (0) (n) (n) 9 true), (.int .i64 ((↑n : Int))), (.int .i64 ((↑i : Int))), (.int .i64 nd), (.int .i64 (IntKind.wrap .i64 ((↑k : Int) + 1)))] [some (.cells [(.int .i64 nd), (.int .i64 sf), (.osl (false) (3) (0) (wn) (wn) 6 true), (.int .u64 rd), (.map (4))] true), some (.tarr shU (7) g true), some (.tarr shO (n) f false), some (.tarr shW (wn) wf true), some (.omap shI shU false false [(.int .u64 0)] hs hf true)])))
 (some (0, (CS.mk [(.int .i64 nd), (.int .i64 sf), (.ptr 0 0), (.osl (false) (1) (0) (7) (7) (1) (true)), (.int .i64 ((↑cn : Int))), (.osl (nl) (2) (0) (n) (n) 9 true), (.int .i64 ((↑n : Int))), (.int .i64 ((↑i : Int))), (.int .i64 nd), (.int .i64 (IntKind.wrap .i64 ((↑k : Int) + 1)))] [some (.cells [(.int .i64 nd), (.int .i64 sf), (.osl (false) (3) (0) (wn) (wn) 6 true), (.int .u64 rd), (.map (4))] true), some (.tarr shU (7) g true), some (.tarr shO (n) f false), some (.tarr shW (wn) wf true), some (.omap shI shU false false [(.int .u64 0)] hs hf true)]))))
 none)
 none)
 none)
 none)
 (some (1, (CS.mk [(.int .i64 nd), (.int .i64 sf), (.ptr 0 0), (.osl (false) (1) (0) (7) (7) (1) (true)), (.int .i64 ((↑cn : Int))), (.osl (nl) (2) (0) (n) (n) 9 true), (.int .i64 ((↑n : Int))), (.int .i64 ((↑i : Int)))] [some (.cells [(.int .i64 nd), (.int .i64 sf), (.osl (false) (3) (0) (wn) (wn) 6 true), (.int .u64 rd), (.map (4))] true), some (.tarr shU (7) g true), some (.tarr shO (n) f false), some (.tarr shW (wn) wf true), some (.omap shI shU false false [(.int .u64 0)] hs hf true)])))) := by
 rw [s350_is]
 try simp only [eq_self, decide_true, beq_self_eq_true, Nat.beq_refl, ble_self, Int.le_refl, Nat.le_refl]
 cases (decide ((↑k : Int) < nd)) with
 | true =>
   cases (decide ((↑k : Int) < (↑7 : Int))) with
   | true =>
     cases (Nat.blt (0 + Int.toNat (↑k : Int)) 7) with
     | true =>
       cases (decide (1 ≤ nd)) with
       | true =>
         cases (decide (nd ≤ 7)) with
         | true =>
           cases (decide (AV.toI (g (0 + Int.toNat (↑k : Int)) 0) ≥ leastV nd sf rd hs hf)) with
           | true =>
             rfl
           | false =>
             rfl
         | false =>
           rfl
       | false =>
         rfl
     | false =>
       rfl
   | false =>
     rfl
 | false =>
   rfl
noncomputable def s351 (nd : Int) (sf : Int) (rd : Int) (hs : AV → Bool) (hf : AV → Nat → AV) (g : Nat → Nat → AV) (nl : Bool) (n : Nat) (f : Nat → Nat → AV) (i : Nat) (cn : Nat) (k : Nat) (π : Plan) : Option (Nat × CS) := stepC (G1) (400) (loopC G1 3 5) (0) (h35) ((.normal, h35) :: x35) π (c351 nd sf rd hs hf g nl n f i cn k)
def s351_p : Plan := (.fork (.reck 1 (.fork (.fork (.reck 6 (.fork (.fork (.must true (.must true (.must true (.must true (.fork .stop .stop))))) .stop) .stop)) .stop) .stop)) .stop)
theorem s351_is (nd : Int) (sf : Int) (rd : Int) (hs : AV → Bool) (hf : AV → Nat → AV) (g : Nat → Nat → AV) (nl : Bool) (n : Nat) (f : Nat → Nat → AV) (i : Nat) (cn : Nat) (k : Nat) : s351 nd sf rd hs hf g nl n f i cn k s351_p = (cond (decide ((↑k : Int) < nd))
 (cond (decide ((↑k : Int) < (↑7 : Int)))
 (cond (Nat.blt (0 + Int.toNat (↑k : Int)) 7)
 (cond (decide (1 ≤ nd))
 (cond (decide (nd ≤ 7))
 (cond (Nat.blt (0 + Int.toNat (↑k : Int)) 7) (cond (decide (AV.toI (g (0 + Int.toNat (↑k : Int)) 0) = AV.toI (g (0 + Int.toNat (↑k : Int)) 0))) (cond (Nat.blt (0 + Int.toNat (↑k : Int)) 7) (cond (decide (AV.toI (g (0 + Int.toNat (↑k : Int)) 0) = AV.toI (g (0 + Int.toNat (↑k : Int)) 0))) (cond (decide (AV.toI (g (0 + Int.toNat (↑k : Int)) 0) ≥ leastV nd sf rd hs hf))
 (some (0, (CS.mk [(.int .i64 nd), (.int .i64 sf), (.ptr 0 0), (.osl (false) (1) (0) (7) (7) (1) (true)), (.int .i64 (IntKind.wrap .i64 ((↑cn : Int) + 1))), (.osl (nl) (2) (0) (n) (n) 9 true), (.int .i64 ((↑n : Int))), (.int .i64 ((↑i : Int))), (.int .i64 nd), (.int .i64 (IntKind.wrap .i64 ((↑k : Int) + 1)))] [some (.cells [(.int .i64 nd), (.int .i64 sf), (.osl (true) (3) (0) (0) (0) 6 true), (.int .u64 rd), (.map (4))] true), some (.tarr shU (7) g true), some (.tarr shO (n) f false), some (.tarr shW (0) (fun p_ q_ => AV.bad) true), some (.omap shI shU false false [(.int .u64 0)] hs hf true)])))
 (some (0, (CS.mk [(.int .i64 nd), (.int .i64 sf), (.ptr 0 0), (.osl (false) (1) (0) (7) (7) (1) (true)), (.int .i64 ((↑cn : Int))), (.osl (nl) (2) (0) (n) (n) 9 true), (.int .i64 ((↑n : Int))), (.int .i64 ((↑i : Int))), (.int .i64 nd), (.int .i64 (IntKind.wrap .i64 ((↑k : Int) + 1)))] [some (.cells [(.int .i64 nd), (.int .i64 sf), (.osl (true) (3) (0) (0) (0) 6 true), (.int .u64 rd), (.map (4))] true), some (.tarr shU (7) g true), some (.tarr shO (n) f false), some (.tarr shW (0) (fun p_ q_ => AV.bad) true), some (.omap shI shU false false [(.int .u64 0)] hs hf true)])))) none) none) none) none)
 none)
 none)
 none)
 none)
 (some (1, (CS.mk [(.int .i64 nd), (.int .i64 sf), (.ptr 0 0), (.osl (false) (1) (0) (7) (7) (1) (true)), (.int .i64 ((↑cn : Int))), (.osl (nl) (2) (0) (n) (n) 9 true), (.int .i64 ((↑n : Int))), (.int .i64 ((↑i : Int)))] [some (.cells [(.int .i64 nd), (.int .i64 sf), (.osl (true) (3) (0) (0) (0) 6 true), (.int .u64 rd), (.map (4))] true), some (.tarr shU (7) g true), some (.tarr shO (n) f false), some (.tarr shW (0) (fun p_ q_ => AV.bad) true), some (.omap shI shU false false [(.int .u64 0)] hs hf true)])))) := by kernel_rfl
theorem s351_eq (nd : Int) (sf : Int) (rd : Int) (hs : AV → Bool) (hf : AV → Nat → AV) (g : Nat → Nat → AV) (nl : Bool) (n : Nat) (f : Nat → Nat → AV) (i : Nat) (cn : Nat) (k : Nat) : s351 nd sf rd hs hf g nl n f i cn k s351_p = (cond (decide ((↑k : Int) < nd))
 (cond (decide ((↑k : Int) < (↑7 : Int)))
 (cond (Nat.blt (0 + Int.toNat (↑k : Int)) 7)
 (cond (decide (1 ≤ nd))
 (cond (decide (nd ≤ 7))
 (cond (decide (AV.toI (g (0 + Int.toNat (↑k : Int)) 0) ≥ leastV nd sf rd hs hf))
 (some (0, (CS.mk [(.int .i64 nd), (.int .i64 sf), (.ptr 0 0), (.osl (false) (1) (0) (7) (7) (1) (true)), (.int .i64 (IntKind.wrap .i64 ((↑cn : Int) + 1))), (.osl (nl) (2) (0) (n) (n) 9 true), (.int .i64 ((↑n : Int))), (.int .i64 ((↑i : Int))), (.int .i64 nd), (.int .i64 (IntKind.wrap .i64 ((↑k : Int) + 1)))] [some (.cells [(.int .i64 nd), (.int .i64 sf), (.osl (true) (3) (0) (0) (0) 6 true), (.int .u64 rd), (.map (4))] true), some (.tarr shU (7) g true), some (.tarr shO (n) f false), some (.tarr shW (0) (fun p_ q_ => AV.bad) true), some (.omap shI shU false false [(.int .u64 0)] hs hf true)])))
 (some (0, (CS.mk [(.int .i64 nd), (.int .i64 sf), (.ptr 0 0), (.osl (false) (1) (0) (7) (7) (1) (true)), (.int .i64 ((↑cn : Int))), (.osl (nl) (2) (0) (n) (n) 9 true), (.int .i64 ((↑n : Int))), (.int .i64 ((↑i : Int))), (.int .i64 nd), (.int .i64 (IntKind.wrap .i64 ((↑k : Int) + 1)))] [some (.cells [(.int .i64 nd), (.int .i64 sf), (.osl (true) (3) (0) (0) (0) 6 true), (.int .u64 rd), (.map (4))] true), some (.tarr shU (7) g true), some (.tarr shO (n) f false), some (.tarr shW (0) (fun p_ q_ => AV.bad) true), some (.omap shI shU false false [(.int .u64 0)] hs hf true)]))))
 none)
 none)
 none)
 none)
 (some (1, (CS.mk [(.int .i64 nd), (.int .i64 sf), (.ptr 0 0), (.osl (false) (1) (0) (7) (7) (1) (true)), (.int .i64 ((↑cn : Int))), (.osl (nl) (2) (0) (n) (n) 9 true), (.int .i64 ((↑n : Int))), (.int .i64 ((↑i : Int)))] [some (.cells [(.int .i64 nd), (.int .i64 sf), (.osl (true) (3) (0) (0) (0) 6 true), (.int .u64 rd), (.map (4))] true), some (.tarr shU (7) g true), some (.tarr shO (n) f false), some (.tarr shW (0) (fun p_ q_ => AV.bad) true), some (.omap shI shU false false [(.int .u64 0)] hs hf true)])))) := by
 rw [s351_is]
 try simp only [eq_self, decide_true, beq_self_eq_true, Nat.beq_refl, ble_self, Int.le_refl, Nat.le_refl]
 cases (decide ((↑k : Int) < nd)) with
 | true =>
   cases (decide ((↑k : Int) < (↑7 : Int))) with
   | true =>
     cases (Nat.blt (0 + Int.toNat (↑k : Int)) 7) with
     | true =>
       cases (decide (1 ≤ nd)) with
       | true =>
         cases (decide (nd ≤ 7)) with
         | true =>
           cases (decide (AV.toI (g (0 + Int.toNat (↑k : Int)) 0) ≥ leastV nd sf rd hs hf)) with
           | true =>
             rfl
           | false =>
             rfl
         | false =>
           rfl
       | false =>
         rfl
     | false =>
       rfl
   | false =>
     rfl
 | false =>
   rfl
noncomputable def kT0 (nd : Int) (sf : Int) (wn : Nat) (wf : Nat → Nat → AV) (rd : Int) (hs : AV → Bool) (hf : AV → Nat → AV) (g : Nat → Nat → AV) (nl : Bool) (n : Nat) (f : Nat → Nat → AV) (i : Nat) (π : Plan) : Option (Nat × CS) := stepC (G2) (1000) (pieceC G2 3 pT) (0) (h3) (xT) π (cT0 nd sf wn wf rd hs hf g nl n f i)
def kT0_p : Plan := (.reck 1 (.fork (.fork (.fork (.reck 4 (.must true (.must true (.must true (.reck 1 (.must true (.must true (.must true (.reck 3 (.must true (.reck 1 (.must true (.reck 3 (.fork (.fork (.fork (.reck 4 (.fork (.must true (.must true (.reck 1 (.must true (.reck 3 (.must true (.must true (.must true (.must true (.reck 1 (.must true (.must false (.fork .stop .stop))))))))))))) (.must false (.must false (.must false (.must false (.must true .stop))))))) .stop) .stop) .stop)))))))))))))) .stop) .stop) .stop))
theorem kT0_is (nd : Int) (sf : Int) (wn : Nat) (wf : Nat → Nat → AV) (rd : Int) (hs : AV → Bool) (hf : AV → Nat → AV) (g : Nat → Nat → AV) (nl : Bool) (n : Nat) (f : Nat → Nat → AV) (i : Nat) : kT0 nd sf wn wf rd hs hf g nl n f i kT0_p = (cond (decide (0 ≤ sf))
 (cond (decide (sf < (↑7 : Int)))
 (cond (Nat.blt (0 + Int.toNat sf) 7)
 (cond (decide (n = n)) (cond (decide ((↑n : Int) = (↑n : Int))) (cond (decide (nd = nd)) (cond (decide (nd = nd)) (cond (decide (sf = sf)) (cond (decide (wn = wn)) (cond (decide (n = n)) (cond (decide (wn = wn)) (cond (decide (1 ≤ nd))
 (cond (decide (nd ≤ 7))
 (cond (Nat.ble wn 1000)
 (cond (decide (IntKind.wrap .i64 (2 * (↑(cntV (leastV nd sf rd hs hf) (fput g (0 + Int.toNat sf) 0 (AV.cells (AV.int .u64 rd))) (Int.toNat nd)) : Int)) ≤ nd) == false)
 (cond (decide (IntKind.wrap .i64 (2 * (↑(cntV (leastV nd sf rd hs hf) (fput g (0 + Int.toNat sf) 0 (AV.cells (AV.int .u64 rd))) (Int.toNat nd)) : Int)) ≤ nd) == false) (cond (decide (wn = wn)) (cond (decide (wn = wn)) (cond (decide (1 ≤ nd)) (cond (decide (nd ≤ 7)) (cond (decide (IntKind.wrap .i64 (2 * (↑(cntV (leastV nd sf rd hs hf) (fput g (0 + Int.toNat sf) 0 (AV.cells (AV.int .u64 rd))) (Int.toNat nd)) : Int)) ≤ nd) == false) (cond (decide (IntKind.wrap .i64 (2 * (↑(cntV (leastV nd sf rd hs hf) (fput g (0 + Int.toNat sf) 0 (AV.cells (AV.int .u64 rd))) (Int.toNat nd)) : Int)) ≤ nd) == false) (cond (decide (IntKind.wrap .i64 (2 * (↑(cntV (leastV nd sf rd hs hf) (fput g (0 + Int.toNat sf) 0 (AV.cells (AV.int .u64 rd))) (Int.toNat nd)) : Int)) ≤ nd) == false) (cond (decide (IntKind.wrap .i64 (2 * (↑(cntV (leastV nd sf rd hs hf) (fput g (0 + Int.toNat sf) 0 (AV.cells (AV.int .u64 rd))) (Int.toNat nd)) : Int)) ≤ nd)) none (cond (decide (leastV nd sf rd hs hf > rd))
 none
 (some (0, (uN nd sf wn wf rd hs hf (fput g (0 + Int.toNat sf) (0) [(.int .u64 rd)]) nl n f (↑i : Int)))))) none) none) none) none) none) none) none) none)
 (cond (decide (IntKind.wrap .i64 (2 * (↑(cntV (leastV nd sf rd hs hf) (fput g (0 + Int.toNat sf) 0 (AV.cells (AV.int .u64 rd))) (Int.toNat nd)) : Int)) ≤ nd) == false) none (cond (decide (IntKind.wrap .i64 (2 * (↑(cntV (leastV nd sf rd hs hf) (fput g (0 + Int.toNat sf) 0 (AV.cells (AV.int .u64 rd))) (Int.toNat nd)) : Int)) ≤ nd) == false) none (cond (decide (IntKind.wrap .i64 (2 * (↑(cntV (leastV nd sf rd hs hf) (fput g (0 + Int.toNat sf) 0 (AV.cells (AV.int .u64 rd))) (Int.toNat nd)) : Int)) ≤ nd) == false) none (cond (decide (IntKind.wrap .i64 (2 * (↑(cntV (leastV nd sf rd hs hf) (fput g (0 + Int.toNat sf) 0 (AV.cells (AV.int .u64 rd))) (Int.toNat nd)) : Int)) ≤ nd) == false) none (cond (decide (IntKind.wrap .i64 (2 * (↑(cntV (leastV nd sf rd hs hf) (fput g (0 + Int.toNat sf) 0 (AV.cells (AV.int .u64 rd))) (Int.toNat nd)) : Int)) ≤ nd)) none none))))))
 none)
 none)
 none) none) none) none) none) none) none) none) none)
 none)
 none)
 none) := by kernel_rfl
theorem kT0_eq (nd : Int) (sf : Int) (wn : Nat) (wf : Nat → Nat → AV) (rd : Int) (hs : AV → Bool) (hf : AV → Nat → AV) (g : Nat → Nat → AV) (nl : Bool) (n : Nat) (f : Nat → Nat → AV) (i : Nat) : kT0 nd sf wn wf rd hs hf g nl n f i kT0_p = (cond (decide (0 ≤ sf))
 (cond (decide (sf < (↑7 : Int)))
 (cond (Nat.blt (0 + Int.toNat sf) 7)
 (cond (decide (1 ≤ nd))
 (cond (decide (nd ≤ 7))
 (cond (Nat.ble wn 1000)
 (cond (decide (IntKind.wrap .i64 (2 * (↑(cntV (leastV nd sf rd hs hf) (fput g (0 + Int.toNat sf) 0 (AV.cells (AV.int .u64 rd))) (Int.toNat nd)) : Int)) ≤ nd))
 none
 (cond (decide (leastV nd sf rd hs hf > rd))
 none
 (some (0, (uN nd sf wn wf rd hs hf (fput g (0 + Int.toNat sf) (0) [(.int .u64 rd)]) nl n f (↑i : Int))))))
 none)
 none)
 none)
 none)
 none)
 none) := by
 rw [kT0_is]
 try simp only [eq_self, decide_true, beq_self_eq_true, Nat.beq_refl, ble_self, Int.le_refl, Nat.le_refl]
 cases (decide (0 ≤ sf)) with
 | true =>
   cases (decide (sf < (↑7 : Int))) with
   | true =>
     cases (Nat.blt (0 + Int.toNat sf) 7) with
     | true =>
       cases (decide (1 ≤ nd)) with
       | true =>
         cases (decide (nd ≤ 7)) with
         | true =>
           cases (Nat.ble wn 1000) with
           | true =>
             cases (decide (IntKind.wrap .i64 (2 * (↑(cntV (leastV nd sf rd hs hf) (fput g (0 + Int.toNat sf) 0 (AV.cells (AV.int .u64 rd))) (Int.toNat nd)) : Int)) ≤ nd)) with
             | true =>
               rfl
             | false =>
               cases (decide (leastV nd sf rd hs hf > rd)) with
               | true =>
                 rfl
               | false =>
                 rfl
           | false =>
             rfl
         | false =>
           rfl
       | false =>
         rfl
     | false =>
       rfl
   | false =>
     rfl
 | false =>
   rfl
noncomputable def kT1 (nd : Int) (sf : Int) (rd : Int) (hs : AV → Bool) (hf : AV → Nat → AV) (g : Nat → Nat → AV) (nl : Bool) (n : Nat) (f : Nat → Nat → AV) (i : Nat) (π : Plan) : Option (Nat × CS) := stepC (G2) (1000) (pieceC G2 3 pT) (0) (h3) (xT) π (cT1 nd sf rd hs hf g nl n f i)
def kT1_p : Plan := (.reck 1 (.fork (.fork (.fork (.reck 4 (.must true (.must true (.must true (.reck 1 (.must true (.must true (.reck 4 (.must true (.reck 5 (.fork (.fork (.reck 5 (.fork (.must true (.reck 6 (.must true (.must true (.must true (.must true (.reck 1 (.must true (.must false (.fork .stop .stop)))))))))) (.must false (.must false (.must false (.must false (.must true .stop))))))) .stop) .stop))))))))))) .stop) .stop) .stop))
theorem kT1_is (nd : Int) (sf : Int) (rd : Int) (hs : AV → Bool) (hf : AV → Nat → AV) (g : Nat → Nat → AV) (nl : Bool) (n : Nat) (f : Nat → Nat → AV) (i : Nat) : kT1 nd sf rd hs hf g nl n f i kT1_p = (cond (decide (0 ≤ sf))
 (cond (decide (sf < (↑7 : Int)))
 (cond (Nat.blt (0 + Int.toNat sf) 7)
 (cond (decide (n = n)) (cond (decide ((↑n : Int) = (↑n : Int))) (cond (decide (nd = nd)) (cond (decide (nd = nd)) (cond (decide (sf = sf)) (cond (decide (n = n)) (cond (decide (1 ≤ nd))
 (cond (decide (nd ≤ 7))
 (cond (decide (IntKind.wrap .i64 (2 * (↑(cntV (leastV nd sf rd hs hf) (fput g (0 + Int.toNat sf) 0 (AV.cells (AV.int .u64 rd))) (Int.toNat nd)) : Int)) ≤ nd) == false)
 (cond (decide (IntKind.wrap .i64 (2 * (↑(cntV (leastV nd sf rd hs hf) (fput g (0 + Int.toNat sf) 0 (AV.cells (AV.int .u64 rd))) (Int.toNat nd)) : Int)) ≤ nd) == false) (cond (decide (1 ≤ nd)) (cond (decide (nd ≤ 7)) (cond (decide (IntKind.wrap .i64 (2 * (↑(cntV (leastV nd sf rd hs hf) (fput g (0 + Int.toNat sf) 0 (AV.cells (AV.int .u64 rd))) (Int.toNat nd)) : Int)) ≤ nd) == false) (cond (decide (IntKind.wrap .i64 (2 * (↑(cntV (leastV nd sf rd hs hf) (fput g (0 + Int.toNat sf) 0 (AV.cells (AV.int .u64 rd))) (Int.toNat nd)) : Int)) ≤ nd) == false) (cond (decide (IntKind.wrap .i64 (2 * (↑(cntV (leastV nd sf rd hs hf) (fput g (0 + Int.toNat sf) 0 (AV.cells (AV.int .u64 rd))) (Int.toNat nd)) : Int)) ≤ nd) == false) (cond (decide (IntKind.wrap .i64 (2 * (↑(cntV (leastV nd sf rd hs hf) (fput g (0 + Int.toNat sf) 0 (AV.cells (AV.int .u64 rd))) (Int.toNat nd)) : Int)) ≤ nd)) none (cond (decide (leastV nd sf rd hs hf > rd))
 none
 (some (0, (u0 nd sf rd hs hf (fput g (0 + Int.toNat sf) (0) [(.int .u64 rd)]) nl n f (↑i : Int)))))) none) none) none) none) none) none)
 (cond (decide (IntKind.wrap .i64 (2 * (↑(cntV (leastV nd sf rd hs hf) (fput g (0 + Int.toNat sf) 0 (AV.cells (AV.int .u64 rd))) (Int.toNat nd)) : Int)) ≤ nd) == false) none (cond (decide (IntKind.wrap .i64 (2 * (↑(cntV (leastV nd sf rd hs hf) (fput g (0 + Int.toNat sf) 0 (AV.cells (AV.int .u64 rd))) (Int.toNat nd)) : Int)) ≤ nd) == false) none (cond (decide (IntKind.wrap .i64 (2 * (↑(cntV (leastV nd sf rd hs hf) (fput g (0 + Int.toNat sf) 0 (AV.cells (AV.int .u64 rd))) (Int.toNat nd)) : Int)) ≤ nd) == false) none (cond (decide (IntKind.wrap .i64 (2 * (↑(cntV (leastV nd sf rd hs hf) (fput g (0 + Int.toNat sf) 0 (AV.cells (AV.int .u64 rd))) (Int.toNat nd)) : Int)) ≤ nd) == false) none (cond (decide (IntKind.wrap .i64 (2 * (↑(cntV (leastV nd sf rd hs hf) (fput g (0 + Int.toNat sf) 0 (AV.cells (AV.int .u64 rd))) (Int.toNat nd)) : Int)) ≤ nd)) none none))))))
 none)
 none) none) none) none) none) none) none)
 none)
 none)
 none) := by kernel_rfl
theorem kT1_eq (nd : Int) (sf : Int) (rd : Int) (hs : AV → Bool) (hf : AV → Nat → AV) (g : Nat → Nat → AV) (nl : Bool) (n : Nat) (f : Nat → Nat → AV) (i : Nat) : kT1 nd sf rd hs hf g nl n f i kT1_p = (cond (decide (0 ≤ sf))
 (cond (decide (sf < (↑7 : Int)))
 (cond (Nat.blt (0 + Int.toNat sf) 7)
 (cond (decide (1 ≤ nd))
 (cond (decide (nd ≤ 7))
 (cond (decide (IntKind.wrap .i64 (2 * (↑(cntV (leastV nd sf rd hs hf) (fput g (0 + Int.toNat sf) 0 (AV.cells (AV.int .u64 rd))) (Int.toNat nd)) : Int)) ≤ nd))
 none
 (cond (decide (leastV nd sf rd hs hf > rd))
 none
 (some (0, (u0 nd sf rd hs hf (fput g (0 + Int.toNat sf) (0) [(.int .u64 rd)]) nl n f (↑i : Int))))))
 none)
 none)
 none)
 none)
 none) := by
 rw [kT1_is]
 try simp only [eq_self, decide_true, beq_self_eq_true, Nat.beq_refl, ble_self, Int.le_refl, Nat.le_refl]
 cases (decide (0 ≤ sf)) with
 | true =>
   cases (decide (sf < (↑7 : Int))) with
   | true =>
     cases (Nat.blt (0 + Int.toNat sf) 7) with
     | true =>
       cases (decide (1 ≤ nd)) with
       | true =>
         cases (decide (nd ≤ 7)) with
         | true =>
           cases (decide (IntKind.wrap .i64 (2 * (↑(cntV (leastV nd sf rd hs hf) (fput g (0 + Int.toNat sf) 0 (AV.cells (AV.int .u64 rd))) (Int.toNat nd)) : Int)) ≤ nd)) with
           | true =>
             rfl
           | false =>
             cases (decide (leastV nd sf rd hs hf > rd)) with
             | true =>
               rfl
             | false =>
               rfl
         | false =>
           rfl
       | false =>
         rfl
     | false =>
       rfl
   | false =>
     rfl
 | false =>
   rfl
noncomputable def s30e (nd : Int) (sf : Int) (wn : Nat) (wf : Nat → Nat → AV) (rd : Int) (hs : AV → Bool) (hf : AV → Nat → AV) (g : Nat → Nat → AV) (nl : Bool) (n : Nat) (f : Nat → Nat → AV) (i : Nat) (π : Plan) : Option (Nat × CS) := stepC (G3) (600) (loopC G3 3 0) (0) (h3) ((.normal, h3) :: x3) π (c30 nd sf wn wf rd hs hf g nl n f i)
def s30e_p : Plan := (.must false .stop)
theorem s30e_is (nd : Int) (sf : Int) (wn : Nat) (wf : Nat → Nat → AV) (rd : Int) (hs : AV → Bool) (hf : AV → Nat → AV) (g : Nat → Nat → AV) (nl : Bool) (n : Nat) (f : Nat → Nat → AV) (i : Nat) : s30e nd sf wn wf rd hs hf g nl n f i s30e_p = (cond (decide ((↑i : Int) < (↑n : Int))) none (some (1, (CS.mk [] [])))) := by kernel_rfl
theorem s30e_eq (nd : Int) (sf : Int) (wn : Nat) (wf : Nat → Nat → AV) (rd : Int) (hs : AV → Bool) (hf : AV → Nat → AV) (g : Nat → Nat → AV) (nl : Bool) (n : Nat) (f : Nat → Nat → AV) (i : Nat) (hy0 : (decide ((↑i : Int) < (↑n : Int))) = false) : s30e nd sf wn wf rd hs hf g nl n f i s30e_p = (some (1, (CS.mk [] []))) := by
 rw [s30e_is]
 try simp only [hy0, eq_self, decide_true, beq_self_eq_true, Nat.beq_refl, ble_self, Int.le_refl, Nat.le_refl]
 rfl
noncomputable def s30k1 (nd : Int) (sf : Int) (wn : Nat) (wf : Nat → Nat → AV) (rd : Int) (hs : AV → Bool) (hf : AV → Nat → AV) (g : Nat → Nat → AV) (nl : Bool) (n : Nat) (f : Nat → Nat → AV) (i : Nat) (π : Plan) : Option (Nat × CS) := stepC (G3) (600) (loopC G3 3 0) (0) (h3) ((.normal, h3) :: x3) π (c30 nd sf wn wf rd hs hf g nl n f i)
def s30k1_p : Plan := (.must true (.reck 1 (.must true (.must true (.must true (.must true (.reck 1 (.must true (.reck 3 (.must true (.must true (.must true (.reck 1 (.fork (.reck 4 (.must true (.must true (.must true (.must true (.must true (.reck 3 (.must true (.reck 1 (.must true (.reck 3 (.must true (.must true (.fork (.reck 1 (.must true (.must true (.fork .stop .stop)))) .stop)))))))))))))) (.reck 4 (.must true (.must true (.must true (.must true (.must true (.reck 3 (.must true (.reck 1 (.must true (.reck 3 (.must true (.must true (.fork (.reck 1 (.must true (.must true (.fork .stop .stop)))) .stop))))))))))))))))))))))))))))
theorem s30k1_is (nd : Int) (sf : Int) (wn : Nat) (wf : Nat → Nat → AV) (rd : Int) (hs : AV → Bool) (hf : AV → Nat → AV) (g : Nat → Nat → AV) (nl : Bool) (n : Nat) (f : Nat → Nat → AV) (i : Nat) : s30k1 nd sf wn wf rd hs hf g nl n f i s30k1_p = (cond (decide ((↑i : Int) < (↑n : Int))) (cond (decide ((↑i : Int) < (↑n : Int))) (cond (Nat.blt (0 + Int.toNat (↑i : Int)) n) (cond (fo f i 0 == 1) (cond (decide (wn = wn)) (cond (decide (wn = wn)) (cond (decide (1 ≤ nd)) (cond (decide (nd ≤ 7)) (cond (Nat.ble wn 1000) (cond (Nat.ble 64 (List.length (outV (fun x => !qaV (fo f i 1) (fo f i 2) x) wf wn)))
 (cond (decide (n = n)) (cond (decide ((↑n : Int) = (↑n : Int))) (cond (decide (nd = nd)) (cond (decide (sf = sf)) (cond (decide (List.length (outV (fun x => !qaV (fo f i 1) (fo f i 2) x) wf wn) = List.length (outV (fun x => !qaV (fo f i 1) (fo f i 2) x) wf wn))) (cond (decide (n = n)) (cond (decide (List.length (outV (fun x => !qaV (fo f i 1) (fo f i 2) x) wf wn) = List.length (outV (fun x => !qaV (fo f i 1) (fo f i 2) x) wf wn))) (cond (decide (1 ≤ nd)) (cond (decide (nd ≤ 7)) (cond (Nat.ble (List.length (outV (fun x => !qaV (fo f i 1) (fo f i 2) x) wf wn)) 1000)
 (cond (decide (0 ≤ sf)) (cond (decide (sf < nd)) (cond ((okHV nd sf rd (leastV nd sf rd hs hf) g))
 (some (0, (uN nd sf (List.length (outV (fun x => !qaV (fo f i 1) (fo f i 2) x) wf wn)) (finW ((outV (fun x => !qaV (fo f i 1) (fo f i 2) x) wf (wn)))) rd hs hf (setV g (sf) (rd)) nl n f (IntKind.wrap .i64 ((↑i : Int) + 1)))))
 none) none) none)
 none) none) none) none) none) none) none) none) none) none)
 (cond (decide (n = n)) (cond (decide ((↑n : Int) = (↑n : Int))) (cond (decide (nd = nd)) (cond (decide (sf = sf)) (cond (decide (List.length (apdV (outV (fun x => !qaV (fo f i 1) (fo f i 2) x) wf wn) ⟨fo f i 1, fo f i 2, 0, fo f i 4, fo f i 5, IntKind.wrap .u64 (rd + 1)⟩) = List.length (apdV (outV (fun x => !qaV (fo f i 1) (fo f i 2) x) wf wn) ⟨fo f i 1, fo f i 2, 0, fo f i 4, fo f i 5, IntKind.wrap .u64 (rd + 1)⟩))) (cond (decide (n = n)) (cond (decide (List.length (apdV (outV (fun x => !qaV (fo f i 1) (fo f i 2) x) wf wn) ⟨fo f i 1, fo f i 2, 0, fo f i 4, fo f i 5, IntKind.wrap .u64 (rd + 1)⟩) = List.length (apdV (outV (fun x => !qaV (fo f i 1) (fo f i 2) x) wf wn) ⟨fo f i 1, fo f i 2, 0, fo f i 4, fo f i 5, IntKind.wrap .u64 (rd + 1)⟩))) (cond (decide (1 ≤ nd)) (cond (decide (nd ≤ 7)) (cond (Nat.ble (List.length (apdV (outV (fun x => !qaV (fo f i 1) (fo f i 2) x) wf wn) ⟨fo f i 1, fo f i 2, 0, fo f i 4, fo f i 5, IntKind.wrap .u64 (rd + 1)⟩)) 1000)
 (cond (decide (0 ≤ sf)) (cond (decide (sf < nd)) (cond ((okHV (nd) (sf) (IntKind.wrap .u64 (rd + 1)) (leastV nd sf (IntKind.wrap .u64 (rd + 1)) hs hf) g))
 (some (0, (uN nd sf (List.length (apdV (outV (fun x => !qaV (fo f i 1) (fo f i 2) x) wf wn) ⟨fo f i 1, fo f i 2, 0, fo f i 4, fo f i 5, IntKind.wrap .u64 (rd + 1)⟩)) (finW (apdV (outV (fun x => !qaV (fo f i 1) (fo f i 2) x) wf wn) ⟨fo f i 1, fo f i 2, 0, fo f i 4, fo f i 5, IntKind.wrap .u64 (rd + 1)⟩)) (IntKind.wrap .u64 (rd + 1)) hs hf (setV g (sf) (IntKind.wrap .u64 (rd + 1))) nl n f (IntKind.wrap .i64 ((↑i : Int) + 1)))))
 none) none) none)
 none) none) none) none) none) none) none) none) none) none)) none) none) none) none) none) none) none) none) none) := by kernel_rfl
theorem s30k1_eq (nd : Int) (sf : Int) (wn : Nat) (wf : Nat → Nat → AV) (rd : Int) (hs : AV → Bool) (hf : AV → Nat → AV) (g : Nat → Nat → AV) (nl : Bool) (n : Nat) (f : Nat → Nat → AV) (i : Nat) (hy0 : (decide ((↑i : Int) < (↑n : Int))) = true) (hy1 : (Nat.blt (0 + Int.toNat (↑i : Int)) n) = true) (hy2 : (decide (1 ≤ nd)) = true) (hy3 : (decide (nd ≤ 7)) = true) (hy4 : (decide (0 ≤ sf)) = true) (hy5 : (decide (sf < nd)) = true) (hy6 : (Nat.ble wn 1000) = true) (hy7 : (fo f i 0 == 1) = true) : s30k1 nd sf wn wf rd hs hf g nl n f i s30k1_p = (cond (Nat.ble 64 (List.length (outV (fun x => !qaV (fo f i 1) (fo f i 2) x) wf wn)))
 (cond (Nat.ble (List.length (outV (fun x => !qaV (fo f i 1) (fo f i 2) x) wf wn)) 1000)
 (cond (okHV nd sf rd (leastV nd sf rd hs hf) g)
 (some (0, (uN nd sf (List.length (outV (fun x => !qaV (fo f i 1) (fo f i 2) x) wf wn)) (finW ((outV (fun x => !qaV (fo f i 1) (fo f i 2) x) wf (wn)))) rd hs hf (setV g (sf) (rd)) nl n f (IntKind.wrap .i64 ((↑i : Int) + 1)))))
 none)
 none)
 (cond (Nat.ble (List.length (apdV (outV (fun x => !qaV (fo f i 1) (fo f i 2) x) wf wn) ⟨fo f i 1, fo f i 2, 0, fo f i 4, fo f i 5, IntKind.wrap .u64 (rd + 1)⟩)) 1000)
 (cond (okHV (nd) (sf) (IntKind.wrap .u64 (rd + 1)) (leastV nd sf (IntKind.wrap .u64 (rd + 1)) hs hf) g)
 (some (0, (uN nd sf (List.length (apdV (outV (fun x => !qaV (fo f i 1) (fo f i 2) x) wf wn) ⟨fo f i 1, fo f i 2, 0, fo f i 4, fo f i 5, IntKind.wrap .u64 (rd + 1)⟩)) (finW (apdV (outV (fun x => !qaV (fo f i 1) (fo f i 2) x) wf wn) ⟨fo f i 1, fo f i 2, 0, fo f i 4, fo f i 5, IntKind.wrap .u64 (rd + 1)⟩)) (IntKind.wrap .u64 (rd + 1)) hs hf (setV g (sf) (IntKind.wrap .u64 (rd + 1))) nl n f (IntKind.wrap .i64 ((↑i : Int) + 1)))))
 none)
 none)) := by
 rw [s30k1_is]
 try simp only [hy0, hy1, hy2, hy3, hy4, hy5, hy6, hy7, eq_self, decide_true, beq_self_eq_true, Nat.beq_refl, ble_self, Int.le_refl, Nat.le_refl]
 cases (Nat.ble 64 (List.length (outV (fun x => !qaV (fo f i 1) (fo f i 2) x) wf wn))) with
 | true =>
   cases (Nat.ble (List.length (outV (fun x => !qaV (fo f i 1) (fo f i 2) x) wf wn)) 1000) with
   | true =>
     cases (okHV nd sf rd (leastV nd sf rd hs hf) g) with
     | true =>
       rfl
     | false =>
       rfl
   | false =>
     rfl
 | false =>
   cases (Nat.ble (List.length (apdV (outV (fun x => !qaV (fo f i 1) (fo f i 2) x) wf wn) ⟨fo f i 1, fo f i 2, 0, fo f i 4, fo f i 5, IntKind.wrap .u64 (rd + 1)⟩)) 1000) with
   | true =>
     cases (okHV (nd) (sf) (IntKind.wrap .u64 (rd + 1)) (leastV nd sf (IntKind.wrap .u64 (rd + 1)) hs hf) g) with
     | true =>
       rfl
     | false =>
       rfl
   | false =>
     rfl
noncomputable def s30k2 (nd : Int) (sf : Int) (wn : Nat) (wf : Nat → Nat → AV) (rd : Int) (hs : AV → Bool) (hf : AV → Nat → AV) (g : Nat → Nat → AV) (nl : Bool) (n : Nat) (f : Nat → Nat → AV) (i : Nat) (π : Plan) : Option (Nat × CS) := stepC (G3) (600) (loopC G3 3 0) (0) (h3) ((.normal, h3) :: x3) π (c30 nd sf wn wf rd hs hf g nl n f i)
def s30k2_p : Plan := (.must true (.reck 1 (.must true (.must true (.must false (.must true (.reck 6 (.fork (.reck 3 (.must true (.must true (.must true (.must true (.must true (.reck 3 (.must true (.reck 1 (.must true (.reck 3 (.must true (.must true (.must true (.reck 1 (.must true (.must true (.fork .stop .stop)))))))))))))))))) (.reck 3 (.must true (.must true (.must true (.must true (.must true (.reck 3 (.must true (.reck 1 (.must true (.reck 3 (.must true (.must true (.must true (.reck 1 (.must true (.must true (.fork .stop .stop))))))))))))))))))))))))))
theorem s30k2_is (nd : Int) (sf : Int) (wn : Nat) (wf : Nat → Nat → AV) (rd : Int) (hs : AV → Bool) (hf : AV → Nat → AV) (g : Nat → Nat → AV) (nl : Bool) (n : Nat) (f : Nat → Nat → AV) (i : Nat) : s30k2 nd sf wn wf rd hs hf g nl n f i s30k2_p = (cond (decide ((↑i : Int) < (↑n : Int))) (cond (decide ((↑i : Int) < (↑n : Int))) (cond (Nat.blt (0 + Int.toNat (↑i : Int)) n) (cond (fo f i 0 == 1) none (cond (fo f i 0 == 2) (cond (nd == 0)
 (cond (decide (n = n)) (cond (decide ((↑n : Int) = (↑n : Int))) (cond (decide (nd = nd)) (cond (decide (sf = sf)) (cond (decide (wn = wn)) (cond (decide (n = n)) (cond (decide (wn = wn)) (cond (decide (1 ≤ nd)) (cond (decide (nd ≤ 7)) (cond (Nat.ble wn 1000) (cond (decide (0 ≤ sf)) (cond (decide (sf < nd)) (cond ((okHV nd sf rd (leastV nd sf rd hs hf) g))
 (some (0, (uN nd sf wn wf rd hs hf (setV g (sf) (rd)) nl n f (IntKind.wrap .i64 ((↑i : Int) + 1)))))
 none) none) none) none) none) none) none) none) none) none) none) none) none)
 (cond (decide (n = n)) (cond (decide ((↑n : Int) = (↑n : Int))) (cond (decide (nd = nd)) (cond (decide (sf = sf)) (cond (decide (wn = wn)) (cond (decide (n = n)) (cond (decide (wn = wn)) (cond (decide (1 ≤ nd)) (cond (decide (nd ≤ 7)) (cond (Nat.ble wn 1000) (cond (decide (0 ≤ sf)) (cond (decide (sf < nd)) (cond ((okHV (nd) (sf) (IntKind.wrap .u64 (rd + 1)) (leastV nd sf (IntKind.wrap .u64 (rd + 1)) hs hf) g))
 (some (0, (uN nd sf wn wf (IntKind.wrap .u64 (rd + 1)) hs hf (setV g (sf) (IntKind.wrap .u64 (rd + 1))) nl n f (IntKind.wrap .i64 ((↑i : Int) + 1)))))
 none) none) none) none) none) none) none) none) none) none) none) none) none)) none)) none) none) none) := by kernel_rfl
theorem s30k2_eq (nd : Int) (sf : Int) (wn : Nat) (wf : Nat → Nat → AV) (rd : Int) (hs : AV → Bool) (hf : AV → Nat → AV) (g : Nat → Nat → AV) (nl : Bool) (n : Nat) (f : Nat → Nat → AV) (i : Nat) (hy0 : (decide ((↑i : Int) < (↑n : Int))) = true) (hy1 : (Nat.blt (0 + Int.toNat (↑i : Int)) n) = true) (hy2 : (decide (1 ≤ nd)) = true) (hy3 : (decide (nd ≤ 7)) = true) (hy4 : (decide (0 ≤ sf)) = true) (hy5 : (decide (sf < nd)) = true) (hy6 : (Nat.ble wn 1000) = true) (hy7 : (fo f i 0 == 1) = false) (hy8 : (fo f i 0 == 2) = true) : s30k2 nd sf wn wf rd hs hf g nl n f i s30k2_p = (cond (nd == 0)
 (cond (okHV nd sf rd (leastV nd sf rd hs hf) g)
 (some (0, (uN nd sf wn wf rd hs hf (setV g (sf) (rd)) nl n f (IntKind.wrap .i64 ((↑i : Int) + 1)))))
 none)
 (cond (okHV (nd) (sf) (IntKind.wrap .u64 (rd + 1)) (leastV nd sf (IntKind.wrap .u64 (rd + 1)) hs hf) g)
 (some (0, (uN nd sf wn wf (IntKind.wrap .u64 (rd + 1)) hs hf (setV g (sf) (IntKind.wrap .u64 (rd + 1))) nl n f (IntKind.wrap .i64 ((↑i : Int) + 1)))))
 none)) := by
 rw [s30k2_is]
 try simp only [hy0, hy1, hy2, hy3, hy4, hy5, hy6, hy7, hy8, eq_self, decide_true, beq_self_eq_true, Nat.beq_refl, ble_self, Int.le_refl, Nat.le_refl]
 cases (nd == 0) with
 | true =>
   cases (okHV nd sf rd (leastV nd sf rd hs hf) g) with
   | true =>
     rfl
   | false =>
     rfl
 | false =>
   cases (okHV (nd) (sf) (IntKind.wrap .u64 (rd + 1)) (leastV nd sf (IntKind.wrap .u64 (rd + 1)) hs hf) g) with
   | true =>
     rfl
   | false =>
     rfl
noncomputable def s30k3 (nd : Int) (sf : Int) (wn : Nat) (wf : Nat → Nat → AV) (rd : Int) (hs : AV → Bool) (hf : AV → Nat → AV) (g : Nat → Nat → AV) (nl : Bool) (n : Nat) (f : Nat → Nat → AV) (i : Nat) (π : Plan) : Option (Nat × CS) := stepC (G3) (600) (loopC G3 3 0) (0) (h3) ((.normal, h3) :: x3) π (c30 nd sf wn wf rd hs hf g nl n f i)
def s30k3_p : Plan := (.must true (.reck 1 (.must true (.must true (.must false (.must false (.must true (.must true (.must true (.must true (.must true (.must true (.must true (.must true (.must true (.must true (.reck 1 (.must true (.must true (.must true (.must true (.must true (.must true (.must true (.must true (.must true (.must true (.must true (.must true (.must true (.must true (.must true (.must true (.must true (.must true (.must true (.must true (.reck 1 (.must true (.reck 3 (.must true (.must true (.must true (.reck 1 (.fork (.fork (.reck 5 (.must true (.must true (.reck 3 (.must true (.must true (.reck 4 (.must true (.reck 7 (.must true (.must true (.reck 4 (.fork (.reck 6 (.must true (.must true (.must true (.must true (.reck 4 (.must true (.reck 5 (.must true (.must true (.reck 2 (.must true (.must true (.fork .stop .stop)))))))))))))) .stop))))))))))))) (.reck 5 (.must true (.must true (.reck 3 (.must true (.must true (.must true (.reck 3 (.must true (.reck 3 (.must true (.reck 3 (.must true (.must true (.fork (.reck 3 (.fork (.reck 6 (.must true (.must true (.must true (.must true (.must true (.reck 3 (.must true (.reck 1 (.must true (.reck 3 (.must true (.must true (.must true (.reck 1 (.must true (.must true (.fork .stop .stop)))))))))))))))))) .stop)) .stop)))))))))))))))) (.fork (.reck 5 (.must true (.must true (.must true (.must true (.reck 1 (.must true (.must true (.reck 4 (.must true (.reck 1 (.must true (.reck 5 (.must true (.must true (.reck 2 (.fork (.reck 1 (.fork (.reck 6 (.must true (.must true (.must true (.must true (.reck 4 (.must true (.reck 5 (.must true (.must true (.reck 2 (.must true (.must true (.fork .stop .stop)))))))))))))) .stop)) .stop))))))))))))))))) (.reck 5 (.must true (.must true (.must true (.must true (.reck 1 (.must true (.must true (.must true (.reck 3 (.must true (.reck 1 (.must true (.reck 1 (.must true (.reck 3 (.must true (.must true (.fork (.reck 1 (.fork (.reck 1 (.fork (.reck 6 (.must true (.must true (.must true (.must true (.must true (.reck 3 (.must true (.reck 1 (.must true (.reck 3 (.must true (.must true (.must true (.reck 1 (.must true (.must true (.fork .stop .stop)))))))))))))))))) .stop)) .stop)) .stop)))))))))))))))))))))))))))))))))))))))))))))))))))))))))))))))))
theorem s30k3_is (nd : Int) (sf : Int) (wn : Nat) (wf : Nat → Nat → AV) (rd : Int) (hs : AV → Bool) (hf : AV → Nat → AV) (g : Nat → Nat → AV) (nl : Bool) (n : Nat) (f : Nat → Nat → AV) (i : Nat) (H : AV → Bool) (hH : heSV (heUV nd sf rd (fo f i 6) (fo f i 3)) (fo f i 6) hs = H) (K : AV → Nat → AV) (hK : heFV (heUV nd sf rd (fo f i 6) (fo f i 3)) (fo f i 6) (fo f i 3) hs hf = K) (G : Nat → Nat → AV) (hG : fput g (0 + Int.toNat (fo f i 6)) (0) [(.int .u64 (if fo f i 3 > AV.toI (g (0 + Int.toNat (fo f i 6)) 0) then fo f i 3 else AV.toI (g (0 + Int.toNat (fo f i 6)) 0)))] = G) (S : Int) (hS : leastV nd sf rd H K = S) (O : List Wt) (hO : outV (qbV S) wf wn = O) (R : List Wt) (hR : outV (fun x => !(qbV S x)) wf wn = R) : s30k3 nd sf wn wf rd hs hf g nl n f i s30k3_p = (cond (decide ((↑i : Int) < (↑n : Int))) (cond (decide ((↑i : Int) < (↑n : Int))) (cond (Nat.blt (0 + Int.toNat (↑i : Int)) n) (cond (fo f i 0 == 1) none (cond (fo f i 0 == 2) none (cond (fo f i 0 == 3) (cond (decide (fo f i 6 ≥ 0) == true) (cond (decide (fo f i 6 ≥ 0) == true) (cond (decide (fo f i 6 ≥ 0) == true) (cond (decide (fo f i 6 ≥ 0) == true) (cond (decide (fo f i 6 ≥ 0)) (cond (decide (fo f i 6 < nd) == true) (cond (decide (fo f i 6 < nd) == true) (cond (decide (fo f i 6 < nd) == true) (cond (decide (fo f i 6 < nd) == true) (cond (decide (fo f i 6 < nd) == true) (cond (decide (fo f i 6 < nd)) (cond (decide (fo f i 3 = fo f i 3)) (cond (decide (fo f i 3 = fo f i 3)) (cond (decide (fo f i 6 = fo f i 6)) (cond (decide (fo f i 6 = fo f i 6)) (cond (decide (fo f i 3 ≤ rd)) (cond (decide (0 ≤ fo f i 6)) (cond (decide (fo f i 6 < (↑7 : Int))) (cond (Nat.blt (0 + Int.toNat (fo f i 6)) 7) (cond (decide (0 ≤ fo f i 6)) (cond (decide (fo f i 6 < (↑7 : Int))) (cond (Nat.blt (0 + Int.toNat (fo f i 6)) 7) (cond (decide ((if fo f i 3 > AV.toI (g (0 + Int.toNat (fo f i 6)) 0) then fo f i 3 else AV.toI (g (0 + Int.toNat (fo f i 6)) 0)) = if fo f i 3 > AV.toI (g (0 + Int.toNat (fo f i 6)) 0) then fo f i 3 else AV.toI (g (0 + Int.toNat (fo f i 6)) 0))) (cond (decide (fo f i 3 = fo f i 3)) (cond (Nat.blt (0 + Int.toNat (fo f i 6)) 7) (cond (decide (AV.toI (g (0 + Int.toNat (fo f i 6)) 0) = AV.toI (g (0 + Int.toNat (fo f i 6)) 0))) (cond (decide (fo f i 6 = fo f i 6)) (cond (decide (fo f i 6 = fo f i 6)) (cond (decide (wn = wn)) (cond (decide (wn = wn)) (cond (decide (1 ≤ nd)) (cond (decide (nd ≤ 7)) (cond (Nat.ble wn 1000) (cond (Nat.beq O.length 0)
 (cond (Nat.beq R.length 0)
 (cond (decide (n = n)) (cond (decide ((↑n : Int) = (↑n : Int))) (cond (decide (nd = nd)) (cond (decide (sf = sf)) (cond (decide (n = n)) (cond (decide (1 ≤ nd)) (cond (decide (nd ≤ 7)) (cond ((okTV S bd 0))
 (cond (decide (n = n)) (cond (decide ((↑n : Int) = (↑n : Int))) (cond (decide (nd = nd)) (cond (decide (sf = sf)) (cond (decide (n = n)) (cond (decide (1 ≤ nd)) (cond (decide (nd ≤ 7)) (cond (decide (0 ≤ sf)) (cond (decide (sf < nd)) (cond ((okHV nd sf rd S G))
 (some (0, (u0 nd sf rd H K (setV G (sf) (rd)) nl n f (IntKind.wrap .i64 ((↑i : Int) + 1)))))
 none) none) none) none) none) none) none) none) none) none)
 none) none) none) none) none) none) none) none)
 (cond (decide (n = n)) (cond (decide ((↑n : Int) = (↑n : Int))) (cond (decide (nd = nd)) (cond (decide (sf = sf)) (cond (decide (R.length = R.length)) (cond (decide (n = n)) (cond (decide (R.length = R.length)) (cond (decide (1 ≤ nd)) (cond (decide (nd ≤ 7)) (cond (Nat.ble R.length 1000)
 (cond ((okTV S bd 0))
 (cond (decide (n = n)) (cond (decide ((↑n : Int) = (↑n : Int))) (cond (decide (nd = nd)) (cond (decide (sf = sf)) (cond (decide (R.length = R.length)) (cond (decide (n = n)) (cond (decide (R.length = R.length)) (cond (decide (1 ≤ nd)) (cond (decide (nd ≤ 7)) (cond (Nat.ble R.length 1000) (cond (decide (0 ≤ sf)) (cond (decide (sf < nd)) (cond ((okHV nd sf rd S G))
 (some (0, (uN nd sf R.length (finW (R)) rd H K (setV G (sf) (rd)) nl n f (IntKind.wrap .i64 ((↑i : Int) + 1)))))
 none) none) none) none) none) none) none) none) none) none) none) none) none)
 none)
 none) none) none) none) none) none) none) none) none) none))
 (cond (Nat.beq R.length 0)
 (cond (decide (n = n)) (cond (decide ((↑n : Int) = (↑n : Int))) (cond (decide (O.length = O.length)) (cond (decide ((↑O.length : Int) = (↑O.length : Int))) (cond (decide (nd = nd)) (cond (decide (sf = sf)) (cond (decide (n = n)) (cond (decide (O.length = O.length)) (cond (decide (1 ≤ nd)) (cond (decide (nd ≤ 7)) (cond (Nat.ble O.length 1000)
 (cond ((okTV S (finW (O)) O.length))
 (cond (decide (n = n)) (cond (decide ((↑n : Int) = (↑n : Int))) (cond (decide (nd = nd)) (cond (decide (sf = sf)) (cond (decide (n = n)) (cond (decide (1 ≤ nd)) (cond (decide (nd ≤ 7)) (cond (decide (0 ≤ sf)) (cond (decide (sf < nd)) (cond ((okHV nd sf rd S G))
 (some (0, (u0 nd sf rd H K (setV G (sf) (rd)) nl n f (IntKind.wrap .i64 ((↑i : Int) + 1)))))
 none) none) none) none) none) none) none) none) none) none)
 none)
 none) none) none) none) none) none) none) none) none) none) none)
 (cond (decide (n = n)) (cond (decide ((↑n : Int) = (↑n : Int))) (cond (decide (O.length = O.length)) (cond (decide ((↑O.length : Int) = (↑O.length : Int))) (cond (decide (nd = nd)) (cond (decide (sf = sf)) (cond (decide (R.length = R.length)) (cond (decide (n = n)) (cond (decide (O.length = O.length)) (cond (decide (R.length = R.length)) (cond (decide (1 ≤ nd)) (cond (decide (nd ≤ 7)) (cond (Nat.ble R.length 1000)
 (cond (Nat.ble O.length 1000)
 (cond ((okTV S (finW (O)) O.length))
 (cond (decide (n = n)) (cond (decide ((↑n : Int) = (↑n : Int))) (cond (decide (nd = nd)) (cond (decide (sf = sf)) (cond (decide (R.length = R.length)) (cond (decide (n = n)) (cond (decide (R.length = R.length)) (cond (decide (1 ≤ nd)) (cond (decide (nd ≤ 7)) (cond (Nat.ble R.length 1000) (cond (decide (0 ≤ sf)) (cond (decide (sf < nd)) (cond ((okHV nd sf rd S G))
 (some (0, (uN nd sf R.length (finW (R)) rd H K (setV G (sf) (rd)) nl n f (IntKind.wrap .i64 ((↑i : Int) + 1)))))
 none) none) none) none) none) none) none) none) none) none) none) none) none)
 none)
 none)
 none) none) none) none) none) none) none) none) none) none) none) none) none))) none) none) none) none) none) none) none) none) none) none) none) none) none) none) none) none) none) none) none) none) none) none) none) none) none) none) none) none) none) none) none) none) none) none))) none) none) none) := by
 subst hG hK hH hS hO hR
 kernel_rfl
theorem s30k3_eq (nd : Int) (sf : Int) (wn : Nat) (wf : Nat → Nat → AV) (rd : Int) (hs : AV → Bool) (hf : AV → Nat → AV) (g : Nat → Nat → AV) (nl : Bool) (n : Nat) (f : Nat → Nat → AV) (i : Nat) (hy0 : (decide ((↑i : Int) < (↑n : Int))) = true) (hy1 : (Nat.blt (0 + Int.toNat (↑i : Int)) n) = true) (hy2 : (decide (1 ≤ nd)) = true) (hy3 : (decide (nd ≤ 7)) = true) (hy4 : (decide (0 ≤ sf)) = true) (hy5 : (decide (sf < nd)) = true) (hy6 : (Nat.ble wn 1000) = true) (hy7 : (fo f i 0 == 1) = false) (hy8 : (fo f i 0 == 2) = false) (hy9 : (fo f i 0 == 3) = true) (hy10 : (decide (fo f i 6 ≥ 0)) = true) (hy11 : (decide (fo f i 6 < nd)) = true) (hy12 : (decide (fo f i 3 ≤ rd)) = true) (hy13 : (decide (0 ≤ fo f i 6)) = true) (hy14 : (decide (fo f i 6 < (↑7 : Int))) = true) (hy15 : (Nat.blt (0 + Int.toNat (fo f i 6)) 7) = true) (H : AV → Bool) (hH : heSV (heUV nd sf rd (fo f i 6) (fo f i 3)) (fo f i 6) hs = H) (K : AV → Nat → AV) (hK : heFV (heUV nd sf rd (fo f i 6) (fo f i 3)) (fo f i 6) (fo f i 3) hs hf = K) (G : Nat → Nat → AV) (hG : fput g (0 + Int.toNat (fo f i 6)) (0) [(.int .u64 (if fo f i 3 > AV.toI (g (0 + Int.toNat (fo f i 6)) 0) then fo f i 3 else AV.toI (g (0 + Int.toNat (fo f i 6)) 0)))] = G) (S : Int) (hS : leastV nd sf rd H K = S) (O : List Wt) (hO : outV (qbV S) wf wn = O) (R : List Wt) (hR : outV (fun x => !(qbV S x)) wf wn = R) : s30k3 nd sf wn wf rd hs hf g nl n f i s30k3_p = (cond (Nat.beq O.length 0)
 (cond (Nat.beq R.length 0)
 (cond (okTV S bd 0)
 (cond (okHV nd sf rd S G)
 (some (0, (u0 nd sf rd H K (setV G (sf) (rd)) nl n f (IntKind.wrap .i64 ((↑i : Int) + 1)))))
 none)
 none)
 (cond (Nat.ble R.length 1000)
 (cond (okTV S bd 0)
 (cond (okHV nd sf rd S G)
 (some (0, (uN nd sf R.length (finW (R)) rd H K (setV G (sf) (rd)) nl n f (IntKind.wrap .i64 ((↑i : Int) + 1)))))
 none)
 none)
 none))
 (cond (Nat.beq R.length 0)
 (cond (Nat.ble O.length 1000)
 (cond (okTV S (finW (O)) O.length)
 (cond (okHV nd sf rd S G)
 (some (0, (u0 nd sf rd H K (setV G (sf) (rd)) nl n f (IntKind.wrap .i64 ((↑i : Int) + 1)))))
 none)
 none)
 none)
 (cond (Nat.ble R.length 1000)
 (cond (Nat.ble O.length 1000)
 (cond (okTV S (finW (O)) O.length)
 (cond (okHV nd sf rd S G)
 (some (0, (uN nd sf R.length (finW (R)) rd H K (setV G (sf) (rd)) nl n f (IntKind.wrap .i64 ((↑i : Int) + 1)))))
 none)
 none)
 none)
 none))) := by
 rw [s30k3_is nd sf wn wf rd hs hf g nl n f i H hH K hK G hG S hS O hO R hR]
 try simp only [hy0, hy1, hy2, hy3, hy4, hy5, hy6, hy7, hy8, hy9, hy10, hy11, hy12, hy13, hy14, hy15, eq_self, decide_true, beq_self_eq_true, Nat.beq_refl, ble_self, Int.le_refl, Nat.le_refl]
 cases (Nat.beq O.length 0) with
 | true =>
   cases (Nat.beq R.length 0) with
   | true =>
     cases (okTV S bd 0) with
     | true =>
       cases (okHV nd sf rd S G) with
       | true =>
         rfl
       | false =>
         rfl
     | false =>
       rfl
   | false =>
     cases (Nat.ble R.length 1000) with
     | true =>
       cases (okTV S bd 0) with
       | true =>
         cases (okHV nd sf rd S G) with
         | true =>
           rfl
         | false =>
           rfl
       | false =>
         rfl
     | false =>
       rfl
 | false =>
   cases (Nat.beq R.length 0) with
   | true =>
     cases (Nat.ble O.length 1000) with
     | true =>
       cases (okTV S (finW (O)) O.length) with
       | true =>
         cases (okHV nd sf rd S G) with
         | true =>
           rfl
         | false =>
           rfl
       | false =>
         rfl
     | false =>
       rfl
   | false =>
     cases (Nat.ble R.length 1000) with
     | true =>
       cases (Nat.ble O.length 1000) with
       | true =>
         cases (okTV S (finW (O)) O.length) with
         | true =>
           cases (okHV nd sf rd S G) with
           | true =>
             rfl
           | false =>
             rfl
         | false =>
           rfl
       | false =>
         rfl
     | false =>
       rfl
noncomputable def s30k5 (nd : Int) (sf : Int) (wn : Nat) (wf : Nat → Nat → AV) (rd : Int) (hs : AV → Bool) (hf : AV → Nat → AV) (g : Nat → Nat → AV) (nl : Bool) (n : Nat) (f : Nat → Nat → AV) (i : Nat) (π : Plan) : Option (Nat × CS) := stepC (G3) (600) (loopC G3 3 0) (0) (h3) ((.normal, h3) :: x3) π (c30 nd sf wn wf rd hs hf g nl n f i)
def s30k5_p : Plan := (.must true (.reck 1 (.must true (.must true (.must false (.must false (.must true (.must false (.must false (.must false (.must false (.must false (.reck 6 (.must true (.reck 1 (.must true (.reck 1 (.must true (.reck 3 (.must true (.must true (.must true (.reck 1 (.fork (.fork (.reck 5 (.must true (.must true (.reck 3 (.must true (.must true (.reck 4 (.must true (.reck 7 (.must true (.must true (.reck 4 (.fork (.reck 6 (.must true (.must true (.must true (.must true (.reck 4 (.must true (.reck 5 (.must true (.must true (.reck 2 (.must true (.must true (.fork .stop .stop)))))))))))))) .stop))))))))))))) (.reck 5 (.must true (.must true (.reck 3 (.must true (.must true (.must true (.reck 3 (.must true (.reck 3 (.must true (.reck 3 (.must true (.must true (.fork (.reck 3 (.fork (.reck 6 (.must true (.must true (.must true (.must true (.must true (.reck 3 (.must true (.reck 1 (.must true (.reck 3 (.must true (.must true (.must true (.reck 1 (.must true (.must true (.fork .stop .stop)))))))))))))))))) .stop)) .stop)))))))))))))))) (.fork (.reck 5 (.must true (.must true (.must true (.must true (.reck 1 (.must true (.must true (.reck 4 (.must true (.reck 1 (.must true (.reck 5 (.must true (.must true (.reck 2 (.fork (.reck 1 (.fork (.reck 6 (.must true (.must true (.must true (.must true (.reck 4 (.must true (.reck 5 (.must true (.must true (.reck 2 (.must true (.must true (.fork .stop .stop)))))))))))))) .stop)) .stop))))))))))))))))) (.reck 5 (.must true (.must true (.must true (.must true (.reck 1 (.must true (.must true (.must true (.reck 3 (.must true (.reck 1 (.must true (.reck 1 (.must true (.reck 3 (.must true (.must true (.fork (.reck 1 (.fork (.reck 1 (.fork (.reck 6 (.must true (.must true (.must true (.must true (.must true (.reck 3 (.must true (.reck 1 (.must true (.reck 3 (.must true (.must true (.must true (.reck 1 (.must true (.must true (.fork .stop .stop)))))))))))))))))) .stop)) .stop)) .stop))))))))))))))))))))))))))))))))))))))))))))
theorem s30k5_is (nd : Int) (sf : Int) (wn : Nat) (wf : Nat → Nat → AV) (rd : Int) (hs : AV → Bool) (hf : AV → Nat → AV) (g : Nat → Nat → AV) (nl : Bool) (n : Nat) (f : Nat → Nat → AV) (i : Nat) (H : AV → Bool) (hH : heSV (heUV nd sf rd (fo f i 6) (fo f i 3)) (fo f i 6) hs = H) (K : AV → Nat → AV) (hK : heFV (heUV nd sf rd (fo f i 6) (fo f i 3)) (fo f i 6) (fo f i 3) hs hf = K) (S : Int) (hS : leastV nd sf rd H K = S) (O : List Wt) (hO : outV (qbV S) wf wn = O) (R : List Wt) (hR : outV (fun x => !(qbV S x)) wf wn = R) : s30k5 nd sf wn wf rd hs hf g nl n f i s30k5_p = (cond (decide ((↑i : Int) < (↑n : Int))) (cond (decide ((↑i : Int) < (↑n : Int))) (cond (Nat.blt (0 + Int.toNat (↑i : Int)) n) (cond (fo f i 0 == 1) none (cond (fo f i 0 == 2) none (cond (fo f i 0 == 3) (cond (decide (fo f i 6 ≥ 0) == true) none (cond (decide (fo f i 6 ≥ 0) == true) none (cond (decide (fo f i 6 ≥ 0) == true) none (cond (decide (fo f i 6 ≥ 0) == true) none (cond (decide (fo f i 6 ≥ 0)) none (cond (decide (fo f i 6 = fo f i 6)) (cond (decide (wn = wn)) (cond (decide (wn = wn)) (cond (decide (1 ≤ nd)) (cond (decide (nd ≤ 7)) (cond (Nat.ble wn 1000) (cond (Nat.beq O.length 0)
 (cond (Nat.beq R.length 0)
 (cond (decide (n = n)) (cond (decide ((↑n : Int) = (↑n : Int))) (cond (decide (nd = nd)) (cond (decide (sf = sf)) (cond (decide (n = n)) (cond (decide (1 ≤ nd)) (cond (decide (nd ≤ 7)) (cond ((okTV S bd 0))
 (cond (decide (n = n)) (cond (decide ((↑n : Int) = (↑n : Int))) (cond (decide (nd = nd)) (cond (decide (sf = sf)) (cond (decide (n = n)) (cond (decide (1 ≤ nd)) (cond (decide (nd ≤ 7)) (cond (decide (0 ≤ sf)) (cond (decide (sf < nd)) (cond ((okHV nd sf rd S g))
 (some (0, (u0 nd sf rd H K (setV g (sf) (rd)) nl n f (IntKind.wrap .i64 ((↑i : Int) + 1)))))
 none) none) none) none) none) none) none) none) none) none)
 none) none) none) none) none) none) none) none)
 (cond (decide (n = n)) (cond (decide ((↑n : Int) = (↑n : Int))) (cond (decide (nd = nd)) (cond (decide (sf = sf)) (cond (decide (R.length = R.length)) (cond (decide (n = n)) (cond (decide (R.length = R.length)) (cond (decide (1 ≤ nd)) (cond (decide (nd ≤ 7)) (cond (Nat.ble R.length 1000)
 (cond ((okTV S bd 0))
 (cond (decide (n = n)) (cond (decide ((↑n : Int) = (↑n : Int))) (cond (decide (nd = nd)) (cond (decide (sf = sf)) (cond (decide (R.length = R.length)) (cond (decide (n = n)) (cond (decide (R.length = R.length)) (cond (decide (1 ≤ nd)) (cond (decide (nd ≤ 7)) (cond (Nat.ble R.length 1000) (cond (decide (0 ≤ sf)) (cond (decide (sf < nd)) (cond ((okHV nd sf rd S g))
 (some (0, (uN nd sf R.length (finW (R)) rd H K (setV g (sf) (rd)) nl n f (IntKind.wrap .i64 ((↑i : Int) + 1)))))
 none) none) none) none) none) none) none) none) none) none) none) none) none)
 none)
 none) none) none) none) none) none) none) none) none) none))
 (cond (Nat.beq R.length 0)
 (cond (decide (n = n)) (cond (decide ((↑n : Int) = (↑n : Int))) (cond (decide (O.length = O.length)) (cond (decide ((↑O.length : Int) = (↑O.length : Int))) (cond (decide (nd = nd)) (cond (decide (sf = sf)) (cond (decide (n = n)) (cond (decide (O.length = O.length)) (cond (decide (1 ≤ nd)) (cond (decide (nd ≤ 7)) (cond (Nat.ble O.length 1000)
 (cond ((okTV S (finW (O)) O.length))
 (cond (decide (n = n)) (cond (decide ((↑n : Int) = (↑n : Int))) (cond (decide (nd = nd)) (cond (decide (sf = sf)) (cond (decide (n = n)) (cond (decide (1 ≤ nd)) (cond (decide (nd ≤ 7)) (cond (decide (0 ≤ sf)) (cond (decide (sf < nd)) (cond ((okHV nd sf rd S g))
 (some (0, (u0 nd sf rd H K (setV g (sf) (rd)) nl n f (IntKind.wrap .i64 ((↑i : Int) + 1)))))
 none) none) none) none) none) none) none) none) none) none)
 none)
 none) none) none) none) none) none) none) none) none) none) none)
 (cond (decide (n = n)) (cond (decide ((↑n : Int) = (↑n : Int))) (cond (decide (O.length = O.length)) (cond (decide ((↑O.length : Int) = (↑O.length : Int))) (cond (decide (nd = nd)) (cond (decide (sf = sf)) (cond (decide (R.length = R.length)) (cond (decide (n = n)) (cond (decide (O.length = O.length)) (cond (decide (R.length = R.length)) (cond (decide (1 ≤ nd)) (cond (decide (nd ≤ 7)) (cond (Nat.ble R.length 1000)
 (cond (Nat.ble O.length 1000)
 (cond ((okTV S (finW (O)) O.length))
 (cond (decide (n = n)) (cond (decide ((↑n : Int) = (↑n : Int))) (cond (decide (nd = nd)) (cond (decide (sf = sf)) (cond (decide (R.length = R.length)) (cond (decide (n = n)) (cond (decide (R.length = R.length)) (cond (decide (1 ≤ nd)) (cond (decide (nd ≤ 7)) (cond (Nat.ble R.length 1000) (cond (decide (0 ≤ sf)) (cond (decide (sf < nd)) (cond ((okHV nd sf rd S g))
 (some (0, (uN nd sf R.length (finW (R)) rd H K (setV g (sf) (rd)) nl n f (IntKind.wrap .i64 ((↑i : Int) + 1)))))
 none) none) none) none) none) none) none) none) none) none) none) none) none)
 none)
 none)
 none) none) none) none) none) none) none) none) none) none) none) none) none))) none) none) none) none) none) none)))))) none))) none) none) none) := by
 subst hK hH hS hO hR
 kernel_rfl
theorem s30k5_eq (nd : Int) (sf : Int) (wn : Nat) (wf : Nat → Nat → AV) (rd : Int) (hs : AV → Bool) (hf : AV → Nat → AV) (g : Nat → Nat → AV) (nl : Bool) (n : Nat) (f : Nat → Nat → AV) (i : Nat) (hy0 : (decide ((↑i : Int) < (↑n : Int))) = true) (hy1 : (Nat.blt (0 + Int.toNat (↑i : Int)) n) = true) (hy2 : (decide (1 ≤ nd)) = true) (hy3 : (decide (nd ≤ 7)) = true) (hy4 : (decide (0 ≤ sf)) = true) (hy5 : (decide (sf < nd)) = true) (hy6 : (Nat.ble wn 1000) = true) (hy7 : (fo f i 0 == 1) = false) (hy8 : (fo f i 0 == 2) = false) (hy9 : (fo f i 0 == 3) = true) (hy10 : (decide (fo f i 6 ≥ 0)) = false) (H : AV → Bool) (hH : heSV (heUV nd sf rd (fo f i 6) (fo f i 3)) (fo f i 6) hs = H) (K : AV → Nat → AV) (hK : heFV (heUV nd sf rd (fo f i 6) (fo f i 3)) (fo f i 6) (fo f i 3) hs hf = K) (S : Int) (hS : leastV nd sf rd H K = S) (O : List Wt) (hO : outV (qbV S) wf wn = O) (R : List Wt) (hR : outV (fun x => !(qbV S x)) wf wn = R) : s30k5 nd sf wn wf rd hs hf g nl n f i s30k5_p = (cond (Nat.beq O.length 0)
 (cond (Nat.beq R.length 0)
 (cond (okTV S bd 0)
 (cond (okHV nd sf rd S g)
 (some (0, (u0 nd sf rd H K (setV g (sf) (rd)) nl n f (IntKind.wrap .i64 ((↑i : Int) + 1)))))
 none)
 none)
 (cond (Nat.ble R.length 1000)
 (cond (okTV S bd 0)
 (cond (okHV nd sf rd S g)
 (some (0, (uN nd sf R.length (finW (R)) rd H K (setV g (sf) (rd)) nl n f (IntKind.wrap .i64 ((↑i : Int) + 1)))))
 none)
 none)
 none))
 (cond (Nat.beq R.length 0)
 (cond (Nat.ble O.length 1000)
 (cond (okTV S (finW (O)) O.length)
 (cond (okHV nd sf rd S g)
 (some (0, (u0 nd sf rd H K (setV g (sf) (rd)) nl n f (IntKind.wrap .i64 ((↑i : Int) + 1)))))
 none)
 none)
 none)
 (cond (Nat.ble R.length 1000)
 (cond (Nat.ble O.length 1000)
 (cond (okTV S (finW (O)) O.length)
 (cond (okHV nd sf rd S g)
 (some (0, (uN nd sf R.length (finW (R)) rd H K (setV g (sf) (rd)) nl n f (IntKind.wrap .i64 ((↑i : Int) + 1)))))
 none)
 none)
 none)
 none))) := by
 rw [s30k5_is nd sf wn wf rd hs hf g nl n f i H hH K hK S hS O hO R hR]
 try simp only [hy0, hy1, hy2, hy3, hy4, hy5, hy6, hy7, hy8, hy9, hy10, eq_self, decide_true, beq_self_eq_true, Nat.beq_refl, ble_self, Int.le_refl, Nat.le_refl]
 cases (Nat.beq O.length 0) with
 | true =>
   cases (Nat.beq R.length 0) with
   | true =>
     cases (okTV S bd 0) with
     | true =>
       cases (okHV nd sf rd S g) with
       | true =>
         rfl
       | false =>
         rfl
     | false =>
       rfl
   | false =>
     cases (Nat.ble R.length 1000) with
     | true =>
       cases (okTV S bd 0) with
       | true =>
         cases (okHV nd sf rd S g) with
         | true =>
           rfl
         | false =>
           rfl
       | false =>
         rfl
     | false =>
       rfl
 | false =>
   cases (Nat.beq R.length 0) with
   | true =>
     cases (Nat.ble O.length 1000) with
     | true =>
       cases (okTV S (finW (O)) O.length) with
       | true =>
         cases (okHV nd sf rd S g) with
         | true =>
           rfl
         | false =>
           rfl
       | false =>
         rfl
     | false =>
       rfl
   | false =>
     cases (Nat.ble R.length 1000) with
     | true =>
       cases (Nat.ble O.length 1000) with
       | true =>
         cases (okTV S (finW (O)) O.length) with
         | true =>
           cases (okHV nd sf rd S g) with
           | true =>
             rfl
           | false =>
             rfl
         | false =>
           rfl
       | false =>
         rfl
     | false =>
       rfl
noncomputable def s30k6 (nd : Int) (sf : Int) (wn : Nat) (wf : Nat → Nat → AV) (rd : Int) (hs : AV → Bool) (hf : AV → Nat → AV) (g : Nat → Nat → AV) (nl : Bool) (n : Nat) (f : Nat → Nat → AV) (i : Nat) (π : Plan) : Option (Nat × CS) := stepC (G3) (600) (loopC G3 3 0) (0) (h3) ((.normal, h3) :: x3) π (c30 nd sf wn wf rd hs hf g nl n f i)
def s30k6_p : Plan := (.must true (.reck 1 (.must true (.must true (.must false (.must false (.must true (.must true (.must true (.must true (.must true (.must true (.must false (.must false (.must false (.must false (.must false (.must false (.must true (.must true (.reck 1 (.must true (.reck 1 (.must true (.reck 3 (.must true (.must true (.must true (.reck 1 (.fork (.fork (.reck 5 (.must true (.must true (.reck 3 (.must true (.must true (.reck 4 (.must true (.reck 7 (.must true (.must true (.reck 4 (.fork (.reck 6 (.must true (.must true (.must true (.must true (.reck 4 (.must true (.reck 5 (.must true (.must true (.reck 2 (.must true (.must true (.fork .stop .stop)))))))))))))) .stop))))))))))))) (.reck 5 (.must true (.must true (.reck 3 (.must true (.must true (.must true (.reck 3 (.must true (.reck 3 (.must true (.reck 3 (.must true (.must true (.fork (.reck 3 (.fork (.reck 6 (.must true (.must true (.must true (.must true (.must true (.reck 3 (.must true (.reck 1 (.must true (.reck 3 (.must true (.must true (.must true (.reck 1 (.must true (.must true (.fork .stop .stop)))))))))))))))))) .stop)) .stop)))))))))))))))) (.fork (.reck 5 (.must true (.must true (.must true (.must true (.reck 1 (.must true (.must true (.reck 4 (.must true (.reck 1 (.must true (.reck 5 (.must true (.must true (.reck 2 (.fork (.reck 1 (.fork (.reck 6 (.must true (.must true (.must true (.must true (.reck 4 (.must true (.reck 5 (.must true (.must true (.reck 2 (.must true (.must true (.fork .stop .stop)))))))))))))) .stop)) .stop))))))))))))))))) (.reck 5 (.must true (.must true (.must true (.must true (.reck 1 (.must true (.must true (.must true (.reck 3 (.must true (.reck 1 (.must true (.reck 1 (.must true (.reck 3 (.must true (.must true (.fork (.reck 1 (.fork (.reck 1 (.fork (.reck 6 (.must true (.must true (.must true (.must true (.must true (.reck 3 (.must true (.reck 1 (.must true (.reck 3 (.must true (.must true (.must true (.reck 1 (.must true (.must true (.fork .stop .stop)))))))))))))))))) .stop)) .stop)) .stop))))))))))))))))))))))))))))))))))))))))))))))))))
theorem s30k6_is (nd : Int) (sf : Int) (wn : Nat) (wf : Nat → Nat → AV) (rd : Int) (hs : AV → Bool) (hf : AV → Nat → AV) (g : Nat → Nat → AV) (nl : Bool) (n : Nat) (f : Nat → Nat → AV) (i : Nat) (H : AV → Bool) (hH : heSV (heUV nd sf rd (fo f i 6) (fo f i 3)) (fo f i 6) hs = H) (K : AV → Nat → AV) (hK : heFV (heUV nd sf rd (fo f i 6) (fo f i 3)) (fo f i 6) (fo f i 3) hs hf = K) (S : Int) (hS : leastV nd sf rd H K = S) (O : List Wt) (hO : outV (qbV S) wf wn = O) (R : List Wt) (hR : outV (fun x => !(qbV S x)) wf wn = R) : s30k6 nd sf wn wf rd hs hf g nl n f i s30k6_p = (cond (decide ((↑i : Int) < (↑n : Int))) (cond (decide ((↑i : Int) < (↑n : Int))) (cond (Nat.blt (0 + Int.toNat (↑i : Int)) n) (cond (fo f i 0 == 1) none (cond (fo f i 0 == 2) none (cond (fo f i 0 == 3) (cond (decide (fo f i 6 ≥ 0) == true) (cond (decide (fo f i 6 ≥ 0) == true) (cond (decide (fo f i 6 ≥ 0) == true) (cond (decide (fo f i 6 ≥ 0) == true) (cond (decide (fo f i 6 ≥ 0)) (cond (decide (fo f i 6 < nd) == true) none (cond (decide (fo f i 6 < nd) == true) none (cond (decide (fo f i 6 < nd) == true) none (cond (decide (fo f i 6 < nd) == true) none (cond (decide (fo f i 6 < nd) == true) none (cond (decide (fo f i 6 < nd)) none (cond (decide (fo f i 6 = fo f i 6)) (cond (decide (fo f i 6 = fo f i 6)) (cond (decide (wn = wn)) (cond (decide (wn = wn)) (cond (decide (1 ≤ nd)) (cond (decide (nd ≤ 7)) (cond (Nat.ble wn 1000) (cond (Nat.beq O.length 0)
 (cond (Nat.beq R.length 0)
 (cond (decide (n = n)) (cond (decide ((↑n : Int) = (↑n : Int))) (cond (decide (nd = nd)) (cond (decide (sf = sf)) (cond (decide (n = n)) (cond (decide (1 ≤ nd)) (cond (decide (nd ≤ 7)) (cond ((okTV S bd 0))
 (cond (decide (n = n)) (cond (decide ((↑n : Int) = (↑n : Int))) (cond (decide (nd = nd)) (cond (decide (sf = sf)) (cond (decide (n = n)) (cond (decide (1 ≤ nd)) (cond (decide (nd ≤ 7)) (cond (decide (0 ≤ sf)) (cond (decide (sf < nd)) (cond ((okHV nd sf rd S g))
 (some (0, (u0 nd sf rd H K (setV g (sf) (rd)) nl n f (IntKind.wrap .i64 ((↑i : Int) + 1)))))
 none) none) none) none) none) none) none) none) none) none)
 none) none) none) none) none) none) none) none)
 (cond (decide (n = n)) (cond (decide ((↑n : Int) = (↑n : Int))) (cond (decide (nd = nd)) (cond (decide (sf = sf)) (cond (decide (R.length = R.length)) (cond (decide (n = n)) (cond (decide (R.length = R.length)) (cond (decide (1 ≤ nd)) (cond (decide (nd ≤ 7)) (cond (Nat.ble R.length 1000)
 (cond ((okTV S bd 0))
 (cond (decide (n = n)) (cond (decide ((↑n : Int) = (↑n : Int))) (cond (decide (nd = nd)) (cond (decide (sf = sf)) (cond (decide (R.length = R.length)) (cond (decide (n = n)) (cond (decide (R.length = R.length)) (cond (decide (1 ≤ nd)) (cond (decide (nd ≤ 7)) (cond (Nat.ble R.length 1000) (cond (decide (0 ≤ sf)) (cond (decide (sf < nd)) (cond ((okHV nd sf rd S g))
 (some (0, (uN nd sf R.length (finW (R)) rd H K (setV g (sf) (rd)) nl n f (IntKind.wrap .i64 ((↑i : Int) + 1)))))
 none) none) none) none) none) none) none) none) none) none) none) none) none)
 none)
 none) none) none) none) none) none) none) none) none) none))
 (cond (Nat.beq R.length 0)
 (cond (decide (n = n)) (cond (decide ((↑n : Int) = (↑n : Int))) (cond (decide (O.length = O.length)) (cond (decide ((↑O.length : Int) = (↑O.length : Int))) (cond (decide (nd = nd)) (cond (decide (sf = sf)) (cond (decide (n = n)) (cond (decide (O.length = O.length)) (cond (decide (1 ≤ nd)) (cond (decide (nd ≤ 7)) (cond (Nat.ble O.length 1000)
 (cond ((okTV S (finW (O)) O.length))
 (cond (decide (n = n)) (cond (decide ((↑n : Int) = (↑n : Int))) (cond (decide (nd = nd)) (cond (decide (sf = sf)) (cond (decide (n = n)) (cond (decide (1 ≤ nd)) (cond (decide (nd ≤ 7)) (cond (decide (0 ≤ sf)) (cond (decide (sf < nd)) (cond ((okHV nd sf rd S g))
 (some (0, (u0 nd sf rd H K (setV g (sf) (rd)) nl n f (IntKind.wrap .i64 ((↑i : Int) + 1)))))
 none) none) none) none) none) none) none) none) none) none)
 none)
 none) none) none) none) none) none) none) none) none) none) none)
 (cond (decide (n = n)) (cond (decide ((↑n : Int) = (↑n : Int))) (cond (decide (O.length = O.length)) (cond (decide ((↑O.length : Int) = (↑O.length : Int))) (cond (decide (nd = nd)) (cond (decide (sf = sf)) (cond (decide (R.length = R.length)) (cond (decide (n = n)) (cond (decide (O.length = O.length)) (cond (decide (R.length = R.length)) (cond (decide (1 ≤ nd)) (cond (decide (nd ≤ 7)) (cond (Nat.ble R.length 1000)
 (cond (Nat.ble O.length 1000)
 (cond ((okTV S (finW (O)) O.length))
 (cond (decide (n = n)) (cond (decide ((↑n : Int) = (↑n : Int))) (cond (decide (nd = nd)) (cond (decide (sf = sf)) (cond (decide (R.length = R.length)) (cond (decide (n = n)) (cond (decide (R.length = R.length)) (cond (decide (1 ≤ nd)) (cond (decide (nd ≤ 7)) (cond (Nat.ble R.length 1000) (cond (decide (0 ≤ sf)) (cond (decide (sf < nd)) (cond ((okHV nd sf rd S g))
 (some (0, (uN nd sf R.length (finW (R)) rd H K (setV g (sf) (rd)) nl n f (IntKind.wrap .i64 ((↑i : Int) + 1)))))
 none) none) none) none) none) none) none) none) none) none) none) none) none)
 none)
 none)
 none) none) none) none) none) none) none) none) none) none) none) none) none))) none) none) none) none) none) none) none))))))) none) none) none) none) none) none))) none) none) none) := by
 subst hK hH hS hO hR
 kernel_rfl
theorem s30k6_eq (nd : Int) (sf : Int) (wn : Nat) (wf : Nat → Nat → AV) (rd : Int) (hs : AV → Bool) (hf : AV → Nat → AV) (g : Nat → Nat → AV) (nl : Bool) (n : Nat) (f : Nat → Nat → AV) (i : Nat) (hy0 : (decide ((↑i : Int) < (↑n : Int))) = true) (hy1 : (Nat.blt (0 + Int.toNat (↑i : Int)) n) = true) (hy2 : (decide (1 ≤ nd)) = true) (hy3 : (decide (nd ≤ 7)) = true) (hy4 : (decide (0 ≤ sf)) = true) (hy5 : (decide (sf < nd)) = true) (hy6 : (Nat.ble wn 1000) = true) (hy7 : (fo f i 0 == 1) = false) (hy8 : (fo f i 0 == 2) = false) (hy9 : (fo f i 0 == 3) = true) (hy10 : (decide (fo f i 6 ≥ 0)) = true) (hy11 : (decide (fo f i 6 < nd)) = false) (H : AV → Bool) (hH : heSV (heUV nd sf rd (fo f i 6) (fo f i 3)) (fo f i 6) hs = H) (K : AV → Nat → AV) (hK : heFV (heUV nd sf rd (fo f i 6) (fo f i 3)) (fo f i 6) (fo f i 3) hs hf = K) (S : Int) (hS : leastV nd sf rd H K = S) (O : List Wt) (hO : outV (qbV S) wf wn = O) (R : List Wt) (hR : outV (fun x => !(qbV S x)) wf wn = R) : s30k6 nd sf wn wf rd hs hf g nl n f i s30k6_p = (cond (Nat.beq O.length 0)
 (cond (Nat.beq R.length 0)
 (cond (okTV S bd 0)
 (cond (okHV nd sf rd S g)
 (some (0, (u0 nd sf rd H K (setV g (sf) (rd)) nl n f (IntKind.wrap .i64 ((↑i : Int) + 1)))))
 none)
 none)
 (cond (Nat.ble R.length 1000)
 (cond (okTV S bd 0)
 (cond (okHV nd sf rd S g)
 (some (0, (uN nd sf R.length (finW (R)) rd H K (setV g (sf) (rd)) nl n f (IntKind.wrap .i64 ((↑i : Int) + 1)))))
 none)
 none)
 none))
 (cond (Nat.beq R.length 0)
 (cond (Nat.ble O.length 1000)
 (cond (okTV S (finW (O)) O.length)
 (cond (okHV nd sf rd S g)
 (some (0, (u0 nd sf rd H K (setV g (sf) (rd)) nl n f (IntKind.wrap .i64 ((↑i : Int) + 1)))))
 none)
 none)
 none)
 (cond (Nat.ble R.length 1000)
 (cond (Nat.ble O.length 1000)
 (cond (okTV S (finW (O)) O.length)
 (cond (okHV nd sf rd S g)
 (some (0, (uN nd sf R.length (finW (R)) rd H K (setV g (sf) (rd)) nl n f (IntKind.wrap .i64 ((↑i : Int) + 1)))))
 none)
 none)
 none)
 none))) := by
 rw [s30k6_is nd sf wn wf rd hs hf g nl n f i H hH K hK S hS O hO R hR]
 try simp only [hy0, hy1, hy2, hy3, hy4, hy5, hy6, hy7, hy8, hy9, hy10, hy11, eq_self, decide_true, beq_self_eq_true, Nat.beq_refl, ble_self, Int.le_refl, Nat.le_refl]
 cases (Nat.beq O.length 0) with
 | true =>
   cases (Nat.beq R.length 0) with
   | true =>
     cases (okTV S bd 0) with
     | true =>
       cases (okHV nd sf rd S g) with
       | true =>
         rfl
       | false =>
         rfl
     | false =>
       rfl
   | false =>
     cases (Nat.ble R.length 1000) with
     | true =>
       cases (okTV S bd 0) with
       | true =>
         cases (okHV nd sf rd S g) with
         | true =>
           rfl
         | false =>
           rfl
       | false =>
         rfl
     | false =>
       rfl
 | false =>
   cases (Nat.beq R.length 0) with
   | true =>
     cases (Nat.ble O.length 1000) with
     | true =>
       cases (okTV S (finW (O)) O.length) with
       | true =>
         cases (okHV nd sf rd S g) with
         | true =>
           rfl
         | false =>
           rfl
       | false =>
         rfl
     | false =>
       rfl
   | false =>
     cases (Nat.ble R.length 1000) with
     | true =>
       cases (Nat.ble O.length 1000) with
       | true =>
         cases (okTV S (finW (O)) O.length) with
         | true =>
           cases (okHV nd sf rd S g) with
           | true =>
             rfl
           | false =>
             rfl
         | false =>
           rfl
       | false =>
         rfl
     | false =>
       rfl
noncomputable def s30k7 (nd : Int) (sf : Int) (wn : Nat) (wf : Nat → Nat → AV) (rd : Int) (hs : AV → Bool) (hf : AV → Nat → AV) (g : Nat → Nat → AV) (nl : Bool) (n : Nat) (f : Nat → Nat → AV) (i : Nat) (π : Plan) : Option (Nat × CS) := stepC (G3) (600) (loopC G3 3 0) (0) (h3) ((.normal, h3) :: x3) π (c30 nd sf wn wf rd hs hf g nl n f i)
def s30k7_p : Plan := (.must true (.reck 1 (.must true (.must true (.must false (.must false (.must true (.must true (.must true (.must true (.must true (.must true (.must true (.must true (.must true (.must true (.reck 1 (.must true (.must true (.must true (.must true (.must true (.must true (.must false (.must true (.reck 1 (.must true (.reck 3 (.must true (.must true (.must true (.reck 1 (.fork (.fork (.reck 5 (.must true (.must true (.reck 3 (.must true (.must true (.reck 4 (.must true (.reck 7 (.must true (.must true (.reck 4 (.fork (.reck 6 (.must true (.must true (.must true (.must true (.reck 4 (.must true (.reck 5 (.must true (.must true (.reck 2 (.must true (.must true (.fork .stop .stop)))))))))))))) .stop))))))))))))) (.reck 5 (.must true (.must true (.reck 3 (.must true (.must true (.must true (.reck 3 (.must true (.reck 3 (.must true (.reck 3 (.must true (.must true (.fork (.reck 3 (.fork (.reck 6 (.must true (.must true (.must true (.must true (.must true (.reck 3 (.must true (.reck 1 (.must true (.reck 3 (.must true (.must true (.must true (.reck 1 (.must true (.must true (.fork .stop .stop)))))))))))))))))) .stop)) .stop)))))))))))))))) (.fork (.reck 5 (.must true (.must true (.must true (.must true (.reck 1 (.must true (.must true (.reck 4 (.must true (.reck 1 (.must true (.reck 5 (.must true (.must true (.reck 2 (.fork (.reck 1 (.fork (.reck 6 (.must true (.must true (.must true (.must true (.reck 4 (.must true (.reck 5 (.must true (.must true (.reck 2 (.must true (.must true (.fork .stop .stop)))))))))))))) .stop)) .stop))))))))))))))))) (.reck 5 (.must true (.must true (.must true (.must true (.reck 1 (.must true (.must true (.must true (.reck 3 (.must true (.reck 1 (.must true (.reck 1 (.must true (.reck 3 (.must true (.must true (.fork (.reck 1 (.fork (.reck 1 (.fork (.reck 6 (.must true (.must true (.must true (.must true (.must true (.reck 3 (.must true (.reck 1 (.must true (.reck 3 (.must true (.must true (.must true (.reck 1 (.must true (.must true (.fork .stop .stop)))))))))))))))))) .stop)) .stop)) .stop)))))))))))))))))))))))))))))))))))))))))))))))))))))
theorem s30k7_is (nd : Int) (sf : Int) (wn : Nat) (wf : Nat → Nat → AV) (rd : Int) (hs : AV → Bool) (hf : AV → Nat → AV) (g : Nat → Nat → AV) (nl : Bool) (n : Nat) (f : Nat → Nat → AV) (i : Nat) (H : AV → Bool) (hH : heSV (heUV nd sf rd (fo f i 6) (fo f i 3)) (fo f i 6) hs = H) (K : AV → Nat → AV) (hK : heFV (heUV nd sf rd (fo f i 6) (fo f i 3)) (fo f i 6) (fo f i 3) hs hf = K) (S : Int) (hS : leastV nd sf rd H K = S) (O : List Wt) (hO : outV (qbV S) wf wn = O) (R : List Wt) (hR : outV (fun x => !(qbV S x)) wf wn = R) : s30k7 nd sf wn wf rd hs hf g nl n f i s30k7_p = (cond (decide ((↑i : Int) < (↑n : Int))) (cond (decide ((↑i : Int) < (↑n : Int))) (cond (Nat.blt (0 + Int.toNat (↑i : Int)) n) (cond (fo f i 0 == 1) none (cond (fo f i 0 == 2) none (cond (fo f i 0 == 3) (cond (decide (fo f i 6 ≥ 0) == true) (cond (decide (fo f i 6 ≥ 0) == true) (cond (decide (fo f i 6 ≥ 0) == true) (cond (decide (fo f i 6 ≥ 0) == true) (cond (decide (fo f i 6 ≥ 0)) (cond (decide (fo f i 6 < nd) == true) (cond (decide (fo f i 6 < nd) == true) (cond (decide (fo f i 6 < nd) == true) (cond (decide (fo f i 6 < nd) == true) (cond (decide (fo f i 6 < nd) == true) (cond (decide (fo f i 6 < nd)) (cond (decide (fo f i 3 = fo f i 3)) (cond (decide (fo f i 3 = fo f i 3)) (cond (decide (fo f i 6 = fo f i 6)) (cond (decide (fo f i 6 = fo f i 6)) (cond (decide (fo f i 3 ≤ rd)) none (cond (decide (wn = wn)) (cond (decide (wn = wn)) (cond (decide (1 ≤ nd)) (cond (decide (nd ≤ 7)) (cond (Nat.ble wn 1000) (cond (Nat.beq O.length 0)
 (cond (Nat.beq R.length 0)
 (cond (decide (n = n)) (cond (decide ((↑n : Int) = (↑n : Int))) (cond (decide (nd = nd)) (cond (decide (sf = sf)) (cond (decide (n = n)) (cond (decide (1 ≤ nd)) (cond (decide (nd ≤ 7)) (cond ((okTV S bd 0))
 (cond (decide (n = n)) (cond (decide ((↑n : Int) = (↑n : Int))) (cond (decide (nd = nd)) (cond (decide (sf = sf)) (cond (decide (n = n)) (cond (decide (1 ≤ nd)) (cond (decide (nd ≤ 7)) (cond (decide (0 ≤ sf)) (cond (decide (sf < nd)) (cond ((okHV nd sf rd S g))
 (some (0, (u0 nd sf rd H K (setV g (sf) (rd)) nl n f (IntKind.wrap .i64 ((↑i : Int) + 1)))))
 none) none) none) none) none) none) none) none) none) none)
 none) none) none) none) none) none) none) none)
 (cond (decide (n = n)) (cond (decide ((↑n : Int) = (↑n : Int))) (cond (decide (nd = nd)) (cond (decide (sf = sf)) (cond (decide (R.length = R.length)) (cond (decide (n = n)) (cond (decide (R.length = R.length)) (cond (decide (1 ≤ nd)) (cond (decide (nd ≤ 7)) (cond (Nat.ble R.length 1000)
 (cond ((okTV S bd 0))
 (cond (decide (n = n)) (cond (decide ((↑n : Int) = (↑n : Int))) (cond (decide (nd = nd)) (cond (decide (sf = sf)) (cond (decide (R.length = R.length)) (cond (decide (n = n)) (cond (decide (R.length = R.length)) (cond (decide (1 ≤ nd)) (cond (decide (nd ≤ 7)) (cond (Nat.ble R.length 1000) (cond (decide (0 ≤ sf)) (cond (decide (sf < nd)) (cond ((okHV nd sf rd S g))
 (some (0, (uN nd sf R.length (finW (R)) rd H K (setV g (sf) (rd)) nl n f (IntKind.wrap .i64 ((↑i : Int) + 1)))))
 none) none) none) none) none) none) none) none) none) none) none) none) none)
 none)
 none) none) none) none) none) none) none) none) none) none))
 (cond (Nat.beq R.length 0)
 (cond (decide (n = n)) (cond (decide ((↑n : Int) = (↑n : Int))) (cond (decide (O.length = O.length)) (cond (decide ((↑O.length : Int) = (↑O.length : Int))) (cond (decide (nd = nd)) (cond (decide (sf = sf)) (cond (decide (n = n)) (cond (decide (O.length = O.length)) (cond (decide (1 ≤ nd)) (cond (decide (nd ≤ 7)) (cond (Nat.ble O.length 1000)
 (cond ((okTV S (finW (O)) O.length))
 (cond (decide (n = n)) (cond (decide ((↑n : Int) = (↑n : Int))) (cond (decide (nd = nd)) (cond (decide (sf = sf)) (cond (decide (n = n)) (cond (decide (1 ≤ nd)) (cond (decide (nd ≤ 7)) (cond (decide (0 ≤ sf)) (cond (decide (sf < nd)) (cond ((okHV nd sf rd S g))
 (some (0, (u0 nd sf rd H K (setV g (sf) (rd)) nl n f (IntKind.wrap .i64 ((↑i : Int) + 1)))))
 none) none) none) none) none) none) none) none) none) none)
 none)
 none) none) none) none) none) none) none) none) none) none) none)
 (cond (decide (n = n)) (cond (decide ((↑n : Int) = (↑n : Int))) (cond (decide (O.length = O.length)) (cond (decide ((↑O.length : Int) = (↑O.length : Int))) (cond (decide (nd = nd)) (cond (decide (sf = sf)) (cond (decide (R.length = R.length)) (cond (decide (n = n)) (cond (decide (O.length = O.length)) (cond (decide (R.length = R.length)) (cond (decide (1 ≤ nd)) (cond (decide (nd ≤ 7)) (cond (Nat.ble R.length 1000)
 (cond (Nat.ble O.length 1000)
 (cond ((okTV S (finW (O)) O.length))
 (cond (decide (n = n)) (cond (decide ((↑n : Int) = (↑n : Int))) (cond (decide (nd = nd)) (cond (decide (sf = sf)) (cond (decide (R.length = R.length)) (cond (decide (n = n)) (cond (decide (R.length = R.length)) (cond (decide (1 ≤ nd)) (cond (decide (nd ≤ 7)) (cond (Nat.ble R.length 1000) (cond (decide (0 ≤ sf)) (cond (decide (sf < nd)) (cond ((okHV nd sf rd S g))
 (some (0, (uN nd sf R.length (finW (R)) rd H K (setV g (sf) (rd)) nl n f (IntKind.wrap .i64 ((↑i : Int) + 1)))))
 none) none) none) none) none) none) none) none) none) none) none) none) none)
 none)
 none)
 none) none) none) none) none) none) none) none) none) none) none) none) none))) none) none) none) none) none)) none) none) none) none) none) none) none) none) none) none) none) none) none) none) none) none))) none) none) none) := by
 subst hK hH hS hO hR
 kernel_rfl
theorem s30k7_eq (nd : Int) (sf : Int) (wn : Nat) (wf : Nat → Nat → AV) (rd : Int) (hs : AV → Bool) (hf : AV → Nat → AV) (g : Nat → Nat → AV) (nl : Bool) (n : Nat) (f : Nat → Nat → AV) (i : Nat) (hy0 : (decide ((↑i : Int) < (↑n : Int))) = true) (hy1 : (Nat.blt (0 + Int.toNat (↑i : Int)) n) = true) (hy2 : (decide (1 ≤ nd)) = true) (hy3 : (decide (nd ≤ 7)) = true) (hy4 : (decide (0 ≤ sf)) = true) (hy5 : (decide (sf < nd)) = true) (hy6 : (Nat.ble wn 1000) = true) (hy7 : (fo f i 0 == 1) = false) (hy8 : (fo f i 0 == 2) = false) (hy9 : (fo f i 0 == 3) = true) (hy10 : (decide (fo f i 6 ≥ 0)) = true) (hy11 : (decide (fo f i 6 < nd)) = true) (hy12 : (decide (fo f i 3 ≤ rd)) = false) (H : AV → Bool) (hH : heSV (heUV nd sf rd (fo f i 6) (fo f i 3)) (fo f i 6) hs = H) (K : AV → Nat → AV) (hK : heFV (heUV nd sf rd (fo f i 6) (fo f i 3)) (fo f i 6) (fo f i 3) hs hf = K) (S : Int) (hS : leastV nd sf rd H K = S) (O : List Wt) (hO : outV (qbV S) wf wn = O) (R : List Wt) (hR : outV (fun x => !(qbV S x)) wf wn = R) : s30k7 nd sf wn wf rd hs hf g nl n f i s30k7_p = (cond (Nat.beq O.length 0)
 (cond (Nat.beq R.length 0)
 (cond (okTV S bd 0)
 (cond (okHV nd sf rd S g)
 (some (0, (u0 nd sf rd H K (setV g (sf) (rd)) nl n f (IntKind.wrap .i64 ((↑i : Int) + 1)))))
 none)
 none)
 (cond (Nat.ble R.length 1000)
 (cond (okTV S bd 0)
 (cond (okHV nd sf rd S g)
 (some (0, (uN nd sf R.length (finW (R)) rd H K (setV g (sf) (rd)) nl n f (IntKind.wrap .i64 ((↑i : Int) + 1)))))
 none)
 none)
 none))
 (cond (Nat.beq R.length 0)
 (cond (Nat.ble O.length 1000)
 (cond (okTV S (finW (O)) O.length)
 (cond (okHV nd sf rd S g)
 (some (0, (u0 nd sf rd H K (setV g (sf) (rd)) nl n f (IntKind.wrap .i64 ((↑i : Int) + 1)))))
 none)
 none)
 none)
 (cond (Nat.ble R.length 1000)
 (cond (Nat.ble O.length 1000)
 (cond (okTV S (finW (O)) O.length)
 (cond (okHV nd sf rd S g)
 (some (0, (uN nd sf R.length (finW (R)) rd H K (setV g (sf) (rd)) nl n f (IntKind.wrap .i64 ((↑i : Int) + 1)))))
 none)
 none)
 none)
 none))) := by
 rw [s30k7_is nd sf wn wf rd hs hf g nl n f i H hH K hK S hS O hO R hR]
 try simp only [hy0, hy1, hy2, hy3, hy4, hy5, hy6, hy7, hy8, hy9, hy10, hy11, hy12, eq_self, decide_true, beq_self_eq_true, Nat.beq_refl, ble_self, Int.le_refl, Nat.le_refl]
 cases (Nat.beq O.length 0) with
 | true =>
   cases (Nat.beq R.length 0) with
   | true =>
     cases (okTV S bd 0) with
     | true =>
       cases (okHV nd sf rd S g) with
       | true =>
         rfl
       | false =>
         rfl
     | false =>
       rfl
   | false =>
     cases (Nat.ble R.length 1000) with
     | true =>
       cases (okTV S bd 0) with
       | true =>
         cases (okHV nd sf rd S g) with
         | true =>
           rfl
         | false =>
           rfl
       | false =>
         rfl
     | false =>
       rfl
 | false =>
   cases (Nat.beq R.length 0) with
   | true =>
     cases (Nat.ble O.length 1000) with
     | true =>
       cases (okTV S (finW (O)) O.length) with
       | true =>
         cases (okHV nd sf rd S g) with
         | true =>
           rfl
         | false =>
           rfl
       | false =>
         rfl
     | false =>
       rfl
   | false =>
     cases (Nat.ble R.length 1000) with
     | true =>
       cases (Nat.ble O.length 1000) with
       | true =>
         cases (okTV S (finW (O)) O.length) with
         | true =>
           cases (okHV nd sf rd S g) with
           | true =>
             rfl
           | false =>
             rfl
         | false =>
           rfl
       | false =>
         rfl
     | false =>
       rfl
noncomputable def s30k4 (nd : Int) (sf : Int) (wn : Nat) (wf : Nat → Nat → AV) (rd : Int) (hs : AV → Bool) (hf : AV → Nat → AV) (g : Nat → Nat → AV) (nl : Bool) (n : Nat) (f : Nat → Nat → AV) (i : Nat) (π : Plan) : Option (Nat × CS) := stepC (G3) (600) (loopC G3 3 0) (0) (h3) ((.normal, h3) :: x3) π (c30 nd sf wn wf rd hs hf g nl n f i)
def s30k4_p : Plan := (.must true (.reck 1 (.must true (.must true (.must false (.must false (.must false (.reck 3 (.must true (.must true (.must true (.must true (.must true (.reck 3 (.must true (.reck 1 (.must true (.reck 3 (.must true (.must true (.must true (.reck 1 (.must true (.must true (.fork .stop .stop)))))))))))))))))))))))))
theorem s30k4_is (nd : Int) (sf : Int) (wn : Nat) (wf : Nat → Nat → AV) (rd : Int) (hs : AV → Bool) (hf : AV → Nat → AV) (g : Nat → Nat → AV) (nl : Bool) (n : Nat) (f : Nat → Nat → AV) (i : Nat) : s30k4 nd sf wn wf rd hs hf g nl n f i s30k4_p = (cond (decide ((↑i : Int) < (↑n : Int))) (cond (decide ((↑i : Int) < (↑n : Int))) (cond (Nat.blt (0 + Int.toNat (↑i : Int)) n) (cond (fo f i 0 == 1) none (cond (fo f i 0 == 2) none (cond (fo f i 0 == 3) none (cond (decide (n = n)) (cond (decide ((↑n : Int) = (↑n : Int))) (cond (decide (nd = nd)) (cond (decide (sf = sf)) (cond (decide (wn = wn)) (cond (decide (n = n)) (cond (decide (wn = wn)) (cond (decide (1 ≤ nd)) (cond (decide (nd ≤ 7)) (cond (Nat.ble wn 1000) (cond (decide (0 ≤ sf)) (cond (decide (sf < nd)) (cond ((okHV nd sf rd (leastV nd sf rd hs hf) g))
 (some (0, (uN nd sf wn wf rd hs hf (setV g (sf) (rd)) nl n f (IntKind.wrap .i64 ((↑i : Int) + 1)))))
 none) none) none) none) none) none) none) none) none) none) none) none) none)))) none) none) none) := by kernel_rfl
theorem s30k4_eq (nd : Int) (sf : Int) (wn : Nat) (wf : Nat → Nat → AV) (rd : Int) (hs : AV → Bool) (hf : AV → Nat → AV) (g : Nat → Nat → AV) (nl : Bool) (n : Nat) (f : Nat → Nat → AV) (i : Nat) (hy0 : (decide ((↑i : Int) < (↑n : Int))) = true) (hy1 : (Nat.blt (0 + Int.toNat (↑i : Int)) n) = true) (hy2 : (decide (1 ≤ nd)) = true) (hy3 : (decide (nd ≤ 7)) = true) (hy4 : (decide (0 ≤ sf)) = true) (hy5 : (decide (sf < nd)) = true) (hy6 : (Nat.ble wn 1000) = true) (hy7 : (fo f i 0 == 1) = false) (hy8 : (fo f i 0 == 2) = false) (hy9 : (fo f i 0 == 3) = false) : s30k4 nd sf wn wf rd hs hf g nl n f i s30k4_p = (cond (okHV nd sf rd (leastV nd sf rd hs hf) g)
 (some (0, (uN nd sf wn wf rd hs hf (setV g (sf) (rd)) nl n f (IntKind.wrap .i64 ((↑i : Int) + 1)))))
 none) := by
 rw [s30k4_is]
 try simp only [hy0, hy1, hy2, hy3, hy4, hy5, hy6, hy7, hy8, hy9, eq_self, decide_true, beq_self_eq_true, Nat.beq_refl, ble_self, Int.le_refl, Nat.le_refl]
 cases (okHV nd sf rd (leastV nd sf rd hs hf) g) with
 | true =>
   rfl
 | false =>
   rfl
noncomputable def s31e (nd : Int) (sf : Int) (rd : Int) (hs : AV → Bool) (hf : AV → Nat → AV) (g : Nat → Nat → AV) (nl : Bool) (n : Nat) (f : Nat → Nat → AV) (i : Nat) (π : Plan) : Option (Nat × CS) := stepC (G3) (600) (loopC G3 3 0) (0) (h3) ((.normal, h3) :: x3) π (c31 nd sf rd hs hf g nl n f i)
def s31e_p : Plan := (.must false .stop)
theorem s31e_is (nd : Int) (sf : Int) (rd : Int) (hs : AV → Bool) (hf : AV → Nat → AV) (g : Nat → Nat → AV) (nl : Bool) (n : Nat) (f : Nat → Nat → AV) (i : Nat) : s31e nd sf rd hs hf g nl n f i s31e_p = (cond (decide ((↑i : Int) < (↑n : Int))) none (some (1, (CS.mk [] [])))) := by kernel_rfl
theorem s31e_eq (nd : Int) (sf : Int) (rd : Int) (hs : AV → Bool) (hf : AV → Nat → AV) (g : Nat → Nat → AV) (nl : Bool) (n : Nat) (f : Nat → Nat → AV) (i : Nat) (hy0 : (decide ((↑i : Int) < (↑n : Int))) = false) : s31e nd sf rd hs hf g nl n f i s31e_p = (some (1, (CS.mk [] []))) := by
 rw [s31e_is]
 try simp only [hy0, eq_self, decide_true, beq_self_eq_true, Nat.beq_refl, ble_self, Int.le_refl, Nat.le_refl]
 rfl
noncomputable def s31k1 (nd : Int) (sf : Int) (rd : Int) (hs : AV → Bool) (hf : AV → Nat → AV) (g : Nat → Nat → AV) (nl : Bool) (n : Nat) (f : Nat → Nat → AV) (i : Nat) (π : Plan) : Option (Nat × CS) := stepC (G3) (600) (loopC G3 3 0) (0) (h3) ((.normal, h3) :: x3) π (c31 nd sf rd hs hf g nl n f i)
def s31k1_p : Plan := (.must true (.reck 1 (.must true (.must true (.must true (.reck 6 (.must true (.must true (.reck 2 (.fork (.reck 4 (.must true (.must true (.must true (.must true (.must true (.reck 3 (.must true (.reck 1 (.must true (.reck 3 (.must true (.must true (.fork (.reck 1 (.must true (.must true (.fork .stop .stop)))) .stop)))))))))))))) (.reck 4 (.must true (.must true (.must true (.must true (.must true (.reck 3 (.must true (.reck 1 (.must true (.reck 3 (.must true (.must true (.fork (.reck 1 (.must true (.must true (.fork .stop .stop)))) .stop))))))))))))))))))))))))
theorem s31k1_is (nd : Int) (sf : Int) (rd : Int) (hs : AV → Bool) (hf : AV → Nat → AV) (g : Nat → Nat → AV) (nl : Bool) (n : Nat) (f : Nat → Nat → AV) (i : Nat) : s31k1 nd sf rd hs hf g nl n f i s31k1_p = (cond (decide ((↑i : Int) < (↑n : Int))) (cond (decide ((↑i : Int) < (↑n : Int))) (cond (Nat.blt (0 + Int.toNat (↑i : Int)) n) (cond (fo f i 0 == 1) (cond (decide (1 ≤ nd)) (cond (decide (nd ≤ 7)) (cond (Nat.ble 64 (List.length (outV (fun x => !qaV (fo f i 1) (fo f i 2) x) bd 0)))
 (cond (decide (n = n)) (cond (decide ((↑n : Int) = (↑n : Int))) (cond (decide (nd = nd)) (cond (decide (sf = sf)) (cond (decide (List.length (outV (fun x => !qaV (fo f i 1) (fo f i 2) x) bd 0) = List.length (outV (fun x => !qaV (fo f i 1) (fo f i 2) x) bd 0))) (cond (decide (n = n)) (cond (decide (List.length (outV (fun x => !qaV (fo f i 1) (fo f i 2) x) bd 0) = List.length (outV (fun x => !qaV (fo f i 1) (fo f i 2) x) bd 0))) (cond (decide (1 ≤ nd)) (cond (decide (nd ≤ 7)) (cond (Nat.ble (List.length (outV (fun x => !qaV (fo f i 1) (fo f i 2) x) bd 0)) 1000)
 (cond (decide (0 ≤ sf)) (cond (decide (sf < nd)) (cond ((okHV nd sf rd (leastV nd sf rd hs hf) g))
 (some (0, (uN nd sf (List.length (outV (fun x => !qaV (fo f i 1) (fo f i 2) x) bd 0)) (finW ((outV (fun x => !qaV (fo f i 1) (fo f i 2) x) bd 0))) rd hs hf (setV g (sf) (rd)) nl n f (IntKind.wrap .i64 ((↑i : Int) + 1)))))
 none) none) none)
 none) none) none) none) none) none) none) none) none) none)
 (cond (decide (n = n)) (cond (decide ((↑n : Int) = (↑n : Int))) (cond (decide (nd = nd)) (cond (decide (sf = sf)) (cond (decide (List.length (apdV (outV (fun x => !qaV (fo f i 1) (fo f i 2) x) bd 0) ⟨fo f i 1, fo f i 2, 0, fo f i 4, fo f i 5, IntKind.wrap .u64 (rd + 1)⟩) = List.length (apdV (outV (fun x => !qaV (fo f i 1) (fo f i 2) x) bd 0) ⟨fo f i 1, fo f i 2, 0, fo f i 4, fo f i 5, IntKind.wrap .u64 (rd + 1)⟩))) (cond (decide (n = n)) (cond (decide (List.length (apdV (outV (fun x => !qaV (fo f i 1) (fo f i 2) x) bd 0) ⟨fo f i 1, fo f i 2, 0, fo f i 4, fo f i 5, IntKind.wrap .u64 (rd + 1)⟩) = List.length (apdV (outV (fun x => !qaV (fo f i 1) (fo f i 2) x) bd 0) ⟨fo f i 1, fo f i 2, 0, fo f i 4, fo f i 5, IntKind.wrap .u64 (rd + 1)⟩))) (cond (decide (1 ≤ nd)) (cond (decide (nd ≤ 7)) (cond (Nat.ble (List.length (apdV (outV (fun x => !qaV (fo f i 1) (fo f i 2) x) bd 0) ⟨fo f i 1, fo f i 2, 0, fo f i 4, fo f i 5, IntKind.wrap .u64 (rd + 1)⟩)) 1000)
 (cond (decide (0 ≤ sf)) (cond (decide (sf < nd)) (cond ((okHV (nd) (sf) (IntKind.wrap .u64 (rd + 1)) (leastV nd sf (IntKind.wrap .u64 (rd + 1)) hs hf) g))
 (some (0, (uN nd sf (List.length (apdV (outV (fun x => !qaV (fo f i 1) (fo f i 2) x) bd 0) ⟨fo f i 1, fo f i 2, 0, fo f i 4, fo f i 5, IntKind.wrap .u64 (rd + 1)⟩)) (finW (apdV (outV (fun x => !qaV (fo f i 1) (fo f i 2) x) bd 0) ⟨fo f i 1, fo f i 2, 0, fo f i 4, fo f i 5, IntKind.wrap .u64 (rd + 1)⟩)) (IntKind.wrap .u64 (rd + 1)) hs hf (setV g (sf) (IntKind.wrap .u64 (rd + 1))) nl n f (IntKind.wrap .i64 ((↑i : Int) + 1)))))
 none) none) none)
 none) none) none) none) none) none) none) none) none) none)) none) none) none) none) none) none) := by kernel_rfl
theorem s31k1_eq (nd : Int) (sf : Int) (rd : Int) (hs : AV → Bool) (hf : AV → Nat → AV) (g : Nat → Nat → AV) (nl : Bool) (n : Nat) (f : Nat → Nat → AV) (i : Nat) (hy0 : (decide ((↑i : Int) < (↑n : Int))) = true) (hy1 : (Nat.blt (0 + Int.toNat (↑i : Int)) n) = true) (hy2 : (decide (1 ≤ nd)) = true) (hy3 : (decide (nd ≤ 7)) = true) (hy4 : (decide (0 ≤ sf)) = true) (hy5 : (decide (sf < nd)) = true) (hy6 : (fo f i 0 == 1) = true) : s31k1 nd sf rd hs hf g nl n f i s31k1_p = (cond (Nat.ble 64 (List.length (outV (fun x => !qaV (fo f i 1) (fo f i 2) x) bd 0)))
 (cond (Nat.ble (List.length (outV (fun x => !qaV (fo f i 1) (fo f i 2) x) bd 0)) 1000)
 (cond (okHV nd sf rd (leastV nd sf rd hs hf) g)
 (some (0, (uN nd sf (List.length (outV (fun x => !qaV (fo f i 1) (fo f i 2) x) bd 0)) (finW ((outV (fun x => !qaV (fo f i 1) (fo f i 2) x) bd 0))) rd hs hf (setV g (sf) (rd)) nl n f (IntKind.wrap .i64 ((↑i : Int) + 1)))))
 none)
 none)
 (cond (Nat.ble (List.length (apdV (outV (fun x => !qaV (fo f i 1) (fo f i 2) x) bd 0) ⟨fo f i 1, fo f i 2, 0, fo f i 4, fo f i 5, IntKind.wrap .u64 (rd + 1)⟩)) 1000)
 (cond (okHV (nd) (sf) (IntKind.wrap .u64 (rd + 1)) (leastV nd sf (IntKind.wrap .u64 (rd + 1)) hs hf) g)
 (some (0, (uN nd sf (List.length (apdV (outV (fun x => !qaV (fo f i 1) (fo f i 2) x) bd 0) ⟨fo f i 1, fo f i 2, 0, fo f i 4, fo f i 5, IntKind.wrap .u64 (rd + 1)⟩)) (finW (apdV (outV (fun x => !qaV (fo f i 1) (fo f i 2) x) bd 0) ⟨fo f i 1, fo f i 2, 0, fo f i 4, fo f i 5, IntKind.wrap .u64 (rd + 1)⟩)) (IntKind.wrap .u64 (rd + 1)) hs hf (setV g (sf) (IntKind.wrap .u64 (rd + 1))) nl n f (IntKind.wrap .i64 ((↑i : Int) + 1)))))
 none)
 none)) := by
 rw [s31k1_is]
 try simp only [hy0, hy1, hy2, hy3, hy4, hy5, hy6, eq_self, decide_true, beq_self_eq_true, Nat.beq_refl, ble_self, Int.le_refl, Nat.le_refl]
 cases (Nat.ble 64 (List.length (outV (fun x => !qaV (fo f i 1) (fo f i 2) x) bd 0))) with
 | true =>
   cases (Nat.ble (List.length (outV (fun x => !qaV (fo f i 1) (fo f i 2) x) bd 0)) 1000) with
   | true =>
     cases (okHV nd sf rd (leastV nd sf rd hs hf) g) with
     | true =>
       rfl
     | false =>
       rfl
   | false =>
     rfl
 | false =>
   cases (Nat.ble (List.length (apdV (outV (fun x => !qaV (fo f i 1) (fo f i 2) x) bd 0) ⟨fo f i 1, fo f i 2, 0, fo f i 4, fo f i 5, IntKind.wrap .u64 (rd + 1)⟩)) 1000) with
   | true =>
     cases (okHV (nd) (sf) (IntKind.wrap .u64 (rd + 1)) (leastV nd sf (IntKind.wrap .u64 (rd + 1)) hs hf) g) with
     | true =>
       rfl
     | false =>
       rfl
   | false =>
     rfl
noncomputable def s31k2 (nd : Int) (sf : Int) (rd : Int) (hs : AV → Bool) (hf : AV → Nat → AV) (g : Nat → Nat → AV) (nl : Bool) (n : Nat) (f : Nat → Nat → AV) (i : Nat) (π : Plan) : Option (Nat × CS) := stepC (G3) (600) (loopC G3 3 0) (0) (h3) ((.normal, h3) :: x3) π (c31 nd sf rd hs hf g nl n f i)
def s31k2_p : Plan := (.must true (.reck 1 (.must true (.must true (.must false (.must true (.reck 6 (.fork (.reck 3 (.must true (.must true (.must true (.must true (.reck 4 (.must true (.reck 5 (.must true (.must true (.reck 2 (.must true (.must true (.fork .stop .stop)))))))))))))) (.reck 3 (.must true (.must true (.must true (.must true (.reck 4 (.must true (.reck 5 (.must true (.must true (.reck 2 (.must true (.must true (.fork .stop .stop))))))))))))))))))))))
theorem s31k2_is (nd : Int) (sf : Int) (rd : Int) (hs : AV → Bool) (hf : AV → Nat → AV) (g : Nat → Nat → AV) (nl : Bool) (n : Nat) (f : Nat → Nat → AV) (i : Nat) : s31k2 nd sf rd hs hf g nl n f i s31k2_p = (cond (decide ((↑i : Int) < (↑n : Int))) (cond (decide ((↑i : Int) < (↑n : Int))) (cond (Nat.blt (0 + Int.toNat (↑i : Int)) n) (cond (fo f i 0 == 1) none (cond (fo f i 0 == 2) (cond (nd == 0)
 (cond (decide (n = n)) (cond (decide ((↑n : Int) = (↑n : Int))) (cond (decide (nd = nd)) (cond (decide (sf = sf)) (cond (decide (n = n)) (cond (decide (1 ≤ nd)) (cond (decide (nd ≤ 7)) (cond (decide (0 ≤ sf)) (cond (decide (sf < nd)) (cond ((okHV nd sf rd (leastV nd sf rd hs hf) g))
 (some (0, (u0 nd sf rd hs hf (setV g (sf) (rd)) nl n f (IntKind.wrap .i64 ((↑i : Int) + 1)))))
 none) none) none) none) none) none) none) none) none) none)
 (cond (decide (n = n)) (cond (decide ((↑n : Int) = (↑n : Int))) (cond (decide (nd = nd)) (cond (decide (sf = sf)) (cond (decide (n = n)) (cond (decide (1 ≤ nd)) (cond (decide (nd ≤ 7)) (cond (decide (0 ≤ sf)) (cond (decide (sf < nd)) (cond ((okHV (nd) (sf) (IntKind.wrap .u64 (rd + 1)) (leastV nd sf (IntKind.wrap .u64 (rd + 1)) hs hf) g))
 (some (0, (u0 nd sf (IntKind.wrap .u64 (rd + 1)) hs hf (setV g (sf) (IntKind.wrap .u64 (rd + 1))) nl n f (IntKind.wrap .i64 ((↑i : Int) + 1)))))
 none) none) none) none) none) none) none) none) none) none)) none)) none) none) none) := by kernel_rfl
theorem s31k2_eq (nd : Int) (sf : Int) (rd : Int) (hs : AV → Bool) (hf : AV → Nat → AV) (g : Nat → Nat → AV) (nl : Bool) (n : Nat) (f : Nat → Nat → AV) (i : Nat) (hy0 : (decide ((↑i : Int) < (↑n : Int))) = true) (hy1 : (Nat.blt (0 + Int.toNat (↑i : Int)) n) = true) (hy2 : (decide (1 ≤ nd)) = true) (hy3 : (decide (nd ≤ 7)) = true) (hy4 : (decide (0 ≤ sf)) = true) (hy5 : (decide (sf < nd)) = true) (hy6 : (fo f i 0 == 1) = false) (hy7 : (fo f i 0 == 2) = true) : s31k2 nd sf rd hs hf g nl n f i s31k2_p = (cond (nd == 0)
 (cond (okHV nd sf rd (leastV nd sf rd hs hf) g)
 (some (0, (u0 nd sf rd hs hf (setV g (sf) (rd)) nl n f (IntKind.wrap .i64 ((↑i : Int) + 1)))))
 none)
 (cond (okHV (nd) (sf) (IntKind.wrap .u64 (rd + 1)) (leastV nd sf (IntKind.wrap .u64 (rd + 1)) hs hf) g)
 (some (0, (u0 nd sf (IntKind.wrap .u64 (rd + 1)) hs hf (setV g (sf) (IntKind.wrap .u64 (rd + 1))) nl n f (IntKind.wrap .i64 ((↑i : Int) + 1)))))
 none)) := by
 rw [s31k2_is]
 try simp only [hy0, hy1, hy2, hy3, hy4, hy5, hy6, hy7, eq_self, decide_true, beq_self_eq_true, Nat.beq_refl, ble_self, Int.le_refl, Nat.le_refl]
 cases (nd == 0) with
 | true =>
   cases (okHV nd sf rd (leastV nd sf rd hs hf) g) with
   | true =>
     rfl
   | false =>
     rfl
 | false =>
   cases (okHV (nd) (sf) (IntKind.wrap .u64 (rd + 1)) (leastV nd sf (IntKind.wrap .u64 (rd + 1)) hs hf) g) with
   | true =>
     rfl
   | false =>
     rfl
noncomputable def s31k3 (nd : Int) (sf : Int) (rd : Int) (hs : AV → Bool) (hf : AV → Nat → AV) (g : Nat → Nat → AV) (nl : Bool) (n : Nat) (f : Nat → Nat → AV) (i : Nat) (π : Plan) : Option (Nat × CS) := stepC (G3) (600) (loopC G3 3 0) (0) (h3) ((.normal, h3) :: x3) π (c31 nd sf rd hs hf g nl n f i)
def s31k3_p : Plan := (.must true (.reck 1 (.must true (.must true (.must false (.must false (.must true (.must true (.must true (.must true (.must true (.must true (.must true (.must true (.must true (.must true (.reck 1 (.must true (.must true (.must true (.must true (.must true (.must true (.must true (.must true (.must true (.must true (.must true (.must true (.must true (.must true (.must true (.must true (.must true (.must true (.must true (.reck 6 (.must true (.must true (.reck 2 (.fork (.fork (.reck 5 (.must true (.must true (.reck 3 (.must true (.must true (.reck 4 (.must true (.reck 7 (.must true (.must true (.reck 4 (.fork (.reck 6 (.must true (.must true (.must true (.must true (.reck 4 (.must true (.reck 5 (.must true (.must true (.reck 2 (.must true (.must true (.fork .stop .stop)))))))))))))) .stop))))))))))))) (.reck 5 (.must true (.must true (.reck 3 (.must true (.must true (.must true (.reck 3 (.must true (.reck 3 (.must true (.reck 3 (.must true (.must true (.fork (.reck 3 (.fork (.reck 6 (.must true (.must true (.must true (.must true (.must true (.reck 3 (.must true (.reck 1 (.must true (.reck 3 (.must true (.must true (.must true (.reck 1 (.must true (.must true (.fork .stop .stop)))))))))))))))))) .stop)) .stop)))))))))))))))) (.fork (.reck 5 (.must true (.must true (.must true (.must true (.reck 1 (.must true (.must true (.reck 4 (.must true (.reck 1 (.must true (.reck 5 (.must true (.must true (.reck 2 (.fork (.reck 1 (.fork (.reck 6 (.must true (.must true (.must true (.must true (.reck 4 (.must true (.reck 5 (.must true (.must true (.reck 2 (.must true (.must true (.fork .stop .stop)))))))))))))) .stop)) .stop))))))))))))))))) (.reck 5 (.must true (.must true (.must true (.must true (.reck 1 (.must true (.must true (.must true (.reck 3 (.must true (.reck 1 (.must true (.reck 1 (.must true (.reck 3 (.must true (.must true (.fork (.reck 1 (.fork (.reck 1 (.fork (.reck 6 (.must true (.must true (.must true (.must true (.must true (.reck 3 (.must true (.reck 1 (.must true (.reck 3 (.must true (.must true (.must true (.reck 1 (.must true (.must true (.fork .stop .stop)))))))))))))))))) .stop)) .stop)) .stop)))))))))))))))))))))))))))))))))))))))))))))))))))))))))))))
theorem s31k3_is (nd : Int) (sf : Int) (rd : Int) (hs : AV → Bool) (hf : AV → Nat → AV) (g : Nat → Nat → AV) (nl : Bool) (n : Nat) (f : Nat → Nat → AV) (i : Nat) (H : AV → Bool) (hH : heSV (heUV nd sf rd (fo f i 6) (fo f i 3)) (fo f i 6) hs = H) (K : AV → Nat → AV) (hK : heFV (heUV nd sf rd (fo f i 6) (fo f i 3)) (fo f i 6) (fo f i 3) hs hf = K) (G : Nat → Nat → AV) (hG : fput g (0 + Int.toNat (fo f i 6)) (0) [(.int .u64 (if fo f i 3 > AV.toI (g (0 + Int.toNat (fo f i 6)) 0) then fo f i 3 else AV.toI (g (0 + Int.toNat (fo f i 6)) 0)))] = G) (S : Int) (hS : leastV nd sf rd H K = S) (O : List Wt) (hO : outV (qbV S) bd 0 = O) (R : List Wt) (hR : outV (fun x => !(qbV S x)) bd 0 = R) : s31k3 nd sf rd hs hf g nl n f i s31k3_p = (cond (decide ((↑i : Int) < (↑n : Int))) (cond (decide ((↑i : Int) < (↑n : Int))) (cond (Nat.blt (0 + Int.toNat (↑i : Int)) n) (cond (fo f i 0 == 1) none (cond (fo f i 0 == 2) none (cond (fo f i 0 == 3) (cond (decide (fo f i 6 ≥ 0) == true) (cond (decide (fo f i 6 ≥ 0) == true) (cond (decide (fo f i 6 ≥ 0) == true) (cond (decide (fo f i 6 ≥ 0) == true) (cond (decide (fo f i 6 ≥ 0)) (cond (decide (fo f i 6 < nd) == true) (cond (decide (fo f i 6 < nd) == true) (cond (decide (fo f i 6 < nd) == true) (cond (decide (fo f i 6 < nd) == true) (cond (decide (fo f i 6 < nd) == true) (cond (decide (fo f i 6 < nd)) (cond (decide (fo f i 3 = fo f i 3)) (cond (decide (fo f i 3 = fo f i 3)) (cond (decide (fo f i 6 = fo f i 6)) (cond (decide (fo f i 6 = fo f i 6)) (cond (decide (fo f i 3 ≤ rd)) (cond (decide (0 ≤ fo f i 6)) (cond (decide (fo f i 6 < (↑7 : Int))) (cond (Nat.blt (0 + Int.toNat (fo f i 6)) 7) (cond (decide (0 ≤ fo f i 6)) (cond (decide (fo f i 6 < (↑7 : Int))) (cond (Nat.blt (0 + Int.toNat (fo f i 6)) 7) (cond (decide ((if fo f i 3 > AV.toI (g (0 + Int.toNat (fo f i 6)) 0) then fo f i 3 else AV.toI (g (0 + Int.toNat (fo f i 6)) 0)) = if fo f i 3 > AV.toI (g (0 + Int.toNat (fo f i 6)) 0) then fo f i 3 else AV.toI (g (0 + Int.toNat (fo f i 6)) 0))) (cond (decide (fo f i 3 = fo f i 3)) (cond (Nat.blt (0 + Int.toNat (fo f i 6)) 7) (cond (decide (AV.toI (g (0 + Int.toNat (fo f i 6)) 0) = AV.toI (g (0 + Int.toNat (fo f i 6)) 0))) (cond (decide (fo f i 6 = fo f i 6)) (cond (decide (fo f i 6 = fo f i 6)) (cond (decide (1 ≤ nd)) (cond (decide (nd ≤ 7)) (cond (Nat.beq O.length 0)
 (cond (Nat.beq R.length 0)
 (cond (decide (n = n)) (cond (decide ((↑n : Int) = (↑n : Int))) (cond (decide (nd = nd)) (cond (decide (sf = sf)) (cond (decide (n = n)) (cond (decide (1 ≤ nd)) (cond (decide (nd ≤ 7)) (cond ((okTV S bd 0))
 (cond (decide (n = n)) (cond (decide ((↑n : Int) = (↑n : Int))) (cond (decide (nd = nd)) (cond (decide (sf = sf)) (cond (decide (n = n)) (cond (decide (1 ≤ nd)) (cond (decide (nd ≤ 7)) (cond (decide (0 ≤ sf)) (cond (decide (sf < nd)) (cond ((okHV nd sf rd S G))
 (some (0, (u0 nd sf rd H K (setV G (sf) (rd)) nl n f (IntKind.wrap .i64 ((↑i : Int) + 1)))))
 none) none) none) none) none) none) none) none) none) none)
 none) none) none) none) none) none) none) none)
 (cond (decide (n = n)) (cond (decide ((↑n : Int) = (↑n : Int))) (cond (decide (nd = nd)) (cond (decide (sf = sf)) (cond (decide (R.length = R.length)) (cond (decide (n = n)) (cond (decide (R.length = R.length)) (cond (decide (1 ≤ nd)) (cond (decide (nd ≤ 7)) (cond (Nat.ble R.length 1000)
 (cond ((okTV S bd 0))
 (cond (decide (n = n)) (cond (decide ((↑n : Int) = (↑n : Int))) (cond (decide (nd = nd)) (cond (decide (sf = sf)) (cond (decide (R.length = R.length)) (cond (decide (n = n)) (cond (decide (R.length = R.length)) (cond (decide (1 ≤ nd)) (cond (decide (nd ≤ 7)) (cond (Nat.ble R.length 1000) (cond (decide (0 ≤ sf)) (cond (decide (sf < nd)) (cond ((okHV nd sf rd S G))
 (some (0, (uN nd sf R.length (finW (R)) rd H K (setV G (sf) (rd)) nl n f (IntKind.wrap .i64 ((↑i : Int) + 1)))))
 none) none) none) none) none) none) none) none) none) none) none) none) none)
 none)
 none) none) none) none) none) none) none) none) none) none))
 (cond (Nat.beq R.length 0)
 (cond (decide (n = n)) (cond (decide ((↑n : Int) = (↑n : Int))) (cond (decide (O.length = O.length)) (cond (decide ((↑O.length : Int) = (↑O.length : Int))) (cond (decide (nd = nd)) (cond (decide (sf = sf)) (cond (decide (n = n)) (cond (decide (O.length = O.length)) (cond (decide (1 ≤ nd)) (cond (decide (nd ≤ 7)) (cond (Nat.ble O.length 1000)
 (cond ((okTV S (finW (O)) O.length))
 (cond (decide (n = n)) (cond (decide ((↑n : Int) = (↑n : Int))) (cond (decide (nd = nd)) (cond (decide (sf = sf)) (cond (decide (n = n)) (cond (decide (1 ≤ nd)) (cond (decide (nd ≤ 7)) (cond (decide (0 ≤ sf)) (cond (decide (sf < nd)) (cond ((okHV nd sf rd S G))
 (some (0, (u0 nd sf rd H K (setV G (sf) (rd)) nl n f (IntKind.wrap .i64 ((↑i : Int) + 1)))))
 none) none) none) none) none) none) none) none) none) none)
 none)
 none) none) none) none) none) none) none) none) none) none) none)
 (cond (decide (n = n)) (cond (decide ((↑n : Int) = (↑n : Int))) (cond (decide (O.length = O.length)) (cond (decide ((↑O.length : Int) = (↑O.length : Int))) (cond (decide (nd = nd)) (cond (decide (sf = sf)) (cond (decide (R.length = R.length)) (cond (decide (n = n)) (cond (decide (O.length = O.length)) (cond (decide (R.length = R.length)) (cond (decide (1 ≤ nd)) (cond (decide (nd ≤ 7)) (cond (Nat.ble R.length 1000)
 (cond (Nat.ble O.length 1000)
 (cond ((okTV S (finW (O)) O.length))
 (cond (decide (n = n)) (cond (decide ((↑n : Int) = (↑n : Int))) (cond (decide (nd = nd)) (cond (decide (sf = sf)) (cond (decide (R.length = R.length)) (cond (decide (n = n)) (cond (decide (R.length = R.length)) (cond (decide (1 ≤ nd)) (cond (decide (nd ≤ 7)) (cond (Nat.ble R.length 1000) (cond (decide (0 ≤ sf)) (cond (decide (sf < nd)) (cond ((okHV nd sf rd S G))
 (some (0, (uN nd sf R.length (finW (R)) rd H K (setV G (sf) (rd)) nl n f (IntKind.wrap .i64 ((↑i : Int) + 1)))))
 none) none) none) none) none) none) none) none) none) none) none) none) none)
 none)
 none)
 none) none) none) none) none) none) none) none) none) none) none) none) none))) none) none) none) none) none) none) none) none) none) none) none) none) none) none) none) none) none) none) none) none) none) none) none) none) none) none) none) none) none) none) none))) none) none) none) := by
 subst hG hK hH hS hO hR
 kernel_rfl
theorem s31k3_eq (nd : Int) (sf : Int) (rd : Int) (hs : AV → Bool) (hf : AV → Nat → AV) (g : Nat → Nat → AV) (nl : Bool) (n : Nat) (f : Nat → Nat → AV) (i : Nat) (hy0 : (decide ((↑i : Int) < (↑n : Int))) = true) (hy1 : (Nat.blt (0 + Int.toNat (↑i : Int)) n) = true) (hy2 : (decide (1 ≤ nd)) = true) (hy3 : (decide (nd ≤ 7)) = true) (hy4 : (decide (0 ≤ sf)) = true) (hy5 : (decide (sf < nd)) = true) (hy6 : (fo f i 0 == 1) = false) (hy7 : (fo f i 0 == 2) = false) (hy8 : (fo f i 0 == 3) = true) (hy9 : (decide (fo f i 6 ≥ 0)) = true) (hy10 : (decide (fo f i 6 < nd)) = true) (hy11 : (decide (fo f i 3 ≤ rd)) = true) (hy12 : (decide (0 ≤ fo f i 6)) = true) (hy13 : (decide (fo f i 6 < (↑7 : Int))) = true) (hy14 : (Nat.blt (0 + Int.toNat (fo f i 6)) 7) = true) (H : AV → Bool) (hH : heSV (heUV nd sf rd (fo f i 6) (fo f i 3)) (fo f i 6) hs = H) (K : AV → Nat → AV) (hK : heFV (heUV nd sf rd (fo f i 6) (fo f i 3)) (fo f i 6) (fo f i 3) hs hf = K) (G : Nat → Nat → AV) (hG : fput g (0 + Int.toNat (fo f i 6)) (0) [(.int .u64 (if fo f i 3 > AV.toI (g (0 + Int.toNat (fo f i 6)) 0) then fo f i 3 else AV.toI (g (0 + Int.toNat (fo f i 6)) 0)))] = G) (S : Int) (hS : leastV nd sf rd H K = S) (O : List Wt) (hO : outV (qbV S) bd 0 = O) (R : List Wt) (hR : outV (fun x => !(qbV S x)) bd 0 = R) : s31k3 nd sf rd hs hf g nl n f i s31k3_p = (cond (Nat.beq O.length 0)
 (cond (Nat.beq R.length 0)
 (cond (okTV S bd 0)
 (cond (okHV nd sf rd S G)
 (some (0, (u0 nd sf rd H K (setV G (sf) (rd)) nl n f (IntKind.wrap .i64 ((↑i : Int) + 1)))))
 none)
 none)
 (cond (Nat.ble R.length 1000)
 (cond (okTV S bd 0)
 (cond (okHV nd sf rd S G)
 (some (0, (uN nd sf R.length (finW (R)) rd H K (setV G (sf) (rd)) nl n f (IntKind.wrap .i64 ((↑i : Int) + 1)))))
 none)
 none)
 none))
 (cond (Nat.beq R.length 0)
 (cond (Nat.ble O.length 1000)
 (cond (okTV S (finW (O)) O.length)
 (cond (okHV nd sf rd S G)
 (some (0, (u0 nd sf rd H K (setV G (sf) (rd)) nl n f (IntKind.wrap .i64 ((↑i : Int) + 1)))))
 none)
 none)
 none)
 (cond (Nat.ble R.length 1000)
 (cond (Nat.ble O.length 1000)
 (cond (okTV S (finW (O)) O.length)
 (cond (okHV nd sf rd S G)
 (some (0, (uN nd sf R.length (finW (R)) rd H K (setV G (sf) (rd)) nl n f (IntKind.wrap .i64 ((↑i : Int) + 1)))))
 none)
 none)
 none)
 none))) := by
 rw [s31k3_is nd sf rd hs hf g nl n f i H hH K hK G hG S hS O hO R hR]
 try simp only [hy0, hy1, hy2, hy3, hy4, hy5, hy6, hy7, hy8, hy9, hy10, hy11, hy12, hy13, hy14, eq_self, decide_true, beq_self_eq_true, Nat.beq_refl, ble_self, Int.le_refl, Nat.le_refl]
 cases (Nat.beq O.length 0) with
 | true =>
   cases (Nat.beq R.length 0) with
   | true =>
     cases (okTV S bd 0) with
     | true =>
       cases (okHV nd sf rd S G) with
       | true =>
         rfl
       | false =>
         rfl
     | false =>
       rfl
   | false =>
     cases (Nat.ble R.length 1000) with
     | true =>
       cases (okTV S bd 0) with
       | true =>
         cases (okHV nd sf rd S G) with
         | true =>
           rfl
         | false =>
           rfl
       | false =>
         rfl
     | false =>
       rfl
 | false =>
   cases (Nat.beq R.length 0) with
   | true =>
     cases (Nat.ble O.length 1000) with
     | true =>
       cases (okTV S (finW (O)) O.length) with
       | true =>
         cases (okHV nd sf rd S G) with
         | true =>
           rfl
         | false =>
           rfl
       | false =>
         rfl
     | false =>
       rfl
   | false =>
     cases (Nat.ble R.length 1000) with
     | true =>
       cases (Nat.ble O.length 1000) with
       | true =>
         cases (okTV S (finW (O)) O.length) with
         | true =>
           cases (okHV nd sf rd S G) with
           | true =>
             rfl
           | false =>
             rfl
         | false =>
           rfl
       | false =>
         rfl
     | false =>
       rfl
noncomputable def s31k5 (nd : Int) (sf : Int) (rd : Int) (hs : AV → Bool) (hf : AV → Nat → AV) (g : Nat → Nat → AV) (nl : Bool) (n : Nat) (f : Nat → Nat → AV) (i : Nat) (π : Plan) : Option (Nat × CS) := stepC (G3) (600) (loopC G3 3 0) (0) (h3) ((.normal, h3) :: x3) π (c31 nd sf rd hs hf g nl n f i)
def s31k5_p : Plan := (.must true (.reck 1 (.must true (.must true (.must false (.must false (.must true (.must false (.must false (.must false (.must false (.must false (.reck 6 (.must true (.reck 7 (.must true (.must true (.reck 2 (.fork (.fork (.reck 5 (.must true (.must true (.reck 3 (.must true (.must true (.reck 4 (.must true (.reck 7 (.must true (.must true (.reck 4 (.fork (.reck 6 (.must true (.must true (.must true (.must true (.reck 4 (.must true (.reck 5 (.must true (.must true (.reck 2 (.must true (.must true (.fork .stop .stop)))))))))))))) .stop))))))))))))) (.reck 5 (.must true (.must true (.reck 3 (.must true (.must true (.must true (.reck 3 (.must true (.reck 3 (.must true (.reck 3 (.must true (.must true (.fork (.reck 3 (.fork (.reck 6 (.must true (.must true (.must true (.must true (.must true (.reck 3 (.must true (.reck 1 (.must true (.reck 3 (.must true (.must true (.must true (.reck 1 (.must true (.must true (.fork .stop .stop)))))))))))))))))) .stop)) .stop)))))))))))))))) (.fork (.reck 5 (.must true (.must true (.must true (.must true (.reck 1 (.must true (.must true (.reck 4 (.must true (.reck 1 (.must true (.reck 5 (.must true (.must true (.reck 2 (.fork (.reck 1 (.fork (.reck 6 (.must true (.must true (.must true (.must true (.reck 4 (.must true (.reck 5 (.must true (.must true (.reck 2 (.must true (.must true (.fork .stop .stop)))))))))))))) .stop)) .stop))))))))))))))))) (.reck 5 (.must true (.must true (.must true (.must true (.reck 1 (.must true (.must true (.must true (.reck 3 (.must true (.reck 1 (.must true (.reck 1 (.must true (.reck 3 (.must true (.must true (.fork (.reck 1 (.fork (.reck 1 (.fork (.reck 6 (.must true (.must true (.must true (.must true (.must true (.reck 3 (.must true (.reck 1 (.must true (.reck 3 (.must true (.must true (.must true (.reck 1 (.must true (.must true (.fork .stop .stop)))))))))))))))))) .stop)) .stop)) .stop)))))))))))))))))))))))))))))))))))))))
theorem s31k5_is (nd : Int) (sf : Int) (rd : Int) (hs : AV → Bool) (hf : AV → Nat → AV) (g : Nat → Nat → AV) (nl : Bool) (n : Nat) (f : Nat → Nat → AV) (i : Nat) (H : AV → Bool) (hH : heSV (heUV nd sf rd (fo f i 6) (fo f i 3)) (fo f i 6) hs = H) (K : AV → Nat → AV) (hK : heFV (heUV nd sf rd (fo f i 6) (fo f i 3)) (fo f i 6) (fo f i 3) hs hf = K) (S : Int) (hS : leastV nd sf rd H K = S) (O : List Wt) (hO : outV (qbV S) bd 0 = O) (R : List Wt) (hR : outV (fun x => !(qbV S x)) bd 0 = R) : s31k5 nd sf rd hs hf g nl n f i s31k5_p = (cond (decide ((↑i : Int) < (↑n : Int))) (cond (decide ((↑i : Int) < (↑n : Int))) (cond (Nat.blt (0 + Int.toNat (↑i : Int)) n) (cond (fo f i 0 == 1) none (cond (fo f i 0 == 2) none (cond (fo f i 0 == 3) (cond (decide (fo f i 6 ≥ 0) == true) none (cond (decide (fo f i 6 ≥ 0) == true) none (cond (decide (fo f i 6 ≥ 0) == true) none (cond (decide (fo f i 6 ≥ 0) == true) none (cond (decide (fo f i 6 ≥ 0)) none (cond (decide (fo f i 6 = fo f i 6)) (cond (decide (1 ≤ nd)) (cond (decide (nd ≤ 7)) (cond (Nat.beq O.length 0)
 (cond (Nat.beq R.length 0)
 (cond (decide (n = n)) (cond (decide ((↑n : Int) = (↑n : Int))) (cond (decide (nd = nd)) (cond (decide (sf = sf)) (cond (decide (n = n)) (cond (decide (1 ≤ nd)) (cond (decide (nd ≤ 7)) (cond ((okTV S bd 0))
 (cond (decide (n = n)) (cond (decide ((↑n : Int) = (↑n : Int))) (cond (decide (nd = nd)) (cond (decide (sf = sf)) (cond (decide (n = n)) (cond (decide (1 ≤ nd)) (cond (decide (nd ≤ 7)) (cond (decide (0 ≤ sf)) (cond (decide (sf < nd)) (cond ((okHV nd sf rd S g))
 (some (0, (u0 nd sf rd H K (setV g (sf) (rd)) nl n f (IntKind.wrap .i64 ((↑i : Int) + 1)))))
 none) none) none) none) none) none) none) none) none) none)
 none) none) none) none) none) none) none) none)
 (cond (decide (n = n)) (cond (decide ((↑n : Int) = (↑n : Int))) (cond (decide (nd = nd)) (cond (decide (sf = sf)) (cond (decide (R.length = R.length)) (cond (decide (n = n)) (cond (decide (R.length = R.length)) (cond (decide (1 ≤ nd)) (cond (decide (nd ≤ 7)) (cond (Nat.ble R.length 1000)
 (cond ((okTV S bd 0))
 (cond (decide (n = n)) (cond (decide ((↑n : Int) = (↑n : Int))) (cond (decide (nd = nd)) (cond (decide (sf = sf)) (cond (decide (R.length = R.length)) (cond (decide (n = n)) (cond (decide (R.length = R.length)) (cond (decide (1 ≤ nd)) (cond (decide (nd ≤ 7)) (cond (Nat.ble R.length 1000) (cond (decide (0 ≤ sf)) (cond (decide (sf < nd)) (cond ((okHV nd sf rd S g))
 (some (0, (uN nd sf R.length (finW (R)) rd H K (setV g (sf) (rd)) nl n f (IntKind.wrap .i64 ((↑i : Int) + 1)))))
 none) none) none) none) none) none) none) none) none) none) none) none) none)
 none)
 none) none) none) none) none) none) none) none) none) none))
 (cond (Nat.beq R.length 0)
 (cond (decide (n = n)) (cond (decide ((↑n : Int) = (↑n : Int))) (cond (decide (O.length = O.length)) (cond (decide ((↑O.length : Int) = (↑O.length : Int))) (cond (decide (nd = nd)) (cond (decide (sf = sf)) (cond (decide (n = n)) (cond (decide (O.length = O.length)) (cond (decide (1 ≤ nd)) (cond (decide (nd ≤ 7)) (cond (Nat.ble O.length 1000)
 (cond ((okTV S (finW (O)) O.length))
 (cond (decide (n = n)) (cond (decide ((↑n : Int) = (↑n : Int))) (cond (decide (nd = nd)) (cond (decide (sf = sf)) (cond (decide (n = n)) (cond (decide (1 ≤ nd)) (cond (decide (nd ≤ 7)) (cond (decide (0 ≤ sf)) (cond (decide (sf < nd)) (cond ((okHV nd sf rd S g))
 (some (0, (u0 nd sf rd H K (setV g (sf) (rd)) nl n f (IntKind.wrap .i64 ((↑i : Int) + 1)))))
 none) none) none) none) none) none) none) none) none) none)
 none)
 none) none) none) none) none) none) none) none) none) none) none)
 (cond (decide (n = n)) (cond (decide ((↑n : Int) = (↑n : Int))) (cond (decide (O.length = O.length)) (cond (decide ((↑O.length : Int) = (↑O.length : Int))) (cond (decide (nd = nd)) (cond (decide (sf = sf)) (cond (decide (R.length = R.length)) (cond (decide (n = n)) (cond (decide (O.length = O.length)) (cond (decide (R.length = R.length)) (cond (decide (1 ≤ nd)) (cond (decide (nd ≤ 7)) (cond (Nat.ble R.length 1000)
 (cond (Nat.ble O.length 1000)
 (cond ((okTV S (finW (O)) O.length))
 (cond (decide (n = n)) (cond (decide ((↑n : Int) = (↑n : Int))) (cond (decide (nd = nd)) (cond (decide (sf = sf)) (cond (decide (R.length = R.length)) (cond (decide (n = n)) (cond (decide (R.length = R.length)) (cond (decide (1 ≤ nd)) (cond (decide (nd ≤ 7)) (cond (Nat.ble R.length 1000) (cond (decide (0 ≤ sf)) (cond (decide (sf < nd)) (cond ((okHV nd sf rd S g))
 (some (0, (uN nd sf R.length (finW (R)) rd H K (setV g (sf) (rd)) nl n f (IntKind.wrap .i64 ((↑i : Int) + 1)))))
 none) none) none) none) none) none) none) none) none) none) none) none) none)
 none)
 none)
 none) none) none) none) none) none) none) none) none) none) none) none) none))) none) none) none)))))) none))) none) none) none) := by
 subst hK hH hS hO hR
 kernel_rfl
theorem s31k5_eq (nd : Int) (sf : Int) (rd : Int) (hs : AV → Bool) (hf : AV → Nat → AV) (g : Nat → Nat → AV) (nl : Bool) (n : Nat) (f : Nat → Nat → AV) (i : Nat) (hy0 : (decide ((↑i : Int) < (↑n : Int))) = true) (hy1 : (Nat.blt (0 + Int.toNat (↑i : Int)) n) = true) (hy2 : (decide (1 ≤ nd)) = true) (hy3 : (decide (nd ≤ 7)) = true) (hy4 : (decide (0 ≤ sf)) = true) (hy5 : (decide (sf < nd)) = true) (hy6 : (fo f i 0 == 1) = false) (hy7 : (fo f i 0 == 2) = false) (hy8 : (fo f i 0 == 3) = true) (hy9 : (decide (fo f i 6 ≥ 0)) = false) (H : AV → Bool) (hH : heSV (heUV nd sf rd (fo f i 6) (fo f i 3)) (fo f i 6) hs = H) (K : AV → Nat → AV) (hK : heFV (heUV nd sf rd (fo f i 6) (fo f i 3)) (fo f i 6) (fo f i 3) hs hf = K) (S : Int) (hS : leastV nd sf rd H K = S) (O : List Wt) (hO : outV (qbV S) bd 0 = O) (R : List Wt) (hR : outV (fun x => !(qbV S x)) bd 0 = R) : s31k5 nd sf rd hs hf g nl n f i s31k5_p = (cond (Nat.beq O.length 0)
 (cond (Nat.beq R.length 0)
 (cond (okTV S bd 0)
 (cond (okHV nd sf rd S g)
 (some (0, (u0 nd sf rd H K (setV g (sf) (rd)) nl n f (IntKind.wrap .i64 ((↑i : Int) + 1)))))
 none)
 none)
 (cond (Nat.ble R.length 1000)
 (cond (okTV S bd 0)
 (cond (okHV nd sf rd S g)
 (some (0, (uN nd sf R.length (finW (R)) rd H K (setV g (sf) (rd)) nl n f (IntKind.wrap .i64 ((↑i : Int) + 1)))))
 none)
 none)
 none))
 (cond (Nat.beq R.length 0)
 (cond (Nat.ble O.length 1000)
 (cond (okTV S (finW (O)) O.length)
 (cond (okHV nd sf rd S g)
 (some (0, (u0 nd sf rd H K (setV g (sf) (rd)) nl n f (IntKind.wrap .i64 ((↑i : Int) + 1)))))
 none)
 none)
 none)
 (cond (Nat.ble R.length 1000)
 (cond (Nat.ble O.length 1000)
 (cond (okTV S (finW (O)) O.length)
 (cond (okHV nd sf rd S g)
 (some (0, (uN nd sf R.length (finW (R)) rd H K (setV g (sf) (rd)) nl n f (IntKind.wrap .i64 ((↑i : Int) + 1)))))
 none)
 none)
 none)
 none))) := by
 rw [s31k5_is nd sf rd hs hf g nl n f i H hH K hK S hS O hO R hR]
 try simp only [hy0, hy1, hy2, hy3, hy4, hy5, hy6, hy7, hy8, hy9, eq_self, decide_true, beq_self_eq_true, Nat.beq_refl, ble_self, Int.le_refl, Nat.le_refl]
 cases (Nat.beq O.length 0) with
 | true =>
   cases (Nat.beq R.length 0) with
   | true =>
     cases (okTV S bd 0) with
     | true =>
       cases (okHV nd sf rd S g) with
       | true =>
         rfl
       | false =>
         rfl
     | false =>
       rfl
   | false =>
     cases (Nat.ble R.length 1000) with
     | true =>
       cases (okTV S bd 0) with
       | true =>
         cases (okHV nd sf rd S g) with
         | true =>
           rfl
         | false =>
           rfl
       | false =>
         rfl
     | false =>
       rfl
 | false =>
   cases (Nat.beq R.length 0) with
   | true =>
     cases (Nat.ble O.length 1000) with
     | true =>
       cases (okTV S (finW (O)) O.length) with
       | true =>
         cases (okHV nd sf rd S g) with
         | true =>
           rfl
         | false =>
           rfl
       | false =>
         rfl
     | false =>
       rfl
   | false =>
     cases (Nat.ble R.length 1000) with
     | true =>
       cases (Nat.ble O.length 1000) with
       | true =>
         cases (okTV S (finW (O)) O.length) with
         | true =>
           cases (okHV nd sf rd S g) with
           | true =>
             rfl
           | false =>
             rfl
         | false =>
           rfl
       | false =>
         rfl
     | false =>
       rfl
noncomputable def s31k6 (nd : Int) (sf : Int) (rd : Int) (hs : AV → Bool) (hf : AV → Nat → AV) (g : Nat → Nat → AV) (nl : Bool) (n : Nat) (f : Nat → Nat → AV) (i : Nat) (π : Plan) : Option (Nat × CS) := stepC (G3) (600) (loopC G3 3 0) (0) (h3) ((.normal, h3) :: x3) π (c31 nd sf rd hs hf g nl n f i)
def s31k6_p : Plan := (.must true (.reck 1 (.must true (.must true (.must false (.must false (.must true (.must true (.must true (.must true (.must true (.must true (.must false (.must false (.must false (.must false (.must false (.must false (.must true (.must true (.reck 7 (.must true (.must true (.reck 2 (.fork (.fork (.reck 5 (.must true (.must true (.reck 3 (.must true (.must true (.reck 4 (.must true (.reck 7 (.must true (.must true (.reck 4 (.fork (.reck 6 (.must true (.must true (.must true (.must true (.reck 4 (.must true (.reck 5 (.must true (.must true (.reck 2 (.must true (.must true (.fork .stop .stop)))))))))))))) .stop))))))))))))) (.reck 5 (.must true (.must true (.reck 3 (.must true (.must true (.must true (.reck 3 (.must true (.reck 3 (.must true (.reck 3 (.must true (.must true (.fork (.reck 3 (.fork (.reck 6 (.must true (.must true (.must true (.must true (.must true (.reck 3 (.must true (.reck 1 (.must true (.reck 3 (.must true (.must true (.must true (.reck 1 (.must true (.must true (.fork .stop .stop)))))))))))))))))) .stop)) .stop)))))))))))))))) (.fork (.reck 5 (.must true (.must true (.must true (.must true (.reck 1 (.must true (.must true (.reck 4 (.must true (.reck 1 (.must true (.reck 5 (.must true (.must true (.reck 2 (.fork (.reck 1 (.fork (.reck 6 (.must true (.must true (.must true (.must true (.reck 4 (.must true (.reck 5 (.must true (.must true (.reck 2 (.must true (.must true (.fork .stop .stop)))))))))))))) .stop)) .stop))))))))))))))))) (.reck 5 (.must true (.must true (.must true (.must true (.reck 1 (.must true (.must true (.must true (.reck 3 (.must true (.reck 1 (.must true (.reck 1 (.must true (.reck 3 (.must true (.must true (.fork (.reck 1 (.fork (.reck 1 (.fork (.reck 6 (.must true (.must true (.must true (.must true (.must true (.reck 3 (.must true (.reck 1 (.must true (.reck 3 (.must true (.must true (.must true (.reck 1 (.must true (.must true (.fork .stop .stop)))))))))))))))))) .stop)) .stop)) .stop)))))))))))))))))))))))))))))))))))))))))))))
theorem s31k6_is (nd : Int) (sf : Int) (rd : Int) (hs : AV → Bool) (hf : AV → Nat → AV) (g : Nat → Nat → AV) (nl : Bool) (n : Nat) (f : Nat → Nat → AV) (i : Nat) (H : AV → Bool) (hH : heSV (heUV nd sf rd (fo f i 6) (fo f i 3)) (fo f i 6) hs = H) (K : AV → Nat → AV) (hK : heFV (heUV nd sf rd (fo f i 6) (fo f i 3)) (fo f i 6) (fo f i 3) hs hf = K) (S : Int) (hS : leastV nd sf rd H K = S) (O : List Wt) (hO : outV (qbV S) bd 0 = O) (R : List Wt) (hR : outV (fun x => !(qbV S x)) bd 0 = R) : s31k6 nd sf rd hs hf g nl n f i s31k6_p = (cond (decide ((↑i : Int) < (↑n : Int))) (cond (decide ((↑i : Int) < (↑n : Int))) (cond (Nat.blt (0 + Int.toNat (↑i : Int)) n) (cond (fo f i 0 == 1) none (cond (fo f i 0 == 2) none (cond (fo f i 0 == 3) (cond (decide (fo f i 6 ≥ 0) == true) (cond (decide (fo f i 6 ≥ 0) == true) (cond (decide (fo f i 6 ≥ 0) == true) (cond (decide (fo f i 6 ≥ 0) == true) (cond (decide (fo f i 6 ≥ 0)) (cond (decide (fo f i 6 < nd) == true) none (cond (decide (fo f i 6 < nd) == true) none (cond (decide (fo f i 6 < nd) == true) none (cond (decide (fo f i 6 < nd) == true) none (cond (decide (fo f i 6 < nd) == true) none (cond (decide (fo f i 6 < nd)) none (cond (decide (fo f i 6 = fo f i 6)) (cond (decide (fo f i 6 = fo f i 6)) (cond (decide (1 ≤ nd)) (cond (decide (nd ≤ 7)) (cond (Nat.beq O.length 0)
 (cond (Nat.beq R.length 0)
 (cond (decide (n = n)) (cond (decide ((↑n : Int) = (↑n : Int))) (cond (decide (nd = nd)) (cond (decide (sf = sf)) (cond (decide (n = n)) (cond (decide (1 ≤ nd)) (cond (decide (nd ≤ 7)) (cond ((okTV S bd 0))
 (cond (decide (n = n)) (cond (decide ((↑n : Int) = (↑n : Int))) (cond (decide (nd = nd)) (cond (decide (sf = sf)) (cond (decide (n = n)) (cond (decide (1 ≤ nd)) (cond (decide (nd ≤ 7)) (cond (decide (0 ≤ sf)) (cond (decide (sf < nd)) (cond ((okHV nd sf rd S g))
 (some (0, (u0 nd sf rd H K (setV g (sf) (rd)) nl n f (IntKind.wrap .i64 ((↑i : Int) + 1)))))
 none) none) none) none) none) none) none) none) none) none)
 none) none) none) none) none) none) none) none)
 (cond (decide (n = n)) (cond (decide ((↑n : Int) = (↑n : Int))) (cond (decide (nd = nd)) (cond (decide (sf = sf)) (cond (decide (R.length = R.length)) (cond (decide (n = n)) (cond (decide (R.length = R.length)) (cond (decide (1 ≤ nd)) (cond (decide (nd ≤ 7)) (cond (Nat.ble R.length 1000)
 (cond ((okTV S bd 0))
 (cond (decide (n = n)) (cond (decide ((↑n : Int) = (↑n : Int))) (cond (decide (nd = nd)) (cond (decide (sf = sf)) (cond (decide (R.length = R.length)) (cond (decide (n = n)) (cond (decide (R.length = R.length)) (cond (decide (1 ≤ nd)) (cond (decide (nd ≤ 7)) (cond (Nat.ble R.length 1000) (cond (decide (0 ≤ sf)) (cond (decide (sf < nd)) (cond ((okHV nd sf rd S g))
 (some (0, (uN nd sf R.length (finW (R)) rd H K (setV g (sf) (rd)) nl n f (IntKind.wrap .i64 ((↑i : Int) + 1)))))
 none) none) none) none) none) none) none) none) none) none) none) none) none)
 none)
 none) none) none) none) none) none) none) none) none) none))
 (cond (Nat.beq R.length 0)
 (cond (decide (n = n)) (cond (decide ((↑n : Int) = (↑n : Int))) (cond (decide (O.length = O.length)) (cond (decide ((↑O.length : Int) = (↑O.length : Int))) (cond (decide (nd = nd)) (cond (decide (sf = sf)) (cond (decide (n = n)) (cond (decide (O.length = O.length)) (cond (decide (1 ≤ nd)) (cond (decide (nd ≤ 7)) (cond (Nat.ble O.length 1000)
 (cond ((okTV S (finW (O)) O.length))
 (cond (decide (n = n)) (cond (decide ((↑n : Int) = (↑n : Int))) (cond (decide (nd = nd)) (cond (decide (sf = sf)) (cond (decide (n = n)) (cond (decide (1 ≤ nd)) (cond (decide (nd ≤ 7)) (cond (decide (0 ≤ sf)) (cond (decide (sf < nd)) (cond ((okHV nd sf rd S g))
 (some (0, (u0 nd sf rd H K (setV g (sf) (rd)) nl n f (IntKind.wrap .i64 ((↑i : Int) + 1)))))
 none) none) none) none) none) none) none) none) none) none)
 none)
 none) none) none) none) none) none) none) none) none) none) none)
 (cond (decide (n = n)) (cond (decide ((↑n : Int) = (↑n : Int))) (cond (decide (O.length = O.length)) (cond (decide ((↑O.length : Int) = (↑O.length : Int))) (cond (decide (nd = nd)) (cond (decide (sf = sf)) (cond (decide (R.length = R.length)) (cond (decide (n = n)) (cond (decide (O.length = O.length)) (cond (decide (R.length = R.length)) (cond (decide (1 ≤ nd)) (cond (decide (nd ≤ 7)) (cond (Nat.ble R.length 1000)
 (cond (Nat.ble O.length 1000)
 (cond ((okTV S (finW (O)) O.length))
 (cond (decide (n = n)) (cond (decide ((↑n : Int) = (↑n : Int))) (cond (decide (nd = nd)) (cond (decide (sf = sf)) (cond (decide (R.length = R.length)) (cond (decide (n = n)) (cond (decide (R.length = R.length)) (cond (decide (1 ≤ nd)) (cond (decide (nd ≤ 7)) (cond (Nat.ble R.length 1000) (cond (decide (0 ≤ sf)) (cond (decide (sf < nd)) (cond ((okHV nd sf rd S g))
 (some (0, (uN nd sf R.length (finW (R)) rd H K (setV g (sf) (rd)) nl n f (IntKind.wrap .i64 ((↑i : Int) + 1)))))
 none) none) none) none) none) none) none) none) none) none) none) none) none)
 none)
 none)
 none) none) none) none) none) none) none) none) none) none) none) none) none))) none) none) none) none))))))) none) none) none) none) none) none))) none) none) none) := by
 subst hK hH hS hO hR
 kernel_rfl
theorem s31k6_eq (nd : Int) (sf : Int) (rd : Int) (hs : AV → Bool) (hf : AV → Nat → AV) (g : Nat → Nat → AV) (nl : Bool) (n : Nat) (f : Nat → Nat → AV) (i : Nat) (hy0 : (decide ((↑i : Int) < (↑n : Int))) = true) (hy1 : (Nat.blt (0 + Int.toNat (↑i : Int)) n) = true) (hy2 : (decide (1 ≤ nd)) = true) (hy3 : (decide (nd ≤ 7)) = true) (hy4 : (decide (0 ≤ sf)) = true) (hy5 : (decide (sf < nd)) = true) (hy6 : (fo f i 0 == 1) = false) (hy7 : (fo f i 0 == 2) = false) (hy8 : (fo f i 0 == 3) = true) (hy9 : (decide (fo f i 6 ≥ 0)) = true) (hy10 : (decide (fo f i 6 < nd)) = false) (H : AV → Bool) (hH : heSV (heUV nd sf rd (fo f i 6) (fo f i 3)) (fo f i 6) hs = H) (K : AV → Nat → AV) (hK : heFV (heUV nd sf rd (fo f i 6) (fo f i 3)) (fo f i 6) (fo f i 3) hs hf = K) (S : Int) (hS : leastV nd sf rd H K = S) (O : List Wt) (hO : outV (qbV S) bd 0 = O) (R : List Wt) (hR : outV (fun x => !(qbV S x)) bd 0 = R) : s31k6 nd sf rd hs hf g nl n f i s31k6_p = (cond (Nat.beq O.length 0)
 (cond (Nat.beq R.length 0)
 (cond (okTV S bd 0)
 (cond (okHV nd sf rd S g)
 (some (0, (u0 nd sf rd H K (setV g (sf) (rd)) nl n f (IntKind.wrap .i64 ((↑i : Int) + 1)))))
 none)
 none)
 (cond (Nat.ble R.length 1000)
 (cond (okTV S bd 0)
 (cond (okHV nd sf rd S g)
 (some (0, (uN nd sf R.length (finW (R)) rd H K (setV g (sf) (rd)) nl n f (IntKind.wrap .i64 ((↑i : Int) + 1)))))
 none)
 none)
 none))
 (cond (Nat.beq R.length 0)
 (cond (Nat.ble O.length 1000)
 (cond (okTV S (finW (O)) O.length)
 (cond (okHV nd sf rd S g)
 (some (0, (u0 nd sf rd H K (setV g (sf) (rd)) nl n f (IntKind.wrap .i64 ((↑i : Int) + 1)))))
 none)
 none)
 none)
 (cond (Nat.ble R.length 1000)
 (cond (Nat.ble O.length 1000)
 (cond (okTV S (finW (O)) O.length)
 (cond (okHV nd sf rd S g)
 (some (0, (uN nd sf R.length (finW (R)) rd H K (setV g (sf) (rd)) nl n f (IntKind.wrap .i64 ((↑i : Int) + 1)))))
 none)
 none)
 none)
 none))) := by
 rw [s31k6_is nd sf rd hs hf g nl n f i H hH K hK S hS O hO R hR]
 try simp only [hy0, hy1, hy2, hy3, hy4, hy5, hy6, hy7, hy8, hy9, hy10, eq_self, decide_true, beq_self_eq_true, Nat.beq_refl, ble_self, Int.le_refl, Nat.le_refl]
 cases (Nat.beq O.length 0) with
 | true =>
   cases (Nat.beq R.length 0) with
   | true =>
     cases (okTV S bd 0) with
     | true =>
       cases (okHV nd sf rd S g) with
       | true =>
         rfl
       | false =>
         rfl
     | false =>
       rfl
   | false =>
     cases (Nat.ble R.length 1000) with
     | true =>
       cases (okTV S bd 0) with
       | true =>
         cases (okHV nd sf rd S g) with
         | true =>
           rfl
         | false =>
           rfl
       | false =>
         rfl
     | false =>
       rfl
 | false =>
   cases (Nat.beq R.length 0) with
   | true =>
     cases (Nat.ble O.length 1000) with
     | true =>
       cases (okTV S (finW (O)) O.length) with
       | true =>
         cases (okHV nd sf rd S g) with
         | true =>
           rfl
         | false =>
           rfl
       | false =>
         rfl
     | false =>
       rfl
   | false =>
     cases (Nat.ble R.length 1000) with
     | true =>
       cases (Nat.ble O.length 1000) with
       | true =>
         cases (okTV S (finW (O)) O.length) with
         | true =>
           cases (okHV nd sf rd S g) with
           | true =>
             rfl
           | false =>
             rfl
         | false =>
           rfl
       | false =>
         rfl
     | false =>
       rfl
noncomputable def s31k7 (nd : Int) (sf : Int) (rd : Int) (hs : AV → Bool) (hf : AV → Nat → AV) (g : Nat → Nat → AV) (nl : Bool) (n : Nat) (f : Nat → Nat → AV) (i : Nat) (π : Plan) : Option (Nat × CS) := stepC (G3) (600) (loopC G3 3 0) (0) (h3) ((.normal, h3) :: x3) π (c31 nd sf rd hs hf g nl n f i)
def s31k7_p : Plan := (.must true (.reck 1 (.must true (.must true (.must false (.must false (.must true (.must true (.must true (.must true (.must true (.must true (.must true (.must true (.must true (.must true (.reck 1 (.must true (.must true (.must true (.must true (.must true (.must true (.must false (.reck 6 (.must true (.must true (.reck 2 (.fork (.fork (.reck 5 (.must true (.must true (.reck 3 (.must true (.must true (.reck 4 (.must true (.reck 7 (.must true (.must true (.reck 4 (.fork (.reck 6 (.must true (.must true (.must true (.must true (.reck 4 (.must true (.reck 5 (.must true (.must true (.reck 2 (.must true (.must true (.fork .stop .stop)))))))))))))) .stop))))))))))))) (.reck 5 (.must true (.must true (.reck 3 (.must true (.must true (.must true (.reck 3 (.must true (.reck 3 (.must true (.reck 3 (.must true (.must true (.fork (.reck 3 (.fork (.reck 6 (.must true (.must true (.must true (.must true (.must true (.reck 3 (.must true (.reck 1 (.must true (.reck 3 (.must true (.must true (.must true (.reck 1 (.must true (.must true (.fork .stop .stop)))))))))))))))))) .stop)) .stop)))))))))))))))) (.fork (.reck 5 (.must true (.must true (.must true (.must true (.reck 1 (.must true (.must true (.reck 4 (.must true (.reck 1 (.must true (.reck 5 (.must true (.must true (.reck 2 (.fork (.reck 1 (.fork (.reck 6 (.must true (.must true (.must true (.must true (.reck 4 (.must true (.reck 5 (.must true (.must true (.reck 2 (.must true (.must true (.fork .stop .stop)))))))))))))) .stop)) .stop))))))))))))))))) (.reck 5 (.must true (.must true (.must true (.must true (.reck 1 (.must true (.must true (.must true (.reck 3 (.must true (.reck 1 (.must true (.reck 1 (.must true (.reck 3 (.must true (.must true (.fork (.reck 1 (.fork (.reck 1 (.fork (.reck 6 (.must true (.must true (.must true (.must true (.must true (.reck 3 (.must true (.reck 1 (.must true (.reck 3 (.must true (.must true (.must true (.reck 1 (.must true (.must true (.fork .stop .stop)))))))))))))))))) .stop)) .stop)) .stop)))))))))))))))))))))))))))))))))))))))))))))))))
theorem s31k7_is (nd : Int) (sf : Int) (rd : Int) (hs : AV → Bool) (hf : AV → Nat → AV) (g : Nat → Nat → AV) (nl : Bool) (n : Nat) (f : Nat → Nat → AV) (i : Nat) (H : AV → Bool) (hH : heSV (heUV nd sf rd (fo f i 6) (fo f i 3)) (fo f i 6) hs = H) (K : AV → Nat → AV) (hK : heFV (heUV nd sf rd (fo f i 6) (fo f i 3)) (fo f i 6) (fo f i 3) hs hf = K) (S : Int) (hS : leastV nd sf rd H K = S) (O : List Wt) (hO : outV (qbV S) bd 0 = O) (R : List Wt) (hR : outV (fun x => !(qbV S x)) bd 0 = R) : s31k7 nd sf rd hs hf g nl n f i s31k7_p = (cond (decide ((↑i : Int) < (↑n : Int))) (cond (decide ((↑i : Int) < (↑n : Int))) (cond (Nat.blt (0 + Int.toNat (↑i : Int)) n) (cond (fo f i 0 == 1) none (cond (fo f i 0 == 2) none (cond (fo f i 0 == 3) (cond (decide (fo f i 6 ≥ 0) == true) (cond (decide (fo f i 6 ≥ 0) == true) (cond (decide (fo f i 6 ≥ 0) == true) (cond (decide (fo f i 6 ≥ 0) == true) (cond (decide (fo f i 6 ≥ 0)) (cond (decide (fo f i 6 < nd) == true) (cond (decide (fo f i 6 < nd) == true) (cond (decide (fo f i 6 < nd) == true) (cond (decide (fo f i 6 < nd) == true) (cond (decide (fo f i 6 < nd) == true) (cond (decide (fo f i 6 < nd)) (cond (decide (fo f i 3 = fo f i 3)) (cond (decide (fo f i 3 = fo f i 3)) (cond (decide (fo f i 6 = fo f i 6)) (cond (decide (fo f i 6 = fo f i 6)) (cond (decide (fo f i 3 ≤ rd)) none (cond (decide (1 ≤ nd)) (cond (decide (nd ≤ 7)) (cond (Nat.beq O.length 0)
 (cond (Nat.beq R.length 0)
 (cond (decide (n = n)) (cond (decide ((↑n : Int) = (↑n : Int))) (cond (decide (nd = nd)) (cond (decide (sf = sf)) (cond (decide (n = n)) (cond (decide (1 ≤ nd)) (cond (decide (nd ≤ 7)) (cond ((okTV S bd 0))
 (cond (decide (n = n)) (cond (decide ((↑n : Int) = (↑n : Int))) (cond (decide (nd = nd)) (cond (decide (sf = sf)) (cond (decide (n = n)) (cond (decide (1 ≤ nd)) (cond (decide (nd ≤ 7)) (cond (decide (0 ≤ sf)) (cond (decide (sf < nd)) (cond ((okHV nd sf rd S g))
 (some (0, (u0 nd sf rd H K (setV g (sf) (rd)) nl n f (IntKind.wrap .i64 ((↑i : Int) + 1)))))
 none) none) none) none) none) none) none) none) none) none)
 none) none) none) none) none) none) none) none)
 (cond (decide (n = n)) (cond (decide ((↑n : Int) = (↑n : Int))) (cond (decide (nd = nd)) (cond (decide (sf = sf)) (cond (decide (R.length = R.length)) (cond (decide (n = n)) (cond (decide (R.length = R.length)) (cond (decide (1 ≤ nd)) (cond (decide (nd ≤ 7)) (cond (Nat.ble R.length 1000)
 (cond ((okTV S bd 0))
 (cond (decide (n = n)) (cond (decide ((↑n : Int) = (↑n : Int))) (cond (decide (nd = nd)) (cond (decide (sf = sf)) (cond (decide (R.length = R.length)) (cond (decide (n = n)) (cond (decide (R.length = R.length)) (cond (decide (1 ≤ nd)) (cond (decide (nd ≤ 7)) (cond (Nat.ble R.length 1000) (cond (decide (0 ≤ sf)) (cond (decide (sf < nd)) (cond ((okHV nd sf rd S g))
 (some (0, (uN nd sf R.length (finW (R)) rd H K (setV g (sf) (rd)) nl n f (IntKind.wrap .i64 ((↑i : Int) + 1)))))
 none) none) none) none) none) none) none) none) none) none) none) none) none)
 none)
 none) none) none) none) none) none) none) none) none) none))
 (cond (Nat.beq R.length 0)
 (cond (decide (n = n)) (cond (decide ((↑n : Int) = (↑n : Int))) (cond (decide (O.length = O.length)) (cond (decide ((↑O.length : Int) = (↑O.length : Int))) (cond (decide (nd = nd)) (cond (decide (sf = sf)) (cond (decide (n = n)) (cond (decide (O.length = O.length)) (cond (decide (1 ≤ nd)) (cond (decide (nd ≤ 7)) (cond (Nat.ble O.length 1000)
 (cond ((okTV S (finW (O)) O.length))
 (cond (decide (n = n)) (cond (decide ((↑n : Int) = (↑n : Int))) (cond (decide (nd = nd)) (cond (decide (sf = sf)) (cond (decide (n = n)) (cond (decide (1 ≤ nd)) (cond (decide (nd ≤ 7)) (cond (decide (0 ≤ sf)) (cond (decide (sf < nd)) (cond ((okHV nd sf rd S g))
 (some (0, (u0 nd sf rd H K (setV g (sf) (rd)) nl n f (IntKind.wrap .i64 ((↑i : Int) + 1)))))
 none) none) none) none) none) none) none) none) none) none)
 none)
 none) none) none) none) none) none) none) none) none) none) none)
 (cond (decide (n = n)) (cond (decide ((↑n : Int) = (↑n : Int))) (cond (decide (O.length = O.length)) (cond (decide ((↑O.length : Int) = (↑O.length : Int))) (cond (decide (nd = nd)) (cond (decide (sf = sf)) (cond (decide (R.length = R.length)) (cond (decide (n = n)) (cond (decide (O.length = O.length)) (cond (decide (R.length = R.length)) (cond (decide (1 ≤ nd)) (cond (decide (nd ≤ 7)) (cond (Nat.ble R.length 1000)
 (cond (Nat.ble O.length 1000)
 (cond ((okTV S (finW (O)) O.length))
 (cond (decide (n = n)) (cond (decide ((↑n : Int) = (↑n : Int))) (cond (decide (nd = nd)) (cond (decide (sf = sf)) (cond (decide (R.length = R.length)) (cond (decide (n = n)) (cond (decide (R.length = R.length)) (cond (decide (1 ≤ nd)) (cond (decide (nd ≤ 7)) (cond (Nat.ble R.length 1000) (cond (decide (0 ≤ sf)) (cond (decide (sf < nd)) (cond ((okHV nd sf rd S g))
 (some (0, (uN nd sf R.length (finW (R)) rd H K (setV g (sf) (rd)) nl n f (IntKind.wrap .i64 ((↑i : Int) + 1)))))
 none) none) none) none) none) none) none) none) none) none) none) none) none)
 none)
 none)
 none) none) none) none) none) none) none) none) none) none) none) none) none))) none) none)) none) none) none) none) none) none) none) none) none) none) none) none) none) none) none) none))) none) none) none) := by
 subst hK hH hS hO hR
 kernel_rfl
theorem s31k7_eq (nd : Int) (sf : Int) (rd : Int) (hs : AV → Bool) (hf : AV → Nat → AV) (g : Nat → Nat → AV) (nl : Bool) (n : Nat) (f : Nat → Nat → AV) (i : Nat) (hy0 : (decide ((↑i : Int) < (↑n : Int))) = true) (hy1 : (Nat.blt (0 + Int.toNat (↑i : Int)) n) = true) (hy2 : (decide (1 ≤ nd)) = true) (hy3 : (decide (nd ≤ 7)) = true) (hy4 : (decide (0 ≤ sf)) = true) (hy5 : (decide (sf < nd)) = true) (hy6 : (fo f i 0 == 1) = false) (hy7 : (fo f i 0 == 2) = false) (hy8 : (fo f i 0 == 3) = true) (hy9 : (decide (fo f i 6 ≥ 0)) = true) (hy10 : (decide (fo f i 6 < nd)) = true) (hy11 : (decide (fo f i 3 ≤ rd)) = false) (H : AV → Bool) (hH : heSV (heUV nd sf rd (fo f i 6) (fo f i 3)) (fo f i 6) hs = H) (K : AV → Nat → AV) (hK : heFV (heUV nd sf rd (fo f i 6) (fo f i 3)) (fo f i 6) (fo f i 3) hs hf = K) (S : Int) (hS : leastV nd sf rd H K = S) (O : List Wt) (hO : outV (qbV S) bd 0 = O) (R : List Wt) (hR : outV (fun x => !(qbV S x)) bd 0 = R) : s31k7 nd sf rd hs hf g nl n f i s31k7_p = (cond (Nat.beq O.length 0)
 (cond (Nat.beq R.length 0)
 (cond (okTV S bd 0)
 (cond (okHV nd sf rd S g)
 (some (0, (u0 nd sf rd H K (setV g (sf) (rd)) nl n f (IntKind.wrap .i64 ((↑i : Int) + 1)))))
 none)
 none)
 (cond (Nat.ble R.length 1000)
 (cond (okTV S bd 0)
 (cond (okHV nd sf rd S g)
 (some (0, (uN nd sf R.length (finW (R)) rd H K (setV g (sf) (rd)) nl n f (IntKind.wrap .i64 ((↑i : Int) + 1)))))
 none)
 none)
 none))
 (cond (Nat.beq R.length 0)
 (cond (Nat.ble O.length 1000)
 (cond (okTV S (finW (O)) O.length)
 (cond (okHV nd sf rd S g)
 (some (0, (u0 nd sf rd H K (setV g (sf) (rd)) nl n f (IntKind.wrap .i64 ((↑i : Int) + 1)))))
 none)
 none)
 none)
 (cond (Nat.ble R.length 1000)
 (cond (Nat.ble O.length 1000)
 (cond (okTV S (finW (O)) O.length)
 (cond (okHV nd sf rd S g)
 (some (0, (uN nd sf R.length (finW (R)) rd H K (setV g (sf) (rd)) nl n f (IntKind.wrap .i64 ((↑i : Int) + 1)))))
 none)
 none)
 none)
 none))) := by
 rw [s31k7_is nd sf rd hs hf g nl n f i H hH K hK S hS O hO R hR]
 try simp only [hy0, hy1, hy2, hy3, hy4, hy5, hy6, hy7, hy8, hy9, hy10, hy11, eq_self, decide_true, beq_self_eq_true, Nat.beq_refl, ble_self, Int.le_refl, Nat.le_refl]
 cases (Nat.beq O.length 0) with
 | true =>
   cases (Nat.beq R.length 0) with
   | true =>
     cases (okTV S bd 0) with
     | true =>
       cases (okHV nd sf rd S g) with
       | true =>
         rfl
       | false =>
         rfl
     | false =>
       rfl
   | false =>
     cases (Nat.ble R.length 1000) with
     | true =>
       cases (okTV S bd 0) with
       | true =>
         cases (okHV nd sf rd S g) with
         | true =>
           rfl
         | false =>
           rfl
       | false =>
         rfl
     | false =>
       rfl
 | false =>
   cases (Nat.beq R.length 0) with
   | true =>
     cases (Nat.ble O.length 1000) with
     | true =>
       cases (okTV S (finW (O)) O.length) with
       | true =>
         cases (okHV nd sf rd S g) with
         | true =>
           rfl
         | false =>
           rfl
       | false =>
         rfl
     | false =>
       rfl
   | false =>
     cases (Nat.ble R.length 1000) with
     | true =>
       cases (Nat.ble O.length 1000) with
       | true =>
         cases (okTV S (finW (O)) O.length) with
         | true =>
           cases (okHV nd sf rd S g) with
           | true =>
             rfl
           | false =>
             rfl
         | false =>
           rfl
       | false =>
         rfl
     | false =>
       rfl
noncomputable def s31k4 (nd : Int) (sf : Int) (rd : Int) (hs : AV → Bool) (hf : AV → Nat → AV) (g : Nat → Nat → AV) (nl : Bool) (n : Nat) (f : Nat → Nat → AV) (i : Nat) (π : Plan) : Option (Nat × CS) := stepC (G3) (600) (loopC G3 3 0) (0) (h3) ((.normal, h3) :: x3) π (c31 nd sf rd hs hf g nl n f i)
def s31k4_p : Plan := (.must true (.reck 1 (.must true (.must true (.must false (.must false (.must false (.reck 3 (.must true (.must true (.must true (.must true (.reck 4 (.must true (.reck 5 (.must true (.must true (.reck 2 (.must true (.must true (.fork .stop .stop)))))))))))))))))))))
theorem s31k4_is (nd : Int) (sf : Int) (rd : Int) (hs : AV → Bool) (hf : AV → Nat → AV) (g : Nat → Nat → AV) (nl : Bool) (n : Nat) (f : Nat → Nat → AV) (i : Nat) : s31k4 nd sf rd hs hf g nl n f i s31k4_p = (cond (decide ((↑i : Int) < (↑n : Int))) (cond (decide ((↑i : Int) < (↑n : Int))) (cond (Nat.blt (0 + Int.toNat (↑i : Int)) n) (cond (fo f i 0 == 1) none (cond (fo f i 0 == 2) none (cond (fo f i 0 == 3) none (cond (decide (n = n)) (cond (decide ((↑n : Int) = (↑n : Int))) (cond (decide (nd = nd)) (cond (decide (sf = sf)) (cond (decide (n = n)) (cond (decide (1 ≤ nd)) (cond (decide (nd ≤ 7)) (cond (decide (0 ≤ sf)) (cond (decide (sf < nd)) (cond ((okHV nd sf rd (leastV nd sf rd hs hf) g))
 (some (0, (u0 nd sf rd hs hf (setV g (sf) (rd)) nl n f (IntKind.wrap .i64 ((↑i : Int) + 1)))))
 none) none) none) none) none) none) none) none) none) none)))) none) none) none) := by kernel_rfl
theorem s31k4_eq (nd : Int) (sf : Int) (rd : Int) (hs : AV → Bool) (hf : AV → Nat → AV) (g : Nat → Nat → AV) (nl : Bool) (n : Nat) (f : Nat → Nat → AV) (i : Nat) (hy0 : (decide ((↑i : Int) < (↑n : Int))) = true) (hy1 : (Nat.blt (0 + Int.toNat (↑i : Int)) n) = true) (hy2 : (decide (1 ≤ nd)) = true) (hy3 : (decide (nd ≤ 7)) = true) (hy4 : (decide (0 ≤ sf)) = true) (hy5 : (decide (sf < nd)) = true) (hy6 : (fo f i 0 == 1) = false) (hy7 : (fo f i 0 == 2) = false) (hy8 : (fo f i 0 == 3) = false) : s31k4 nd sf rd hs hf g nl n f i s31k4_p = (cond (okHV nd sf rd (leastV nd sf rd hs hf) g)
 (some (0, (u0 nd sf rd hs hf (setV g (sf) (rd)) nl n f (IntKind.wrap .i64 ((↑i : Int) + 1)))))
 none) := by
 rw [s31k4_is]
 try simp only [hy0, hy1, hy2, hy3, hy4, hy5, hy6, hy7, hy8, eq_self, decide_true, beq_self_eq_true, Nat.beq_refl, ble_self, Int.le_refl, Nat.le_refl]
 cases (okHV nd sf rd (leastV nd sf rd hs hf) g) with
 | true =>
   rfl
 | false =>
   rfl
end Go.Proofs.Ytgflmdjlpjjnaaa.desk
end
section
set_option linter.unusedSimpArgs false
set_option linter.unusedVariables false
set_option maxRecDepth 20000
namespace Go.Proofs.Ytgflmdjlpjjnaaa.desk
open Go Go.RowKit Go.Proofs.Ytgflmdjlpjjnaaa.Bm
theorem cnt_congr {s : Int} {f g : Nat → Nat → AV} : ∀ {n : Nat}, (∀ t, t < n → (f t 0).toI = (g t 0).toI) → cntF s f n = cntF s g n
 | 0, _ => rfl
 | n + 1, h => by
   simp only [cntF]
   rw [cnt_congr (n := n) fun t ht => h t (by omega), h n (by omega)]
theorem swp_j (f : Nat → Nat → AV) (j : Nat) : (swp f j j 0).toI = (f (j - 1) 0).toI := by
 unfold swp; rw [Nat.beq_refl]; rfl
theorem swp_p {f : Nat → Nat → AV} {j : Nat} (h : 1 ≤ j) : (swp f j (j - 1) 0).toI = (f j 0).toI := by
 unfold swp
 rw [show Nat.beq (j - 1) j = false by rw [beq_iff]; exact decide_eq_false (by omega), Nat.beq_refl]; rfl
theorem swp_o {f : Nat → Nat → AV} {j a : Nat} (h1 : a ≠ j) (h2 : a ≠ j - 1) : (swp f j a 0).toI = (f a 0).toI := by
 unfold swp
 rw [show Nat.beq a j = false by rw [beq_iff]; exact decide_eq_false h1, show Nat.beq a (j - 1) = false by rw [beq_iff]; exact decide_eq_false h2]; rfl
theorem cnt_swp {s : Int} {f : Nat → Nat → AV} {j : Nat} (h1 : 1 ≤ j) : ∀ {n : Nat}, j < n → cntF s (swp f j) n = cntF s f n
 | 0, h => by omega
 | n + 1, h => by
   by_cases hj : j = n
   ·subst hj
    obtain ⟨k, rfl⟩ : ∃ k, j = k + 1 := ⟨j - 1, by omega⟩
    simp only [cntF]
    rw [cnt_congr (g := f) (n := k) fun t ht => swp_o (by omega) (by omega), swp_j]
    have := swp_p (f := f) h1
    rw [show k + 1 - 1 = k by omega] at this ⊢
    rw [this]
    omega
   ·simp only [cntF]
    rw [cnt_swp h1 (n := n) (by omega), swp_o (by omega) (by omega)]
theorem cnt_ins {s : Int} {n : Nat} : ∀ (j : Nat) (f : Nat → Nat → AV), j < n → cntF s (ins1 j f) n = cntF s f n
 | 0, f, _ => rfl
 | j + 1, f, h => by
   simp only [ins1]
   cases decide ((f (j + 1) 0).toI < (f j 0).toI) with
   | true => simp only [cond_true]; rw [cnt_ins j _ (by omega), cnt_swp (by omega) h]
   | false => rfl
theorem cnt_sort {s : Int} {n : Nat} : ∀ (k i : Nat) (f : Nat → Nat → AV), i + k ≤ n → cntF s (sort1 k i f) n = cntF s f n
 | 0, i, f, _ => rfl
 | k + 1, i, f, h => by
   simp only [sort1]
   rw [cnt_sort k (i + 1) _ (by omega), cnt_ins i f (by omega)]
def Srt (k : Nat) (f : Nat → Nat → AV) : Prop := ∀ t, t + 1 < k → (f t 0).toI ≤ (f (t + 1) 0).toI
theorem srt_ins {i : Nat} : ∀ (j : Nat) (f : Nat → Nat → AV), j ≤ i → (∀ t, t + 1 ≤ i → t + 1 ≠ j → (f t 0).toI ≤ (f (t + 1) 0).toI) → (1 ≤ j → j + 1 ≤ i → (f (j - 1) 0).toI ≤ (f (j + 1) 0).toI) → Srt (i + 1) (ins1 j f)
 | 0, f, _, h, _ => fun t ht => h t (by omega) (by omega)
 | j + 1, f, hj, h, h2 => by
   simp only [ins1]
   cases hd : decide ((f (j + 1) 0).toI < (f j 0).toI) with
   | true =>
     have hd := of_decide_eq_true hd
     simp only [cond_true]
     have e1 := swp_j f (j + 1)
     have e2 := swp_p (f := f) (j := j + 1) (by omega)
     rw [show j + 1 - 1 = j by omega] at e1 e2
     refine srt_ins j _ (by omega) (fun t ht hne => ?_) (fun h1 h3 => ?_)
     ·by_cases ha : t = j
      ·subst ha
       rw [e1, e2]; omega
      ·by_cases hb : t = j + 1
       ·subst hb
        rw [e1, swp_o (by omega) (by omega)]
        have := h2 (by omega) (by omega)
        rw [show j + 1 - 1 = j by omega] at this
        exact this
       ·rw [swp_o (by omega) (by omega), swp_o (by omega) (by omega)]
        exact h t ht (by omega)
     ·rw [e1, swp_o (by omega) (by omega)]
      have := h (j - 1) (by omega) (by omega)
      rw [show j - 1 + 1 = j by omega] at this
      exact this
   | false =>
     have hd := of_decide_eq_false hd
     simp only [cond_false]
     intro t ht
     by_cases ha : t = j
     ·subst ha; omega
     ·exact h t (by omega) (by omega)
theorem srt_sort {n : Nat} : ∀ (k i : Nat) (f : Nat → Nat → AV), i + k = n → Srt i f → Srt n (sort1 k i f)
 | 0, i, f, h, hs => by
   have : i = n := by omega
   subst this; exact hs
 | k + 1, i, f, h, hs => by
   simp only [sort1]
   exact srt_sort k (i + 1) _ (by omega) (srt_ins i f (Nat.le_refl _) (fun t ht hne => hs t (by omega)) fun h1 h2 => by omega)
theorem srt_le {n : Nat} {f : Nat → Nat → AV} (h : Srt n f) {a : Nat} : ∀ b, a ≤ b → b < n → (f a 0).toI ≤ (f b 0).toI
 | 0, h1, h2 => by
   have : a = 0 := by omega
   subst this; exact Int.le_refl _
 | b + 1, h1, h2 => by
   by_cases hb : a = b + 1
   ·subst hb; exact Int.le_refl _
   ·exact Int.le_trans (srt_le h b (by omega) (by omega)) (h b h2)
theorem cnt_top {n m : Nat} {f : Nat → Nat → AV} (h : Srt n f) (hm : m < n) : ∀ k, k ≤ n → k - m ≤ cntF (f m 0).toI f k
 | 0, _ => by omega
 | k + 1, hk => by
   have ih := cnt_top h hm k (by omega)
   simp only [cntF]
   by_cases hle : m ≤ k
   ·rw [decide_eq_true (show (f k 0).toI ≥ (f m 0).toI from srt_le h k hle (by omega))]
    simp only [cond_true]; omega
   ·omega
theorem cnt_some {s : Int} {f : Nat → Nat → AV} : ∀ {n : Nat}, 0 < cntF s f n → ∃ t, t < n ∧ s ≤ (f t 0).toI
 | 0, h => by simp [cntF] at h
 | n + 1, h => by
   simp only [cntF] at h
   cases hd : decide ((f n 0).toI ≥ s) with
   | true => exact ⟨n, by omega, of_decide_eq_true hd⟩
   | false =>
     rw [hd] at h
     simp only [cond_false] at h
     obtain ⟨t, h1, h2⟩ := cnt_some (n := n) (by omega)
     exact ⟨t, by omega, h2⟩
theorem least_ok {nd sf rd : Int} {hs : AV → Bool} {hf : AV → Nat → AV} (h1 : 1 ≤ nd) (hb : ∀ t : Nat, (t : Int) < nd → hrdF sf rd hs hf t ≤ rd) {g : Nat → Nat → AV} (hg : ∀ t : Nat, (t : Int) < nd → (g t 0).toI = hrdF sf rd hs hf t) :
  nd < 2 * (cntF (leastV nd sf rd hs hf) g nd.toNat : Nat) ∧ leastV nd sf rd hs hf ≤ rd := by
 rw [leastV_eq]
 unfold leastF
 obtain ⟨n, rfl⟩ : ∃ n : Nat, nd = n := ⟨nd.toNat, by omega⟩
 simp only [Int.toNat_natCast]
 have hs1 : Srt n (sort1 (n - 1) 1 (hrdA sf rd hs hf idA)) := srt_sort (n - 1) 1 _ (by omega) fun t ht => by omega
 have hc := cnt_top hs1 (m := (n - 1) / 2) (by omega) n (Nat.le_refl _)
 rw [cnt_sort (n - 1) 1 _ (by omega)] at hc
 have he : ∀ t, t < n → (hrdA sf rd hs hf idA t 0).toI = hrdF sf rd hs hf t := fun t ht => rfl
 rw [cnt_congr (g := g) fun t ht => (he t ht).trans (hg t (by omega)).symm] at hc
 refine ⟨by omega, ?_⟩
 obtain ⟨t, ht, hle⟩ := cnt_some (Nat.lt_of_lt_of_le (by omega : 0 < n - (n - 1) / 2) hc)
 have := hb t (by omega)
 rw [hg t (by omega)] at hle
 omega
end Go.Proofs.Ytgflmdjlpjjnaaa.desk
end
section
set_option linter.unusedSimpArgs false
set_option linter.unusedVariables false
set_option maxRecDepth 20000
namespace Go.Proofs.Ytgflmdjlpjjnaaa.desk
open Go Go.RowKit Go.Proofs.Ytgflmdjlpjjnaaa.Bm
theorem r33_inv  {c : CS} {r : Nat × CS} (h : (r33  c).run = some r) : ∃ nd sf wl wn wf tl m t rd hs hf g nl n f i, c = c33 nd sf wl wn wf tl m t rd hs hf g nl n f i 0 ∧ (r33B  nd sf wl wn wf tl m t rd hs hf g nl n f i).run = some r := by
 unfold r33 at h
 split at h
 ·rename_i nd sf z_1 z_2 z_3 nl n z_4 z_5 i tl m z_6 z_7 z_8 z_9 z_10 wl wn z_11 rd sh_12 z_13 g sh_14 z_15 f sh_16 z_17 t sh_18 z_19 wf sh_20 sh_21 sz_22 hs hf
  obtain ⟨hc, hb⟩ := chkT_run h
  have h0 := hc 0 _ rfl
  have h0 := of_decide_eq_true h0; subst h0
  have h1 := hc 1 _ rfl
  have h1 := of_decide_eq_true h1; subst h1
  have h2 := hc 2 _ rfl
  have h2 := of_decide_eq_true h2; subst h2
  have h3 := hc 3 _ rfl
  have h3 := of_decide_eq_true h3; subst h3
  have h4 := hc 4 _ rfl
  have h4 := of_decide_eq_true h4; subst h4
  have h5 := hc 5 _ rfl
  have h5 := of_decide_eq_true h5; subst h5
  have h6 := hc 6 _ rfl
  have h6 := of_decide_eq_true h6; subst h6
  have h7 := hc 7 _ rfl
  have h7 := of_decide_eq_true h7; subst h7
  have h8 := hc 8 _ rfl
  have h8 := of_decide_eq_true h8; subst h8
  have h9 := hc 9 _ rfl
  have h9 := of_decide_eq_true h9; subst h9
  have h10 := hc 10 _ rfl
  have h10 := of_decide_eq_true h10; subst h10
  have h11 := hc 11 _ rfl
  have h11 := (shBeq_eq h11).symm; subst h11
  have h12 := hc 12 _ rfl
  have h12 := of_decide_eq_true h12; subst h12
  have h13 := hc 13 _ rfl
  have h13 := (shBeq_eq h13).symm; subst h13
  have h14 := hc 14 _ rfl
  have h14 := of_decide_eq_true h14; subst h14
  have h15 := hc 15 _ rfl
  have h15 := (shBeq_eq h15).symm; subst h15
  have h16 := hc 16 _ rfl
  have h16 := of_decide_eq_true h16; subst h16
  have h17 := hc 17 _ rfl
  have h17 := (shBeq_eq h17).symm; subst h17
  have h18 := hc 18 _ rfl
  have h18 := of_decide_eq_true h18; subst h18
  have h19 := hc 19 _ rfl
  have h19 := (shBeq_eq h19).symm; subst h19
  have h20 := hc 20 _ rfl
  have h20 := (shBeq_eq h20).symm; subst h20
  have h21 := hc 21 _ rfl
  have h21 := AV.eq_of_beqL _ _ h21; subst h21
  exact ⟨nd, sf, wl, wn, wf, tl, m, t, rd, hs, hf, g, nl, n, f, i, rfl, hb⟩
 ·cases h
theorem r35_inv  {c : CS} {r : Nat × CS} (h : (r35  c).run = some r) : ∃ nd sf wl wn wf rd hs hf g nl n f i, c = c35 nd sf wl wn wf rd hs hf g nl n f i 0 0 ∧ (r35B  nd sf wl wn wf rd hs hf g nl n f i).run = some r := by
 unfold r35 at h
 split at h
 ·rename_i nd sf z_1 z_2 z_3 z_4 nl n z_5 z_6 i z_7 z_8 z_9 z_10 wl wn z_11 rd sh_12 z_13 g sh_14 z_15 f sh_16 z_17 wf sh_18 sh_19 sz_20 hs hf
  obtain ⟨hc, hb⟩ := chkT_run h
  have h0 := hc 0 _ rfl
  have h0 := of_decide_eq_true h0; subst h0
  have h1 := hc 1 _ rfl
  have h1 := of_decide_eq_true h1; subst h1
  have h2 := hc 2 _ rfl
  have h2 := of_decide_eq_true h2; subst h2
  have h3 := hc 3 _ rfl
  have h3 := of_decide_eq_true h3; subst h3
  have h4 := hc 4 _ rfl
  have h4 := of_decide_eq_true h4; subst h4
  have h5 := hc 5 _ rfl
  have h5 := of_decide_eq_true h5; subst h5
  have h6 := hc 6 _ rfl
  have h6 := of_decide_eq_true h6; subst h6
  have h7 := hc 7 _ rfl
  have h7 := of_decide_eq_true h7; subst h7
  have h8 := hc 8 _ rfl
  have h8 := of_decide_eq_true h8; subst h8
  have h9 := hc 9 _ rfl
  have h9 := of_decide_eq_true h9; subst h9
  have h10 := hc 10 _ rfl
  have h10 := of_decide_eq_true h10; subst h10
  have h11 := hc 11 _ rfl
  have h11 := (shBeq_eq h11).symm; subst h11
  have h12 := hc 12 _ rfl
  have h12 := of_decide_eq_true h12; subst h12
  have h13 := hc 13 _ rfl
  have h13 := (shBeq_eq h13).symm; subst h13
  have h14 := hc 14 _ rfl
  have h14 := of_decide_eq_true h14; subst h14
  have h15 := hc 15 _ rfl
  have h15 := (shBeq_eq h15).symm; subst h15
  have h16 := hc 16 _ rfl
  have h16 := of_decide_eq_true h16; subst h16
  have h17 := hc 17 _ rfl
  have h17 := (shBeq_eq h17).symm; subst h17
  have h18 := hc 18 _ rfl
  have h18 := (shBeq_eq h18).symm; subst h18
  have h19 := hc 19 _ rfl
  have h19 := AV.eq_of_beqL _ _ h19; subst h19
  exact ⟨nd, sf, wl, wn, wf, rd, hs, hf, g, nl, n, f, i, rfl, hb⟩
 ·cases h
theorem rT_inv  {c : CS} {r : Nat × CS} (h : (rT  c).run = some r) : ∃ nd sf wl wn wf rd hs hf g nl n f i, c = cT nd sf wl wn wf rd hs hf g nl n f i ∧ (rTB  nd sf wl wn wf rd hs hf g nl n f i).run = some r := by
 unfold rT at h
 split at h
 ·rename_i nd sf z_1 z_2 z_3 nl n z_4 z_5 i z_6 z_7 wl wn z_8 rd sh_9 z_10 g sh_11 z_12 f sh_13 z_14 wf sh_15 sh_16 sz_17 hs hf
  obtain ⟨hc, hb⟩ := chkT_run h
  have h0 := hc 0 _ rfl
  have h0 := of_decide_eq_true h0; subst h0
  have h1 := hc 1 _ rfl
  have h1 := of_decide_eq_true h1; subst h1
  have h2 := hc 2 _ rfl
  have h2 := of_decide_eq_true h2; subst h2
  have h3 := hc 3 _ rfl
  have h3 := of_decide_eq_true h3; subst h3
  have h4 := hc 4 _ rfl
  have h4 := of_decide_eq_true h4; subst h4
  have h5 := hc 5 _ rfl
  have h5 := of_decide_eq_true h5; subst h5
  have h6 := hc 6 _ rfl
  have h6 := of_decide_eq_true h6; subst h6
  have h7 := hc 7 _ rfl
  have h7 := of_decide_eq_true h7; subst h7
  have h8 := hc 8 _ rfl
  have h8 := (shBeq_eq h8).symm; subst h8
  have h9 := hc 9 _ rfl
  have h9 := of_decide_eq_true h9; subst h9
  have h10 := hc 10 _ rfl
  have h10 := (shBeq_eq h10).symm; subst h10
  have h11 := hc 11 _ rfl
  have h11 := of_decide_eq_true h11; subst h11
  have h12 := hc 12 _ rfl
  have h12 := (shBeq_eq h12).symm; subst h12
  have h13 := hc 13 _ rfl
  have h13 := of_decide_eq_true h13; subst h13
  have h14 := hc 14 _ rfl
  have h14 := (shBeq_eq h14).symm; subst h14
  have h15 := hc 15 _ rfl
  have h15 := (shBeq_eq h15).symm; subst h15
  have h16 := hc 16 _ rfl
  have h16 := AV.eq_of_beqL _ _ h16; subst h16
  exact ⟨nd, sf, wl, wn, wf, rd, hs, hf, g, nl, n, f, i, rfl, hb⟩
 ·cases h
theorem ix0 (i : Nat) : 0 + Int.toNat (i : Int) = i := by rw [Nat.zero_add]; rfl
theorem okT_at {s : Int} {t : Nat → Nat → AV} {m : Nat} (h : okTV s t m = true) {j : Nat} (hj : j < m) : (t j 5).toI ≤ s := by
 rw [okTV_eq] at h
 have := okFrom_iff.1 h j hj
 rw [Nat.zero_add] at this
 exact of_decide_eq_true this
def pi33 : CS → Plan
 | ⟨[_, _, _, _, _, _, _, .nilSlice, _, _], some (.cells [_, _, .nilSlice, _, _] _) :: _⟩ => s3311_p
 | ⟨[_, _, _, _, _, _, _, .nilSlice, _, _], _⟩ => s3310_p
 | ⟨_, some (.cells [_, _, .nilSlice, _, _] _) :: _⟩ => s3301_p
 | _ => s3300_p
noncomputable abbrev stp33 (c : CS) : Option (Nat × CS) := stepC FA 400 (loopC FA 3 3) 0 h33 ((.normal, h33) :: x33) (pi33 c) c
theorem i33 (c : CS) (r : Nat × CS) (h : (r33 c).run = some r) : Loops stp33 c r.1 r.2 := by
 obtain ⟨nd, sf, wl, wn, wf, tl, m, t, rd, hs, hf, g, nl, n, f, i, rfl, hb⟩ := r33_inv h
 obtain ⟨hn, hb2⟩ := chkT_run hb
 have h1 := hn 0 _ rfl
 have h7 := hn 1 _ rfl
 have hw := hn 3 _ rfl
 have hm := le_of (hn 4 _ rfl)
 have ht := hn 5 _ rfl
 have ok := hn 6 _ rfl
 clear h hb hn
 have low : ∀ j, j < m → decide (AV.toI (t (0 + Int.toNat (j : Int)) 5) > leastV nd sf rd hs hf) = false := fun j hj => by
  rw [ix0]
  have := okT_at ok hj
  exact decide_eq_false (by omega)
 cases wl with
 | true =>
   have hz : wn = 0 := by simpa using hw
   subst hz
   simp only [T.run, cond_true, Option.some.injEq] at hb2; subst hb2
   cases tl with
   | true =>
     have hz : m = 0 := by simpa using ht
     subst hz
     refine Loops.see (c1 := c3311 nd sf rd hs hf g nl n f i) ?_ (.out (s3311_eq nd sf rd hs hf g nl n f i) (Seen.refl _))
     exact Seen.mk' (.cons (SeenV.refl _) (.cons (SeenV.refl _) (.cons (SeenV.refl _) (.cons (SeenV.refl _) (.cons (SeenV.refl _) (.cons (SeenV.refl _) (.cons (SeenV.refl _) (.cons SeenV.nil (SeenVs.refl _)))))))))
      (.cons (SeenO.cells (.cons (SeenV.refl _) (.cons (SeenV.refl _) (.cons SeenV.nil (SeenVs.refl _))))) (SeenOs.same (SeenOs.same (.skip (.skip (SeenOs.refl _))))))
   | false =>
     refine Loops.see (c1 := c3301 nd sf m t rd hs hf g nl n f i 0) ?_ (Loops.for (C := fun j => c3301 nd sf m t rd hs hf g nl n f i j) (n := m) (k := 0) (fun j hj => ?_) ⟨_, ?_, Seen.refl _⟩)
     ·exact Seen.mk' (SeenVs.refl _) (.cons (SeenO.cells (.cons (SeenV.refl _) (.cons (SeenV.refl _) (.cons SeenV.nil (SeenVs.refl _))))) (SeenOs.same (SeenOs.same (SeenOs.same (.skip (SeenOs.refl _))))))
     ·have e := s3301_eq nd sf m t rd hs hf g nl n f i j
      rw [lt1 hj, show Nat.blt (0 + Int.toNat (j : Int)) m = true by rw [ix0]; exact blt_t hj, h1, h7, low j hj, wrap_i64s (by omega)] at e
      exact ⟨_, e, Seen.mk' (.cons (SeenV.refl _) (.cons (SeenV.refl _) (.cons (SeenV.refl _) (.cons (SeenV.refl _) (.cons (SeenV.refl _) (.cons (SeenV.refl _) (.cons (SeenV.refl _) (SeenVs.refl _))))))))
       (.cons (SeenO.cells (.cons (SeenV.refl _) (.cons (SeenV.refl _) (.cons SeenV.nil (SeenVs.refl _))))) (SeenOs.same (SeenOs.same (SeenOs.same (.skip (SeenOs.refl _))))))⟩
     ·have e := s3301_eq nd sf m t rd hs hf g nl n f i m
      rw [lt0] at e
      exact e
 | false =>
   simp only [T.run, cond_false, Option.some.injEq] at hb2; subst hb2
   cases tl with
   | true =>
     have hz : m = 0 := by simpa using ht
     subst hz
     refine Loops.see (c1 := c3310 nd sf wn wf rd hs hf g nl n f i) ?_ (.out (s3310_eq nd sf wn wf rd hs hf g nl n f i) (Seen.refl _))
     exact Seen.mk' (.cons (SeenV.refl _) (.cons (SeenV.refl _) (.cons (SeenV.refl _) (.cons (SeenV.refl _) (.cons (SeenV.refl _) (.cons (SeenV.refl _) (.cons (SeenV.refl _) (.cons SeenV.nil (SeenVs.refl _)))))))))
      (SeenOs.same (SeenOs.same (SeenOs.same (.skip (SeenOs.refl _)))))
   | false =>
     refine Loops.for (C := fun j => c3300 nd sf wn wf m t rd hs hf g nl n f i j) (n := m) (k := 0) (fun j hj => ?_) ⟨_, ?_, Seen.refl _⟩
     ·have e := s3300_eq nd sf wn wf m t rd hs hf g nl n f i j
      rw [lt1 hj, show Nat.blt (0 + Int.toNat (j : Int)) m = true by rw [ix0]; exact blt_t hj, h1, h7, low j hj, wrap_i64s (by omega)] at e
      exact ⟨_, e, Seen.refl _⟩
     ·have e := s3300_eq nd sf wn wf m t rd hs hf g nl n f i m
      rw [lt0] at e
      exact e
theorem qG1 : Bm.Good Try.prog G1 := qFA.addS (by kernel_rfl) rfl (by decide) (by decide) rfl i33
def pi35 : CS → Plan
 | ⟨_, some (.cells [_, _, .nilSlice, _, _] _) :: _⟩ => s351_p
 | _ => s350_p
noncomputable abbrev stp35 (c : CS) : Option (Nat × CS) := stepC G1 400 (loopC G1 3 5) 0 h35 ((.normal, h35) :: x35) (pi35 c) c
theorem cnt_le (s : Int) (g : Nat → Nat → AV) : ∀ k, cntF s g k ≤ k
 | 0 => Nat.le_refl _
 | k + 1 => by
   have := cnt_le s g k
   simp only [cntF]
   cases decide ((g k 0).toI ≥ s) <;> simp <;> omega
theorem i35 (c : CS) (r : Nat × CS) (h : (r35 c).run = some r) : Loops stp35 c r.1 r.2 := by
 obtain ⟨nd, sf, wl, wn, wf, rd, hs, hf, g, nl, n, f, i, rfl, hb⟩ := r35_inv h
 obtain ⟨hn, hb2⟩ := chkT_run hb
 have h1 := hn 0 _ rfl
 have h7 := hn 1 _ rfl
 have hw := hn 3 _ rfl
 have hwn := hn 2 _ rfl
 clear h hb hn
 rw [cntV_eq] at hb2
 have h1' := of_decide_eq_true h1
 have h7' := of_decide_eq_true h7
 have k1 : ∀ k, k < nd.toNat → decide ((k : Int) < nd) = true := fun k hk => decide_eq_true (by omega)
 have k2 : ∀ k, k < nd.toNat → decide ((k : Int) < 7) = true := fun k hk => decide_eq_true (by omega)
 have k3 : ∀ k, k < nd.toNat → Nat.blt (0 + Int.toNat (k : Int)) 7 = true := fun k hk => by rw [ix0]; exact blt_t (by omega)
 have k4 : decide (((nd.toNat : Nat) : Int) < nd) = false := decide_eq_false (by omega)
 cases wl with
 | true =>
   have hz : wn = 0 := by simpa using hw
   subst hz
   simp only [T.run, cond_true, Option.some.injEq] at hb2; subst hb2
   refine Loops.see (c1 := c351 nd sf rd hs hf g nl n f i 0 0) ?_ (Loops.for (C := fun k => c351 nd sf rd hs hf g nl n f i (cntF (leastV nd sf rd hs hf) g k) k) (n := nd.toNat) (k := 0) (fun k hk => ?_) ⟨_, ?_, Seen.refl _⟩)
   ·exact Seen.mk' (SeenVs.refl _) (.cons (SeenO.cells (.cons (SeenV.refl _) (.cons (SeenV.refl _) (.cons SeenV.nil (SeenVs.refl _))))) (SeenOs.same (SeenOs.same (.skip (SeenOs.refl _)))))
   ·have hc := cnt_le (leastV nd sf rd hs hf) g k
    have e := s351_eq nd sf rd hs hf g nl n f i (cntF (leastV nd sf rd hs hf) g k) k
    rw [k1 k hk, k2 k hk, k3 k hk, h1, h7, wrap_i64s (i := k) (by omega), wrap_i64s (i := cntF (leastV nd sf rd hs hf) g k) (by omega), ix0] at e
    simp only [cond_true] at e
    have hsee : ∀ w : Nat, Seen ⟨[.int .i64 nd, .int .i64 sf, .ptr 0 0, .osl false 1 0 7 7 1 true, .int .i64 (w : Int), .osl nl 2 0 n n 9 true, .int .i64 (n : Int), .int .i64 (i : Int), .int .i64 nd, .int .i64 ((k + 1 : Nat) : Int)], [some (.cells [.int .i64 nd, .int .i64 sf, .osl true 3 0 0 0 6 true, .int .u64 rd, .map 4] true), some (.tarr shU 7 g true), some (.tarr shO n f false), some (.tarr shW 0 (fun _ _ => .bad) true), some (.omap shI shU false false [.int .u64 0] hs hf true)]⟩ (c351 nd sf rd hs hf g nl n f i w (k + 1)) := fun w =>
     Seen.mk' (SeenVs.refl _) (.cons (SeenO.cells (.cons (SeenV.refl _) (.cons (SeenV.refl _) (.cons SeenV.nil (SeenVs.refl _))))) (SeenOs.same (SeenOs.same (.skip (SeenOs.refl _)))))
    simp only [cntF]
    cases hd : decide ((g k 0).toI ≥ leastV nd sf rd hs hf) <;> rw [hd] at e
    ·exact ⟨_, e, hsee _⟩
    ·exact ⟨_, e, hsee _⟩
   ·have e := s351_eq nd sf rd hs hf g nl n f i (cntF (leastV nd sf rd hs hf) g nd.toNat) nd.toNat
    rw [k4] at e
    exact e
 | false =>
   simp only [T.run, cond_false, Option.some.injEq] at hb2; subst hb2
   refine Loops.for (C := fun k => c350 nd sf wn wf rd hs hf g nl n f i (cntF (leastV nd sf rd hs hf) g k) k) (n := nd.toNat) (k := 0) (fun k hk => ?_) ⟨_, ?_, Seen.refl _⟩
   ·have hc := cnt_le (leastV nd sf rd hs hf) g k
    have e := s350_eq nd sf wn wf rd hs hf g nl n f i (cntF (leastV nd sf rd hs hf) g k) k
    rw [k1 k hk, k2 k hk, k3 k hk, h1, h7, wrap_i64s (i := k) (by omega), wrap_i64s (i := cntF (leastV nd sf rd hs hf) g k) (by omega), ix0] at e
    simp only [cond_true] at e
    simp only [cntF]
    cases hd : decide ((g k 0).toI ≥ leastV nd sf rd hs hf) <;> rw [hd] at e
    ·exact ⟨_, e, Seen.refl _⟩
    ·exact ⟨_, e, Seen.refl _⟩
   ·have e := s350_eq nd sf wn wf rd hs hf g nl n f i (cntF (leastV nd sf rd hs hf) g nd.toNat) nd.toNat
    rw [k4] at e
    exact e
theorem qG2 : Bm.Good Try.prog G2 := qG1.addS (by kernel_rfl) rfl (by decide) (by decide) rfl i35
end Go.Proofs.Ytgflmdjlpjjnaaa.desk
end
section
set_option linter.unusedSimpArgs false
set_option linter.unusedVariables false
set_option maxRecDepth 20000
namespace Go.Proofs.Ytgflmdjlpjjnaaa.desk
open Go Go.RowKit Go.Proofs.Ytgflmdjlpjjnaaa.Bm
theorem tT (c : CS) (r : Nat × CS) (h : (rT c).run = some r) : ∃ m π c0 c1, Seen c c0 ∧ stepC G2 m (pieceC G2 3 pT) 0 h3 xT π c0 = some (r.1, c1) ∧ Seen c1 r.2 := by
 obtain ⟨nd, sf, wl, wn, wf, rd, hs, hf, g, nl, n, f, i, rfl, hb⟩ := rT_inv h
 obtain ⟨hn, hb2⟩ := chkT_run hb
 have h1 := hn 0 _ rfl
 have h7 := hn 1 _ rfl
 have hwn := hn 2 _ rfl
 have hw := hn 3 _ rfl
 have hs0 := hn 4 _ rfl
 have hs1 := hn 5 _ rfl
 have ok := hn 6 _ rfl
 clear h hb hn
 rw [okHV_eq] at ok
 unfold okHF at ok
 rw [Bool.and_eq_true] at ok
 have ok1 := of_decide_eq_true ok.1
 have ok2 := of_decide_eq_true ok.2
 rw [setV_eq] at hb2
 unfold setF at hb2 ok1
 have b1 := of_decide_eq_true h1
 have b7 := of_decide_eq_true h7
 have c0 := of_decide_eq_true hs0
 have c1 := of_decide_eq_true hs1
 have k2 : decide (sf < (7 : Int)) = true := decide_eq_true (by omega)
 have k3 : Nat.blt (Int.toNat sf) 7 = true := blt_t (by omega)
 have hc := cnt_le (leastV nd sf rd hs hf) (fput g sf.toNat 0 [.int .u64 rd]) nd.toNat
 have k5 : decide (IntKind.wrap .i64 (2 * ((cntF (leastV nd sf rd hs hf) (fput g sf.toNat 0 [.int .u64 rd]) nd.toNat : Nat) : Int)) ≤ nd) = false := by
  have : IntKind.wrap .i64 (2 * ((cntF (leastV nd sf rd hs hf) (fput g sf.toNat 0 [.int .u64 rd]) nd.toNat : Nat) : Int)) = ((2 * cntF (leastV nd sf rd hs hf) (fput g sf.toNat 0 [.int .u64 rd]) nd.toNat : Nat) : Int) := by
   have := wrap_i64 (i := 2 * cntF (leastV nd sf rd hs hf) (fput g sf.toNat 0 [.int .u64 rd]) nd.toNat) (by omega)
   simpa using this
  rw [this]
  exact decide_eq_false (by omega)
 have k6 : decide (leastV nd sf rd hs hf > rd) = false := decide_eq_false (by omega)
 cases wl with
 | true =>
   have hz : wn = 0 := by simpa using hw
   subst hz
   simp only [T.run, cond_true, Option.some.injEq] at hb2; subst hb2
   have e := kT1_eq nd sf rd hs hf g nl n f i
   rw [Nat.zero_add, hs0, k2, k3, h1, h7, cntV_eq] at e
   simp only [cond_true] at e
   rw [show (AV.cells (AV.int .u64 rd)) = [.int .u64 rd] from rfl, k5, k6] at e
   exact ⟨1000, kT1_p, _, _, Seen.mk' (SeenVs.refl _) (.cons (SeenO.cells (.cons (SeenV.refl _) (.cons (SeenV.refl _) (.cons SeenV.nil (SeenVs.refl _))))) (SeenOs.same (SeenOs.same (.skip (SeenOs.refl _))))), e, Seen.refl _⟩
 | false =>
   simp only [T.run, cond_false, Option.some.injEq] at hb2; subst hb2
   have e := kT0_eq nd sf wn wf rd hs hf g nl n f i
   rw [Nat.zero_add, hs0, k2, k3, h1, h7, hwn, cntV_eq] at e
   simp only [cond_true] at e
   rw [show (AV.cells (AV.int .u64 rd)) = [.int .u64 rd] from rfl, k5, k6] at e
   exact ⟨1000, kT0_p, _, _, Seen.refl _, e, Seen.refl _⟩
theorem qG3 : Bm.Good Try.prog G3 := qG2.addB (by kernel_rfl) rfl (by decide) tT
end Go.Proofs.Ytgflmdjlpjjnaaa.desk
end
section
set_option linter.unusedSimpArgs false
set_option linter.unusedVariables false
set_option maxRecDepth 20000
namespace Go.Proofs.Ytgflmdjlpjjnaaa.desk
open Go Go.RowKit Go.Proofs.Ytgflmdjlpjjnaaa.Bm
def okZF (g : Nat → Nat → AV) : Bool := okFrom (fun t => decide ((g t 0).toI = 0)) 0 7
theorem okZVE : ∃ q : (Nat → Nat → AV) → Bool, q = okZF := ⟨_, rfl⟩
noncomputable def okZV : (Nat → Nat → AV) → Bool := Classical.choose okZVE
theorem okZV_eq : okZV = okZF := Classical.choose_spec okZVE
def i3 (nd : Int) (sf : Int) (wf : Nat → Nat → AV) (zc : Nat) (g : Nat → Nat → AV) (nl : Bool) (n : Nat) (f : Nat → Nat → AV) : CS :=
 ⟨[.int .i64 nd, .int .i64 sf, .ptr 0 0, .osl false 1 0 7 7 1 true, .osl nl 2 0 n n 9 true, .int .i64 (n : Nat), .int .i64 0], [some (.cells [.int .i64 nd, .int .i64 sf, .osl true 3 0 0 0 6 true, .int .u64 0, .map 4] true), some (.tarr shU 7 g true), some (.tarr shO n f false), some (.tarr shW 0 wf true), some (.map [] zc)]⟩
noncomputable def r3B  (nd : Int) (sf : Int) (wf : Nat → Nat → AV) (zc : Nat) (g : Nat → Nat → AV) (nl : Bool) (n : Nat) (f : Nat → Nat → AV) : T (Nat × CS) :=
 chkT [decide (1 ≤ nd), decide (nd ≤ 7), decide (0 ≤ sf), decide (sf < nd), Nat.ble n 200, okZV g] (.ret (1, ⟨[], []⟩))
noncomputable def r3  (c : CS) : T (Nat × CS) := match c with
 | ⟨[.int .i64 nd, .int .i64 sf, .ptr 0 0, .osl z_1 1 0 z_2 z_3 1 true, .osl nl 2 0 n z_4 9 true, .int .i64 z_5, .int .i64 z_6], [some (.cells [.int .i64 z_7, .int .i64 z_8, .osl z_9 3 0 z_10 z_11 6 true, .int .u64 z_12, .map 4] true), some (.tarr sh_13 z_14 g true), some (.tarr sh_15 z_16 f false), some (.tarr sh_17 z_18 wf true), some (.map [] zc)]⟩ => chkT [decide (false = z_1), decide (7 = z_2), decide (7 = z_3), decide (n = z_4), decide ((n : Nat) = z_5), decide (0 = z_6), decide (nd = z_7), decide (sf = z_8), decide (true = z_9), decide (0 = z_10), decide (0 = z_11), decide (0 = z_12), shBeq sh_13 shU, decide (7 = z_14), shBeq sh_15 shO, decide (n = z_16), shBeq sh_17 shW, decide (0 = z_18)] (r3B  nd sf wf zc g nl n f)
 | _ => .fail
noncomputable def G4 : Env := addL G3 3 0 1000014 h3 x3 0 r3
noncomputable def G5 : Env := addF G4 6 livesI
theorem r3_inv  {c : CS} {r : Nat × CS} (h : (r3  c).run = some r) : ∃ nd sf wf zc g nl n f, c = i3 nd sf wf zc g nl n f ∧ (r3B  nd sf wf zc g nl n f).run = some r := by
 unfold r3 at h
 split at h
 ·rename_i nd sf z_1 z_2 z_3 nl n z_4 z_5 z_6 z_7 z_8 z_9 z_10 z_11 z_12 sh_13 z_14 g sh_15 z_16 f sh_17 z_18 wf zc
  obtain ⟨hc, hb⟩ := chkT_run h
  have h0 := hc 0 _ rfl
  have h0 := of_decide_eq_true h0; subst h0
  have h1 := hc 1 _ rfl
  have h1 := of_decide_eq_true h1; subst h1
  have h2 := hc 2 _ rfl
  have h2 := of_decide_eq_true h2; subst h2
  have h3 := hc 3 _ rfl
  have h3 := of_decide_eq_true h3; subst h3
  have h4 := hc 4 _ rfl
  have h4 := of_decide_eq_true h4; subst h4
  have h5 := hc 5 _ rfl
  have h5 := of_decide_eq_true h5; subst h5
  have h6 := hc 6 _ rfl
  have h6 := of_decide_eq_true h6; subst h6
  have h7 := hc 7 _ rfl
  have h7 := of_decide_eq_true h7; subst h7
  have h8 := hc 8 _ rfl
  have h8 := of_decide_eq_true h8; subst h8
  have h9 := hc 9 _ rfl
  have h9 := of_decide_eq_true h9; subst h9
  have h10 := hc 10 _ rfl
  have h10 := of_decide_eq_true h10; subst h10
  have h11 := hc 11 _ rfl
  have h11 := of_decide_eq_true h11; subst h11
  have h12 := hc 12 _ rfl
  have h12 := (shBeq_eq h12).symm; subst h12
  have h13 := hc 13 _ rfl
  have h13 := of_decide_eq_true h13; subst h13
  have h14 := hc 14 _ rfl
  have h14 := (shBeq_eq h14).symm; subst h14
  have h15 := hc 15 _ rfl
  have h15 := of_decide_eq_true h15; subst h15
  have h16 := hc 16 _ rfl
  have h16 := (shBeq_eq h16).symm; subst h16
  have h17 := hc 17 _ rfl
  have h17 := of_decide_eq_true h17; subst h17
  exact ⟨nd, sf, wf, zc, g, nl, n, f, rfl, hb⟩
 ·cases h
structure SS where
 L : List Wt
 rd : Int
 hs : AV → Bool
 hf : AV → Nat → AV
 g : Nat → Nat → AV
noncomputable def st3 (nd sf : Int) (s : SS) (nl : Bool) (n : Nat) (f : Nat → Nat → AV) (i : Nat) : CS := match s.L with
 | [] => c31 nd sf s.rd s.hs s.hf s.g nl n f i
 | _ :: _ => c30 nd sf s.L.length (finW s.L) s.rd s.hs s.hf s.g nl n f i
theorem st3_nil {nd sf : Int} {s : SS} {nl : Bool} {n : Nat} {f : Nat → Nat → AV} {i : Nat} (h : s.L = []) : st3 nd sf s nl n f i = c31 nd sf s.rd s.hs s.hf s.g nl n f i := by
 unfold st3; rw [h]
theorem st3_nn {nd sf : Int} {s : SS} {nl : Bool} {n : Nat} {f : Nat → Nat → AV} {i : Nat} (h : s.L ≠ []) : st3 nd sf s nl n f i = c30 nd sf s.L.length (finW s.L) s.rd s.hs s.hf s.g nl n f i := by
 unfold st3
 split
 ·rename_i e; exact absurd e h
 ·rfl
noncomputable def pick3 (nd rd : Int) (n : Nat) (f : Nat → Nat → AV) (i : Nat) (pe p1 p2 p3 p5 p6 p7 p4 : Plan) : Plan := cond (Nat.ble n i) pe (cond (fo f i 0 == 1) p1 (cond (fo f i 0 == 2) p2 (cond (fo f i 0 == 3) (cond (decide (fo f i 6 ≥ 0)) (cond (decide (fo f i 6 < nd)) (cond (decide (fo f i 3 ≤ rd)) p3 p7) p6) p5) p4)))
noncomputable def pi3 : CS → Plan
 | ⟨[.int _ nd, _, _, _, _, _, .int _ (.ofNat i)], [some (.cells [_, _, .nilSlice, .int _ rd, _] _), _, some (.tarr _ n f _), _, _]⟩ => pick3 nd rd n f i s31e_p s31k1_p s31k2_p s31k3_p s31k5_p s31k6_p s31k7_p s31k4_p
 | ⟨[.int _ nd, _, _, _, _, _, .int _ (.ofNat i)], [some (.cells [_, _, _, .int _ rd, _] _), _, some (.tarr _ n f _), _, _]⟩ => pick3 nd rd n f i s30e_p s30k1_p s30k2_p s30k3_p s30k5_p s30k6_p s30k7_p s30k4_p
 | _ => .stop
theorem pi3_nil (nd sf rd : Int) (hs : AV → Bool) (hf : AV → Nat → AV) (g : Nat → Nat → AV) (nl : Bool) (n : Nat) (f : Nat → Nat → AV) (i : Nat) : pi3 (c31 nd sf rd hs hf g nl n f i) = pick3 nd rd n f i s31e_p s31k1_p s31k2_p s31k3_p s31k5_p s31k6_p s31k7_p s31k4_p := rfl
theorem pi3_nn (nd sf : Int) (wn : Nat) (wf : Nat → Nat → AV) (rd : Int) (hs : AV → Bool) (hf : AV → Nat → AV) (g : Nat → Nat → AV) (nl : Bool) (n : Nat) (f : Nat → Nat → AV) (i : Nat) : pi3 (c30 nd sf wn wf rd hs hf g nl n f i) = pick3 nd rd n f i s30e_p s30k1_p s30k2_p s30k3_p s30k5_p s30k6_p s30k7_p s30k4_p := rfl
noncomputable abbrev stp3 (c : CS) : Option (Nat × CS) := stepC G3 600 (loopC G3 3 0) 0 h3 ((.normal, h3) :: x3) (pi3 c) c
theorem seenN3 {nd sf : Int} {L : List Wt} {rd : Int} {hs : AV → Bool} {hf : AV → Nat → AV} {g : Nat → Nat → AV} {nl : Bool} {n : Nat} {f : Nat → Nat → AV} {i : Nat} (hL : L ≠ []) (hi : i ≤ 1000) :
  Seen (uN nd sf L.length (finW L) rd hs hf g nl n f (IntKind.wrap .i64 ((i : Int) + 1))) (st3 nd sf ⟨L, rd, hs, hf, g⟩ nl n f (i + 1)) := by
 rw [st3_nn (show (SS.mk L rd hs hf g).L ≠ [] from hL), wrap_i64s (by omega)]
 exact Seen.refl _
theorem seen03 {nd sf : Int} {rd : Int} {hs : AV → Bool} {hf : AV → Nat → AV} {g : Nat → Nat → AV} {nl : Bool} {n : Nat} {f : Nat → Nat → AV} {i : Nat} (hi : i ≤ 1000) :
  Seen (u0 nd sf rd hs hf g nl n f (IntKind.wrap .i64 ((i : Int) + 1))) (st3 nd sf ⟨[], rd, hs, hf, g⟩ nl n f (i + 1)) := by
 rw [st3_nil (show (SS.mk [] rd hs hf g).L = [] from rfl), wrap_i64s (by omega)]
 exact Seen.mk' (SeenVs.refl _) (.cons (SeenO.cells (.cons (SeenV.refl _) (.cons (SeenV.refl _) (.cons SeenV.nil (SeenVs.refl _))))) (SeenOs.same (SeenOs.same (.skip (SeenOs.refl _)))))
theorem fput_t {g : Nat → Nat → AV} {a : Nat} {v : Int} : (fput g a 0 [.int .u64 v] a 0).toI = v := by
 unfold fput
 rw [Nat.beq_refl]; rfl
theorem fput_o {g : Nat → Nat → AV} {a t : Nat} {v : Int} (h : t ≠ a) : (fput g a 0 [.int .u64 v] t 0).toI = (g t 0).toI := by
 unfold fput
 rw [show Nat.beq t a = false by rw [beq_iff]; exact decide_eq_false h]; rfl
structure Inv3 (nd sf : Int) (i : Nat) (s : SS) : Prop where
 len : s.L.length ≤ 64
 rd0 : 0 ≤ s.rd
 rdi : s.rd ≤ i
 gv : ∀ t : Nat, (t : Int) < nd → (s.g t 0).toI = hrdF sf s.rd s.hs s.hf t
 bd : ∀ t : Nat, (t : Int) < nd → hrdF sf s.rd s.hs s.hf t ≤ s.rd
theorem inv3 {nd sf : Int} (h1 : 1 ≤ nd) (hs0 : 0 ≤ sf) {i : Nat} {L' : List Wt} {rd' : Int} {hs' : AV → Bool} {hf' : AV → Nat → AV} {g1 : Nat → Nat → AV} (hl : L'.length ≤ 64) (hr0 : 0 ≤ rd') (hri : rd' ≤ ((i + 1 : Nat) : Int))
  (hg : ∀ t : Nat, (t : Int) < nd → (t : Int) ≠ sf → (g1 t 0).toI = hrdF sf rd' hs' hf' t) (hb : ∀ t : Nat, (t : Int) < nd → hrdF sf rd' hs' hf' t ≤ rd') :
  okHV nd sf rd' (leastV nd sf rd' hs' hf') g1 = true ∧ Inv3 nd sf (i + 1) ⟨L', rd', hs', hf', setV g1 sf rd'⟩ := by
 have hv : ∀ t : Nat, (t : Int) < nd → (setF g1 sf rd' t 0).toI = hrdF sf rd' hs' hf' t := fun t ht => by
  unfold setF
  by_cases hts : (t : Int) = sf
  ·have : t = sf.toNat := by omega
   rw [← this, fput_t, hrd_t hts]
  ·rw [fput_o (by omega), hg t ht hts]
 obtain ⟨k1, k2⟩ := least_ok h1 hb hv
 refine ⟨?_, ⟨hl, hr0, hri, fun t ht => ?_, hb⟩⟩
 ·rw [okHV_eq]
  unfold okHF
  rw [decide_eq_true k1, decide_eq_true k2]; rfl
 ·show (setV g1 sf rd' t 0).toI = _
  rw [setV_eq]; exact hv t ht
theorem beq_int (a b : Int) : AV.beq (.int .i64 a) (.int .i64 b) = decide (a = b) := by
 simp only [AV.beq, decide_true, Bool.true_and]
theorem he_f {nd sf rd k r : Int} {hs : AV → Bool} {hf : AV → Nat → AV} (h : heU nd sf rd k r = false) : heSV (heUV nd sf rd k r) k hs = hs ∧ heFV (heUV nd sf rd k r) k r hs hf = hf := by
 rw [heUV_eq, h, heSV_eq, heFV_eq]; exact ⟨rfl, rfl⟩
theorem he_hrd {nd sf rd k r : Int} {hs : AV → Bool} {hf : AV → Nat → AV} (h : heU nd sf rd k r = true) {t : Int} (ht : t ≠ sf) :
  hrdF sf rd (heSV (heUV nd sf rd k r) k hs) (heFV (heUV nd sf rd k r) k r hs hf) t = if t = k then (if r > hrdF sf rd hs hf k then r else hrdF sf rd hs hf k) else hrdF sf rd hs hf t := by
 rw [heUV_eq, h, heSV_eq, heFV_eq, hrd_f ht]
 simp only [heS, heF, cond_true, beq_int]
 by_cases htk : t = k
 ·subst htk
  rw [if_pos rfl, decide_eq_true rfl, hrd_f ht]; rfl
 ·rw [if_neg htk, decide_eq_false htk, hrd_f ht]; rfl
theorem okT_out {S : Int} {L : List Wt} : okTV S (finW (L.filter (qbV S))) (L.filter (qbV S)).length = true := by
 rw [okTV_eq]
 refine okFrom_iff.2 fun j hj => ?_
 rw [Nat.zero_add]
 have hm : (L.filter (qbV S)).getD j nilW ∈ L.filter (qbV S) := by
  rw [List.getD_eq_getElem?_getD, List.getElem?_eq_getElem hj]
  exact List.getElem_mem hj
 have hq := (List.mem_filter.1 hm).2
 have hx : ∀ x : Wt, qbV S x = true → x.rd ≤ S := fun x h => by
  rw [qbV_eq] at h
  simp only [qbF, Bool.and_eq_true, decide_eq_true_eq] at h
  exact h.2
 have hw := congrArg Wt.rd (wtAt_fin (L.filter (qbV S)) j)
 refine decide_eq_true ?_
 rw [show (wtAt (finW (L.filter (qbV S))) j).rd = (finW (L.filter (qbV S)) j 5).toI from rfl] at hw
 rw [hw]
 exact hx _ hq
theorem okT_nil (S : Int) : okTV S bd 0 = true := by rw [okTV_eq]; rfl
theorem tree4 {nd sf rd : Int} {H : AV → Bool} {K : AV → Nat → AV} {S : Int} {O R : List Wt} {G : Nat → Nat → AV} {nl : Bool} {n : Nat} {f : Nat → Nat → AV} {i : Nat} (hO : O.length ≤ 1000) (hR : R.length ≤ 1000) (hT : okTV S (finW O) O.length = true) (hH : okHV nd sf rd S G = true) :
  (cond (Nat.beq (List.length O) 0)
 (cond (Nat.beq (List.length R) 0)
 (cond (okTV S bd 0)
 (cond (okHV (nd) (sf) (rd) S G)
 (some (0, (u0 nd sf rd H K (setV G (sf) (rd)) nl n f (IntKind.wrap .i64 ((↑i : Int) + 1)))))
 none)
 none)
 (cond (Nat.ble (List.length R) 1000)
 (cond (okTV S bd 0)
 (cond (okHV (nd) (sf) (rd) S G)
 (some (0, (uN nd sf (List.length R) (finW (R)) rd H K (setV G (sf) (rd)) nl n f (IntKind.wrap .i64 ((↑i : Int) + 1)))))
 none)
 none)
 none))
 (cond (Nat.beq (List.length R) 0)
 (cond (Nat.ble (List.length O) 1000)
 (cond (okTV S (finW (O)) (List.length O))
 (cond (okHV (nd) (sf) (rd) S G)
 (some (0, (u0 nd sf rd H K (setV G (sf) (rd)) nl n f (IntKind.wrap .i64 ((↑i : Int) + 1)))))
 none)
 none)
 none)
 (cond (Nat.ble (List.length R) 1000)
 (cond (Nat.ble (List.length O) 1000)
 (cond (okTV S (finW (O)) (List.length O))
 (cond (okHV (nd) (sf) (rd) S G)
 (some (0, (uN nd sf (List.length R) (finW (R)) rd H K (setV G (sf) (rd)) nl n f (IntKind.wrap .i64 ((↑i : Int) + 1)))))
 none)
 none)
 none)
 none)) : Option (Nat × CS)) = some (0, cond (Nat.beq (List.length R) 0) (u0 nd sf rd H K (setV G (sf) (rd)) nl n f (IntKind.wrap .i64 ((↑i : Int) + 1))) (uN nd sf (List.length R) (finW (R)) rd H K (setV G (sf) (rd)) nl n f (IntKind.wrap .i64 ((↑i : Int) + 1)))) := by
 rw [okT_nil, hT, hH, ble_t hO, ble_t hR]
 cases Nat.beq (List.length O) 0 <;> cases Nat.beq (List.length R) 0 <;> rfl
theorem seen4 {nd sf rd : Int} {H : AV → Bool} {K : AV → Nat → AV} {R : List Wt} {G : Nat → Nat → AV} {nl : Bool} {n : Nat} {f : Nat → Nat → AV} {i : Nat} (hi : i ≤ 1000) :
  Seen (cond (Nat.beq (List.length R) 0) (u0 nd sf rd H K G nl n f (IntKind.wrap .i64 ((↑i : Int) + 1))) (uN nd sf (List.length R) (finW (R)) rd H K G nl n f (IntKind.wrap .i64 ((↑i : Int) + 1)))) (st3 nd sf ⟨R, rd, H, K, G⟩ nl n f (i + 1)) := by
 cases hq : Nat.beq (List.length R) 0 with
 | true =>
   have := beq_len hq
   subst this
   exact seen03 hi
 | false => exact seenN3 (fun e => by rw [e] at hq; cases hq) hi
end Go.Proofs.Ytgflmdjlpjjnaaa.desk
end
section
set_option linter.unusedSimpArgs false
set_option linter.unusedVariables false
set_option maxRecDepth 20000
namespace Go.Proofs.Ytgflmdjlpjjnaaa.desk
open Go Go.RowKit Go.Proofs.Ytgflmdjlpjjnaaa.Bm
theorem out_fin (q : Wt → Bool) (L : List Wt) : outV q (finW L) L.length = L.filter q := by rw [outV_eq, outX, rdW_fin]
theorem apd_ (L : List Wt) (x : Wt) : apdV L x = L ++ [x] := by rw [apdV_eq]; rfl
theorem wrap_u64p {x : Int} (h0 : 0 ≤ x) (h1 : x ≤ 1000) : IntKind.wrap .u64 (x + 1) = x + 1 := by
 have h : IntKind.wrap .u64 (x + 1) = (x + 1) % 18446744073709551616 := rfl
 rw [h]; omega
theorem heard3 {nd sf rd : Int} {hs : AV → Bool} {hf : AV → Nat → AV} {g : Nat → Nat → AV} {k r : Int} (gv : ∀ t : Nat, (t : Int) < nd → (g t 0).toI = hrdF sf rd hs hf t) (hb : ∀ t : Nat, (t : Int) < nd → hrdF sf rd hs hf t ≤ rd) :
  (∀ t : Nat, (t : Int) < nd → hrdF sf rd (heSV (heUV nd sf rd k r) k hs) (heFV (heUV nd sf rd k r) k r hs hf) t ≤ rd) ∧
  (∀ t : Nat, (t : Int) < nd → (t : Int) ≠ sf → 0 ≤ k → k < nd → r ≤ rd → (fput g (0 + Int.toNat k) 0 [.int .u64 (if r > AV.toI (g (0 + Int.toNat k) 0) then r else AV.toI (g (0 + Int.toNat k) 0))] t 0).toI = hrdF sf rd (heSV (heUV nd sf rd k r) k hs) (heFV (heUV nd sf rd k r) k r hs hf) t) ∧
  (∀ t : Nat, (t : Int) < nd → (t : Int) ≠ sf → ¬ (0 ≤ k ∧ k < nd ∧ r ≤ rd) → (g t 0).toI = hrdF sf rd (heSV (heUV nd sf rd k r) k hs) (heFV (heUV nd sf rd k r) k r hs hf) t) := by
 by_cases hu : heU nd sf rd k r = true
 ·have hu' := hu
  simp only [heU, Bool.and_eq_true, decide_eq_true_eq, bne_iff_ne] at hu'
  obtain ⟨u1, u2, u3, u4⟩ := hu'
  refine ⟨fun t ht => ?_, fun t ht hts _ _ _ => ?_, fun t ht hts hn => absurd ⟨u1, u2, u4⟩ hn⟩
  ·by_cases hts : (t : Int) = sf
   ·rw [hrd_t hts]; omega
   ·rw [he_hrd hu hts]
    have hk := hb k.toNat (by omega)
    rw [show ((k.toNat : Nat) : Int) = k by omega] at hk
    have := hb t ht
    split
    ·split <;> omega
    ·exact this
  ·rw [he_hrd hu hts, Nat.zero_add]
   have hk := gv k.toNat (by omega)
   rw [show ((k.toNat : Nat) : Int) = k by omega] at hk
   by_cases htk : (t : Int) = k
   ·have e : t = k.toNat := by omega
    rw [if_pos htk, ← e, fput_t]
    rw [e, hk]
   ·rw [if_neg htk, fput_o (by omega), gv t ht]
 ·have hu := Bool.eq_false_iff.2 hu
  obtain ⟨e1, e2⟩ := he_f (hs := hs) (hf := hf) hu
  rw [e1, e2]
  refine ⟨hb, fun t ht hts h0 h1 h2 => ?_, fun t ht hts _ => gv t ht⟩
  have hk : k = sf := by
   simp only [heU, decide_eq_true h0, decide_eq_true h1, decide_eq_true h2, Bool.true_and, Bool.and_true, decide_eq_true (show k ≥ 0 from h0)] at hu
   simpa using hu
  rw [Nat.zero_add, fput_o (by omega), gv t ht]
theorem step3 (nd sf : Int) (h1 : decide (1 ≤ nd) = true) (h7 : decide (nd ≤ 7) = true) (hs0 : decide (0 ≤ sf) = true) (hs1 : decide (sf < nd) = true) (nl : Bool) (n : Nat) (f : Nat → Nat → AV) (hn : n ≤ 200) (s : SS) (i : Nat) (hi : i < n) (hI : Inv3 nd sf i s) :
  ∃ c1 s', stp3 (st3 nd sf s nl n f i) = some (0, c1) ∧ Seen c1 (st3 nd sf s' nl n f (i + 1)) ∧ Inv3 nd sf (i + 1) s' := by
 have b1 := of_decide_eq_true h1
 have b7 := of_decide_eq_true h7
 have b0 := of_decide_eq_true hs0
 have hlen := hI.len
 have hr0 := hI.rd0
 have hri := hI.rdi
 have a0 : decide ((i : Int) < (n : Int)) = true := lt1 hi
 have a1 : Nat.blt (0 + Int.toNat (i : Int)) n = true := by rw [ix0]; exact blt_t hi
 have ai : i ≤ 1000 := by omega
 have aw : Nat.ble s.L.length 1000 = true := ble_t (by omega)
 have wr := wrap_u64p hr0 (show s.rd ≤ 1000 by omega)
 -- the same numbers, a round later or not
 have same : ∀ (L' : List Wt) (rd' : Int), L'.length ≤ 64 → s.rd ≤ rd' → rd' ≤ s.rd + 1 → okHV nd sf rd' (leastV nd sf rd' s.hs s.hf) s.g = true ∧ Inv3 nd sf (i + 1) ⟨L', rd', s.hs, s.hf, setV s.g sf rd'⟩ := fun L' rd' hl hr1 hr2 =>
  inv3 b1 b0 hl (by omega) (by omega) (fun t ht hts => by rw [hI.gv t ht, hrd_f hts, hrd_f hts]) (fun t ht => by
   by_cases hts : (t : Int) = sf
   ·rw [hrd_t hts]; omega
   ·have := hI.bd t ht
    rw [hrd_f hts] at this ⊢
    omega)
 obtain ⟨e1, e2, e3⟩ := heard3 (k := fo f i 6) (r := fo f i 3) hI.gv hI.bd
 have hR : ∀ q : Wt → Bool, (s.L.filter q).length ≤ 64 := fun q => Nat.le_trans (List.length_filter_le _ _) hlen
 -- heard, and noted
 have hear : ∀ S G, leastV nd sf s.rd (heSV (heUV nd sf s.rd (fo f i 6) (fo f i 3)) (fo f i 6) s.hs) (heFV (heUV nd sf s.rd (fo f i 6) (fo f i 3)) (fo f i 6) (fo f i 3) s.hs s.hf) = S →
   (∀ t : Nat, (t : Int) < nd → (t : Int) ≠ sf → (G t 0).toI = hrdF sf s.rd (heSV (heUV nd sf s.rd (fo f i 6) (fo f i 3)) (fo f i 6) s.hs) (heFV (heUV nd sf s.rd (fo f i 6) (fo f i 3)) (fo f i 6) (fo f i 3) s.hs s.hf) t) →
   okHV nd sf s.rd S G = true ∧ Inv3 nd sf (i + 1) ⟨s.L.filter (fun x => !(qbV S x)), s.rd, heSV (heUV nd sf s.rd (fo f i 6) (fo f i 3)) (fo f i 6) s.hs, heFV (heUV nd sf s.rd (fo f i 6) (fo f i 3)) (fo f i 6) (fo f i 3) s.hs s.hf, setV G sf s.rd⟩ := fun S G hS hG => by
  subst hS
  exact inv3 b1 b0 (hR _) hr0 (by omega) hG e1
 by_cases hL : s.L = []
 ·rw [st3_nil hL]
  unfold stp3
  rw [pi3_nil]
  unfold pick3
  rw [ble_f (show ¬ n ≤ i by omega), cond_false]
  cases k1 : (fo f i 0 == 1) with
  | true =>
    have e := s31k1_eq nd sf s.rd s.hs s.hf s.g nl n f i a0 a1 h1 h7 hs0 hs1 k1
    obtain ⟨z1, z2⟩ := same [⟨fo f i 1, fo f i 2, 0, fo f i 4, fo f i 5, s.rd + 1⟩] (s.rd + 1) (by simp) (by omega) (by omega)
    simp only [outV_zero, apd_, List.nil_append, List.length_nil, ble_f (show ¬ 64 ≤ 0 by omega), wr, z1, cond_true, cond_false, show ∀ x : Wt, Nat.ble [x].length 1000 = true from fun _ => rfl] at e
    exact ⟨_, _, e, seenN3 (by simp) ai, z2⟩
  | false =>
    cases k2 : (fo f i 0 == 2) with
    | true =>
      have e := s31k2_eq nd sf s.rd s.hs s.hf s.g nl n f i a0 a1 h1 h7 hs0 hs1 k1 k2
      obtain ⟨z1, z2⟩ := same [] (s.rd + 1) (by simp) (by omega) (by omega)
      simp only [nd0 b1, wr, z1, cond_true, cond_false] at e
      exact ⟨_, _, e, seen03 ai, z2⟩
    | false =>
      cases k3 : (fo f i 0 == 3) with
      | true =>
        have o0 : ∀ S, outV (qbV S) bd 0 = s.L.filter (qbV S) := fun S => by rw [outV_zero, hL]; rfl
        have o1 : ∀ S, outV (fun x => !(qbV S x)) bd 0 = s.L.filter (fun x => !(qbV S x)) := fun S => by rw [outV_zero, hL]; rfl
        have tr : ∀ S, (s.L.filter (qbV S)).length ≤ 1000 := fun S => Nat.le_trans (hR _) (by decide)
        cases k4 : decide (fo f i 6 ≥ 0) with
        | true =>
          have g4 := of_decide_eq_true k4
          cases k5 : decide (fo f i 6 < nd) with
          | true =>
            have g5 := of_decide_eq_true k5
            cases k6 : decide (fo f i 3 ≤ s.rd) with
            | true =>
              have g6 := of_decide_eq_true k6
              obtain ⟨z1, z2⟩ := hear _ _ rfl fun t ht hts => e2 t ht hts g4 g5 g6
              have e := s31k3_eq nd sf s.rd s.hs s.hf s.g nl n f i a0 a1 h1 h7 hs0 hs1 k1 k2 k3 k4 k5 k6 (decide_eq_true (by omega)) (decide_eq_true (by omega)) (blt_t (by omega)) _ rfl _ rfl _ rfl _ rfl _ (o0 _) _ (o1 _)
              rw [tree4 (tr _) (Nat.le_trans (hR _) (by decide)) okT_out z1] at e
              exact ⟨_, _, e, seen4 ai, z2⟩
            | false =>
              have g6 := of_decide_eq_false k6
              obtain ⟨z1, z2⟩ := hear _ _ rfl fun t ht hts => e3 t ht hts fun h => g6 h.2.2
              have e := s31k7_eq nd sf s.rd s.hs s.hf s.g nl n f i a0 a1 h1 h7 hs0 hs1 k1 k2 k3 k4 k5 k6 _ rfl _ rfl _ rfl _ (o0 _) _ (o1 _)
              rw [tree4 (tr _) (Nat.le_trans (hR _) (by decide)) okT_out z1] at e
              exact ⟨_, _, e, seen4 ai, z2⟩
          | false =>
            have g5 := of_decide_eq_false k5
            obtain ⟨z1, z2⟩ := hear _ _ rfl fun t ht hts => e3 t ht hts fun h => g5 h.2.1
            have e := s31k6_eq nd sf s.rd s.hs s.hf s.g nl n f i a0 a1 h1 h7 hs0 hs1 k1 k2 k3 k4 k5 _ rfl _ rfl _ rfl _ (o0 _) _ (o1 _)
            rw [tree4 (tr _) (Nat.le_trans (hR _) (by decide)) okT_out z1] at e
            exact ⟨_, _, e, seen4 ai, z2⟩
        | false =>
          have g4 := of_decide_eq_false k4
          obtain ⟨z1, z2⟩ := hear _ _ rfl fun t ht hts => e3 t ht hts fun h => g4 h.1
          have e := s31k5_eq nd sf s.rd s.hs s.hf s.g nl n f i a0 a1 h1 h7 hs0 hs1 k1 k2 k3 k4 _ rfl _ rfl _ rfl _ (o0 _) _ (o1 _)
          rw [tree4 (tr _) (Nat.le_trans (hR _) (by decide)) okT_out z1] at e
          exact ⟨_, _, e, seen4 ai, z2⟩
      | false =>
        have e := s31k4_eq nd sf s.rd s.hs s.hf s.g nl n f i a0 a1 h1 h7 hs0 hs1 k1 k2 k3
        obtain ⟨z1, z2⟩ := same [] s.rd (by simp) (by omega) (by omega)
        simp only [z1, cond_true] at e
        exact ⟨_, _, e, seen03 ai, z2⟩
 ·rw [st3_nn hL]
  unfold stp3
  rw [pi3_nn]
  unfold pick3
  rw [ble_f (show ¬ n ≤ i by omega), cond_false]
  cases k1 : (fo f i 0 == 1) with
  | true =>
    have e := s30k1_eq nd sf s.L.length (finW s.L) s.rd s.hs s.hf s.g nl n f i a0 a1 h1 h7 hs0 hs1 aw k1
    simp only [out_fin, apd_, wr] at e
    have hr := hR (fun x => !(qaV (fo f i 1) (fo f i 2) x))
    generalize s.L.filter (fun x => !(qaV (fo f i 1) (fo f i 2) x)) = R at e hr
    cases hm : Nat.ble 64 R.length with
    | true =>
      have hm' := le_of hm
      obtain ⟨z1, z2⟩ := same R s.rd hr (by omega) (by omega)
      simp only [hm, ble_t (show R.length ≤ 1000 by omega), z1, cond_true] at e
      exact ⟨_, _, e, seenN3 (fun z => by rw [z] at hm'; simp at hm') ai, z2⟩
    | false =>
      have hm' : ¬ 64 ≤ R.length := fun z => by rw [ble_t z] at hm; cases hm
      obtain ⟨z1, z2⟩ := same (R ++ [⟨fo f i 1, fo f i 2, 0, fo f i 4, fo f i 5, s.rd + 1⟩]) (s.rd + 1) (by simp; omega) (by omega) (by omega)
      simp only [hm, ble_t (show (R ++ [(⟨fo f i 1, fo f i 2, 0, fo f i 4, fo f i 5, s.rd + 1⟩ : Wt)]).length ≤ 1000 by simp; omega), z1, cond_true, cond_false] at e
      exact ⟨_, _, e, seenN3 (by simp) ai, z2⟩
  | false =>
    cases k2 : (fo f i 0 == 2) with
    | true =>
      have e := s30k2_eq nd sf s.L.length (finW s.L) s.rd s.hs s.hf s.g nl n f i a0 a1 h1 h7 hs0 hs1 aw k1 k2
      obtain ⟨z1, z2⟩ := same s.L (s.rd + 1) hlen (by omega) (by omega)
      simp only [nd0 b1, wr, z1, cond_true, cond_false] at e
      exact ⟨_, _, e, seenN3 hL ai, z2⟩
    | false =>
      cases k3 : (fo f i 0 == 3) with
      | true =>
        have tr : ∀ S, (s.L.filter (qbV S)).length ≤ 1000 := fun S => Nat.le_trans (hR _) (by decide)
        cases k4 : decide (fo f i 6 ≥ 0) with
        | true =>
          have g4 := of_decide_eq_true k4
          cases k5 : decide (fo f i 6 < nd) with
          | true =>
            have g5 := of_decide_eq_true k5
            cases k6 : decide (fo f i 3 ≤ s.rd) with
            | true =>
              have g6 := of_decide_eq_true k6
              obtain ⟨z1, z2⟩ := hear _ _ rfl fun t ht hts => e2 t ht hts g4 g5 g6
              have e := s30k3_eq nd sf s.L.length (finW s.L) s.rd s.hs s.hf s.g nl n f i a0 a1 h1 h7 hs0 hs1 aw k1 k2 k3 k4 k5 k6 (decide_eq_true (by omega)) (decide_eq_true (by omega)) (blt_t (by omega)) _ rfl _ rfl _ rfl _ rfl _ (out_fin _ _) _ (out_fin _ _)
              rw [tree4 (tr _) (Nat.le_trans (hR _) (by decide)) okT_out z1] at e
              exact ⟨_, _, e, seen4 ai, z2⟩
            | false =>
              have g6 := of_decide_eq_false k6
              obtain ⟨z1, z2⟩ := hear _ _ rfl fun t ht hts => e3 t ht hts fun h => g6 h.2.2
              have e := s30k7_eq nd sf s.L.length (finW s.L) s.rd s.hs s.hf s.g nl n f i a0 a1 h1 h7 hs0 hs1 aw k1 k2 k3 k4 k5 k6 _ rfl _ rfl _ rfl _ (out_fin _ _) _ (out_fin _ _)
              rw [tree4 (tr _) (Nat.le_trans (hR _) (by decide)) okT_out z1] at e
              exact ⟨_, _, e, seen4 ai, z2⟩
          | false =>
            have g5 := of_decide_eq_false k5
            obtain ⟨z1, z2⟩ := hear _ _ rfl fun t ht hts => e3 t ht hts fun h => g5 h.2.1
            have e := s30k6_eq nd sf s.L.length (finW s.L) s.rd s.hs s.hf s.g nl n f i a0 a1 h1 h7 hs0 hs1 aw k1 k2 k3 k4 k5 _ rfl _ rfl _ rfl _ (out_fin _ _) _ (out_fin _ _)
            rw [tree4 (tr _) (Nat.le_trans (hR _) (by decide)) okT_out z1] at e
            exact ⟨_, _, e, seen4 ai, z2⟩
        | false =>
          have g4 := of_decide_eq_false k4
          obtain ⟨z1, z2⟩ := hear _ _ rfl fun t ht hts => e3 t ht hts fun h => g4 h.1
          have e := s30k5_eq nd sf s.L.length (finW s.L) s.rd s.hs s.hf s.g nl n f i a0 a1 h1 h7 hs0 hs1 aw k1 k2 k3 k4 _ rfl _ rfl _ rfl _ (out_fin _ _) _ (out_fin _ _)
          rw [tree4 (tr _) (Nat.le_trans (hR _) (by decide)) okT_out z1] at e
          exact ⟨_, _, e, seen4 ai, z2⟩
      | false =>
        have e := s30k4_eq nd sf s.L.length (finW s.L) s.rd s.hs s.hf s.g nl n f i a0 a1 h1 h7 hs0 hs1 aw k1 k2 k3
        obtain ⟨z1, z2⟩ := same s.L s.rd hlen (by omega) (by omega)
        simp only [z1, cond_true] at e
        exact ⟨_, _, e, seenN3 hL ai, z2⟩
theorem il3 (c : CS) (r : Nat × CS) (h : (r3 c).run = some r) : Loops stp3 c r.1 r.2 := by
 obtain ⟨nd, sf, wf, zc, g, nl, n, f, rfl, hb⟩ := r3_inv h
 obtain ⟨hn, hb2⟩ := chkT_run hb
 have h1 := hn 0 _ rfl
 have h7 := hn 1 _ rfl
 have hs0 := hn 2 _ rfl
 have hs1 := hn 3 _ rfl
 have hle := le_of (hn 4 _ rfl)
 have hok := hn 5 _ rfl
 clear h hb hn
 have b7 := of_decide_eq_true h7
 rw [okZV_eq] at hok
 simp only [T.run, Option.some.injEq] at hb2; subst hb2
 refine Loops.see (c1 := st3 nd sf ⟨[], 0, fun _ => false, fun _ _ => .bad, g⟩ nl n f 0) ?_ ?_
 ·rw [st3_nil (show (SS.mk [] 0 (fun _ => false) (fun _ _ => .bad) g).L = [] from rfl)]
  exact Seen.mk' (SeenVs.refl _) (.cons (SeenO.cells (.cons (SeenV.refl _) (.cons (SeenV.refl _) (.cons SeenV.nil (SeenVs.refl _))))) (SeenOs.same (SeenOs.same (.skip (.cons (SeenO.omap0 fun _ => rfl) (SeenOs.refl _))))))
 ·refine Loops.inv (X := Nat × SS) (C := fun p => st3 nd sf p.2 nl n f p.1) (fun p => p.1 ≤ n ∧ Inv3 nd sf p.1 p.2) (fun p => n - p.1) (fun _ => (1, ⟨[], []⟩)) (fun p hp => ?_) (0, ⟨[], 0, fun _ => false, fun _ _ => .bad, g⟩) ⟨Nat.zero_le _, ⟨Nat.zero_le _, Int.le_refl _, Int.le_refl _, fun t ht => ?_, fun t ht => ?_⟩⟩
  ·obtain ⟨i, s⟩ := p
   obtain ⟨hi, hI⟩ := hp
   by_cases he : i = n
   ·subst he
    refine .inr ⟨⟨[], []⟩, 0, ?_, rfl, Seen.refl _⟩
    by_cases hL : s.L = []
    ·show stp3 (st3 nd sf s nl i f i) = _
     rw [st3_nil hL]
     unfold stp3
     rw [pi3_nil]
     unfold pick3
     rw [ble_t (Nat.le_refl i), cond_true]
     exact s31e_eq nd sf s.rd s.hs s.hf s.g nl i f i (lt0 i)
    ·show stp3 (st3 nd sf s nl i f i) = _
     rw [st3_nn hL]
     unfold stp3
     rw [pi3_nn]
     unfold pick3
     rw [ble_t (Nat.le_refl i), cond_true]
     exact s30e_eq nd sf s.L.length (finW s.L) s.rd s.hs s.hf s.g nl i f i (lt0 i)
   ·have hlt : i < n := by have : i ≤ n := hi; omega
    obtain ⟨c1, s', z1, z2, z3⟩ := step3 nd sf h1 h7 hs0 hs1 nl n f hle s i hlt hI
    exact .inl ⟨c1, (i + 1, s'), z1, z2, ⟨hlt, z3⟩, by simp only; omega, rfl⟩
  ·have hz := okFrom_iff.1 hok t (by omega)
   rw [Nat.zero_add] at hz
   show (g t 0).toI = hrdF sf 0 (fun _ => false) (fun _ _ => .bad) t
   rw [of_decide_eq_true hz]
   by_cases hts : (t : Int) = sf
   ·rw [hrd_t hts]
   ·rw [hrd_f hts]; rfl
  ·show hrdF sf 0 (fun _ => false) (fun _ _ => .bad) t ≤ 0
   by_cases hts : (t : Int) = sf
   ·rw [hrd_t hts]; exact Int.le_refl _
   ·rw [hrd_f hts]; exact Int.le_refl _
theorem qG4 : Bm.Good Try.prog G4 := qG3.addS (by kernel_rfl) rfl (by decide) (by decide) rfl il3
end Go.Proofs.Ytgflmdjlpjjnaaa.desk
end
