/- Sets of nodes: what the machine reckons of the loops and functions, by canonical states. No condition. -/
import Derived.Test.YtckpljmiodgejaaRows
import Derived.Test.YtckpljmiodgejaaBmVk
import Derived.KernelRfl
set_option linter.unusedSimpArgs false
set_option linter.unusedVariables false
set_option maxRecDepth 20000
namespace Go.Proofs.Ytckpljmiodgejaa.quorumTells
open Go Go.RowKit Go.Proofs.Ytckpljmiodgejaa.Bm
noncomputable def E0 : Env := mkEnv Try.prog 123 99
abbrev shI : List Sh := [.int .i64]
/-- The bits of the first k places. -/
def popN : Nat → Nat → Nat
  | 0, _ => 0
  | k + 1, x => x % 2 + popN k (x / 2)
def mems (s k : Nat) : List Nat := (List.range k).filter fun i => s.testBit i
def addN (s : Nat) (x : Int) : Nat := if 0 ≤ x ∧ x < 64 then s ||| 2 ^ x.toNat else s
def withN (s : Nat) (f : Nat → Int) : Nat → Nat
  | 0 => s
  | n + 1 => addN (withN s f n) (f n)
def anyN (f : Nat → Int) (i : Nat) : Nat → Bool
  | 0 => false
  | n + 1 => anyN f i n || decide (f n = i)
def hasF (s nd : Int) : Bool := decide (0 ≤ nd) && decide (nd < 64) && s.toNat.testBit nd.toNat
def cntF (s : Int) : Nat := (mems s.toNat 64).length
def memF (s : Int) (t : Nat) : Int := (((mems s.toNat 64)[t]?.getD 0 : Nat) : Int)
def memA (s : Int) (t _ : Nat) : AV := .int .i64 (memF s t)
def rng (x : Int) : Bool := decide (0 ≤ x) && decide (x < 18446744073709551616)
def withF (s : Int) (f : Nat → Nat → AV) (n : Nat) : Int := ((withN s.toNat (fun i => (f i 0).toI) n : Nat) : Int)
def anyF (f : Nat → Nat → AV) (i : Int) (n : Nat) : Bool := anyN (fun t => (f t 0).toI) i.toNat n
def ctF (s : Int) (g : Nat → Nat → AV) (n : Nat) : Nat := (List.range n).countP fun i => hasF s (g i 0).toI
def eqF (f g : Nat → Nat → AV) (n : Nat) : Bool := okFrom (fun i => (f i 0).toI == (g i 0).toI) 0 n
def divF (s nd : Int) : Int := s / 2 ^ nd.toNat
def popF (x : Int) : Nat := popN 64 x.toNat
theorem rngVE : ∃ q : Int → Bool, q = rng := ⟨_, rfl⟩
/-- As rng (not unfolded by the kernel). -/
noncomputable def rngV : Int → Bool := Classical.choose rngVE
theorem rngV_eq : rngV = rng := Classical.choose_spec rngVE
theorem hasVE : ∃ q : Int → Int → Bool, q = hasF := ⟨_, rfl⟩
/-- As hasF (not unfolded by the kernel). -/
noncomputable def hasV : Int → Int → Bool := Classical.choose hasVE
theorem hasV_eq : hasV = hasF := Classical.choose_spec hasVE
theorem cntVE : ∃ q : Int → Nat, q = cntF := ⟨_, rfl⟩
/-- As cntF (not unfolded by the kernel). -/
noncomputable def cntV : Int → Nat := Classical.choose cntVE
theorem cntV_eq : cntV = cntF := Classical.choose_spec cntVE
theorem memVE : ∃ q : Int → Nat → Nat → AV, q = memA := ⟨_, rfl⟩
/-- As memA (not unfolded by the kernel). -/
noncomputable def memV : Int → Nat → Nat → AV := Classical.choose memVE
theorem memV_eq : memV = memA := Classical.choose_spec memVE
theorem withVE : ∃ q : Int → (Nat → Nat → AV) → Nat → Int, q = withF := ⟨_, rfl⟩
/-- As withF (not unfolded by the kernel). -/
noncomputable def withV : Int → (Nat → Nat → AV) → Nat → Int := Classical.choose withVE
theorem withV_eq : withV = withF := Classical.choose_spec withVE
theorem anyVE : ∃ q : (Nat → Nat → AV) → Int → Nat → Bool, q = anyF := ⟨_, rfl⟩
/-- As anyF (not unfolded by the kernel). -/
noncomputable def anyV : (Nat → Nat → AV) → Int → Nat → Bool := Classical.choose anyVE
theorem anyV_eq : anyV = anyF := Classical.choose_spec anyVE
theorem ctVE : ∃ q : Int → (Nat → Nat → AV) → Nat → Nat, q = ctF := ⟨_, rfl⟩
/-- As ctF (not unfolded by the kernel). -/
noncomputable def ctV : Int → (Nat → Nat → AV) → Nat → Nat := Classical.choose ctVE
theorem ctV_eq : ctV = ctF := Classical.choose_spec ctVE
theorem eqVE : ∃ q : (Nat → Nat → AV) → (Nat → Nat → AV) → Nat → Bool, q = eqF := ⟨_, rfl⟩
/-- As eqF (not unfolded by the kernel). -/
noncomputable def eqV : (Nat → Nat → AV) → (Nat → Nat → AV) → Nat → Bool := Classical.choose eqVE
theorem eqV_eq : eqV = eqF := Classical.choose_spec eqVE
theorem divVE : ∃ q : Int → Int → Int, q = divF := ⟨_, rfl⟩
/-- As divF (not unfolded by the kernel). -/
noncomputable def divV : Int → Int → Int := Classical.choose divVE
theorem divV_eq : divV = divF := Classical.choose_spec divVE
theorem popVE : ∃ q : Int → Nat, q = popF := ⟨_, rfl⟩
/-- As popF (not unfolded by the kernel). -/
noncomputable def popV : Int → Nat := Classical.choose popVE
theorem popV_eq : popV = popF := Classical.choose_spec popVE
theorem bitsVE : ∃ q : BinOp → IntKind → Int → Int → Int, q = bitsR := ⟨_, rfl⟩
/-- As bitsR (not unfolded by the kernel). -/
noncomputable def bitsV : BinOp → IntKind → Int → Int → Int := Classical.choose bitsVE
theorem bitsV_eq : bitsV = bitsR := Classical.choose_spec bitsVE
noncomputable def E1 : Env := { E0 with tyd := fun _ => false, bits := bitsV }
def h24 : Pat := ⟨22, [(0, .keep), (1, .keep), (5, .keep)], []⟩
def x24 : List (Ex × Pat) := [(.exit 0, ⟨22, [(0, .keep)], []⟩)]
def h25 : Pat := ⟨17, [(0, .keep), (3, .asl shI), (4, .keep)], []⟩
def x25 : List (Ex × Pat) := [(.exit 0, ⟨17, [(3, .asl shI)], []⟩)]
def h28 : Pat := ⟨16, [(0, .keep), (2, .asl shI), (4, .keep)], []⟩
def x28 : List (Ex × Pat) := [(.exit 0, ⟨16, [(2, .asl shI)], []⟩)]
def h27 : Pat := ⟨26, [(0, .asl shI), (1, .asl shI), (12, .keep), (13, .keep)], []⟩
def x27 : List (Ex × Pat) := [(.exit 0, ⟨26, [], []⟩), (.ret, ⟨26, [(4, .keep)], []⟩)]
def h31 : Pat := ⟨29, [(0, .keep), (5, .keep), (6, .asl shI), (7, .keep)], []⟩
def x31 : List (Ex × Pat) := [(.exit 0, ⟨29, [(5, .keep), (6, .asl shI)], []⟩)]
def h23 : Pat := ⟨25, [(0, .keep), (7, .asl shI), (8, .keep), (9, .keep)], []⟩
def x23 : List (Ex × Pat) := [(.exit 0, ⟨25, [(0, .keep)], []⟩)]
def h52 : Pat := ⟨81, [(0, .keep), (1, .keep), (2, .keep), (3, .asl shI), (9, .keep), (10, .keep), (11, .keep), (22, .keep), (28, .asl shI), (29, .keep), (30, .keep)], []⟩
def x52 : List (Ex × Pat) := [(.exit 2, ⟨81, [(0, .keep), (1, .keep), (2, .keep), (3, .asl shI), (9, .keep), (10, .keep), (11, .keep), (22, .keep)], []⟩)]
def h5 : Pat := ⟨81, [(0, .keep), (1, .keep), (2, .keep), (3, .asl shI), (9, .keep), (22, .keep)], []⟩
def x5 : List (Ex × Pat) := [(.exit 0, ⟨81, [(0, .keep), (1, .keep), (2, .keep)], []⟩), (.ret, ⟨81, [(8, .keep)], []⟩)]
def a44 (x : Int) : CS :=
  ⟨[.int .u64 x], []⟩
noncomputable def f44B  (x : Int) : T (CS) :=
  chkT [rngV x] (.ret ⟨[.int .i64 (popV x : Nat)], []⟩)
noncomputable def f44  (c : CS) : T (CS) := match c with
  | ⟨[.int .u64 x], []⟩ => chkT [] (f44B  x)
  | _ => .fail
def a26 (s : Int) (nd : Int) : CS :=
  ⟨[.int .u64 s, .int .i64 nd], []⟩
noncomputable def f26B  (s : Int) (nd : Int) : T (CS) :=
  chkT [rngV s] (.ret ⟨[.bool (hasV s nd)], []⟩)
noncomputable def f26  (c : CS) : T (CS) := match c with
  | ⟨[.int .u64 s, .int .i64 nd], []⟩ => chkT [] (f26B  s nd)
  | _ => .fail
def c24 (s : Int) (nd : Int) (i : Nat) : CS :=
  ⟨[.int .u64 s, .int .i64 nd, .int .i64 (i : Nat)], []⟩
noncomputable def E1b : Env := addF (addF E1 44 ⟨frRun [.keep] [] f44⟩) 26 ⟨frRun [.keep, .keep] [] f26⟩
noncomputable def r24B  (s : Int) (nd : Int) : T (Nat × CS) :=
  chkT [rngV s, !(decide (nd < 0)), !(decide (nd > 63))] (.ret (1, ⟨[.int .u64 (divV s nd)], []⟩))
noncomputable def r24  (c : CS) : T (Nat × CS) := match c with
  | ⟨[.int .u64 s, .int .i64 nd, .int .i64 z_1], []⟩ => chkT [decide (0 = z_1)] (r24B  s nd)
  | _ => .fail
noncomputable def E2 : Env := addL E1b 24 0 1000000 h24 x24 0 r24
noncomputable def E3 : Env := addF E2 24 ⟨frRun [.keep, .keep] [] f26⟩
def c25 (s : Int) (ol : Bool) (m : Nat) (g : Nat → Nat → AV) (i : Nat) : CS :=
  ⟨[.int .u64 s, .osl ol 0 0 m m 1 true, .int .i64 (i : Nat)], [some (.tarr shI m g true)]⟩
def c25t (s : Int) (i : Nat) : CS :=
  ⟨[.int .u64 s, .nilSlice, .int .i64 (i : Nat)], [none]⟩
noncomputable def r25B  (s : Int) (g : Nat → Nat → AV) : T (Nat × CS) :=
  chkT [rngV s] (.ask (Nat.beq (cntV s) 0) (.ret (1, ⟨[.osl true 0 0 0 0 1 true], [some (.tarr shI 0 (fun _ _ => .bad) true)]⟩)) (.ret (1, ⟨[.osl false 0 0 (cntV s) (cntV s) 1 true], [some (.tarr shI (cntV s) (memV s) true)]⟩)))
noncomputable def r25  (c : CS) : T (Nat × CS) := match c with
  | ⟨[.int .u64 s, .osl z_1 0 0 z_2 z_3 1 true, .int .i64 z_4], [some (.tarr sh_5 z_6 g true)]⟩ => chkT [decide (true = z_1), decide (0 = z_2), decide (0 = z_3), decide (0 = z_4), shBeq sh_5 shI, decide (0 = z_6)] (r25B  s g)
  | _ => .fail
noncomputable def E3b : Env := addL E3 25 0 1000001 h25 x25 0 r25
def c28 (s : Int) (ol : Bool) (m : Nat) (g : Nat → Nat → AV) (i : Nat) : CS :=
  ⟨[.int .u64 s, .osl ol 0 0 m m 1 true, .int .i64 (i : Nat)], [some (.tarr shI m g true)]⟩
def c28t (s : Int) (i : Nat) : CS :=
  ⟨[.int .u64 s, .nilSlice, .int .i64 (i : Nat)], [none]⟩
noncomputable def r28B  (s : Int) (g : Nat → Nat → AV) : T (Nat × CS) :=
  chkT [rngV s] (.ask (Nat.beq (cntV s) 0) (.ret (1, ⟨[.osl true 0 0 0 0 1 true], [some (.tarr shI 0 (fun _ _ => .bad) true)]⟩)) (.ret (1, ⟨[.osl false 0 0 (cntV s) (cntV s) 1 true], [some (.tarr shI (cntV s) (memV s) true)]⟩)))
noncomputable def r28  (c : CS) : T (Nat × CS) := match c with
  | ⟨[.int .u64 s, .osl z_1 0 0 z_2 z_3 1 true, .int .i64 z_4], [some (.tarr sh_5 z_6 g true)]⟩ => chkT [decide (true = z_1), decide (0 = z_2), decide (0 = z_3), decide (0 = z_4), shBeq sh_5 shI, decide (0 = z_6)] (r28B  s g)
  | _ => .fail
noncomputable def E4 : Env := addL E3b 28 0 1000002 h28 x28 0 r28
def am (s : Int) : CS :=
  ⟨[.int .u64 s], []⟩
noncomputable def fmB  (s : Int) : T (CS) :=
  chkT [rngV s] (.ask (Nat.beq (cntV s) 0) (.ret ⟨[.nilSlice], [none]⟩) (.ret ⟨[.osl false 0 0 (cntV s) (cntV s) 1 true], [some (.tarr shI (cntV s) (memV s) true)]⟩))
noncomputable def fm  (c : CS) : T (CS) := match c with
  | ⟨[.int .u64 s], []⟩ => chkT [] (fmB  s)
  | _ => .fail
noncomputable def E5 : Env := addF (addF E4 25 ⟨fnRun [.keep] [] fm⟩) 28 ⟨fnRun [.keep] [] fm⟩
def c27 (al : Bool) (f : Nat → Nat → AV) (bl : Bool) (n : Nat) (g : Nat → Nat → AV) (i : Nat) : CS :=
  ⟨[.osl al 0 0 n n 1 true, .osl bl 1 0 n n 1 true, .int .i64 (n : Nat), .int .i64 (i : Nat)], [some (.tarr shI n f false), some (.tarr shI n g false)]⟩
noncomputable def r27B  (al : Bool) (f : Nat → Nat → AV) (bl : Bool) (n : Nat) (g : Nat → Nat → AV) : T (Nat × CS) :=
  chkT [Nat.ble n 1000] (.ask (eqV f g n) (.ret (1, ⟨[], []⟩)) (.ret (2, ⟨[.bool false], []⟩)))
noncomputable def r27  (c : CS) : T (Nat × CS) := match c with
  | ⟨[.osl al 0 0 n z_1 1 true, .osl bl 1 0 z_2 z_3 1 true, .int .i64 z_4, .int .i64 z_5], [some (.tarr sh_6 z_7 f false), some (.tarr sh_8 z_9 g false)]⟩ => chkT [decide (n = z_1), decide (n = z_2), decide (n = z_3), decide ((n : Nat) = z_4), decide (0 = z_5), shBeq sh_6 shI, decide (n = z_7), shBeq sh_8 shI, decide (n = z_9)] (r27B  al f bl n g)
  | _ => .fail
noncomputable def E6 : Env := addL E5 27 0 1000003 h27 x27 0 r27
def a27 (al : Bool) (f : Nat → Nat → AV) (bl : Bool) (n : Nat) (g : Nat → Nat → AV) : CS :=
  ⟨[.osl al 0 0 n n 1 true, .osl bl 1 0 n n 1 true], [some (.tarr shI n f false), some (.tarr shI n g false)]⟩
noncomputable def f27B  (al : Bool) (f : Nat → Nat → AV) (bl : Bool) (n : Nat) (g : Nat → Nat → AV) : T (CS) :=
  chkT [Nat.ble n 1000] (.ret ⟨[.bool (eqV f g n)], []⟩)
noncomputable def f27  (c : CS) : T (CS) := match c with
  | ⟨[.osl al 0 0 n z_1 1 true, .osl bl 1 0 z_2 z_3 1 true], [some (.tarr sh_4 z_5 f false), some (.tarr sh_6 z_7 g false)]⟩ => chkT [decide (n = z_1), decide (n = z_2), decide (n = z_3), shBeq sh_4 shI, decide (n = z_5), shBeq sh_6 shI, decide (n = z_7)] (f27B  al f bl n g)
  | _ => .fail
def c31 (s : Int) (k : Nat) (nl : Bool) (n : Nat) (g : Nat → Nat → AV) (i : Nat) : CS :=
  ⟨[.int .u64 s, .int .i64 (k : Nat), .osl nl 0 0 n n 1 true, .int .i64 (i : Nat)], [some (.tarr shI n g true)]⟩
noncomputable def r31B  (s : Int) (nl : Bool) (n : Nat) (g : Nat → Nat → AV) : T (Nat × CS) :=
  chkT [rngV s, Nat.ble n 1000] (.ret (1, ⟨[.int .i64 (ctV s g n : Nat), .osl nl 0 0 n n 1 true], [some (.tarr shI n g true)]⟩))
noncomputable def r31  (c : CS) : T (Nat × CS) := match c with
  | ⟨[.int .u64 s, .int .i64 z_1, .osl nl 0 0 n z_2 1 true, .int .i64 z_3], [some (.tarr sh_4 z_5 g true)]⟩ => chkT [decide (0 = z_1), decide (n = z_2), decide (0 = z_3), shBeq sh_4 shI, decide (n = z_5)] (r31B  s nl n g)
  | _ => .fail
noncomputable def E6b : Env := addF E6 27 ⟨frRun [.asl shI, .asl shI] [] f27⟩
noncomputable def E7 : Env := addL E6b 31 0 1000004 h31 x31 0 r31
def a31 (s : Int) (q : Int) : CS :=
  ⟨[.int .u64 s, .int .u64 q], []⟩
def majF (s q : Int) : Bool := decide (2 * popN 64 (s.toNat &&& q.toNat) > popN 64 q.toNat)
theorem majVE : ∃ q : Int → Int → Bool, q = majF := ⟨_, rfl⟩
/-- As majF (not unfolded by the kernel). -/
noncomputable def majV : Int → Int → Bool := Classical.choose majVE
theorem majV_eq : majV = majF := Classical.choose_spec majVE
noncomputable def f31B  (s : Int) (q : Int) : T (CS) :=
  chkT [rngV s, rngV q] (.ret ⟨[.bool (majV s q)], []⟩)
noncomputable def f31  (c : CS) : T (CS) := match c with
  | ⟨[.int .u64 s, .int .u64 q], []⟩ => chkT [] (f31B  s q)
  | _ => .fail
noncomputable def E8 : Env := addF (addF E7 31 ⟨frRun [.keep, .keep] [] f31⟩) 30 ⟨frRun [.keep, .keep] [] f31⟩
def c23 (w : Int) (nl : Bool) (n : Nat) (f : Nat → Nat → AV) (i : Nat) : CS :=
  ⟨[.int .u64 w, .osl nl 0 0 n n 1 true, .int .i64 (n : Nat), .int .i64 (i : Nat)], [some (.tarr shI n f false)]⟩
noncomputable def r23B  (w : Int) (nl : Bool) (n : Nat) (f : Nat → Nat → AV) : T (Nat × CS) :=
  chkT [rngV w, Nat.ble n 1000] (.ret (1, ⟨[.int .u64 (withV w f n)], []⟩))
noncomputable def r23  (c : CS) : T (Nat × CS) := match c with
  | ⟨[.int .u64 w, .osl nl 0 0 n z_1 1 true, .int .i64 z_2, .int .i64 z_3], [some (.tarr sh_4 z_5 f false)]⟩ => chkT [decide (n = z_1), decide ((n : Nat) = z_2), decide (0 = z_3), shBeq sh_4 shI, decide (n = z_5)] (r23B  w nl n f)
  | _ => .fail
noncomputable def E9 : Env := addL E8 23 0 1000005 h23 x23 0 r23
def a23 (w : Int) (nl : Bool) (n : Nat) (f : Nat → Nat → AV) : CS :=
  ⟨[.int .u64 w, .osl nl 0 0 n n 1 true], [some (.tarr shI n f false)]⟩
noncomputable def f23B  (w : Int) (nl : Bool) (n : Nat) (f : Nat → Nat → AV) : T (CS) :=
  chkT [rngV w, Nat.ble n 1000] (.ret ⟨[.int .u64 (withV w f n)], []⟩)
noncomputable def f23  (c : CS) : T (CS) := match c with
  | ⟨[.int .u64 w, .osl nl 0 0 n z_1 1 true], [some (.tarr sh_2 z_3 f false)]⟩ => chkT [decide (n = z_1), shBeq sh_2 shI, decide (n = z_3)] (f23B  w nl n f)
  | _ => .fail
noncomputable def EA : Env := addF E9 23 ⟨frRun [.keep, .asl shI] [] f23⟩
def c52 (s : Int) (q : Int) (nd : Int) (nl : Bool) (n : Nat) (f : Nat → Nat → AV) (w : Int) (i : Int) (b : Bool) (j : Nat) : CS :=
  ⟨[.int .u64 s, .int .u64 q, .int .i64 nd, .osl nl 0 0 n n 1 true, .int .u64 w, .int .i64 i, .bool b, .int .i64 i, .osl nl 0 0 n n 1 true, .int .i64 (n : Nat), .int .i64 (j : Nat)], [some (.tarr shI n f false)]⟩
noncomputable def r52B  (s : Int) (q : Int) (nd : Int) (nl : Bool) (n : Nat) (f : Nat → Nat → AV) (w : Int) (i : Int) (b : Bool) : T (Nat × CS) :=
  chkT [Nat.ble n 1000, !(decide (i < 0))] (.ret (1, ⟨[.int .u64 s, .int .u64 q, .int .i64 nd, .osl nl 0 0 n n 1 true, .int .u64 w, .int .i64 i, .bool (b || anyV f i n), .int .i64 i], [some (.tarr shI n f false)]⟩))
noncomputable def r52  (c : CS) : T (Nat × CS) := match c with
  | ⟨[.int .u64 s, .int .u64 q, .int .i64 nd, .osl nl 0 0 n z_1 1 true, .int .u64 w, .int .i64 i, .bool b, .int .i64 z_2, .osl z_3 0 0 z_4 z_5 1 true, .int .i64 z_6, .int .i64 z_7], [some (.tarr sh_8 z_9 f false)]⟩ => chkT [decide (n = z_1), decide (i = z_2), decide (nl = z_3), decide (n = z_4), decide (n = z_5), decide ((n : Nat) = z_6), decide (0 = z_7), shBeq sh_8 shI, decide (n = z_9)] (r52B  s q nd nl n f w i b)
  | _ => .fail
noncomputable def EB : Env := addL EA 5 2 1000006 h52 x52 0 r52
def c5 (s : Int) (q : Int) (nd : Int) (nl : Bool) (n : Nat) (f : Nat → Nat → AV) (w : Int) (i : Nat) : CS :=
  ⟨[.int .u64 s, .int .u64 q, .int .i64 nd, .osl nl 0 0 n n 1 true, .int .u64 w, .int .i64 (i : Nat)], [some (.tarr shI n f false)]⟩
noncomputable def r5B  (s : Int) (q : Int) (nd : Int) (nl : Bool) (n : Nat) (f : Nat → Nat → AV) (w : Int) : T (Nat × CS) :=
  chkT [rngV s, Nat.ble n 1000, decide (w = withV s f n)] (.ret (1, ⟨[.int .u64 s, .int .u64 q, .int .i64 nd], []⟩))
noncomputable def r5  (c : CS) : T (Nat × CS) := match c with
  | ⟨[.int .u64 s, .int .u64 q, .int .i64 nd, .osl nl 0 0 n z_1 1 true, .int .u64 w, .int .i64 z_2], [some (.tarr sh_3 z_4 f false)]⟩ => chkT [decide (n = z_1), decide (0 = z_2), shBeq sh_3 shI, decide (n = z_4)] (r5B  s q nd nl n f w)
  | _ => .fail
noncomputable def EC : Env := addF (addL EB 5 0 1000007 h5 x5 0 r5) 22 livesI
noncomputable def k44 (x : Int) (π : Plan) : Option CS := callC (E1) (1000) (44) (0) (.keep) ([]) π (a44 x)
def k44_p : Plan := .stop
theorem k44_is (x : Int) : k44 x k44_p = (some (CS.mk [(AV.int IntKind.i64 (Env.bits E1 BinOp.and IntKind.i64 (IntKind.wrap IntKind.i64 (IntKind.wrap IntKind.u64 (IntKind.wrap IntKind.u64 (IntKind.wrap IntKind.u64 (Env.bits E1 BinOp.and IntKind.u64 (IntKind.wrap IntKind.u64 (Int.fdiv (IntKind.wrap IntKind.u64 (Env.bits E1 BinOp.and IntKind.u64 (Int.fdiv (IntKind.wrap IntKind.u64 (Env.bits E1 BinOp.and IntKind.u64 (Int.fdiv x (2 ^ min (Int.toNat 1) (IntKind.bits IntKind.u64))) 6148914691236517205 + Env.bits E1 BinOp.and IntKind.u64 x 6148914691236517205)) (2 ^ min (Int.toNat 2) (IntKind.bits IntKind.u64))) 3689348814741910323 + Env.bits E1 BinOp.and IntKind.u64 (IntKind.wrap IntKind.u64 (Env.bits E1 BinOp.and IntKind.u64 (Int.fdiv x (2 ^ min (Int.toNat 1) (IntKind.bits IntKind.u64))) 6148914691236517205 + Env.bits E1 BinOp.and IntKind.u64 x 6148914691236517205)) 3689348814741910323)) (2 ^ min (Int.toNat 4) (IntKind.bits IntKind.u64)) + IntKind.wrap IntKind.u64 (Env.bits E1 BinOp.and IntKind.u64 (Int.fdiv (IntKind.wrap IntKind.u64 (Env.bits E1 BinOp.and IntKind.u64 (Int.fdiv x (2 ^ min (Int.toNat 1) (IntKind.bits IntKind.u64))) 6148914691236517205 + Env.bits E1 BinOp.and IntKind.u64 x 6148914691236517205)) (2 ^ min (Int.toNat 2) (IntKind.bits IntKind.u64))) 3689348814741910323 + Env.bits E1 BinOp.and IntKind.u64 (IntKind.wrap IntKind.u64 (Env.bits E1 BinOp.and IntKind.u64 (Int.fdiv x (2 ^ min (Int.toNat 1) (IntKind.bits IntKind.u64))) 6148914691236517205 + Env.bits E1 BinOp.and IntKind.u64 x 6148914691236517205)) 3689348814741910323))) 1085102592571150095 + Int.fdiv (Env.bits E1 BinOp.and IntKind.u64 (IntKind.wrap IntKind.u64 (Int.fdiv (IntKind.wrap IntKind.u64 (Env.bits E1 BinOp.and IntKind.u64 (Int.fdiv (IntKind.wrap IntKind.u64 (Env.bits E1 BinOp.and IntKind.u64 (Int.fdiv x (2 ^ min (Int.toNat 1) (IntKind.bits IntKind.u64))) 6148914691236517205 + Env.bits E1 BinOp.and IntKind.u64 x 6148914691236517205)) (2 ^ min (Int.toNat 2) (IntKind.bits IntKind.u64))) 3689348814741910323 + Env.bits E1 BinOp.and IntKind.u64 (IntKind.wrap IntKind.u64 (Env.bits E1 BinOp.and IntKind.u64 (Int.fdiv x (2 ^ min (Int.toNat 1) (IntKind.bits IntKind.u64))) 6148914691236517205 + Env.bits E1 BinOp.and IntKind.u64 x 6148914691236517205)) 3689348814741910323)) (2 ^ min (Int.toNat 4) (IntKind.bits IntKind.u64)) + IntKind.wrap IntKind.u64 (Env.bits E1 BinOp.and IntKind.u64 (Int.fdiv (IntKind.wrap IntKind.u64 (Env.bits E1 BinOp.and IntKind.u64 (Int.fdiv x (2 ^ min (Int.toNat 1) (IntKind.bits IntKind.u64))) 6148914691236517205 + Env.bits E1 BinOp.and IntKind.u64 x 6148914691236517205)) (2 ^ min (Int.toNat 2) (IntKind.bits IntKind.u64))) 3689348814741910323 + Env.bits E1 BinOp.and IntKind.u64 (IntKind.wrap IntKind.u64 (Env.bits E1 BinOp.and IntKind.u64 (Int.fdiv x (2 ^ min (Int.toNat 1) (IntKind.bits IntKind.u64))) 6148914691236517205 + Env.bits E1 BinOp.and IntKind.u64 x 6148914691236517205)) 3689348814741910323))) 1085102592571150095) (2 ^ min (Int.toNat 8) (IntKind.bits IntKind.u64))) + Int.fdiv (IntKind.wrap IntKind.u64 (Env.bits E1 BinOp.and IntKind.u64 (IntKind.wrap IntKind.u64 (Int.fdiv (IntKind.wrap IntKind.u64 (Env.bits E1 BinOp.and IntKind.u64 (Int.fdiv (IntKind.wrap IntKind.u64 (Env.bits E1 BinOp.and IntKind.u64 (Int.fdiv x (2 ^ min (Int.toNat 1) (IntKind.bits IntKind.u64))) 6148914691236517205 + Env.bits E1 BinOp.and IntKind.u64 x 6148914691236517205)) (2 ^ min (Int.toNat 2) (IntKind.bits IntKind.u64))) 3689348814741910323 + Env.bits E1 BinOp.and IntKind.u64 (IntKind.wrap IntKind.u64 (Env.bits E1 BinOp.and IntKind.u64 (Int.fdiv x (2 ^ min (Int.toNat 1) (IntKind.bits IntKind.u64))) 6148914691236517205 + Env.bits E1 BinOp.and IntKind.u64 x 6148914691236517205)) 3689348814741910323)) (2 ^ min (Int.toNat 4) (IntKind.bits IntKind.u64)) + IntKind.wrap IntKind.u64 (Env.bits E1 BinOp.and IntKind.u64 (Int.fdiv (IntKind.wrap IntKind.u64 (Env.bits E1 BinOp.and IntKind.u64 (Int.fdiv x (2 ^ min (Int.toNat 1) (IntKind.bits IntKind.u64))) 6148914691236517205 + Env.bits E1 BinOp.and IntKind.u64 x 6148914691236517205)) (2 ^ min (Int.toNat 2) (IntKind.bits IntKind.u64))) 3689348814741910323 + Env.bits E1 BinOp.and IntKind.u64 (IntKind.wrap IntKind.u64 (Env.bits E1 BinOp.and IntKind.u64 (Int.fdiv x (2 ^ min (Int.toNat 1) (IntKind.bits IntKind.u64))) 6148914691236517205 + Env.bits E1 BinOp.and IntKind.u64 x 6148914691236517205)) 3689348814741910323))) 1085102592571150095 + Int.fdiv (Env.bits E1 BinOp.and IntKind.u64 (IntKind.wrap IntKind.u64 (Int.fdiv (IntKind.wrap IntKind.u64 (Env.bits E1 BinOp.and IntKind.u64 (Int.fdiv (IntKind.wrap IntKind.u64 (Env.bits E1 BinOp.and IntKind.u64 (Int.fdiv x (2 ^ min (Int.toNat 1) (IntKind.bits IntKind.u64))) 6148914691236517205 + Env.bits E1 BinOp.and IntKind.u64 x 6148914691236517205)) (2 ^ min (Int.toNat 2) (IntKind.bits IntKind.u64))) 3689348814741910323 + Env.bits E1 BinOp.and IntKind.u64 (IntKind.wrap IntKind.u64 (Env.bits E1 BinOp.and IntKind.u64 (Int.fdiv x (2 ^ min (Int.toNat 1) (IntKind.bits IntKind.u64))) 6148914691236517205 + Env.bits E1 BinOp.and IntKind.u64 x 6148914691236517205)) 3689348814741910323)) (2 ^ min (Int.toNat 4) (IntKind.bits IntKind.u64)) + IntKind.wrap IntKind.u64 (Env.bits E1 BinOp.and IntKind.u64 (Int.fdiv (IntKind.wrap IntKind.u64 (Env.bits E1 BinOp.and IntKind.u64 (Int.fdiv x (2 ^ min (Int.toNat 1) (IntKind.bits IntKind.u64))) 6148914691236517205 + Env.bits E1 BinOp.and IntKind.u64 x 6148914691236517205)) (2 ^ min (Int.toNat 2) (IntKind.bits IntKind.u64))) 3689348814741910323 + Env.bits E1 BinOp.and IntKind.u64 (IntKind.wrap IntKind.u64 (Env.bits E1 BinOp.and IntKind.u64 (Int.fdiv x (2 ^ min (Int.toNat 1) (IntKind.bits IntKind.u64))) 6148914691236517205 + Env.bits E1 BinOp.and IntKind.u64 x 6148914691236517205)) 3689348814741910323))) 1085102592571150095) (2 ^ min (Int.toNat 8) (IntKind.bits IntKind.u64)))) (2 ^ min (Int.toNat 16) (IntKind.bits IntKind.u64))) + Int.fdiv (IntKind.wrap IntKind.u64 (IntKind.wrap IntKind.u64 (Env.bits E1 BinOp.and IntKind.u64 (IntKind.wrap IntKind.u64 (Int.fdiv (IntKind.wrap IntKind.u64 (Env.bits E1 BinOp.and IntKind.u64 (Int.fdiv (IntKind.wrap IntKind.u64 (Env.bits E1 BinOp.and IntKind.u64 (Int.fdiv x (2 ^ min (Int.toNat 1) (IntKind.bits IntKind.u64))) 6148914691236517205 + Env.bits E1 BinOp.and IntKind.u64 x 6148914691236517205)) (2 ^ min (Int.toNat 2) (IntKind.bits IntKind.u64))) 3689348814741910323 + Env.bits E1 BinOp.and IntKind.u64 (IntKind.wrap IntKind.u64 (Env.bits E1 BinOp.and IntKind.u64 (Int.fdiv x (2 ^ min (Int.toNat 1) (IntKind.bits IntKind.u64))) 6148914691236517205 + Env.bits E1 BinOp.and IntKind.u64 x 6148914691236517205)) 3689348814741910323)) (2 ^ min (Int.toNat 4) (IntKind.bits IntKind.u64)) + IntKind.wrap IntKind.u64 (Env.bits E1 BinOp.and IntKind.u64 (Int.fdiv (IntKind.wrap IntKind.u64 (Env.bits E1 BinOp.and IntKind.u64 (Int.fdiv x (2 ^ min (Int.toNat 1) (IntKind.bits IntKind.u64))) 6148914691236517205 + Env.bits E1 BinOp.and IntKind.u64 x 6148914691236517205)) (2 ^ min (Int.toNat 2) (IntKind.bits IntKind.u64))) 3689348814741910323 + Env.bits E1 BinOp.and IntKind.u64 (IntKind.wrap IntKind.u64 (Env.bits E1 BinOp.and IntKind.u64 (Int.fdiv x (2 ^ min (Int.toNat 1) (IntKind.bits IntKind.u64))) 6148914691236517205 + Env.bits E1 BinOp.and IntKind.u64 x 6148914691236517205)) 3689348814741910323))) 1085102592571150095 + Int.fdiv (Env.bits E1 BinOp.and IntKind.u64 (IntKind.wrap IntKind.u64 (Int.fdiv (IntKind.wrap IntKind.u64 (Env.bits E1 BinOp.and IntKind.u64 (Int.fdiv (IntKind.wrap IntKind.u64 (Env.bits E1 BinOp.and IntKind.u64 (Int.fdiv x (2 ^ min (Int.toNat 1) (IntKind.bits IntKind.u64))) 6148914691236517205 + Env.bits E1 BinOp.and IntKind.u64 x 6148914691236517205)) (2 ^ min (Int.toNat 2) (IntKind.bits IntKind.u64))) 3689348814741910323 + Env.bits E1 BinOp.and IntKind.u64 (IntKind.wrap IntKind.u64 (Env.bits E1 BinOp.and IntKind.u64 (Int.fdiv x (2 ^ min (Int.toNat 1) (IntKind.bits IntKind.u64))) 6148914691236517205 + Env.bits E1 BinOp.and IntKind.u64 x 6148914691236517205)) 3689348814741910323)) (2 ^ min (Int.toNat 4) (IntKind.bits IntKind.u64)) + IntKind.wrap IntKind.u64 (Env.bits E1 BinOp.and IntKind.u64 (Int.fdiv (IntKind.wrap IntKind.u64 (Env.bits E1 BinOp.and IntKind.u64 (Int.fdiv x (2 ^ min (Int.toNat 1) (IntKind.bits IntKind.u64))) 6148914691236517205 + Env.bits E1 BinOp.and IntKind.u64 x 6148914691236517205)) (2 ^ min (Int.toNat 2) (IntKind.bits IntKind.u64))) 3689348814741910323 + Env.bits E1 BinOp.and IntKind.u64 (IntKind.wrap IntKind.u64 (Env.bits E1 BinOp.and IntKind.u64 (Int.fdiv x (2 ^ min (Int.toNat 1) (IntKind.bits IntKind.u64))) 6148914691236517205 + Env.bits E1 BinOp.and IntKind.u64 x 6148914691236517205)) 3689348814741910323))) 1085102592571150095) (2 ^ min (Int.toNat 8) (IntKind.bits IntKind.u64))) + Int.fdiv (IntKind.wrap IntKind.u64 (Env.bits E1 BinOp.and IntKind.u64 (IntKind.wrap IntKind.u64 (Int.fdiv (IntKind.wrap IntKind.u64 (Env.bits E1 BinOp.and IntKind.u64 (Int.fdiv (IntKind.wrap IntKind.u64 (Env.bits E1 BinOp.and IntKind.u64 (Int.fdiv x (2 ^ min (Int.toNat 1) (IntKind.bits IntKind.u64))) 6148914691236517205 + Env.bits E1 BinOp.and IntKind.u64 x 6148914691236517205)) (2 ^ min (Int.toNat 2) (IntKind.bits IntKind.u64))) 3689348814741910323 + Env.bits E1 BinOp.and IntKind.u64 (IntKind.wrap IntKind.u64 (Env.bits E1 BinOp.and IntKind.u64 (Int.fdiv x (2 ^ min (Int.toNat 1) (IntKind.bits IntKind.u64))) 6148914691236517205 + Env.bits E1 BinOp.and IntKind.u64 x 6148914691236517205)) 3689348814741910323)) (2 ^ min (Int.toNat 4) (IntKind.bits IntKind.u64)) + IntKind.wrap IntKind.u64 (Env.bits E1 BinOp.and IntKind.u64 (Int.fdiv (IntKind.wrap IntKind.u64 (Env.bits E1 BinOp.and IntKind.u64 (Int.fdiv x (2 ^ min (Int.toNat 1) (IntKind.bits IntKind.u64))) 6148914691236517205 + Env.bits E1 BinOp.and IntKind.u64 x 6148914691236517205)) (2 ^ min (Int.toNat 2) (IntKind.bits IntKind.u64))) 3689348814741910323 + Env.bits E1 BinOp.and IntKind.u64 (IntKind.wrap IntKind.u64 (Env.bits E1 BinOp.and IntKind.u64 (Int.fdiv x (2 ^ min (Int.toNat 1) (IntKind.bits IntKind.u64))) 6148914691236517205 + Env.bits E1 BinOp.and IntKind.u64 x 6148914691236517205)) 3689348814741910323))) 1085102592571150095 + Int.fdiv (Env.bits E1 BinOp.and IntKind.u64 (IntKind.wrap IntKind.u64 (Int.fdiv (IntKind.wrap IntKind.u64 (Env.bits E1 BinOp.and IntKind.u64 (Int.fdiv (IntKind.wrap IntKind.u64 (Env.bits E1 BinOp.and IntKind.u64 (Int.fdiv x (2 ^ min (Int.toNat 1) (IntKind.bits IntKind.u64))) 6148914691236517205 + Env.bits E1 BinOp.and IntKind.u64 x 6148914691236517205)) (2 ^ min (Int.toNat 2) (IntKind.bits IntKind.u64))) 3689348814741910323 + Env.bits E1 BinOp.and IntKind.u64 (IntKind.wrap IntKind.u64 (Env.bits E1 BinOp.and IntKind.u64 (Int.fdiv x (2 ^ min (Int.toNat 1) (IntKind.bits IntKind.u64))) 6148914691236517205 + Env.bits E1 BinOp.and IntKind.u64 x 6148914691236517205)) 3689348814741910323)) (2 ^ min (Int.toNat 4) (IntKind.bits IntKind.u64)) + IntKind.wrap IntKind.u64 (Env.bits E1 BinOp.and IntKind.u64 (Int.fdiv (IntKind.wrap IntKind.u64 (Env.bits E1 BinOp.and IntKind.u64 (Int.fdiv x (2 ^ min (Int.toNat 1) (IntKind.bits IntKind.u64))) 6148914691236517205 + Env.bits E1 BinOp.and IntKind.u64 x 6148914691236517205)) (2 ^ min (Int.toNat 2) (IntKind.bits IntKind.u64))) 3689348814741910323 + Env.bits E1 BinOp.and IntKind.u64 (IntKind.wrap IntKind.u64 (Env.bits E1 BinOp.and IntKind.u64 (Int.fdiv x (2 ^ min (Int.toNat 1) (IntKind.bits IntKind.u64))) 6148914691236517205 + Env.bits E1 BinOp.and IntKind.u64 x 6148914691236517205)) 3689348814741910323))) 1085102592571150095) (2 ^ min (Int.toNat 8) (IntKind.bits IntKind.u64)))) (2 ^ min (Int.toNat 16) (IntKind.bits IntKind.u64)))) (2 ^ min (Int.toNat 32) (IntKind.bits IntKind.u64))))) 127))] [])) := by kernel_rfl
theorem k44_eq (x : Int) : k44 x k44_p = (some (CS.mk [(AV.int IntKind.i64 (Env.bits E1 BinOp.and IntKind.i64 (IntKind.wrap IntKind.i64 (IntKind.wrap IntKind.u64 (IntKind.wrap IntKind.u64 (IntKind.wrap IntKind.u64 (Env.bits E1 BinOp.and IntKind.u64 (IntKind.wrap IntKind.u64 (Int.fdiv (IntKind.wrap IntKind.u64 (Env.bits E1 BinOp.and IntKind.u64 (Int.fdiv (IntKind.wrap IntKind.u64 (Env.bits E1 BinOp.and IntKind.u64 (Int.fdiv x (2 ^ min (Int.toNat 1) (IntKind.bits IntKind.u64))) 6148914691236517205 + Env.bits E1 BinOp.and IntKind.u64 x 6148914691236517205)) (2 ^ min (Int.toNat 2) (IntKind.bits IntKind.u64))) 3689348814741910323 + Env.bits E1 BinOp.and IntKind.u64 (IntKind.wrap IntKind.u64 (Env.bits E1 BinOp.and IntKind.u64 (Int.fdiv x (2 ^ min (Int.toNat 1) (IntKind.bits IntKind.u64))) 6148914691236517205 + Env.bits E1 BinOp.and IntKind.u64 x 6148914691236517205)) 3689348814741910323)) (2 ^ min (Int.toNat 4) (IntKind.bits IntKind.u64)) + IntKind.wrap IntKind.u64 (Env.bits E1 BinOp.and IntKind.u64 (Int.fdiv (IntKind.wrap IntKind.u64 (Env.bits E1 BinOp.and IntKind.u64 (Int.fdiv x (2 ^ min (Int.toNat 1) (IntKind.bits IntKind.u64))) 6148914691236517205 + Env.bits E1 BinOp.and IntKind.u64 x 6148914691236517205)) (2 ^ min (Int.toNat 2) (IntKind.bits IntKind.u64))) 3689348814741910323 + Env.bits E1 BinOp.and IntKind.u64 (IntKind.wrap IntKind.u64 (Env.bits E1 BinOp.and IntKind.u64 (Int.fdiv x (2 ^ min (Int.toNat 1) (IntKind.bits IntKind.u64))) 6148914691236517205 + Env.bits E1 BinOp.and IntKind.u64 x 6148914691236517205)) 3689348814741910323))) 1085102592571150095 + Int.fdiv (Env.bits E1 BinOp.and IntKind.u64 (IntKind.wrap IntKind.u64 (Int.fdiv (IntKind.wrap IntKind.u64 (Env.bits E1 BinOp.and IntKind.u64 (Int.fdiv (IntKind.wrap IntKind.u64 (Env.bits E1 BinOp.and IntKind.u64 (Int.fdiv x (2 ^ min (Int.toNat 1) (IntKind.bits IntKind.u64))) 6148914691236517205 + Env.bits E1 BinOp.and IntKind.u64 x 6148914691236517205)) (2 ^ min (Int.toNat 2) (IntKind.bits IntKind.u64))) 3689348814741910323 + Env.bits E1 BinOp.and IntKind.u64 (IntKind.wrap IntKind.u64 (Env.bits E1 BinOp.and IntKind.u64 (Int.fdiv x (2 ^ min (Int.toNat 1) (IntKind.bits IntKind.u64))) 6148914691236517205 + Env.bits E1 BinOp.and IntKind.u64 x 6148914691236517205)) 3689348814741910323)) (2 ^ min (Int.toNat 4) (IntKind.bits IntKind.u64)) + IntKind.wrap IntKind.u64 (Env.bits E1 BinOp.and IntKind.u64 (Int.fdiv (IntKind.wrap IntKind.u64 (Env.bits E1 BinOp.and IntKind.u64 (Int.fdiv x (2 ^ min (Int.toNat 1) (IntKind.bits IntKind.u64))) 6148914691236517205 + Env.bits E1 BinOp.and IntKind.u64 x 6148914691236517205)) (2 ^ min (Int.toNat 2) (IntKind.bits IntKind.u64))) 3689348814741910323 + Env.bits E1 BinOp.and IntKind.u64 (IntKind.wrap IntKind.u64 (Env.bits E1 BinOp.and IntKind.u64 (Int.fdiv x (2 ^ min (Int.toNat 1) (IntKind.bits IntKind.u64))) 6148914691236517205 + Env.bits E1 BinOp.and IntKind.u64 x 6148914691236517205)) 3689348814741910323))) 1085102592571150095) (2 ^ min (Int.toNat 8) (IntKind.bits IntKind.u64))) + Int.fdiv (IntKind.wrap IntKind.u64 (Env.bits E1 BinOp.and IntKind.u64 (IntKind.wrap IntKind.u64 (Int.fdiv (IntKind.wrap IntKind.u64 (Env.bits E1 BinOp.and IntKind.u64 (Int.fdiv (IntKind.wrap IntKind.u64 (Env.bits E1 BinOp.and IntKind.u64 (Int.fdiv x (2 ^ min (Int.toNat 1) (IntKind.bits IntKind.u64))) 6148914691236517205 + Env.bits E1 BinOp.and IntKind.u64 x 6148914691236517205)) (2 ^ min (Int.toNat 2) (IntKind.bits IntKind.u64))) 3689348814741910323 + Env.bits E1 BinOp.and IntKind.u64 (IntKind.wrap IntKind.u64 (Env.bits E1 BinOp.and IntKind.u64 (Int.fdiv x (2 ^ min (Int.toNat 1) (IntKind.bits IntKind.u64))) 6148914691236517205 + Env.bits E1 BinOp.and IntKind.u64 x 6148914691236517205)) 3689348814741910323)) (2 ^ min (Int.toNat 4) (IntKind.bits IntKind.u64)) + IntKind.wrap IntKind.u64 (Env.bits E1 BinOp.and IntKind.u64 (Int.fdiv (IntKind.wrap IntKind.u64 (Env.bits E1 BinOp.and IntKind.u64 (Int.fdiv x (2 ^ min (Int.toNat 1) (IntKind.bits IntKind.u64))) 6148914691236517205 + Env.bits E1 BinOp.and IntKind.u64 x 6148914691236517205)) (2 ^ min (Int.toNat 2) (IntKind.bits IntKind.u64))) 3689348814741910323 + Env.bits E1 BinOp.and IntKind.u64 (IntKind.wrap IntKind.u64 (Env.bits E1 BinOp.and IntKind.u64 (Int.fdiv x (2 ^ min (Int.toNat 1) (IntKind.bits IntKind.u64))) 6148914691236517205 + Env.bits E1 BinOp.and IntKind.u64 x 6148914691236517205)) 3689348814741910323))) 1085102592571150095 + Int.fdiv (Env.bits E1 BinOp.and IntKind.u64 (IntKind.wrap IntKind.u64 (Int.fdiv (IntKind.wrap IntKind.u64 (Env.bits E1 BinOp.and IntKind.u64 (Int.fdiv (IntKind.wrap IntKind.u64 (Env.bits E1 BinOp.and IntKind.u64 (Int.fdiv x (2 ^ min (Int.toNat 1) (IntKind.bits IntKind.u64))) 6148914691236517205 + Env.bits E1 BinOp.and IntKind.u64 x 6148914691236517205)) (2 ^ min (Int.toNat 2) (IntKind.bits IntKind.u64))) 3689348814741910323 + Env.bits E1 BinOp.and IntKind.u64 (IntKind.wrap IntKind.u64 (Env.bits E1 BinOp.and IntKind.u64 (Int.fdiv x (2 ^ min (Int.toNat 1) (IntKind.bits IntKind.u64))) 6148914691236517205 + Env.bits E1 BinOp.and IntKind.u64 x 6148914691236517205)) 3689348814741910323)) (2 ^ min (Int.toNat 4) (IntKind.bits IntKind.u64)) + IntKind.wrap IntKind.u64 (Env.bits E1 BinOp.and IntKind.u64 (Int.fdiv (IntKind.wrap IntKind.u64 (Env.bits E1 BinOp.and IntKind.u64 (Int.fdiv x (2 ^ min (Int.toNat 1) (IntKind.bits IntKind.u64))) 6148914691236517205 + Env.bits E1 BinOp.and IntKind.u64 x 6148914691236517205)) (2 ^ min (Int.toNat 2) (IntKind.bits IntKind.u64))) 3689348814741910323 + Env.bits E1 BinOp.and IntKind.u64 (IntKind.wrap IntKind.u64 (Env.bits E1 BinOp.and IntKind.u64 (Int.fdiv x (2 ^ min (Int.toNat 1) (IntKind.bits IntKind.u64))) 6148914691236517205 + Env.bits E1 BinOp.and IntKind.u64 x 6148914691236517205)) 3689348814741910323))) 1085102592571150095) (2 ^ min (Int.toNat 8) (IntKind.bits IntKind.u64)))) (2 ^ min (Int.toNat 16) (IntKind.bits IntKind.u64))) + Int.fdiv (IntKind.wrap IntKind.u64 (IntKind.wrap IntKind.u64 (Env.bits E1 BinOp.and IntKind.u64 (IntKind.wrap IntKind.u64 (Int.fdiv (IntKind.wrap IntKind.u64 (Env.bits E1 BinOp.and IntKind.u64 (Int.fdiv (IntKind.wrap IntKind.u64 (Env.bits E1 BinOp.and IntKind.u64 (Int.fdiv x (2 ^ min (Int.toNat 1) (IntKind.bits IntKind.u64))) 6148914691236517205 + Env.bits E1 BinOp.and IntKind.u64 x 6148914691236517205)) (2 ^ min (Int.toNat 2) (IntKind.bits IntKind.u64))) 3689348814741910323 + Env.bits E1 BinOp.and IntKind.u64 (IntKind.wrap IntKind.u64 (Env.bits E1 BinOp.and IntKind.u64 (Int.fdiv x (2 ^ min (Int.toNat 1) (IntKind.bits IntKind.u64))) 6148914691236517205 + Env.bits E1 BinOp.and IntKind.u64 x 6148914691236517205)) 3689348814741910323)) (2 ^ min (Int.toNat 4) (IntKind.bits IntKind.u64)) + IntKind.wrap IntKind.u64 (Env.bits E1 BinOp.and IntKind.u64 (Int.fdiv (IntKind.wrap IntKind.u64 (Env.bits E1 BinOp.and IntKind.u64 (Int.fdiv x (2 ^ min (Int.toNat 1) (IntKind.bits IntKind.u64))) 6148914691236517205 + Env.bits E1 BinOp.and IntKind.u64 x 6148914691236517205)) (2 ^ min (Int.toNat 2) (IntKind.bits IntKind.u64))) 3689348814741910323 + Env.bits E1 BinOp.and IntKind.u64 (IntKind.wrap IntKind.u64 (Env.bits E1 BinOp.and IntKind.u64 (Int.fdiv x (2 ^ min (Int.toNat 1) (IntKind.bits IntKind.u64))) 6148914691236517205 + Env.bits E1 BinOp.and IntKind.u64 x 6148914691236517205)) 3689348814741910323))) 1085102592571150095 + Int.fdiv (Env.bits E1 BinOp.and IntKind.u64 (IntKind.wrap IntKind.u64 (Int.fdiv (IntKind.wrap IntKind.u64 (Env.bits E1 BinOp.and IntKind.u64 (Int.fdiv (IntKind.wrap IntKind.u64 (Env.bits E1 BinOp.and IntKind.u64 (Int.fdiv x (2 ^ min (Int.toNat 1) (IntKind.bits IntKind.u64))) 6148914691236517205 + Env.bits E1 BinOp.and IntKind.u64 x 6148914691236517205)) (2 ^ min (Int.toNat 2) (IntKind.bits IntKind.u64))) 3689348814741910323 + Env.bits E1 BinOp.and IntKind.u64 (IntKind.wrap IntKind.u64 (Env.bits E1 BinOp.and IntKind.u64 (Int.fdiv x (2 ^ min (Int.toNat 1) (IntKind.bits IntKind.u64))) 6148914691236517205 + Env.bits E1 BinOp.and IntKind.u64 x 6148914691236517205)) 3689348814741910323)) (2 ^ min (Int.toNat 4) (IntKind.bits IntKind.u64)) + IntKind.wrap IntKind.u64 (Env.bits E1 BinOp.and IntKind.u64 (Int.fdiv (IntKind.wrap IntKind.u64 (Env.bits E1 BinOp.and IntKind.u64 (Int.fdiv x (2 ^ min (Int.toNat 1) (IntKind.bits IntKind.u64))) 6148914691236517205 + Env.bits E1 BinOp.and IntKind.u64 x 6148914691236517205)) (2 ^ min (Int.toNat 2) (IntKind.bits IntKind.u64))) 3689348814741910323 + Env.bits E1 BinOp.and IntKind.u64 (IntKind.wrap IntKind.u64 (Env.bits E1 BinOp.and IntKind.u64 (Int.fdiv x (2 ^ min (Int.toNat 1) (IntKind.bits IntKind.u64))) 6148914691236517205 + Env.bits E1 BinOp.and IntKind.u64 x 6148914691236517205)) 3689348814741910323))) 1085102592571150095) (2 ^ min (Int.toNat 8) (IntKind.bits IntKind.u64))) + Int.fdiv (IntKind.wrap IntKind.u64 (Env.bits E1 BinOp.and IntKind.u64 (IntKind.wrap IntKind.u64 (Int.fdiv (IntKind.wrap IntKind.u64 (Env.bits E1 BinOp.and IntKind.u64 (Int.fdiv (IntKind.wrap IntKind.u64 (Env.bits E1 BinOp.and IntKind.u64 (Int.fdiv x (2 ^ min (Int.toNat 1) (IntKind.bits IntKind.u64))) 6148914691236517205 + Env.bits E1 BinOp.and IntKind.u64 x 6148914691236517205)) (2 ^ min (Int.toNat 2) (IntKind.bits IntKind.u64))) 3689348814741910323 + Env.bits E1 BinOp.and IntKind.u64 (IntKind.wrap IntKind.u64 (Env.bits E1 BinOp.and IntKind.u64 (Int.fdiv x (2 ^ min (Int.toNat 1) (IntKind.bits IntKind.u64))) 6148914691236517205 + Env.bits E1 BinOp.and IntKind.u64 x 6148914691236517205)) 3689348814741910323)) (2 ^ min (Int.toNat 4) (IntKind.bits IntKind.u64)) + IntKind.wrap IntKind.u64 (Env.bits E1 BinOp.and IntKind.u64 (Int.fdiv (IntKind.wrap IntKind.u64 (Env.bits E1 BinOp.and IntKind.u64 (Int.fdiv x (2 ^ min (Int.toNat 1) (IntKind.bits IntKind.u64))) 6148914691236517205 + Env.bits E1 BinOp.and IntKind.u64 x 6148914691236517205)) (2 ^ min (Int.toNat 2) (IntKind.bits IntKind.u64))) 3689348814741910323 + Env.bits E1 BinOp.and IntKind.u64 (IntKind.wrap IntKind.u64 (Env.bits E1 BinOp.and IntKind.u64 (Int.fdiv x (2 ^ min (Int.toNat 1) (IntKind.bits IntKind.u64))) 6148914691236517205 + Env.bits E1 BinOp.and IntKind.u64 x 6148914691236517205)) 3689348814741910323))) 1085102592571150095 + Int.fdiv (Env.bits E1 BinOp.and IntKind.u64 (IntKind.wrap IntKind.u64 (Int.fdiv (IntKind.wrap IntKind.u64 (Env.bits E1 BinOp.and IntKind.u64 (Int.fdiv (IntKind.wrap IntKind.u64 (Env.bits E1 BinOp.and IntKind.u64 (Int.fdiv x (2 ^ min (Int.toNat 1) (IntKind.bits IntKind.u64))) 6148914691236517205 + Env.bits E1 BinOp.and IntKind.u64 x 6148914691236517205)) (2 ^ min (Int.toNat 2) (IntKind.bits IntKind.u64))) 3689348814741910323 + Env.bits E1 BinOp.and IntKind.u64 (IntKind.wrap IntKind.u64 (Env.bits E1 BinOp.and IntKind.u64 (Int.fdiv x (2 ^ min (Int.toNat 1) (IntKind.bits IntKind.u64))) 6148914691236517205 + Env.bits E1 BinOp.and IntKind.u64 x 6148914691236517205)) 3689348814741910323)) (2 ^ min (Int.toNat 4) (IntKind.bits IntKind.u64)) + IntKind.wrap IntKind.u64 (Env.bits E1 BinOp.and IntKind.u64 (Int.fdiv (IntKind.wrap IntKind.u64 (Env.bits E1 BinOp.and IntKind.u64 (Int.fdiv x (2 ^ min (Int.toNat 1) (IntKind.bits IntKind.u64))) 6148914691236517205 + Env.bits E1 BinOp.and IntKind.u64 x 6148914691236517205)) (2 ^ min (Int.toNat 2) (IntKind.bits IntKind.u64))) 3689348814741910323 + Env.bits E1 BinOp.and IntKind.u64 (IntKind.wrap IntKind.u64 (Env.bits E1 BinOp.and IntKind.u64 (Int.fdiv x (2 ^ min (Int.toNat 1) (IntKind.bits IntKind.u64))) 6148914691236517205 + Env.bits E1 BinOp.and IntKind.u64 x 6148914691236517205)) 3689348814741910323))) 1085102592571150095) (2 ^ min (Int.toNat 8) (IntKind.bits IntKind.u64)))) (2 ^ min (Int.toNat 16) (IntKind.bits IntKind.u64)))) (2 ^ min (Int.toNat 32) (IntKind.bits IntKind.u64))))) 127))] [])) := by
  rw [k44_is]

noncomputable def k26 (s : Int) (nd : Int) (π : Plan) : Option CS := callC (E1) (1000) (26) (0) (.keep) ([]) π (a26 s nd)
def k26_p : Plan := (.fork (.must true (.must true (.fork (.must true (.must true (.fork (.must true (.must true (.must true .stop))) .stop))) (.must false (.must false (.must false (.must false (.must false .stop)))))))) (.must false (.must false .stop)))
theorem k26_is (s : Int) (nd : Int) : k26 s nd k26_p = (cond (decide (nd ≥ 0) == true)
  (cond (decide (nd ≥ 0) == true) (cond (decide (nd ≥ 0)) (cond (decide (nd < 64) == true)
  (cond (decide (nd < 64) == true) (cond (decide (nd < 64) == true) (cond (!decide (nd < 0))
  (cond (decide (nd < 64) == true) (cond (decide (nd < 64) == true) (cond (decide (nd < 64)) (some (CS.mk [(AV.bool (Env.bits E1 BinOp.and IntKind.u64 (Int.fdiv s (2 ^ min (Int.toNat nd) (IntKind.bits IntKind.u64))) 1 == 1))] [])) none) none) none)
  none) none) none)
  (cond (decide (nd < 64) == true) none (cond (decide (nd < 64) == true) none (cond (decide (nd < 64) == true) none (cond (decide (nd < 64) == true) none (cond (decide (nd < 64)) none (some (CS.mk [(AV.bool (false))] [])))))))) none) none)
  (cond (decide (nd ≥ 0) == true) none (cond (decide (nd ≥ 0)) none (some (CS.mk [(AV.bool (false))] []))))) := by kernel_rfl
theorem k26_eq (s : Int) (nd : Int) : k26 s nd k26_p = (cond (decide (nd ≥ 0))
  (cond (decide (nd < 64))
  (cond (decide (nd < 0))
  none
  (some (CS.mk [(AV.bool (Env.bits E1 BinOp.and IntKind.u64 (Int.fdiv s (2 ^ min (Int.toNat nd) (IntKind.bits IntKind.u64))) 1 == 1))] [])))
  (some (CS.mk [(AV.bool (false))] [])))
  (some (CS.mk [(AV.bool (false))] []))) := by
  rw [k26_is]
  try simp only [eq_self, decide_true, beq_self_eq_true, Nat.beq_refl, ble_self, Int.le_refl, Nat.le_refl]
  cases (decide (nd ≥ 0)) with
  | true =>
    cases (decide (nd < 64)) with
    | true =>
      cases (decide (nd < 0)) with
      | true =>
        rfl
      | false =>
        rfl
    | false =>
      rfl
  | false =>
    rfl

noncomputable def s24 (s : Int) (nd : Int) (i : Nat) (π : Plan) : Option (Nat × CS) := stepC (E1b) (300) (loopC E1b 24 0) (0) (h24) ((.normal, h24) :: x24) π (c24 s nd i)
def s24_p : Plan := (.fork .stop .stop)
theorem s24_is (s : Int) (nd : Int) (i : Nat) : s24 s nd i s24_p = (cond (decide ((↑i : Int) < nd))
  (some (0, (CS.mk [(AV.int IntKind.u64 (IntKind.wrap IntKind.u64 (Int.tdiv s 2))), (AV.int IntKind.i64 (nd)), (AV.int IntKind.i64 (IntKind.wrap IntKind.i64 ((↑i : Int) + 1)))] [])))
  (some (1, (CS.mk [(AV.int IntKind.u64 (s))] [])))) := by kernel_rfl
theorem s24_eq (s : Int) (nd : Int) (i : Nat) : s24 s nd i s24_p = (cond (decide ((↑i : Int) < nd))
  (some (0, (CS.mk [(AV.int IntKind.u64 (IntKind.wrap IntKind.u64 (Int.tdiv s 2))), (AV.int IntKind.i64 (nd)), (AV.int IntKind.i64 (IntKind.wrap IntKind.i64 ((↑i : Int) + 1)))] [])))
  (some (1, (CS.mk [(AV.int IntKind.u64 (s))] [])))) := by
  rw [s24_is]

noncomputable def k24 (s : Int) (nd : Int) (π : Plan) : Option CS := callC (E2) (1000) (24) (0) (.keep) ([]) π (a26 s nd)
def k24_p : Plan := (.fork (.must true (.must false (.fork .stop (.reck 1 (.fork (.must true (.must true .stop)) .stop))))) (.must false (.must true .stop)))
theorem k24_is (s : Int) (nd : Int) : k24 s nd k24_p = (cond (decide (nd < 0) == false)
  (cond (decide (nd < 0) == false) (cond (decide (nd < 0)) none (cond (decide (nd > 63))
  (some (CS.mk [(AV.bool (false))] []))
  (cond (rngV s)
  (cond (!decide (nd < 0)) (cond (!decide (nd > 63)) (some (CS.mk [(AV.bool (Int.tmod (divV s nd) 2 == 1))] [])) none) none)
  none))) none)
  (cond (decide (nd < 0) == false) none (cond (decide (nd < 0)) (some (CS.mk [(AV.bool (false))] [])) none))) := by kernel_rfl
theorem k24_eq (s : Int) (nd : Int) : k24 s nd k24_p = (cond (decide (nd < 0))
  (some (CS.mk [(AV.bool (false))] []))
  (cond (decide (nd > 63))
  (some (CS.mk [(AV.bool (false))] []))
  (cond (rngV s)
  (some (CS.mk [(AV.bool (Int.tmod (divV s nd) 2 == 1))] []))
  none))) := by
  rw [k24_is]
  try simp only [eq_self, decide_true, beq_self_eq_true, Nat.beq_refl, ble_self, Int.le_refl, Nat.le_refl]
  cases (decide (nd < 0)) with
  | true =>
    rfl
  | false =>
    cases (decide (nd > 63)) with
    | true =>
      rfl
    | false =>
      cases (rngV s) with
      | true =>
        rfl
      | false =>
        rfl

noncomputable def s25t (s : Int) (i : Nat) (π : Plan) : Option (Nat × CS) := stepC (E3) (300) (loopC E3 25 0) (0) (h25) ((.normal, h25) :: x25) π (c25t s i)
def s25t_p : Plan := (.fork (.fork (.fork .stop .stop) .stop) .stop)
theorem s25t_is (s : Int) (i : Nat) : s25t s i s25t_p = (cond (decide ((↑i : Int) < 64))
  (cond (rngV s)
  (cond (hasV s (↑i : Int))
  (some (0, (CS.mk [(AV.int IntKind.u64 (s)), (AV.osl (false) (0) (0) (1) (1) (1) (true)), (AV.int IntKind.i64 (IntKind.wrap IntKind.i64 ((↑i : Int) + 1)))] [some (AObj.tarr [Sh.int IntKind.i64] (1) (rowsOf (1) [(AV.int IntKind.i64 ((↑i : Int)))] (1)) true)])))
  (some (0, (CS.mk [(AV.int IntKind.u64 (s)), (AV.osl (true) (0) (0) (0) (0) (1) (true)), (AV.int IntKind.i64 (IntKind.wrap IntKind.i64 ((↑i : Int) + 1)))] [some (AObj.tarr [Sh.int IntKind.i64] (0) (fun p_ q_ => AV.bad) true)]))))
  none)
  (some (1, (CS.mk [(AV.osl (true) (0) (0) (0) (0) (1) (true))] [some (AObj.tarr [Sh.int IntKind.i64] (0) (fun p_ q_ => AV.bad) true)])))) := by kernel_rfl
theorem s25t_eq (s : Int) (i : Nat) : s25t s i s25t_p = (cond (decide ((↑i : Int) < 64))
  (cond (rngV s)
  (cond (hasV s (↑i : Int))
  (some (0, (CS.mk [(AV.int IntKind.u64 (s)), (AV.osl (false) (0) (0) (1) (1) (1) (true)), (AV.int IntKind.i64 (IntKind.wrap IntKind.i64 ((↑i : Int) + 1)))] [some (AObj.tarr [Sh.int IntKind.i64] (1) (rowsOf (1) [(AV.int IntKind.i64 ((↑i : Int)))] (1)) true)])))
  (some (0, (CS.mk [(AV.int IntKind.u64 (s)), (AV.osl (true) (0) (0) (0) (0) (1) (true)), (AV.int IntKind.i64 (IntKind.wrap IntKind.i64 ((↑i : Int) + 1)))] [some (AObj.tarr [Sh.int IntKind.i64] (0) (fun p_ q_ => AV.bad) true)]))))
  none)
  (some (1, (CS.mk [(AV.osl (true) (0) (0) (0) (0) (1) (true))] [some (AObj.tarr [Sh.int IntKind.i64] (0) (fun p_ q_ => AV.bad) true)])))) := by
  rw [s25t_is]

noncomputable def s25 (s : Int) (m : Nat) (g : Nat → Nat → AV) (i : Nat) (π : Plan) : Option (Nat × CS) := stepC (E3) (300) (loopC E3 25 0) (0) (h25) ((.normal, h25) :: x25) π (c25 s false m g i)
def s25_p : Plan := (.fork (.fork (.fork (.reck 1 (.must false (.fork (.fork .stop .stop) .stop))) .stop) .stop) .stop)
theorem s25_is (s : Int) (m : Nat) (g : Nat → Nat → AV) (i : Nat) : s25 s m g i s25_p = (cond (decide ((↑i : Int) < 64))
  (cond (rngV s)
  (cond (hasV s (↑i : Int))
  (cond (Nat.ble ((m) + (1)) (m)) none (cond (growB (8) (m + 1))
  (cond (Nat.ble (0 + m) m)
  (some (0, (CS.mk [(AV.int IntKind.u64 (s)), (AV.osl (false) (0) (0) (m + 1) (m + 1) (1) (true)), (AV.int IntKind.i64 (IntKind.wrap IntKind.i64 ((↑i : Int) + 1)))] [some (AObj.tarr [Sh.int IntKind.i64] (m + 1) (fjoin (fun p_ q_ => g (0 + p_) q_) (m) (rowsOf (1) [(AV.int IntKind.i64 ((↑i : Int)))] (1))) true)])))
  none)
  none))
  (some (0, (CS.mk [(AV.int IntKind.u64 (s)), (AV.osl (false) (0) (0) (m) (m) (1) (true)), (AV.int IntKind.i64 (IntKind.wrap IntKind.i64 ((↑i : Int) + 1)))] [some (AObj.tarr [Sh.int IntKind.i64] (m) g true)]))))
  none)
  (some (1, (CS.mk [(AV.osl (false) (0) (0) (m) (m) (1) (true))] [some (AObj.tarr [Sh.int IntKind.i64] (m) g true)])))) := by kernel_rfl
theorem s25_eq (s : Int) (m : Nat) (g : Nat → Nat → AV) (i : Nat) : s25 s m g i s25_p = (cond (decide ((↑i : Int) < 64))
  (cond (rngV s)
  (cond (hasV s (↑i : Int))
  (cond (Nat.ble ((m) + (1)) (m)) none (cond (growB (8) (m + 1))
  (cond (Nat.ble (0 + m) m)
  (some (0, (CS.mk [(AV.int IntKind.u64 (s)), (AV.osl (false) (0) (0) (m + 1) (m + 1) (1) (true)), (AV.int IntKind.i64 (IntKind.wrap IntKind.i64 ((↑i : Int) + 1)))] [some (AObj.tarr [Sh.int IntKind.i64] (m + 1) (fjoin (fun p_ q_ => g (0 + p_) q_) (m) (rowsOf (1) [(AV.int IntKind.i64 ((↑i : Int)))] (1))) true)])))
  none)
  none))
  (some (0, (CS.mk [(AV.int IntKind.u64 (s)), (AV.osl (false) (0) (0) (m) (m) (1) (true)), (AV.int IntKind.i64 (IntKind.wrap IntKind.i64 ((↑i : Int) + 1)))] [some (AObj.tarr [Sh.int IntKind.i64] (m) g true)]))))
  none)
  (some (1, (CS.mk [(AV.osl (false) (0) (0) (m) (m) (1) (true))] [some (AObj.tarr [Sh.int IntKind.i64] (m) g true)])))) := by
  rw [s25_is]

noncomputable def s28t (s : Int) (i : Nat) (π : Plan) : Option (Nat × CS) := stepC (E3b) (300) (loopC E3b 28 0) (0) (h28) ((.normal, h28) :: x28) π (c28t s i)
def s28t_p : Plan := (.fork (.fork (.fork .stop .stop) .stop) .stop)
theorem s28t_is (s : Int) (i : Nat) : s28t s i s28t_p = (cond (decide ((↑i : Int) < 64))
  (cond (rngV s)
  (cond (hasV s (↑i : Int))
  (some (0, (CS.mk [(AV.int IntKind.u64 (s)), (AV.osl (false) (0) (0) (1) (1) (1) (true)), (AV.int IntKind.i64 (IntKind.wrap IntKind.i64 ((↑i : Int) + 1)))] [some (AObj.tarr [Sh.int IntKind.i64] (1) (rowsOf (1) [(AV.int IntKind.i64 ((↑i : Int)))] (1)) true)])))
  (some (0, (CS.mk [(AV.int IntKind.u64 (s)), (AV.osl (true) (0) (0) (0) (0) (1) (true)), (AV.int IntKind.i64 (IntKind.wrap IntKind.i64 ((↑i : Int) + 1)))] [some (AObj.tarr [Sh.int IntKind.i64] (0) (fun p_ q_ => AV.bad) true)]))))
  none)
  (some (1, (CS.mk [(AV.osl (true) (0) (0) (0) (0) (1) (true))] [some (AObj.tarr [Sh.int IntKind.i64] (0) (fun p_ q_ => AV.bad) true)])))) := by kernel_rfl
theorem s28t_eq (s : Int) (i : Nat) : s28t s i s28t_p = (cond (decide ((↑i : Int) < 64))
  (cond (rngV s)
  (cond (hasV s (↑i : Int))
  (some (0, (CS.mk [(AV.int IntKind.u64 (s)), (AV.osl (false) (0) (0) (1) (1) (1) (true)), (AV.int IntKind.i64 (IntKind.wrap IntKind.i64 ((↑i : Int) + 1)))] [some (AObj.tarr [Sh.int IntKind.i64] (1) (rowsOf (1) [(AV.int IntKind.i64 ((↑i : Int)))] (1)) true)])))
  (some (0, (CS.mk [(AV.int IntKind.u64 (s)), (AV.osl (true) (0) (0) (0) (0) (1) (true)), (AV.int IntKind.i64 (IntKind.wrap IntKind.i64 ((↑i : Int) + 1)))] [some (AObj.tarr [Sh.int IntKind.i64] (0) (fun p_ q_ => AV.bad) true)]))))
  none)
  (some (1, (CS.mk [(AV.osl (true) (0) (0) (0) (0) (1) (true))] [some (AObj.tarr [Sh.int IntKind.i64] (0) (fun p_ q_ => AV.bad) true)])))) := by
  rw [s28t_is]

noncomputable def s28 (s : Int) (m : Nat) (g : Nat → Nat → AV) (i : Nat) (π : Plan) : Option (Nat × CS) := stepC (E3b) (300) (loopC E3b 28 0) (0) (h28) ((.normal, h28) :: x28) π (c28 s false m g i)
def s28_p : Plan := (.fork (.fork (.fork (.reck 1 (.must false (.fork (.fork .stop .stop) .stop))) .stop) .stop) .stop)
theorem s28_is (s : Int) (m : Nat) (g : Nat → Nat → AV) (i : Nat) : s28 s m g i s28_p = (cond (decide ((↑i : Int) < 64))
  (cond (rngV s)
  (cond (hasV s (↑i : Int))
  (cond (Nat.ble ((m) + (1)) (m)) none (cond (growB (8) (m + 1))
  (cond (Nat.ble (0 + m) m)
  (some (0, (CS.mk [(AV.int IntKind.u64 (s)), (AV.osl (false) (0) (0) (m + 1) (m + 1) (1) (true)), (AV.int IntKind.i64 (IntKind.wrap IntKind.i64 ((↑i : Int) + 1)))] [some (AObj.tarr [Sh.int IntKind.i64] (m + 1) (fjoin (fun p_ q_ => g (0 + p_) q_) (m) (rowsOf (1) [(AV.int IntKind.i64 ((↑i : Int)))] (1))) true)])))
  none)
  none))
  (some (0, (CS.mk [(AV.int IntKind.u64 (s)), (AV.osl (false) (0) (0) (m) (m) (1) (true)), (AV.int IntKind.i64 (IntKind.wrap IntKind.i64 ((↑i : Int) + 1)))] [some (AObj.tarr [Sh.int IntKind.i64] (m) g true)]))))
  none)
  (some (1, (CS.mk [(AV.osl (false) (0) (0) (m) (m) (1) (true))] [some (AObj.tarr [Sh.int IntKind.i64] (m) g true)])))) := by kernel_rfl
theorem s28_eq (s : Int) (m : Nat) (g : Nat → Nat → AV) (i : Nat) : s28 s m g i s28_p = (cond (decide ((↑i : Int) < 64))
  (cond (rngV s)
  (cond (hasV s (↑i : Int))
  (cond (Nat.ble ((m) + (1)) (m)) none (cond (growB (8) (m + 1))
  (cond (Nat.ble (0 + m) m)
  (some (0, (CS.mk [(AV.int IntKind.u64 (s)), (AV.osl (false) (0) (0) (m + 1) (m + 1) (1) (true)), (AV.int IntKind.i64 (IntKind.wrap IntKind.i64 ((↑i : Int) + 1)))] [some (AObj.tarr [Sh.int IntKind.i64] (m + 1) (fjoin (fun p_ q_ => g (0 + p_) q_) (m) (rowsOf (1) [(AV.int IntKind.i64 ((↑i : Int)))] (1))) true)])))
  none)
  none))
  (some (0, (CS.mk [(AV.int IntKind.u64 (s)), (AV.osl (false) (0) (0) (m) (m) (1) (true)), (AV.int IntKind.i64 (IntKind.wrap IntKind.i64 ((↑i : Int) + 1)))] [some (AObj.tarr [Sh.int IntKind.i64] (m) g true)]))))
  none)
  (some (1, (CS.mk [(AV.osl (false) (0) (0) (m) (m) (1) (true))] [some (AObj.tarr [Sh.int IntKind.i64] (m) g true)])))) := by
  rw [s28_is]

noncomputable def k25 (s : Int) (π : Plan) : Option CS := callC (E4) (1000) (25) (0) (.asl shI) ([]) π (am s)
def k25_p : Plan := (.reck 6 (.fork (.fork .stop .stop) .stop))
theorem k25_is (s : Int) : k25 s k25_p = (cond (rngV s)
  (cond (Nat.beq (cntV s) 0)
  (some (CS.mk [(AV.osl (true) (0) (0) (0) (0) (1) (true))] [some (AObj.tarr [Sh.int IntKind.i64] (0) (fun p_ q_ => AV.bad) true)]))
  (some (CS.mk [(AV.osl (false) (0) (0) (cntV s) (cntV s) (1) (true))] [some (AObj.tarr [Sh.int IntKind.i64] (cntV s) (memV (s)) true)])))
  none) := by kernel_rfl
theorem k25_eq (s : Int) : k25 s k25_p = (cond (rngV s)
  (cond (Nat.beq (cntV s) 0)
  (some (CS.mk [(AV.osl (true) (0) (0) (0) (0) (1) (true))] [some (AObj.tarr [Sh.int IntKind.i64] (0) (fun p_ q_ => AV.bad) true)]))
  (some (CS.mk [(AV.osl (false) (0) (0) (cntV s) (cntV s) (1) (true))] [some (AObj.tarr [Sh.int IntKind.i64] (cntV s) (memV (s)) true)])))
  none) := by
  rw [k25_is]

noncomputable def k28 (s : Int) (π : Plan) : Option CS := callC (E4) (1000) (28) (0) (.asl shI) ([]) π (am s)
def k28_p : Plan := (.reck 6 (.fork (.fork .stop .stop) .stop))
theorem k28_is (s : Int) : k28 s k28_p = (cond (rngV s)
  (cond (Nat.beq (cntV s) 0)
  (some (CS.mk [(AV.osl (true) (0) (0) (0) (0) (1) (true))] [some (AObj.tarr [Sh.int IntKind.i64] (0) (fun p_ q_ => AV.bad) true)]))
  (some (CS.mk [(AV.osl (false) (0) (0) (cntV s) (cntV s) (1) (true))] [some (AObj.tarr [Sh.int IntKind.i64] (cntV s) (memV (s)) true)])))
  none) := by kernel_rfl
theorem k28_eq (s : Int) : k28 s k28_p = (cond (rngV s)
  (cond (Nat.beq (cntV s) 0)
  (some (CS.mk [(AV.osl (true) (0) (0) (0) (0) (1) (true))] [some (AObj.tarr [Sh.int IntKind.i64] (0) (fun p_ q_ => AV.bad) true)]))
  (some (CS.mk [(AV.osl (false) (0) (0) (cntV s) (cntV s) (1) (true))] [some (AObj.tarr [Sh.int IntKind.i64] (cntV s) (memV (s)) true)])))
  none) := by
  rw [k28_is]

noncomputable def s27 (al : Bool) (f : Nat → Nat → AV) (bl : Bool) (n : Nat) (g : Nat → Nat → AV) (i : Nat) (π : Plan) : Option (Nat × CS) := stepC (E5) (300) (loopC E5 27 0) (0) (h27) ((.normal, h27) :: x27) π (c27 al f bl n g i)
def s27_p : Plan := (.fork (.reck 1 (.must true (.fork (.reck 1 (.must true (.must true (.must true (.must true (.must true (.must true (.fork .stop .stop)))))))) .stop))) .stop)
theorem s27_is (al : Bool) (f : Nat → Nat → AV) (bl : Bool) (n : Nat) (g : Nat → Nat → AV) (i : Nat) : s27 al f bl n g i s27_p = (cond (decide ((↑i : Int) < (↑n : Int)))
  (cond (decide ((↑i : Int) < (↑n : Int))) (cond (Nat.blt (0 + Int.toNat (↑i : Int)) n)
  (cond (decide ((↑i : Int) < (↑n : Int))) (cond (Nat.blt (0 + Int.toNat (↑i : Int)) n) (cond (Nat.blt (0 + Int.toNat (↑i : Int)) n) (cond (decide (AV.toI (g (0 + Int.toNat (↑i : Int)) 0) = AV.toI (g (0 + Int.toNat (↑i : Int)) 0))) (cond (Nat.blt (0 + Int.toNat (↑i : Int)) n) (cond (decide (AV.toI (f (0 + Int.toNat (↑i : Int)) 0) = AV.toI (f (0 + Int.toNat (↑i : Int)) 0))) (cond (AV.toI (f (0 + Int.toNat (↑i : Int)) 0) != AV.toI (g (0 + Int.toNat (↑i : Int)) 0))
  (some (2, (CS.mk [(AV.bool (false))] [])))
  (some (0, (CS.mk [(AV.osl (al) (0) (0) (n) (n) (1) (true)), (AV.osl (bl) (1) (0) (n) (n) (1) (true)), (AV.int IntKind.i64 ((↑n : Int))), (AV.int IntKind.i64 (IntKind.wrap IntKind.i64 ((↑i : Int) + 1)))] [some (AObj.tarr [Sh.int IntKind.i64] (n) f false), some (AObj.tarr [Sh.int IntKind.i64] (n) g false)])))) none) none) none) none) none) none)
  none) none)
  (some (1, (CS.mk [] [])))) := by kernel_rfl
theorem s27_eq (al : Bool) (f : Nat → Nat → AV) (bl : Bool) (n : Nat) (g : Nat → Nat → AV) (i : Nat) : s27 al f bl n g i s27_p = (cond (decide ((↑i : Int) < (↑n : Int)))
  (cond (Nat.blt (0 + Int.toNat (↑i : Int)) n)
  (cond (AV.toI (f (0 + Int.toNat (↑i : Int)) 0) != AV.toI (g (0 + Int.toNat (↑i : Int)) 0))
  (some (2, (CS.mk [(AV.bool (false))] [])))
  (some (0, (CS.mk [(AV.osl (al) (0) (0) (n) (n) (1) (true)), (AV.osl (bl) (1) (0) (n) (n) (1) (true)), (AV.int IntKind.i64 ((↑n : Int))), (AV.int IntKind.i64 (IntKind.wrap IntKind.i64 ((↑i : Int) + 1)))] [some (AObj.tarr [Sh.int IntKind.i64] (n) f false), some (AObj.tarr [Sh.int IntKind.i64] (n) g false)]))))
  none)
  (some (1, (CS.mk [] [])))) := by
  rw [s27_is]
  try simp only [eq_self, decide_true, beq_self_eq_true, Nat.beq_refl, ble_self, Int.le_refl, Nat.le_refl]
  cases (decide ((↑i : Int) < (↑n : Int))) with
  | true =>
    cases (Nat.blt (0 + Int.toNat (↑i : Int)) n) with
    | true =>
      cases (AV.toI (f (0 + Int.toNat (↑i : Int)) 0) != AV.toI (g (0 + Int.toNat (↑i : Int)) 0)) with
      | true =>
        rfl
      | false =>
        rfl
    | false =>
      rfl
  | false =>
    rfl

noncomputable def k27 (al : Bool) (f : Nat → Nat → AV) (bl : Bool) (n : Nat) (g : Nat → Nat → AV) (π : Plan) : Option CS := callC (E6) (1000) (27) (0) (.keep) ([]) π (a27 al f bl n g)
def k27_p : Plan := (.fork .stop (.must true (.must true (.must true (.must true (.reck 2 (.must true (.reck 1 (.must true (.fork (.fork .stop .stop) .stop))))))))))
theorem k27_is (al : Bool) (f : Nat → Nat → AV) (bl : Bool) (n : Nat) (g : Nat → Nat → AV) : k27 al f bl n g k27_p = (cond ((↑n : Int) != (↑n : Int))
  (some (CS.mk [(AV.bool (false))] []))
  (cond (decide (n = n)) (cond (decide (n = n)) (cond (decide (n = n)) (cond (decide ((↑n : Int) = (↑n : Int))) (cond (decide (n = n)) (cond (decide (n = n)) (cond (Nat.ble n 1000)
  (cond ((eqV f g (n)))
  (some (CS.mk [(AV.bool (true))] []))
  (some (CS.mk [(AV.bool (false))] [])))
  none) none) none) none) none) none) none)) := by kernel_rfl
theorem k27_eq (al : Bool) (f : Nat → Nat → AV) (bl : Bool) (n : Nat) (g : Nat → Nat → AV) : k27 al f bl n g k27_p = (cond ((↑n : Int) != (↑n : Int))
  (some (CS.mk [(AV.bool (false))] []))
  (cond (Nat.ble n 1000)
  (cond (eqV f g (n))
  (some (CS.mk [(AV.bool (true))] []))
  (some (CS.mk [(AV.bool (false))] [])))
  none)) := by
  rw [k27_is]
  try simp only [eq_self, decide_true, beq_self_eq_true, Nat.beq_refl, ble_self, Int.le_refl, Nat.le_refl]
  cases ((↑n : Int) != (↑n : Int)) with
  | true =>
    rfl
  | false =>
    cases (Nat.ble n 1000) with
    | true =>
      cases (eqV f g (n)) with
      | true =>
        rfl
      | false =>
        rfl
    | false =>
      rfl

noncomputable def s31 (s : Int) (k : Nat) (nl : Bool) (n : Nat) (g : Nat → Nat → AV) (i : Nat) (π : Plan) : Option (Nat × CS) := stepC (E6b) (300) (loopC E6b 31 0) (0) (h31) ((.normal, h31) :: x31) π (c31 s k nl n g i)
def s31_p : Plan := (.fork (.reck 1 (.must true (.fork (.fork (.fork .stop .stop) .stop) .stop))) .stop)
theorem s31_is (s : Int) (k : Nat) (nl : Bool) (n : Nat) (g : Nat → Nat → AV) (i : Nat) : s31 s k nl n g i s31_p = (cond (decide ((↑i : Int) < (↑n : Int)))
  (cond (decide ((↑i : Int) < (↑n : Int))) (cond (Nat.blt (0 + Int.toNat (↑i : Int)) n)
  (cond (rngV s)
  (cond (hasV s (AV.toI (g (0 + Int.toNat (↑i : Int)) 0)))
  (some (0, (CS.mk [(AV.int IntKind.u64 (s)), (AV.int IntKind.i64 (IntKind.wrap IntKind.i64 ((↑k : Int) + 1))), (AV.osl (nl) (0) (0) (n) (n) (1) (true)), (AV.int IntKind.i64 (IntKind.wrap IntKind.i64 ((↑i : Int) + 1)))] [some (AObj.tarr [Sh.int IntKind.i64] (n) g true)])))
  (some (0, (CS.mk [(AV.int IntKind.u64 (s)), (AV.int IntKind.i64 ((↑k : Int))), (AV.osl (nl) (0) (0) (n) (n) (1) (true)), (AV.int IntKind.i64 (IntKind.wrap IntKind.i64 ((↑i : Int) + 1)))] [some (AObj.tarr [Sh.int IntKind.i64] (n) g true)]))))
  none)
  none) none)
  (some (1, (CS.mk [(AV.int IntKind.i64 ((↑k : Int))), (AV.osl (nl) (0) (0) (n) (n) (1) (true))] [some (AObj.tarr [Sh.int IntKind.i64] (n) g true)])))) := by kernel_rfl
theorem s31_eq (s : Int) (k : Nat) (nl : Bool) (n : Nat) (g : Nat → Nat → AV) (i : Nat) : s31 s k nl n g i s31_p = (cond (decide ((↑i : Int) < (↑n : Int)))
  (cond (Nat.blt (0 + Int.toNat (↑i : Int)) n)
  (cond (rngV s)
  (cond (hasV s (AV.toI (g (0 + Int.toNat (↑i : Int)) 0)))
  (some (0, (CS.mk [(AV.int IntKind.u64 (s)), (AV.int IntKind.i64 (IntKind.wrap IntKind.i64 ((↑k : Int) + 1))), (AV.osl (nl) (0) (0) (n) (n) (1) (true)), (AV.int IntKind.i64 (IntKind.wrap IntKind.i64 ((↑i : Int) + 1)))] [some (AObj.tarr [Sh.int IntKind.i64] (n) g true)])))
  (some (0, (CS.mk [(AV.int IntKind.u64 (s)), (AV.int IntKind.i64 ((↑k : Int))), (AV.osl (nl) (0) (0) (n) (n) (1) (true)), (AV.int IntKind.i64 (IntKind.wrap IntKind.i64 ((↑i : Int) + 1)))] [some (AObj.tarr [Sh.int IntKind.i64] (n) g true)]))))
  none)
  none)
  (some (1, (CS.mk [(AV.int IntKind.i64 ((↑k : Int))), (AV.osl (nl) (0) (0) (n) (n) (1) (true))] [some (AObj.tarr [Sh.int IntKind.i64] (n) g true)])))) := by
  rw [s31_is]
  try simp only [eq_self, decide_true, beq_self_eq_true, Nat.beq_refl, ble_self, Int.le_refl, Nat.le_refl]
  cases (decide ((↑i : Int) < (↑n : Int))) with
  | true =>
    cases (Nat.blt (0 + Int.toNat (↑i : Int)) n) with
    | true =>
      cases (rngV s) with
      | true =>
        cases (hasV s (AV.toI (g (0 + Int.toNat (↑i : Int)) 0))) with
        | true =>
          rfl
        | false =>
          rfl
      | false =>
        rfl
    | false =>
      rfl
  | false =>
    rfl

noncomputable def k31 (s : Int) (q : Int) (π : Plan) : Option CS := callC (E7) (1000) (31) (0) (.keep) ([]) π (a31 s q)
def k31_p : Plan := (.fork (.fork (.reck 5 (.fork .stop .stop)) (.reck 2 (.must true (.reck 2 (.must true (.fork (.fork .stop .stop) .stop)))))) .stop)
theorem k31_is (s : Int) (q : Int) : k31 s q k31_p = (cond (rngV q)
  (cond (Nat.beq (cntV q) 0)
  (cond (rngV s)
  (some (CS.mk [(AV.bool (decide (IntKind.wrap IntKind.i64 (2 * (↑(ctV s (fun x x_1 => AV.bad) 0) : Int)) > 0)))] []))
  none)
  (cond (decide (cntV q = cntV q)) (cond (decide (cntV q = cntV q)) (cond (rngV s)
  (cond (Nat.ble (cntV q) 1000)
  (some (CS.mk [(AV.bool (decide (IntKind.wrap IntKind.i64 (2 * (↑(ctV s (memV q) (cntV q)) : Int)) > (↑(cntV q) : Int))))] []))
  none)
  none) none) none))
  none) := by kernel_rfl
theorem k31_eq (s : Int) (q : Int) : k31 s q k31_p = (cond (rngV q)
  (cond (Nat.beq (cntV q) 0)
  (cond (rngV s)
  (some (CS.mk [(AV.bool (decide (IntKind.wrap IntKind.i64 (2 * (↑(ctV s (fun x x_1 => AV.bad) 0) : Int)) > 0)))] []))
  none)
  (cond (rngV s)
  (cond (Nat.ble (cntV q) 1000)
  (some (CS.mk [(AV.bool (decide (IntKind.wrap IntKind.i64 (2 * (↑(ctV s (memV q) (cntV q)) : Int)) > (↑(cntV q) : Int))))] []))
  none)
  none))
  none) := by
  rw [k31_is]
  try simp only [eq_self, decide_true, beq_self_eq_true, Nat.beq_refl, ble_self, Int.le_refl, Nat.le_refl]
  cases (rngV q) with
  | true =>
    cases (Nat.beq (cntV q) 0) with
    | true =>
      cases (rngV s) with
      | true =>
        rfl
      | false =>
        rfl
    | false =>
      cases (rngV s) with
      | true =>
        cases (Nat.ble (cntV q) 1000) with
        | true =>
          rfl
        | false =>
          rfl
      | false =>
        rfl
  | false =>
    rfl

noncomputable def k30 (s : Int) (q : Int) (π : Plan) : Option CS := callC (E7) (1000) (30) (0) (.keep) ([]) π (a31 s q)
def k30_p : Plan := (.fork (.fork .stop .stop) .stop)
theorem k30_is (s : Int) (q : Int) : k30 s q k30_p = (cond (rngV (Env.bits E7 BinOp.and IntKind.u64 s q))
  (cond (rngV q)
  (some (CS.mk [(AV.bool (decide (IntKind.wrap IntKind.i64 (2 * (↑(popV (Env.bits E7 BinOp.and IntKind.u64 s q)) : Int)) > (↑(popV q) : Int))))] []))
  none)
  none) := by kernel_rfl
theorem k30_eq (s : Int) (q : Int) : k30 s q k30_p = (cond (rngV (Env.bits E7 BinOp.and IntKind.u64 s q))
  (cond (rngV q)
  (some (CS.mk [(AV.bool (decide (IntKind.wrap IntKind.i64 (2 * (↑(popV (Env.bits E7 BinOp.and IntKind.u64 s q)) : Int)) > (↑(popV q) : Int))))] []))
  none)
  none) := by
  rw [k30_is]

noncomputable def s23 (w : Int) (nl : Bool) (n : Nat) (f : Nat → Nat → AV) (i : Nat) (π : Plan) : Option (Nat × CS) := stepC (E8) (300) (loopC E8 23 0) (0) (h23) ((.normal, h23) :: x23) π (c23 w nl n f i)
def s23_p : Plan := (.fork (.reck 1 (.must true (.fork (.fork (.must true (.must true (.fork (.fork .stop .stop) .stop))) (.must false (.must false .stop))) .stop))) .stop)
theorem s23_is (w : Int) (nl : Bool) (n : Nat) (f : Nat → Nat → AV) (i : Nat) : s23 w nl n f i s23_p = (cond (decide ((↑i : Int) < (↑n : Int)))
  (cond (decide ((↑i : Int) < (↑n : Int))) (cond (Nat.blt (0 + Int.toNat (↑i : Int)) n)
  (cond (decide (AV.toI (f (0 + Int.toNat (↑i : Int)) 0) ≥ 0) == true)
  (cond (decide (AV.toI (f (0 + Int.toNat (↑i : Int)) 0) ≥ 0) == true) (cond (decide (AV.toI (f (0 + Int.toNat (↑i : Int)) 0) ≥ 0)) (cond (decide (AV.toI (f (0 + Int.toNat (↑i : Int)) 0) < 64))
  (cond (!decide (AV.toI (f (0 + Int.toNat (↑i : Int)) 0) < 0))
  (some (0, (CS.mk [(AV.int IntKind.u64 (Env.bits E8 BinOp.or IntKind.u64 w (IntKind.wrap IntKind.u64 (1 * 2 ^ min (Int.toNat (AV.toI (f (0 + Int.toNat (↑i : Int)) 0))) (IntKind.bits IntKind.u64))))), (AV.osl (nl) (0) (0) (n) (n) (1) (true)), (AV.int IntKind.i64 ((↑n : Int))), (AV.int IntKind.i64 (IntKind.wrap IntKind.i64 ((↑i : Int) + 1)))] [some (AObj.tarr [Sh.int IntKind.i64] (n) f false)])))
  none)
  (some (0, (CS.mk [(AV.int IntKind.u64 (w)), (AV.osl (nl) (0) (0) (n) (n) (1) (true)), (AV.int IntKind.i64 ((↑n : Int))), (AV.int IntKind.i64 (IntKind.wrap IntKind.i64 ((↑i : Int) + 1)))] [some (AObj.tarr [Sh.int IntKind.i64] (n) f false)])))) none) none)
  (cond (decide (AV.toI (f (0 + Int.toNat (↑i : Int)) 0) ≥ 0) == true) none (cond (decide (AV.toI (f (0 + Int.toNat (↑i : Int)) 0) ≥ 0)) none (some (0, (CS.mk [(AV.int IntKind.u64 (w)), (AV.osl (nl) (0) (0) (n) (n) (1) (true)), (AV.int IntKind.i64 ((↑n : Int))), (AV.int IntKind.i64 (IntKind.wrap IntKind.i64 ((↑i : Int) + 1)))] [some (AObj.tarr [Sh.int IntKind.i64] (n) f false)]))))))
  none) none)
  (some (1, (CS.mk [(AV.int IntKind.u64 (w))] [])))) := by kernel_rfl
theorem s23_eq (w : Int) (nl : Bool) (n : Nat) (f : Nat → Nat → AV) (i : Nat) : s23 w nl n f i s23_p = (cond (decide ((↑i : Int) < (↑n : Int)))
  (cond (Nat.blt (0 + Int.toNat (↑i : Int)) n)
  (cond (decide (AV.toI (f (0 + Int.toNat (↑i : Int)) 0) ≥ 0))
  (cond (decide (AV.toI (f (0 + Int.toNat (↑i : Int)) 0) < 64))
  (cond (decide (AV.toI (f (0 + Int.toNat (↑i : Int)) 0) < 0))
  none
  (some (0, (CS.mk [(AV.int IntKind.u64 (Env.bits E8 BinOp.or IntKind.u64 w (IntKind.wrap IntKind.u64 (1 * 2 ^ min (Int.toNat (AV.toI (f (0 + Int.toNat (↑i : Int)) 0))) (IntKind.bits IntKind.u64))))), (AV.osl (nl) (0) (0) (n) (n) (1) (true)), (AV.int IntKind.i64 ((↑n : Int))), (AV.int IntKind.i64 (IntKind.wrap IntKind.i64 ((↑i : Int) + 1)))] [some (AObj.tarr [Sh.int IntKind.i64] (n) f false)]))))
  (some (0, (CS.mk [(AV.int IntKind.u64 (w)), (AV.osl (nl) (0) (0) (n) (n) (1) (true)), (AV.int IntKind.i64 ((↑n : Int))), (AV.int IntKind.i64 (IntKind.wrap IntKind.i64 ((↑i : Int) + 1)))] [some (AObj.tarr [Sh.int IntKind.i64] (n) f false)]))))
  (some (0, (CS.mk [(AV.int IntKind.u64 (w)), (AV.osl (nl) (0) (0) (n) (n) (1) (true)), (AV.int IntKind.i64 ((↑n : Int))), (AV.int IntKind.i64 (IntKind.wrap IntKind.i64 ((↑i : Int) + 1)))] [some (AObj.tarr [Sh.int IntKind.i64] (n) f false)]))))
  none)
  (some (1, (CS.mk [(AV.int IntKind.u64 (w))] [])))) := by
  rw [s23_is]
  try simp only [eq_self, decide_true, beq_self_eq_true, Nat.beq_refl, ble_self, Int.le_refl, Nat.le_refl]
  cases (decide ((↑i : Int) < (↑n : Int))) with
  | true =>
    cases (Nat.blt (0 + Int.toNat (↑i : Int)) n) with
    | true =>
      cases (decide (AV.toI (f (0 + Int.toNat (↑i : Int)) 0) ≥ 0)) with
      | true =>
        cases (decide (AV.toI (f (0 + Int.toNat (↑i : Int)) 0) < 64)) with
        | true =>
          cases (decide (AV.toI (f (0 + Int.toNat (↑i : Int)) 0) < 0)) with
          | true =>
            rfl
          | false =>
            rfl
        | false =>
          rfl
      | false =>
        rfl
    | false =>
      rfl
  | false =>
    rfl

noncomputable def k23 (w : Int) (nl : Bool) (n : Nat) (f : Nat → Nat → AV) (π : Plan) : Option CS := callC (E9) (1000) (23) (0) (.keep) ([]) π (a23 w nl n f)
def k23_p : Plan := (.must true (.must true (.reck 2 (.must true (.fork (.fork .stop .stop) .stop)))))
theorem k23_is (w : Int) (nl : Bool) (n : Nat) (f : Nat → Nat → AV) : k23 w nl n f k23_p = (cond (decide (n = n)) (cond (decide ((↑n : Int) = (↑n : Int))) (cond (decide (n = n)) (cond (rngV w)
  (cond (Nat.ble n 1000)
  (some (CS.mk [(AV.int IntKind.u64 ((withV (w) f (n))))] []))
  none)
  none) none) none) none) := by kernel_rfl
theorem k23_eq (w : Int) (nl : Bool) (n : Nat) (f : Nat → Nat → AV) : k23 w nl n f k23_p = (cond (rngV w)
  (cond (Nat.ble n 1000)
  (some (CS.mk [(AV.int IntKind.u64 ((withV (w) f (n))))] []))
  none)
  none) := by
  rw [k23_is]
  try simp only [eq_self, decide_true, beq_self_eq_true, Nat.beq_refl, ble_self, Int.le_refl, Nat.le_refl]
  cases (rngV w) with
  | true =>
    cases (Nat.ble n 1000) with
    | true =>
      rfl
    | false =>
      rfl
  | false =>
    rfl

noncomputable def s52 (s : Int) (q : Int) (nd : Int) (nl : Bool) (n : Nat) (f : Nat → Nat → AV) (w : Int) (i : Int) (b : Bool) (j : Nat) (π : Plan) : Option (Nat × CS) := stepC (EA) (300) (loopC EA 5 2) (0) (h52) ((.normal, h52) :: x52) π (c52 s q nd nl n f w i b j)
def s52_p : Plan := (.fork (.reck 1 (.must true (.fork (.fork (.must true (.must true (.must false .stop))) (.must false (.must false (.must true .stop)))) .stop))) .stop)
theorem s52_is (s : Int) (q : Int) (nd : Int) (nl : Bool) (n : Nat) (f : Nat → Nat → AV) (w : Int) (i : Int) (b : Bool) (j : Nat) : s52 s q nd nl n f w i b j s52_p = (cond (decide ((↑j : Int) < (↑n : Int)))
  (cond (decide ((↑j : Int) < (↑n : Int))) (cond (Nat.blt (0 + Int.toNat (↑j : Int)) n)
  (cond (b == false)
  (cond (b == false) (cond (b == false) (cond (b) none (some (0, (CS.mk [(AV.int IntKind.u64 (s)), (AV.int IntKind.u64 (q)), (AV.int IntKind.i64 (nd)), (AV.osl (nl) (0) (0) (n) (n) (1) (true)), (AV.int IntKind.u64 (w)), (AV.int IntKind.i64 (i)), (AV.bool (AV.toI (f (0 + Int.toNat (↑j : Int)) 0) == i)), (AV.int IntKind.i64 (i)), (AV.osl (nl) (0) (0) (n) (n) (1) (true)), (AV.int IntKind.i64 ((↑n : Int))), (AV.int IntKind.i64 (IntKind.wrap IntKind.i64 ((↑j : Int) + 1)))] [some (AObj.tarr [Sh.int IntKind.i64] (n) f false)])))) none) none)
  (cond (b == false) none (cond (b == false) none (cond (b) (some (0, (CS.mk [(AV.int IntKind.u64 (s)), (AV.int IntKind.u64 (q)), (AV.int IntKind.i64 (nd)), (AV.osl (nl) (0) (0) (n) (n) (1) (true)), (AV.int IntKind.u64 (w)), (AV.int IntKind.i64 (i)), (AV.bool (true)), (AV.int IntKind.i64 (i)), (AV.osl (nl) (0) (0) (n) (n) (1) (true)), (AV.int IntKind.i64 ((↑n : Int))), (AV.int IntKind.i64 (IntKind.wrap IntKind.i64 ((↑j : Int) + 1)))] [some (AObj.tarr [Sh.int IntKind.i64] (n) f false)]))) none))))
  none) none)
  (some (1, (CS.mk [(AV.int IntKind.u64 (s)), (AV.int IntKind.u64 (q)), (AV.int IntKind.i64 (nd)), (AV.osl (nl) (0) (0) (n) (n) (1) (true)), (AV.int IntKind.u64 (w)), (AV.int IntKind.i64 (i)), (AV.bool (b)), (AV.int IntKind.i64 (i))] [some (AObj.tarr [Sh.int IntKind.i64] (n) f false)])))) := by kernel_rfl
theorem s52_eq (s : Int) (q : Int) (nd : Int) (nl : Bool) (n : Nat) (f : Nat → Nat → AV) (w : Int) (i : Int) (b : Bool) (j : Nat) : s52 s q nd nl n f w i b j s52_p = (cond (decide ((↑j : Int) < (↑n : Int)))
  (cond (Nat.blt (0 + Int.toNat (↑j : Int)) n)
  (cond (b)
  (some (0, (CS.mk [(AV.int IntKind.u64 (s)), (AV.int IntKind.u64 (q)), (AV.int IntKind.i64 (nd)), (AV.osl (nl) (0) (0) (n) (n) (1) (true)), (AV.int IntKind.u64 (w)), (AV.int IntKind.i64 (i)), (AV.bool (true)), (AV.int IntKind.i64 (i)), (AV.osl (nl) (0) (0) (n) (n) (1) (true)), (AV.int IntKind.i64 ((↑n : Int))), (AV.int IntKind.i64 (IntKind.wrap IntKind.i64 ((↑j : Int) + 1)))] [some (AObj.tarr [Sh.int IntKind.i64] (n) f false)])))
  (some (0, (CS.mk [(AV.int IntKind.u64 (s)), (AV.int IntKind.u64 (q)), (AV.int IntKind.i64 (nd)), (AV.osl (nl) (0) (0) (n) (n) (1) (true)), (AV.int IntKind.u64 (w)), (AV.int IntKind.i64 (i)), (AV.bool (AV.toI (f (0 + Int.toNat (↑j : Int)) 0) == i)), (AV.int IntKind.i64 (i)), (AV.osl (nl) (0) (0) (n) (n) (1) (true)), (AV.int IntKind.i64 ((↑n : Int))), (AV.int IntKind.i64 (IntKind.wrap IntKind.i64 ((↑j : Int) + 1)))] [some (AObj.tarr [Sh.int IntKind.i64] (n) f false)]))))
  none)
  (some (1, (CS.mk [(AV.int IntKind.u64 (s)), (AV.int IntKind.u64 (q)), (AV.int IntKind.i64 (nd)), (AV.osl (nl) (0) (0) (n) (n) (1) (true)), (AV.int IntKind.u64 (w)), (AV.int IntKind.i64 (i)), (AV.bool (b)), (AV.int IntKind.i64 (i))] [some (AObj.tarr [Sh.int IntKind.i64] (n) f false)])))) := by
  rw [s52_is]
  try simp only [eq_self, decide_true, beq_self_eq_true, Nat.beq_refl, ble_self, Int.le_refl, Nat.le_refl]
  cases (decide ((↑j : Int) < (↑n : Int))) with
  | true =>
    cases (Nat.blt (0 + Int.toNat (↑j : Int)) n) with
    | true =>
      cases (b) with
      | true =>
        rfl
      | false =>
        rfl
    | false =>
      rfl
  | false =>
    rfl

noncomputable def s5 (s : Int) (q : Int) (nd : Int) (nl : Bool) (n : Nat) (f : Nat → Nat → AV) (w : Int) (i : Nat) (π : Plan) : Option (Nat × CS) := stepC (EB) (300) (loopC EB 5 0) (0) (h5) ((.normal, h5) :: x5) π (c5 s q nd nl n f w i)
def s5_p : Plan := (.fork (.fork (.must true (.must true (.must true (.must true (.must true (.must true (.reck 2 (.must true (.fork (.reck 1 (.fork (.fork .stop .stop) .stop)) .stop))))))))) .stop) .stop)
theorem s5_is (s : Int) (q : Int) (nd : Int) (nl : Bool) (n : Nat) (f : Nat → Nat → AV) (w : Int) (i : Nat) : s5 s q nd nl n f w i s5_p = (cond (decide ((↑i : Int) < 64))
  (cond (rngV s)
  (cond (decide (n = n)) (cond (decide ((↑i : Int) = (↑i : Int))) (cond (decide (nl = nl)) (cond (decide (n = n)) (cond (decide (n = n)) (cond (decide ((↑n : Int) = (↑n : Int))) (cond (decide (n = n)) (cond (Nat.ble n 1000)
  (cond (rngV w)
  (cond (!hasV w (↑i : Int) == (hasV s (↑i : Int) || anyV f (↑i : Int) n))
  (some (2, (CS.mk [(AV.bool (false))] [])))
  (some (0, (CS.mk [(AV.int IntKind.u64 (s)), (AV.int IntKind.u64 (q)), (AV.int IntKind.i64 (nd)), (AV.osl (nl) (0) (0) (n) (n) (1) (true)), (AV.int IntKind.u64 (w)), (AV.int IntKind.i64 (IntKind.wrap IntKind.i64 ((↑i : Int) + 1)))] [some (AObj.tarr [Sh.int IntKind.i64] (n) f false)]))))
  none)
  none) none) none) none) none) none) none) none)
  none)
  (some (1, (CS.mk [(AV.int IntKind.u64 (s)), (AV.int IntKind.u64 (q)), (AV.int IntKind.i64 (nd))] [])))) := by kernel_rfl
theorem s5_eq (s : Int) (q : Int) (nd : Int) (nl : Bool) (n : Nat) (f : Nat → Nat → AV) (w : Int) (i : Nat) : s5 s q nd nl n f w i s5_p = (cond (decide ((↑i : Int) < 64))
  (cond (rngV s)
  (cond (Nat.ble n 1000)
  (cond (rngV w)
  (cond (hasV w (↑i : Int) == (hasV s (↑i : Int) || anyV f (↑i : Int) n))
  (some (0, (CS.mk [(AV.int IntKind.u64 (s)), (AV.int IntKind.u64 (q)), (AV.int IntKind.i64 (nd)), (AV.osl (nl) (0) (0) (n) (n) (1) (true)), (AV.int IntKind.u64 (w)), (AV.int IntKind.i64 (IntKind.wrap IntKind.i64 ((↑i : Int) + 1)))] [some (AObj.tarr [Sh.int IntKind.i64] (n) f false)])))
  (some (2, (CS.mk [(AV.bool (false))] []))))
  none)
  none)
  none)
  (some (1, (CS.mk [(AV.int IntKind.u64 (s)), (AV.int IntKind.u64 (q)), (AV.int IntKind.i64 (nd))] [])))) := by
  rw [s5_is]
  try simp only [eq_self, decide_true, beq_self_eq_true, Nat.beq_refl, ble_self, Int.le_refl, Nat.le_refl]
  cases (decide ((↑i : Int) < 64)) with
  | true =>
    cases (rngV s) with
    | true =>
      cases (Nat.ble n 1000) with
      | true =>
        cases (rngV w) with
        | true =>
          cases (hasV w (↑i : Int) == (hasV s (↑i : Int) || anyV f (↑i : Int) n)) with
          | true =>
            rfl
          | false =>
            rfl
        | false =>
          rfl
      | false =>
        rfl
    | false =>
      rfl
  | false =>
    rfl

end Go.Proofs.Ytckpljmiodgejaa.quorumTells
